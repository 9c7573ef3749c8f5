import Derived.Test.YtlfednnfkejcjaaProg
import Derived.Test.YtlfednnfkejcjaaDlAmF
set_option linter.unusedVariables false
set_option linter.unusedSimpArgs false
set_option linter.constructorNameAsVariable false
set_option linter.defProp false
set_option maxRecDepth 20000

namespace Go.Proofs.Ytlfednnfkejcjaa
open Go.Am
noncomputable section
theorem An {a b : Prop} (x : a) (y : b) : a ∧ b := ⟨x, y⟩
theorem kR (c : AC) {is : List GIns} {outs : List (Nat × Opd)} (hc : c = .reg is outs) : RRegG c is outs := kReg hc
theorem kS (c : AC) {a b : AC} (hc : c = .seq a b) : RSeq c a b := kSeq hc
theorem kB (c : AC) {a : AC} {id : Nat} (hc : c = .block id a) : RBlk c id a := kBlk hc
theorem kC (c : AC) {a b : AC} {t : Nat} (hc : c = .cond (.tmp t) a b) : RCnd c t a b := kCnd hc
abbrev P : Program := Try.prog
def c102_1 : AC := .reg [⟨none, .pn (l1 (len1 P 43)) [.tmp 0]⟩] [(2, .loc 0)]
def c102_2 : AC := .reg [⟨none, .p1 (conv1 P 3 119) (.tmp 2)⟩, ⟨none, .cl (cf 110) [.loc 0]⟩, ⟨none, .cl (cf 109) [.tmp 0, .cst (AV.int .i64 0), .tmp 2, .loc 0]⟩] []
def fn102 : FnA := ⟨(.seq c102_1 c102_2), [], 11, true⟩
theorem f102A : fnA P (keepF P) 102 = some fn102 := by kernel_rfl
def F102 := An (kR c102_1 rfl) <| (kR c102_2 rfl)
def c107_1 : AC := .reg [] [(2, .cst (AV.bool false))]
def c107_3 : AC := .reg [⟨none, .p2 (bin2 P .neq 27) (.tmp 0) (.tmp 0)⟩] [(2, .loc 0)]
def fn107 : FnA := ⟨(.seq c107_1 (.seq c107_3 .ret)), [.tmp 2], 6, true⟩
theorem f107A : fnA P (keepF P) 107 = some fn107 := by kernel_rfl
def F107 := An (kR c107_1 rfl) <| (kR c107_3 rfl)
def c109_1 : AC := .reg [] [(8, .cst (AV.bool true))]
def c109_3 : AC := .reg [] [(9, .cst (AV.bool true))]
def c109_8 : AC := .reg [⟨none, .p2 (bin2 P .sub 3) (.tmp 2) (.tmp 1)⟩] [(10, .loc 0)]
def c109_11 : AC := .reg [⟨none, .p2 (bin2 P .leq 3) (.tmp 10) (.cst (AV.int .i64 12))⟩] [(23, .loc 0)]
def c109_14 : AC := .reg [⟨none, .cl (cf 113) [.tmp 0, .tmp 1, .tmp 2]⟩] []
def c109_19 : AC := .reg [⟨none, .p2 (bin2 P .eql 3) (.tmp 3) (.cst (AV.int .i64 0))⟩] [(29, .loc 0)]
def c109_22 : AC := .reg [⟨none, .cl (cf 114) [.tmp 0, .tmp 1, .tmp 2]⟩] []
def c109_27 : AC := .reg [⟨none, .p1 (un1 .not) (.tmp 8)⟩] [(35, .loc 0)]
def c109_30 : AC := .reg [⟨none, .cl (cf 115) [.tmp 0, .tmp 1, .tmp 2]⟩] []
def c109_31 : AC := .reg [⟨none, .p2 (bin2 P .sub 3) (.tmp 3) (.cst (AV.int .i64 1))⟩] [(3, .loc 0)]
def c109_34 : AC := .reg [⟨none, .cl (cf 116) [.tmp 0, .tmp 1, .tmp 2]⟩, ⟨none, .p1 (nthTuple 0) (.loc 0)⟩, ⟨none, .p1 (nthTuple 1) (.loc 1)⟩] [(12, .loc 0), (11, .loc 1)]
def c109_37 : AC := .reg [⟨none, .p2 (bin2 P .eql 173) (.tmp 12) (.cst (AV.int .i64 2))⟩] [(50, .loc 0)]
def c109_40 : AC := .reg [⟨none, .cl (cf 117) [.tmp 0, .tmp 1, .tmp 2]⟩] []
def c109_42 : AC := .reg [⟨none, .p2 (bin2 P .sub 3) (.tmp 2) (.cst (AV.int .i64 1))⟩, ⟨none, .p2 (bin2 P .sub 3) (.tmp 11) (.tmp 1)⟩, ⟨none, .p2 (bin2 P .sub 3) (.loc 1) (.loc 0)⟩] [(11, .loc 0)]
def c109_43 : AC := .reg [] [(12, .cst (AV.int .i64 1))]
def c109_36 : AC := .seq c109_37 (.cond (.tmp 50) (.seq c109_40 (.seq c109_42 c109_43)) .skip)
def c109_47 : AC := .reg [⟨some (.tmp 8, true), .mv (.tmp 9)⟩, ⟨none, .pick (.tmp 8) (.loc 0) (.cst (AV.bool false))⟩, ⟨some (.loc 0, true), .mv (.tmp 12)⟩, ⟨some (.loc 1, true), .p2 (bin2 P .eql 173) (.loc 0) (.cst (AV.int .i64 1))⟩, ⟨none, .pick (.loc 2) (.loc 0) (.cst (AV.bool false))⟩] [(68, .loc 0)]
def c109_50 : AC := .reg [⟨none, .cl (cf 118) [.tmp 0, .tmp 1, .tmp 2]⟩] [(72, .loc 0)]
def c109_48 : AC := .cond (.tmp 68) (.seq c109_50 (.cond (.tmp 72) .ret .skip)) .skip
def c109_57g : List (Nat × GIns) := [(0, ⟨none, .mv (.tmp 1)⟩), (1, ⟨none, .p2 (bin2 P .gtr 3) (.opi 0) (.cst (AV.int .i64 0))⟩), (2, ⟨none, .mv (.opi 1)⟩), (3, ⟨some (.opi 2, true), .mv (.tmp 0)⟩), (4, ⟨some (.opi 2, true), .mv (.tmp 1)⟩), (5, ⟨some (.opi 2, true), .p2 (bin2 P .sub 3) (.opi 4) (.cst (AV.int .i64 1))⟩), (6, ⟨some (.opi 2, true), .p2 (indexAddr2 P 43) (.opi 3) (.opi 5)⟩), (7, ⟨some (.opi 2, true), .ld1 (.opi 6)⟩), (8, ⟨some (.opi 2, true), .mv (.tmp 0)⟩), (9, ⟨some (.opi 2, true), .mv (.tmp 11)⟩), (10, ⟨some (.opi 2, true), .p2 (indexAddr2 P 43) (.opi 8) (.opi 9)⟩), (11, ⟨some (.opi 2, true), .ld1 (.opi 10)⟩), (12, ⟨some (.opi 2, true), .cl (cf 119) [.opi 7, .opi 11]⟩), (13, ⟨some (.opi 2, true), .p1 (un1 .not) (.opi 12)⟩), (14, ⟨none, .pick (.opi 2) (.opi 13) (.cst (AV.bool false))⟩)]
def c109_57 : AC := .draw 15 (stagesOf #[0, 1, 3, 7, 7, 23, 63, 127, 7, 7, 775, 1799, 4095, 8191, 16383] c109_57g [12] 0 (c109_57g.filter fun x => x.2.i.eff)) [(87, 14)]
theorem r109_57 : RReg c109_57 fun call tm h => let g := Heap.mk h.bs (h.next + 15); B (tm.gt 1) (fun v0 => B (bin2 P .gtr 3 v0 (AV.int .i64 0)) (fun v1 => B (Wt? true v1 (tm.gt 0)) (fun v3 => B (Wt? true v1 (tm.gt 1)) (fun v4 => B (Wt? true v1 (bin2 P .sub 3 v4 (AV.int .i64 1))) (fun v5 => B (Wt? true v1 (indexAddr2 P 43 v3 v5)) (fun v6 => B (Wt? true v1 (load1 g v6)) (fun v7 => B (Wt? true v1 (tm.gt 0)) (fun v8 => B (Wt? true v1 (tm.gt 11)) (fun v9 => B (Wt? true v1 (indexAddr2 P 43 v8 v9)) (fun v10 => B (Wt? true v1 (load1 g v10)) (fun v11 => B (match wanted true v1 with | true => (call (.fn 119) [v7, v11] g) | false => some (undefA, g)) (fun r12 => B (Wt? true v1 (un1 .not r12.1)) (fun v13 => B (eBool (fun t => match t with | true => some v13 | false => some (AV.bool false)) v1) (fun v14 => some ((tm.up (some v14) 87), r12.2)) tg) tg) tg) tg) tg) tg) tg) tg) tg) tg) tg) tg) tg) tg := kDrw rfl (by kernel_rfl)
def c109_60 : AC := .reg [⟨none, .cl (cf 120) [.tmp 0, .tmp 1, .tmp 2, .tmp 11]⟩] [(13, .loc 0)]
def c109_62 : AC := .reg [] [(1, .tmp 13)]
def c109_58 : AC := .cond (.tmp 87) (.seq c109_60 (.seq c109_62 (.exit 1))) .skip
def c109_66 : AC := .reg [⟨none, .cl (cf 121) [.tmp 0, .tmp 1, .tmp 2, .tmp 11]⟩, ⟨none, .p1 (nthTuple 0) (.loc 0)⟩, ⟨none, .p1 (nthTuple 1) (.loc 1)⟩] [(15, .loc 0), (14, .loc 1)]
def c109_68 : AC := .reg [] [(9, .tmp 15)]
def c109_70 : AC := .reg [⟨none, .p2 (bin2 P .sub 3) (.tmp 14) (.tmp 1)⟩, ⟨none, .p2 (bin2 P .sub 3) (.tmp 2) (.tmp 14)⟩] [(17, .loc 0), (16, .loc 1)]
def c109_72 : AC := .reg [⟨none, .p2 (bin2 P .quo 3) (.tmp 10) (.cst (AV.int .i64 8))⟩] [(18, .loc 0)]
def c109_74 : AC := .reg [⟨none, .p2 (bin2 P .lss 3) (.tmp 16) (.tmp 17)⟩] [(113, .loc 0)]
def c109_77 : AC := .reg [⟨none, .p2 (bin2 P .geq 3) (.tmp 16) (.tmp 18)⟩] [(8, .loc 0)]
def c109_79 : AC := .reg [⟨none, .cl (cf 109) [.tmp 0, .tmp 1, .tmp 14, .tmp 3]⟩] []
def c109_80 : AC := .reg [⟨none, .p2 (bin2 P .add 3) (.tmp 14) (.cst (AV.int .i64 1))⟩] [(1, .loc 0)]
def c109_82 : AC := .reg [⟨none, .p2 (bin2 P .geq 3) (.tmp 17) (.tmp 18)⟩] [(8, .loc 0)]
def c109_84 : AC := .reg [⟨none, .p2 (bin2 P .add 3) (.tmp 14) (.cst (AV.int .i64 1))⟩, ⟨none, .cl (cf 109) [.tmp 0, .loc 0, .tmp 2, .tmp 3]⟩] []
def c109_85 : AC := .reg [] [(2, .tmp 14)]
def c109_75 : AC := .cond (.tmp 113) (.seq c109_77 (.seq c109_79 c109_80)) (.seq c109_82 (.seq c109_84 c109_85))
def c109_67 : AC := .seq c109_68 (.seq c109_70 (.seq c109_72 (.seq c109_74 c109_75)))
def c109_65 : AC := .seq c109_66 c109_67
def c109_55 : AC := .seq (.seq c109_57 c109_58) c109_65
def c109_45 : AC := .seq (.seq c109_47 c109_48) c109_55
def c109_33 : AC := .seq c109_34 (.seq c109_36 c109_45)
def c109_25 : AC := .seq (.seq c109_27 (.cond (.tmp 35) (.seq c109_30 c109_31) .skip)) c109_33
def c109_17 : AC := .seq (.seq c109_19 (.cond (.tmp 29) (.seq c109_22 .ret) .skip)) c109_25
def c109_9 : AC := .seq (.seq c109_11 (.cond (.tmp 23) (.seq c109_14 .ret) .skip)) c109_17
def c109_6 : AC := .block 1 (.seq c109_8 c109_9)
def c109_5 : AC := .loop c109_6
theorem r109_65 : type_of% (kS c109_65 rfl) := (kS c109_65 rfl)
theorem r109_55 : type_of% (kS c109_55 rfl) := (kS c109_55 rfl)
theorem r109_45 : type_of% (kS c109_45 rfl) := (kS c109_45 rfl)
theorem r109_33 : type_of% (kS c109_33 rfl) := (kS c109_33 rfl)
def fn109 : FnA := ⟨(.seq c109_1 (.seq c109_3 (.block 0 c109_5))), [], 134, true⟩
theorem f109A : fnA P (keepF P) 109 = some fn109 := by kernel_rfl
def F109 := An (kR c109_1 rfl) <| An (kR c109_3 rfl) <| An (kR c109_8 rfl) <| An (kR c109_11 rfl) <| An (kR c109_14 rfl) <| An (kR c109_19 rfl) <| An (kR c109_22 rfl) <| An (kR c109_27 rfl) <| An (kR c109_30 rfl) <| An (kR c109_31 rfl) <| An (kR c109_34 rfl) <| An (kR c109_37 rfl) <| An (kR c109_40 rfl) <| An (kR c109_42 rfl) <| An (kR c109_43 rfl) <| An (kS c109_36 rfl) <| An (kR c109_47 rfl) <| An (kR c109_50 rfl) <| An (kC c109_48 rfl) <| An r109_57 <| An (kR c109_60 rfl) <| An (kR c109_62 rfl) <| An (kC c109_58 rfl) <| An (kR c109_66 rfl) <| An (kR c109_68 rfl) <| An (kR c109_70 rfl) <| An (kR c109_72 rfl) <| An (kR c109_74 rfl) <| An (kR c109_77 rfl) <| An (kR c109_79 rfl) <| An (kR c109_80 rfl) <| An (kR c109_82 rfl) <| An (kR c109_84 rfl) <| An (kR c109_85 rfl) <| An (kC c109_75 rfl) <| An (kS c109_67 rfl) <| An (kS c109_25 rfl) <| An (kS c109_17 rfl) <| An (kS c109_9 rfl) <| (kB c109_6 rfl)
def c110_1 : AC := .reg [] [(2, .cst (AV.int .i64 0))]
def c110_5 : AC := .reg [⟨none, .p1 (conv1 P 119 27) (.tmp 0)⟩, ⟨none, .cl (cf 122) [.loc 0]⟩] [(2, .loc 0)]
def c110_4 : AC := .seq c110_5 .ret
def c110_7 : AC := .skip
theorem r110_7 : RRet c110_7 .normal := rSkip
def c110_9 : AC := .reg [⟨none, .cl (cf 123) [.tmp 0]⟩] [(2, .loc 0)]
def c110_2 : AC := .seq (.cond (.cst (AV.bool false)) c110_4 c110_7) (.seq c110_9 .ret)
def fn110 : FnA := ⟨(.seq c110_1 c110_2), [.tmp 2], 8, true⟩
theorem f110A : fnA P (keepF P) 110 = some fn110 := by kernel_rfl
def F110 := An (kR c110_1 rfl) <| An (kR c110_5 rfl) <| An (kS c110_4 rfl) <| An r110_7 <| An (kR c110_9 rfl) <| (kS c110_2 rfl)
def c113_1 : AC := .reg [⟨none, .p2 (bin2 P .add 3) (.tmp 1) (.cst (AV.int .i64 1))⟩] [(6, .loc 0)]
def c113_6 : AC := .reg [⟨none, .p2 (bin2 P .lss 3) (.tmp 6) (.tmp 2)⟩] [(12, .loc 0)]
def c113_13 : AC := .reg [] [(7, .tmp 6)]
def c113_18g : List (Nat × GIns) := [(0, ⟨none, .mv (.tmp 7)⟩), (1, ⟨none, .mv (.tmp 1)⟩), (2, ⟨none, .p2 (bin2 P .gtr 3) (.opi 0) (.opi 1)⟩), (3, ⟨none, .mv (.opi 2)⟩), (4, ⟨some (.opi 3, true), .mv (.tmp 0)⟩), (5, ⟨some (.opi 3, true), .mv (.tmp 7)⟩), (6, ⟨some (.opi 3, true), .p2 (indexAddr2 P 43) (.opi 4) (.opi 5)⟩), (7, ⟨some (.opi 3, true), .ld1 (.opi 6)⟩), (8, ⟨some (.opi 3, true), .mv (.tmp 0)⟩), (9, ⟨some (.opi 3, true), .mv (.tmp 7)⟩), (10, ⟨some (.opi 3, true), .p2 (bin2 P .sub 3) (.opi 9) (.cst (AV.int .i64 1))⟩), (11, ⟨some (.opi 3, true), .p2 (indexAddr2 P 43) (.opi 8) (.opi 10)⟩), (12, ⟨some (.opi 3, true), .ld1 (.opi 11)⟩), (13, ⟨some (.opi 3, true), .cl (cf 119) [.opi 7, .opi 12]⟩), (14, ⟨none, .pick (.opi 3) (.opi 13) (.cst (AV.bool false))⟩)]
def c113_18 : AC := .draw 15 (stagesOf #[0, 0, 3, 7, 15, 15, 63, 127, 15, 15, 527, 1807, 3855, 8191, 16383] c113_18g [13] 0 (c113_18g.filter fun x => x.2.i.eff)) [(30, 14)]
theorem r113_18 : RReg c113_18 fun call tm h => let g := Heap.mk h.bs (h.next + 15); B (tm.gt 7) (fun v0 => B (tm.gt 1) (fun v1 => B (bin2 P .gtr 3 v0 v1) (fun v2 => B (Wt? true v2 (tm.gt 0)) (fun v4 => B (Wt? true v2 (tm.gt 7)) (fun v5 => B (Wt? true v2 (indexAddr2 P 43 v4 v5)) (fun v6 => B (Wt? true v2 (load1 g v6)) (fun v7 => B (Wt? true v2 (tm.gt 0)) (fun v8 => B (Wt? true v2 (tm.gt 7)) (fun v9 => B (Wt? true v2 (bin2 P .sub 3 v9 (AV.int .i64 1))) (fun v10 => B (Wt? true v2 (indexAddr2 P 43 v8 v10)) (fun v11 => B (Wt? true v2 (load1 g v11)) (fun v12 => B (match wanted true v2 with | true => (call (.fn 119) [v7, v12] g) | false => some (undefA, g)) (fun r13 => B (eBool (fun t => match t with | true => some r13.1 | false => some (AV.bool false)) v2) (fun v14 => some ((tm.up (some v14) 30), r13.2)) tg) tg) tg) tg) tg) tg) tg) tg) tg) tg) tg) tg) tg) tg := kDrw rfl (by kernel_rfl)
def c113_24g : List (Nat × GIns) := [(0, ⟨none, .mv (.tmp 0)⟩), (1, ⟨none, .mv (.tmp 7)⟩), (2, ⟨none, .mv (.tmp 0)⟩), (3, ⟨none, .mv (.tmp 7)⟩), (4, ⟨none, .p2 (bin2 P .sub 3) (.opi 3) (.cst (AV.int .i64 1))⟩), (5, ⟨none, .mv (.tmp 0)⟩), (6, ⟨none, .mv (.tmp 7)⟩), (7, ⟨none, .p2 (bin2 P .sub 3) (.opi 6) (.cst (AV.int .i64 1))⟩), (8, ⟨none, .p2 (indexAddr2 P 43) (.opi 5) (.opi 7)⟩), (9, ⟨none, .ld1 (.opi 8)⟩), (10, ⟨none, .mv (.tmp 0)⟩), (11, ⟨none, .mv (.tmp 7)⟩), (12, ⟨none, .p2 (indexAddr2 P 43) (.opi 10) (.opi 11)⟩), (13, ⟨none, .ld1 (.opi 12)⟩), (14, ⟨none, .p2 (indexAddr2 P 43) (.opi 0) (.opi 1)⟩), (15, ⟨none, .st1 (.opi 14) (.opi 9)⟩), (16, ⟨none, .p2 (indexAddr2 P 43) (.opi 2) (.opi 4)⟩), (17, ⟨none, .st1 (.opi 16) (.opi 13)⟩)]
def c113_24 : AC := .draw 18 (stagesOf #[0, 0, 0, 0, 8, 0, 0, 64, 224, 480, 0, 0, 3072, 7168, 16355, 32739, 65535, 131071] c113_24g [15, 17] 0 (c113_24g.filter fun x => x.2.i.eff)) []
theorem r113_24 : RReg c113_24 fun call tm h => let g := Heap.mk h.bs (h.next + 18); B (tm.gt 0) (fun v0 => B (tm.gt 7) (fun v1 => B (tm.gt 0) (fun v2 => B (tm.gt 7) (fun v3 => B (bin2 P .sub 3 v3 (AV.int .i64 1)) (fun v4 => B (tm.gt 0) (fun v5 => B (tm.gt 7) (fun v6 => B (bin2 P .sub 3 v6 (AV.int .i64 1)) (fun v7 => B (indexAddr2 P 43 v5 v7) (fun v8 => B (load1 g v8) (fun v9 => B (tm.gt 0) (fun v10 => B (tm.gt 7) (fun v11 => B (indexAddr2 P 43 v10 v11) (fun v12 => B (load1 g v12) (fun v13 => B (indexAddr2 P 43 v0 v1) (fun v14 => B (store1 g v14 v9) (fun r15 => B (indexAddr2 P 43 v2 v4) (fun v16 => B (store1 r15.2 v16 v13) (fun r17 => some (tm, r17.2)) tg) tg) tg) tg) tg) tg) tg) tg) tg) tg) tg) tg) tg) tg) tg) tg) tg) tg := kDrw rfl (by kernel_rfl)
def c113_25 : AC := .reg [⟨none, .p2 (bin2 P .sub 3) (.tmp 7) (.cst (AV.int .i64 1))⟩] [(7, .loc 0)]
def c113_16 : AC := .seq (.seq c113_18 (.cond (.tmp 30) .skip (.exit 2))) (.seq (.block 3 c113_24) c113_25)
def c113_15 : AC := .loop c113_16
def c113_26 : AC := .reg [⟨none, .p2 (bin2 P .add 3) (.tmp 6) (.cst (AV.int .i64 1))⟩] [(6, .loc 0)]
def c113_4 : AC := .seq (.seq c113_6 (.cond (.tmp 12) .skip (.exit 0))) (.seq (.block 1 (.seq c113_13 (.block 2 c113_15))) c113_26)
def c113_3 : AC := .loop c113_4
def fn113 : FnA := ⟨(.seq c113_1 (.block 0 c113_3)), [], 49, true⟩
theorem f113A : fnA P (keepF P) 113 = some fn113 := by kernel_rfl
def F113 := An (kR c113_1 rfl) <| An (kR c113_6 rfl) <| An (kR c113_13 rfl) <| An r113_18 <| An r113_24 <| An (kR c113_25 rfl) <| An (kS c113_16 rfl) <| An (kR c113_26 rfl) <| (kS c113_4 rfl)
def c114_1 : AC := .reg [] [(6, .tmp 1)]
def c114_3 : AC := .reg [] [(7, .cst (AV.int .i64 0))]
def c114_5 : AC := .reg [⟨none, .p2 (bin2 P .sub 3) (.tmp 2) (.tmp 1)⟩] [(8, .loc 0)]
def c114_8 : AC := .reg [⟨none, .p2 (bin2 P .sub 3) (.tmp 8) (.cst (AV.int .i64 1))⟩, ⟨none, .p2 (bin2 P .quo 3) (.loc 0) (.cst (AV.int .i64 2))⟩] [(9, .loc 0)]
def c114_13 : AC := .reg [⟨none, .p2 (bin2 P .geq 3) (.tmp 9) (.cst (AV.int .i64 0))⟩] [(19, .loc 0)]
def c114_19 : AC := .reg [⟨none, .cl (cf 125) [.tmp 0, .tmp 9, .tmp 8, .tmp 6]⟩] []
def c114_20 : AC := .reg [⟨none, .p2 (bin2 P .sub 3) (.tmp 9) (.cst (AV.int .i64 1))⟩] [(9, .loc 0)]
def c114_11 : AC := .seq (.seq c114_13 (.cond (.tmp 19) .skip (.exit 0))) (.seq (.block 1 c114_19) c114_20)
def c114_10 : AC := .loop c114_11
def c114_22 : AC := .reg [⟨none, .p2 (bin2 P .sub 3) (.tmp 8) (.cst (AV.int .i64 1))⟩] [(10, .loc 0)]
def c114_27 : AC := .reg [⟨none, .p2 (bin2 P .geq 3) (.tmp 10) (.cst (AV.int .i64 0))⟩] [(30, .loc 0)]
def c114_34g : List (Nat × GIns) := [(0, ⟨none, .mv (.tmp 0)⟩), (1, ⟨none, .mv (.tmp 6)⟩), (2, ⟨none, .mv (.tmp 0)⟩), (3, ⟨none, .mv (.tmp 6)⟩), (4, ⟨none, .mv (.tmp 10)⟩), (5, ⟨none, .p2 (bin2 P .add 3) (.opi 3) (.opi 4)⟩), (6, ⟨none, .mv (.tmp 0)⟩), (7, ⟨none, .mv (.tmp 6)⟩), (8, ⟨none, .mv (.tmp 10)⟩), (9, ⟨none, .p2 (bin2 P .add 3) (.opi 7) (.opi 8)⟩), (10, ⟨none, .p2 (indexAddr2 P 43) (.opi 6) (.opi 9)⟩), (11, ⟨none, .ld1 (.opi 10)⟩), (12, ⟨none, .mv (.tmp 0)⟩), (13, ⟨none, .mv (.tmp 6)⟩), (14, ⟨none, .p2 (indexAddr2 P 43) (.opi 12) (.opi 13)⟩), (15, ⟨none, .ld1 (.opi 14)⟩), (16, ⟨none, .p2 (indexAddr2 P 43) (.opi 0) (.opi 1)⟩), (17, ⟨none, .st1 (.opi 16) (.opi 11)⟩), (18, ⟨none, .p2 (indexAddr2 P 43) (.opi 2) (.opi 5)⟩), (19, ⟨none, .st1 (.opi 18) (.opi 15)⟩)]
def c114_34 : AC := .draw 20 (stagesOf #[0, 0, 0, 0, 0, 24, 0, 0, 0, 384, 960, 1984, 0, 0, 12288, 28672, 65475, 131011, 262143, 524287] c114_34g [17, 19] 0 (c114_34g.filter fun x => x.2.i.eff)) []
theorem r114_34 : RReg c114_34 fun call tm h => let g := Heap.mk h.bs (h.next + 20); B (tm.gt 0) (fun v0 => B (tm.gt 6) (fun v1 => B (tm.gt 0) (fun v2 => B (tm.gt 6) (fun v3 => B (tm.gt 10) (fun v4 => B (bin2 P .add 3 v3 v4) (fun v5 => B (tm.gt 0) (fun v6 => B (tm.gt 6) (fun v7 => B (tm.gt 10) (fun v8 => B (bin2 P .add 3 v7 v8) (fun v9 => B (indexAddr2 P 43 v6 v9) (fun v10 => B (load1 g v10) (fun v11 => B (tm.gt 0) (fun v12 => B (tm.gt 6) (fun v13 => B (indexAddr2 P 43 v12 v13) (fun v14 => B (load1 g v14) (fun v15 => B (indexAddr2 P 43 v0 v1) (fun v16 => B (store1 g v16 v11) (fun r17 => B (indexAddr2 P 43 v2 v5) (fun v18 => B (store1 r17.2 v18 v15) (fun r19 => some (tm, r19.2)) tg) tg) tg) tg) tg) tg) tg) tg) tg) tg) tg) tg) tg) tg) tg) tg) tg) tg) tg) tg := kDrw rfl (by kernel_rfl)
def c114_35 : AC := .reg [⟨none, .cl (cf 125) [.tmp 0, .tmp 7, .tmp 10, .tmp 6]⟩] []
def c114_36 : AC := .reg [⟨none, .p2 (bin2 P .sub 3) (.tmp 10) (.cst (AV.int .i64 1))⟩] [(10, .loc 0)]
def c114_25 : AC := .seq (.seq c114_27 (.cond (.tmp 30) .skip (.exit 2))) (.seq (.block 3 (.seq c114_34 c114_35)) c114_36)
def c114_24 : AC := .loop c114_25
def c114_6 : AC := .seq (.seq c114_8 (.block 0 c114_10)) (.seq c114_22 (.block 2 c114_24))
def fn114 : FnA := ⟨(.seq c114_1 (.seq c114_3 (.seq c114_5 c114_6))), [], 56, true⟩
theorem f114A : fnA P (keepF P) 114 = some fn114 := by kernel_rfl
def F114 := An (kR c114_1 rfl) <| An (kR c114_3 rfl) <| An (kR c114_5 rfl) <| An (kR c114_8 rfl) <| An (kR c114_13 rfl) <| An (kR c114_19 rfl) <| An (kR c114_20 rfl) <| An (kS c114_11 rfl) <| An (kR c114_22 rfl) <| An (kR c114_27 rfl) <| An r114_34 <| An (kR c114_35 rfl) <| An (kR c114_36 rfl) <| An (kS c114_25 rfl) <| (kS c114_6 rfl)
def c115_1 : AC := .reg [⟨none, .p2 (bin2 P .sub 3) (.tmp 2) (.tmp 1)⟩] [(6, .loc 0)]
def c115_3 : AC := .reg [⟨none, .p2 (bin2 P .geq 3) (.tmp 6) (.cst (AV.int .i64 8))⟩] [(15, .loc 0)]
def c115_6 : AC := .reg [⟨none, .p1 (conv1 P 3 182) (.tmp 6)⟩, ⟨none, .al (fun (_ : List AV) => allocN P 182) []⟩, ⟨none, .st1 (.loc 0) (.loc 1)⟩] [(7, .loc 1)]
def c115_8 : AC := .reg [⟨none, .cl (cf 126) [.tmp 6]⟩] [(8, .loc 0)]
def c115_10 : AC := .reg [⟨none, .p2 (bin2 P .quo 3) (.tmp 6) (.cst (AV.int .i64 4))⟩, ⟨none, .p2 (bin2 P .mul 3) (.loc 0) (.cst (AV.int .i64 2))⟩, ⟨none, .p2 (bin2 P .add 3) (.tmp 1) (.loc 0)⟩, ⟨none, .p2 (bin2 P .sub 3) (.loc 0) (.cst (AV.int .i64 1))⟩] [(9, .loc 0)]
def c115_15 : AC := .reg [⟨none, .p2 (bin2 P .quo 3) (.tmp 6) (.cst (AV.int .i64 4))⟩, ⟨none, .p2 (bin2 P .mul 3) (.loc 0) (.cst (AV.int .i64 2))⟩, ⟨none, .p2 (bin2 P .add 3) (.tmp 1) (.loc 0)⟩, ⟨none, .p2 (bin2 P .add 3) (.loc 0) (.cst (AV.int .i64 1))⟩, ⟨none, .p2 (bin2 P .leq 3) (.tmp 9) (.loc 0)⟩] [(33, .loc 0)]
def c115_22 : AC := .reg [⟨none, .cl (cf 127) [.tmp 7]⟩, ⟨none, .p2 (bin2 P .sub 119) (.tmp 8) (.cst (AV.int .u64 1))⟩, ⟨none, .p2 (bin2 P .and 119) (.loc 1) (.loc 0)⟩, ⟨none, .p1 (conv1 P 119 3) (.loc 0)⟩] [(10, .loc 0)]
def c115_25 : AC := .reg [⟨none, .p2 (bin2 P .geq 3) (.tmp 10) (.tmp 6)⟩] [(43, .loc 0)]
def c115_27 : AC := .reg [⟨none, .p2 (bin2 P .sub 3) (.tmp 10) (.tmp 6)⟩] [(10, .loc 0)]
def c115_29g : List (Nat × GIns) := [(0, ⟨none, .mv (.tmp 0)⟩), (1, ⟨none, .mv (.tmp 9)⟩), (2, ⟨none, .mv (.tmp 0)⟩), (3, ⟨none, .mv (.tmp 1)⟩), (4, ⟨none, .mv (.tmp 10)⟩), (5, ⟨none, .p2 (bin2 P .add 3) (.opi 3) (.opi 4)⟩), (6, ⟨none, .mv (.tmp 0)⟩), (7, ⟨none, .mv (.tmp 1)⟩), (8, ⟨none, .mv (.tmp 10)⟩), (9, ⟨none, .p2 (bin2 P .add 3) (.opi 7) (.opi 8)⟩), (10, ⟨none, .p2 (indexAddr2 P 43) (.opi 6) (.opi 9)⟩), (11, ⟨none, .ld1 (.opi 10)⟩), (12, ⟨none, .mv (.tmp 0)⟩), (13, ⟨none, .mv (.tmp 9)⟩), (14, ⟨none, .p2 (indexAddr2 P 43) (.opi 12) (.opi 13)⟩), (15, ⟨none, .ld1 (.opi 14)⟩), (16, ⟨none, .p2 (indexAddr2 P 43) (.opi 0) (.opi 1)⟩), (17, ⟨none, .st1 (.opi 16) (.opi 11)⟩), (18, ⟨none, .p2 (indexAddr2 P 43) (.opi 2) (.opi 5)⟩), (19, ⟨none, .st1 (.opi 18) (.opi 15)⟩)]
def c115_29 : AC := .draw 20 (stagesOf #[0, 0, 0, 0, 0, 24, 0, 0, 0, 384, 960, 1984, 0, 0, 12288, 28672, 65475, 131011, 262143, 524287] c115_29g [17, 19] 0 (c115_29g.filter fun x => x.2.i.eff)) []
theorem r115_29 : RReg c115_29 fun call tm h => let g := Heap.mk h.bs (h.next + 20); B (tm.gt 0) (fun v0 => B (tm.gt 9) (fun v1 => B (tm.gt 0) (fun v2 => B (tm.gt 1) (fun v3 => B (tm.gt 10) (fun v4 => B (bin2 P .add 3 v3 v4) (fun v5 => B (tm.gt 0) (fun v6 => B (tm.gt 1) (fun v7 => B (tm.gt 10) (fun v8 => B (bin2 P .add 3 v7 v8) (fun v9 => B (indexAddr2 P 43 v6 v9) (fun v10 => B (load1 g v10) (fun v11 => B (tm.gt 0) (fun v12 => B (tm.gt 9) (fun v13 => B (indexAddr2 P 43 v12 v13) (fun v14 => B (load1 g v14) (fun v15 => B (indexAddr2 P 43 v0 v1) (fun v16 => B (store1 g v16 v11) (fun r17 => B (indexAddr2 P 43 v2 v5) (fun v18 => B (store1 r17.2 v18 v15) (fun r19 => some (tm, r19.2)) tg) tg) tg) tg) tg) tg) tg) tg) tg) tg) tg) tg) tg) tg) tg) tg) tg) tg) tg) tg := kDrw rfl (by kernel_rfl)
def c115_21 : AC := .seq c115_22 (.seq (.seq c115_25 (.cond (.tmp 43) c115_27 .skip)) c115_29)
def c115_30 : AC := .reg [⟨none, .p2 (bin2 P .add 3) (.tmp 9) (.cst (AV.int .i64 1))⟩] [(9, .loc 0)]
def c115_13 : AC := .seq (.seq c115_15 (.cond (.tmp 33) .skip (.exit 0))) (.seq (.block 1 c115_21) c115_30)
def c115_12 : AC := .loop c115_13
def c115_4 : AC := .cond (.tmp 15) (.seq c115_6 (.seq c115_8 (.seq c115_10 (.block 0 c115_12)))) .skip
def fn115 : FnA := ⟨(.seq c115_1 (.seq c115_3 c115_4)), [], 65, true⟩
theorem f115A : fnA P (keepF P) 115 = some fn115 := by kernel_rfl
def F115 := An (kR c115_1 rfl) <| An (kR c115_3 rfl) <| An (kR c115_6 rfl) <| An (kR c115_8 rfl) <| An (kR c115_10 rfl) <| An (kR c115_15 rfl) <| An (kR c115_22 rfl) <| An (kR c115_25 rfl) <| An (kR c115_27 rfl) <| An (kS c115_21 rfl) <| An (kR c115_30 rfl) <| An (kS c115_13 rfl) <| (kC c115_4 rfl)
def c116_1 : AC := .reg [] [(7, .cst (AV.int .i64 0)), (6, .cst (AV.int .i64 0))]
def c116_3 : AC := .reg [⟨none, .p2 (bin2 P .sub 3) (.tmp 2) (.tmp 1)⟩] [(8, .loc 0)]
def c116_5 : AC := .reg [⟨none, .al (fun (_ : List AV) => allocN P 3) []⟩] [(9, .loc 0)]
def c116_7 : AC := .reg [⟨none, .p2 (bin2 P .quo 3) (.tmp 8) (.cst (AV.int .i64 4))⟩, ⟨none, .p2 (bin2 P .mul 3) (.loc 0) (.cst (AV.int .i64 1))⟩, ⟨none, .p2 (bin2 P .add 3) (.tmp 1) (.loc 0)⟩] [(10, .loc 0)]
def c116_9 : AC := .reg [⟨none, .p2 (bin2 P .quo 3) (.tmp 8) (.cst (AV.int .i64 4))⟩, ⟨none, .p2 (bin2 P .mul 3) (.loc 0) (.cst (AV.int .i64 2))⟩, ⟨none, .p2 (bin2 P .add 3) (.tmp 1) (.loc 0)⟩] [(11, .loc 0)]
def c116_11 : AC := .reg [⟨none, .p2 (bin2 P .quo 3) (.tmp 8) (.cst (AV.int .i64 4))⟩, ⟨none, .p2 (bin2 P .mul 3) (.loc 0) (.cst (AV.int .i64 3))⟩, ⟨none, .p2 (bin2 P .add 3) (.tmp 1) (.loc 0)⟩] [(12, .loc 0)]
def c116_14 : AC := .reg [⟨none, .p2 (bin2 P .geq 3) (.tmp 8) (.cst (AV.int .i64 8))⟩] [(32, .loc 0)]
def c116_18 : AC := .reg [⟨none, .p2 (bin2 P .geq 3) (.tmp 8) (.cst (AV.int .i64 50))⟩] [(34, .loc 0)]
def c116_21 : AC := .reg [⟨none, .cl (cf 128) [.tmp 0, .tmp 10, .tmp 9]⟩] [(10, .loc 0)]
def c116_23 : AC := .reg [⟨none, .cl (cf 128) [.tmp 0, .tmp 11, .tmp 9]⟩] [(11, .loc 0)]
def c116_24 : AC := .reg [⟨none, .cl (cf 128) [.tmp 0, .tmp 12, .tmp 9]⟩] [(12, .loc 0)]
def c116_17 : AC := .seq c116_18 (.cond (.tmp 34) (.seq c116_21 (.seq c116_23 c116_24)) .skip)
def c116_26 : AC := .reg [⟨none, .cl (cf 129) [.tmp 0, .tmp 10, .tmp 11, .tmp 12, .tmp 9]⟩] [(11, .loc 0)]
def c116_29 : AC := .reg [⟨none, .ld1 (.tmp 9)⟩] [(49, .loc 0)]
def c116_32 : AC := .reg [⟨none, .p2 (bin2 P .eql 3) (.tmp 49) (.cst (AV.int .i64 0))⟩] [(51, .loc 0)]
def c116_35 : AC := .reg [] [(7, .cst (AV.int .i64 1)), (6, .tmp 11)]
def c116_38 : AC := .reg [⟨none, .p2 (bin2 P .eql 3) (.tmp 49) (.cst (AV.int .i64 12))⟩] [(54, .loc 0)]
def c116_41 : AC := .reg [] [(7, .cst (AV.int .i64 2)), (6, .tmp 11)]
def c116_44 : AC := .reg [] [(7, .cst (AV.int .i64 0)), (6, .tmp 11)]
def c116_37 : AC := .seq c116_38 (.cond (.tmp 54) (.seq c116_41 .ret) (.seq c116_44 .ret))
def c116_30 : AC := .block 0 (.seq c116_32 (.cond (.tmp 51) (.seq c116_35 .ret) c116_37))
def c116_28 : AC := .seq c116_29 c116_30
def c116_12 : AC := .seq (.seq c116_14 (.cond (.tmp 32) (.seq c116_17 c116_26) .skip)) c116_28
def c116_4 : AC := .seq c116_5 (.seq c116_7 (.seq c116_9 (.seq c116_11 c116_12)))
theorem r116_28 : type_of% (kS c116_28 rfl) := (kS c116_28 rfl)
def fn116 : FnA := ⟨(.seq c116_1 (.seq c116_3 c116_4)), [.tmp 6, .tmp 7], 57, true⟩
theorem f116A : fnA P (keepF P) 116 = some fn116 := by kernel_rfl
def F116 := An (kR c116_1 rfl) <| An (kR c116_3 rfl) <| An (kR c116_5 rfl) <| An (kR c116_7 rfl) <| An (kR c116_9 rfl) <| An (kR c116_11 rfl) <| An (kR c116_14 rfl) <| An (kR c116_18 rfl) <| An (kR c116_21 rfl) <| An (kR c116_23 rfl) <| An (kR c116_24 rfl) <| An (kS c116_17 rfl) <| An (kR c116_26 rfl) <| An (kR c116_29 rfl) <| An (kR c116_32 rfl) <| An (kR c116_35 rfl) <| An (kR c116_38 rfl) <| An (kR c116_41 rfl) <| An (kR c116_44 rfl) <| An (kS c116_37 rfl) <| An (kB c116_30 rfl) <| An (kS c116_12 rfl) <| (kS c116_4 rfl)
def c117_1 : AC := .reg [] [(6, .tmp 1)]
def c117_3 : AC := .reg [⟨none, .p2 (bin2 P .sub 3) (.tmp 2) (.cst (AV.int .i64 1))⟩] [(7, .loc 0)]
def c117_8 : AC := .reg [⟨none, .p2 (bin2 P .lss 3) (.tmp 6) (.tmp 7)⟩] [(13, .loc 0)]
def c117_14g : List (Nat × GIns) := [(0, ⟨none, .mv (.tmp 0)⟩), (1, ⟨none, .mv (.tmp 6)⟩), (2, ⟨none, .mv (.tmp 0)⟩), (3, ⟨none, .mv (.tmp 7)⟩), (4, ⟨none, .mv (.tmp 0)⟩), (5, ⟨none, .mv (.tmp 7)⟩), (6, ⟨none, .p2 (indexAddr2 P 43) (.opi 4) (.opi 5)⟩), (7, ⟨none, .ld1 (.opi 6)⟩), (8, ⟨none, .mv (.tmp 0)⟩), (9, ⟨none, .mv (.tmp 6)⟩), (10, ⟨none, .p2 (indexAddr2 P 43) (.opi 8) (.opi 9)⟩), (11, ⟨none, .ld1 (.opi 10)⟩), (12, ⟨none, .p2 (indexAddr2 P 43) (.opi 0) (.opi 1)⟩), (13, ⟨none, .st1 (.opi 12) (.opi 7)⟩), (14, ⟨none, .p2 (indexAddr2 P 43) (.opi 2) (.opi 3)⟩), (15, ⟨none, .st1 (.opi 14) (.opi 11)⟩)]
def c117_14 : AC := .draw 16 (stagesOf #[0, 0, 0, 0, 0, 0, 48, 112, 0, 0, 768, 1792, 4083, 8179, 16383, 32767] c117_14g [13, 15] 0 (c117_14g.filter fun x => x.2.i.eff)) []
theorem r117_14 : RReg c117_14 fun call tm h => let g := Heap.mk h.bs (h.next + 16); B (tm.gt 0) (fun v0 => B (tm.gt 6) (fun v1 => B (tm.gt 0) (fun v2 => B (tm.gt 7) (fun v3 => B (tm.gt 0) (fun v4 => B (tm.gt 7) (fun v5 => B (indexAddr2 P 43 v4 v5) (fun v6 => B (load1 g v6) (fun v7 => B (tm.gt 0) (fun v8 => B (tm.gt 6) (fun v9 => B (indexAddr2 P 43 v8 v9) (fun v10 => B (load1 g v10) (fun v11 => B (indexAddr2 P 43 v0 v1) (fun v12 => B (store1 g v12 v7) (fun r13 => B (indexAddr2 P 43 v2 v3) (fun v14 => B (store1 r13.2 v14 v11) (fun r15 => some (tm, r15.2)) tg) tg) tg) tg) tg) tg) tg) tg) tg) tg) tg) tg) tg) tg) tg) tg := kDrw rfl (by kernel_rfl)
def c117_16 : AC := .reg [⟨none, .p2 (bin2 P .add 3) (.tmp 6) (.cst (AV.int .i64 1))⟩] [(6, .loc 0)]
def c117_17 : AC := .reg [⟨none, .p2 (bin2 P .sub 3) (.tmp 7) (.cst (AV.int .i64 1))⟩] [(7, .loc 0)]
def c117_6 : AC := .seq (.seq c117_8 (.cond (.tmp 13) .skip (.exit 0))) (.block 1 (.seq c117_14 (.seq c117_16 c117_17)))
def c117_5 : AC := .loop c117_6
def fn117 : FnA := ⟨(.seq c117_1 (.seq c117_3 (.block 0 c117_5))), [], 32, true⟩
theorem f117A : fnA P (keepF P) 117 = some fn117 := by kernel_rfl
def F117 := An (kR c117_1 rfl) <| An (kR c117_3 rfl) <| An (kR c117_8 rfl) <| An r117_14 <| An (kR c117_16 rfl) <| An (kR c117_17 rfl) <| (kS c117_6 rfl)
def c118_1 : AC := .reg [] [(6, .cst (AV.bool false))]
def c118_3 : AC := .reg [⟨none, .p2 (bin2 P .add 3) (.tmp 1) (.cst (AV.int .i64 1))⟩] [(7, .loc 0)]
def c118_6 : AC := .reg [] [(8, .cst (AV.int .i64 0))]
def c118_11 : AC := .reg [⟨none, .p2 (bin2 P .lss 3) (.tmp 8) (.cst (AV.int .i64 5))⟩] [(14, .loc 0)]
def c118_22g : List (Nat × GIns) := [(0, ⟨none, .mv (.tmp 7)⟩), (1, ⟨none, .mv (.tmp 2)⟩), (2, ⟨none, .p2 (bin2 P .lss 3) (.opi 0) (.opi 1)⟩), (3, ⟨none, .mv (.opi 2)⟩), (4, ⟨some (.opi 3, true), .mv (.tmp 0)⟩), (5, ⟨some (.opi 3, true), .mv (.tmp 7)⟩), (6, ⟨some (.opi 3, true), .p2 (indexAddr2 P 43) (.opi 4) (.opi 5)⟩), (7, ⟨some (.opi 3, true), .ld1 (.opi 6)⟩), (8, ⟨some (.opi 3, true), .mv (.tmp 0)⟩), (9, ⟨some (.opi 3, true), .mv (.tmp 7)⟩), (10, ⟨some (.opi 3, true), .p2 (bin2 P .sub 3) (.opi 9) (.cst (AV.int .i64 1))⟩), (11, ⟨some (.opi 3, true), .p2 (indexAddr2 P 43) (.opi 8) (.opi 10)⟩), (12, ⟨some (.opi 3, true), .ld1 (.opi 11)⟩), (13, ⟨some (.opi 3, true), .cl (cf 119) [.opi 7, .opi 12]⟩), (14, ⟨some (.opi 3, true), .p1 (un1 .not) (.opi 13)⟩), (15, ⟨none, .pick (.opi 3) (.opi 14) (.cst (AV.bool false))⟩)]
def c118_22 : AC := .draw 16 (stagesOf #[0, 0, 3, 7, 15, 15, 63, 127, 15, 15, 527, 1807, 3855, 8191, 16383, 32767] c118_22g [13] 0 (c118_22g.filter fun x => x.2.i.eff)) [(32, 15)]
theorem r118_22 : RReg c118_22 fun call tm h => let g := Heap.mk h.bs (h.next + 16); B (tm.gt 7) (fun v0 => B (tm.gt 2) (fun v1 => B (bin2 P .lss 3 v0 v1) (fun v2 => B (Wt? true v2 (tm.gt 0)) (fun v4 => B (Wt? true v2 (tm.gt 7)) (fun v5 => B (Wt? true v2 (indexAddr2 P 43 v4 v5)) (fun v6 => B (Wt? true v2 (load1 g v6)) (fun v7 => B (Wt? true v2 (tm.gt 0)) (fun v8 => B (Wt? true v2 (tm.gt 7)) (fun v9 => B (Wt? true v2 (bin2 P .sub 3 v9 (AV.int .i64 1))) (fun v10 => B (Wt? true v2 (indexAddr2 P 43 v8 v10)) (fun v11 => B (Wt? true v2 (load1 g v11)) (fun v12 => B (match wanted true v2 with | true => (call (.fn 119) [v7, v12] g) | false => some (undefA, g)) (fun r13 => B (Wt? true v2 (un1 .not r13.1)) (fun v14 => B (eBool (fun t => match t with | true => some v14 | false => some (AV.bool false)) v2) (fun v15 => some ((tm.up (some v15) 32), r13.2)) tg) tg) tg) tg) tg) tg) tg) tg) tg) tg) tg) tg) tg) tg) tg := kDrw rfl (by kernel_rfl)
def c118_27 : AC := .reg [⟨none, .p2 (bin2 P .add 3) (.tmp 7) (.cst (AV.int .i64 1))⟩] [(7, .loc 0)]
def c118_20 : AC := .seq (.seq c118_22 (.cond (.tmp 32) .skip (.exit 2))) (.block 3 c118_27)
def c118_19 : AC := .loop c118_20
def c118_30 : AC := .reg [⟨none, .p2 (bin2 P .eql 3) (.tmp 7) (.tmp 2)⟩] [(37, .loc 0)]
def c118_33 : AC := .reg [] [(6, .cst (AV.bool true))]
def c118_38 : AC := .reg [⟨none, .p2 (bin2 P .sub 3) (.tmp 2) (.tmp 1)⟩, ⟨none, .p2 (bin2 P .lss 3) (.loc 0) (.cst (AV.int .i64 50))⟩] [(41, .loc 0)]
def c118_41 : AC := .reg [] [(6, .cst (AV.bool false))]
def c118_45g : List (Nat × GIns) := [(0, ⟨none, .mv (.tmp 0)⟩), (1, ⟨none, .mv (.tmp 7)⟩), (2, ⟨none, .mv (.tmp 0)⟩), (3, ⟨none, .mv (.tmp 7)⟩), (4, ⟨none, .p2 (bin2 P .sub 3) (.opi 3) (.cst (AV.int .i64 1))⟩), (5, ⟨none, .mv (.tmp 0)⟩), (6, ⟨none, .mv (.tmp 7)⟩), (7, ⟨none, .p2 (bin2 P .sub 3) (.opi 6) (.cst (AV.int .i64 1))⟩), (8, ⟨none, .p2 (indexAddr2 P 43) (.opi 5) (.opi 7)⟩), (9, ⟨none, .ld1 (.opi 8)⟩), (10, ⟨none, .mv (.tmp 0)⟩), (11, ⟨none, .mv (.tmp 7)⟩), (12, ⟨none, .p2 (indexAddr2 P 43) (.opi 10) (.opi 11)⟩), (13, ⟨none, .ld1 (.opi 12)⟩), (14, ⟨none, .p2 (indexAddr2 P 43) (.opi 0) (.opi 1)⟩), (15, ⟨none, .st1 (.opi 14) (.opi 9)⟩), (16, ⟨none, .p2 (indexAddr2 P 43) (.opi 2) (.opi 4)⟩), (17, ⟨none, .st1 (.opi 16) (.opi 13)⟩)]
def c118_45 : AC := .draw 18 (stagesOf #[0, 0, 0, 0, 8, 0, 0, 64, 224, 480, 0, 0, 3072, 7168, 16355, 32739, 65535, 131071] c118_45g [15, 17] 0 (c118_45g.filter fun x => x.2.i.eff)) []
theorem r118_45 : RReg c118_45 fun call tm h => let g := Heap.mk h.bs (h.next + 18); B (tm.gt 0) (fun v0 => B (tm.gt 7) (fun v1 => B (tm.gt 0) (fun v2 => B (tm.gt 7) (fun v3 => B (bin2 P .sub 3 v3 (AV.int .i64 1)) (fun v4 => B (tm.gt 0) (fun v5 => B (tm.gt 7) (fun v6 => B (bin2 P .sub 3 v6 (AV.int .i64 1)) (fun v7 => B (indexAddr2 P 43 v5 v7) (fun v8 => B (load1 g v8) (fun v9 => B (tm.gt 0) (fun v10 => B (tm.gt 7) (fun v11 => B (indexAddr2 P 43 v10 v11) (fun v12 => B (load1 g v12) (fun v13 => B (indexAddr2 P 43 v0 v1) (fun v14 => B (store1 g v14 v9) (fun r15 => B (indexAddr2 P 43 v2 v4) (fun v16 => B (store1 r15.2 v16 v13) (fun r17 => some (tm, r17.2)) tg) tg) tg) tg) tg) tg) tg) tg) tg) tg) tg) tg) tg) tg) tg) tg) tg) tg := kDrw rfl (by kernel_rfl)
def c118_48 : AC := .reg [⟨none, .p2 (bin2 P .sub 3) (.tmp 7) (.tmp 1)⟩, ⟨none, .p2 (bin2 P .geq 3) (.loc 0) (.cst (AV.int .i64 2))⟩] [(61, .loc 0)]
def c118_51 : AC := .reg [⟨none, .p2 (bin2 P .sub 3) (.tmp 7) (.cst (AV.int .i64 1))⟩] [(9, .loc 0)]
def c118_56 : AC := .reg [⟨none, .p2 (bin2 P .geq 3) (.tmp 9) (.cst (AV.int .i64 1))⟩] [(65, .loc 0)]
def c118_64g : List (Nat × GIns) := [(0, ⟨none, .mv (.tmp 0)⟩), (1, ⟨none, .mv (.tmp 9)⟩), (2, ⟨none, .p2 (indexAddr2 P 43) (.opi 0) (.opi 1)⟩), (3, ⟨none, .ld1 (.opi 2)⟩), (4, ⟨none, .mv (.tmp 0)⟩), (5, ⟨none, .mv (.tmp 9)⟩), (6, ⟨none, .p2 (bin2 P .sub 3) (.opi 5) (.cst (AV.int .i64 1))⟩), (7, ⟨none, .p2 (indexAddr2 P 43) (.opi 4) (.opi 6)⟩), (8, ⟨none, .ld1 (.opi 7)⟩), (9, ⟨none, .cl (cf 119) [.opi 3, .opi 8]⟩), (10, ⟨none, .p1 (un1 .not) (.opi 9)⟩)]
def c118_64 : AC := .draw 11 (stagesOf #[0, 0, 3, 7, 0, 0, 32, 112, 240, 511, 1023] c118_64g [9] 0 (c118_64g.filter fun x => x.2.i.eff)) [(78, 10)]
theorem r118_64 : RReg c118_64 fun call tm h => let g := Heap.mk h.bs (h.next + 11); B (tm.gt 0) (fun v0 => B (tm.gt 9) (fun v1 => B (indexAddr2 P 43 v0 v1) (fun v2 => B (load1 g v2) (fun v3 => B (tm.gt 0) (fun v4 => B (tm.gt 9) (fun v5 => B (bin2 P .sub 3 v5 (AV.int .i64 1)) (fun v6 => B (indexAddr2 P 43 v4 v6) (fun v7 => B (load1 g v7) (fun v8 => B (call (.fn 119) [v3, v8] g) (fun r9 => B (un1 .not r9.1) (fun v10 => some ((tm.up (some v10) 78), r9.2)) tg) tg) tg) tg) tg) tg) tg) tg) tg) tg) tg := kDrw rfl (by kernel_rfl)
def c118_68g : List (Nat × GIns) := [(0, ⟨none, .mv (.tmp 0)⟩), (1, ⟨none, .mv (.tmp 9)⟩), (2, ⟨none, .mv (.tmp 0)⟩), (3, ⟨none, .mv (.tmp 9)⟩), (4, ⟨none, .p2 (bin2 P .sub 3) (.opi 3) (.cst (AV.int .i64 1))⟩), (5, ⟨none, .mv (.tmp 0)⟩), (6, ⟨none, .mv (.tmp 9)⟩), (7, ⟨none, .p2 (bin2 P .sub 3) (.opi 6) (.cst (AV.int .i64 1))⟩), (8, ⟨none, .p2 (indexAddr2 P 43) (.opi 5) (.opi 7)⟩), (9, ⟨none, .ld1 (.opi 8)⟩), (10, ⟨none, .mv (.tmp 0)⟩), (11, ⟨none, .mv (.tmp 9)⟩), (12, ⟨none, .p2 (indexAddr2 P 43) (.opi 10) (.opi 11)⟩), (13, ⟨none, .ld1 (.opi 12)⟩), (14, ⟨none, .p2 (indexAddr2 P 43) (.opi 0) (.opi 1)⟩), (15, ⟨none, .st1 (.opi 14) (.opi 9)⟩), (16, ⟨none, .p2 (indexAddr2 P 43) (.opi 2) (.opi 4)⟩), (17, ⟨none, .st1 (.opi 16) (.opi 13)⟩)]
def c118_68 : AC := .draw 18 (stagesOf #[0, 0, 0, 0, 8, 0, 0, 64, 224, 480, 0, 0, 3072, 7168, 16355, 32739, 65535, 131071] c118_68g [15, 17] 0 (c118_68g.filter fun x => x.2.i.eff)) []
theorem r118_68 : RReg c118_68 fun call tm h => let g := Heap.mk h.bs (h.next + 18); B (tm.gt 0) (fun v0 => B (tm.gt 9) (fun v1 => B (tm.gt 0) (fun v2 => B (tm.gt 9) (fun v3 => B (bin2 P .sub 3 v3 (AV.int .i64 1)) (fun v4 => B (tm.gt 0) (fun v5 => B (tm.gt 9) (fun v6 => B (bin2 P .sub 3 v6 (AV.int .i64 1)) (fun v7 => B (indexAddr2 P 43 v5 v7) (fun v8 => B (load1 g v8) (fun v9 => B (tm.gt 0) (fun v10 => B (tm.gt 9) (fun v11 => B (indexAddr2 P 43 v10 v11) (fun v12 => B (load1 g v12) (fun v13 => B (indexAddr2 P 43 v0 v1) (fun v14 => B (store1 g v14 v9) (fun r15 => B (indexAddr2 P 43 v2 v4) (fun v16 => B (store1 r15.2 v16 v13) (fun r17 => some (tm, r17.2)) tg) tg) tg) tg) tg) tg) tg) tg) tg) tg) tg) tg) tg) tg) tg) tg) tg) tg := kDrw rfl (by kernel_rfl)
def c118_62 : AC := .seq (.seq c118_64 (.cond (.tmp 78) (.exit 4) .skip)) c118_68
def c118_69 : AC := .reg [⟨none, .p2 (bin2 P .sub 3) (.tmp 9) (.cst (AV.int .i64 1))⟩] [(9, .loc 0)]
def c118_54 : AC := .seq (.seq c118_56 (.cond (.tmp 65) .skip (.exit 4))) (.seq (.block 5 c118_62) c118_69)
def c118_53 : AC := .loop c118_54
def c118_47 : AC := .seq c118_48 (.cond (.tmp 61) (.seq c118_51 (.block 4 c118_53)) .skip)
def c118_72 : AC := .reg [⟨none, .p2 (bin2 P .sub 3) (.tmp 2) (.tmp 7)⟩, ⟨none, .p2 (bin2 P .geq 3) (.loc 0) (.cst (AV.int .i64 2))⟩] [(98, .loc 0)]
def c118_75 : AC := .reg [⟨none, .p2 (bin2 P .add 3) (.tmp 7) (.cst (AV.int .i64 1))⟩] [(10, .loc 0)]
def c118_80 : AC := .reg [⟨none, .p2 (bin2 P .lss 3) (.tmp 10) (.tmp 2)⟩] [(103, .loc 0)]
def c118_88g : List (Nat × GIns) := [(0, ⟨none, .mv (.tmp 0)⟩), (1, ⟨none, .mv (.tmp 10)⟩), (2, ⟨none, .p2 (indexAddr2 P 43) (.opi 0) (.opi 1)⟩), (3, ⟨none, .ld1 (.opi 2)⟩), (4, ⟨none, .mv (.tmp 0)⟩), (5, ⟨none, .mv (.tmp 10)⟩), (6, ⟨none, .p2 (bin2 P .sub 3) (.opi 5) (.cst (AV.int .i64 1))⟩), (7, ⟨none, .p2 (indexAddr2 P 43) (.opi 4) (.opi 6)⟩), (8, ⟨none, .ld1 (.opi 7)⟩), (9, ⟨none, .cl (cf 119) [.opi 3, .opi 8]⟩), (10, ⟨none, .p1 (un1 .not) (.opi 9)⟩)]
def c118_88 : AC := .draw 11 (stagesOf #[0, 0, 3, 7, 0, 0, 32, 112, 240, 511, 1023] c118_88g [9] 0 (c118_88g.filter fun x => x.2.i.eff)) [(116, 10)]
theorem r118_88 : RReg c118_88 fun call tm h => let g := Heap.mk h.bs (h.next + 11); B (tm.gt 0) (fun v0 => B (tm.gt 10) (fun v1 => B (indexAddr2 P 43 v0 v1) (fun v2 => B (load1 g v2) (fun v3 => B (tm.gt 0) (fun v4 => B (tm.gt 10) (fun v5 => B (bin2 P .sub 3 v5 (AV.int .i64 1)) (fun v6 => B (indexAddr2 P 43 v4 v6) (fun v7 => B (load1 g v7) (fun v8 => B (call (.fn 119) [v3, v8] g) (fun r9 => B (un1 .not r9.1) (fun v10 => some ((tm.up (some v10) 116), r9.2)) tg) tg) tg) tg) tg) tg) tg) tg) tg) tg) tg := kDrw rfl (by kernel_rfl)
def c118_92g : List (Nat × GIns) := [(0, ⟨none, .mv (.tmp 0)⟩), (1, ⟨none, .mv (.tmp 10)⟩), (2, ⟨none, .mv (.tmp 0)⟩), (3, ⟨none, .mv (.tmp 10)⟩), (4, ⟨none, .p2 (bin2 P .sub 3) (.opi 3) (.cst (AV.int .i64 1))⟩), (5, ⟨none, .mv (.tmp 0)⟩), (6, ⟨none, .mv (.tmp 10)⟩), (7, ⟨none, .p2 (bin2 P .sub 3) (.opi 6) (.cst (AV.int .i64 1))⟩), (8, ⟨none, .p2 (indexAddr2 P 43) (.opi 5) (.opi 7)⟩), (9, ⟨none, .ld1 (.opi 8)⟩), (10, ⟨none, .mv (.tmp 0)⟩), (11, ⟨none, .mv (.tmp 10)⟩), (12, ⟨none, .p2 (indexAddr2 P 43) (.opi 10) (.opi 11)⟩), (13, ⟨none, .ld1 (.opi 12)⟩), (14, ⟨none, .p2 (indexAddr2 P 43) (.opi 0) (.opi 1)⟩), (15, ⟨none, .st1 (.opi 14) (.opi 9)⟩), (16, ⟨none, .p2 (indexAddr2 P 43) (.opi 2) (.opi 4)⟩), (17, ⟨none, .st1 (.opi 16) (.opi 13)⟩)]
def c118_92 : AC := .draw 18 (stagesOf #[0, 0, 0, 0, 8, 0, 0, 64, 224, 480, 0, 0, 3072, 7168, 16355, 32739, 65535, 131071] c118_92g [15, 17] 0 (c118_92g.filter fun x => x.2.i.eff)) []
theorem r118_92 : RReg c118_92 fun call tm h => let g := Heap.mk h.bs (h.next + 18); B (tm.gt 0) (fun v0 => B (tm.gt 10) (fun v1 => B (tm.gt 0) (fun v2 => B (tm.gt 10) (fun v3 => B (bin2 P .sub 3 v3 (AV.int .i64 1)) (fun v4 => B (tm.gt 0) (fun v5 => B (tm.gt 10) (fun v6 => B (bin2 P .sub 3 v6 (AV.int .i64 1)) (fun v7 => B (indexAddr2 P 43 v5 v7) (fun v8 => B (load1 g v8) (fun v9 => B (tm.gt 0) (fun v10 => B (tm.gt 10) (fun v11 => B (indexAddr2 P 43 v10 v11) (fun v12 => B (load1 g v12) (fun v13 => B (indexAddr2 P 43 v0 v1) (fun v14 => B (store1 g v14 v9) (fun r15 => B (indexAddr2 P 43 v2 v4) (fun v16 => B (store1 r15.2 v16 v13) (fun r17 => some (tm, r17.2)) tg) tg) tg) tg) tg) tg) tg) tg) tg) tg) tg) tg) tg) tg) tg) tg) tg) tg := kDrw rfl (by kernel_rfl)
def c118_86 : AC := .seq (.seq c118_88 (.cond (.tmp 116) (.exit 6) .skip)) c118_92
def c118_93 : AC := .reg [⟨none, .p2 (bin2 P .add 3) (.tmp 10) (.cst (AV.int .i64 1))⟩] [(10, .loc 0)]
def c118_78 : AC := .seq (.seq c118_80 (.cond (.tmp 103) .skip (.exit 6))) (.seq (.block 7 c118_86) c118_93)
def c118_77 : AC := .loop c118_78
def c118_71 : AC := .seq c118_72 (.cond (.tmp 98) (.seq c118_75 (.block 6 c118_77)) .skip)
def c118_36 : AC := .seq (.seq c118_38 (.cond (.tmp 41) (.seq c118_41 .ret) .skip)) (.seq c118_45 (.seq c118_47 c118_71))
def c118_28 : AC := .seq (.seq c118_30 (.cond (.tmp 37) (.seq c118_33 .ret) .skip)) c118_36
def c118_95 : AC := .reg [⟨none, .p2 (bin2 P .add 3) (.tmp 8) (.cst (AV.int .i64 1))⟩] [(8, .loc 0)]
def c118_9 : AC := .seq (.seq c118_11 (.cond (.tmp 14) .skip (.exit 0))) (.seq (.block 1 (.seq (.block 2 c118_19) c118_28)) c118_95)
def c118_8 : AC := .loop c118_9
def c118_97 : AC := .reg [] [(6, .cst (AV.bool false))]
def c118_2 : AC := .seq c118_3 (.seq (.seq c118_6 (.block 0 c118_8)) (.seq c118_97 .ret))
theorem r118_71 : type_of% (kS c118_71 rfl) := (kS c118_71 rfl)
theorem r118_95 : type_of% (kR c118_95 rfl) := (kR c118_95 rfl)
def fn118 : FnA := ⟨(.seq c118_1 c118_2), [.tmp 6], 133, true⟩
theorem f118A : fnA P (keepF P) 118 = some fn118 := by kernel_rfl
def F118 := An (kR c118_1 rfl) <| An (kR c118_3 rfl) <| An (kR c118_6 rfl) <| An (kR c118_11 rfl) <| An r118_22 <| An (kR c118_27 rfl) <| An (kS c118_20 rfl) <| An (kR c118_30 rfl) <| An (kR c118_33 rfl) <| An (kR c118_38 rfl) <| An (kR c118_41 rfl) <| An r118_45 <| An (kR c118_48 rfl) <| An (kR c118_51 rfl) <| An (kR c118_56 rfl) <| An r118_64 <| An r118_68 <| An (kS c118_62 rfl) <| An (kR c118_69 rfl) <| An (kS c118_54 rfl) <| An (kS c118_47 rfl) <| An (kR c118_72 rfl) <| An (kR c118_75 rfl) <| An (kR c118_80 rfl) <| An r118_88 <| An r118_92 <| An (kS c118_86 rfl) <| An (kR c118_93 rfl) <| An (kS c118_78 rfl) <| An (kS c118_36 rfl) <| An (kS c118_28 rfl) <| An (kS c118_9 rfl) <| An (kR c118_97 rfl) <| (kS c118_2 rfl)
def c119_1 : AC := .reg [] [(4, .cst (AV.bool false))]
def c119_3 : AC := .reg [⟨none, .cl (cf 107) [.tmp 0]⟩, ⟨some (.loc 0, true), .mv (.tmp 1)⟩, ⟨some (.loc 1, true), .cl (cf 107) [.loc 0]⟩, ⟨some (.loc 2, true), .p1 (un1 .not) (.loc 0)⟩, ⟨none, .pick (.loc 3) (.loc 0) (.cst (AV.bool false))⟩, ⟨some (.loc 0, false), .mv (.tmp 0)⟩, ⟨some (.loc 1, false), .mv (.tmp 1)⟩, ⟨some (.loc 2, false), .p2 (bin2 P .lss 27) (.loc 1) (.loc 0)⟩, ⟨none, .pick (.loc 3) (.cst (AV.bool true)) (.loc 0)⟩] [(4, .loc 0)]
def fn119 : FnA := ⟨(.seq c119_1 (.seq c119_3 .ret)), [.tmp 4], 17, true⟩
theorem f119A : fnA P (keepF P) 119 = some fn119 := by kernel_rfl
def F119 := An (kR c119_1 rfl) <| (kR c119_3 rfl)
def c120_1 : AC := .reg [] [(8, .cst (AV.int .i64 0))]
def c120_3g : List (Nat × GIns) := [(0, ⟨none, .mv (.tmp 0)⟩), (1, ⟨none, .mv (.tmp 1)⟩), (2, ⟨none, .mv (.tmp 0)⟩), (3, ⟨none, .mv (.tmp 3)⟩), (4, ⟨none, .mv (.tmp 0)⟩), (5, ⟨none, .mv (.tmp 3)⟩), (6, ⟨none, .p2 (indexAddr2 P 43) (.opi 4) (.opi 5)⟩), (7, ⟨none, .ld1 (.opi 6)⟩), (8, ⟨none, .mv (.tmp 0)⟩), (9, ⟨none, .mv (.tmp 1)⟩), (10, ⟨none, .p2 (indexAddr2 P 43) (.opi 8) (.opi 9)⟩), (11, ⟨none, .ld1 (.opi 10)⟩), (12, ⟨none, .p2 (indexAddr2 P 43) (.opi 0) (.opi 1)⟩), (13, ⟨none, .st1 (.opi 12) (.opi 7)⟩), (14, ⟨none, .p2 (indexAddr2 P 43) (.opi 2) (.opi 3)⟩), (15, ⟨none, .st1 (.opi 14) (.opi 11)⟩)]
def c120_3 : AC := .draw 16 (stagesOf #[0, 0, 0, 0, 0, 0, 48, 112, 0, 0, 768, 1792, 4083, 8179, 16383, 32767] c120_3g [13, 15] 0 (c120_3g.filter fun x => x.2.i.eff)) []
theorem r120_3 : RReg c120_3 fun call tm h => let g := Heap.mk h.bs (h.next + 16); B (tm.gt 0) (fun v0 => B (tm.gt 1) (fun v1 => B (tm.gt 0) (fun v2 => B (tm.gt 3) (fun v3 => B (tm.gt 0) (fun v4 => B (tm.gt 3) (fun v5 => B (indexAddr2 P 43 v4 v5) (fun v6 => B (load1 g v6) (fun v7 => B (tm.gt 0) (fun v8 => B (tm.gt 1) (fun v9 => B (indexAddr2 P 43 v8 v9) (fun v10 => B (load1 g v10) (fun v11 => B (indexAddr2 P 43 v0 v1) (fun v12 => B (store1 g v12 v7) (fun r13 => B (indexAddr2 P 43 v2 v3) (fun v14 => B (store1 r13.2 v14 v11) (fun r15 => some (tm, r15.2)) tg) tg) tg) tg) tg) tg) tg) tg) tg) tg) tg) tg) tg) tg) tg) tg := kDrw rfl (by kernel_rfl)
def c120_5 : AC := .reg [⟨none, .p2 (bin2 P .add 3) (.tmp 1) (.cst (AV.int .i64 1))⟩, ⟨none, .p2 (bin2 P .sub 3) (.tmp 2) (.cst (AV.int .i64 1))⟩] [(10, .loc 0), (9, .loc 1)]
def c120_15g : List (Nat × GIns) := [(0, ⟨none, .mv (.tmp 9)⟩), (1, ⟨none, .mv (.tmp 10)⟩), (2, ⟨none, .p2 (bin2 P .leq 3) (.opi 0) (.opi 1)⟩), (3, ⟨none, .mv (.opi 2)⟩), (4, ⟨some (.opi 3, true), .mv (.tmp 0)⟩), (5, ⟨some (.opi 3, true), .mv (.tmp 1)⟩), (6, ⟨some (.opi 3, true), .p2 (indexAddr2 P 43) (.opi 4) (.opi 5)⟩), (7, ⟨some (.opi 3, true), .ld1 (.opi 6)⟩), (8, ⟨some (.opi 3, true), .mv (.tmp 0)⟩), (9, ⟨some (.opi 3, true), .mv (.tmp 9)⟩), (10, ⟨some (.opi 3, true), .p2 (indexAddr2 P 43) (.opi 8) (.opi 9)⟩), (11, ⟨some (.opi 3, true), .ld1 (.opi 10)⟩), (12, ⟨some (.opi 3, true), .cl (cf 119) [.opi 7, .opi 11]⟩), (13, ⟨some (.opi 3, true), .p1 (un1 .not) (.opi 12)⟩), (14, ⟨none, .pick (.opi 3) (.opi 13) (.cst (AV.bool false))⟩)]
def c120_15 : AC := .draw 15 (stagesOf #[0, 0, 3, 7, 15, 15, 63, 127, 15, 15, 783, 1807, 4095, 8191, 16383] c120_15g [12] 0 (c120_15g.filter fun x => x.2.i.eff)) [(43, 14)]
theorem r120_15 : RReg c120_15 fun call tm h => let g := Heap.mk h.bs (h.next + 15); B (tm.gt 9) (fun v0 => B (tm.gt 10) (fun v1 => B (bin2 P .leq 3 v0 v1) (fun v2 => B (Wt? true v2 (tm.gt 0)) (fun v4 => B (Wt? true v2 (tm.gt 1)) (fun v5 => B (Wt? true v2 (indexAddr2 P 43 v4 v5)) (fun v6 => B (Wt? true v2 (load1 g v6)) (fun v7 => B (Wt? true v2 (tm.gt 0)) (fun v8 => B (Wt? true v2 (tm.gt 9)) (fun v9 => B (Wt? true v2 (indexAddr2 P 43 v8 v9)) (fun v10 => B (Wt? true v2 (load1 g v10)) (fun v11 => B (match wanted true v2 with | true => (call (.fn 119) [v7, v11] g) | false => some (undefA, g)) (fun r12 => B (Wt? true v2 (un1 .not r12.1)) (fun v13 => B (eBool (fun t => match t with | true => some v13 | false => some (AV.bool false)) v2) (fun v14 => some ((tm.up (some v14) 43), r12.2)) tg) tg) tg) tg) tg) tg) tg) tg) tg) tg) tg) tg) tg) tg := kDrw rfl (by kernel_rfl)
def c120_20 : AC := .reg [⟨none, .p2 (bin2 P .add 3) (.tmp 9) (.cst (AV.int .i64 1))⟩] [(9, .loc 0)]
def c120_13 : AC := .seq (.seq c120_15 (.cond (.tmp 43) .skip (.exit 2))) (.block 3 c120_20)
def c120_12 : AC := .loop c120_13
def c120_26g : List (Nat × GIns) := [(0, ⟨none, .mv (.tmp 9)⟩), (1, ⟨none, .mv (.tmp 10)⟩), (2, ⟨none, .p2 (bin2 P .leq 3) (.opi 0) (.opi 1)⟩), (3, ⟨none, .mv (.opi 2)⟩), (4, ⟨some (.opi 3, true), .mv (.tmp 0)⟩), (5, ⟨some (.opi 3, true), .mv (.tmp 1)⟩), (6, ⟨some (.opi 3, true), .p2 (indexAddr2 P 43) (.opi 4) (.opi 5)⟩), (7, ⟨some (.opi 3, true), .ld1 (.opi 6)⟩), (8, ⟨some (.opi 3, true), .mv (.tmp 0)⟩), (9, ⟨some (.opi 3, true), .mv (.tmp 10)⟩), (10, ⟨some (.opi 3, true), .p2 (indexAddr2 P 43) (.opi 8) (.opi 9)⟩), (11, ⟨some (.opi 3, true), .ld1 (.opi 10)⟩), (12, ⟨some (.opi 3, true), .cl (cf 119) [.opi 7, .opi 11]⟩), (13, ⟨none, .pick (.opi 3) (.opi 12) (.cst (AV.bool false))⟩)]
def c120_26 : AC := .draw 14 (stagesOf #[0, 0, 3, 7, 15, 15, 63, 127, 15, 15, 783, 1807, 4095, 8191] c120_26g [12] 0 (c120_26g.filter fun x => x.2.i.eff)) [(59, 13)]
theorem r120_26 : RReg c120_26 fun call tm h => let g := Heap.mk h.bs (h.next + 14); B (tm.gt 9) (fun v0 => B (tm.gt 10) (fun v1 => B (bin2 P .leq 3 v0 v1) (fun v2 => B (Wt? true v2 (tm.gt 0)) (fun v4 => B (Wt? true v2 (tm.gt 1)) (fun v5 => B (Wt? true v2 (indexAddr2 P 43 v4 v5)) (fun v6 => B (Wt? true v2 (load1 g v6)) (fun v7 => B (Wt? true v2 (tm.gt 0)) (fun v8 => B (Wt? true v2 (tm.gt 10)) (fun v9 => B (Wt? true v2 (indexAddr2 P 43 v8 v9)) (fun v10 => B (Wt? true v2 (load1 g v10)) (fun v11 => B (match wanted true v2 with | true => (call (.fn 119) [v7, v11] g) | false => some (undefA, g)) (fun r12 => B (eBool (fun t => match t with | true => some r12.1 | false => some (AV.bool false)) v2) (fun v13 => some ((tm.up (some v13) 59), r12.2)) tg) tg) tg) tg) tg) tg) tg) tg) tg) tg) tg) tg) tg := kDrw rfl (by kernel_rfl)
def c120_31 : AC := .reg [⟨none, .p2 (bin2 P .sub 3) (.tmp 10) (.cst (AV.int .i64 1))⟩] [(10, .loc 0)]
def c120_24 : AC := .seq (.seq c120_26 (.cond (.tmp 59) .skip (.exit 4))) (.block 5 c120_31)
def c120_23 : AC := .loop c120_24
def c120_34 : AC := .reg [⟨none, .p2 (bin2 P .gtr 3) (.tmp 9) (.tmp 10)⟩] [(64, .loc 0)]
def c120_39g : List (Nat × GIns) := [(0, ⟨none, .mv (.tmp 0)⟩), (1, ⟨none, .mv (.tmp 9)⟩), (2, ⟨none, .mv (.tmp 0)⟩), (3, ⟨none, .mv (.tmp 10)⟩), (4, ⟨none, .mv (.tmp 0)⟩), (5, ⟨none, .mv (.tmp 10)⟩), (6, ⟨none, .p2 (indexAddr2 P 43) (.opi 4) (.opi 5)⟩), (7, ⟨none, .ld1 (.opi 6)⟩), (8, ⟨none, .mv (.tmp 0)⟩), (9, ⟨none, .mv (.tmp 9)⟩), (10, ⟨none, .p2 (indexAddr2 P 43) (.opi 8) (.opi 9)⟩), (11, ⟨none, .ld1 (.opi 10)⟩), (12, ⟨none, .p2 (indexAddr2 P 43) (.opi 0) (.opi 1)⟩), (13, ⟨none, .st1 (.opi 12) (.opi 7)⟩), (14, ⟨none, .p2 (indexAddr2 P 43) (.opi 2) (.opi 3)⟩), (15, ⟨none, .st1 (.opi 14) (.opi 11)⟩)]
def c120_39 : AC := .draw 16 (stagesOf #[0, 0, 0, 0, 0, 0, 48, 112, 0, 0, 768, 1792, 4083, 8179, 16383, 32767] c120_39g [13, 15] 0 (c120_39g.filter fun x => x.2.i.eff)) []
theorem r120_39 : RReg c120_39 fun call tm h => let g := Heap.mk h.bs (h.next + 16); B (tm.gt 0) (fun v0 => B (tm.gt 9) (fun v1 => B (tm.gt 0) (fun v2 => B (tm.gt 10) (fun v3 => B (tm.gt 0) (fun v4 => B (tm.gt 10) (fun v5 => B (indexAddr2 P 43 v4 v5) (fun v6 => B (load1 g v6) (fun v7 => B (tm.gt 0) (fun v8 => B (tm.gt 9) (fun v9 => B (indexAddr2 P 43 v8 v9) (fun v10 => B (load1 g v10) (fun v11 => B (indexAddr2 P 43 v0 v1) (fun v12 => B (store1 g v12 v7) (fun r13 => B (indexAddr2 P 43 v2 v3) (fun v14 => B (store1 r13.2 v14 v11) (fun r15 => some (tm, r15.2)) tg) tg) tg) tg) tg) tg) tg) tg) tg) tg) tg) tg) tg) tg) tg) tg := kDrw rfl (by kernel_rfl)
def c120_41 : AC := .reg [⟨none, .p2 (bin2 P .add 3) (.tmp 9) (.cst (AV.int .i64 1))⟩] [(9, .loc 0)]
def c120_42 : AC := .reg [⟨none, .p2 (bin2 P .sub 3) (.tmp 10) (.cst (AV.int .i64 1))⟩] [(10, .loc 0)]
def c120_32 : AC := .seq (.seq c120_34 (.cond (.tmp 64) (.exit 0) .skip)) (.seq c120_39 (.seq c120_41 c120_42))
def c120_21 : AC := .seq (.block 4 c120_23) c120_32
def c120_9 : AC := .block 1 (.seq (.block 2 c120_12) c120_21)
def c120_8 : AC := .loop c120_9
def c120_44 : AC := .reg [] [(8, .tmp 9)]
def c120_2 : AC := .seq c120_3 (.seq c120_5 (.seq (.block 0 c120_8) (.seq c120_44 .ret)))
theorem r120_32 : type_of% (kS c120_32 rfl) := (kS c120_32 rfl)
theorem r120_21 : type_of% (kS c120_21 rfl) := (kS c120_21 rfl)
def fn120 : FnA := ⟨(.seq c120_1 c120_2), [.tmp 8], 84, true⟩
theorem f120A : fnA P (keepF P) 120 = some fn120 := by kernel_rfl
def F120 := An (kR c120_1 rfl) <| An r120_3 <| An (kR c120_5 rfl) <| An r120_15 <| An (kR c120_20 rfl) <| An (kS c120_13 rfl) <| An r120_26 <| An (kR c120_31 rfl) <| An (kS c120_24 rfl) <| An (kR c120_34 rfl) <| An r120_39 <| An (kR c120_41 rfl) <| An (kR c120_42 rfl) <| An (kB c120_9 rfl) <| An (kR c120_44 rfl) <| (kS c120_2 rfl)
def c121_1 : AC := .reg [] [(9, .cst (AV.bool false)), (8, .cst (AV.int .i64 0))]
def c121_3g : List (Nat × GIns) := [(0, ⟨none, .mv (.tmp 0)⟩), (1, ⟨none, .mv (.tmp 1)⟩), (2, ⟨none, .mv (.tmp 0)⟩), (3, ⟨none, .mv (.tmp 3)⟩), (4, ⟨none, .mv (.tmp 0)⟩), (5, ⟨none, .mv (.tmp 3)⟩), (6, ⟨none, .p2 (indexAddr2 P 43) (.opi 4) (.opi 5)⟩), (7, ⟨none, .ld1 (.opi 6)⟩), (8, ⟨none, .mv (.tmp 0)⟩), (9, ⟨none, .mv (.tmp 1)⟩), (10, ⟨none, .p2 (indexAddr2 P 43) (.opi 8) (.opi 9)⟩), (11, ⟨none, .ld1 (.opi 10)⟩), (12, ⟨none, .p2 (indexAddr2 P 43) (.opi 0) (.opi 1)⟩), (13, ⟨none, .st1 (.opi 12) (.opi 7)⟩), (14, ⟨none, .p2 (indexAddr2 P 43) (.opi 2) (.opi 3)⟩), (15, ⟨none, .st1 (.opi 14) (.opi 11)⟩)]
def c121_3 : AC := .draw 16 (stagesOf #[0, 0, 0, 0, 0, 0, 48, 112, 0, 0, 768, 1792, 4083, 8179, 16383, 32767] c121_3g [13, 15] 0 (c121_3g.filter fun x => x.2.i.eff)) []
theorem r121_3 : RReg c121_3 fun call tm h => let g := Heap.mk h.bs (h.next + 16); B (tm.gt 0) (fun v0 => B (tm.gt 1) (fun v1 => B (tm.gt 0) (fun v2 => B (tm.gt 3) (fun v3 => B (tm.gt 0) (fun v4 => B (tm.gt 3) (fun v5 => B (indexAddr2 P 43 v4 v5) (fun v6 => B (load1 g v6) (fun v7 => B (tm.gt 0) (fun v8 => B (tm.gt 1) (fun v9 => B (indexAddr2 P 43 v8 v9) (fun v10 => B (load1 g v10) (fun v11 => B (indexAddr2 P 43 v0 v1) (fun v12 => B (store1 g v12 v7) (fun r13 => B (indexAddr2 P 43 v2 v3) (fun v14 => B (store1 r13.2 v14 v11) (fun r15 => some (tm, r15.2)) tg) tg) tg) tg) tg) tg) tg) tg) tg) tg) tg) tg) tg) tg) tg) tg := kDrw rfl (by kernel_rfl)
def c121_5 : AC := .reg [⟨none, .p2 (bin2 P .add 3) (.tmp 1) (.cst (AV.int .i64 1))⟩, ⟨none, .p2 (bin2 P .sub 3) (.tmp 2) (.cst (AV.int .i64 1))⟩] [(11, .loc 0), (10, .loc 1)]
def c121_11g : List (Nat × GIns) := [(0, ⟨none, .mv (.tmp 10)⟩), (1, ⟨none, .mv (.tmp 11)⟩), (2, ⟨none, .p2 (bin2 P .leq 3) (.opi 0) (.opi 1)⟩), (3, ⟨none, .mv (.opi 2)⟩), (4, ⟨some (.opi 3, true), .mv (.tmp 0)⟩), (5, ⟨some (.opi 3, true), .mv (.tmp 10)⟩), (6, ⟨some (.opi 3, true), .p2 (indexAddr2 P 43) (.opi 4) (.opi 5)⟩), (7, ⟨some (.opi 3, true), .ld1 (.opi 6)⟩), (8, ⟨some (.opi 3, true), .mv (.tmp 0)⟩), (9, ⟨some (.opi 3, true), .mv (.tmp 1)⟩), (10, ⟨some (.opi 3, true), .p2 (indexAddr2 P 43) (.opi 8) (.opi 9)⟩), (11, ⟨some (.opi 3, true), .ld1 (.opi 10)⟩), (12, ⟨some (.opi 3, true), .cl (cf 119) [.opi 7, .opi 11]⟩), (13, ⟨none, .pick (.opi 3) (.opi 12) (.cst (AV.bool false))⟩)]
def c121_11 : AC := .draw 14 (stagesOf #[0, 0, 3, 7, 15, 15, 63, 127, 15, 15, 783, 1807, 4095, 8191] c121_11g [12] 0 (c121_11g.filter fun x => x.2.i.eff)) [(43, 13)]
theorem r121_11 : RReg c121_11 fun call tm h => let g := Heap.mk h.bs (h.next + 14); B (tm.gt 10) (fun v0 => B (tm.gt 11) (fun v1 => B (bin2 P .leq 3 v0 v1) (fun v2 => B (Wt? true v2 (tm.gt 0)) (fun v4 => B (Wt? true v2 (tm.gt 10)) (fun v5 => B (Wt? true v2 (indexAddr2 P 43 v4 v5)) (fun v6 => B (Wt? true v2 (load1 g v6)) (fun v7 => B (Wt? true v2 (tm.gt 0)) (fun v8 => B (Wt? true v2 (tm.gt 1)) (fun v9 => B (Wt? true v2 (indexAddr2 P 43 v8 v9)) (fun v10 => B (Wt? true v2 (load1 g v10)) (fun v11 => B (match wanted true v2 with | true => (call (.fn 119) [v7, v11] g) | false => some (undefA, g)) (fun r12 => B (eBool (fun t => match t with | true => some r12.1 | false => some (AV.bool false)) v2) (fun v13 => some ((tm.up (some v13) 43), r12.2)) tg) tg) tg) tg) tg) tg) tg) tg) tg) tg) tg) tg) tg := kDrw rfl (by kernel_rfl)
def c121_16 : AC := .reg [⟨none, .p2 (bin2 P .add 3) (.tmp 10) (.cst (AV.int .i64 1))⟩] [(10, .loc 0)]
def c121_9 : AC := .seq (.seq c121_11 (.cond (.tmp 43) .skip (.exit 0))) (.block 1 c121_16)
def c121_8 : AC := .loop c121_9
def c121_22g : List (Nat × GIns) := [(0, ⟨none, .mv (.tmp 10)⟩), (1, ⟨none, .mv (.tmp 11)⟩), (2, ⟨none, .p2 (bin2 P .leq 3) (.opi 0) (.opi 1)⟩), (3, ⟨none, .mv (.opi 2)⟩), (4, ⟨some (.opi 3, true), .mv (.tmp 0)⟩), (5, ⟨some (.opi 3, true), .mv (.tmp 11)⟩), (6, ⟨some (.opi 3, true), .p2 (indexAddr2 P 43) (.opi 4) (.opi 5)⟩), (7, ⟨some (.opi 3, true), .ld1 (.opi 6)⟩), (8, ⟨some (.opi 3, true), .mv (.tmp 0)⟩), (9, ⟨some (.opi 3, true), .mv (.tmp 1)⟩), (10, ⟨some (.opi 3, true), .p2 (indexAddr2 P 43) (.opi 8) (.opi 9)⟩), (11, ⟨some (.opi 3, true), .ld1 (.opi 10)⟩), (12, ⟨some (.opi 3, true), .cl (cf 119) [.opi 7, .opi 11]⟩), (13, ⟨some (.opi 3, true), .p1 (un1 .not) (.opi 12)⟩), (14, ⟨none, .pick (.opi 3) (.opi 13) (.cst (AV.bool false))⟩)]
def c121_22 : AC := .draw 15 (stagesOf #[0, 0, 3, 7, 15, 15, 63, 127, 15, 15, 783, 1807, 4095, 8191, 16383] c121_22g [12] 0 (c121_22g.filter fun x => x.2.i.eff)) [(60, 14)]
theorem r121_22 : RReg c121_22 fun call tm h => let g := Heap.mk h.bs (h.next + 15); B (tm.gt 10) (fun v0 => B (tm.gt 11) (fun v1 => B (bin2 P .leq 3 v0 v1) (fun v2 => B (Wt? true v2 (tm.gt 0)) (fun v4 => B (Wt? true v2 (tm.gt 11)) (fun v5 => B (Wt? true v2 (indexAddr2 P 43 v4 v5)) (fun v6 => B (Wt? true v2 (load1 g v6)) (fun v7 => B (Wt? true v2 (tm.gt 0)) (fun v8 => B (Wt? true v2 (tm.gt 1)) (fun v9 => B (Wt? true v2 (indexAddr2 P 43 v8 v9)) (fun v10 => B (Wt? true v2 (load1 g v10)) (fun v11 => B (match wanted true v2 with | true => (call (.fn 119) [v7, v11] g) | false => some (undefA, g)) (fun r12 => B (Wt? true v2 (un1 .not r12.1)) (fun v13 => B (eBool (fun t => match t with | true => some v13 | false => some (AV.bool false)) v2) (fun v14 => some ((tm.up (some v14) 60), r12.2)) tg) tg) tg) tg) tg) tg) tg) tg) tg) tg) tg) tg) tg) tg := kDrw rfl (by kernel_rfl)
def c121_27 : AC := .reg [⟨none, .p2 (bin2 P .sub 3) (.tmp 11) (.cst (AV.int .i64 1))⟩] [(11, .loc 0)]
def c121_20 : AC := .seq (.seq c121_22 (.cond (.tmp 60) .skip (.exit 2))) (.block 3 c121_27)
def c121_19 : AC := .loop c121_20
def c121_30 : AC := .reg [⟨none, .p2 (bin2 P .gtr 3) (.tmp 10) (.tmp 11)⟩] [(65, .loc 0)]
def c121_33g : List (Nat × GIns) := [(0, ⟨none, .mv (.tmp 0)⟩), (1, ⟨none, .mv (.tmp 11)⟩), (2, ⟨none, .mv (.tmp 0)⟩), (3, ⟨none, .mv (.tmp 1)⟩), (4, ⟨none, .mv (.tmp 0)⟩), (5, ⟨none, .mv (.tmp 1)⟩), (6, ⟨none, .p2 (indexAddr2 P 43) (.opi 4) (.opi 5)⟩), (7, ⟨none, .ld1 (.opi 6)⟩), (8, ⟨none, .mv (.tmp 0)⟩), (9, ⟨none, .mv (.tmp 11)⟩), (10, ⟨none, .p2 (indexAddr2 P 43) (.opi 8) (.opi 9)⟩), (11, ⟨none, .ld1 (.opi 10)⟩), (12, ⟨none, .p2 (indexAddr2 P 43) (.opi 0) (.opi 1)⟩), (13, ⟨none, .st1 (.opi 12) (.opi 7)⟩), (14, ⟨none, .p2 (indexAddr2 P 43) (.opi 2) (.opi 3)⟩), (15, ⟨none, .st1 (.opi 14) (.opi 11)⟩)]
def c121_33 : AC := .draw 16 (stagesOf #[0, 0, 0, 0, 0, 0, 48, 112, 0, 0, 768, 1792, 4083, 8179, 16383, 32767] c121_33g [13, 15] 0 (c121_33g.filter fun x => x.2.i.eff)) []
theorem r121_33 : RReg c121_33 fun call tm h => let g := Heap.mk h.bs (h.next + 16); B (tm.gt 0) (fun v0 => B (tm.gt 11) (fun v1 => B (tm.gt 0) (fun v2 => B (tm.gt 1) (fun v3 => B (tm.gt 0) (fun v4 => B (tm.gt 1) (fun v5 => B (indexAddr2 P 43 v4 v5) (fun v6 => B (load1 g v6) (fun v7 => B (tm.gt 0) (fun v8 => B (tm.gt 11) (fun v9 => B (indexAddr2 P 43 v8 v9) (fun v10 => B (load1 g v10) (fun v11 => B (indexAddr2 P 43 v0 v1) (fun v12 => B (store1 g v12 v7) (fun r13 => B (indexAddr2 P 43 v2 v3) (fun v14 => B (store1 r13.2 v14 v11) (fun r15 => some (tm, r15.2)) tg) tg) tg) tg) tg) tg) tg) tg) tg) tg) tg) tg) tg) tg) tg) tg := kDrw rfl (by kernel_rfl)
def c121_35 : AC := .reg [] [(9, .cst (AV.bool true)), (8, .tmp 11)]
def c121_29 : AC := .seq c121_30 (.cond (.tmp 65) (.seq c121_33 (.seq c121_35 .ret)) .skip)
def c121_39g : List (Nat × GIns) := [(0, ⟨none, .mv (.tmp 0)⟩), (1, ⟨none, .mv (.tmp 10)⟩), (2, ⟨none, .mv (.tmp 0)⟩), (3, ⟨none, .mv (.tmp 11)⟩), (4, ⟨none, .mv (.tmp 0)⟩), (5, ⟨none, .mv (.tmp 11)⟩), (6, ⟨none, .p2 (indexAddr2 P 43) (.opi 4) (.opi 5)⟩), (7, ⟨none, .ld1 (.opi 6)⟩), (8, ⟨none, .mv (.tmp 0)⟩), (9, ⟨none, .mv (.tmp 10)⟩), (10, ⟨none, .p2 (indexAddr2 P 43) (.opi 8) (.opi 9)⟩), (11, ⟨none, .ld1 (.opi 10)⟩), (12, ⟨none, .p2 (indexAddr2 P 43) (.opi 0) (.opi 1)⟩), (13, ⟨none, .st1 (.opi 12) (.opi 7)⟩), (14, ⟨none, .p2 (indexAddr2 P 43) (.opi 2) (.opi 3)⟩), (15, ⟨none, .st1 (.opi 14) (.opi 11)⟩)]
def c121_39 : AC := .draw 16 (stagesOf #[0, 0, 0, 0, 0, 0, 48, 112, 0, 0, 768, 1792, 4083, 8179, 16383, 32767] c121_39g [13, 15] 0 (c121_39g.filter fun x => x.2.i.eff)) []
theorem r121_39 : RReg c121_39 fun call tm h => let g := Heap.mk h.bs (h.next + 16); B (tm.gt 0) (fun v0 => B (tm.gt 10) (fun v1 => B (tm.gt 0) (fun v2 => B (tm.gt 11) (fun v3 => B (tm.gt 0) (fun v4 => B (tm.gt 11) (fun v5 => B (indexAddr2 P 43 v4 v5) (fun v6 => B (load1 g v6) (fun v7 => B (tm.gt 0) (fun v8 => B (tm.gt 10) (fun v9 => B (indexAddr2 P 43 v8 v9) (fun v10 => B (load1 g v10) (fun v11 => B (indexAddr2 P 43 v0 v1) (fun v12 => B (store1 g v12 v7) (fun r13 => B (indexAddr2 P 43 v2 v3) (fun v14 => B (store1 r13.2 v14 v11) (fun r15 => some (tm, r15.2)) tg) tg) tg) tg) tg) tg) tg) tg) tg) tg) tg) tg) tg) tg) tg) tg := kDrw rfl (by kernel_rfl)
def c121_41 : AC := .reg [⟨none, .p2 (bin2 P .add 3) (.tmp 10) (.cst (AV.int .i64 1))⟩] [(10, .loc 0)]
def c121_43 : AC := .reg [⟨none, .p2 (bin2 P .sub 3) (.tmp 11) (.cst (AV.int .i64 1))⟩] [(11, .loc 0)]
def c121_53g : List (Nat × GIns) := [(0, ⟨none, .mv (.tmp 10)⟩), (1, ⟨none, .mv (.tmp 11)⟩), (2, ⟨none, .p2 (bin2 P .leq 3) (.opi 0) (.opi 1)⟩), (3, ⟨none, .mv (.opi 2)⟩), (4, ⟨some (.opi 3, true), .mv (.tmp 0)⟩), (5, ⟨some (.opi 3, true), .mv (.tmp 10)⟩), (6, ⟨some (.opi 3, true), .p2 (indexAddr2 P 43) (.opi 4) (.opi 5)⟩), (7, ⟨some (.opi 3, true), .ld1 (.opi 6)⟩), (8, ⟨some (.opi 3, true), .mv (.tmp 0)⟩), (9, ⟨some (.opi 3, true), .mv (.tmp 1)⟩), (10, ⟨some (.opi 3, true), .p2 (indexAddr2 P 43) (.opi 8) (.opi 9)⟩), (11, ⟨some (.opi 3, true), .ld1 (.opi 10)⟩), (12, ⟨some (.opi 3, true), .cl (cf 119) [.opi 7, .opi 11]⟩), (13, ⟨none, .pick (.opi 3) (.opi 12) (.cst (AV.bool false))⟩)]
def c121_53 : AC := .draw 14 (stagesOf #[0, 0, 3, 7, 15, 15, 63, 127, 15, 15, 783, 1807, 4095, 8191] c121_53g [12] 0 (c121_53g.filter fun x => x.2.i.eff)) [(112, 13)]
theorem r121_53 : RReg c121_53 fun call tm h => let g := Heap.mk h.bs (h.next + 14); B (tm.gt 10) (fun v0 => B (tm.gt 11) (fun v1 => B (bin2 P .leq 3 v0 v1) (fun v2 => B (Wt? true v2 (tm.gt 0)) (fun v4 => B (Wt? true v2 (tm.gt 10)) (fun v5 => B (Wt? true v2 (indexAddr2 P 43 v4 v5)) (fun v6 => B (Wt? true v2 (load1 g v6)) (fun v7 => B (Wt? true v2 (tm.gt 0)) (fun v8 => B (Wt? true v2 (tm.gt 1)) (fun v9 => B (Wt? true v2 (indexAddr2 P 43 v8 v9)) (fun v10 => B (Wt? true v2 (load1 g v10)) (fun v11 => B (match wanted true v2 with | true => (call (.fn 119) [v7, v11] g) | false => some (undefA, g)) (fun r12 => B (eBool (fun t => match t with | true => some r12.1 | false => some (AV.bool false)) v2) (fun v13 => some ((tm.up (some v13) 112), r12.2)) tg) tg) tg) tg) tg) tg) tg) tg) tg) tg) tg) tg) tg := kDrw rfl (by kernel_rfl)
def c121_58 : AC := .reg [⟨none, .p2 (bin2 P .add 3) (.tmp 10) (.cst (AV.int .i64 1))⟩] [(10, .loc 0)]
def c121_51 : AC := .seq (.seq c121_53 (.cond (.tmp 112) .skip (.exit 6))) (.block 7 c121_58)
def c121_50 : AC := .loop c121_51
def c121_64g : List (Nat × GIns) := [(0, ⟨none, .mv (.tmp 10)⟩), (1, ⟨none, .mv (.tmp 11)⟩), (2, ⟨none, .p2 (bin2 P .leq 3) (.opi 0) (.opi 1)⟩), (3, ⟨none, .mv (.opi 2)⟩), (4, ⟨some (.opi 3, true), .mv (.tmp 0)⟩), (5, ⟨some (.opi 3, true), .mv (.tmp 11)⟩), (6, ⟨some (.opi 3, true), .p2 (indexAddr2 P 43) (.opi 4) (.opi 5)⟩), (7, ⟨some (.opi 3, true), .ld1 (.opi 6)⟩), (8, ⟨some (.opi 3, true), .mv (.tmp 0)⟩), (9, ⟨some (.opi 3, true), .mv (.tmp 1)⟩), (10, ⟨some (.opi 3, true), .p2 (indexAddr2 P 43) (.opi 8) (.opi 9)⟩), (11, ⟨some (.opi 3, true), .ld1 (.opi 10)⟩), (12, ⟨some (.opi 3, true), .cl (cf 119) [.opi 7, .opi 11]⟩), (13, ⟨some (.opi 3, true), .p1 (un1 .not) (.opi 12)⟩), (14, ⟨none, .pick (.opi 3) (.opi 13) (.cst (AV.bool false))⟩)]
def c121_64 : AC := .draw 15 (stagesOf #[0, 0, 3, 7, 15, 15, 63, 127, 15, 15, 783, 1807, 4095, 8191, 16383] c121_64g [12] 0 (c121_64g.filter fun x => x.2.i.eff)) [(129, 14)]
theorem r121_64 : RReg c121_64 fun call tm h => let g := Heap.mk h.bs (h.next + 15); B (tm.gt 10) (fun v0 => B (tm.gt 11) (fun v1 => B (bin2 P .leq 3 v0 v1) (fun v2 => B (Wt? true v2 (tm.gt 0)) (fun v4 => B (Wt? true v2 (tm.gt 11)) (fun v5 => B (Wt? true v2 (indexAddr2 P 43 v4 v5)) (fun v6 => B (Wt? true v2 (load1 g v6)) (fun v7 => B (Wt? true v2 (tm.gt 0)) (fun v8 => B (Wt? true v2 (tm.gt 1)) (fun v9 => B (Wt? true v2 (indexAddr2 P 43 v8 v9)) (fun v10 => B (Wt? true v2 (load1 g v10)) (fun v11 => B (match wanted true v2 with | true => (call (.fn 119) [v7, v11] g) | false => some (undefA, g)) (fun r12 => B (Wt? true v2 (un1 .not r12.1)) (fun v13 => B (eBool (fun t => match t with | true => some v13 | false => some (AV.bool false)) v2) (fun v14 => some ((tm.up (some v14) 129), r12.2)) tg) tg) tg) tg) tg) tg) tg) tg) tg) tg) tg) tg) tg) tg := kDrw rfl (by kernel_rfl)
def c121_69 : AC := .reg [⟨none, .p2 (bin2 P .sub 3) (.tmp 11) (.cst (AV.int .i64 1))⟩] [(11, .loc 0)]
def c121_62 : AC := .seq (.seq c121_64 (.cond (.tmp 129) .skip (.exit 8))) (.block 9 c121_69)
def c121_61 : AC := .loop c121_62
def c121_72 : AC := .reg [⟨none, .p2 (bin2 P .gtr 3) (.tmp 10) (.tmp 11)⟩] [(134, .loc 0)]
def c121_77g : List (Nat × GIns) := [(0, ⟨none, .mv (.tmp 0)⟩), (1, ⟨none, .mv (.tmp 10)⟩), (2, ⟨none, .mv (.tmp 0)⟩), (3, ⟨none, .mv (.tmp 11)⟩), (4, ⟨none, .mv (.tmp 0)⟩), (5, ⟨none, .mv (.tmp 11)⟩), (6, ⟨none, .p2 (indexAddr2 P 43) (.opi 4) (.opi 5)⟩), (7, ⟨none, .ld1 (.opi 6)⟩), (8, ⟨none, .mv (.tmp 0)⟩), (9, ⟨none, .mv (.tmp 10)⟩), (10, ⟨none, .p2 (indexAddr2 P 43) (.opi 8) (.opi 9)⟩), (11, ⟨none, .ld1 (.opi 10)⟩), (12, ⟨none, .p2 (indexAddr2 P 43) (.opi 0) (.opi 1)⟩), (13, ⟨none, .st1 (.opi 12) (.opi 7)⟩), (14, ⟨none, .p2 (indexAddr2 P 43) (.opi 2) (.opi 3)⟩), (15, ⟨none, .st1 (.opi 14) (.opi 11)⟩)]
def c121_77 : AC := .draw 16 (stagesOf #[0, 0, 0, 0, 0, 0, 48, 112, 0, 0, 768, 1792, 4083, 8179, 16383, 32767] c121_77g [13, 15] 0 (c121_77g.filter fun x => x.2.i.eff)) []
theorem r121_77 : RReg c121_77 fun call tm h => let g := Heap.mk h.bs (h.next + 16); B (tm.gt 0) (fun v0 => B (tm.gt 10) (fun v1 => B (tm.gt 0) (fun v2 => B (tm.gt 11) (fun v3 => B (tm.gt 0) (fun v4 => B (tm.gt 11) (fun v5 => B (indexAddr2 P 43 v4 v5) (fun v6 => B (load1 g v6) (fun v7 => B (tm.gt 0) (fun v8 => B (tm.gt 10) (fun v9 => B (indexAddr2 P 43 v8 v9) (fun v10 => B (load1 g v10) (fun v11 => B (indexAddr2 P 43 v0 v1) (fun v12 => B (store1 g v12 v7) (fun r13 => B (indexAddr2 P 43 v2 v3) (fun v14 => B (store1 r13.2 v14 v11) (fun r15 => some (tm, r15.2)) tg) tg) tg) tg) tg) tg) tg) tg) tg) tg) tg) tg) tg) tg) tg) tg := kDrw rfl (by kernel_rfl)
def c121_79 : AC := .reg [⟨none, .p2 (bin2 P .add 3) (.tmp 10) (.cst (AV.int .i64 1))⟩] [(10, .loc 0)]
def c121_80 : AC := .reg [⟨none, .p2 (bin2 P .sub 3) (.tmp 11) (.cst (AV.int .i64 1))⟩] [(11, .loc 0)]
def c121_70 : AC := .seq (.seq c121_72 (.cond (.tmp 134) (.exit 4) .skip)) (.seq c121_77 (.seq c121_79 c121_80))
def c121_47 : AC := .block 5 (.seq (.block 6 c121_50) (.seq (.block 8 c121_61) c121_70))
def c121_46 : AC := .loop c121_47
def c121_82g : List (Nat × GIns) := [(0, ⟨none, .mv (.tmp 0)⟩), (1, ⟨none, .mv (.tmp 11)⟩), (2, ⟨none, .mv (.tmp 0)⟩), (3, ⟨none, .mv (.tmp 1)⟩), (4, ⟨none, .mv (.tmp 0)⟩), (5, ⟨none, .mv (.tmp 1)⟩), (6, ⟨none, .p2 (indexAddr2 P 43) (.opi 4) (.opi 5)⟩), (7, ⟨none, .ld1 (.opi 6)⟩), (8, ⟨none, .mv (.tmp 0)⟩), (9, ⟨none, .mv (.tmp 11)⟩), (10, ⟨none, .p2 (indexAddr2 P 43) (.opi 8) (.opi 9)⟩), (11, ⟨none, .ld1 (.opi 10)⟩), (12, ⟨none, .p2 (indexAddr2 P 43) (.opi 0) (.opi 1)⟩), (13, ⟨none, .st1 (.opi 12) (.opi 7)⟩), (14, ⟨none, .p2 (indexAddr2 P 43) (.opi 2) (.opi 3)⟩), (15, ⟨none, .st1 (.opi 14) (.opi 11)⟩)]
def c121_82 : AC := .draw 16 (stagesOf #[0, 0, 0, 0, 0, 0, 48, 112, 0, 0, 768, 1792, 4083, 8179, 16383, 32767] c121_82g [13, 15] 0 (c121_82g.filter fun x => x.2.i.eff)) []
theorem r121_82 : RReg c121_82 fun call tm h => let g := Heap.mk h.bs (h.next + 16); B (tm.gt 0) (fun v0 => B (tm.gt 11) (fun v1 => B (tm.gt 0) (fun v2 => B (tm.gt 1) (fun v3 => B (tm.gt 0) (fun v4 => B (tm.gt 1) (fun v5 => B (indexAddr2 P 43 v4 v5) (fun v6 => B (load1 g v6) (fun v7 => B (tm.gt 0) (fun v8 => B (tm.gt 11) (fun v9 => B (indexAddr2 P 43 v8 v9) (fun v10 => B (load1 g v10) (fun v11 => B (indexAddr2 P 43 v0 v1) (fun v12 => B (store1 g v12 v7) (fun r13 => B (indexAddr2 P 43 v2 v3) (fun v14 => B (store1 r13.2 v14 v11) (fun r15 => some (tm, r15.2)) tg) tg) tg) tg) tg) tg) tg) tg) tg) tg) tg) tg) tg) tg) tg) tg := kDrw rfl (by kernel_rfl)
def c121_84 : AC := .reg [] [(9, .cst (AV.bool false)), (8, .tmp 11)]
def c121_42 : AC := .seq c121_43 (.seq (.block 4 c121_46) (.seq c121_82 (.seq c121_84 .ret)))
def c121_17 : AC := .seq (.block 2 c121_19) (.seq c121_29 (.seq c121_39 (.seq c121_41 c121_42)))
def c121_0 : AC := .seq c121_1 (.seq c121_3 (.seq c121_5 (.seq (.block 0 c121_8) c121_17)))
def fn121 : FnA := ⟨c121_0, [.tmp 8, .tmp 9], 168, true⟩
theorem f121A : fnA P (keepF P) 121 = some fn121 := by kernel_rfl
def F121 := An (kR c121_1 rfl) <| An r121_3 <| An (kR c121_5 rfl) <| An r121_11 <| An (kR c121_16 rfl) <| An (kS c121_9 rfl) <| An r121_22 <| An (kR c121_27 rfl) <| An (kS c121_20 rfl) <| An (kR c121_30 rfl) <| An r121_33 <| An (kR c121_35 rfl) <| An (kS c121_29 rfl) <| An r121_39 <| An (kR c121_41 rfl) <| An (kR c121_43 rfl) <| An r121_53 <| An (kR c121_58 rfl) <| An (kS c121_51 rfl) <| An r121_64 <| An (kR c121_69 rfl) <| An (kS c121_62 rfl) <| An (kR c121_72 rfl) <| An r121_77 <| An (kR c121_79 rfl) <| An (kR c121_80 rfl) <| An (kS c121_70 rfl) <| An (kB c121_47 rfl) <| An r121_82 <| An (kR c121_84 rfl) <| An (kS c121_42 rfl) <| An (kS c121_17 rfl) <| (kS c121_0 rfl)
def c123_1 : AC := .reg [] [(2, .cst (AV.int .i64 0))]
def c123_4 : AC := .reg [⟨none, .p2 (bin2 P .geq 153) (.tmp 0) (.cst (AV.int .u64 4294967296))⟩] [(4, .loc 0)]
def c123_7 : AC := .reg [⟨none, .p2 (bin2 P .shr 153) (.tmp 0) (.cst (AV.int .u64 32))⟩] [(0, .loc 0)]
def c123_8 : AC := .reg [] [(2, .cst (AV.int .i64 32))]
def c123_12 : AC := .reg [⟨none, .p2 (bin2 P .geq 153) (.tmp 0) (.cst (AV.int .u64 65536))⟩] [(8, .loc 0)]
def c123_15 : AC := .reg [⟨none, .p2 (bin2 P .shr 153) (.tmp 0) (.cst (AV.int .u64 16))⟩] [(0, .loc 0)]
def c123_16 : AC := .reg [⟨none, .p2 (bin2 P .add 3) (.tmp 2) (.cst (AV.int .i64 16))⟩] [(2, .loc 0)]
def c123_20 : AC := .reg [⟨none, .p2 (bin2 P .geq 153) (.tmp 0) (.cst (AV.int .u64 256))⟩] [(14, .loc 0)]
def c123_23 : AC := .reg [⟨none, .p2 (bin2 P .shr 153) (.tmp 0) (.cst (AV.int .u64 8))⟩] [(0, .loc 0)]
def c123_24 : AC := .reg [⟨none, .p2 (bin2 P .add 3) (.tmp 2) (.cst (AV.int .i64 8))⟩] [(2, .loc 0)]
def c123_27 : AC := .reg [⟨none, .p1 (conv1 P 153 5) (.tmp 0)⟩, ⟨none, .p2 (index2 P 9) (.cst (AV.str [0, 1, 2, 2, 3, 3, 3, 3, 4, 4, 4, 4, 4, 4, 4, 4, 5, 5, 5, 5, 5, 5, 5, 5, 5, 5, 5, 5, 5, 5, 5, 5, 6, 6, 6, 6, 6, 6, 6, 6, 6, 6, 6, 6, 6, 6, 6, 6, 6, 6, 6, 6, 6, 6, 6, 6, 6, 6, 6, 6, 6, 6, 6, 6, 7, 7, 7, 7, 7, 7, 7, 7, 7, 7, 7, 7, 7, 7, 7, 7, 7, 7, 7, 7, 7, 7, 7, 7, 7, 7, 7, 7, 7, 7, 7, 7, 7, 7, 7, 7, 7, 7, 7, 7, 7, 7, 7, 7, 7, 7, 7, 7, 7, 7, 7, 7, 7, 7, 7, 7, 7, 7, 7, 7, 7, 7, 7, 7, 8, 8, 8, 8, 8, 8, 8, 8, 8, 8, 8, 8, 8, 8, 8, 8, 8, 8, 8, 8, 8, 8, 8, 8, 8, 8, 8, 8, 8, 8, 8, 8, 8, 8, 8, 8, 8, 8, 8, 8, 8, 8, 8, 8, 8, 8, 8, 8, 8, 8, 8, 8, 8, 8, 8, 8, 8, 8, 8, 8, 8, 8, 8, 8, 8, 8, 8, 8, 8, 8, 8, 8, 8, 8, 8, 8, 8, 8, 8, 8, 8, 8, 8, 8, 8, 8, 8, 8, 8, 8, 8, 8, 8, 8, 8, 8, 8, 8, 8, 8, 8, 8, 8, 8, 8, 8, 8, 8, 8, 8, 8, 8, 8, 8, 8, 8, 8, 8, 8, 8, 8, 8, 8, 8, 8, 8, 8, 8])) (.loc 0)⟩, ⟨none, .p1 (conv1 P 5 3) (.loc 0)⟩, ⟨none, .p2 (bin2 P .add 3) (.tmp 2) (.loc 0)⟩] [(2, .loc 0)]
def c123_18 : AC := .seq (.seq c123_20 (.cond (.tmp 14) (.seq c123_23 c123_24) .skip)) (.seq c123_27 .ret)
def c123_10 : AC := .seq (.seq c123_12 (.cond (.tmp 8) (.seq c123_15 c123_16) .skip)) c123_18
def c123_2 : AC := .seq (.seq c123_4 (.cond (.tmp 4) (.seq c123_7 c123_8) .skip)) c123_10
def fn123 : FnA := ⟨(.seq c123_1 c123_2), [.tmp 2], 25, true⟩
theorem f123A : fnA P (keepF P) 123 = some fn123 := by kernel_rfl
def F123 := An (kR c123_1 rfl) <| An (kR c123_4 rfl) <| An (kR c123_7 rfl) <| An (kR c123_8 rfl) <| An (kR c123_12 rfl) <| An (kR c123_15 rfl) <| An (kR c123_16 rfl) <| An (kR c123_20 rfl) <| An (kR c123_23 rfl) <| An (kR c123_24 rfl) <| An (kR c123_27 rfl) <| An (kS c123_18 rfl) <| An (kS c123_10 rfl) <| (kS c123_2 rfl)
def c125_1 : AC := .reg [] [(8, .tmp 1)]
def c125_6 : AC := .reg [⟨none, .p2 (bin2 P .mul 3) (.cst (AV.int .i64 2)) (.tmp 8)⟩, ⟨none, .p2 (bin2 P .add 3) (.loc 0) (.cst (AV.int .i64 1))⟩] [(9, .loc 0)]
def c125_9 : AC := .reg [⟨none, .p2 (bin2 P .geq 3) (.tmp 9) (.tmp 2)⟩] [(16, .loc 0)]
def c125_15g : List (Nat × GIns) := [(0, ⟨none, .mv (.tmp 9)⟩), (1, ⟨none, .p2 (bin2 P .add 3) (.opi 0) (.cst (AV.int .i64 1))⟩), (2, ⟨none, .mv (.tmp 2)⟩), (3, ⟨none, .p2 (bin2 P .lss 3) (.opi 1) (.opi 2)⟩), (4, ⟨none, .mv (.opi 3)⟩), (5, ⟨some (.opi 4, true), .mv (.tmp 0)⟩), (6, ⟨some (.opi 4, true), .mv (.tmp 3)⟩), (7, ⟨some (.opi 4, true), .mv (.tmp 9)⟩), (8, ⟨some (.opi 4, true), .p2 (bin2 P .add 3) (.opi 6) (.opi 7)⟩), (9, ⟨some (.opi 4, true), .p2 (indexAddr2 P 43) (.opi 5) (.opi 8)⟩), (10, ⟨some (.opi 4, true), .ld1 (.opi 9)⟩), (11, ⟨some (.opi 4, true), .mv (.tmp 0)⟩), (12, ⟨some (.opi 4, true), .mv (.tmp 3)⟩), (13, ⟨some (.opi 4, true), .mv (.tmp 9)⟩), (14, ⟨some (.opi 4, true), .p2 (bin2 P .add 3) (.opi 12) (.opi 13)⟩), (15, ⟨some (.opi 4, true), .p2 (bin2 P .add 3) (.opi 14) (.cst (AV.int .i64 1))⟩), (16, ⟨some (.opi 4, true), .p2 (indexAddr2 P 43) (.opi 11) (.opi 15)⟩), (17, ⟨some (.opi 4, true), .ld1 (.opi 16)⟩), (18, ⟨some (.opi 4, true), .cl (cf 119) [.opi 10, .opi 17]⟩), (19, ⟨none, .pick (.opi 4) (.opi 18) (.cst (AV.bool false))⟩)]
def c125_15 : AC := .draw 20 (stagesOf #[0, 1, 0, 7, 15, 31, 31, 31, 223, 511, 1023, 31, 31, 31, 12319, 28703, 63519, 129055, 262143, 524287] c125_15g [18] 0 (c125_15g.filter fun x => x.2.i.eff)) [(36, 19)]
theorem r125_15 : RReg c125_15 fun call tm h => let g := Heap.mk h.bs (h.next + 20); B (tm.gt 9) (fun v0 => B (bin2 P .add 3 v0 (AV.int .i64 1)) (fun v1 => B (tm.gt 2) (fun v2 => B (bin2 P .lss 3 v1 v2) (fun v3 => B (Wt? true v3 (tm.gt 0)) (fun v5 => B (Wt? true v3 (tm.gt 3)) (fun v6 => B (Wt? true v3 (tm.gt 9)) (fun v7 => B (Wt? true v3 (bin2 P .add 3 v6 v7)) (fun v8 => B (Wt? true v3 (indexAddr2 P 43 v5 v8)) (fun v9 => B (Wt? true v3 (load1 g v9)) (fun v10 => B (Wt? true v3 (tm.gt 0)) (fun v11 => B (Wt? true v3 (tm.gt 3)) (fun v12 => B (Wt? true v3 (tm.gt 9)) (fun v13 => B (Wt? true v3 (bin2 P .add 3 v12 v13)) (fun v14 => B (Wt? true v3 (bin2 P .add 3 v14 (AV.int .i64 1))) (fun v15 => B (Wt? true v3 (indexAddr2 P 43 v11 v15)) (fun v16 => B (Wt? true v3 (load1 g v16)) (fun v17 => B (match wanted true v3 with | true => (call (.fn 119) [v10, v17] g) | false => some (undefA, g)) (fun r18 => B (eBool (fun t => match t with | true => some r18.1 | false => some (AV.bool false)) v3) (fun v19 => some ((tm.up (some v19) 36), r18.2)) tg) tg) tg) tg) tg) tg) tg) tg) tg) tg) tg) tg) tg) tg) tg) tg) tg) tg) tg := kDrw rfl (by kernel_rfl)
def c125_17 : AC := .reg [⟨none, .p2 (bin2 P .add 3) (.tmp 9) (.cst (AV.int .i64 1))⟩] [(9, .loc 0)]
def c125_21g : List (Nat × GIns) := [(0, ⟨none, .mv (.tmp 0)⟩), (1, ⟨none, .mv (.tmp 3)⟩), (2, ⟨none, .mv (.tmp 8)⟩), (3, ⟨none, .p2 (bin2 P .add 3) (.opi 1) (.opi 2)⟩), (4, ⟨none, .p2 (indexAddr2 P 43) (.opi 0) (.opi 3)⟩), (5, ⟨none, .ld1 (.opi 4)⟩), (6, ⟨none, .mv (.tmp 0)⟩), (7, ⟨none, .mv (.tmp 3)⟩), (8, ⟨none, .mv (.tmp 9)⟩), (9, ⟨none, .p2 (bin2 P .add 3) (.opi 7) (.opi 8)⟩), (10, ⟨none, .p2 (indexAddr2 P 43) (.opi 6) (.opi 9)⟩), (11, ⟨none, .ld1 (.opi 10)⟩), (12, ⟨none, .cl (cf 119) [.opi 5, .opi 11]⟩), (13, ⟨none, .p1 (un1 .not) (.opi 12)⟩)]
def c125_21 : AC := .draw 14 (stagesOf #[0, 0, 0, 6, 15, 31, 0, 0, 0, 384, 960, 1984, 4095, 8191] c125_21g [12] 0 (c125_21g.filter fun x => x.2.i.eff)) [(52, 13)]
theorem r125_21 : RReg c125_21 fun call tm h => let g := Heap.mk h.bs (h.next + 14); B (tm.gt 0) (fun v0 => B (tm.gt 3) (fun v1 => B (tm.gt 8) (fun v2 => B (bin2 P .add 3 v1 v2) (fun v3 => B (indexAddr2 P 43 v0 v3) (fun v4 => B (load1 g v4) (fun v5 => B (tm.gt 0) (fun v6 => B (tm.gt 3) (fun v7 => B (tm.gt 9) (fun v8 => B (bin2 P .add 3 v7 v8) (fun v9 => B (indexAddr2 P 43 v6 v9) (fun v10 => B (load1 g v10) (fun v11 => B (call (.fn 119) [v5, v11] g) (fun r12 => B (un1 .not r12.1) (fun v13 => some ((tm.up (some v13) 52), r12.2)) tg) tg) tg) tg) tg) tg) tg) tg) tg) tg) tg) tg) tg) tg := kDrw rfl (by kernel_rfl)
def c125_26g : List (Nat × GIns) := [(0, ⟨none, .mv (.tmp 0)⟩), (1, ⟨none, .mv (.tmp 3)⟩), (2, ⟨none, .mv (.tmp 8)⟩), (3, ⟨none, .p2 (bin2 P .add 3) (.opi 1) (.opi 2)⟩), (4, ⟨none, .mv (.tmp 0)⟩), (5, ⟨none, .mv (.tmp 3)⟩), (6, ⟨none, .mv (.tmp 9)⟩), (7, ⟨none, .p2 (bin2 P .add 3) (.opi 5) (.opi 6)⟩), (8, ⟨none, .mv (.tmp 0)⟩), (9, ⟨none, .mv (.tmp 3)⟩), (10, ⟨none, .mv (.tmp 9)⟩), (11, ⟨none, .p2 (bin2 P .add 3) (.opi 9) (.opi 10)⟩), (12, ⟨none, .p2 (indexAddr2 P 43) (.opi 8) (.opi 11)⟩), (13, ⟨none, .ld1 (.opi 12)⟩), (14, ⟨none, .mv (.tmp 0)⟩), (15, ⟨none, .mv (.tmp 3)⟩), (16, ⟨none, .mv (.tmp 8)⟩), (17, ⟨none, .p2 (bin2 P .add 3) (.opi 15) (.opi 16)⟩), (18, ⟨none, .p2 (indexAddr2 P 43) (.opi 14) (.opi 17)⟩), (19, ⟨none, .ld1 (.opi 18)⟩), (20, ⟨none, .p2 (indexAddr2 P 43) (.opi 0) (.opi 3)⟩), (21, ⟨none, .st1 (.opi 20) (.opi 13)⟩), (22, ⟨none, .p2 (indexAddr2 P 43) (.opi 4) (.opi 7)⟩), (23, ⟨none, .st1 (.opi 22) (.opi 19)⟩)]
def c125_26 : AC := .draw 24 (stagesOf #[0, 0, 0, 6, 0, 0, 0, 96, 0, 0, 0, 1536, 3840, 7936, 0, 0, 0, 98304, 245760, 507904, 1048335, 2096911, 4194303, 8388607] c125_26g [21, 23] 0 (c125_26g.filter fun x => x.2.i.eff)) []
theorem r125_26 : RReg c125_26 fun call tm h => let g := Heap.mk h.bs (h.next + 24); B (tm.gt 0) (fun v0 => B (tm.gt 3) (fun v1 => B (tm.gt 8) (fun v2 => B (bin2 P .add 3 v1 v2) (fun v3 => B (tm.gt 0) (fun v4 => B (tm.gt 3) (fun v5 => B (tm.gt 9) (fun v6 => B (bin2 P .add 3 v5 v6) (fun v7 => B (tm.gt 0) (fun v8 => B (tm.gt 3) (fun v9 => B (tm.gt 9) (fun v10 => B (bin2 P .add 3 v9 v10) (fun v11 => B (indexAddr2 P 43 v8 v11) (fun v12 => B (load1 g v12) (fun v13 => B (tm.gt 0) (fun v14 => B (tm.gt 3) (fun v15 => B (tm.gt 8) (fun v16 => B (bin2 P .add 3 v15 v16) (fun v17 => B (indexAddr2 P 43 v14 v17) (fun v18 => B (load1 g v18) (fun v19 => B (indexAddr2 P 43 v0 v3) (fun v20 => B (store1 g v20 v13) (fun r21 => B (indexAddr2 P 43 v4 v7) (fun v22 => B (store1 r21.2 v22 v19) (fun r23 => some (tm, r23.2)) tg) tg) tg) tg) tg) tg) tg) tg) tg) tg) tg) tg) tg) tg) tg) tg) tg) tg) tg) tg) tg) tg) tg) tg := kDrw rfl (by kernel_rfl)
def c125_27 : AC := .reg [] [(8, .tmp 9)]
def c125_19 : AC := .seq (.seq c125_21 (.cond (.tmp 52) .ret .skip)) (.seq c125_26 c125_27)
def c125_7 : AC := .seq (.seq c125_9 (.cond (.tmp 16) (.exit 0) .skip)) (.seq (.seq c125_15 (.cond (.tmp 36) c125_17 .skip)) c125_19)
def c125_4 : AC := .block 1 (.seq c125_6 c125_7)
def c125_3 : AC := .loop c125_4
theorem r125_19 : type_of% (kS c125_19 rfl) := (kS c125_19 rfl)
def fn125 : FnA := ⟨(.seq c125_1 (.block 0 c125_3)), [], 76, true⟩
theorem f125A : fnA P (keepF P) 125 = some fn125 := by kernel_rfl
def F125 := An (kR c125_1 rfl) <| An (kR c125_6 rfl) <| An (kR c125_9 rfl) <| An r125_15 <| An (kR c125_17 rfl) <| An r125_21 <| An r125_26 <| An (kR c125_27 rfl) <| An (kS c125_7 rfl) <| (kB c125_4 rfl)
def c126_1 : AC := .reg [] [(2, .cst (AV.int .u64 0))]
def c126_3 : AC := .reg [⟨none, .p1 (conv1 P 3 119) (.tmp 0)⟩, ⟨none, .cl (cf 110) [.loc 0]⟩, ⟨none, .p2 (bin2 P .shl 119) (.cst (AV.int .u64 1)) (.loc 0)⟩] [(2, .loc 0)]
def fn126 : FnA := ⟨(.seq c126_1 (.seq c126_3 .ret)), [.tmp 2], 7, true⟩
theorem f126A : fnA P (keepF P) 126 = some fn126 := by kernel_rfl
def F126 := An (kR c126_1 rfl) <| (kR c126_3 rfl)
def c127_1 : AC := .reg [] [(2, .cst (AV.int .u64 0))]
def c127_3g : List (Nat × GIns) := [(0, ⟨none, .mv (.tmp 0)⟩), (1, ⟨none, .p1 (notNil) (.opi 0)⟩), (2, ⟨none, .ld1 (.opi 1)⟩), (3, ⟨none, .mv (.tmp 0)⟩), (4, ⟨none, .p1 (notNil) (.opi 3)⟩), (5, ⟨none, .ld1 (.opi 4)⟩), (6, ⟨none, .p2 (bin2 P .shl 182) (.opi 5) (.cst (AV.int .u64 13))⟩), (7, ⟨none, .p2 (bin2 P .xor 182) (.opi 2) (.opi 6)⟩), (8, ⟨none, .p1 (notNil) (.opi 0)⟩), (9, ⟨none, .st1 (.opi 8) (.opi 7)⟩)]
def c127_3 : AC := .draw 10 (stagesOf #[0, 1, 3, 0, 8, 24, 56, 127, 255, 511] c127_3g [9] 0 (c127_3g.filter fun x => x.2.i.eff)) []
theorem r127_3 : RReg c127_3 fun call tm h => let g := Heap.mk h.bs (h.next + 10); B (tm.gt 0) (fun v0 => B (notNil v0) (fun v1 => B (load1 g v1) (fun v2 => B (tm.gt 0) (fun v3 => B (notNil v3) (fun v4 => B (load1 g v4) (fun v5 => B (bin2 P .shl 182 v5 (AV.int .u64 13)) (fun v6 => B (bin2 P .xor 182 v2 v6) (fun v7 => B (notNil v0) (fun v8 => B (store1 g v8 v7) (fun r9 => some (tm, r9.2)) tg) tg) tg) tg) tg) tg) tg) tg) tg) tg := kDrw rfl (by kernel_rfl)
def c127_5g : List (Nat × GIns) := [(0, ⟨none, .mv (.tmp 0)⟩), (1, ⟨none, .p1 (notNil) (.opi 0)⟩), (2, ⟨none, .ld1 (.opi 1)⟩), (3, ⟨none, .mv (.tmp 0)⟩), (4, ⟨none, .p1 (notNil) (.opi 3)⟩), (5, ⟨none, .ld1 (.opi 4)⟩), (6, ⟨none, .p2 (bin2 P .shr 182) (.opi 5) (.cst (AV.int .u64 7))⟩), (7, ⟨none, .p2 (bin2 P .xor 182) (.opi 2) (.opi 6)⟩), (8, ⟨none, .p1 (notNil) (.opi 0)⟩), (9, ⟨none, .st1 (.opi 8) (.opi 7)⟩)]
def c127_5 : AC := .draw 10 (stagesOf #[0, 1, 3, 0, 8, 24, 56, 127, 255, 511] c127_5g [9] 0 (c127_5g.filter fun x => x.2.i.eff)) []
theorem r127_5 : RReg c127_5 fun call tm h => let g := Heap.mk h.bs (h.next + 10); B (tm.gt 0) (fun v0 => B (notNil v0) (fun v1 => B (load1 g v1) (fun v2 => B (tm.gt 0) (fun v3 => B (notNil v3) (fun v4 => B (load1 g v4) (fun v5 => B (bin2 P .shr 182 v5 (AV.int .u64 7)) (fun v6 => B (bin2 P .xor 182 v2 v6) (fun v7 => B (notNil v0) (fun v8 => B (store1 g v8 v7) (fun r9 => some (tm, r9.2)) tg) tg) tg) tg) tg) tg) tg) tg) tg) tg := kDrw rfl (by kernel_rfl)
def c127_7g : List (Nat × GIns) := [(0, ⟨none, .mv (.tmp 0)⟩), (1, ⟨none, .p1 (notNil) (.opi 0)⟩), (2, ⟨none, .ld1 (.opi 1)⟩), (3, ⟨none, .mv (.tmp 0)⟩), (4, ⟨none, .p1 (notNil) (.opi 3)⟩), (5, ⟨none, .ld1 (.opi 4)⟩), (6, ⟨none, .p2 (bin2 P .shl 182) (.opi 5) (.cst (AV.int .u64 17))⟩), (7, ⟨none, .p2 (bin2 P .xor 182) (.opi 2) (.opi 6)⟩), (8, ⟨none, .p1 (notNil) (.opi 0)⟩), (9, ⟨none, .st1 (.opi 8) (.opi 7)⟩)]
def c127_7 : AC := .draw 10 (stagesOf #[0, 1, 3, 0, 8, 24, 56, 127, 255, 511] c127_7g [9] 0 (c127_7g.filter fun x => x.2.i.eff)) []
theorem r127_7 : RReg c127_7 fun call tm h => let g := Heap.mk h.bs (h.next + 10); B (tm.gt 0) (fun v0 => B (notNil v0) (fun v1 => B (load1 g v1) (fun v2 => B (tm.gt 0) (fun v3 => B (notNil v3) (fun v4 => B (load1 g v4) (fun v5 => B (bin2 P .shl 182 v5 (AV.int .u64 17)) (fun v6 => B (bin2 P .xor 182 v2 v6) (fun v7 => B (notNil v0) (fun v8 => B (store1 g v8 v7) (fun r9 => some (tm, r9.2)) tg) tg) tg) tg) tg) tg) tg) tg) tg) tg := kDrw rfl (by kernel_rfl)
def c127_9 : AC := .reg [⟨none, .p1 (notNil) (.tmp 0)⟩, ⟨none, .ld1 (.loc 0)⟩] [(2, .loc 0)]
def c127_0 : AC := .seq c127_1 (.seq c127_3 (.seq c127_5 (.seq c127_7 (.seq c127_9 .ret))))
def fn127 : FnA := ⟨c127_0, [.tmp 2], 33, true⟩
theorem f127A : fnA P (keepF P) 127 = some fn127 := by kernel_rfl
def F127 := An (kR c127_1 rfl) <| An r127_3 <| An r127_5 <| An r127_7 <| An (kR c127_9 rfl) <| (kS c127_0 rfl)
def c128_1 : AC := .reg [] [(6, .cst (AV.int .i64 0))]
def c128_3 : AC := .reg [⟨none, .p2 (bin2 P .sub 3) (.tmp 1) (.cst (AV.int .i64 1))⟩, ⟨none, .p2 (bin2 P .add 3) (.tmp 1) (.cst (AV.int .i64 1))⟩, ⟨none, .cl (cf 129) [.tmp 0, .loc 1, .tmp 1, .loc 0, .tmp 2]⟩] [(6, .loc 0)]
def fn128 : FnA := ⟨(.seq c128_1 (.seq c128_3 .ret)), [.tmp 6], 15, true⟩
theorem f128A : fnA P (keepF P) 128 = some fn128 := by kernel_rfl
def F128 := An (kR c128_1 rfl) <| (kR c128_3 rfl)
def c129_1 : AC := .reg [] [(10, .cst (AV.int .i64 0))]
def c129_3 : AC := .reg [⟨none, .cl (cf 131) [.tmp 0, .tmp 1, .tmp 2, .tmp 4]⟩, ⟨none, .p1 (nthTuple 0) (.loc 0)⟩, ⟨none, .p1 (nthTuple 1) (.loc 1)⟩] [(2, .loc 0), (1, .loc 1)]
def c129_5 : AC := .reg [⟨none, .cl (cf 131) [.tmp 0, .tmp 2, .tmp 3, .tmp 4]⟩, ⟨none, .p1 (nthTuple 0) (.loc 0)⟩, ⟨none, .p1 (nthTuple 1) (.loc 1)⟩] [(3, .loc 0), (2, .loc 1)]
def c129_7 : AC := .reg [⟨none, .cl (cf 131) [.tmp 0, .tmp 1, .tmp 2, .tmp 4]⟩, ⟨none, .p1 (nthTuple 0) (.loc 0)⟩, ⟨none, .p1 (nthTuple 1) (.loc 1)⟩] [(2, .loc 0), (1, .loc 1)]
def c129_9 : AC := .reg [] [(10, .tmp 2)]
def c129_0 : AC := .seq c129_1 (.seq c129_3 (.seq c129_5 (.seq c129_7 (.seq c129_9 .ret))))
def fn129 : FnA := ⟨c129_0, [.tmp 10], 36, true⟩
theorem f129A : fnA P (keepF P) 129 = some fn129 := by kernel_rfl
def F129 := An (kR c129_1 rfl) <| An (kR c129_3 rfl) <| An (kR c129_5 rfl) <| An (kR c129_7 rfl) <| An (kR c129_9 rfl) <| (kS c129_0 rfl)
def c131_1 : AC := .reg [] [(9, .cst (AV.int .i64 0)), (8, .cst (AV.int .i64 0))]
def c131_4g : List (Nat × GIns) := [(0, ⟨none, .mv (.tmp 0)⟩), (1, ⟨none, .mv (.tmp 2)⟩), (2, ⟨none, .p2 (indexAddr2 P 43) (.opi 0) (.opi 1)⟩), (3, ⟨none, .ld1 (.opi 2)⟩), (4, ⟨none, .mv (.tmp 0)⟩), (5, ⟨none, .mv (.tmp 1)⟩), (6, ⟨none, .p2 (indexAddr2 P 43) (.opi 4) (.opi 5)⟩), (7, ⟨none, .ld1 (.opi 6)⟩), (8, ⟨none, .cl (cf 119) [.opi 3, .opi 7]⟩)]
def c131_4 : AC := .draw 9 (stagesOf #[0, 0, 3, 7, 0, 0, 48, 112, 255] c131_4g [8] 0 (c131_4g.filter fun x => x.2.i.eff)) [(18, 8)]
theorem r131_4 : RReg c131_4 fun call tm h => let g := Heap.mk h.bs (h.next + 9); B (tm.gt 0) (fun v0 => B (tm.gt 2) (fun v1 => B (indexAddr2 P 43 v0 v1) (fun v2 => B (load1 g v2) (fun v3 => B (tm.gt 0) (fun v4 => B (tm.gt 1) (fun v5 => B (indexAddr2 P 43 v4 v5) (fun v6 => B (load1 g v6) (fun v7 => B (call (.fn 119) [v3, v7] g) (fun r8 => some ((tm.up (some r8.1) 18), r8.2)) tg) tg) tg) tg) tg) tg) tg) tg) tg := kDrw rfl (by kernel_rfl)
def c131_7 : AC := .reg [⟨none, .p1 (notNil) (.tmp 3)⟩, ⟨none, .ld1 (.loc 0)⟩, ⟨none, .p2 (bin2 P .add 3) (.loc 0) (.cst (AV.int .i64 1))⟩, ⟨none, .p1 (notNil) (.tmp 3)⟩, ⟨none, .st1 (.loc 0) (.loc 1)⟩] []
def c131_9 : AC := .reg [] [(9, .tmp 1), (8, .tmp 2)]
def c131_3 : AC := .seq c131_4 (.cond (.tmp 18) (.seq c131_7 (.seq c131_9 .ret)) .skip)
def c131_13 : AC := .reg [] [(9, .tmp 2), (8, .tmp 1)]
def fn131 : FnA := ⟨(.seq c131_1 (.seq c131_3 (.seq c131_13 .ret))), [.tmp 8, .tmp 9], 28, true⟩
theorem f131A : fnA P (keepF P) 131 = some fn131 := by kernel_rfl
def F131 := An (kR c131_1 rfl) <| An r131_4 <| An (kR c131_7 rfl) <| An (kR c131_9 rfl) <| An (kS c131_3 rfl) <| (kR c131_13 rfl)
theorem x_len_43 (a : Option (Nat × Nat)) (n c : Nat) (g : Option Nat) : len1 P 43 (.slice a n c g) = some (.int .i64 n) := len_slice (e := 27) (by kernel_rfl) a n c g
theorem x_cv_3_119 (k : IntKind) (n : Int) : conv1 P 3 119 (.int k n) = some (.int .u64 (IntKind.wrap .u64 n)) := cv_int (d := (.int .i64)) (by kernel_rfl) (by kernel_rfl) k n
theorem s_27 : tSize P 27 = some 1 := by kernel_rfl
theorem b_27 : tBytes P 27 = some 4 := by kernel_rfl
theorem z_27 : tZero P 27 = some (AV.int .u32 0) := by kernel_rfl
theorem x_ia_43 {k : IntKind} {b o n c i : Nat} {g : Option Nat} (hi : i < n) : indexAddr2 P 43 (.slice (some (b, o)) n c g) (.int k (i : Int)) = some (.ptr (some (b, o + i * 1))) := ia_slice (e := 27) (by kernel_rfl) (by kernel_rfl) hi
theorem x_cv_3_182 (k : IntKind) (n : Int) : conv1 P 3 182 (.int k n) = some (.int .u64 (IntKind.wrap .u64 n)) := cv_int (d := (.int .i64)) (by kernel_rfl) (by kernel_rfl) k n
theorem x_al_182 : allocN P 182 = some (.cells (fillC [(AV.int .u64 0)] .leaf 0) (tyMark 182 true) 1 false, ptrTo) := by kernel_rfl
theorem x_cv_119_3 (k : IntKind) (n : Int) : conv1 P 119 3 (.int k n) = some (.int .i64 (IntKind.wrap .i64 n)) := cv_int (d := (.int .u64)) (by kernel_rfl) (by kernel_rfl) k n
theorem x_al_3 : allocN P 3 = some (.cells (fillC [(AV.int .i64 0)] .leaf 0) (tyMark 3 true) 1 false, ptrTo) := by kernel_rfl
theorem x_ix_9 {k : IntKind} (l : List Nat) (i : Nat) : index2 P 9 (.str l) (.int k (i : Int)) = l[i]?.map fun c => .int .u8 (c : Int) := ix_str (by kernel_rfl) l i
theorem x_cv_5_3 (k : IntKind) (n : Int) : conv1 P 5 3 (.int k n) = some (.int .i64 (IntKind.wrap .i64 n)) := cv_int (d := (.int .u8)) (by kernel_rfl) (by kernel_rfl) k n
theorem x_cv_153_5 (k : IntKind) (n : Int) : conv1 P 153 5 (.int k n) = some (.int .u8 (IntKind.wrap .u8 n)) := cv_int (d := (.int .u64)) (by kernel_rfl) (by kernel_rfl) k n
end
end Go.Proofs.Ytlfednnfkejcjaa

namespace Go.Proofs.Ytlfednnfkejcjaa
open Go.Am
noncomputable section
def c8_1 : AC := .reg [] [(6, .cst (AV.bool false))]
def c8_4 : AC := .reg [⟨none, .cl (cf 32) [.tmp 0]⟩, ⟨none, .p1 (un1 .not) (.loc 0)⟩, ⟨some (.loc 0, false), .mv (.tmp 1)⟩, ⟨some (.loc 1, false), .cl (cf 32) [.loc 0]⟩, ⟨some (.loc 2, false), .p1 (un1 .not) (.loc 0)⟩, ⟨none, .pick (.loc 3) (.cst (AV.bool true)) (.loc 0)⟩] [(38, .loc 0)]
def c8_7 : AC := .reg [⟨none, .cl (cf 11) []⟩] [(6, .loc 0)]
def c8_11 : AC := .reg [⟨none, .cl (cf 12) []⟩, ⟨none, .cl (cf 12) []⟩] [(8, .loc 0), (7, .loc 1)]
def c8_14 : AC := .reg [] [(9, .cst (AV.int .i64 0))]
def c8_19 : AC := .reg [⟨none, .pn (l1 (len1 P 60)) [.tmp 0]⟩, ⟨none, .p2 (bin2 P .lss 3) (.tmp 9) (.loc 0)⟩] [(45, .loc 0)]
def c8_25 : AC := .reg [⟨none, .p2 (indexAddr2 P 60) (.tmp 0) (.tmp 9)⟩, ⟨none, .ldn 7 (.loc 0)⟩, ⟨none, .cl (cf 33) [.tmp 7, .loc 0]⟩] []
def c8_26 : AC := .reg [⟨none, .p2 (bin2 P .add 3) (.tmp 9) (.cst (AV.int .i64 1))⟩] [(9, .loc 0)]
def c8_17 : AC := .seq (.seq c8_19 (.cond (.tmp 45) .skip (.exit 0))) (.seq (.block 1 c8_25) c8_26)
def c8_16 : AC := .loop c8_17
def c8_28 : AC := .reg [⟨none, .cl (cf 34) [.tmp 7, .tmp 2]⟩] [(10, .loc 0)]
def c8_31 : AC := .reg [] [(11, .cst (AV.int .i64 0))]
def c8_36 : AC := .reg [⟨none, .pn (l1 (len1 P 43)) [.tmp 10]⟩, ⟨none, .p2 (bin2 P .lss 3) (.tmp 11) (.loc 0)⟩] [(60, .loc 0)]
def c8_43 : AC := .reg [⟨none, .p2 (indexAddr2 P 43) (.tmp 10) (.tmp 11)⟩, ⟨none, .ld1 (.loc 0)⟩, ⟨none, .cl (cf 35) [.tmp 7, .loc 0]⟩, ⟨none, .p1 (nthTuple 0) (.loc 0)⟩, ⟨none, .p1 (nthTuple 1) (.loc 1)⟩, ⟨none, .p1 (nthTuple 2) (.loc 2)⟩, ⟨none, .p1 (nthTuple 3) (.loc 3)⟩] [(15, .loc 0), (14, .loc 1), (13, .loc 2), (12, .loc 3)]
def c8_45 : AC := .reg [⟨none, .p1 (un1 .not) (.tmp 15)⟩, ⟨some (.loc 0, false), .mv (.tmp 8)⟩, ⟨some (.loc 1, false), .mv (.tmp 10)⟩, ⟨some (.loc 2, false), .mv (.tmp 11)⟩, ⟨some (.loc 3, false), .p2 (indexAddr2 P 43) (.loc 1) (.loc 0)⟩, ⟨some (.loc 4, false), .ld1 (.loc 0)⟩, ⟨some (.loc 5, false), .mv (.tmp 12)⟩, ⟨some (.loc 6, false), .mv (.tmp 13)⟩, ⟨some (.loc 7, false), .mv (.tmp 14)⟩, ⟨some (.loc 8, false), .cl (cf 36) [.loc 7, .loc 3, .loc 2, .loc 1, .loc 0]⟩, ⟨some (.loc 9, false), .p2 (bin2 P .neq 33) (.loc 0) (.cst (AV.int .i64 0))⟩, ⟨none, .pick (.loc 10) (.cst (AV.bool true)) (.loc 0)⟩] [(87, .loc 0)]
def c8_48 : AC := .reg [] [(6, .cst (AV.bool false))]
def c8_42 : AC := .seq c8_43 (.seq c8_45 (.cond (.tmp 87) (.seq c8_48 .ret) .skip))
def c8_51 : AC := .reg [⟨none, .p2 (bin2 P .add 3) (.tmp 11) (.cst (AV.int .i64 1))⟩] [(11, .loc 0)]
def c8_34 : AC := .seq (.seq c8_36 (.cond (.tmp 60) .skip (.exit 2))) (.seq (.block 3 c8_42) c8_51)
def c8_33 : AC := .loop c8_34
def c8_53 : AC := .reg [⟨none, .cl (cf 38) [.tmp 7]⟩, ⟨none, .cl (cf 37) [.tmp 8, .loc 0]⟩] []
def c8_56 : AC := .reg [] [(16, .cst (AV.int .i64 0))]
def c8_61 : AC := .reg [⟨none, .pn (l1 (len1 P 60)) [.tmp 1]⟩, ⟨none, .p2 (bin2 P .lss 3) (.tmp 16) (.loc 0)⟩] [(95, .loc 0)]
def c8_68 : AC := .reg [⟨none, .p2 (indexAddr2 P 60) (.tmp 1) (.tmp 16)⟩, ⟨none, .ldn 7 (.loc 0)⟩, ⟨none, .cl (cf 33) [.tmp 7, .loc 0]⟩, ⟨none, .p1 (nthTuple 0) (.loc 0)⟩, ⟨none, .p1 (nthTuple 1) (.loc 1)⟩, ⟨none, .p1 (nthTuple 2) (.loc 2)⟩] [(19, .loc 0), (18, .loc 1), (17, .loc 2)]
def c8_70 : AC := .reg [⟨none, .p2 (indexAddr2 P 60) (.tmp 1) (.tmp 16)⟩, ⟨none, .ldn 7 (.loc 0)⟩, ⟨none, .cl (cf 33) [.tmp 8, .loc 0]⟩, ⟨none, .p1 (nthTuple 0) (.loc 0)⟩, ⟨none, .p1 (nthTuple 1) (.loc 1)⟩, ⟨none, .p1 (nthTuple 2) (.loc 2)⟩] [(22, .loc 0), (21, .loc 1), (20, .loc 2)]
def c8_73 : AC := .reg [⟨none, .p2 (bin2 P .neq 27) (.tmp 17) (.tmp 20)⟩, ⟨some (.loc 0, false), .mv (.tmp 18)⟩, ⟨some (.loc 1, false), .mv (.tmp 21)⟩, ⟨some (.loc 2, false), .p2 (bin2 P .neq 4) (.loc 1) (.loc 0)⟩, ⟨none, .pick (.loc 3) (.cst (AV.bool true)) (.loc 0)⟩, ⟨some (.loc 0, false), .mv (.tmp 19)⟩, ⟨some (.loc 1, false), .mv (.tmp 22)⟩, ⟨some (.loc 2, false), .p2 (bin2 P .neq 33) (.loc 1) (.loc 0)⟩, ⟨none, .pick (.loc 3) (.cst (AV.bool true)) (.loc 0)⟩] [(130, .loc 0)]
def c8_76 : AC := .reg [] [(6, .cst (AV.bool false))]
def c8_80 : AC := .reg [⟨none, .p2 (indexAddr2 P 60) (.tmp 1) (.tmp 16)⟩, ⟨none, .p1 (fieldAddr1 P 65 5) (.loc 0)⟩, ⟨none, .ld1 (.loc 0)⟩, ⟨none, .cl (cf 35) [.tmp 7, .loc 0]⟩, ⟨none, .p1 (nthTuple 0) (.loc 0)⟩, ⟨none, .p1 (nthTuple 1) (.loc 1)⟩, ⟨none, .p1 (nthTuple 2) (.loc 2)⟩, ⟨none, .p1 (nthTuple 3) (.loc 3)⟩] [(26, .loc 0), (25, .loc 1), (24, .loc 2), (23, .loc 3)]
def c8_82 : AC := .reg [⟨none, .p2 (indexAddr2 P 60) (.tmp 1) (.tmp 16)⟩, ⟨none, .p1 (fieldAddr1 P 65 5) (.loc 0)⟩, ⟨none, .ld1 (.loc 0)⟩, ⟨none, .cl (cf 35) [.tmp 8, .loc 0]⟩, ⟨none, .p1 (nthTuple 0) (.loc 0)⟩, ⟨none, .p1 (nthTuple 1) (.loc 1)⟩, ⟨none, .p1 (nthTuple 2) (.loc 2)⟩, ⟨none, .p1 (nthTuple 3) (.loc 3)⟩] [(30, .loc 0), (29, .loc 1), (28, .loc 2), (27, .loc 3)]
def c8_84 : AC := .reg [⟨none, .p2 (bin2 P .neq 9) (.tmp 23) (.tmp 27)⟩, ⟨some (.loc 0, false), .mv (.tmp 24)⟩, ⟨some (.loc 1, false), .mv (.tmp 28)⟩, ⟨some (.loc 2, false), .p2 (bin2 P .neq 3) (.loc 1) (.loc 0)⟩, ⟨none, .pick (.loc 3) (.cst (AV.bool true)) (.loc 0)⟩, ⟨some (.loc 0, false), .mv (.tmp 25)⟩, ⟨some (.loc 1, false), .mv (.tmp 29)⟩, ⟨some (.loc 2, false), .p2 (bin2 P .neq 3) (.loc 1) (.loc 0)⟩, ⟨none, .pick (.loc 3) (.cst (AV.bool true)) (.loc 0)⟩, ⟨some (.loc 0, false), .mv (.tmp 26)⟩, ⟨some (.loc 1, false), .mv (.tmp 30)⟩, ⟨some (.loc 2, false), .p2 (bin2 P .neq 4) (.loc 1) (.loc 0)⟩, ⟨none, .pick (.loc 3) (.cst (AV.bool true)) (.loc 0)⟩, ⟨some (.loc 0, false), .mv (.tmp 7)⟩, ⟨some (.loc 1, false), .cl (cf 39) [.loc 0]⟩, ⟨some (.loc 2, false), .mv (.tmp 8)⟩, ⟨some (.loc 3, false), .cl (cf 39) [.loc 0]⟩, ⟨some (.loc 4, false), .p2 (bin2 P .neq 3) (.loc 2) (.loc 0)⟩, ⟨none, .pick (.loc 5) (.cst (AV.bool true)) (.loc 0)⟩, ⟨some (.loc 0, false), .mv (.tmp 7)⟩, ⟨some (.loc 1, false), .cl (cf 38) [.loc 0]⟩, ⟨some (.loc 2, false), .mv (.tmp 8)⟩, ⟨some (.loc 3, false), .cl (cf 38) [.loc 0]⟩, ⟨some (.loc 4, false), .p2 (bin2 P .neq 27) (.loc 2) (.loc 0)⟩, ⟨none, .pick (.loc 5) (.cst (AV.bool true)) (.loc 0)⟩] [(186, .loc 0)]
def c8_87 : AC := .reg [] [(6, .cst (AV.bool false))]
def c8_81 : AC := .seq c8_82 (.seq c8_84 (.cond (.tmp 186) (.seq c8_87 .ret) .skip))
def c8_71 : AC := .seq (.seq c8_73 (.cond (.tmp 130) (.seq c8_76 .ret) .skip)) (.seq c8_80 c8_81)
def c8_90 : AC := .reg [⟨none, .p2 (bin2 P .add 3) (.tmp 16) (.cst (AV.int .i64 1))⟩] [(16, .loc 0)]
def c8_59 : AC := .seq (.seq c8_61 (.cond (.tmp 95) .skip (.exit 4))) (.seq (.block 5 (.seq c8_68 (.seq c8_70 c8_71))) c8_90)
def c8_58 : AC := .loop c8_59
def c8_92 : AC := .reg [⟨none, .cl (cf 39) [.tmp 7]⟩, ⟨none, .cl (cf 39) [.tmp 8]⟩, ⟨none, .p2 (bin2 P .eql 3) (.loc 1) (.loc 0)⟩, ⟨some (.loc 0, true), .mv (.tmp 7)⟩, ⟨some (.loc 1, true), .cl (cf 38) [.loc 0]⟩, ⟨some (.loc 2, true), .mv (.tmp 8)⟩, ⟨some (.loc 3, true), .cl (cf 38) [.loc 0]⟩, ⟨some (.loc 4, true), .p2 (bin2 P .eql 27) (.loc 2) (.loc 0)⟩, ⟨none, .pick (.loc 5) (.loc 0) (.cst (AV.bool false))⟩, ⟨some (.loc 0, true), .cl (cf 11) []⟩, ⟨none, .pick (.loc 1) (.loc 0) (.cst (AV.bool false))⟩] [(6, .loc 0)]
def c8_52 : AC := .seq c8_53 (.seq (.seq c8_56 (.block 4 c8_58)) (.seq c8_92 .ret))
def c8_12 : AC := .seq (.seq c8_14 (.block 0 c8_16)) (.seq c8_28 (.seq (.seq c8_31 (.block 2 c8_33)) c8_52))
def c8_2 : AC := .seq (.seq c8_4 (.cond (.tmp 38) (.seq c8_7 .ret) .skip)) (.seq c8_11 c8_12)
def fn8 : FnA := ⟨(.seq c8_1 c8_2), [.tmp 6], 202, true⟩
theorem f8A : fnA P (keepF P) 8 = some fn8 := by kernel_rfl
def F8 := An (kR c8_1 rfl) <| An (kR c8_4 rfl) <| An (kR c8_7 rfl) <| An (kR c8_11 rfl) <| An (kR c8_14 rfl) <| An (kR c8_19 rfl) <| An (kR c8_25 rfl) <| An (kR c8_26 rfl) <| An (kS c8_17 rfl) <| An (kR c8_28 rfl) <| An (kR c8_31 rfl) <| An (kR c8_36 rfl) <| An (kR c8_43 rfl) <| An (kR c8_45 rfl) <| An (kR c8_48 rfl) <| An (kS c8_42 rfl) <| An (kR c8_51 rfl) <| An (kS c8_34 rfl) <| An (kR c8_53 rfl) <| An (kR c8_56 rfl) <| An (kR c8_61 rfl) <| An (kR c8_68 rfl) <| An (kR c8_70 rfl) <| An (kR c8_73 rfl) <| An (kR c8_76 rfl) <| An (kR c8_80 rfl) <| An (kR c8_82 rfl) <| An (kR c8_84 rfl) <| An (kR c8_87 rfl) <| An (kS c8_81 rfl) <| An (kS c8_71 rfl) <| An (kR c8_90 rfl) <| An (kS c8_59 rfl) <| An (kR c8_92 rfl) <| An (kS c8_52 rfl) <| An (kS c8_12 rfl) <| (kS c8_2 rfl)
def c12_1 : AC := .reg [] [(0, .cst (AV.ptr none))]
def c12_3 : AC := .reg [⟨none, .al (fun (_ : List AV) => makeMap1 P 84 true) []⟩, ⟨none, .cl (cf 51) []⟩, ⟨none, .pn (buildN P 87 [0, 1, 2]) [.loc 1, .loc 0, .cst (AV.int .u32 1)]⟩, ⟨none, .al (l1 box1) [.loc 0]⟩] [(0, .loc 0)]
def fn12 : FnA := ⟨(.seq c12_1 (.seq c12_3 .ret)), [.tmp 0], 5, true⟩
theorem f12A : fnA P (keepF P) 12 = some fn12 := by kernel_rfl
def F12 := An (kR c12_1 rfl) <| (kR c12_3 rfl)
def c14_1 : AC := .reg [] [(5, .cst (AV.bool false)), (4, .cst (AV.int .u32 0))]
def c14_4 : AC := .reg [⟨none, .cl (cf 52) [.tmp 0]⟩, ⟨none, .p1 (un1 .not) (.loc 0)⟩] [(10, .loc 0)]
def c14_7 : AC := .reg [] [(5, .cst (AV.bool false)), (4, .cst (AV.int .u32 0))]
def c14_12 : AC := .reg [⟨none, .p1 (notNil) (.tmp 0)⟩, ⟨none, .p1 (fieldAddr1 P 87 1) (.loc 0)⟩, ⟨none, .ld1 (.loc 0)⟩, ⟨none, .cl (cf 53) [.loc 0, .tmp 1]⟩, ⟨none, .pn (l1 (len1 P 43)) [.loc 0]⟩] [(18, .cst (AV.int .i64 0)), (17, .loc 0), (16, .loc 1)]
def c14_16 : AC := .reg [⟨none, .p2 (bin2 P .lss 3) (.tmp 18) (.tmp 17)⟩] [(19, .loc 0)]
def c14_24 : AC := .reg [⟨none, .p2 (indexAddr2 P 43) (.tmp 16) (.tmp 18)⟩, ⟨none, .ld1 (.loc 0)⟩] [(7, .loc 0)]
def c14_26 : AC := .reg [⟨none, .p1 (notNil) (.tmp 0)⟩, ⟨none, .p1 (fieldAddr1 P 87 0) (.loc 0)⟩, ⟨none, .ld1 (.loc 0)⟩, ⟨none, .rd (fun vs h => l2 (fun m k => lookup2 P 84 false m k h) vs) [.loc 0, .tmp 7]⟩, ⟨none, .p1 (field1 P 91 0) (.loc 0)⟩, ⟨none, .p2 (bin2 P .eql 9) (.loc 0) (.tmp 1)⟩] [(30, .loc 0)]
def c14_29 : AC := .reg [] [(5, .cst (AV.bool true)), (4, .tmp 7)]
def c14_23 : AC := .seq c14_24 (.seq c14_26 (.cond (.tmp 30) (.seq c14_29 .ret) .skip))
def c14_32 : AC := .reg [⟨none, .p2 (bin2 P .add 3) (.tmp 18) (.cst (AV.int .i64 1))⟩] [(18, .loc 0)]
def c14_17 : AC := .seq (.cond (.tmp 19) .skip (.exit 0)) (.seq (.block 1 c14_23) c14_32)
def c14_15 : AC := .seq c14_16 c14_17
def c14_14 : AC := .loop c14_15
def c14_34 : AC := .reg [] [(5, .cst (AV.bool false)), (4, .cst (AV.int .u32 0))]
def c14_2 : AC := .seq (.seq c14_4 (.cond (.tmp 10) (.seq c14_7 .ret) .skip)) (.seq (.seq c14_12 (.block 0 c14_14)) (.seq c14_34 .ret))
def fn14 : FnA := ⟨(.seq c14_1 c14_2), [.tmp 4, .tmp 5], 33, true⟩
theorem f14A : fnA P (keepF P) 14 = some fn14 := by kernel_rfl
def F14 := An (kR c14_1 rfl) <| An (kR c14_4 rfl) <| An (kR c14_7 rfl) <| An (kR c14_12 rfl) <| An (kR c14_16 rfl) <| An (kR c14_24 rfl) <| An (kR c14_26 rfl) <| An (kR c14_29 rfl) <| An (kS c14_23 rfl) <| An (kR c14_32 rfl) <| An (kS c14_17 rfl) <| An (kS c14_15 rfl) <| An (kR c14_34 rfl) <| (kS c14_2 rfl)
def c15_1 : AC := .reg [] [(5, .cst (AV.int .i64 0)), (4, .cst (AV.bool false))]
def c15_3 : AC := .reg [⟨none, .cl (cf 54) [.tmp 0, .tmp 1]⟩, ⟨none, .p1 (nthTuple 0) (.loc 0)⟩, ⟨none, .p1 (nthTuple 1) (.loc 1)⟩, ⟨none, .al (fun (_ : List AV) => allocN P 91) []⟩, ⟨none, .ef (fun vs _ h => l2 (storeN 3 h) vs) [.loc 0, .loc 2]⟩] [(5, .loc 2), (6, .loc 1)]
def c15_6 : AC := .reg [⟨none, .p2 (bin2 P .neq 33) (.tmp 5) (.cst (AV.int .i64 0))⟩] [(14, .loc 0)]
def c15_9 : AC := .reg [] [(5, .tmp 5), (4, .cst (AV.bool false))]
def c15_14 : AC := .reg [⟨none, .p1 (fieldAddr1 P 91 2) (.tmp 6)⟩, ⟨none, .ld1 (.loc 0)⟩, ⟨none, .p2 (bin2 P .sub 3) (.loc 0) (.cst (AV.int .i64 1))⟩, ⟨none, .p1 (fieldAddr1 P 91 2) (.tmp 6)⟩, ⟨none, .st1 (.loc 0) (.loc 1)⟩] []
def c15_16 : AC := .reg [⟨none, .p1 (fieldAddr1 P 91 2) (.tmp 6)⟩, ⟨none, .ld1 (.loc 0)⟩, ⟨none, .p2 (bin2 P .gtr 3) (.loc 0) (.cst (AV.int .i64 0))⟩] [(22, .loc 0)]
def c15_19g : List (Nat × GIns) := [(0, ⟨none, .mv (.tmp 0)⟩), (1, ⟨none, .p1 (notNil) (.opi 0)⟩), (2, ⟨none, .p1 (fieldAddr1 P 87 0) (.opi 1)⟩), (3, ⟨none, .ld1 (.opi 2)⟩), (4, ⟨none, .mv (.tmp 1)⟩), (5, ⟨none, .ldn 3 (.tmp 6)⟩), (6, ⟨none, .ef (fun vs _ h => l3 (fun m k v => mapUpd P 84 m k v h) vs) [.opi 3, .opi 4, .opi 5]⟩)]
def c15_19 : AC := .draw 7 (stagesOf #[0, 1, 3, 7, 0, 0, 63] c15_19g [6] 0 (c15_19g.filter fun x => x.2.i.eff)) []
theorem r15_19 : RReg c15_19 fun call tm h => let g := Heap.mk h.bs (h.next + 7); B (tm.gt 0) (fun v0 => B (notNil v0) (fun v1 => B (fieldAddr1 P 87 0 v1) (fun v2 => B (load1 g v2) (fun v3 => B (tm.gt 1) (fun v4 => B (B (tm.gt 6) (fun a => loadN 3 g a) tg) (fun v5 => B ((fun vs _ h => l3 (fun m k v => mapUpd P 84 m k v h) vs) [v3, v4, v5] g.next g) (fun r6 => some (tm, r6.2)) tg) tg) tg) tg) tg) tg) tg := kDrw rfl (by kernel_rfl)
def c15_21 : AC := .reg [] [(5, .cst (AV.int .i64 0)), (4, .cst (AV.bool false))]
def c15_15 : AC := .seq c15_16 (.cond (.tmp 22) (.seq c15_19 (.seq c15_21 .ret)) .skip)
def c15_25 : AC := .reg [⟨none, .p1 (notNil) (.tmp 0)⟩, ⟨none, .p1 (fieldAddr1 P 87 0) (.loc 0)⟩, ⟨none, .ld1 (.loc 0)⟩, ⟨none, .ef (fun vs _ h => l2 (fun m k => mapDel P 84 m k h) vs) [.loc 0, .tmp 1]⟩] []
def c15_27g : List (Nat × GIns) := [(0, ⟨none, .mv (.tmp 0)⟩), (1, ⟨none, .p1 (notNil) (.opi 0)⟩), (2, ⟨none, .p1 (fieldAddr1 P 87 1) (.opi 1)⟩), (3, ⟨none, .ld1 (.opi 2)⟩), (4, ⟨none, .p1 (fieldAddr1 P 91 0) (.tmp 6)⟩), (5, ⟨none, .ld1 (.opi 4)⟩), (6, ⟨none, .mv (.tmp 1)⟩), (7, ⟨none, .cl (cf 55) [.opi 3, .opi 5, .opi 6]⟩)]
def c15_27 : AC := .draw 8 (stagesOf #[0, 1, 3, 7, 0, 16, 0, 127] c15_27g [7] 0 (c15_27g.filter fun x => x.2.i.eff)) []
theorem r15_27 : RReg c15_27 fun call tm h => let g := Heap.mk h.bs (h.next + 8); B (tm.gt 0) (fun v0 => B (notNil v0) (fun v1 => B (fieldAddr1 P 87 1 v1) (fun v2 => B (load1 g v2) (fun v3 => B (B (tm.gt 6) (fun a => fieldAddr1 P 91 0 a) tg) (fun v4 => B (load1 g v4) (fun v5 => B (tm.gt 1) (fun v6 => B (call (.fn 55) [v3, v5, v6] g) (fun r7 => some (tm, r7.2)) tg) tg) tg) tg) tg) tg) tg) tg := kDrw rfl (by kernel_rfl)
def c15_29 : AC := .reg [] [(5, .cst (AV.int .i64 0)), (4, .cst (AV.bool true))]
def c15_12 : AC := .seq (.seq c15_14 c15_15) (.seq c15_25 (.seq c15_27 (.seq c15_29 .ret)))
def c15_4 : AC := .seq (.seq c15_6 (.cond (.tmp 14) (.seq c15_9 .ret) .skip)) c15_12
def fn15 : FnA := ⟨(.seq c15_1 (.seq c15_3 c15_4)), [.tmp 4, .tmp 5], 42, true⟩
theorem f15A : fnA P (keepF P) 15 = some fn15 := by kernel_rfl
def F15 := An (kR c15_1 rfl) <| An (kR c15_3 rfl) <| An (kR c15_6 rfl) <| An (kR c15_9 rfl) <| An (kR c15_14 rfl) <| An (kR c15_16 rfl) <| An r15_19 <| An (kR c15_21 rfl) <| An (kS c15_15 rfl) <| An (kR c15_25 rfl) <| An r15_27 <| An (kR c15_29 rfl) <| An (kS c15_12 rfl) <| (kS c15_4 rfl)
def c16_1 : AC := .reg [] [(4, .cst (AV.int .i64 0))]
def c16_3 : AC := .reg [⟨none, .cl (cf 54) [.tmp 0, .tmp 1]⟩, ⟨none, .p1 (nthTuple 0) (.loc 0)⟩, ⟨none, .p1 (nthTuple 1) (.loc 1)⟩, ⟨none, .al (fun (_ : List AV) => allocN P 91) []⟩, ⟨none, .ef (fun vs _ h => l2 (storeN 3 h) vs) [.loc 0, .loc 2]⟩] [(6, .loc 2), (5, .loc 1)]
def c16_7 : AC := .reg [⟨none, .p2 (bin2 P .neq 33) (.tmp 6) (.cst (AV.int .i64 0))⟩] [(13, .loc 0)]
def c16_10 : AC := .reg [] [(4, .tmp 6)]
def c16_13 : AC := .reg [⟨none, .p1 (fieldAddr1 P 91 2) (.tmp 5)⟩, ⟨none, .ld1 (.loc 0)⟩, ⟨none, .p2 (bin2 P .eql 3) (.loc 0) (.cst (AV.int .i64 65535))⟩] [(17, .loc 0)]
def c16_16 : AC := .reg [] [(4, .cst (AV.int .i64 12))]
def c16_8 : AC := .cond (.tmp 13) (.seq c16_10 .ret) (.seq c16_13 (.cond (.tmp 17) (.seq c16_16 .ret) .skip))
def c16_20 : AC := .reg [⟨none, .p1 (fieldAddr1 P 91 2) (.tmp 5)⟩, ⟨none, .ld1 (.loc 0)⟩, ⟨none, .p2 (bin2 P .add 3) (.loc 0) (.cst (AV.int .i64 1))⟩, ⟨none, .p1 (fieldAddr1 P 91 2) (.tmp 5)⟩, ⟨none, .st1 (.loc 0) (.loc 1)⟩] []
def c16_22g : List (Nat × GIns) := [(0, ⟨none, .mv (.tmp 0)⟩), (1, ⟨none, .p1 (notNil) (.opi 0)⟩), (2, ⟨none, .p1 (fieldAddr1 P 87 0) (.opi 1)⟩), (3, ⟨none, .ld1 (.opi 2)⟩), (4, ⟨none, .mv (.tmp 1)⟩), (5, ⟨none, .ldn 3 (.tmp 5)⟩), (6, ⟨none, .ef (fun vs _ h => l3 (fun m k v => mapUpd P 84 m k v h) vs) [.opi 3, .opi 4, .opi 5]⟩)]
def c16_22 : AC := .draw 7 (stagesOf #[0, 1, 3, 7, 0, 0, 63] c16_22g [6] 0 (c16_22g.filter fun x => x.2.i.eff)) []
theorem r16_22 : RReg c16_22 fun call tm h => let g := Heap.mk h.bs (h.next + 7); B (tm.gt 0) (fun v0 => B (notNil v0) (fun v1 => B (fieldAddr1 P 87 0 v1) (fun v2 => B (load1 g v2) (fun v3 => B (tm.gt 1) (fun v4 => B (B (tm.gt 5) (fun a => loadN 3 g a) tg) (fun v5 => B ((fun vs _ h => l3 (fun m k v => mapUpd P 84 m k v h) vs) [v3, v4, v5] g.next g) (fun r6 => some (tm, r6.2)) tg) tg) tg) tg) tg) tg) tg := kDrw rfl (by kernel_rfl)
def c16_24 : AC := .reg [] [(4, .cst (AV.int .i64 0))]
def c16_4 : AC := .seq (.block 0 (.seq c16_7 c16_8)) (.seq c16_20 (.seq c16_22 (.seq c16_24 .ret)))
def fn16 : FnA := ⟨(.seq c16_1 (.seq c16_3 c16_4)), [.tmp 4], 31, true⟩
theorem f16A : fnA P (keepF P) 16 = some fn16 := by kernel_rfl
def F16 := An (kR c16_1 rfl) <| An (kR c16_3 rfl) <| An (kR c16_7 rfl) <| An (kR c16_10 rfl) <| An (kR c16_13 rfl) <| An (kR c16_16 rfl) <| An (kC c16_8 rfl) <| An (kR c16_20 rfl) <| An r16_22 <| An (kR c16_24 rfl) <| (kS c16_4 rfl)
def c17_1 : AC := .reg [] [(7, .cst (AV.int .i64 0)), (6, .cst (AV.int .u32 0))]
def c17_4 : AC := .reg [⟨none, .cl (cf 52) [.tmp 0]⟩, ⟨none, .p1 (un1 .not) (.loc 0)⟩] [(12, .loc 0)]
def c17_7 : AC := .reg [] [(7, .cst (AV.int .i64 1)), (6, .cst (AV.int .u32 0))]
def c17_12 : AC := .reg [⟨none, .cl (cf 56) [.tmp 0, .tmp 1]⟩] [(8, .loc 0)]
def c17_15 : AC := .reg [⟨none, .p2 (bin2 P .neq 33) (.tmp 8) (.cst (AV.int .i64 0))⟩] [(16, .loc 0)]
def c17_18 : AC := .reg [] [(7, .tmp 8), (6, .cst (AV.int .u32 0))]
def c17_21 : AC := .reg [⟨none, .p1 (notNil) (.tmp 0)⟩, ⟨none, .p1 (fieldAddr1 P 87 2) (.loc 0)⟩, ⟨none, .ld1 (.loc 0)⟩, ⟨none, .p2 (bin2 P .eql 27) (.loc 0) (.cst (AV.int .u32 4294967295))⟩] [(20, .loc 0)]
def c17_24 : AC := .reg [] [(7, .cst (AV.int .i64 12)), (6, .cst (AV.int .u32 0))]
def c17_16 : AC := .cond (.tmp 16) (.seq c17_18 .ret) (.seq c17_21 (.cond (.tmp 20) (.seq c17_24 .ret) .skip))
def c17_28 : AC := .reg [⟨none, .p1 (notNil) (.tmp 0)⟩, ⟨none, .p1 (fieldAddr1 P 87 2) (.loc 0)⟩, ⟨none, .ld1 (.loc 0)⟩] [(9, .loc 0)]
def c17_30 : AC := .reg [⟨none, .pn (buildN P 91 [0, 1, 2]) [.tmp 1, .tmp 2, .cst (AV.int .i64 1)]⟩, ⟨none, .cl (cf 57) [.tmp 0, .tmp 9, .loc 0]⟩] []
def c17_32 : AC := .reg [] [(7, .cst (AV.int .i64 0)), (6, .tmp 9)]
def c17_10 : AC := .seq (.seq c17_12 (.block 0 (.seq c17_15 c17_16))) (.seq c17_28 (.seq c17_30 (.seq c17_32 .ret)))
def c17_2 : AC := .seq (.seq c17_4 (.cond (.tmp 12) (.seq c17_7 .ret) .skip)) c17_10
def fn17 : FnA := ⟨(.seq c17_1 c17_2), [.tmp 6, .tmp 7], 37, true⟩
theorem f17A : fnA P (keepF P) 17 = some fn17 := by kernel_rfl
def F17 := An (kR c17_1 rfl) <| An (kR c17_4 rfl) <| An (kR c17_7 rfl) <| An (kR c17_12 rfl) <| An (kR c17_15 rfl) <| An (kR c17_18 rfl) <| An (kR c17_21 rfl) <| An (kR c17_24 rfl) <| An (kC c17_16 rfl) <| An (kR c17_28 rfl) <| An (kR c17_30 rfl) <| An (kR c17_32 rfl) <| An (kS c17_10 rfl) <| (kS c17_2 rfl)
def c32_1 : AC := .reg [] [(2, .cst (AV.bool false))]
def c32_4 : AC := .reg [] [(3, .cst (AV.int .i64 0))]
def c32_9 : AC := .reg [⟨none, .pn (l1 (len1 P 60)) [.tmp 0]⟩, ⟨none, .p2 (bin2 P .lss 3) (.tmp 3) (.loc 0)⟩, ⟨some (.loc 0, true), .mv (.tmp 3)⟩, ⟨some (.loc 1, true), .p2 (bin2 P .lss 3) (.loc 0) (.cst (AV.int .i64 70))⟩, ⟨none, .pick (.loc 2) (.loc 0) (.cst (AV.bool false))⟩] [(11, .loc 0)]
def c32_16 : AC := .reg [⟨none, .p2 (indexAddr2 P 60) (.tmp 0) (.tmp 3)⟩, ⟨none, .p1 (fieldAddr1 P 65 2) (.loc 0)⟩, ⟨none, .ld1 (.loc 0)⟩, ⟨none, .pn (l1 (len1 P 9)) [.loc 0]⟩, ⟨none, .p2 (bin2 P .gtr 3) (.loc 0) (.cst (AV.int .i64 100))⟩, ⟨some (.loc 0, false), .mv (.tmp 0)⟩, ⟨some (.loc 1, false), .mv (.tmp 3)⟩, ⟨some (.loc 2, false), .p2 (indexAddr2 P 60) (.loc 1) (.loc 0)⟩, ⟨some (.loc 3, false), .p1 (fieldAddr1 P 65 6) (.loc 0)⟩, ⟨some (.loc 4, false), .ld1 (.loc 0)⟩, ⟨some (.loc 5, false), .pn (l1 (len1 P 9)) [.loc 0]⟩, ⟨some (.loc 6, false), .p2 (bin2 P .gtr 3) (.loc 0) (.cst (AV.int .i64 100))⟩, ⟨none, .pick (.loc 7) (.cst (AV.bool true)) (.loc 0)⟩] [(29, .loc 0)]
def c32_19 : AC := .reg [] [(2, .cst (AV.bool false))]
def c32_14 : AC := .block 1 (.seq c32_16 (.cond (.tmp 29) (.seq c32_19 .ret) .skip))
def c32_22 : AC := .reg [⟨none, .p2 (bin2 P .add 3) (.tmp 3) (.cst (AV.int .i64 1))⟩] [(3, .loc 0)]
def c32_7 : AC := .seq (.seq c32_9 (.cond (.tmp 11) .skip (.exit 0))) (.seq c32_14 c32_22)
def c32_6 : AC := .loop c32_7
def c32_24 : AC := .reg [⟨none, .pn (l1 (len1 P 60)) [.tmp 0]⟩, ⟨none, .p2 (bin2 P .leq 3) (.loc 0) (.cst (AV.int .i64 60))⟩] [(2, .loc 0)]
def c32_0 : AC := .seq c32_1 (.seq (.seq c32_4 (.block 0 c32_6)) (.seq c32_24 .ret))
def fn32 : FnA := ⟨c32_0, [.tmp 2], 33, true⟩
theorem f32A : fnA P (keepF P) 32 = some fn32 := by kernel_rfl
def F32 := An (kR c32_1 rfl) <| An (kR c32_4 rfl) <| An (kR c32_9 rfl) <| An (kR c32_16 rfl) <| An (kR c32_19 rfl) <| An (kB c32_14 rfl) <| An (kR c32_22 rfl) <| An (kS c32_7 rfl) <| An (kR c32_24 rfl) <| (kS c32_0 rfl)
def c33_1 : AC := .reg [⟨none, .al (l1 box1) [.tmp 1]⟩] [(6, .cst (AV.int .i64 0)), (5, .cst (AV.bool false)), (4, .cst (AV.int .u32 0)), (3, .loc 0)]
def c33_4 : AC := .reg [⟨none, .p1 (fieldAddr1 P 65 0) (.tmp 3)⟩, ⟨none, .ld1 (.loc 0)⟩, ⟨none, .p2 (bin2 P .rem 5) (.loc 0) (.cst (AV.int .u8 9))⟩] [(13, .loc 0)]
def c33_8 : AC := .reg [⟨none, .p2 (bin2 P .eql 5) (.tmp 13) (.cst (AV.int .u8 0))⟩] [(14, .loc 0)]
def c33_12 : AC := .reg [⟨none, .p2 (bin2 P .eql 5) (.tmp 13) (.cst (AV.int .u8 1))⟩] [(14, .loc 0)]
def c33_15 : AC := .reg [⟨none, .p2 (bin2 P .eql 5) (.tmp 13) (.cst (AV.int .u8 2))⟩] [(14, .loc 0)]
def c33_9 : AC := .cond (.tmp 14) .skip (.seq c33_12 (.cond (.tmp 14) .skip c33_15))
def c33_18 : AC := .reg [⟨none, .p1 (fieldAddr1 P 65 2) (.tmp 3)⟩, ⟨none, .ld1 (.loc 0)⟩, ⟨none, .p1 (fieldAddr1 P 65 3) (.tmp 3)⟩, ⟨none, .ld1 (.loc 0)⟩, ⟨none, .cl (cf 17) [.tmp 0, .loc 2, .loc 0]⟩, ⟨none, .p1 (nthTuple 0) (.loc 0)⟩, ⟨none, .p1 (nthTuple 1) (.loc 1)⟩] [(8, .loc 0), (7, .loc 1)]
def c33_20 : AC := .reg [] [(6, .tmp 8), (5, .cst (AV.bool false)), (4, .tmp 7)]
def c33_23 : AC := .reg [⟨none, .p2 (bin2 P .eql 5) (.tmp 13) (.cst (AV.int .u8 3))⟩] [(29, .loc 0)]
def c33_26 : AC := .reg [⟨none, .p1 (fieldAddr1 P 65 1) (.tmp 3)⟩, ⟨none, .ld1 (.loc 0)⟩, ⟨none, .p1 (fieldAddr1 P 65 2) (.tmp 3)⟩, ⟨none, .ld1 (.loc 0)⟩, ⟨none, .p1 (fieldAddr1 P 65 3) (.tmp 3)⟩, ⟨none, .ld1 (.loc 0)⟩, ⟨none, .p1 (fieldAddr1 P 65 4) (.tmp 3)⟩, ⟨none, .ld1 (.loc 0)⟩, ⟨none, .cl (cf 36) [.tmp 0, .loc 6, .loc 4, .loc 2, .loc 0]⟩] [(6, .loc 0), (5, .cst (AV.bool false)), (4, .cst (AV.int .u32 0))]
def c33_29 : AC := .reg [⟨none, .p2 (bin2 P .eql 5) (.tmp 13) (.cst (AV.int .u8 4))⟩] [(41, .loc 0)]
def c33_32 : AC := .reg [⟨none, .p1 (fieldAddr1 P 65 1) (.tmp 3)⟩, ⟨none, .ld1 (.loc 0)⟩, ⟨none, .cl (cf 16) [.tmp 0, .loc 0]⟩] [(6, .loc 0), (5, .cst (AV.bool false)), (4, .cst (AV.int .u32 0))]
def c33_36 : AC := .reg [⟨none, .p2 (bin2 P .eql 5) (.tmp 13) (.cst (AV.int .u8 5))⟩] [(47, .loc 0)]
def c33_39 : AC := .reg [⟨none, .p2 (bin2 P .eql 5) (.tmp 13) (.cst (AV.int .u8 6))⟩] [(47, .loc 0)]
def c33_42 : AC := .reg [⟨none, .p1 (fieldAddr1 P 65 1) (.tmp 3)⟩, ⟨none, .ld1 (.loc 0)⟩, ⟨none, .cl (cf 15) [.tmp 0, .loc 0]⟩, ⟨none, .p1 (nthTuple 0) (.loc 0)⟩, ⟨none, .p1 (nthTuple 1) (.loc 1)⟩] [(10, .loc 0), (9, .loc 1)]
def c33_44 : AC := .reg [] [(6, .tmp 10), (5, .tmp 9), (4, .cst (AV.int .u32 0))]
def c33_34 : AC := .seq (.seq c33_36 (.cond (.tmp 47) .skip c33_39)) (.cond (.tmp 47) (.seq c33_42 (.seq c33_44 .ret)) .skip)
def c33_24 : AC := .cond (.tmp 29) (.seq c33_26 .ret) (.seq c33_29 (.cond (.tmp 41) (.seq c33_32 .ret) c33_34))
def c33_16 : AC := .cond (.tmp 14) (.seq c33_18 (.seq c33_20 .ret)) (.seq c33_23 c33_24)
def c33_48 : AC := .reg [⟨none, .p1 (fieldAddr1 P 65 1) (.tmp 3)⟩, ⟨none, .ld1 (.loc 0)⟩, ⟨none, .cl (cf 37) [.tmp 0, .loc 0]⟩] []
def c33_50 : AC := .reg [] [(6, .cst (AV.int .i64 0)), (5, .cst (AV.bool false)), (4, .cst (AV.int .u32 0))]
def c33_2 : AC := .seq (.seq c33_4 (.block 0 (.seq (.seq c33_8 c33_9) c33_16))) (.seq c33_48 (.seq c33_50 .ret))
def fn33 : FnA := ⟨(.seq c33_1 c33_2), [.tmp 4, .tmp 5, .tmp 6], 63, true⟩
theorem f33A : fnA P (keepF P) 33 = some fn33 := by kernel_rfl
def F33 := An (kR c33_1 rfl) <| An (kR c33_4 rfl) <| An (kR c33_8 rfl) <| An (kR c33_12 rfl) <| An (kR c33_15 rfl) <| An (kC c33_9 rfl) <| An (kR c33_18 rfl) <| An (kR c33_20 rfl) <| An (kR c33_23 rfl) <| An (kR c33_26 rfl) <| An (kR c33_29 rfl) <| An (kR c33_32 rfl) <| An (kR c33_36 rfl) <| An (kR c33_39 rfl) <| An (kR c33_42 rfl) <| An (kR c33_44 rfl) <| An (kS c33_34 rfl) <| An (kC c33_24 rfl) <| An (kC c33_16 rfl) <| An (kR c33_48 rfl) <| An (kR c33_50 rfl) <| (kS c33_2 rfl)
def c34_1 : AC := .reg [] [(4, .cst (AV.slice none 0 0 none))]
def c34_3 : AC := .reg [⟨none, .cl (cf 63) [.tmp 0]⟩] [(5, .loc 0)]
def c34_6 : AC := .reg [⟨none, .p2 (bin2 P .eql 104) (.tmp 5) (.cst AV.nilFunc)⟩] [(12, .loc 0)]
def c34_9 : AC := .reg [] [(4, .cst (AV.slice none 0 0 none))]
def c34_13 : AC := .reg [⟨none, .al (fun (_ : List AV) => allocN P 43) []⟩] [(6, .loc 0)]
def c34_16 : AC := .reg [] [(13, .tmp 5)]
def c34_19 : AC := .reg [] [(7, .tmp 14)]
def c34_21 : AC := .reg [⟨none, .ld1 (.tmp 6)⟩, ⟨none, .al (buildSliceN P 43 1 [0]) [.tmp 7]⟩, ⟨none, .ef (fun vs id h => l2 (fun s x => appendS P 43 s x id h) vs) [.loc 1, .loc 0]⟩, ⟨none, .st1 (.tmp 6) (.loc 0)⟩] []
def c34_20 : AC := .block 1 c34_21
def c34_18A : Code := subC (bodyC P 34) [1, 1, 1, 1, 0, 1, 0] 0
def c34_18B : Code := subC (bodyC P 34) [1, 1, 1, 1, 0, 1, 0] 1
def c34_18 : AC := .rangeF (.tmp 13) [14] c34_18A c34_18B
theorem q34_18a : compC P (keepF P 34) 38 c34_18A = c34_19 := by kernel_rfl
theorem q34_18b : compC P (keepF P 34) 38 c34_18B = c34_20 := by kernel_rfl
def c34_24 : AC := .reg [⟨none, .ld1 (.tmp 6)⟩, ⟨none, .pn (l1 (len1 P 43)) [.loc 0]⟩, ⟨none, .p2 (bin2 P .eql 3) (.loc 0) (.cst (AV.int .i64 0))⟩] [(21, .loc 0)]
def c34_27 : AC := .reg [] [(4, .cst (AV.slice none 0 0 none))]
def c34_31 : AC := .reg [⟨none, .p1 (conv1 P 5 3) (.tmp 1)⟩, ⟨none, .ld1 (.tmp 6)⟩, ⟨none, .pn (l1 (len1 P 43)) [.loc 0]⟩, ⟨none, .p2 (bin2 P .rem 3) (.loc 2) (.loc 0)⟩] [(8, .loc 0)]
def c34_33g : List (Nat × GIns) := [(0, ⟨none, .ld1 (.tmp 6)⟩), (1, ⟨none, .mv (.tmp 8)⟩), (2, ⟨none, .ld1 (.tmp 6)⟩), (3, ⟨none, .pn (l1 (len1 P 43)) [.opi 2]⟩), (4, ⟨none, .ld1 (.tmp 6)⟩), (5, ⟨none, .pn (l1 (len1 P 43)) [.opi 4]⟩), (6, ⟨none, .pn (sliceN P 43 true true true) [.opi 0, .opi 1, .opi 3, .opi 5]⟩), (7, ⟨none, .ld1 (.tmp 6)⟩), (8, ⟨none, .mv (.tmp 8)⟩), (9, ⟨none, .pn (sliceN P 43 false true false) [.opi 7, .opi 8]⟩), (10, ⟨none, .ef (fun vs id h => l2 (fun s x => appendS P 43 s x id h) vs) [.opi 6, .opi 9]⟩), (11, ⟨none, .mv (.opi 10)⟩)]
def c34_33 : AC := .draw 12 (stagesOf #[0, 0, 0, 4, 0, 16, 63, 0, 0, 384, 1023, 2047] c34_33g [10] 0 (c34_33g.filter fun x => x.2.i.eff)) [(4, 11)]
theorem r34_33 : RReg c34_33 fun call tm h => let g := Heap.mk h.bs (h.next + 12); B (B (tm.gt 6) (fun a => load1 g a) tg) (fun v0 => B (tm.gt 8) (fun v1 => B (B (tm.gt 6) (fun a => load1 g a) tg) (fun v2 => B (l1 (len1 P 43) [v2]) (fun v3 => B (B (tm.gt 6) (fun a => load1 g a) tg) (fun v4 => B (l1 (len1 P 43) [v4]) (fun v5 => B (sliceN P 43 true true true [v0, v1, v3, v5]) (fun v6 => B (B (tm.gt 6) (fun a => load1 g a) tg) (fun v7 => B (tm.gt 8) (fun v8 => B (sliceN P 43 false true false [v7, v8]) (fun v9 => B ((fun vs id h => l2 (fun s x => appendS P 43 s x id h) vs) [v6, v9] g.next g) (fun r10 => some ((tm.up (some r10.1) 4), r10.2)) tg) tg) tg) tg) tg) tg) tg) tg) tg) tg) tg := kDrw rfl (by kernel_rfl)
def c34_22 : AC := .seq (.seq c34_24 (.cond (.tmp 21) (.seq c34_27 .ret) .skip)) (.seq c34_31 (.seq c34_33 .ret))
def c34_4 : AC := .seq (.seq c34_6 (.cond (.tmp 12) (.seq c34_9 .ret) .skip)) (.seq c34_13 (.seq (.seq c34_16 (.block 0 c34_18)) c34_22))
def fn34 : FnA := ⟨(.seq c34_1 (.seq c34_3 c34_4)), [.tmp 4], 38, false⟩
theorem f34A : fnA P (keepF P) 34 = some fn34 := by kernel_rfl
def F34 := An (kR c34_1 rfl) <| An (kR c34_3 rfl) <| An (kR c34_6 rfl) <| An (kR c34_9 rfl) <| An (kR c34_13 rfl) <| An (kR c34_16 rfl) <| An (kR c34_19 rfl) <| An (kR c34_21 rfl) <| An (kB c34_20 rfl) <| An (kR c34_24 rfl) <| An (kR c34_27 rfl) <| An (kR c34_31 rfl) <| An r34_33 <| An (kS c34_22 rfl) <| (kS c34_4 rfl)
def c35_1 : AC := .reg [] [(7, .cst (AV.bool false)), (6, .cst (AV.int .i64 0)), (5, .cst (AV.int .i64 0)), (4, .cst (AV.str []))]
def c35_3 : AC := .reg [⟨none, .cl (cf 54) [.tmp 0, .tmp 1]⟩, ⟨none, .p1 (nthTuple 0) (.loc 0)⟩, ⟨none, .p1 (nthTuple 1) (.loc 1)⟩, ⟨none, .al (fun (_ : List AV) => allocN P 91) []⟩, ⟨none, .ef (fun vs _ h => l2 (storeN 3 h) vs) [.loc 0, .loc 2]⟩] [(9, .loc 2), (8, .loc 1)]
def c35_5g : List (Nat × GIns) := [(0, ⟨none, .p1 (fieldAddr1 P 91 0) (.tmp 8)⟩), (1, ⟨none, .ld1 (.opi 0)⟩), (2, ⟨none, .p1 (fieldAddr1 P 91 1) (.tmp 8)⟩), (3, ⟨none, .ld1 (.opi 2)⟩), (4, ⟨none, .p1 (fieldAddr1 P 91 2) (.tmp 8)⟩), (5, ⟨none, .ld1 (.opi 4)⟩), (6, ⟨none, .mv (.tmp 9)⟩), (7, ⟨none, .p2 (bin2 P .eql 33) (.opi 6) (.cst (AV.int .i64 0))⟩), (8, ⟨none, .mv (.opi 1)⟩), (9, ⟨none, .mv (.opi 3)⟩), (10, ⟨none, .mv (.opi 5)⟩), (11, ⟨none, .mv (.opi 7)⟩)]
def c35_5 : AC := .draw 12 (stagesOf #[0, 1, 0, 4, 0, 16, 0, 64, 3, 271, 831, 2047] c35_5g [] 0 (c35_5g.filter fun x => x.2.i.eff)) [(7, 11), (6, 10), (5, 9), (4, 8)]
theorem r35_5 : RReg c35_5 fun call tm h => let g := Heap.mk h.bs (h.next + 12); B (B (tm.gt 8) (fun a => fieldAddr1 P 91 0 a) tg) (fun v0 => B (load1 g v0) (fun v1 => B (B (tm.gt 8) (fun a => fieldAddr1 P 91 1 a) tg) (fun v2 => B (load1 g v2) (fun v3 => B (B (tm.gt 8) (fun a => fieldAddr1 P 91 2 a) tg) (fun v4 => B (load1 g v4) (fun v5 => B (tm.gt 9) (fun v6 => B (bin2 P .eql 33 v6 (AV.int .i64 0)) (fun v7 => some (((((tm.up (some v7) 7).up (some v5) 6).up (some v3) 5).up (some v1) 4), g)) tg) tg) tg) tg) tg) tg) tg) tg := kDrw rfl (by kernel_rfl)
def fn35 : FnA := ⟨(.seq c35_1 (.seq c35_3 (.seq c35_5 .ret))), [.tmp 4, .tmp 5, .tmp 6, .tmp 7], 24, true⟩
theorem f35A : fnA P (keepF P) 35 = some fn35 := by kernel_rfl
def F35 := An (kR c35_1 rfl) <| An (kR c35_3 rfl) <| r35_5
def c36_1 : AC := .reg [] [(10, .cst (AV.int .i64 0))]
def c36_4 : AC := .reg [⟨none, .cl (cf 52) [.tmp 0]⟩, ⟨none, .p1 (un1 .not) (.loc 0)⟩] [(16, .loc 0)]
def c36_7 : AC := .reg [] [(10, .cst (AV.int .i64 1))]
def c36_12 : AC := .reg [⟨none, .p2 (bin2 P .eql 27) (.tmp 1) (.cst (AV.int .u32 0))⟩, ⟨some (.loc 0, false), .mv (.tmp 1)⟩, ⟨some (.loc 1, false), .p2 (bin2 P .eql 27) (.loc 0) (.cst (AV.int .u32 4294967295))⟩, ⟨none, .pick (.loc 2) (.cst (AV.bool true)) (.loc 0)⟩] [(22, .loc 0)]
def c36_15 : AC := .reg [] [(10, .cst (AV.int .i64 2))]
def c36_19 : AC := .reg [⟨none, .cl (cf 56) [.tmp 0, .tmp 2]⟩] [(11, .loc 0)]
def c36_21 : AC := .reg [⟨none, .p1 (notNil) (.tmp 0)⟩, ⟨none, .p1 (fieldAddr1 P 87 0) (.loc 0)⟩, ⟨none, .ld1 (.loc 0)⟩, ⟨none, .rd (fun vs h => l2 (fun m k => lookup2 P 84 true m k h) vs) [.loc 0, .tmp 1]⟩, ⟨none, .p1 (nthTuple 0) (.loc 0)⟩, ⟨none, .p1 (nthTuple 1) (.loc 1)⟩, ⟨none, .al (fun (_ : List AV) => allocN P 91) []⟩, ⟨none, .ef (fun vs _ h => l2 (storeN 3 h) vs) [.loc 0, .loc 2]⟩] [(13, .loc 2)]
def c36_25 : AC := .reg [⟨none, .p2 (bin2 P .eql 33) (.tmp 11) (.cst (AV.int .i64 4))⟩, ⟨some (.loc 0, false), .mv (.tmp 4)⟩, ⟨some (.loc 1, false), .p2 (bin2 P .lss 3) (.loc 0) (.cst (AV.int .i64 1))⟩, ⟨none, .pick (.loc 2) (.cst (AV.bool true)) (.loc 0)⟩, ⟨some (.loc 0, false), .mv (.tmp 4)⟩, ⟨some (.loc 1, false), .p2 (bin2 P .gtr 3) (.loc 0) (.cst (AV.int .i64 65535))⟩, ⟨none, .pick (.loc 2) (.cst (AV.bool true)) (.loc 0)⟩] [(35, .loc 0)]
def c36_28 : AC := .reg [] [(10, .cst (AV.int .i64 4))]
def c36_31 : AC := .reg [⟨none, .p2 (bin2 P .neq 33) (.tmp 11) (.cst (AV.int .i64 0))⟩, ⟨some (.loc 0, false), .mv (.tmp 13)⟩, ⟨none, .pick (.loc 1) (.cst (AV.bool true)) (.loc 0)⟩] [(46, .loc 0)]
def c36_34 : AC := .reg [] [(10, .cst (AV.int .i64 6))]
def c36_26 : AC := .cond (.tmp 35) (.seq c36_28 .ret) (.seq c36_31 (.cond (.tmp 46) (.seq c36_34 .ret) .skip))
def c36_38 : AC := .reg [⟨none, .pn (buildN P 91 [0, 1, 2]) [.tmp 2, .tmp 3, .tmp 4]⟩, ⟨none, .cl (cf 57) [.tmp 0, .tmp 1, .loc 0]⟩] []
def c36_40 : AC := .reg [] [(10, .cst (AV.int .i64 0))]
def c36_22 : AC := .seq (.block 0 (.seq c36_25 c36_26)) (.seq c36_38 (.seq c36_40 .ret))
def c36_10 : AC := .seq (.seq c36_12 (.cond (.tmp 22) (.seq c36_15 .ret) .skip)) (.seq c36_19 (.seq c36_21 c36_22))
def c36_2 : AC := .seq (.seq c36_4 (.cond (.tmp 16) (.seq c36_7 .ret) .skip)) c36_10
def fn36 : FnA := ⟨(.seq c36_1 c36_2), [.tmp 10], 59, true⟩
theorem f36A : fnA P (keepF P) 36 = some fn36 := by kernel_rfl
def F36 := An (kR c36_1 rfl) <| An (kR c36_4 rfl) <| An (kR c36_7 rfl) <| An (kR c36_12 rfl) <| An (kR c36_15 rfl) <| An (kR c36_19 rfl) <| An (kR c36_21 rfl) <| An (kR c36_25 rfl) <| An (kR c36_28 rfl) <| An (kR c36_31 rfl) <| An (kR c36_34 rfl) <| An (kC c36_26 rfl) <| An (kR c36_38 rfl) <| An (kR c36_40 rfl) <| An (kS c36_22 rfl) <| An (kS c36_10 rfl) <| (kS c36_2 rfl)
def c37_1 : AC := .reg [⟨none, .cl (cf 52) [.tmp 0]⟩] [(5, .loc 0)]
def c37_3 : AC := .reg [⟨none, .p1 (notNil) (.tmp 0)⟩, ⟨none, .p1 (fieldAddr1 P 87 2) (.loc 0)⟩, ⟨none, .ld1 (.loc 0)⟩, ⟨none, .pn (folds max2) [.loc 0, .tmp 1]⟩, ⟨none, .p1 (notNil) (.tmp 0)⟩, ⟨none, .p1 (fieldAddr1 P 87 2) (.loc 0)⟩, ⟨none, .st1 (.loc 0) (.loc 2)⟩] []
def fn37 : FnA := ⟨(.seq c37_1 (.cond (.tmp 5) c37_3 .skip)), [], 15, true⟩
theorem f37A : fnA P (keepF P) 37 = some fn37 := by kernel_rfl
def F37 := An (kR c37_1 rfl) <| (kR c37_3 rfl)
def c38_1 : AC := .reg [] [(2, .cst (AV.int .u32 0))]
def c38_4 : AC := .reg [⟨none, .cl (cf 52) [.tmp 0]⟩, ⟨none, .p1 (un1 .not) (.loc 0)⟩] [(5, .loc 0)]
def c38_7 : AC := .reg [] [(2, .cst (AV.int .u32 0))]
def c38_11 : AC := .reg [⟨none, .p1 (notNil) (.tmp 0)⟩, ⟨none, .p1 (fieldAddr1 P 87 2) (.loc 0)⟩, ⟨none, .ld1 (.loc 0)⟩] [(2, .loc 0)]
def c38_2 : AC := .seq (.seq c38_4 (.cond (.tmp 5) (.seq c38_7 .ret) .skip)) (.seq c38_11 .ret)
def fn38 : FnA := ⟨(.seq c38_1 c38_2), [.tmp 2], 10, true⟩
theorem f38A : fnA P (keepF P) 38 = some fn38 := by kernel_rfl
def F38 := An (kR c38_1 rfl) <| An (kR c38_4 rfl) <| An (kR c38_7 rfl) <| An (kR c38_11 rfl) <| (kS c38_2 rfl)
def c39_1 : AC := .reg [] [(2, .cst (AV.int .i64 0))]
def c39_4 : AC := .reg [⟨none, .cl (cf 52) [.tmp 0]⟩, ⟨none, .p1 (un1 .not) (.loc 0)⟩] [(5, .loc 0)]
def c39_7 : AC := .reg [] [(2, .cst (AV.int .i64 0))]
def c39_11 : AC := .reg [⟨none, .p1 (notNil) (.tmp 0)⟩, ⟨none, .p1 (fieldAddr1 P 87 0) (.loc 0)⟩, ⟨none, .ld1 (.loc 0)⟩, ⟨none, .rd (fun vs h => l1 (lenMap h) vs) [.loc 0]⟩] [(2, .loc 0)]
def c39_2 : AC := .seq (.seq c39_4 (.cond (.tmp 5) (.seq c39_7 .ret) .skip)) (.seq c39_11 .ret)
def fn39 : FnA := ⟨(.seq c39_1 c39_2), [.tmp 2], 11, true⟩
theorem f39A : fnA P (keepF P) 39 = some fn39 := by kernel_rfl
def F39 := An (kR c39_1 rfl) <| An (kR c39_4 rfl) <| An (kR c39_7 rfl) <| An (kR c39_11 rfl) <| (kS c39_2 rfl)
def c41_16A : Code := subC (bodyC P 41) [1, 1, 1, 0, 1, 0] 0
def c41_16B : Code := subC (bodyC P 41) [1, 1, 1, 0, 1, 0] 1
def c45_18A : Code := subC (bodyC P 45) [1, 1, 1, 1, 0, 1, 0] 0
def c45_18B : Code := subC (bodyC P 45) [1, 1, 1, 1, 0, 1, 0] 1
def c51_1 : AC := .reg [] [(0, .cst (AV.ptr none))]
def c51_3 : AC := .reg [⟨none, .pn (buildN P 135 [0]) [.cst (AV.bool true)]⟩, ⟨none, .al (l1 box1) [.loc 0]⟩] [(0, .loc 0)]
def fn51 : FnA := ⟨(.seq c51_1 (.seq c51_3 .ret)), [.tmp 0], 3, true⟩
theorem f51A : fnA P (keepF P) 51 = some fn51 := by kernel_rfl
def F51 := An (kR c51_1 rfl) <| (kR c51_3 rfl)
def c52_1 : AC := .reg [] [(2, .cst (AV.bool false))]
def c52_3 : AC := .reg [⟨none, .p2 (bin2 P .neq 24) (.tmp 0) (.cst (AV.ptr none))⟩, ⟨some (.loc 0, true), .mv (.tmp 0)⟩, ⟨some (.loc 1, true), .p1 (notNil) (.loc 0)⟩, ⟨some (.loc 2, true), .p1 (fieldAddr1 P 87 0) (.loc 0)⟩, ⟨some (.loc 3, true), .ld1 (.loc 0)⟩, ⟨some (.loc 4, true), .p2 (bin2 P .neq 84) (.loc 0) (.cst (AV.map none))⟩, ⟨none, .pick (.loc 5) (.loc 0) (.cst (AV.bool false))⟩] [(2, .loc 0)]
def fn52 : FnA := ⟨(.seq c52_1 (.seq c52_3 .ret)), [.tmp 2], 12, true⟩
theorem f52A : fnA P (keepF P) 52 = some fn52 := by kernel_rfl
def F52 := An (kR c52_1 rfl) <| (kR c52_3 rfl)
def c53_1 : AC := .reg [] [(4, .cst (AV.slice none 0 0 none))]
def c53_4 : AC := .reg [⟨none, .cl (cf 77) [.tmp 0]⟩, ⟨none, .p1 (un1 .not) (.loc 0)⟩] [(7, .loc 0)]
def c53_7 : AC := .reg [] [(4, .cst (AV.slice none 0 0 none))]
def c53_11g : List (Nat × GIns) := [(0, ⟨none, .mv (.tmp 0)⟩), (1, ⟨none, .mv (.tmp 1)⟩), (2, ⟨none, .cl (cf 79) [.opi 1]⟩), (3, ⟨none, .p1 (notNil) (.opi 0)⟩), (4, ⟨none, .p1 (fieldAddr1 P 135 1) (.opi 3)⟩), (5, ⟨none, .p2 (indexAddr2 P 133) (.opi 4) (.opi 2)⟩), (6, ⟨none, .ld1 (.opi 5)⟩), (7, ⟨none, .cl (cf 78) [.opi 6]⟩), (8, ⟨none, .mv (.opi 7)⟩)]
def c53_11 : AC := .draw 9 (stagesOf #[0, 0, 2, 1, 9, 31, 63, 127, 255] c53_11g [2, 7] 0 (c53_11g.filter fun x => x.2.i.eff)) [(4, 8)]
theorem r53_11 : RReg c53_11 fun call tm h => let g := Heap.mk h.bs (h.next + 9); B (tm.gt 0) (fun v0 => B (tm.gt 1) (fun v1 => B (notNil v0) (fun v3 => B (fieldAddr1 P 135 1 v3) (fun v4 => B (call (.fn 79) [v1] g) (fun r2 => B (indexAddr2 P 133 v4 r2.1) (fun v5 => B (load1 r2.2 v5) (fun v6 => B (call (.fn 78) [v6] r2.2) (fun r7 => some ((tm.up (some r7.1) 4), r7.2)) tg) tg) tg) tg) tg) tg) tg) tg := kDrw rfl (by kernel_rfl)
def c53_2 : AC := .seq (.seq c53_4 (.cond (.tmp 7) (.seq c53_7 .ret) .skip)) (.seq c53_11 .ret)
def fn53 : FnA := ⟨(.seq c53_1 c53_2), [.tmp 4], 16, true⟩
theorem f53A : fnA P (keepF P) 53 = some fn53 := by kernel_rfl
def F53 := An (kR c53_1 rfl) <| An (kR c53_4 rfl) <| An (kR c53_7 rfl) <| An r53_11 <| (kS c53_2 rfl)
def c54_1 : AC := .reg [⟨none, .al (fun (_ : List AV) => allocN P 91) []⟩] [(5, .cst (AV.int .i64 0)), (4, .loc 0)]
def c54_4 : AC := .reg [⟨none, .cl (cf 52) [.tmp 0]⟩, ⟨none, .p1 (un1 .not) (.loc 0)⟩] [(10, .loc 0)]
def c54_7 : AC := .reg [⟨none, .pn (buildN P 91 []) []⟩, ⟨none, .ef (fun vs _ h => l2 (storeN 3 h) vs) [.tmp 4, .loc 0]⟩] [(5, .cst (AV.int .i64 1))]
def c54_11 : AC := .reg [⟨none, .p1 (notNil) (.tmp 0)⟩, ⟨none, .p1 (fieldAddr1 P 87 0) (.loc 0)⟩, ⟨none, .ld1 (.loc 0)⟩, ⟨none, .rd (fun vs h => l2 (fun m k => lookup2 P 84 true m k h) vs) [.loc 0, .tmp 1]⟩, ⟨none, .p1 (nthTuple 0) (.loc 0)⟩, ⟨none, .p1 (nthTuple 1) (.loc 1)⟩, ⟨none, .al (fun (_ : List AV) => allocN P 91) []⟩, ⟨none, .ef (fun vs _ h => l2 (storeN 3 h) vs) [.loc 0, .loc 2]⟩] [(7, .loc 2), (6, .loc 1)]
def c54_14 : AC := .reg [⟨none, .p1 (un1 .not) (.tmp 7)⟩] [(22, .loc 0)]
def c54_17 : AC := .reg [⟨none, .pn (buildN P 91 []) []⟩, ⟨none, .ef (fun vs _ h => l2 (storeN 3 h) vs) [.tmp 4, .loc 0]⟩] [(5, .cst (AV.int .i64 5))]
def c54_21 : AC := .reg [⟨none, .ldn 3 (.tmp 6)⟩, ⟨none, .ef (fun vs _ h => l2 (storeN 3 h) vs) [.tmp 4, .loc 0]⟩] [(5, .cst (AV.int .i64 0))]
def c54_12 : AC := .seq (.seq c54_14 (.cond (.tmp 22) (.seq c54_17 .ret) .skip)) (.seq c54_21 .ret)
def c54_2 : AC := .seq (.seq c54_4 (.cond (.tmp 10) (.seq c54_7 .ret) .skip)) (.seq c54_11 c54_12)
def fn54 : FnA := ⟨(.seq c54_1 c54_2), [.cell 4 91, .tmp 5], 25, true⟩
theorem f54A : fnA P (keepF P) 54 = some fn54 := by kernel_rfl
def F54 := An (kR c54_1 rfl) <| An (kR c54_4 rfl) <| An (kR c54_7 rfl) <| An (kR c54_11 rfl) <| An (kR c54_14 rfl) <| An (kR c54_17 rfl) <| An (kR c54_21 rfl) <| An (kS c54_12 rfl) <| (kS c54_2 rfl)
def c55_1 : AC := .reg [] [(6, .cst (AV.int .i64 0))]
def c55_4 : AC := .reg [⟨none, .cl (cf 77) [.tmp 0]⟩, ⟨none, .p1 (un1 .not) (.loc 0)⟩] [(11, .loc 0)]
def c55_7 : AC := .reg [] [(6, .cst (AV.int .i64 1))]
def c55_11g : List (Nat × GIns) := [(0, ⟨none, .mv (.tmp 0)⟩), (1, ⟨none, .mv (.tmp 1)⟩), (2, ⟨none, .cl (cf 79) [.opi 1]⟩), (3, ⟨none, .p1 (notNil) (.opi 0)⟩), (4, ⟨none, .p1 (fieldAddr1 P 135 1) (.opi 3)⟩), (5, ⟨none, .p2 (indexAddr2 P 133) (.opi 4) (.opi 2)⟩), (6, ⟨none, .mv (.opi 5)⟩)]
def c55_11 : AC := .draw 7 (stagesOf #[0, 0, 2, 1, 9, 31, 63] c55_11g [2] 0 (c55_11g.filter fun x => x.2.i.eff)) [(7, 6)]
theorem r55_11 : RReg c55_11 fun call tm h => let g := Heap.mk h.bs (h.next + 7); B (tm.gt 0) (fun v0 => B (tm.gt 1) (fun v1 => B (notNil v0) (fun v3 => B (fieldAddr1 P 135 1 v3) (fun v4 => B (call (.fn 79) [v1] g) (fun r2 => B (indexAddr2 P 133 v4 r2.1) (fun v5 => some ((tm.up (some v5) 7), r2.2)) tg) tg) tg) tg) tg) tg := kDrw rfl (by kernel_rfl)
def c55_13 : AC := .reg [⟨none, .p1 (notNil) (.tmp 7)⟩, ⟨none, .ld1 (.loc 0)⟩, ⟨none, .cl (cf 80) [.loc 0, .tmp 2]⟩] [(8, .loc 0)]
def c55_16 : AC := .reg [⟨none, .p2 (bin2 P .lss 3) (.tmp 8) (.cst (AV.int .i64 0))⟩] [(24, .loc 0)]
def c55_19 : AC := .reg [] [(6, .cst (AV.int .i64 5))]
def c55_23 : AC := .reg [⟨none, .p1 (notNil) (.tmp 7)⟩, ⟨none, .ld1 (.loc 0)⟩, ⟨none, .p2 (bin2 P .add 3) (.tmp 8) (.cst (AV.int .i64 1))⟩, ⟨none, .cl (cf 81) [.loc 1, .tmp 8, .loc 0]⟩, ⟨none, .p1 (notNil) (.tmp 7)⟩, ⟨none, .st1 (.loc 0) (.loc 1)⟩] []
def c55_25 : AC := .reg [] [(6, .cst (AV.int .i64 0))]
def c55_14 : AC := .seq (.seq c55_16 (.cond (.tmp 24) (.seq c55_19 .ret) .skip)) (.seq c55_23 (.seq c55_25 .ret))
def c55_2 : AC := .seq (.seq c55_4 (.cond (.tmp 11) (.seq c55_7 .ret) .skip)) (.seq c55_11 (.seq c55_13 c55_14))
def fn55 : FnA := ⟨(.seq c55_1 c55_2), [.tmp 6], 34, true⟩
theorem f55A : fnA P (keepF P) 55 = some fn55 := by kernel_rfl
def F55 := An (kR c55_1 rfl) <| An (kR c55_4 rfl) <| An (kR c55_7 rfl) <| An r55_11 <| An (kR c55_13 rfl) <| An (kR c55_16 rfl) <| An (kR c55_19 rfl) <| An (kR c55_23 rfl) <| An (kR c55_25 rfl) <| An (kS c55_14 rfl) <| (kS c55_2 rfl)
def c56_1 : AC := .reg [] [(4, .cst (AV.int .i64 0))]
def c56_4 : AC := .reg [⟨none, .p2 (bin2 P .eql 9) (.tmp 1) (.cst (AV.str []))⟩, ⟨some (.loc 0, false), .mv (.tmp 1)⟩, ⟨some (.loc 1, false), .pn (l1 (len1 P 9)) [.loc 0]⟩, ⟨some (.loc 2, false), .p2 (bin2 P .gtr 3) (.loc 0) (.cst (AV.int .i64 64))⟩, ⟨none, .pick (.loc 3) (.cst (AV.bool true)) (.loc 0)⟩] [(13, .loc 0)]
def c56_7 : AC := .reg [] [(4, .cst (AV.int .i64 4))]
def c56_12 : AC := .reg [⟨none, .cl (cf 14) [.tmp 0, .tmp 1]⟩, ⟨none, .p1 (nthTuple 0) (.loc 0)⟩, ⟨none, .p1 (nthTuple 1) (.loc 1)⟩] [(6, .loc 0)]
def c56_14 : AC := .reg [] [(20, .tmp 6)]
def c56_17 : AC := .reg [] [(4, .cst (AV.int .i64 6))]
def c56_11 : AC := .seq c56_12 (.seq c56_14 (.cond (.tmp 20) (.seq c56_17 .ret) .skip))
def c56_21 : AC := .reg [] [(4, .cst (AV.int .i64 0))]
def c56_2 : AC := .seq (.seq c56_4 (.cond (.tmp 13) (.seq c56_7 .ret) .skip)) (.seq c56_11 (.seq c56_21 .ret))
def fn56 : FnA := ⟨(.seq c56_1 c56_2), [.tmp 4], 21, true⟩
theorem f56A : fnA P (keepF P) 56 = some fn56 := by kernel_rfl
def F56 := An (kR c56_1 rfl) <| An (kR c56_4 rfl) <| An (kR c56_7 rfl) <| An (kR c56_12 rfl) <| An (kR c56_14 rfl) <| An (kR c56_17 rfl) <| An (kS c56_11 rfl) <| An (kR c56_21 rfl) <| (kS c56_2 rfl)
def c57_1 : AC := .reg [⟨none, .al (l1 box1) [.tmp 2]⟩] [(5, .loc 0)]
def c57_3g : List (Nat × GIns) := [(0, ⟨none, .mv (.tmp 0)⟩), (1, ⟨none, .p1 (notNil) (.opi 0)⟩), (2, ⟨none, .p1 (fieldAddr1 P 87 0) (.opi 1)⟩), (3, ⟨none, .ld1 (.opi 2)⟩), (4, ⟨none, .mv (.tmp 1)⟩), (5, ⟨none, .ldn 3 (.tmp 5)⟩), (6, ⟨none, .ef (fun vs _ h => l3 (fun m k v => mapUpd P 84 m k v h) vs) [.opi 3, .opi 4, .opi 5]⟩)]
def c57_3 : AC := .draw 7 (stagesOf #[0, 1, 3, 7, 0, 0, 63] c57_3g [6] 0 (c57_3g.filter fun x => x.2.i.eff)) []
theorem r57_3 : RReg c57_3 fun call tm h => let g := Heap.mk h.bs (h.next + 7); B (tm.gt 0) (fun v0 => B (notNil v0) (fun v1 => B (fieldAddr1 P 87 0 v1) (fun v2 => B (load1 g v2) (fun v3 => B (tm.gt 1) (fun v4 => B (B (tm.gt 5) (fun a => loadN 3 g a) tg) (fun v5 => B ((fun vs _ h => l3 (fun m k v => mapUpd P 84 m k v h) vs) [v3, v4, v5] g.next g) (fun r6 => some (tm, r6.2)) tg) tg) tg) tg) tg) tg) tg := kDrw rfl (by kernel_rfl)
def c57_5g : List (Nat × GIns) := [(0, ⟨none, .mv (.tmp 0)⟩), (1, ⟨none, .p1 (notNil) (.opi 0)⟩), (2, ⟨none, .p1 (fieldAddr1 P 87 1) (.opi 1)⟩), (3, ⟨none, .ld1 (.opi 2)⟩), (4, ⟨none, .p1 (fieldAddr1 P 91 0) (.tmp 5)⟩), (5, ⟨none, .ld1 (.opi 4)⟩), (6, ⟨none, .mv (.tmp 1)⟩), (7, ⟨none, .cl (cf 82) [.opi 3, .opi 5, .opi 6]⟩)]
def c57_5 : AC := .draw 8 (stagesOf #[0, 1, 3, 7, 0, 16, 0, 127] c57_5g [7] 0 (c57_5g.filter fun x => x.2.i.eff)) []
theorem r57_5 : RReg c57_5 fun call tm h => let g := Heap.mk h.bs (h.next + 8); B (tm.gt 0) (fun v0 => B (notNil v0) (fun v1 => B (fieldAddr1 P 87 1 v1) (fun v2 => B (load1 g v2) (fun v3 => B (B (tm.gt 5) (fun a => fieldAddr1 P 91 0 a) tg) (fun v4 => B (load1 g v4) (fun v5 => B (tm.gt 1) (fun v6 => B (call (.fn 82) [v3, v5, v6] g) (fun r7 => some (tm, r7.2)) tg) tg) tg) tg) tg) tg) tg) tg := kDrw rfl (by kernel_rfl)
def c57_6 : AC := .reg [⟨none, .p1 (notNil) (.tmp 0)⟩, ⟨none, .p1 (fieldAddr1 P 87 2) (.loc 0)⟩, ⟨none, .ld1 (.loc 0)⟩, ⟨none, .p2 (bin2 P .add 27) (.tmp 1) (.cst (AV.int .u32 1))⟩, ⟨none, .pn (folds max2) [.loc 1, .loc 0]⟩, ⟨none, .p1 (notNil) (.tmp 0)⟩, ⟨none, .p1 (fieldAddr1 P 87 2) (.loc 0)⟩, ⟨none, .st1 (.loc 0) (.loc 2)⟩] []
def fn57 : FnA := ⟨(.seq c57_1 (.seq c57_3 (.seq c57_5 c57_6))), [], 30, true⟩
theorem f57A : fnA P (keepF P) 57 = some fn57 := by kernel_rfl
def F57 := An (kR c57_1 rfl) <| An r57_3 <| An r57_5 <| (kR c57_6 rfl)
def c63_1 : AC := .reg [⟨none, .al (l1 box1) [.tmp 0]⟩] [(2, .cst AV.nilFunc), (1, .loc 0)]
def c63_3 : AC := .reg [⟨none, .pn (mkFunc (Fn.func 87) 0) [.tmp 1]⟩] [(2, .loc 0)]
def fn63 : FnA := ⟨(.seq c63_1 (.seq c63_3 .ret)), [.tmp 2], 4, true⟩
theorem f63A : fnA P (keepF P) 63 = some fn63 := by kernel_rfl
def F63 := An (kR c63_1 rfl) <| (kR c63_3 rfl)
def c77_1 : AC := .reg [] [(2, .cst (AV.bool false))]
def c77_3 : AC := .reg [⟨none, .p2 (bin2 P .neq 85) (.tmp 0) (.cst (AV.ptr none))⟩, ⟨some (.loc 0, true), .mv (.tmp 0)⟩, ⟨some (.loc 1, true), .p1 (notNil) (.loc 0)⟩, ⟨some (.loc 2, true), .p1 (fieldAddr1 P 135 0) (.loc 0)⟩, ⟨some (.loc 3, true), .ld1 (.loc 0)⟩, ⟨none, .pick (.loc 4) (.loc 0) (.cst (AV.bool false))⟩] [(2, .loc 0)]
def fn77 : FnA := ⟨(.seq c77_1 (.seq c77_3 .ret)), [.tmp 2], 11, true⟩
theorem f77A : fnA P (keepF P) 77 = some fn77 := by kernel_rfl
def F77 := An (kR c77_1 rfl) <| (kR c77_3 rfl)
def c78_1 : AC := .reg [] [(2, .cst (AV.slice none 0 0 none))]
def c78_4 : AC := .reg [⟨none, .p2 (bin2 P .eql 43) (.tmp 0) (.cst (AV.slice none 0 0 none))⟩] [(4, .loc 0)]
def c78_7 : AC := .reg [] [(2, .cst (AV.slice none 0 0 none))]
def c78_11 : AC := .reg [⟨none, .al (buildSliceN P 43 0 []) []⟩, ⟨none, .ef (fun vs id h => l2 (fun s x => appendS P 43 s x id h) vs) [.loc 0, .tmp 0]⟩] [(2, .loc 0)]
def c78_2 : AC := .seq (.seq c78_4 (.cond (.tmp 4) (.seq c78_7 .ret) .skip)) (.seq c78_11 .ret)
def fn78 : FnA := ⟨(.seq c78_1 c78_2), [.tmp 2], 8, true⟩
theorem f78A : fnA P (keepF P) 78 = some fn78 := by kernel_rfl
def F78 := An (kR c78_1 rfl) <| An (kR c78_4 rfl) <| An (kR c78_7 rfl) <| An (kR c78_11 rfl) <| (kS c78_2 rfl)
def c79_1 : AC := .reg [] [(2, .cst (AV.int .u8 0))]
def c79_3 : AC := .reg [⟨none, .pn (l1 (len1 P 9)) [.tmp 0]⟩] [(3, .loc 0)]
def c79_6 : AC := .reg [⟨none, .pn (l1 (len1 P 9)) [.tmp 0]⟩] [(9, .cst (AV.int .i64 0)), (8, .loc 0)]
def c79_10 : AC := .reg [⟨none, .p2 (bin2 P .lss 3) (.tmp 9) (.tmp 8)⟩] [(10, .loc 0)]
def c79_18 : AC := .reg [] [(4, .tmp 9)]
def c79_19 : AC := .reg [⟨none, .p2 (index2 P 9) (.tmp 0) (.tmp 4)⟩, ⟨none, .p1 (conv1 P 5 3) (.loc 0)⟩, ⟨none, .p2 (bin2 P .rem 3) (.tmp 4) (.cst (AV.int .i64 7))⟩, ⟨none, .p2 (bin2 P .mul 3) (.loc 0) (.cst (AV.int .i64 2))⟩, ⟨none, .p2 (bin2 P .add 3) (.loc 0) (.cst (AV.int .i64 1))⟩, ⟨none, .p2 (bin2 P .mul 3) (.loc 3) (.loc 0)⟩, ⟨none, .p2 (bin2 P .add 3) (.tmp 3) (.loc 0)⟩] [(3, .loc 0)]
def c79_20 : AC := .reg [⟨none, .p2 (bin2 P .add 3) (.tmp 9) (.cst (AV.int .i64 1))⟩] [(9, .loc 0)]
def c79_11 : AC := .seq (.cond (.tmp 10) .skip (.exit 0)) (.seq (.block 1 (.seq c79_18 c79_19)) c79_20)
def c79_9 : AC := .seq c79_10 c79_11
def c79_8 : AC := .loop c79_9
def c79_22 : AC := .reg [⟨none, .p2 (bin2 P .rem 3) (.tmp 3) (.cst (AV.int .i64 16))⟩, ⟨none, .p1 (conv1 P 3 5) (.loc 0)⟩] [(2, .loc 0)]
def c79_2 : AC := .seq c79_3 (.seq (.seq c79_6 (.block 0 c79_8)) (.seq c79_22 .ret))
def fn79 : FnA := ⟨(.seq c79_1 c79_2), [.tmp 2], 27, true⟩
theorem f79A : fnA P (keepF P) 79 = some fn79 := by kernel_rfl
def F79 := An (kR c79_1 rfl) <| An (kR c79_3 rfl) <| An (kR c79_6 rfl) <| An (kR c79_10 rfl) <| An (kR c79_18 rfl) <| An (kR c79_19 rfl) <| An (kR c79_20 rfl) <| An (kS c79_11 rfl) <| An (kS c79_9 rfl) <| An (kR c79_22 rfl) <| (kS c79_2 rfl)
def c80_1 : AC := .reg [] [(4, .cst (AV.int .i64 0))]
def c80_4 : AC := .reg [⟨none, .pn (l1 (len1 P 43)) [.tmp 0]⟩] [(8, .cst (AV.int .i64 0)), (7, .loc 0)]
def c80_8 : AC := .reg [⟨none, .p2 (bin2 P .lss 3) (.tmp 8) (.tmp 7)⟩] [(9, .loc 0)]
def c80_16 : AC := .reg [] [(5, .tmp 8)]
def c80_18 : AC := .reg [⟨none, .p2 (indexAddr2 P 43) (.tmp 0) (.tmp 5)⟩, ⟨none, .ld1 (.loc 0)⟩, ⟨none, .p2 (bin2 P .eql 27) (.tmp 1) (.loc 0)⟩] [(16, .loc 0)]
def c80_21 : AC := .reg [] [(4, .tmp 5)]
def c80_15 : AC := .seq c80_16 (.seq c80_18 (.cond (.tmp 16) (.seq c80_21 .ret) .skip))
def c80_24 : AC := .reg [⟨none, .p2 (bin2 P .add 3) (.tmp 8) (.cst (AV.int .i64 1))⟩] [(8, .loc 0)]
def c80_9 : AC := .seq (.cond (.tmp 9) .skip (.exit 0)) (.seq (.block 1 c80_15) c80_24)
def c80_7 : AC := .seq c80_8 c80_9
def c80_6 : AC := .loop c80_7
def c80_26 : AC := .reg [] [(4, .cst (AV.int .i64 (-1)))]
def c80_0 : AC := .seq c80_1 (.seq (.seq c80_4 (.block 0 c80_6)) (.seq c80_26 .ret))
def fn80 : FnA := ⟨c80_0, [.tmp 4], 19, true⟩
theorem f80A : fnA P (keepF P) 80 = some fn80 := by kernel_rfl
def F80 := An (kR c80_1 rfl) <| An (kR c80_4 rfl) <| An (kR c80_8 rfl) <| An (kR c80_16 rfl) <| An (kR c80_18 rfl) <| An (kR c80_21 rfl) <| An (kS c80_15 rfl) <| An (kR c80_24 rfl) <| An (kS c80_9 rfl) <| An (kS c80_7 rfl) <| An (kR c80_26 rfl) <| (kS c80_0 rfl)
def c81_1 : AC := .reg [] [(6, .cst (AV.slice none 0 0 none))]
def c81_3 : AC := .reg [⟨none, .pn (l1 (len1 P 43)) [.tmp 0]⟩, ⟨none, .pn (sliceN P 43 true true true) [.tmp 0, .tmp 1, .tmp 2, .loc 0]⟩] []
def c81_6 : AC := .reg [⟨none, .p2 (bin2 P .eql 3) (.tmp 1) (.tmp 2)⟩] [(16, .loc 0)]
def c81_9 : AC := .reg [] [(6, .tmp 0)]
def c81_13 : AC := .reg [⟨none, .pn (l1 (len1 P 43)) [.tmp 0]⟩] [(7, .loc 0)]
def c81_15g : List (Nat × GIns) := [(0, ⟨none, .mv (.tmp 0)⟩), (1, ⟨none, .mv (.tmp 1)⟩), (2, ⟨none, .pn (sliceN P 43 false true false) [.opi 0, .opi 1]⟩), (3, ⟨none, .mv (.tmp 0)⟩), (4, ⟨none, .mv (.tmp 2)⟩), (5, ⟨none, .pn (sliceN P 43 true false false) [.opi 3, .opi 4]⟩), (6, ⟨none, .ef (fun vs id h => l2 (fun s x => appendS P 43 s x id h) vs) [.opi 2, .opi 5]⟩), (7, ⟨none, .mv (.opi 6)⟩)]
def c81_15 : AC := .draw 8 (stagesOf #[0, 0, 3, 0, 0, 24, 63, 127] c81_15g [6] 0 (c81_15g.filter fun x => x.2.i.eff)) [(0, 7)]
theorem r81_15 : RReg c81_15 fun call tm h => let g := Heap.mk h.bs (h.next + 8); B (tm.gt 0) (fun v0 => B (tm.gt 1) (fun v1 => B (sliceN P 43 false true false [v0, v1]) (fun v2 => B (tm.gt 0) (fun v3 => B (tm.gt 2) (fun v4 => B (sliceN P 43 true false false [v3, v4]) (fun v5 => B ((fun vs id h => l2 (fun s x => appendS P 43 s x id h) vs) [v2, v5] g.next g) (fun r6 => some ((tm.up (some r6.1) 0), r6.2)) tg) tg) tg) tg) tg) tg) tg := kDrw rfl (by kernel_rfl)
def c81_17 : AC := .reg [⟨none, .pn (l1 (len1 P 43)) [.tmp 0]⟩, ⟨none, .pn (sliceN P 43 true true false) [.tmp 0, .loc 0, .tmp 7]⟩, ⟨none, .ef (fun vs _ h => l1 (fun d => clearS P 43 d h) vs) [.loc 0]⟩] []
def c81_19 : AC := .reg [] [(6, .tmp 0)]
def c81_4 : AC := .seq (.seq c81_6 (.cond (.tmp 16) (.seq c81_9 .ret) .skip)) (.seq c81_13 (.seq c81_15 (.seq c81_17 (.seq c81_19 .ret))))
def fn81 : FnA := ⟨(.seq c81_1 (.seq c81_3 c81_4)), [.tmp 6], 33, true⟩
theorem f81A : fnA P (keepF P) 81 = some fn81 := by kernel_rfl
def F81 := An (kR c81_1 rfl) <| An (kR c81_3 rfl) <| An (kR c81_6 rfl) <| An (kR c81_9 rfl) <| An (kR c81_13 rfl) <| An r81_15 <| An (kR c81_17 rfl) <| An (kR c81_19 rfl) <| (kS c81_4 rfl)
def c82_1 : AC := .reg [] [(6, .cst (AV.int .i64 0))]
def c82_4 : AC := .reg [⟨none, .cl (cf 77) [.tmp 0]⟩, ⟨none, .p1 (un1 .not) (.loc 0)⟩] [(10, .loc 0)]
def c82_7 : AC := .reg [] [(6, .cst (AV.int .i64 1))]
def c82_11g : List (Nat × GIns) := [(0, ⟨none, .mv (.tmp 0)⟩), (1, ⟨none, .mv (.tmp 1)⟩), (2, ⟨none, .cl (cf 79) [.opi 1]⟩), (3, ⟨none, .p1 (notNil) (.opi 0)⟩), (4, ⟨none, .p1 (fieldAddr1 P 135 1) (.opi 3)⟩), (5, ⟨none, .p2 (indexAddr2 P 133) (.opi 4) (.opi 2)⟩), (6, ⟨none, .mv (.opi 5)⟩)]
def c82_11 : AC := .draw 7 (stagesOf #[0, 0, 2, 1, 9, 31, 63] c82_11g [2] 0 (c82_11g.filter fun x => x.2.i.eff)) [(7, 6)]
theorem r82_11 : RReg c82_11 fun call tm h => let g := Heap.mk h.bs (h.next + 7); B (tm.gt 0) (fun v0 => B (tm.gt 1) (fun v1 => B (notNil v0) (fun v3 => B (fieldAddr1 P 135 1 v3) (fun v4 => B (call (.fn 79) [v1] g) (fun r2 => B (indexAddr2 P 133 v4 r2.1) (fun v5 => some ((tm.up (some v5) 7), r2.2)) tg) tg) tg) tg) tg) tg := kDrw rfl (by kernel_rfl)
def c82_14 : AC := .reg [⟨none, .p1 (notNil) (.tmp 7)⟩, ⟨none, .ld1 (.loc 0)⟩, ⟨none, .cl (cf 96) [.loc 0, .tmp 2]⟩] [(21, .loc 0)]
def c82_17 : AC := .reg [] [(6, .cst (AV.int .i64 6))]
def c82_21 : AC := .reg [⟨none, .p1 (notNil) (.tmp 7)⟩, ⟨none, .ld1 (.loc 0)⟩, ⟨none, .al (buildSliceN P 43 1 [0]) [.tmp 2]⟩, ⟨none, .ef (fun vs id h => l2 (fun s x => appendS P 43 s x id h) vs) [.loc 1, .loc 0]⟩, ⟨none, .p1 (notNil) (.tmp 7)⟩, ⟨none, .st1 (.loc 0) (.loc 1)⟩] []
def c82_23 : AC := .reg [] [(6, .cst (AV.int .i64 0))]
def c82_12 : AC := .seq (.seq c82_14 (.cond (.tmp 21) (.seq c82_17 .ret) .skip)) (.seq c82_21 (.seq c82_23 .ret))
def c82_2 : AC := .seq (.seq c82_4 (.cond (.tmp 10) (.seq c82_7 .ret) .skip)) (.seq c82_11 c82_12)
def fn82 : FnA := ⟨(.seq c82_1 c82_2), [.tmp 6], 30, true⟩
theorem f82A : fnA P (keepF P) 82 = some fn82 := by kernel_rfl
def F82 := An (kR c82_1 rfl) <| An (kR c82_4 rfl) <| An (kR c82_7 rfl) <| An r82_11 <| An (kR c82_14 rfl) <| An (kR c82_17 rfl) <| An (kR c82_21 rfl) <| An (kR c82_23 rfl) <| An (kS c82_12 rfl) <| (kS c82_2 rfl)
def c87_2 : AC := .reg [⟨none, .ld1 (.tmp 1)⟩, ⟨none, .cl (cf 52) [.loc 0]⟩, ⟨none, .p1 (un1 .not) (.loc 0)⟩] [(7, .loc 0)]
def c87_7 : AC := .reg [⟨none, .ld1 (.tmp 1)⟩, ⟨none, .p1 (notNil) (.loc 0)⟩, ⟨none, .p1 (fieldAddr1 P 87 0) (.loc 0)⟩, ⟨none, .ld1 (.loc 0)⟩, ⟨none, .cl (cf 89) [.loc 0]⟩, ⟨none, .cl (cf 88) [.loc 0]⟩, ⟨none, .pn (l1 (len1 P 43)) [.loc 0]⟩] [(15, .cst (AV.int .i64 0)), (14, .loc 0), (13, .loc 1)]
def c87_11 : AC := .reg [⟨none, .p2 (bin2 P .lss 3) (.tmp 15) (.tmp 14)⟩] [(16, .loc 0)]
def c87_19 : AC := .reg [⟨none, .p2 (indexAddr2 P 43) (.tmp 13) (.tmp 15)⟩, ⟨none, .ld1 (.loc 0)⟩] [(4, .loc 0)]
def c87_21 : AC := .reg [⟨none, .cl (.tmp 0) [.tmp 4]⟩, ⟨none, .p1 (un1 .not) (.loc 0)⟩] [(22, .loc 0)]
def c87_17 : AC := .block 1 (.seq c87_19 (.seq c87_21 (.cond (.tmp 22) .ret .skip)))
def c87_25 : AC := .reg [⟨none, .p2 (bin2 P .add 3) (.tmp 15) (.cst (AV.int .i64 1))⟩] [(15, .loc 0)]
def c87_10 : AC := .seq c87_11 (.seq (.cond (.tmp 16) .skip (.exit 0)) (.seq c87_17 c87_25))
def c87_9 : AC := .loop c87_10
def c87_0 : AC := .seq (.seq c87_2 (.cond (.tmp 7) .ret .skip)) (.seq c87_7 (.block 0 c87_9))
def fn87 : FnA := ⟨c87_0, [], 24, true⟩
theorem f87A : fnA P (keepF P) 87 = some fn87 := by kernel_rfl
def F87 := An (kR c87_2 rfl) <| An (kR c87_7 rfl) <| An (kR c87_11 rfl) <| An (kR c87_19 rfl) <| An (kR c87_21 rfl) <| An (kB c87_17 rfl) <| An (kR c87_25 rfl) <| An (kS c87_10 rfl) <| (kS c87_0 rfl)
def c89_1 : AC := .reg [⟨none, .al (l1 box1) [.tmp 0]⟩] [(2, .cst AV.nilFunc), (1, .loc 0)]
def c89_3 : AC := .reg [⟨none, .pn (mkFunc (Fn.func 103) 0) [.tmp 1]⟩] [(2, .loc 0)]
def fn89 : FnA := ⟨(.seq c89_1 (.seq c89_3 .ret)), [.tmp 2], 4, true⟩
theorem f89A : fnA P (keepF P) 89 = some fn89 := by kernel_rfl
def F89 := An (kR c89_1 rfl) <| (kR c89_3 rfl)
def c96_1 : AC := .reg [] [(4, .cst (AV.bool false))]
def c96_3 : AC := .reg [⟨none, .cl (cf 80) [.tmp 0, .tmp 1]⟩, ⟨none, .p2 (bin2 P .geq 3) (.loc 0) (.cst (AV.int .i64 0))⟩] [(4, .loc 0)]
def fn96 : FnA := ⟨(.seq c96_1 (.seq c96_3 .ret)), [.tmp 4], 9, true⟩
theorem f96A : fnA P (keepF P) 96 = some fn96 := by kernel_rfl
def F96 := An (kR c96_1 rfl) <| (kR c96_3 rfl)
theorem x_len_60 (a : Option (Nat × Nat)) (n c : Nat) (g : Option Nat) : len1 P 60 (.slice a n c g) = some (.int .i64 n) := len_slice (e := 65) (by kernel_rfl) a n c g
theorem x_ia_60 {k : IntKind} {b o n c i : Nat} {g : Option Nat} (hi : i < n) : indexAddr2 P 60 (.slice (some (b, o)) n c g) (.int k (i : Int)) = some (.ptr (some (b, o + i * 7))) := ia_slice (e := 65) (by kernel_rfl) (by kernel_rfl) hi
theorem x_ne_4 (x y : Bool) : bin2 P .neq 4 (.bool x) (.bool y) = some (.bool (!(x == y))) := b_neqB (by kernel_rfl)
theorem x_fa_65_5 (b o : Nat) : fieldAddr1 P 65 5 (.ptr (some (b, o))) = some (.ptr (some (b, o + 5))) := by kernel_rfl
theorem x_fa_65_0 (b o : Nat) : fieldAddr1 P 65 0 (.ptr (some (b, o))) = some (.ptr (some (b, o + 0))) := by kernel_rfl
theorem x_fa_65_1 (b o : Nat) : fieldAddr1 P 65 1 (.ptr (some (b, o))) = some (.ptr (some (b, o + 1))) := by kernel_rfl
theorem x_fa_65_6 (b o : Nat) : fieldAddr1 P 65 6 (.ptr (some (b, o))) = some (.ptr (some (b, o + 6))) := by kernel_rfl
theorem x_fa_65_2 (b o : Nat) : fieldAddr1 P 65 2 (.ptr (some (b, o))) = some (.ptr (some (b, o + 2))) := by kernel_rfl
theorem x_mm_84 : makeMap1 P 84 true = some (.map [] 0, mapTo) := mm_map (kt := 27) (e := 91) (by kernel_rfl)
theorem x_bd_87_0_1_2 (m0 : Option Nat) (p1 : Option (Nat × Nat)) (n2 : Int) : buildN P 87 [0, 1, 2] [(AV.map m0), (AV.ptr p1), (AV.int .u32 n2)] = some (.agg [(AV.map m0), (AV.ptr p1), (AV.int .u32 n2)]) := by kernel_rfl
theorem x_fa_87_1 (b o : Nat) : fieldAddr1 P 87 1 (.ptr (some (b, o))) = some (.ptr (some (b, o + 1))) := by kernel_rfl
theorem x_fa_87_0 (b o : Nat) : fieldAddr1 P 87 0 (.ptr (some (b, o))) = some (.ptr (some (b, o + 0))) := by kernel_rfl
theorem x_lk_84_false {h : Heap} {b c : Nat} {es : List MEnt} (hb : h.bs.gt b = some (.map es c)) (ha : AllInt .u32 es) (n : Int) : lookup2 P 84 false (.map (some b)) (.int .u32 n) h = some (match es.find? (kInt .u32 n) with | some x => okPair false x.val true | none => okPair false (AV.agg [(AV.str []), (AV.int .i64 0), (AV.int .i64 0)]) false) := lk_int (kt := 27) (e := 91) (by kernel_rfl) (by kernel_rfl) (by kernel_rfl) hb ha n
theorem x_fd_91_0 (v0 v1 v2 : AV) : field1 P 91 0 (.agg [v0, v1, v2]) = some v0 := by kernel_rfl
theorem x_al_91 : allocN P 91 = some (.cells (fillC [(AV.str []), (AV.int .i64 0), (AV.int .i64 0)] .leaf 0) (tyMark 91 true) 3 false, ptrTo) := by kernel_rfl
theorem x_fa_91_2 (b o : Nat) : fieldAddr1 P 91 2 (.ptr (some (b, o))) = some (.ptr (some (b, o + 2))) := by kernel_rfl
theorem x_mu_84 {h : Heap} {b c : Nat} {es : List MEnt} (hb : h.bs.gt b = some (.map es c)) (ha : AllInt .u32 es) (n : Int) (v : AV) : mapUpd P 84 (.map (some b)) (.int .u32 n) v h = some (undefA, h.put b (.map (putE .u32 n v c es) (if es.any (kInt .u32 n) then c else c + 1))) := mu_int (kt := 27) (e := 91) (by kernel_rfl) (by kernel_rfl) hb ha n v
theorem x_md_84 {h : Heap} {b c : Nat} {es : List MEnt} (hb : h.bs.gt b = some (.map es c)) (ha : AllInt .u32 es) (n : Int) : mapDel P 84 (.map (some b)) (.int .u32 n) h = some (undefA, h.put b (.map (cutE .u32 n es) c)) := md_int (kt := 27) (e := 91) (by kernel_rfl) (by kernel_rfl) hb ha n
theorem x_fa_91_0 (b o : Nat) : fieldAddr1 P 91 0 (.ptr (some (b, o))) = some (.ptr (some (b, o + 0))) := by kernel_rfl
theorem x_fa_87_2 (b o : Nat) : fieldAddr1 P 87 2 (.ptr (some (b, o))) = some (.ptr (some (b, o + 2))) := by kernel_rfl
theorem x_bd_91_0_1_2 (s0 : List Nat) (n1 : Int) (n2 : Int) : buildN P 91 [0, 1, 2] [(AV.str s0), (AV.int .i64 n1), (AV.int .i64 n2)] = some (.agg [(AV.str s0), (AV.int .i64 n1), (AV.int .i64 n2)]) := by kernel_rfl
theorem x_len_9 (l : List Nat) : len1 P 9 (.str l) = some (.int .i64 l.length) := len_str (by kernel_rfl) l
theorem x_fa_65_3 (b o : Nat) : fieldAddr1 P 65 3 (.ptr (some (b, o))) = some (.ptr (some (b, o + 3))) := by kernel_rfl
theorem x_fa_65_4 (b o : Nat) : fieldAddr1 P 65 4 (.ptr (some (b, o))) = some (.ptr (some (b, o + 4))) := by kernel_rfl
theorem x_al_43 : allocN P 43 = some (.cells (fillC [(AV.slice none 0 0 none)] .leaf 0) (tyMark 43 true) 1 false, ptrTo) := by kernel_rfl
theorem u_43 : P.underlying 43 = some (.slice 27) := by kernel_rfl
theorem x_bs_43_1 (n0 : Int) : buildSliceN P 43 1 [0] [(AV.int .u32 n0)] = some (.cells (fillC [(AV.int .u32 n0)] .leaf 0) [] 1 false, sliceTo 1) := by kernel_rfl
theorem x_sl_43_111 {a : Option (Nat × Nat)} {n c lo hi mx : Nat} {g : Option Nat} {k k' k'' : IntKind} (h : mx ≤ c) (h' : hi ≤ mx) (h'' : lo ≤ hi) : sliceN P 43 true true true [.slice a n c g, .int k (lo : Int), .int k' (hi : Int), .int k'' (mx : Int)] = some (.slice (a.map fun p => (p.1, p.2 + lo * 1)) (hi - lo) (mx - lo) none) := sl_111 (e := 27) (by kernel_rfl) (by kernel_rfl) h h' h''
theorem x_sl_43_010 {a : Option (Nat × Nat)} {n c hi : Nat} {g : Option Nat} {k : IntKind} (hg : gOk g 1 = true) (h : hi ≤ c) : sliceN P 43 false true false [.slice a n c g, .int k (hi : Int)] = some (.slice (a.map fun p => (p.1, p.2 + 0 * 1)) (hi - 0) (c - 0) g) := sl_010 (e := 27) (by kernel_rfl) (by kernel_rfl) hg h
theorem x_fa_91_1 (b o : Nat) : fieldAddr1 P 91 1 (.ptr (some (b, o))) = some (.ptr (some (b, o + 1))) := by kernel_rfl
theorem x_lk_84_true {h : Heap} {b c : Nat} {es : List MEnt} (hb : h.bs.gt b = some (.map es c)) (ha : AllInt .u32 es) (n : Int) : lookup2 P 84 true (.map (some b)) (.int .u32 n) h = some (match es.find? (kInt .u32 n) with | some x => okPair true x.val true | none => okPair true (AV.agg [(AV.str []), (AV.int .i64 0), (AV.int .i64 0)]) false) := lk_int (kt := 27) (e := 91) (by kernel_rfl) (by kernel_rfl) (by kernel_rfl) hb ha n
theorem x_bd_135_0 (b0 : Bool) : buildN P 135 [0] [(AV.bool b0)] = some (.agg [(AV.bool b0), (AV.slice none 0 0 none), (AV.slice none 0 0 none), (AV.slice none 0 0 none), (AV.slice none 0 0 none), (AV.slice none 0 0 none), (AV.slice none 0 0 none), (AV.slice none 0 0 none), (AV.slice none 0 0 none), (AV.slice none 0 0 none), (AV.slice none 0 0 none), (AV.slice none 0 0 none), (AV.slice none 0 0 none), (AV.slice none 0 0 none), (AV.slice none 0 0 none), (AV.slice none 0 0 none), (AV.slice none 0 0 none)]) := by kernel_rfl
theorem x_ne_24 (x : Option (Nat × Nat)) : bin2 P .neq 24 (.ptr x) (.ptr none) = some (.bool x.isSome) := b_neqP (e := 87) (by kernel_rfl)
theorem x_ne_84 (x : Option Nat) : bin2 P .neq 84 (.map x) (.map none) = some (.bool x.isSome) := b_neqM (e := 27) (f := 91) (by kernel_rfl)
theorem x_fa_135_1 (b o : Nat) : fieldAddr1 P 135 1 (.ptr (some (b, o))) = some (.ptr (some (b, o + 1))) := by kernel_rfl
theorem x_ia_133 {k : IntKind} {b o i : Nat} (hi : i < 16) : indexAddr2 P 133 (.ptr (some (b, o))) (.int k (i : Int)) = some (.ptr (some (b, o + i * 1))) := ia_arr (e := 43) (by kernel_rfl) (by kernel_rfl) hi
theorem x_bd_91_  : buildN P 91 [] [] = some (.agg [(AV.str []), (AV.int .i64 0), (AV.int .i64 0)]) := by kernel_rfl
theorem x_ne_85 (x : Option (Nat × Nat)) : bin2 P .neq 85 (.ptr x) (.ptr none) = some (.bool x.isSome) := b_neqP (e := 135) (by kernel_rfl)
theorem x_fa_135_0 (b o : Nat) : fieldAddr1 P 135 0 (.ptr (some (b, o))) = some (.ptr (some (b, o + 0))) := by kernel_rfl
theorem x_eq_43 (x : Option (Nat × Nat)) (n c : Nat) (g : Option Nat) : bin2 P .eql 43 (.slice x n c g) (.slice none 0 0 none) = some (.bool x.isNone) := b_eqlL (e := 27) (by kernel_rfl)
theorem x_bs_43_0  : buildSliceN P 43 0 [] [] = some (.cells (fillC [] .leaf 0) [] 0 false, sliceTo 0) := by kernel_rfl
theorem x_cv_3_5 (k : IntKind) (n : Int) : conv1 P 3 5 (.int k n) = some (.int .u8 (IntKind.wrap .u8 n)) := cv_int (d := (.int .i64)) (by kernel_rfl) (by kernel_rfl) k n
theorem x_sl_43_100 {a : Option (Nat × Nat)} {n c lo : Nat} {g : Option Nat} {k : IntKind} (hg : gOk g 1 = true) (h : lo ≤ n) : sliceN P 43 true false false [.slice a n c g, .int k (lo : Int)] = some (.slice (a.map fun p => (p.1, p.2 + lo * 1)) (n - lo) (c - lo) g) := sl_100 (e := 27) (by kernel_rfl) (by kernel_rfl) hg h
theorem x_sl_43_110 {a : Option (Nat × Nat)} {n c lo hi : Nat} {g : Option Nat} {k k' : IntKind} (hg : gOk g 1 = true) (h : hi ≤ c) (h' : lo ≤ hi) : sliceN P 43 true true false [.slice a n c g, .int k (lo : Int), .int k' (hi : Int)] = some (.slice (a.map fun p => (p.1, p.2 + lo * 1)) (hi - lo) (c - lo) g) := sl_110 (e := 27) (by kernel_rfl) (by kernel_rfl) hg h h'
end
end Go.Proofs.Ytlfednnfkejcjaa

/-
  The code of functions, part by part, as rules. Printed by a program of this session's.
-/
import Derived.Test.YtlfednnfkejcjaaProg
import Derived.Test.YtlfednnfkejcjaaAmG
set_option linter.unusedVariables false
set_option linter.unusedSimpArgs false
namespace Go.Proofs.Ytlfednnfkejcjaa
open Go.Am
noncomputable abbrev P : Program := Try.prog
/-! revert/revertlaw16.DedupOnce -/
noncomputable def c3_1 : AC := .reg [] [(2, .cst (AV.bool false))]
theorem r3_1 : RReg c3_1 fun call tm h => some ((tm.up (some (AV.bool false)) 2), h) := rReg (by kernel_rfl)
noncomputable def c3_4 : AC := .reg [⟨none, .pn (l1 (len1 P 22)) [.tmp 0]⟩, ⟨none, .p2 (bin2 P .gtr 3) (.loc 0) (.cst (AV.int .i64 40))⟩] [(17, .loc 0)]
theorem r3_4 : RReg c3_4 fun call tm h => match ((match (match (match tm.gt 0 with | none => none | some a0 => match (some ([] : List AV)) with | none => none | some u0 => some (a0 :: u0)) with | none => none | some us => match l1 (len1 P 22) us with | none => none | some y => some (y, h)) with | none => none | some r0 => match (match bin2 P .gtr 3 r0.1 (AV.int .i64 40) with | none => none | some y => some (y, r0.2)) with | none => none | some r1 => some ([r1.1, r0.1], r1.2)) : Option (List AV × Heap)) with | none => none | some (loc, h') => match ((match Opd.get (.loc 0) loc .leaf tm with | none => none | some o0 => some (tm.up (some o0) 17)) : Option (Tr AV)) with | none => none | some tm' => some (tm', h') := rReg (by kernel_rfl)
noncomputable def c3_7 : AC := .reg [⟨none, .cl (.cst (AV.func (Fn.func 11) [] [])) []⟩] [(2, .loc 0)]
theorem r3_7 : RReg c3_7 fun call tm h => match ((match (call (.fn 11) [] h) with | none => none | some r0 => some ([r0.1], r0.2)) : Option (List AV × Heap)) with | none => none | some (loc, h') => match ((match Opd.get (.loc 0) loc .leaf tm with | none => none | some o0 => some (tm.up (some o0) 2)) : Option (Tr AV)) with | none => none | some tm' => some (tm', h') := rReg (by kernel_rfl)
noncomputable def c3_8 : AC := .ret
theorem r3_8 : RRet c3_8 .ret := rRet
noncomputable def c3_6 : AC := .seq c3_7 c3_8
theorem r3_6 : RSeq c3_6 c3_7 c3_8 := rSeq
noncomputable def c3_9 : AC := .skip
theorem r3_9 : RRet c3_9 .normal := rSkip
noncomputable def c3_5 : AC := .cond (.tmp 17) c3_6 c3_9
theorem r3_5 : RCnd c3_5 17 c3_6 c3_9 := rCnd
noncomputable def c3_3 : AC := .seq c3_4 c3_5
theorem r3_3 : RSeq c3_3 c3_4 c3_5 := rSeq
noncomputable def c3_11 : AC := .reg [⟨none, .cl (.cst (AV.func (Fn.func 12) [] [])) []⟩] [(3, .loc 0)]
theorem r3_11 : RReg c3_11 fun call tm h => match ((match (call (.fn 12) [] h) with | none => none | some r0 => some ([r0.1], r0.2)) : Option (List AV × Heap)) with | none => none | some (loc, h') => match ((match Opd.get (.loc 0) loc .leaf tm with | none => none | some o0 => some (tm.up (some o0) 3)) : Option (Tr AV)) with | none => none | some tm' => some (tm', h') := rReg (by kernel_rfl)
noncomputable def c3_13 : AC := .reg [] [(4, .cst (AV.slice none 0 0 none))]
theorem r3_13 : RReg c3_13 fun call tm h => some ((tm.up (some (AV.slice none 0 0 none)) 4), h) := rReg (by kernel_rfl)
noncomputable def c3_15 : AC := .reg [] [(5, .cst (AV.int .u32 0))]
theorem r3_15 : RReg c3_15 fun call tm h => some ((tm.up (some (AV.int .u32 0)) 5), h) := rReg (by kernel_rfl)
noncomputable def c3_18 : AC := .reg [] [(6, .cst (AV.int .i64 0))]
theorem r3_18 : RReg c3_18 fun call tm h => some ((tm.up (some (AV.int .i64 0)) 6), h) := rReg (by kernel_rfl)
noncomputable def c3_23 : AC := .reg [⟨none, .pn (l1 (len1 P 22)) [.tmp 0]⟩, ⟨none, .p2 (bin2 P .lss 3) (.tmp 6) (.loc 0)⟩] [(23, .loc 0)]
theorem r3_23 : RReg c3_23 fun call tm h => match ((match (match (match tm.gt 0 with | none => none | some a0 => match (some ([] : List AV)) with | none => none | some u0 => some (a0 :: u0)) with | none => none | some us => match l1 (len1 P 22) us with | none => none | some y => some (y, h)) with | none => none | some r0 => match (match tm.gt 6 with | none => none | some a => match bin2 P .lss 3 a r0.1 with | none => none | some y => some (y, r0.2)) with | none => none | some r1 => some ([r1.1, r0.1], r1.2)) : Option (List AV × Heap)) with | none => none | some (loc, h') => match ((match Opd.get (.loc 0) loc .leaf tm with | none => none | some o0 => some (tm.up (some o0) 23)) : Option (Tr AV)) with | none => none | some tm' => some (tm', h') := rReg (by kernel_rfl)
noncomputable def c3_25 : AC := .skip
theorem r3_25 : RRet c3_25 .normal := rSkip
noncomputable def c3_26 : AC := .exit 0
theorem r3_26 : RRet c3_26 (.exit 0) := rExit
noncomputable def c3_24 : AC := .cond (.tmp 23) c3_25 c3_26
theorem r3_24 : RCnd c3_24 23 c3_25 c3_26 := rCnd
noncomputable def c3_22 : AC := .seq c3_23 c3_24
theorem r3_22 : RSeq c3_22 c3_23 c3_24 := rSeq
noncomputable def c3_31 : AC := .reg [⟨none, .p2 (indexAddr2 P 22) (.tmp 0) (.tmp 6)⟩, ⟨none, .ld1 (.loc 0)⟩, ⟨none, .pn (l1 (len1 P 9)) [.loc 0]⟩, ⟨none, .p2 (bin2 P .lss 3) (.loc 0) (.cst (AV.int .i64 1))⟩, ⟨some (.loc 0, false), .mv (.tmp 0)⟩, ⟨some (.loc 1, false), .mv (.tmp 6)⟩, ⟨some (.loc 2, false), .p2 (indexAddr2 P 22) (.loc 1) (.loc 0)⟩, ⟨some (.loc 3, false), .ld1 (.loc 0)⟩, ⟨some (.loc 4, false), .pn (l1 (len1 P 9)) [.loc 0]⟩, ⟨some (.loc 5, false), .p2 (bin2 P .gtr 3) (.loc 0) (.cst (AV.int .i64 64))⟩, ⟨none, .pick (.loc 6) (.cst (AV.bool true)) (.loc 0)⟩] [(39, .loc 0)]
theorem r3_31 : RReg c3_31 fun call tm h => match ((match (match tm.gt 0 with | none => none | some a => match tm.gt 6 with | none => none | some b => match indexAddr2 P 22 a b with | none => none | some y => some (y, h)) with | none => none | some r0 => match (match load1 r0.2 r0.1 with | none => none | some y => some (y, r0.2)) with | none => none | some r1 => match (match l1 (len1 P 9) [r1.1] with | none => none | some y => some (y, r1.2)) with | none => none | some r2 => match (match bin2 P .lss 3 r2.1 (AV.int .i64 1) with | none => none | some y => some (y, r2.2)) with | none => none | some r3 => match (match wanted false r3.1 with | true => (match tm.gt 0 with | none => none | some a => some (a, r3.2)) | false => some (undefA, r3.2)) with | none => none | some r4 => match (match wanted false r3.1 with | true => (match tm.gt 6 with | none => none | some a => some (a, r4.2)) | false => some (undefA, r4.2)) with | none => none | some r5 => match (match wanted false r3.1 with | true => (match indexAddr2 P 22 r4.1 r5.1 with | none => none | some y => some (y, r5.2)) | false => some (undefA, r5.2)) with | none => none | some r6 => match (match wanted false r3.1 with | true => (match load1 r6.2 r6.1 with | none => none | some y => some (y, r6.2)) | false => some (undefA, r6.2)) with | none => none | some r7 => match (match wanted false r3.1 with | true => (match l1 (len1 P 9) [r7.1] with | none => none | some y => some (y, r7.2)) | false => some (undefA, r7.2)) with | none => none | some r8 => match (match wanted false r3.1 with | true => (match bin2 P .gtr 3 r8.1 (AV.int .i64 64) with | none => none | some y => some (y, r8.2)) | false => some (undefA, r8.2)) with | none => none | some r9 => match (eBool (fun t => match (match t with | true => (some (AV.bool true)) | false => (some r9.1)) with | none => none | some y => some (y, r9.2)) r3.1) with | none => none | some r10 => some ([r10.1, r9.1, r8.1, r7.1, r6.1, r5.1, r4.1, r3.1, r2.1, r1.1, r0.1], r10.2)) : Option (List AV × Heap)) with | none => none | some (loc, h') => match ((match Opd.get (.loc 0) loc .leaf tm with | none => none | some o0 => some (tm.up (some o0) 39)) : Option (Tr AV)) with | none => none | some tm' => some (tm', h') := rReg (by kernel_rfl)
noncomputable def c3_34 : AC := .reg [⟨none, .cl (.cst (AV.func (Fn.func 11) [] [])) []⟩] [(2, .loc 0)]
theorem r3_34 : RReg c3_34 fun call tm h => match ((match (call (.fn 11) [] h) with | none => none | some r0 => some ([r0.1], r0.2)) : Option (List AV × Heap)) with | none => none | some (loc, h') => match ((match Opd.get (.loc 0) loc .leaf tm with | none => none | some o0 => some (tm.up (some o0) 2)) : Option (Tr AV)) with | none => none | some tm' => some (tm', h') := rReg (by kernel_rfl)
noncomputable def c3_35 : AC := .ret
theorem r3_35 : RRet c3_35 .ret := rRet
noncomputable def c3_33 : AC := .seq c3_34 c3_35
theorem r3_33 : RSeq c3_33 c3_34 c3_35 := rSeq
noncomputable def c3_36 : AC := .skip
theorem r3_36 : RRet c3_36 .normal := rSkip
noncomputable def c3_32 : AC := .cond (.tmp 39) c3_33 c3_36
theorem r3_32 : RCnd c3_32 39 c3_33 c3_36 := rCnd
noncomputable def c3_30 : AC := .seq c3_31 c3_32
theorem r3_30 : RSeq c3_30 c3_31 c3_32 := rSeq
noncomputable def c3_38 : AC := .reg [⟨none, .p2 (indexAddr2 P 22) (.tmp 0) (.tmp 6)⟩, ⟨none, .ld1 (.loc 0)⟩, ⟨none, .pn (sliceN P 9 true false false) [.loc 0, .cst (AV.int .i64 1)]⟩, ⟨none, .p2 (bin2 P .add 9) (.loc 0) (.cst (AV.str [46]))⟩] [(7, .loc 0)]
theorem r3_38 : RReg c3_38 fun call tm h => match ((match (match tm.gt 0 with | none => none | some a => match tm.gt 6 with | none => none | some b => match indexAddr2 P 22 a b with | none => none | some y => some (y, h)) with | none => none | some r0 => match (match load1 r0.2 r0.1 with | none => none | some y => some (y, r0.2)) with | none => none | some r1 => match (match sliceN P 9 true false false [r1.1, (AV.int .i64 1)] with | none => none | some y => some (y, r1.2)) with | none => none | some r2 => match (match bin2 P .add 9 r2.1 (AV.str [46]) with | none => none | some y => some (y, r2.2)) with | none => none | some r3 => some ([r3.1, r2.1, r1.1, r0.1], r3.2)) : Option (List AV × Heap)) with | none => none | some (loc, h') => match ((match Opd.get (.loc 0) loc .leaf tm with | none => none | some o0 => some (tm.up (some o0) 7)) : Option (Tr AV)) with | none => none | some tm' => some (tm', h') := rReg (by kernel_rfl)
noncomputable def c3_40 : AC := .reg [⟨none, .cl (.cst (AV.func (Fn.func 13) [] [])) [.tmp 4, .tmp 7]⟩] [(8, .loc 0)]
theorem r3_40 : RReg c3_40 fun call tm h => match ((match (match (match tm.gt 4 with | none => none | some a0 => match (match tm.gt 7 with | none => none | some a1 => match (some ([] : List AV)) with | none => none | some u1 => some (a1 :: u1)) with | none => none | some u0 => some (a0 :: u0)) with | none => none | some us => call (.fn 13) (app' [] (app' us [])) h) with | none => none | some r0 => some ([r0.1], r0.2)) : Option (List AV × Heap)) with | none => none | some (loc, h') => match ((match Opd.get (.loc 0) loc .leaf tm with | none => none | some o0 => some (tm.up (some o0) 8)) : Option (Tr AV)) with | none => none | some tm' => some (tm', h') := rReg (by kernel_rfl)
noncomputable def c3_42 : AC := .reg [⟨none, .cl (.cst (AV.func (Fn.func 14) [] [])) [.tmp 3, .tmp 7]⟩, ⟨none, .p1 (nthTuple 0) (.loc 0)⟩, ⟨none, .p1 (nthTuple 1) (.loc 1)⟩] [(10, .loc 0), (9, .loc 1)]
theorem r3_42 : RReg c3_42 fun call tm h => match ((match (match (match tm.gt 3 with | none => none | some a0 => match (match tm.gt 7 with | none => none | some a1 => match (some ([] : List AV)) with | none => none | some u1 => some (a1 :: u1)) with | none => none | some u0 => some (a0 :: u0)) with | none => none | some us => call (.fn 14) (app' [] (app' us [])) h) with | none => none | some r0 => match (match nthTuple 0 r0.1 with | none => none | some y => some (y, r0.2)) with | none => none | some r1 => match (match nthTuple 1 r0.1 with | none => none | some y => some (y, r1.2)) with | none => none | some r2 => some ([r2.1, r1.1, r0.1], r2.2)) : Option (List AV × Heap)) with | none => none | some (loc, h') => match ((match Opd.get (.loc 0) loc .leaf tm with | none => none | some o0 => match Opd.get (.loc 1) loc .leaf tm with | none => none | some o1 => some ((tm.up (some o0) 10).up (some o1) 9)) : Option (Tr AV)) with | none => none | some tm' => some (tm', h') := rReg (by kernel_rfl)
noncomputable def c3_45 : AC := .reg [⟨none, .p2 (bin2 P .geq 3) (.tmp 8) (.cst (AV.int .i64 0))⟩, ⟨some (.loc 0, true), .mv (.tmp 4)⟩, ⟨some (.loc 1, true), .mv (.tmp 8)⟩, ⟨some (.loc 2, true), .p2 (indexAddr2 P 26) (.loc 1) (.loc 0)⟩, ⟨some (.loc 3, true), .p1 (fieldAddr1 P 32 3) (.loc 0)⟩, ⟨some (.loc 4, true), .ld1 (.loc 0)⟩, ⟨some (.loc 5, true), .p2 (bin2 P .gtr 3) (.loc 0) (.cst (AV.int .i64 0))⟩, ⟨none, .pick (.loc 6) (.loc 0) (.cst (AV.bool false))⟩, ⟨none, .p2 (bin2 P .neq 4) (.tmp 10) (.loc 0)⟩] [(67, .loc 0)]
theorem r3_45 : RReg c3_45 fun call tm h => match ((match (match tm.gt 8 with | none => none | some a => match bin2 P .geq 3 a (AV.int .i64 0) with | none => none | some y => some (y, h)) with | none => none | some r0 => match (match wanted true r0.1 with | true => (match tm.gt 4 with | none => none | some a => some (a, r0.2)) | false => some (undefA, r0.2)) with | none => none | some r1 => match (match wanted true r0.1 with | true => (match tm.gt 8 with | none => none | some a => some (a, r1.2)) | false => some (undefA, r1.2)) with | none => none | some r2 => match (match wanted true r0.1 with | true => (match indexAddr2 P 26 r1.1 r2.1 with | none => none | some y => some (y, r2.2)) | false => some (undefA, r2.2)) with | none => none | some r3 => match (match wanted true r0.1 with | true => (match fieldAddr1 P 32 3 r3.1 with | none => none | some y => some (y, r3.2)) | false => some (undefA, r3.2)) with | none => none | some r4 => match (match wanted true r0.1 with | true => (match load1 r4.2 r4.1 with | none => none | some y => some (y, r4.2)) | false => some (undefA, r4.2)) with | none => none | some r5 => match (match wanted true r0.1 with | true => (match bin2 P .gtr 3 r5.1 (AV.int .i64 0) with | none => none | some y => some (y, r5.2)) | false => some (undefA, r5.2)) with | none => none | some r6 => match (eBool (fun t => match (match t with | true => (some r6.1) | false => (some (AV.bool false))) with | none => none | some y => some (y, r6.2)) r0.1) with | none => none | some r7 => match (match tm.gt 10 with | none => none | some a => match bin2 P .neq 4 a r7.1 with | none => none | some y => some (y, r7.2)) with | none => none | some r8 => some ([r8.1, r7.1, r6.1, r5.1, r4.1, r3.1, r2.1, r1.1, r0.1], r8.2)) : Option (List AV × Heap)) with | none => none | some (loc, h') => match ((match Opd.get (.loc 0) loc .leaf tm with | none => none | some o0 => some (tm.up (some o0) 67)) : Option (Tr AV)) with | none => none | some tm' => some (tm', h') := rReg (by kernel_rfl)
noncomputable def c3_48 : AC := .reg [] [(2, .cst (AV.bool false))]
theorem r3_48 : RReg c3_48 fun call tm h => some ((tm.up (some (AV.bool false)) 2), h) := rReg (by kernel_rfl)
noncomputable def c3_49 : AC := .ret
theorem r3_49 : RRet c3_49 .ret := rRet
noncomputable def c3_47 : AC := .seq c3_48 c3_49
theorem r3_47 : RSeq c3_47 c3_48 c3_49 := rSeq
noncomputable def c3_50 : AC := .skip
theorem r3_50 : RRet c3_50 .normal := rSkip
noncomputable def c3_46 : AC := .cond (.tmp 67) c3_47 c3_50
theorem r3_46 : RCnd c3_46 67 c3_47 c3_50 := rCnd
noncomputable def c3_44 : AC := .seq c3_45 c3_46
theorem r3_44 : RSeq c3_44 c3_45 c3_46 := rSeq
noncomputable def c3_53 : AC := .reg [⟨none, .p2 (indexAddr2 P 22) (.tmp 0) (.tmp 6)⟩, ⟨none, .ld1 (.loc 0)⟩, ⟨none, .p2 (index2 P 9) (.loc 0) (.cst (AV.int .i64 0))⟩, ⟨none, .p2 (bin2 P .rem 5) (.loc 0) (.cst (AV.int .u8 2))⟩, ⟨none, .p2 (bin2 P .eql 5) (.loc 0) (.cst (AV.int .u8 0))⟩] [(74, .loc 0)]
theorem r3_53 : RReg c3_53 fun call tm h => match ((match (match tm.gt 0 with | none => none | some a => match tm.gt 6 with | none => none | some b => match indexAddr2 P 22 a b with | none => none | some y => some (y, h)) with | none => none | some r0 => match (match load1 r0.2 r0.1 with | none => none | some y => some (y, r0.2)) with | none => none | some r1 => match (match index2 P 9 r1.1 (AV.int .i64 0) with | none => none | some y => some (y, r1.2)) with | none => none | some r2 => match (match bin2 P .rem 5 r2.1 (AV.int .u8 2) with | none => none | some y => some (y, r2.2)) with | none => none | some r3 => match (match bin2 P .eql 5 r3.1 (AV.int .u8 0) with | none => none | some y => some (y, r3.2)) with | none => none | some r4 => some ([r4.1, r3.1, r2.1, r1.1, r0.1], r4.2)) : Option (List AV × Heap)) with | none => none | some (loc, h') => match ((match Opd.get (.loc 0) loc .leaf tm with | none => none | some o0 => some (tm.up (some o0) 74)) : Option (Tr AV)) with | none => none | some tm' => some (tm', h') := rReg (by kernel_rfl)
noncomputable def c3_56 : AC := .reg [] [(75, .tmp 10)]
theorem r3_56 : RReg c3_56 fun call tm h => match ((match tm.gt 10 with | none => none | some o0 => some (tm.up (some o0) 75)) : Option (Tr AV)) with | none => none | some tm' => some (tm', h) := rReg (by kernel_rfl)
noncomputable def c3_59 : AC := .reg [⟨none, .cl (.cst (AV.func (Fn.func 15) [] [])) [.tmp 3, .tmp 9]⟩, ⟨none, .p1 (nthTuple 0) (.loc 0)⟩, ⟨none, .p1 (nthTuple 1) (.loc 1)⟩] [(12, .loc 0), (11, .loc 1)]
theorem r3_59 : RReg c3_59 fun call tm h => match ((match (match (match tm.gt 3 with | none => none | some a0 => match (match tm.gt 9 with | none => none | some a1 => match (some ([] : List AV)) with | none => none | some u1 => some (a1 :: u1)) with | none => none | some u0 => some (a0 :: u0)) with | none => none | some us => call (.fn 15) (app' [] (app' us [])) h) with | none => none | some r0 => match (match nthTuple 0 r0.1 with | none => none | some y => some (y, r0.2)) with | none => none | some r1 => match (match nthTuple 1 r0.1 with | none => none | some y => some (y, r1.2)) with | none => none | some r2 => some ([r2.1, r1.1, r0.1], r2.2)) : Option (List AV × Heap)) with | none => none | some (loc, h') => match ((match Opd.get (.loc 0) loc .leaf tm with | none => none | some o0 => match Opd.get (.loc 1) loc .leaf tm with | none => none | some o1 => some ((tm.up (some o0) 12).up (some o1) 11)) : Option (Tr AV)) with | none => none | some tm' => some (tm', h') := rReg (by kernel_rfl)
noncomputable def c3_61 : AC := .reg [⟨none, .p2 (indexAddr2 P 26) (.tmp 4) (.tmp 8)⟩, ⟨none, .p1 (fieldAddr1 P 32 3) (.loc 0)⟩, ⟨none, .ld1 (.loc 0)⟩, ⟨none, .p2 (bin2 P .sub 3) (.loc 0) (.cst (AV.int .i64 1))⟩, ⟨none, .p2 (indexAddr2 P 26) (.tmp 4) (.tmp 8)⟩, ⟨none, .p1 (fieldAddr1 P 32 3) (.loc 0)⟩, ⟨none, .st1 (.loc 0) (.loc 2)⟩] []
theorem r3_61 : RReg c3_61 fun call tm h => match ((match (match tm.gt 4 with | none => none | some a => match tm.gt 8 with | none => none | some b => match indexAddr2 P 26 a b with | none => none | some y => some (y, h)) with | none => none | some r0 => match (match fieldAddr1 P 32 3 r0.1 with | none => none | some y => some (y, r0.2)) with | none => none | some r1 => match (match load1 r1.2 r1.1 with | none => none | some y => some (y, r1.2)) with | none => none | some r2 => match (match bin2 P .sub 3 r2.1 (AV.int .i64 1) with | none => none | some y => some (y, r2.2)) with | none => none | some r3 => match (match tm.gt 4 with | none => none | some a => match tm.gt 8 with | none => none | some b => match indexAddr2 P 26 a b with | none => none | some y => some (y, r3.2)) with | none => none | some r4 => match (match fieldAddr1 P 32 3 r4.1 with | none => none | some y => some (y, r4.2)) with | none => none | some r5 => match (store1 r5.2 r5.1 r3.1) with | none => none | some r6 => some ([r6.1, r5.1, r4.1, r3.1, r2.1, r1.1, r0.1], r6.2)) : Option (List AV × Heap)) with | none => none | some (_, h') => some (tm, h') := rReg (by kernel_rfl)
noncomputable def c3_63 : AC := .reg [⟨none, .p2 (bin2 P .neq 33) (.tmp 12) (.cst (AV.int .i64 0))⟩, ⟨some (.loc 0, false), .mv (.tmp 11)⟩, ⟨some (.loc 1, false), .mv (.tmp 4)⟩, ⟨some (.loc 2, false), .mv (.tmp 8)⟩, ⟨some (.loc 3, false), .p2 (indexAddr2 P 26) (.loc 1) (.loc 0)⟩, ⟨some (.loc 4, false), .p1 (fieldAddr1 P 32 3) (.loc 0)⟩, ⟨some (.loc 5, false), .ld1 (.loc 0)⟩, ⟨some (.loc 6, false), .p2 (bin2 P .eql 3) (.loc 0) (.cst (AV.int .i64 0))⟩, ⟨some (.loc 7, false), .p2 (bin2 P .neq 4) (.loc 6) (.loc 0)⟩, ⟨none, .pick (.loc 8) (.cst (AV.bool true)) (.loc 0)⟩] [(101, .loc 0)]
theorem r3_63 : RReg c3_63 fun call tm h => match ((match (match tm.gt 12 with | none => none | some a => match bin2 P .neq 33 a (AV.int .i64 0) with | none => none | some y => some (y, h)) with | none => none | some r0 => match (match wanted false r0.1 with | true => (match tm.gt 11 with | none => none | some a => some (a, r0.2)) | false => some (undefA, r0.2)) with | none => none | some r1 => match (match wanted false r0.1 with | true => (match tm.gt 4 with | none => none | some a => some (a, r1.2)) | false => some (undefA, r1.2)) with | none => none | some r2 => match (match wanted false r0.1 with | true => (match tm.gt 8 with | none => none | some a => some (a, r2.2)) | false => some (undefA, r2.2)) with | none => none | some r3 => match (match wanted false r0.1 with | true => (match indexAddr2 P 26 r2.1 r3.1 with | none => none | some y => some (y, r3.2)) | false => some (undefA, r3.2)) with | none => none | some r4 => match (match wanted false r0.1 with | true => (match fieldAddr1 P 32 3 r4.1 with | none => none | some y => some (y, r4.2)) | false => some (undefA, r4.2)) with | none => none | some r5 => match (match wanted false r0.1 with | true => (match load1 r5.2 r5.1 with | none => none | some y => some (y, r5.2)) | false => some (undefA, r5.2)) with | none => none | some r6 => match (match wanted false r0.1 with | true => (match bin2 P .eql 3 r6.1 (AV.int .i64 0) with | none => none | some y => some (y, r6.2)) | false => some (undefA, r6.2)) with | none => none | some r7 => match (match wanted false r0.1 with | true => (match bin2 P .neq 4 r1.1 r7.1 with | none => none | some y => some (y, r7.2)) | false => some (undefA, r7.2)) with | none => none | some r8 => match (eBool (fun t => match (match t with | true => (some (AV.bool true)) | false => (some r8.1)) with | none => none | some y => some (y, r8.2)) r0.1) with | none => none | some r9 => some ([r9.1, r8.1, r7.1, r6.1, r5.1, r4.1, r3.1, r2.1, r1.1, r0.1], r9.2)) : Option (List AV × Heap)) with | none => none | some (loc, h') => match ((match Opd.get (.loc 0) loc .leaf tm with | none => none | some o0 => some (tm.up (some o0) 101)) : Option (Tr AV)) with | none => none | some tm' => some (tm', h') := rReg (by kernel_rfl)
noncomputable def c3_66 : AC := .reg [] [(2, .cst (AV.bool false))]
theorem r3_66 : RReg c3_66 fun call tm h => some ((tm.up (some (AV.bool false)) 2), h) := rReg (by kernel_rfl)
noncomputable def c3_67 : AC := .ret
theorem r3_67 : RRet c3_67 .ret := rRet
noncomputable def c3_65 : AC := .seq c3_66 c3_67
theorem r3_65 : RSeq c3_65 c3_66 c3_67 := rSeq
noncomputable def c3_68 : AC := .skip
theorem r3_68 : RRet c3_68 .normal := rSkip
noncomputable def c3_64 : AC := .cond (.tmp 101) c3_65 c3_68
theorem r3_64 : RCnd c3_64 101 c3_65 c3_68 := rCnd
noncomputable def c3_62 : AC := .seq c3_63 c3_64
theorem r3_62 : RSeq c3_62 c3_63 c3_64 := rSeq
noncomputable def c3_60 : AC := .seq c3_61 c3_62
theorem r3_60 : RSeq c3_60 c3_61 c3_62 := rSeq
noncomputable def c3_58 : AC := .seq c3_59 c3_60
theorem r3_58 : RSeq c3_58 c3_59 c3_60 := rSeq
noncomputable def c3_69 : AC := .skip
theorem r3_69 : RRet c3_69 .normal := rSkip
noncomputable def c3_57 : AC := .cond (.tmp 75) c3_58 c3_69
theorem r3_57 : RCnd c3_57 75 c3_58 c3_69 := rCnd
noncomputable def c3_55 : AC := .seq c3_56 c3_57
theorem r3_55 : RSeq c3_55 c3_56 c3_57 := rSeq
noncomputable def c3_71 : AC := .reg [] [(102, .tmp 10)]
theorem r3_71 : RReg c3_71 fun call tm h => match ((match tm.gt 10 with | none => none | some o0 => some (tm.up (some o0) 102)) : Option (Tr AV)) with | none => none | some tm' => some (tm', h) := rReg (by kernel_rfl)
noncomputable def c3_75 : AC := .reg [⟨none, .cl (.cst (AV.func (Fn.func 16) [] [])) [.tmp 3, .tmp 9]⟩, ⟨none, .p2 (bin2 P .neq 33) (.loc 0) (.cst (AV.int .i64 0))⟩] [(106, .loc 0)]
theorem r3_75 : RReg c3_75 fun call tm h => match ((match (match (match tm.gt 3 with | none => none | some a0 => match (match tm.gt 9 with | none => none | some a1 => match (some ([] : List AV)) with | none => none | some u1 => some (a1 :: u1)) with | none => none | some u0 => some (a0 :: u0)) with | none => none | some us => call (.fn 16) (app' [] (app' us [])) h) with | none => none | some r0 => match (match bin2 P .neq 33 r0.1 (AV.int .i64 0) with | none => none | some y => some (y, r0.2)) with | none => none | some r1 => some ([r1.1, r0.1], r1.2)) : Option (List AV × Heap)) with | none => none | some (loc, h') => match ((match Opd.get (.loc 0) loc .leaf tm with | none => none | some o0 => some (tm.up (some o0) 106)) : Option (Tr AV)) with | none => none | some tm' => some (tm', h') := rReg (by kernel_rfl)
noncomputable def c3_78 : AC := .reg [] [(2, .cst (AV.bool false))]
theorem r3_78 : RReg c3_78 fun call tm h => some ((tm.up (some (AV.bool false)) 2), h) := rReg (by kernel_rfl)
noncomputable def c3_79 : AC := .ret
theorem r3_79 : RRet c3_79 .ret := rRet
noncomputable def c3_77 : AC := .seq c3_78 c3_79
theorem r3_77 : RSeq c3_77 c3_78 c3_79 := rSeq
noncomputable def c3_80 : AC := .skip
theorem r3_80 : RRet c3_80 .normal := rSkip
noncomputable def c3_76 : AC := .cond (.tmp 106) c3_77 c3_80
theorem r3_76 : RCnd c3_76 106 c3_77 c3_80 := rCnd
noncomputable def c3_74 : AC := .seq c3_75 c3_76
theorem r3_74 : RSeq c3_74 c3_75 c3_76 := rSeq
noncomputable def c3_81 : AC := .reg [⟨none, .p2 (indexAddr2 P 26) (.tmp 4) (.tmp 8)⟩, ⟨none, .p1 (fieldAddr1 P 32 3) (.loc 0)⟩, ⟨none, .ld1 (.loc 0)⟩, ⟨none, .p2 (bin2 P .add 3) (.loc 0) (.cst (AV.int .i64 1))⟩, ⟨none, .p2 (indexAddr2 P 26) (.tmp 4) (.tmp 8)⟩, ⟨none, .p1 (fieldAddr1 P 32 3) (.loc 0)⟩, ⟨none, .st1 (.loc 0) (.loc 2)⟩] []
theorem r3_81 : RReg c3_81 fun call tm h => match ((match (match tm.gt 4 with | none => none | some a => match tm.gt 8 with | none => none | some b => match indexAddr2 P 26 a b with | none => none | some y => some (y, h)) with | none => none | some r0 => match (match fieldAddr1 P 32 3 r0.1 with | none => none | some y => some (y, r0.2)) with | none => none | some r1 => match (match load1 r1.2 r1.1 with | none => none | some y => some (y, r1.2)) with | none => none | some r2 => match (match bin2 P .add 3 r2.1 (AV.int .i64 1) with | none => none | some y => some (y, r2.2)) with | none => none | some r3 => match (match tm.gt 4 with | none => none | some a => match tm.gt 8 with | none => none | some b => match indexAddr2 P 26 a b with | none => none | some y => some (y, r3.2)) with | none => none | some r4 => match (match fieldAddr1 P 32 3 r4.1 with | none => none | some y => some (y, r4.2)) with | none => none | some r5 => match (store1 r5.2 r5.1 r3.1) with | none => none | some r6 => some ([r6.1, r5.1, r4.1, r3.1, r2.1, r1.1, r0.1], r6.2)) : Option (List AV × Heap)) with | none => none | some (_, h') => some (tm, h') := rReg (by kernel_rfl)
noncomputable def c3_73 : AC := .seq c3_74 c3_81
theorem r3_73 : RSeq c3_73 c3_74 c3_81 := rSeq
noncomputable def c3_83 : AC := .reg [⟨none, .cl (.cst (AV.func (Fn.func 17) [] [])) [.tmp 3, .tmp 7, .tmp 6]⟩, ⟨none, .p1 (nthTuple 0) (.loc 0)⟩, ⟨none, .p1 (nthTuple 1) (.loc 1)⟩] [(14, .loc 0), (13, .loc 1)]
theorem r3_83 : RReg c3_83 fun call tm h => match ((match (match (match tm.gt 3 with | none => none | some a0 => match (match tm.gt 7 with | none => none | some a1 => match (match tm.gt 6 with | none => none | some a2 => match (some ([] : List AV)) with | none => none | some u2 => some (a2 :: u2)) with | none => none | some u1 => some (a1 :: u1)) with | none => none | some u0 => some (a0 :: u0)) with | none => none | some us => call (.fn 17) (app' [] (app' us [])) h) with | none => none | some r0 => match (match nthTuple 0 r0.1 with | none => none | some y => some (y, r0.2)) with | none => none | some r1 => match (match nthTuple 1 r0.1 with | none => none | some y => some (y, r1.2)) with | none => none | some r2 => some ([r2.1, r1.1, r0.1], r2.2)) : Option (List AV × Heap)) with | none => none | some (loc, h') => match ((match Opd.get (.loc 0) loc .leaf tm with | none => none | some o0 => match Opd.get (.loc 1) loc .leaf tm with | none => none | some o1 => some ((tm.up (some o0) 14).up (some o1) 13)) : Option (Tr AV)) with | none => none | some tm' => some (tm', h') := rReg (by kernel_rfl)
noncomputable def c3_86 : AC := .reg [⟨none, .p2 (bin2 P .neq 33) (.tmp 14) (.cst (AV.int .i64 0))⟩, ⟨some (.loc 0, false), .mv (.tmp 13)⟩, ⟨some (.loc 1, false), .mv (.tmp 5)⟩, ⟨some (.loc 2, false), .p2 (bin2 P .leq 27) (.loc 1) (.loc 0)⟩, ⟨none, .pick (.loc 3) (.cst (AV.bool true)) (.loc 0)⟩] [(128, .loc 0)]
theorem r3_86 : RReg c3_86 fun call tm h => match ((match (match tm.gt 14 with | none => none | some a => match bin2 P .neq 33 a (AV.int .i64 0) with | none => none | some y => some (y, h)) with | none => none | some r0 => match (match wanted false r0.1 with | true => (match tm.gt 13 with | none => none | some a => some (a, r0.2)) | false => some (undefA, r0.2)) with | none => none | some r1 => match (match wanted false r0.1 with | true => (match tm.gt 5 with | none => none | some a => some (a, r1.2)) | false => some (undefA, r1.2)) with | none => none | some r2 => match (match wanted false r0.1 with | true => (match bin2 P .leq 27 r1.1 r2.1 with | none => none | some y => some (y, r2.2)) | false => some (undefA, r2.2)) with | none => none | some r3 => match (eBool (fun t => match (match t with | true => (some (AV.bool true)) | false => (some r3.1)) with | none => none | some y => some (y, r3.2)) r0.1) with | none => none | some r4 => some ([r4.1, r3.1, r2.1, r1.1, r0.1], r4.2)) : Option (List AV × Heap)) with | none => none | some (loc, h') => match ((match Opd.get (.loc 0) loc .leaf tm with | none => none | some o0 => some (tm.up (some o0) 128)) : Option (Tr AV)) with | none => none | some tm' => some (tm', h') := rReg (by kernel_rfl)
noncomputable def c3_89 : AC := .reg [] [(2, .cst (AV.bool false))]
theorem r3_89 : RReg c3_89 fun call tm h => some ((tm.up (some (AV.bool false)) 2), h) := rReg (by kernel_rfl)
noncomputable def c3_90 : AC := .ret
theorem r3_90 : RRet c3_90 .ret := rRet
noncomputable def c3_88 : AC := .seq c3_89 c3_90
theorem r3_88 : RSeq c3_88 c3_89 c3_90 := rSeq
noncomputable def c3_91 : AC := .skip
theorem r3_91 : RRet c3_91 .normal := rSkip
noncomputable def c3_87 : AC := .cond (.tmp 128) c3_88 c3_91
theorem r3_87 : RCnd c3_87 128 c3_88 c3_91 := rCnd
noncomputable def c3_85 : AC := .seq c3_86 c3_87
theorem r3_85 : RSeq c3_85 c3_86 c3_87 := rSeq
noncomputable def c3_93 : AC := .reg [] [(5, .tmp 13)]
theorem r3_93 : RReg c3_93 fun call tm h => match ((match tm.gt 13 with | none => none | some o0 => some (tm.up (some o0) 5)) : Option (Tr AV)) with | none => none | some tm' => some (tm', h) := rReg (by kernel_rfl)
noncomputable def c3_96 : AC := .reg [⟨none, .p2 (bin2 P .lss 3) (.tmp 8) (.cst (AV.int .i64 0))⟩] [(131, .loc 0)]
theorem r3_96 : RReg c3_96 fun call tm h => match ((match (match tm.gt 8 with | none => none | some a => match bin2 P .lss 3 a (AV.int .i64 0) with | none => none | some y => some (y, h)) with | none => none | some r0 => some ([r0.1], r0.2)) : Option (List AV × Heap)) with | none => none | some (loc, h') => match ((match Opd.get (.loc 0) loc .leaf tm with | none => none | some o0 => some (tm.up (some o0) 131)) : Option (Tr AV)) with | none => none | some tm' => some (tm', h') := rReg (by kernel_rfl)
noncomputable def c3_99 : AC := .reg [⟨none, .pn (buildN P 32 [0]) [.tmp 7]⟩, ⟨none, .al (buildSliceN P 26 1 [0]) [.loc 0]⟩, ⟨none, .ef (fun vs id h => l2 (fun s x => appendS P 26 s x id h) vs) [.tmp 4, .loc 0]⟩] [(4, .loc 0)]
theorem r3_99 : RReg c3_99 fun call tm h => match ((match (match (match tm.gt 7 with | none => none | some a0 => match (some ([] : List AV)) with | none => none | some u0 => some (a0 :: u0)) with | none => none | some us => match buildN P 32 [0] us with | none => none | some y => some (y, h)) with | none => none | some r0 => match (match buildSliceN P 26 1 [0] [r0.1] with | none => none | some y => some (y.2 r0.2.next, r0.2.new r0.2.next y.1)) with | none => none | some r1 => match (match (match tm.gt 4 with | none => none | some a0 => match (some [r1.1]) with | none => none | some u0 => some (a0 :: u0)) with | none => none | some us => (fun vs id h => l2 (fun s x => appendS P 26 s x id h) vs) us r1.2.next r1.2) with | none => none | some r2 => some ([r2.1, r1.1, r0.1], r2.2)) : Option (List AV × Heap)) with | none => none | some (loc, h') => match ((match Opd.get (.loc 0) loc .leaf tm with | none => none | some o0 => some (tm.up (some o0) 4)) : Option (Tr AV)) with | none => none | some tm' => some (tm', h') := rReg (by kernel_rfl)
noncomputable def c3_100 : AC := .reg [⟨none, .pn (l1 (len1 P 26)) [.tmp 4]⟩, ⟨none, .p2 (bin2 P .sub 3) (.loc 0) (.cst (AV.int .i64 1))⟩] [(8, .loc 0)]
theorem r3_100 : RReg c3_100 fun call tm h => match ((match (match (match tm.gt 4 with | none => none | some a0 => match (some ([] : List AV)) with | none => none | some u0 => some (a0 :: u0)) with | none => none | some us => match l1 (len1 P 26) us with | none => none | some y => some (y, h)) with | none => none | some r0 => match (match bin2 P .sub 3 r0.1 (AV.int .i64 1) with | none => none | some y => some (y, r0.2)) with | none => none | some r1 => some ([r1.1, r0.1], r1.2)) : Option (List AV × Heap)) with | none => none | some (loc, h') => match ((match Opd.get (.loc 0) loc .leaf tm with | none => none | some o0 => some (tm.up (some o0) 8)) : Option (Tr AV)) with | none => none | some tm' => some (tm', h') := rReg (by kernel_rfl)
noncomputable def c3_98 : AC := .seq c3_99 c3_100
theorem r3_98 : RSeq c3_98 c3_99 c3_100 := rSeq
noncomputable def c3_101 : AC := .skip
theorem r3_101 : RRet c3_101 .normal := rSkip
noncomputable def c3_97 : AC := .cond (.tmp 131) c3_98 c3_101
theorem r3_97 : RCnd c3_97 131 c3_98 c3_101 := rCnd
noncomputable def c3_95 : AC := .seq c3_96 c3_97
theorem r3_95 : RSeq c3_95 c3_96 c3_97 := rSeq
noncomputable def c3_102 : AC := .reg [⟨none, .pn (buildN P 32 [0, 1, 2, 3]) [.tmp 7, .tmp 13, .tmp 6, .cst (AV.int .i64 1)]⟩, ⟨none, .p2 (indexAddr2 P 26) (.tmp 4) (.tmp 8)⟩, ⟨none, .ef (fun vs _ h => l2 (storeN 4 h) vs) [.loc 0, .loc 1]⟩] []
theorem r3_102 : RReg c3_102 fun call tm h => match ((match (match (match tm.gt 7 with | none => none | some a0 => match (match tm.gt 13 with | none => none | some a1 => match (match tm.gt 6 with | none => none | some a2 => match (some [(AV.int .i64 1)]) with | none => none | some u2 => some (a2 :: u2)) with | none => none | some u1 => some (a1 :: u1)) with | none => none | some u0 => some (a0 :: u0)) with | none => none | some us => match buildN P 32 [0, 1, 2, 3] us with | none => none | some y => some (y, h)) with | none => none | some r0 => match (match tm.gt 4 with | none => none | some a => match tm.gt 8 with | none => none | some b => match indexAddr2 P 26 a b with | none => none | some y => some (y, r0.2)) with | none => none | some r1 => match ((fun vs _ h => l2 (storeN 4 h) vs) [r1.1, r0.1] r1.2.next r1.2) with | none => none | some r2 => some ([r2.1, r1.1, r0.1], r2.2)) : Option (List AV × Heap)) with | none => none | some (_, h') => some (tm, h') := rReg (by kernel_rfl)
noncomputable def c3_94 : AC := .seq c3_95 c3_102
theorem r3_94 : RSeq c3_94 c3_95 c3_102 := rSeq
noncomputable def c3_92 : AC := .seq c3_93 c3_94
theorem r3_92 : RSeq c3_92 c3_93 c3_94 := rSeq
noncomputable def c3_84 : AC := .seq c3_85 c3_92
theorem r3_84 : RSeq c3_84 c3_85 c3_92 := rSeq
noncomputable def c3_82 : AC := .seq c3_83 c3_84
theorem r3_82 : RSeq c3_82 c3_83 c3_84 := rSeq
noncomputable def c3_72 : AC := .cond (.tmp 102) c3_73 c3_82
theorem r3_72 : RCnd c3_72 102 c3_73 c3_82 := rCnd
noncomputable def c3_70 : AC := .seq c3_71 c3_72
theorem r3_70 : RSeq c3_70 c3_71 c3_72 := rSeq
noncomputable def c3_54 : AC := .cond (.tmp 74) c3_55 c3_70
theorem r3_54 : RCnd c3_54 74 c3_55 c3_70 := rCnd
noncomputable def c3_52 : AC := .seq c3_53 c3_54
theorem r3_52 : RSeq c3_52 c3_53 c3_54 := rSeq
noncomputable def c3_104 : AC := .reg [⟨none, .cl (.cst (AV.func (Fn.func 18) [] [])) [.tmp 3, .tmp 4]⟩, ⟨none, .p1 (un1 .not) (.loc 0)⟩] [(150, .loc 0)]
theorem r3_104 : RReg c3_104 fun call tm h => match ((match (match (match tm.gt 3 with | none => none | some a0 => match (match tm.gt 4 with | none => none | some a1 => match (some ([] : List AV)) with | none => none | some u1 => some (a1 :: u1)) with | none => none | some u0 => some (a0 :: u0)) with | none => none | some us => call (.fn 18) (app' [] (app' us [])) h) with | none => none | some r0 => match (match un1 .not r0.1 with | none => none | some y => some (y, r0.2)) with | none => none | some r1 => some ([r1.1, r0.1], r1.2)) : Option (List AV × Heap)) with | none => none | some (loc, h') => match ((match Opd.get (.loc 0) loc .leaf tm with | none => none | some o0 => some (tm.up (some o0) 150)) : Option (Tr AV)) with | none => none | some tm' => some (tm', h') := rReg (by kernel_rfl)
noncomputable def c3_107 : AC := .reg [] [(2, .cst (AV.bool false))]
theorem r3_107 : RReg c3_107 fun call tm h => some ((tm.up (some (AV.bool false)) 2), h) := rReg (by kernel_rfl)
noncomputable def c3_108 : AC := .ret
theorem r3_108 : RRet c3_108 .ret := rRet
noncomputable def c3_106 : AC := .seq c3_107 c3_108
theorem r3_106 : RSeq c3_106 c3_107 c3_108 := rSeq
noncomputable def c3_109 : AC := .skip
theorem r3_109 : RRet c3_109 .normal := rSkip
noncomputable def c3_105 : AC := .cond (.tmp 150) c3_106 c3_109
theorem r3_105 : RCnd c3_105 150 c3_106 c3_109 := rCnd
noncomputable def c3_103 : AC := .seq c3_104 c3_105
theorem r3_103 : RSeq c3_103 c3_104 c3_105 := rSeq
noncomputable def c3_51 : AC := .seq c3_52 c3_103
theorem r3_51 : RSeq c3_51 c3_52 c3_103 := rSeq
noncomputable def c3_43 : AC := .seq c3_44 c3_51
theorem r3_43 : RSeq c3_43 c3_44 c3_51 := rSeq
noncomputable def c3_41 : AC := .seq c3_42 c3_43
theorem r3_41 : RSeq c3_41 c3_42 c3_43 := rSeq
noncomputable def c3_39 : AC := .seq c3_40 c3_41
theorem r3_39 : RSeq c3_39 c3_40 c3_41 := rSeq
noncomputable def c3_37 : AC := .seq c3_38 c3_39
theorem r3_37 : RSeq c3_37 c3_38 c3_39 := rSeq
noncomputable def c3_29 : AC := .seq c3_30 c3_37
theorem r3_29 : RSeq c3_29 c3_30 c3_37 := rSeq
noncomputable def c3_28 : AC := .block 1 c3_29
theorem r3_28 : RBlk c3_28 1 c3_29 := rBlk
noncomputable def c3_110 : AC := .reg [⟨none, .p2 (bin2 P .add 3) (.tmp 6) (.cst (AV.int .i64 1))⟩] [(6, .loc 0)]
theorem r3_110 : RReg c3_110 fun call tm h => match ((match (match tm.gt 6 with | none => none | some a => match bin2 P .add 3 a (AV.int .i64 1) with | none => none | some y => some (y, h)) with | none => none | some r0 => some ([r0.1], r0.2)) : Option (List AV × Heap)) with | none => none | some (loc, h') => match ((match Opd.get (.loc 0) loc .leaf tm with | none => none | some o0 => some (tm.up (some o0) 6)) : Option (Tr AV)) with | none => none | some tm' => some (tm', h') := rReg (by kernel_rfl)
noncomputable def c3_27 : AC := .seq c3_28 c3_110
theorem r3_27 : RSeq c3_27 c3_28 c3_110 := rSeq
noncomputable def c3_21 : AC := .seq c3_22 c3_27
theorem r3_21 : RSeq c3_21 c3_22 c3_27 := rSeq
/- LOOP -/
noncomputable def c3_20 : AC := .loop c3_21
noncomputable def c3_19 : AC := .block 0 c3_20
theorem r3_19 : RBlk c3_19 0 c3_20 := rBlk
noncomputable def c3_17 : AC := .seq c3_18 c3_19
theorem r3_17 : RSeq c3_17 c3_18 c3_19 := rSeq
noncomputable def c3_112 : AC := .reg [⟨none, .cl (.cst (AV.func (Fn.func 11) [] [])) []⟩] [(2, .loc 0)]
theorem r3_112 : RReg c3_112 fun call tm h => match ((match (call (.fn 11) [] h) with | none => none | some r0 => some ([r0.1], r0.2)) : Option (List AV × Heap)) with | none => none | some (loc, h') => match ((match Opd.get (.loc 0) loc .leaf tm with | none => none | some o0 => some (tm.up (some o0) 2)) : Option (Tr AV)) with | none => none | some tm' => some (tm', h') := rReg (by kernel_rfl)
noncomputable def c3_113 : AC := .ret
theorem r3_113 : RRet c3_113 .ret := rRet
noncomputable def c3_111 : AC := .seq c3_112 c3_113
theorem r3_111 : RSeq c3_111 c3_112 c3_113 := rSeq
noncomputable def c3_16 : AC := .seq c3_17 c3_111
theorem r3_16 : RSeq c3_16 c3_17 c3_111 := rSeq
noncomputable def c3_14 : AC := .seq c3_15 c3_16
theorem r3_14 : RSeq c3_14 c3_15 c3_16 := rSeq
noncomputable def c3_12 : AC := .seq c3_13 c3_14
theorem r3_12 : RSeq c3_12 c3_13 c3_14 := rSeq
noncomputable def c3_10 : AC := .seq c3_11 c3_12
theorem r3_10 : RSeq c3_10 c3_11 c3_12 := rSeq
noncomputable def c3_2 : AC := .seq c3_3 c3_10
theorem r3_2 : RSeq c3_2 c3_3 c3_10 := rSeq
noncomputable def c3_0 : AC := .seq c3_1 c3_2
theorem r3_0 : RSeq c3_0 c3_1 c3_2 := rSeq
noncomputable def fn3 : FnA := ⟨c3_0, [.tmp 2], 152, true⟩
theorem f3A : fnA P (keepF P) 3 = some fn3 := by kernel_rfl

/-! revert/revertlaw16.works -/
noncomputable def c11_1 : AC := .reg [] [(0, .cst (AV.bool false))]
theorem r11_1 : RReg c11_1 fun call tm h => some ((tm.up (some (AV.bool false)) 0), h) := rReg (by kernel_rfl)
noncomputable def c11_3 : AC := .reg [⟨none, .cl (.cst (AV.func (Fn.func 12) [] [])) []⟩] [(1, .loc 0)]
theorem r11_3 : RReg c11_3 fun call tm h => match ((match (call (.fn 12) [] h) with | none => none | some r0 => some ([r0.1], r0.2)) : Option (List AV × Heap)) with | none => none | some (loc, h') => match ((match Opd.get (.loc 0) loc .leaf tm with | none => none | some o0 => some (tm.up (some o0) 1)) : Option (Tr AV)) with | none => none | some tm' => some (tm', h') := rReg (by kernel_rfl)
noncomputable def c11_5 : AC := .reg [⟨none, .cl (.cst (AV.func (Fn.func 46) [] [])) [.tmp 1, .cst (AV.str [97, 98]), .cst (AV.int .i64 7), .cst (AV.int .u32 1)]⟩, ⟨some (.loc 0, true), .mv (.tmp 1)⟩, ⟨some (.loc 1, true), .cl (.cst (AV.func (Fn.func 46) [] [])) [.loc 0, .cst (AV.str [99, 100]), .cst (AV.int .i64 8), .cst (AV.int .u32 2)]⟩, ⟨none, .pick (.loc 2) (.loc 0) (.cst (AV.bool false))⟩, ⟨some (.loc 0, true), .mv (.tmp 1)⟩, ⟨some (.loc 1, true), .cl (.cst (AV.func (Fn.func 49) [] [])) [.loc 0, .cst (AV.str [97, 98]), .cst (AV.int .i64 6)]⟩, ⟨none, .pick (.loc 2) (.loc 0) (.cst (AV.bool false))⟩, ⟨some (.loc 0, true), .mv (.tmp 1)⟩, ⟨some (.loc 1, true), .cl (.cst (AV.func (Fn.func 48) [] [])) [.loc 0, .cst (AV.str [97, 98]), .cst (AV.int .u32 1)]⟩, ⟨none, .pick (.loc 2) (.loc 0) (.cst (AV.bool false))⟩, ⟨some (.loc 0, true), .mv (.tmp 1)⟩, ⟨some (.loc 1, true), .cl (.cst (AV.func (Fn.func 48) [] [])) [.loc 0, .cst (AV.str [120]), .cst (AV.int .u32 0)]⟩, ⟨none, .pick (.loc 2) (.loc 0) (.cst (AV.bool false))⟩, ⟨some (.loc 0, true), .mv (.tmp 1)⟩, ⟨some (.loc 1, true), .cl (.cst (AV.func (Fn.func 39) [] [])) [.loc 0]⟩, ⟨some (.loc 2, true), .p2 (bin2 P .eql 3) (.loc 0) (.cst (AV.int .i64 2))⟩, ⟨none, .pick (.loc 3) (.loc 0) (.cst (AV.bool false))⟩] [(0, .loc 0)]
theorem r11_5 : RReg c11_5 fun call tm h => match ((match (match (match tm.gt 1 with | none => none | some a0 => match (some [(AV.str [97, 98]), (AV.int .i64 7), (AV.int .u32 1)]) with | none => none | some u0 => some (a0 :: u0)) with | none => none | some us => call (.fn 46) (app' [] (app' us [])) h) with | none => none | some r0 => match (match wanted true r0.1 with | true => (match tm.gt 1 with | none => none | some a => some (a, r0.2)) | false => some (undefA, r0.2)) with | none => none | some r1 => match (match wanted true r0.1 with | true => (call (.fn 46) [r1.1, (AV.str [99, 100]), (AV.int .i64 8), (AV.int .u32 2)] r1.2) | false => some (undefA, r1.2)) with | none => none | some r2 => match (eBool (fun t => match (match t with | true => (some r2.1) | false => (some (AV.bool false))) with | none => none | some y => some (y, r2.2)) r0.1) with | none => none | some r3 => match (match wanted true r3.1 with | true => (match tm.gt 1 with | none => none | some a => some (a, r3.2)) | false => some (undefA, r3.2)) with | none => none | some r4 => match (match wanted true r3.1 with | true => (call (.fn 49) [r4.1, (AV.str [97, 98]), (AV.int .i64 6)] r4.2) | false => some (undefA, r4.2)) with | none => none | some r5 => match (eBool (fun t => match (match t with | true => (some r5.1) | false => (some (AV.bool false))) with | none => none | some y => some (y, r5.2)) r3.1) with | none => none | some r6 => match (match wanted true r6.1 with | true => (match tm.gt 1 with | none => none | some a => some (a, r6.2)) | false => some (undefA, r6.2)) with | none => none | some r7 => match (match wanted true r6.1 with | true => (call (.fn 48) [r7.1, (AV.str [97, 98]), (AV.int .u32 1)] r7.2) | false => some (undefA, r7.2)) with | none => none | some r8 => match (eBool (fun t => match (match t with | true => (some r8.1) | false => (some (AV.bool false))) with | none => none | some y => some (y, r8.2)) r6.1) with | none => none | some r9 => match (match wanted true r9.1 with | true => (match tm.gt 1 with | none => none | some a => some (a, r9.2)) | false => some (undefA, r9.2)) with | none => none | some r10 => match (match wanted true r9.1 with | true => (call (.fn 48) [r10.1, (AV.str [120]), (AV.int .u32 0)] r10.2) | false => some (undefA, r10.2)) with | none => none | some r11 => match (eBool (fun t => match (match t with | true => (some r11.1) | false => (some (AV.bool false))) with | none => none | some y => some (y, r11.2)) r9.1) with | none => none | some r12 => match (match wanted true r12.1 with | true => (match tm.gt 1 with | none => none | some a => some (a, r12.2)) | false => some (undefA, r12.2)) with | none => none | some r13 => match (match wanted true r12.1 with | true => (call (.fn 39) [r13.1] r13.2) | false => some (undefA, r13.2)) with | none => none | some r14 => match (match wanted true r12.1 with | true => (match bin2 P .eql 3 r14.1 (AV.int .i64 2) with | none => none | some y => some (y, r14.2)) | false => some (undefA, r14.2)) with | none => none | some r15 => match (eBool (fun t => match (match t with | true => (some r15.1) | false => (some (AV.bool false))) with | none => none | some y => some (y, r15.2)) r12.1) with | none => none | some r16 => some ([r16.1, r15.1, r14.1, r13.1, r12.1, r11.1, r10.1, r9.1, r8.1, r7.1, r6.1, r5.1, r4.1, r3.1, r2.1, r1.1, r0.1], r16.2)) : Option (List AV × Heap)) with | none => none | some (loc, h') => match ((match Opd.get (.loc 0) loc .leaf tm with | none => none | some o0 => some (tm.up (some o0) 0)) : Option (Tr AV)) with | none => none | some tm' => some (tm', h') := rReg (by kernel_rfl)
noncomputable def c11_6 : AC := .ret
theorem r11_6 : RRet c11_6 .ret := rRet
noncomputable def c11_4 : AC := .seq c11_5 c11_6
theorem r11_4 : RSeq c11_4 c11_5 c11_6 := rSeq
noncomputable def c11_2 : AC := .seq c11_3 c11_4
theorem r11_2 : RSeq c11_2 c11_3 c11_4 := rSeq
noncomputable def c11_0 : AC := .seq c11_1 c11_2
theorem r11_0 : RSeq c11_0 c11_1 c11_2 := rSeq
noncomputable def fn11 : FnA := ⟨c11_0, [.tmp 0], 26, true⟩
theorem f11A : fnA P (keepF P) 11 = some fn11 := by kernel_rfl

/-! revert/dedup.New -/
noncomputable def c12_1 : AC := .reg [] [(0, .cst (AV.ptr none))]
theorem r12_1 : RReg c12_1 fun call tm h => some ((tm.up (some (AV.ptr none)) 0), h) := rReg (by kernel_rfl)
noncomputable def c12_3 : AC := .reg [⟨none, .al (fun (_ : List AV) => makeMap1 P 84 true) []⟩, ⟨none, .cl (.cst (AV.func (Fn.func 51) [] [])) []⟩, ⟨none, .pn (buildN P 87 [0, 1, 2]) [.loc 1, .loc 0, .cst (AV.int .u32 1)]⟩, ⟨none, .al (l1 box1) [.loc 0]⟩] [(0, .loc 0)]
theorem r12_3 : RReg c12_3 fun call tm h => match ((match (match (fun (_ : List AV) => makeMap1 P 84 true) [] with | none => none | some y => some (y.2 h.next, h.new h.next y.1)) with | none => none | some r0 => match (call (.fn 51) [] r0.2) with | none => none | some r1 => match (match buildN P 87 [0, 1, 2] [r0.1, r1.1, (AV.int .u32 1)] with | none => none | some y => some (y, r1.2)) with | none => none | some r2 => match (match l1 box1 [r2.1] with | none => none | some y => some (y.2 r2.2.next, r2.2.new r2.2.next y.1)) with | none => none | some r3 => some ([r3.1, r2.1, r1.1, r0.1], r3.2)) : Option (List AV × Heap)) with | none => none | some (loc, h') => match ((match Opd.get (.loc 0) loc .leaf tm with | none => none | some o0 => some (tm.up (some o0) 0)) : Option (Tr AV)) with | none => none | some tm' => some (tm', h') := rReg (by kernel_rfl)
noncomputable def c12_4 : AC := .ret
theorem r12_4 : RRet c12_4 .ret := rRet
noncomputable def c12_2 : AC := .seq c12_3 c12_4
theorem r12_2 : RSeq c12_2 c12_3 c12_4 := rSeq
noncomputable def c12_0 : AC := .seq c12_1 c12_2
theorem r12_0 : RSeq c12_0 c12_1 c12_2 := rSeq
noncomputable def fn12 : FnA := ⟨c12_0, [.tmp 0], 5, true⟩
theorem f12A : fnA P (keepF P) 12 = some fn12 := by kernel_rfl

/-! revert/revertlaw16.find -/
noncomputable def c13_1 : AC := .reg [] [(4, .cst (AV.int .i64 0))]
theorem r13_1 : RReg c13_1 fun call tm h => some ((tm.up (some (AV.int .i64 0)) 4), h) := rReg (by kernel_rfl)
noncomputable def c13_4 : AC := .reg [] [(5, .cst (AV.int .i64 0))]
theorem r13_4 : RReg c13_4 fun call tm h => some ((tm.up (some (AV.int .i64 0)) 5), h) := rReg (by kernel_rfl)
noncomputable def c13_9 : AC := .reg [⟨none, .pn (l1 (len1 P 26)) [.tmp 0]⟩, ⟨none, .p2 (bin2 P .lss 3) (.tmp 5) (.loc 0)⟩] [(9, .loc 0)]
theorem r13_9 : RReg c13_9 fun call tm h => match ((match (match (match tm.gt 0 with | none => none | some a0 => match (some ([] : List AV)) with | none => none | some u0 => some (a0 :: u0)) with | none => none | some us => match l1 (len1 P 26) us with | none => none | some y => some (y, h)) with | none => none | some r0 => match (match tm.gt 5 with | none => none | some a => match bin2 P .lss 3 a r0.1 with | none => none | some y => some (y, r0.2)) with | none => none | some r1 => some ([r1.1, r0.1], r1.2)) : Option (List AV × Heap)) with | none => none | some (loc, h') => match ((match Opd.get (.loc 0) loc .leaf tm with | none => none | some o0 => some (tm.up (some o0) 9)) : Option (Tr AV)) with | none => none | some tm' => some (tm', h') := rReg (by kernel_rfl)
noncomputable def c13_11 : AC := .skip
theorem r13_11 : RRet c13_11 .normal := rSkip
noncomputable def c13_12 : AC := .exit 0
theorem r13_12 : RRet c13_12 (.exit 0) := rExit
noncomputable def c13_10 : AC := .cond (.tmp 9) c13_11 c13_12
theorem r13_10 : RCnd c13_10 9 c13_11 c13_12 := rCnd
noncomputable def c13_8 : AC := .seq c13_9 c13_10
theorem r13_8 : RSeq c13_8 c13_9 c13_10 := rSeq
noncomputable def c13_16 : AC := .reg [⟨none, .p2 (indexAddr2 P 26) (.tmp 0) (.tmp 5)⟩, ⟨none, .p1 (fieldAddr1 P 32 0) (.loc 0)⟩, ⟨none, .ld1 (.loc 0)⟩, ⟨none, .p2 (bin2 P .eql 9) (.loc 0) (.tmp 1)⟩] [(18, .loc 0)]
theorem r13_16 : RReg c13_16 fun call tm h => match ((match (match tm.gt 0 with | none => none | some a => match tm.gt 5 with | none => none | some b => match indexAddr2 P 26 a b with | none => none | some y => some (y, h)) with | none => none | some r0 => match (match fieldAddr1 P 32 0 r0.1 with | none => none | some y => some (y, r0.2)) with | none => none | some r1 => match (match load1 r1.2 r1.1 with | none => none | some y => some (y, r1.2)) with | none => none | some r2 => match (match tm.gt 1 with | none => none | some b => match bin2 P .eql 9 r2.1 b with | none => none | some y => some (y, r2.2)) with | none => none | some r3 => some ([r3.1, r2.1, r1.1, r0.1], r3.2)) : Option (List AV × Heap)) with | none => none | some (loc, h') => match ((match Opd.get (.loc 0) loc .leaf tm with | none => none | some o0 => some (tm.up (some o0) 18)) : Option (Tr AV)) with | none => none | some tm' => some (tm', h') := rReg (by kernel_rfl)
noncomputable def c13_19 : AC := .reg [] [(4, .tmp 5)]
theorem r13_19 : RReg c13_19 fun call tm h => match ((match tm.gt 5 with | none => none | some o0 => some (tm.up (some o0) 4)) : Option (Tr AV)) with | none => none | some tm' => some (tm', h) := rReg (by kernel_rfl)
noncomputable def c13_20 : AC := .ret
theorem r13_20 : RRet c13_20 .ret := rRet
noncomputable def c13_18 : AC := .seq c13_19 c13_20
theorem r13_18 : RSeq c13_18 c13_19 c13_20 := rSeq
noncomputable def c13_21 : AC := .skip
theorem r13_21 : RRet c13_21 .normal := rSkip
noncomputable def c13_17 : AC := .cond (.tmp 18) c13_18 c13_21
theorem r13_17 : RCnd c13_17 18 c13_18 c13_21 := rCnd
noncomputable def c13_15 : AC := .seq c13_16 c13_17
theorem r13_15 : RSeq c13_15 c13_16 c13_17 := rSeq
noncomputable def c13_14 : AC := .block 1 c13_15
theorem r13_14 : RBlk c13_14 1 c13_15 := rBlk
noncomputable def c13_22 : AC := .reg [⟨none, .p2 (bin2 P .add 3) (.tmp 5) (.cst (AV.int .i64 1))⟩] [(5, .loc 0)]
theorem r13_22 : RReg c13_22 fun call tm h => match ((match (match tm.gt 5 with | none => none | some a => match bin2 P .add 3 a (AV.int .i64 1) with | none => none | some y => some (y, h)) with | none => none | some r0 => some ([r0.1], r0.2)) : Option (List AV × Heap)) with | none => none | some (loc, h') => match ((match Opd.get (.loc 0) loc .leaf tm with | none => none | some o0 => some (tm.up (some o0) 5)) : Option (Tr AV)) with | none => none | some tm' => some (tm', h') := rReg (by kernel_rfl)
noncomputable def c13_13 : AC := .seq c13_14 c13_22
theorem r13_13 : RSeq c13_13 c13_14 c13_22 := rSeq
noncomputable def c13_7 : AC := .seq c13_8 c13_13
theorem r13_7 : RSeq c13_7 c13_8 c13_13 := rSeq
/- LOOP -/
noncomputable def c13_6 : AC := .loop c13_7
noncomputable def c13_5 : AC := .block 0 c13_6
theorem r13_5 : RBlk c13_5 0 c13_6 := rBlk
noncomputable def c13_3 : AC := .seq c13_4 c13_5
theorem r13_3 : RSeq c13_3 c13_4 c13_5 := rSeq
noncomputable def c13_24 : AC := .reg [] [(4, .cst (AV.int .i64 (-1)))]
theorem r13_24 : RReg c13_24 fun call tm h => some ((tm.up (some (AV.int .i64 (-1))) 4), h) := rReg (by kernel_rfl)
noncomputable def c13_25 : AC := .ret
theorem r13_25 : RRet c13_25 .ret := rRet
noncomputable def c13_23 : AC := .seq c13_24 c13_25
theorem r13_23 : RSeq c13_23 c13_24 c13_25 := rSeq
noncomputable def c13_2 : AC := .seq c13_3 c13_23
theorem r13_2 : RSeq c13_2 c13_3 c13_23 := rSeq
noncomputable def c13_0 : AC := .seq c13_1 c13_2
theorem r13_0 : RSeq c13_0 c13_1 c13_2 := rSeq
noncomputable def fn13 : FnA := ⟨c13_0, [.tmp 4], 20, true⟩
theorem f13A : fnA P (keepF P) 13 = some fn13 := by kernel_rfl

/-! (*revert/dedup.Table).Find -/
noncomputable def c14_1 : AC := .reg [] [(5, .cst (AV.bool false)), (4, .cst (AV.int .u32 0))]
theorem r14_1 : RReg c14_1 fun call tm h => some (((tm.up (some (AV.bool false)) 5).up (some (AV.int .u32 0)) 4), h) := rReg (by kernel_rfl)
noncomputable def c14_4 : AC := .reg [⟨none, .cl (.cst (AV.func (Fn.func 52) [] [])) [.tmp 0]⟩, ⟨none, .p1 (un1 .not) (.loc 0)⟩] [(10, .loc 0)]
theorem r14_4 : RReg c14_4 fun call tm h => match ((match (match (match tm.gt 0 with | none => none | some a0 => match (some ([] : List AV)) with | none => none | some u0 => some (a0 :: u0)) with | none => none | some us => call (.fn 52) (app' [] (app' us [])) h) with | none => none | some r0 => match (match un1 .not r0.1 with | none => none | some y => some (y, r0.2)) with | none => none | some r1 => some ([r1.1, r0.1], r1.2)) : Option (List AV × Heap)) with | none => none | some (loc, h') => match ((match Opd.get (.loc 0) loc .leaf tm with | none => none | some o0 => some (tm.up (some o0) 10)) : Option (Tr AV)) with | none => none | some tm' => some (tm', h') := rReg (by kernel_rfl)
noncomputable def c14_7 : AC := .reg [] [(5, .cst (AV.bool false)), (4, .cst (AV.int .u32 0))]
theorem r14_7 : RReg c14_7 fun call tm h => some (((tm.up (some (AV.bool false)) 5).up (some (AV.int .u32 0)) 4), h) := rReg (by kernel_rfl)
noncomputable def c14_8 : AC := .ret
theorem r14_8 : RRet c14_8 .ret := rRet
noncomputable def c14_6 : AC := .seq c14_7 c14_8
theorem r14_6 : RSeq c14_6 c14_7 c14_8 := rSeq
noncomputable def c14_9 : AC := .skip
theorem r14_9 : RRet c14_9 .normal := rSkip
noncomputable def c14_5 : AC := .cond (.tmp 10) c14_6 c14_9
theorem r14_5 : RCnd c14_5 10 c14_6 c14_9 := rCnd
noncomputable def c14_3 : AC := .seq c14_4 c14_5
theorem r14_3 : RSeq c14_3 c14_4 c14_5 := rSeq
noncomputable def c14_12 : AC := .reg [⟨none, .p1 (notNil) (.tmp 0)⟩, ⟨none, .p1 (fieldAddr1 P 87 1) (.loc 0)⟩, ⟨none, .ld1 (.loc 0)⟩, ⟨none, .cl (.cst (AV.func (Fn.func 53) [] [])) [.loc 0, .tmp 1]⟩, ⟨none, .pn (l1 (len1 P 43)) [.loc 0]⟩] [(18, .cst (AV.int .i64 0)), (17, .loc 0), (16, .loc 1)]
theorem r14_12 : RReg c14_12 fun call tm h => match ((match (match tm.gt 0 with | none => none | some a => match notNil a with | none => none | some y => some (y, h)) with | none => none | some r0 => match (match fieldAddr1 P 87 1 r0.1 with | none => none | some y => some (y, r0.2)) with | none => none | some r1 => match (match load1 r1.2 r1.1 with | none => none | some y => some (y, r1.2)) with | none => none | some r2 => match (match (match (match tm.gt 1 with | none => none | some a0 => match (some ([] : List AV)) with | none => none | some u0 => some (a0 :: u0)) with | none => none | some u0 => some (r2.1 :: u0)) with | none => none | some us => call (.fn 53) (app' [] (app' us [])) r2.2) with | none => none | some r3 => match (match l1 (len1 P 43) [r3.1] with | none => none | some y => some (y, r3.2)) with | none => none | some r4 => some ([r4.1, r3.1, r2.1, r1.1, r0.1], r4.2)) : Option (List AV × Heap)) with | none => none | some (loc, h') => match ((match Opd.get (.cst (AV.int .i64 0)) loc .leaf tm with | none => none | some o0 => match Opd.get (.loc 0) loc .leaf tm with | none => none | some o1 => match Opd.get (.loc 1) loc .leaf tm with | none => none | some o2 => some (((tm.up (some o0) 18).up (some o1) 17).up (some o2) 16)) : Option (Tr AV)) with | none => none | some tm' => some (tm', h') := rReg (by kernel_rfl)
noncomputable def c14_16 : AC := .reg [⟨none, .p2 (bin2 P .lss 3) (.tmp 18) (.tmp 17)⟩] [(19, .loc 0)]
theorem r14_16 : RReg c14_16 fun call tm h => match ((match (match tm.gt 18 with | none => none | some a => match tm.gt 17 with | none => none | some b => match bin2 P .lss 3 a b with | none => none | some y => some (y, h)) with | none => none | some r0 => some ([r0.1], r0.2)) : Option (List AV × Heap)) with | none => none | some (loc, h') => match ((match Opd.get (.loc 0) loc .leaf tm with | none => none | some o0 => some (tm.up (some o0) 19)) : Option (Tr AV)) with | none => none | some tm' => some (tm', h') := rReg (by kernel_rfl)
noncomputable def c14_19 : AC := .skip
theorem r14_19 : RRet c14_19 .normal := rSkip
noncomputable def c14_20 : AC := .exit 0
theorem r14_20 : RRet c14_20 (.exit 0) := rExit
noncomputable def c14_18 : AC := .cond (.tmp 19) c14_19 c14_20
theorem r14_18 : RCnd c14_18 19 c14_19 c14_20 := rCnd
noncomputable def c14_24 : AC := .reg [⟨none, .p2 (indexAddr2 P 43) (.tmp 16) (.tmp 18)⟩, ⟨none, .ld1 (.loc 0)⟩] [(7, .loc 0)]
theorem r14_24 : RReg c14_24 fun call tm h => match ((match (match tm.gt 16 with | none => none | some a => match tm.gt 18 with | none => none | some b => match indexAddr2 P 43 a b with | none => none | some y => some (y, h)) with | none => none | some r0 => match (match load1 r0.2 r0.1 with | none => none | some y => some (y, r0.2)) with | none => none | some r1 => some ([r1.1, r0.1], r1.2)) : Option (List AV × Heap)) with | none => none | some (loc, h') => match ((match Opd.get (.loc 0) loc .leaf tm with | none => none | some o0 => some (tm.up (some o0) 7)) : Option (Tr AV)) with | none => none | some tm' => some (tm', h') := rReg (by kernel_rfl)
noncomputable def c14_26 : AC := .reg [⟨none, .p1 (notNil) (.tmp 0)⟩, ⟨none, .p1 (fieldAddr1 P 87 0) (.loc 0)⟩, ⟨none, .ld1 (.loc 0)⟩, ⟨none, .rd (fun vs h => l2 (fun m k => lookup2 P 84 false m k h) vs) [.loc 0, .tmp 7]⟩, ⟨none, .p1 (field1 P 91 0) (.loc 0)⟩, ⟨none, .p2 (bin2 P .eql 9) (.loc 0) (.tmp 1)⟩] [(30, .loc 0)]
theorem r14_26 : RReg c14_26 fun call tm h => match ((match (match tm.gt 0 with | none => none | some a => match notNil a with | none => none | some y => some (y, h)) with | none => none | some r0 => match (match fieldAddr1 P 87 0 r0.1 with | none => none | some y => some (y, r0.2)) with | none => none | some r1 => match (match load1 r1.2 r1.1 with | none => none | some y => some (y, r1.2)) with | none => none | some r2 => match (match (match (match tm.gt 7 with | none => none | some a0 => match (some ([] : List AV)) with | none => none | some u0 => some (a0 :: u0)) with | none => none | some u0 => some (r2.1 :: u0)) with | none => none | some us => match (fun vs h => l2 (fun m k => lookup2 P 84 false m k h) vs) us r2.2 with | none => none | some y => some (y, r2.2)) with | none => none | some r3 => match (match field1 P 91 0 r3.1 with | none => none | some y => some (y, r3.2)) with | none => none | some r4 => match (match tm.gt 1 with | none => none | some b => match bin2 P .eql 9 r4.1 b with | none => none | some y => some (y, r4.2)) with | none => none | some r5 => some ([r5.1, r4.1, r3.1, r2.1, r1.1, r0.1], r5.2)) : Option (List AV × Heap)) with | none => none | some (loc, h') => match ((match Opd.get (.loc 0) loc .leaf tm with | none => none | some o0 => some (tm.up (some o0) 30)) : Option (Tr AV)) with | none => none | some tm' => some (tm', h') := rReg (by kernel_rfl)
noncomputable def c14_29 : AC := .reg [] [(5, .cst (AV.bool true)), (4, .tmp 7)]
theorem r14_29 : RReg c14_29 fun call tm h => match ((match tm.gt 7 with | none => none | some o1 => some ((tm.up (some (AV.bool true)) 5).up (some o1) 4)) : Option (Tr AV)) with | none => none | some tm' => some (tm', h) := rReg (by kernel_rfl)
noncomputable def c14_30 : AC := .ret
theorem r14_30 : RRet c14_30 .ret := rRet
noncomputable def c14_28 : AC := .seq c14_29 c14_30
theorem r14_28 : RSeq c14_28 c14_29 c14_30 := rSeq
noncomputable def c14_31 : AC := .skip
theorem r14_31 : RRet c14_31 .normal := rSkip
noncomputable def c14_27 : AC := .cond (.tmp 30) c14_28 c14_31
theorem r14_27 : RCnd c14_27 30 c14_28 c14_31 := rCnd
noncomputable def c14_25 : AC := .seq c14_26 c14_27
theorem r14_25 : RSeq c14_25 c14_26 c14_27 := rSeq
noncomputable def c14_23 : AC := .seq c14_24 c14_25
theorem r14_23 : RSeq c14_23 c14_24 c14_25 := rSeq
noncomputable def c14_22 : AC := .block 1 c14_23
theorem r14_22 : RBlk c14_22 1 c14_23 := rBlk
noncomputable def c14_32 : AC := .reg [⟨none, .p2 (bin2 P .add 3) (.tmp 18) (.cst (AV.int .i64 1))⟩] [(18, .loc 0)]
theorem r14_32 : RReg c14_32 fun call tm h => match ((match (match tm.gt 18 with | none => none | some a => match bin2 P .add 3 a (AV.int .i64 1) with | none => none | some y => some (y, h)) with | none => none | some r0 => some ([r0.1], r0.2)) : Option (List AV × Heap)) with | none => none | some (loc, h') => match ((match Opd.get (.loc 0) loc .leaf tm with | none => none | some o0 => some (tm.up (some o0) 18)) : Option (Tr AV)) with | none => none | some tm' => some (tm', h') := rReg (by kernel_rfl)
noncomputable def c14_21 : AC := .seq c14_22 c14_32
theorem r14_21 : RSeq c14_21 c14_22 c14_32 := rSeq
noncomputable def c14_17 : AC := .seq c14_18 c14_21
theorem r14_17 : RSeq c14_17 c14_18 c14_21 := rSeq
noncomputable def c14_15 : AC := .seq c14_16 c14_17
theorem r14_15 : RSeq c14_15 c14_16 c14_17 := rSeq
/- LOOP -/
noncomputable def c14_14 : AC := .loop c14_15
noncomputable def c14_13 : AC := .block 0 c14_14
theorem r14_13 : RBlk c14_13 0 c14_14 := rBlk
noncomputable def c14_11 : AC := .seq c14_12 c14_13
theorem r14_11 : RSeq c14_11 c14_12 c14_13 := rSeq
noncomputable def c14_34 : AC := .reg [] [(5, .cst (AV.bool false)), (4, .cst (AV.int .u32 0))]
theorem r14_34 : RReg c14_34 fun call tm h => some (((tm.up (some (AV.bool false)) 5).up (some (AV.int .u32 0)) 4), h) := rReg (by kernel_rfl)
noncomputable def c14_35 : AC := .ret
theorem r14_35 : RRet c14_35 .ret := rRet
noncomputable def c14_33 : AC := .seq c14_34 c14_35
theorem r14_33 : RSeq c14_33 c14_34 c14_35 := rSeq
noncomputable def c14_10 : AC := .seq c14_11 c14_33
theorem r14_10 : RSeq c14_10 c14_11 c14_33 := rSeq
noncomputable def c14_2 : AC := .seq c14_3 c14_10
theorem r14_2 : RSeq c14_2 c14_3 c14_10 := rSeq
noncomputable def c14_0 : AC := .seq c14_1 c14_2
theorem r14_0 : RSeq c14_0 c14_1 c14_2 := rSeq
noncomputable def fn14 : FnA := ⟨c14_0, [.tmp 4, .tmp 5], 33, true⟩
theorem f14A : fnA P (keepF P) 14 = some fn14 := by kernel_rfl

/-! (*revert/dedup.Table).Release -/
noncomputable def c15_1 : AC := .reg [] [(5, .cst (AV.int .i64 0)), (4, .cst (AV.bool false))]
theorem r15_1 : RReg c15_1 fun call tm h => some (((tm.up (some (AV.int .i64 0)) 5).up (some (AV.bool false)) 4), h) := rReg (by kernel_rfl)
noncomputable def c15_3 : AC := .reg [⟨none, .cl (.cst (AV.func (Fn.func 54) [] [])) [.tmp 0, .tmp 1]⟩, ⟨none, .p1 (nthTuple 0) (.loc 0)⟩, ⟨none, .p1 (nthTuple 1) (.loc 1)⟩, ⟨none, .al (fun (_ : List AV) => allocN P 91) []⟩, ⟨none, .ef (fun vs _ h => l2 (storeN 3 h) vs) [.loc 0, .loc 2]⟩] [(5, .loc 2), (6, .loc 1)]
theorem r15_3 : RReg c15_3 fun call tm h => match ((match (match (match tm.gt 0 with | none => none | some a0 => match (match tm.gt 1 with | none => none | some a1 => match (some ([] : List AV)) with | none => none | some u1 => some (a1 :: u1)) with | none => none | some u0 => some (a0 :: u0)) with | none => none | some us => call (.fn 54) (app' [] (app' us [])) h) with | none => none | some r0 => match (match nthTuple 0 r0.1 with | none => none | some y => some (y, r0.2)) with | none => none | some r1 => match (match nthTuple 1 r0.1 with | none => none | some y => some (y, r1.2)) with | none => none | some r2 => match (match (fun (_ : List AV) => allocN P 91) [] with | none => none | some y => some (y.2 r2.2.next, r2.2.new r2.2.next y.1)) with | none => none | some r3 => match ((fun vs _ h => l2 (storeN 3 h) vs) [r3.1, r1.1] r3.2.next r3.2) with | none => none | some r4 => some ([r4.1, r3.1, r2.1, r1.1, r0.1], r4.2)) : Option (List AV × Heap)) with | none => none | some (loc, h') => match ((match Opd.get (.loc 2) loc .leaf tm with | none => none | some o0 => match Opd.get (.loc 1) loc .leaf tm with | none => none | some o1 => some ((tm.up (some o0) 5).up (some o1) 6)) : Option (Tr AV)) with | none => none | some tm' => some (tm', h') := rReg (by kernel_rfl)
noncomputable def c15_6 : AC := .reg [⟨none, .p2 (bin2 P .neq 33) (.tmp 5) (.cst (AV.int .i64 0))⟩] [(14, .loc 0)]
theorem r15_6 : RReg c15_6 fun call tm h => match ((match (match tm.gt 5 with | none => none | some a => match bin2 P .neq 33 a (AV.int .i64 0) with | none => none | some y => some (y, h)) with | none => none | some r0 => some ([r0.1], r0.2)) : Option (List AV × Heap)) with | none => none | some (loc, h') => match ((match Opd.get (.loc 0) loc .leaf tm with | none => none | some o0 => some (tm.up (some o0) 14)) : Option (Tr AV)) with | none => none | some tm' => some (tm', h') := rReg (by kernel_rfl)
noncomputable def c15_9 : AC := .reg [] [(5, .tmp 5), (4, .cst (AV.bool false))]
theorem r15_9 : RReg c15_9 fun call tm h => match ((match tm.gt 5 with | none => none | some o0 => some ((tm.up (some o0) 5).up (some (AV.bool false)) 4)) : Option (Tr AV)) with | none => none | some tm' => some (tm', h) := rReg (by kernel_rfl)
noncomputable def c15_10 : AC := .ret
theorem r15_10 : RRet c15_10 .ret := rRet
noncomputable def c15_8 : AC := .seq c15_9 c15_10
theorem r15_8 : RSeq c15_8 c15_9 c15_10 := rSeq
noncomputable def c15_11 : AC := .skip
theorem r15_11 : RRet c15_11 .normal := rSkip
noncomputable def c15_7 : AC := .cond (.tmp 14) c15_8 c15_11
theorem r15_7 : RCnd c15_7 14 c15_8 c15_11 := rCnd
noncomputable def c15_5 : AC := .seq c15_6 c15_7
theorem r15_5 : RSeq c15_5 c15_6 c15_7 := rSeq
noncomputable def c15_14 : AC := .reg [⟨none, .p1 (fieldAddr1 P 91 2) (.tmp 6)⟩, ⟨none, .ld1 (.loc 0)⟩, ⟨none, .p2 (bin2 P .sub 3) (.loc 0) (.cst (AV.int .i64 1))⟩, ⟨none, .p1 (fieldAddr1 P 91 2) (.tmp 6)⟩, ⟨none, .st1 (.loc 0) (.loc 1)⟩] []
theorem r15_14 : RReg c15_14 fun call tm h => match ((match (match tm.gt 6 with | none => none | some a => match fieldAddr1 P 91 2 a with | none => none | some y => some (y, h)) with | none => none | some r0 => match (match load1 r0.2 r0.1 with | none => none | some y => some (y, r0.2)) with | none => none | some r1 => match (match bin2 P .sub 3 r1.1 (AV.int .i64 1) with | none => none | some y => some (y, r1.2)) with | none => none | some r2 => match (match tm.gt 6 with | none => none | some a => match fieldAddr1 P 91 2 a with | none => none | some y => some (y, r2.2)) with | none => none | some r3 => match (store1 r3.2 r3.1 r2.1) with | none => none | some r4 => some ([r4.1, r3.1, r2.1, r1.1, r0.1], r4.2)) : Option (List AV × Heap)) with | none => none | some (_, h') => some (tm, h') := rReg (by kernel_rfl)
noncomputable def c15_16 : AC := .reg [⟨none, .p1 (fieldAddr1 P 91 2) (.tmp 6)⟩, ⟨none, .ld1 (.loc 0)⟩, ⟨none, .p2 (bin2 P .gtr 3) (.loc 0) (.cst (AV.int .i64 0))⟩] [(22, .loc 0)]
theorem r15_16 : RReg c15_16 fun call tm h => match ((match (match tm.gt 6 with | none => none | some a => match fieldAddr1 P 91 2 a with | none => none | some y => some (y, h)) with | none => none | some r0 => match (match load1 r0.2 r0.1 with | none => none | some y => some (y, r0.2)) with | none => none | some r1 => match (match bin2 P .gtr 3 r1.1 (AV.int .i64 0) with | none => none | some y => some (y, r1.2)) with | none => none | some r2 => some ([r2.1, r1.1, r0.1], r2.2)) : Option (List AV × Heap)) with | none => none | some (loc, h') => match ((match Opd.get (.loc 0) loc .leaf tm with | none => none | some o0 => some (tm.up (some o0) 22)) : Option (Tr AV)) with | none => none | some tm' => some (tm', h') := rReg (by kernel_rfl)
noncomputable def c15_19g : List (Nat × GIns) := [(0, ⟨none, .mv (.tmp 0)⟩), (1, ⟨none, .p1 (notNil) (.opi 0)⟩), (2, ⟨none, .p1 (fieldAddr1 P 87 0) (.opi 1)⟩), (3, ⟨none, .ld1 (.opi 2)⟩), (4, ⟨none, .mv (.tmp 1)⟩), (5, ⟨none, .ldn 3 (.tmp 6)⟩), (6, ⟨none, .ef (fun vs _ h => l3 (fun m k v => mapUpd P 84 m k v h) vs) [.opi 3, .opi 4, .opi 5]⟩)]
noncomputable def c15_19 : AC := .draw 7 (stagesOf #[0, 1, 3, 7, 0, 0, 63] c15_19g [6] 0 (c15_19g.filter fun x => x.2.i.eff)) []
theorem r15_19 : RReg c15_19 fun call tm h => match (let base := h.next; let vs : Tr AV := .leaf; let h := Heap.mk h.bs (h.next + 7); ((match ((match (match (match tm.gt 0 with | none => none | some a => some (a, h)) with | none => none | some y => some y.1) with | none => none | some v => let vs := vs.up (some v) 0; match (match (match vs.gt 0 with | none => none | some a => match notNil a with | none => none | some y => some (y, h)) with | none => none | some y => some y.1) with | none => none | some v => let vs := vs.up (some v) 1; match (match (match vs.gt 1 with | none => none | some a => match fieldAddr1 P 87 0 a with | none => none | some y => some (y, h)) with | none => none | some y => some y.1) with | none => none | some v => let vs := vs.up (some v) 2; match (match (match vs.gt 2 with | none => none | some a => match load1 h a with | none => none | some y => some (y, h)) with | none => none | some y => some y.1) with | none => none | some v => let vs := vs.up (some v) 3; match (match (match tm.gt 1 with | none => none | some a => some (a, h)) with | none => none | some y => some y.1) with | none => none | some v => let vs := vs.up (some v) 4; match (match (match tm.gt 6 with | none => none | some a => match loadN 3 h a with | none => none | some y => some (y, h)) with | none => none | some y => some y.1) with | none => none | some v => let vs := vs.up (some v) 5; some vs) : Option (Tr AV)) with | none => none | some vs => match (match (match vs.gt 3 with | none => none | some a0 => match (match vs.gt 4 with | none => none | some a1 => match (match vs.gt 5 with | none => none | some a2 => match (some ([] : List AV)) with | none => none | some u2 => some (a2 :: u2)) with | none => none | some u1 => some (a1 :: u1)) with | none => none | some u0 => some (a0 :: u0)) with | none => none | some us => (fun vs _ h => l3 (fun m k v => mapUpd P 84 m k v h) vs) us h.next h) with | none => none | some r => let vs := vs.up (some r.1) 6; let h := r.2; some (vs, h)) : Option (Tr AV × Heap))) with | none => none | some (vs, h') => some (tm, h') := rDrw (by kernel_rfl)
noncomputable def c15_21 : AC := .reg [] [(5, .cst (AV.int .i64 0)), (4, .cst (AV.bool false))]
theorem r15_21 : RReg c15_21 fun call tm h => some (((tm.up (some (AV.int .i64 0)) 5).up (some (AV.bool false)) 4), h) := rReg (by kernel_rfl)
noncomputable def c15_22 : AC := .ret
theorem r15_22 : RRet c15_22 .ret := rRet
noncomputable def c15_20 : AC := .seq c15_21 c15_22
theorem r15_20 : RSeq c15_20 c15_21 c15_22 := rSeq
noncomputable def c15_18 : AC := .seq c15_19 c15_20
theorem r15_18 : RSeq c15_18 c15_19 c15_20 := rSeq
noncomputable def c15_23 : AC := .skip
theorem r15_23 : RRet c15_23 .normal := rSkip
noncomputable def c15_17 : AC := .cond (.tmp 22) c15_18 c15_23
theorem r15_17 : RCnd c15_17 22 c15_18 c15_23 := rCnd
noncomputable def c15_15 : AC := .seq c15_16 c15_17
theorem r15_15 : RSeq c15_15 c15_16 c15_17 := rSeq
noncomputable def c15_13 : AC := .seq c15_14 c15_15
theorem r15_13 : RSeq c15_13 c15_14 c15_15 := rSeq
noncomputable def c15_25 : AC := .reg [⟨none, .p1 (notNil) (.tmp 0)⟩, ⟨none, .p1 (fieldAddr1 P 87 0) (.loc 0)⟩, ⟨none, .ld1 (.loc 0)⟩, ⟨none, .ef (fun vs _ h => l2 (fun m k => mapDel P 84 m k h) vs) [.loc 0, .tmp 1]⟩] []
theorem r15_25 : RReg c15_25 fun call tm h => match ((match (match tm.gt 0 with | none => none | some a => match notNil a with | none => none | some y => some (y, h)) with | none => none | some r0 => match (match fieldAddr1 P 87 0 r0.1 with | none => none | some y => some (y, r0.2)) with | none => none | some r1 => match (match load1 r1.2 r1.1 with | none => none | some y => some (y, r1.2)) with | none => none | some r2 => match (match (match (match tm.gt 1 with | none => none | some a0 => match (some ([] : List AV)) with | none => none | some u0 => some (a0 :: u0)) with | none => none | some u0 => some (r2.1 :: u0)) with | none => none | some us => (fun vs _ h => l2 (fun m k => mapDel P 84 m k h) vs) us r2.2.next r2.2) with | none => none | some r3 => some ([r3.1, r2.1, r1.1, r0.1], r3.2)) : Option (List AV × Heap)) with | none => none | some (_, h') => some (tm, h') := rReg (by kernel_rfl)
noncomputable def c15_27g : List (Nat × GIns) := [(0, ⟨none, .mv (.tmp 0)⟩), (1, ⟨none, .p1 (notNil) (.opi 0)⟩), (2, ⟨none, .p1 (fieldAddr1 P 87 1) (.opi 1)⟩), (3, ⟨none, .ld1 (.opi 2)⟩), (4, ⟨none, .p1 (fieldAddr1 P 91 0) (.tmp 6)⟩), (5, ⟨none, .ld1 (.opi 4)⟩), (6, ⟨none, .mv (.tmp 1)⟩), (7, ⟨none, .cl (.cst (AV.func (Fn.func 55) [] [])) [.opi 3, .opi 5, .opi 6]⟩)]
noncomputable def c15_27 : AC := .draw 8 (stagesOf #[0, 1, 3, 7, 0, 16, 0, 127] c15_27g [7] 0 (c15_27g.filter fun x => x.2.i.eff)) []
theorem r15_27 : RReg c15_27 fun call tm h => match (let base := h.next; let vs : Tr AV := .leaf; let h := Heap.mk h.bs (h.next + 8); ((match ((match (match (match tm.gt 0 with | none => none | some a => some (a, h)) with | none => none | some y => some y.1) with | none => none | some v => let vs := vs.up (some v) 0; match (match (match vs.gt 0 with | none => none | some a => match notNil a with | none => none | some y => some (y, h)) with | none => none | some y => some y.1) with | none => none | some v => let vs := vs.up (some v) 1; match (match (match vs.gt 1 with | none => none | some a => match fieldAddr1 P 87 1 a with | none => none | some y => some (y, h)) with | none => none | some y => some y.1) with | none => none | some v => let vs := vs.up (some v) 2; match (match (match vs.gt 2 with | none => none | some a => match load1 h a with | none => none | some y => some (y, h)) with | none => none | some y => some y.1) with | none => none | some v => let vs := vs.up (some v) 3; match (match (match tm.gt 6 with | none => none | some a => match fieldAddr1 P 91 0 a with | none => none | some y => some (y, h)) with | none => none | some y => some y.1) with | none => none | some v => let vs := vs.up (some v) 4; match (match (match vs.gt 4 with | none => none | some a => match load1 h a with | none => none | some y => some (y, h)) with | none => none | some y => some y.1) with | none => none | some v => let vs := vs.up (some v) 5; match (match (match tm.gt 1 with | none => none | some a => some (a, h)) with | none => none | some y => some y.1) with | none => none | some v => let vs := vs.up (some v) 6; some vs) : Option (Tr AV)) with | none => none | some vs => match (match (match vs.gt 3 with | none => none | some a0 => match (match vs.gt 5 with | none => none | some a1 => match (match vs.gt 6 with | none => none | some a2 => match (some ([] : List AV)) with | none => none | some u2 => some (a2 :: u2)) with | none => none | some u1 => some (a1 :: u1)) with | none => none | some u0 => some (a0 :: u0)) with | none => none | some us => call (.fn 55) (app' [] (app' us [])) h) with | none => none | some r => let vs := vs.up (some r.1) 7; let h := r.2; some (vs, h)) : Option (Tr AV × Heap))) with | none => none | some (vs, h') => some (tm, h') := rDrw (by kernel_rfl)
noncomputable def c15_29 : AC := .reg [] [(5, .cst (AV.int .i64 0)), (4, .cst (AV.bool true))]
theorem r15_29 : RReg c15_29 fun call tm h => some (((tm.up (some (AV.int .i64 0)) 5).up (some (AV.bool true)) 4), h) := rReg (by kernel_rfl)
noncomputable def c15_30 : AC := .ret
theorem r15_30 : RRet c15_30 .ret := rRet
noncomputable def c15_28 : AC := .seq c15_29 c15_30
theorem r15_28 : RSeq c15_28 c15_29 c15_30 := rSeq
noncomputable def c15_26 : AC := .seq c15_27 c15_28
theorem r15_26 : RSeq c15_26 c15_27 c15_28 := rSeq
noncomputable def c15_24 : AC := .seq c15_25 c15_26
theorem r15_24 : RSeq c15_24 c15_25 c15_26 := rSeq
noncomputable def c15_12 : AC := .seq c15_13 c15_24
theorem r15_12 : RSeq c15_12 c15_13 c15_24 := rSeq
noncomputable def c15_4 : AC := .seq c15_5 c15_12
theorem r15_4 : RSeq c15_4 c15_5 c15_12 := rSeq
noncomputable def c15_2 : AC := .seq c15_3 c15_4
theorem r15_2 : RSeq c15_2 c15_3 c15_4 := rSeq
noncomputable def c15_0 : AC := .seq c15_1 c15_2
theorem r15_0 : RSeq c15_0 c15_1 c15_2 := rSeq
noncomputable def fn15 : FnA := ⟨c15_0, [.tmp 4, .tmp 5], 42, true⟩
theorem f15A : fnA P (keepF P) 15 = some fn15 := by kernel_rfl

/-! (*revert/dedup.Table).Hold -/
noncomputable def c16_1 : AC := .reg [] [(4, .cst (AV.int .i64 0))]
theorem r16_1 : RReg c16_1 fun call tm h => some ((tm.up (some (AV.int .i64 0)) 4), h) := rReg (by kernel_rfl)
noncomputable def c16_3 : AC := .reg [⟨none, .cl (.cst (AV.func (Fn.func 54) [] [])) [.tmp 0, .tmp 1]⟩, ⟨none, .p1 (nthTuple 0) (.loc 0)⟩, ⟨none, .p1 (nthTuple 1) (.loc 1)⟩, ⟨none, .al (fun (_ : List AV) => allocN P 91) []⟩, ⟨none, .ef (fun vs _ h => l2 (storeN 3 h) vs) [.loc 0, .loc 2]⟩] [(6, .loc 2), (5, .loc 1)]
theorem r16_3 : RReg c16_3 fun call tm h => match ((match (match (match tm.gt 0 with | none => none | some a0 => match (match tm.gt 1 with | none => none | some a1 => match (some ([] : List AV)) with | none => none | some u1 => some (a1 :: u1)) with | none => none | some u0 => some (a0 :: u0)) with | none => none | some us => call (.fn 54) (app' [] (app' us [])) h) with | none => none | some r0 => match (match nthTuple 0 r0.1 with | none => none | some y => some (y, r0.2)) with | none => none | some r1 => match (match nthTuple 1 r0.1 with | none => none | some y => some (y, r1.2)) with | none => none | some r2 => match (match (fun (_ : List AV) => allocN P 91) [] with | none => none | some y => some (y.2 r2.2.next, r2.2.new r2.2.next y.1)) with | none => none | some r3 => match ((fun vs _ h => l2 (storeN 3 h) vs) [r3.1, r1.1] r3.2.next r3.2) with | none => none | some r4 => some ([r4.1, r3.1, r2.1, r1.1, r0.1], r4.2)) : Option (List AV × Heap)) with | none => none | some (loc, h') => match ((match Opd.get (.loc 2) loc .leaf tm with | none => none | some o0 => match Opd.get (.loc 1) loc .leaf tm with | none => none | some o1 => some ((tm.up (some o0) 6).up (some o1) 5)) : Option (Tr AV)) with | none => none | some tm' => some (tm', h') := rReg (by kernel_rfl)
noncomputable def c16_7 : AC := .reg [⟨none, .p2 (bin2 P .neq 33) (.tmp 6) (.cst (AV.int .i64 0))⟩] [(13, .loc 0)]
theorem r16_7 : RReg c16_7 fun call tm h => match ((match (match tm.gt 6 with | none => none | some a => match bin2 P .neq 33 a (AV.int .i64 0) with | none => none | some y => some (y, h)) with | none => none | some r0 => some ([r0.1], r0.2)) : Option (List AV × Heap)) with | none => none | some (loc, h') => match ((match Opd.get (.loc 0) loc .leaf tm with | none => none | some o0 => some (tm.up (some o0) 13)) : Option (Tr AV)) with | none => none | some tm' => some (tm', h') := rReg (by kernel_rfl)
noncomputable def c16_10 : AC := .reg [] [(4, .tmp 6)]
theorem r16_10 : RReg c16_10 fun call tm h => match ((match tm.gt 6 with | none => none | some o0 => some (tm.up (some o0) 4)) : Option (Tr AV)) with | none => none | some tm' => some (tm', h) := rReg (by kernel_rfl)
noncomputable def c16_11 : AC := .ret
theorem r16_11 : RRet c16_11 .ret := rRet
noncomputable def c16_9 : AC := .seq c16_10 c16_11
theorem r16_9 : RSeq c16_9 c16_10 c16_11 := rSeq
noncomputable def c16_13 : AC := .reg [⟨none, .p1 (fieldAddr1 P 91 2) (.tmp 5)⟩, ⟨none, .ld1 (.loc 0)⟩, ⟨none, .p2 (bin2 P .eql 3) (.loc 0) (.cst (AV.int .i64 65535))⟩] [(17, .loc 0)]
theorem r16_13 : RReg c16_13 fun call tm h => match ((match (match tm.gt 5 with | none => none | some a => match fieldAddr1 P 91 2 a with | none => none | some y => some (y, h)) with | none => none | some r0 => match (match load1 r0.2 r0.1 with | none => none | some y => some (y, r0.2)) with | none => none | some r1 => match (match bin2 P .eql 3 r1.1 (AV.int .i64 65535) with | none => none | some y => some (y, r1.2)) with | none => none | some r2 => some ([r2.1, r1.1, r0.1], r2.2)) : Option (List AV × Heap)) with | none => none | some (loc, h') => match ((match Opd.get (.loc 0) loc .leaf tm with | none => none | some o0 => some (tm.up (some o0) 17)) : Option (Tr AV)) with | none => none | some tm' => some (tm', h') := rReg (by kernel_rfl)
noncomputable def c16_16 : AC := .reg [] [(4, .cst (AV.int .i64 12))]
theorem r16_16 : RReg c16_16 fun call tm h => some ((tm.up (some (AV.int .i64 12)) 4), h) := rReg (by kernel_rfl)
noncomputable def c16_17 : AC := .ret
theorem r16_17 : RRet c16_17 .ret := rRet
noncomputable def c16_15 : AC := .seq c16_16 c16_17
theorem r16_15 : RSeq c16_15 c16_16 c16_17 := rSeq
noncomputable def c16_18 : AC := .skip
theorem r16_18 : RRet c16_18 .normal := rSkip
noncomputable def c16_14 : AC := .cond (.tmp 17) c16_15 c16_18
theorem r16_14 : RCnd c16_14 17 c16_15 c16_18 := rCnd
noncomputable def c16_12 : AC := .seq c16_13 c16_14
theorem r16_12 : RSeq c16_12 c16_13 c16_14 := rSeq
noncomputable def c16_8 : AC := .cond (.tmp 13) c16_9 c16_12
theorem r16_8 : RCnd c16_8 13 c16_9 c16_12 := rCnd
noncomputable def c16_6 : AC := .seq c16_7 c16_8
theorem r16_6 : RSeq c16_6 c16_7 c16_8 := rSeq
noncomputable def c16_5 : AC := .block 0 c16_6
theorem r16_5 : RBlk c16_5 0 c16_6 := rBlk
noncomputable def c16_20 : AC := .reg [⟨none, .p1 (fieldAddr1 P 91 2) (.tmp 5)⟩, ⟨none, .ld1 (.loc 0)⟩, ⟨none, .p2 (bin2 P .add 3) (.loc 0) (.cst (AV.int .i64 1))⟩, ⟨none, .p1 (fieldAddr1 P 91 2) (.tmp 5)⟩, ⟨none, .st1 (.loc 0) (.loc 1)⟩] []
theorem r16_20 : RReg c16_20 fun call tm h => match ((match (match tm.gt 5 with | none => none | some a => match fieldAddr1 P 91 2 a with | none => none | some y => some (y, h)) with | none => none | some r0 => match (match load1 r0.2 r0.1 with | none => none | some y => some (y, r0.2)) with | none => none | some r1 => match (match bin2 P .add 3 r1.1 (AV.int .i64 1) with | none => none | some y => some (y, r1.2)) with | none => none | some r2 => match (match tm.gt 5 with | none => none | some a => match fieldAddr1 P 91 2 a with | none => none | some y => some (y, r2.2)) with | none => none | some r3 => match (store1 r3.2 r3.1 r2.1) with | none => none | some r4 => some ([r4.1, r3.1, r2.1, r1.1, r0.1], r4.2)) : Option (List AV × Heap)) with | none => none | some (_, h') => some (tm, h') := rReg (by kernel_rfl)
noncomputable def c16_22g : List (Nat × GIns) := [(0, ⟨none, .mv (.tmp 0)⟩), (1, ⟨none, .p1 (notNil) (.opi 0)⟩), (2, ⟨none, .p1 (fieldAddr1 P 87 0) (.opi 1)⟩), (3, ⟨none, .ld1 (.opi 2)⟩), (4, ⟨none, .mv (.tmp 1)⟩), (5, ⟨none, .ldn 3 (.tmp 5)⟩), (6, ⟨none, .ef (fun vs _ h => l3 (fun m k v => mapUpd P 84 m k v h) vs) [.opi 3, .opi 4, .opi 5]⟩)]
noncomputable def c16_22 : AC := .draw 7 (stagesOf #[0, 1, 3, 7, 0, 0, 63] c16_22g [6] 0 (c16_22g.filter fun x => x.2.i.eff)) []
theorem r16_22 : RReg c16_22 fun call tm h => match (let base := h.next; let vs : Tr AV := .leaf; let h := Heap.mk h.bs (h.next + 7); ((match ((match (match (match tm.gt 0 with | none => none | some a => some (a, h)) with | none => none | some y => some y.1) with | none => none | some v => let vs := vs.up (some v) 0; match (match (match vs.gt 0 with | none => none | some a => match notNil a with | none => none | some y => some (y, h)) with | none => none | some y => some y.1) with | none => none | some v => let vs := vs.up (some v) 1; match (match (match vs.gt 1 with | none => none | some a => match fieldAddr1 P 87 0 a with | none => none | some y => some (y, h)) with | none => none | some y => some y.1) with | none => none | some v => let vs := vs.up (some v) 2; match (match (match vs.gt 2 with | none => none | some a => match load1 h a with | none => none | some y => some (y, h)) with | none => none | some y => some y.1) with | none => none | some v => let vs := vs.up (some v) 3; match (match (match tm.gt 1 with | none => none | some a => some (a, h)) with | none => none | some y => some y.1) with | none => none | some v => let vs := vs.up (some v) 4; match (match (match tm.gt 5 with | none => none | some a => match loadN 3 h a with | none => none | some y => some (y, h)) with | none => none | some y => some y.1) with | none => none | some v => let vs := vs.up (some v) 5; some vs) : Option (Tr AV)) with | none => none | some vs => match (match (match vs.gt 3 with | none => none | some a0 => match (match vs.gt 4 with | none => none | some a1 => match (match vs.gt 5 with | none => none | some a2 => match (some ([] : List AV)) with | none => none | some u2 => some (a2 :: u2)) with | none => none | some u1 => some (a1 :: u1)) with | none => none | some u0 => some (a0 :: u0)) with | none => none | some us => (fun vs _ h => l3 (fun m k v => mapUpd P 84 m k v h) vs) us h.next h) with | none => none | some r => let vs := vs.up (some r.1) 6; let h := r.2; some (vs, h)) : Option (Tr AV × Heap))) with | none => none | some (vs, h') => some (tm, h') := rDrw (by kernel_rfl)
noncomputable def c16_24 : AC := .reg [] [(4, .cst (AV.int .i64 0))]
theorem r16_24 : RReg c16_24 fun call tm h => some ((tm.up (some (AV.int .i64 0)) 4), h) := rReg (by kernel_rfl)
noncomputable def c16_25 : AC := .ret
theorem r16_25 : RRet c16_25 .ret := rRet
noncomputable def c16_23 : AC := .seq c16_24 c16_25
theorem r16_23 : RSeq c16_23 c16_24 c16_25 := rSeq
noncomputable def c16_21 : AC := .seq c16_22 c16_23
theorem r16_21 : RSeq c16_21 c16_22 c16_23 := rSeq
noncomputable def c16_19 : AC := .seq c16_20 c16_21
theorem r16_19 : RSeq c16_19 c16_20 c16_21 := rSeq
noncomputable def c16_4 : AC := .seq c16_5 c16_19
theorem r16_4 : RSeq c16_4 c16_5 c16_19 := rSeq
noncomputable def c16_2 : AC := .seq c16_3 c16_4
theorem r16_2 : RSeq c16_2 c16_3 c16_4 := rSeq
noncomputable def c16_0 : AC := .seq c16_1 c16_2
theorem r16_0 : RSeq c16_0 c16_1 c16_2 := rSeq
noncomputable def fn16 : FnA := ⟨c16_0, [.tmp 4], 31, true⟩
theorem f16A : fnA P (keepF P) 16 = some fn16 := by kernel_rfl

/-! (*revert/dedup.Table).Add -/
noncomputable def c17_1 : AC := .reg [] [(7, .cst (AV.int .i64 0)), (6, .cst (AV.int .u32 0))]
theorem r17_1 : RReg c17_1 fun call tm h => some (((tm.up (some (AV.int .i64 0)) 7).up (some (AV.int .u32 0)) 6), h) := rReg (by kernel_rfl)
noncomputable def c17_4 : AC := .reg [⟨none, .cl (.cst (AV.func (Fn.func 52) [] [])) [.tmp 0]⟩, ⟨none, .p1 (un1 .not) (.loc 0)⟩] [(12, .loc 0)]
theorem r17_4 : RReg c17_4 fun call tm h => match ((match (match (match tm.gt 0 with | none => none | some a0 => match (some ([] : List AV)) with | none => none | some u0 => some (a0 :: u0)) with | none => none | some us => call (.fn 52) (app' [] (app' us [])) h) with | none => none | some r0 => match (match un1 .not r0.1 with | none => none | some y => some (y, r0.2)) with | none => none | some r1 => some ([r1.1, r0.1], r1.2)) : Option (List AV × Heap)) with | none => none | some (loc, h') => match ((match Opd.get (.loc 0) loc .leaf tm with | none => none | some o0 => some (tm.up (some o0) 12)) : Option (Tr AV)) with | none => none | some tm' => some (tm', h') := rReg (by kernel_rfl)
noncomputable def c17_7 : AC := .reg [] [(7, .cst (AV.int .i64 1)), (6, .cst (AV.int .u32 0))]
theorem r17_7 : RReg c17_7 fun call tm h => some (((tm.up (some (AV.int .i64 1)) 7).up (some (AV.int .u32 0)) 6), h) := rReg (by kernel_rfl)
noncomputable def c17_8 : AC := .ret
theorem r17_8 : RRet c17_8 .ret := rRet
noncomputable def c17_6 : AC := .seq c17_7 c17_8
theorem r17_6 : RSeq c17_6 c17_7 c17_8 := rSeq
noncomputable def c17_9 : AC := .skip
theorem r17_9 : RRet c17_9 .normal := rSkip
noncomputable def c17_5 : AC := .cond (.tmp 12) c17_6 c17_9
theorem r17_5 : RCnd c17_5 12 c17_6 c17_9 := rCnd
noncomputable def c17_3 : AC := .seq c17_4 c17_5
theorem r17_3 : RSeq c17_3 c17_4 c17_5 := rSeq
noncomputable def c17_12 : AC := .reg [⟨none, .cl (.cst (AV.func (Fn.func 56) [] [])) [.tmp 0, .tmp 1]⟩] [(8, .loc 0)]
theorem r17_12 : RReg c17_12 fun call tm h => match ((match (match (match tm.gt 0 with | none => none | some a0 => match (match tm.gt 1 with | none => none | some a1 => match (some ([] : List AV)) with | none => none | some u1 => some (a1 :: u1)) with | none => none | some u0 => some (a0 :: u0)) with | none => none | some us => call (.fn 56) (app' [] (app' us [])) h) with | none => none | some r0 => some ([r0.1], r0.2)) : Option (List AV × Heap)) with | none => none | some (loc, h') => match ((match Opd.get (.loc 0) loc .leaf tm with | none => none | some o0 => some (tm.up (some o0) 8)) : Option (Tr AV)) with | none => none | some tm' => some (tm', h') := rReg (by kernel_rfl)
noncomputable def c17_15 : AC := .reg [⟨none, .p2 (bin2 P .neq 33) (.tmp 8) (.cst (AV.int .i64 0))⟩] [(16, .loc 0)]
theorem r17_15 : RReg c17_15 fun call tm h => match ((match (match tm.gt 8 with | none => none | some a => match bin2 P .neq 33 a (AV.int .i64 0) with | none => none | some y => some (y, h)) with | none => none | some r0 => some ([r0.1], r0.2)) : Option (List AV × Heap)) with | none => none | some (loc, h') => match ((match Opd.get (.loc 0) loc .leaf tm with | none => none | some o0 => some (tm.up (some o0) 16)) : Option (Tr AV)) with | none => none | some tm' => some (tm', h') := rReg (by kernel_rfl)
noncomputable def c17_18 : AC := .reg [] [(7, .tmp 8), (6, .cst (AV.int .u32 0))]
theorem r17_18 : RReg c17_18 fun call tm h => match ((match tm.gt 8 with | none => none | some o0 => some ((tm.up (some o0) 7).up (some (AV.int .u32 0)) 6)) : Option (Tr AV)) with | none => none | some tm' => some (tm', h) := rReg (by kernel_rfl)
noncomputable def c17_19 : AC := .ret
theorem r17_19 : RRet c17_19 .ret := rRet
noncomputable def c17_17 : AC := .seq c17_18 c17_19
theorem r17_17 : RSeq c17_17 c17_18 c17_19 := rSeq
noncomputable def c17_21 : AC := .reg [⟨none, .p1 (notNil) (.tmp 0)⟩, ⟨none, .p1 (fieldAddr1 P 87 2) (.loc 0)⟩, ⟨none, .ld1 (.loc 0)⟩, ⟨none, .p2 (bin2 P .eql 27) (.loc 0) (.cst (AV.int .u32 4294967295))⟩] [(20, .loc 0)]
theorem r17_21 : RReg c17_21 fun call tm h => match ((match (match tm.gt 0 with | none => none | some a => match notNil a with | none => none | some y => some (y, h)) with | none => none | some r0 => match (match fieldAddr1 P 87 2 r0.1 with | none => none | some y => some (y, r0.2)) with | none => none | some r1 => match (match load1 r1.2 r1.1 with | none => none | some y => some (y, r1.2)) with | none => none | some r2 => match (match bin2 P .eql 27 r2.1 (AV.int .u32 4294967295) with | none => none | some y => some (y, r2.2)) with | none => none | some r3 => some ([r3.1, r2.1, r1.1, r0.1], r3.2)) : Option (List AV × Heap)) with | none => none | some (loc, h') => match ((match Opd.get (.loc 0) loc .leaf tm with | none => none | some o0 => some (tm.up (some o0) 20)) : Option (Tr AV)) with | none => none | some tm' => some (tm', h') := rReg (by kernel_rfl)
noncomputable def c17_24 : AC := .reg [] [(7, .cst (AV.int .i64 12)), (6, .cst (AV.int .u32 0))]
theorem r17_24 : RReg c17_24 fun call tm h => some (((tm.up (some (AV.int .i64 12)) 7).up (some (AV.int .u32 0)) 6), h) := rReg (by kernel_rfl)
noncomputable def c17_25 : AC := .ret
theorem r17_25 : RRet c17_25 .ret := rRet
noncomputable def c17_23 : AC := .seq c17_24 c17_25
theorem r17_23 : RSeq c17_23 c17_24 c17_25 := rSeq
noncomputable def c17_26 : AC := .skip
theorem r17_26 : RRet c17_26 .normal := rSkip
noncomputable def c17_22 : AC := .cond (.tmp 20) c17_23 c17_26
theorem r17_22 : RCnd c17_22 20 c17_23 c17_26 := rCnd
noncomputable def c17_20 : AC := .seq c17_21 c17_22
theorem r17_20 : RSeq c17_20 c17_21 c17_22 := rSeq
noncomputable def c17_16 : AC := .cond (.tmp 16) c17_17 c17_20
theorem r17_16 : RCnd c17_16 16 c17_17 c17_20 := rCnd
noncomputable def c17_14 : AC := .seq c17_15 c17_16
theorem r17_14 : RSeq c17_14 c17_15 c17_16 := rSeq
noncomputable def c17_13 : AC := .block 0 c17_14
theorem r17_13 : RBlk c17_13 0 c17_14 := rBlk
noncomputable def c17_11 : AC := .seq c17_12 c17_13
theorem r17_11 : RSeq c17_11 c17_12 c17_13 := rSeq
noncomputable def c17_28 : AC := .reg [⟨none, .p1 (notNil) (.tmp 0)⟩, ⟨none, .p1 (fieldAddr1 P 87 2) (.loc 0)⟩, ⟨none, .ld1 (.loc 0)⟩] [(9, .loc 0)]
theorem r17_28 : RReg c17_28 fun call tm h => match ((match (match tm.gt 0 with | none => none | some a => match notNil a with | none => none | some y => some (y, h)) with | none => none | some r0 => match (match fieldAddr1 P 87 2 r0.1 with | none => none | some y => some (y, r0.2)) with | none => none | some r1 => match (match load1 r1.2 r1.1 with | none => none | some y => some (y, r1.2)) with | none => none | some r2 => some ([r2.1, r1.1, r0.1], r2.2)) : Option (List AV × Heap)) with | none => none | some (loc, h') => match ((match Opd.get (.loc 0) loc .leaf tm with | none => none | some o0 => some (tm.up (some o0) 9)) : Option (Tr AV)) with | none => none | some tm' => some (tm', h') := rReg (by kernel_rfl)
noncomputable def c17_30 : AC := .reg [⟨none, .pn (buildN P 91 [0, 1, 2]) [.tmp 1, .tmp 2, .cst (AV.int .i64 1)]⟩, ⟨none, .cl (.cst (AV.func (Fn.func 57) [] [])) [.tmp 0, .tmp 9, .loc 0]⟩] []
theorem r17_30 : RReg c17_30 fun call tm h => match ((match (match (match tm.gt 1 with | none => none | some a0 => match (match tm.gt 2 with | none => none | some a1 => match (some [(AV.int .i64 1)]) with | none => none | some u1 => some (a1 :: u1)) with | none => none | some u0 => some (a0 :: u0)) with | none => none | some us => match buildN P 91 [0, 1, 2] us with | none => none | some y => some (y, h)) with | none => none | some r0 => match (match (match tm.gt 0 with | none => none | some a0 => match (match tm.gt 9 with | none => none | some a1 => match (some [r0.1]) with | none => none | some u1 => some (a1 :: u1)) with | none => none | some u0 => some (a0 :: u0)) with | none => none | some us => call (.fn 57) (app' [] (app' us [])) r0.2) with | none => none | some r1 => some ([r1.1, r0.1], r1.2)) : Option (List AV × Heap)) with | none => none | some (_, h') => some (tm, h') := rReg (by kernel_rfl)
noncomputable def c17_32 : AC := .reg [] [(7, .cst (AV.int .i64 0)), (6, .tmp 9)]
theorem r17_32 : RReg c17_32 fun call tm h => match ((match tm.gt 9 with | none => none | some o1 => some ((tm.up (some (AV.int .i64 0)) 7).up (some o1) 6)) : Option (Tr AV)) with | none => none | some tm' => some (tm', h) := rReg (by kernel_rfl)
noncomputable def c17_33 : AC := .ret
theorem r17_33 : RRet c17_33 .ret := rRet
noncomputable def c17_31 : AC := .seq c17_32 c17_33
theorem r17_31 : RSeq c17_31 c17_32 c17_33 := rSeq
noncomputable def c17_29 : AC := .seq c17_30 c17_31
theorem r17_29 : RSeq c17_29 c17_30 c17_31 := rSeq
noncomputable def c17_27 : AC := .seq c17_28 c17_29
theorem r17_27 : RSeq c17_27 c17_28 c17_29 := rSeq
noncomputable def c17_10 : AC := .seq c17_11 c17_27
theorem r17_10 : RSeq c17_10 c17_11 c17_27 := rSeq
noncomputable def c17_2 : AC := .seq c17_3 c17_10
theorem r17_2 : RSeq c17_2 c17_3 c17_10 := rSeq
noncomputable def c17_0 : AC := .seq c17_1 c17_2
theorem r17_0 : RSeq c17_0 c17_1 c17_2 := rSeq
noncomputable def fn17 : FnA := ⟨c17_0, [.tmp 6, .tmp 7], 37, true⟩
theorem f17A : fnA P (keepF P) 17 = some fn17 := by kernel_rfl

/-! revert/revertlaw16.kept -/
noncomputable def c18_1 : AC := .reg [] [(4, .cst (AV.bool false))]
theorem r18_1 : RReg c18_1 fun call tm h => some ((tm.up (some (AV.bool false)) 4), h) := rReg (by kernel_rfl)
noncomputable def c18_3 : AC := .reg [] [(5, .cst (AV.int .i64 0))]
theorem r18_3 : RReg c18_3 fun call tm h => some ((tm.up (some (AV.int .i64 0)) 5), h) := rReg (by kernel_rfl)
noncomputable def c18_6 : AC := .reg [] [(6, .cst (AV.int .i64 0))]
theorem r18_6 : RReg c18_6 fun call tm h => some ((tm.up (some (AV.int .i64 0)) 6), h) := rReg (by kernel_rfl)
noncomputable def c18_11 : AC := .reg [⟨none, .pn (l1 (len1 P 26)) [.tmp 1]⟩, ⟨none, .p2 (bin2 P .lss 3) (.tmp 6) (.loc 0)⟩] [(14, .loc 0)]
theorem r18_11 : RReg c18_11 fun call tm h => match ((match (match (match tm.gt 1 with | none => none | some a0 => match (some ([] : List AV)) with | none => none | some u0 => some (a0 :: u0)) with | none => none | some us => match l1 (len1 P 26) us with | none => none | some y => some (y, h)) with | none => none | some r0 => match (match tm.gt 6 with | none => none | some a => match bin2 P .lss 3 a r0.1 with | none => none | some y => some (y, r0.2)) with | none => none | some r1 => some ([r1.1, r0.1], r1.2)) : Option (List AV × Heap)) with | none => none | some (loc, h') => match ((match Opd.get (.loc 0) loc .leaf tm with | none => none | some o0 => some (tm.up (some o0) 14)) : Option (Tr AV)) with | none => none | some tm' => some (tm', h') := rReg (by kernel_rfl)
noncomputable def c18_13 : AC := .skip
theorem r18_13 : RRet c18_13 .normal := rSkip
noncomputable def c18_14 : AC := .exit 0
theorem r18_14 : RRet c18_14 (.exit 0) := rExit
noncomputable def c18_12 : AC := .cond (.tmp 14) c18_13 c18_14
theorem r18_12 : RCnd c18_12 14 c18_13 c18_14 := rCnd
noncomputable def c18_10 : AC := .seq c18_11 c18_12
theorem r18_10 : RSeq c18_10 c18_11 c18_12 := rSeq
noncomputable def c18_18 : AC := .reg [⟨none, .p2 (indexAddr2 P 26) (.tmp 1) (.tmp 6)⟩, ⟨none, .p1 (fieldAddr1 P 32 1) (.loc 0)⟩, ⟨none, .ld1 (.loc 0)⟩, ⟨none, .cl (.cst (AV.func (Fn.func 35) [] [])) [.tmp 0, .loc 0]⟩, ⟨none, .p1 (nthTuple 0) (.loc 0)⟩, ⟨none, .p1 (nthTuple 1) (.loc 1)⟩, ⟨none, .p1 (nthTuple 2) (.loc 2)⟩, ⟨none, .p1 (nthTuple 3) (.loc 3)⟩] [(10, .loc 0), (9, .loc 1), (8, .loc 2), (7, .loc 3)]
theorem r18_18 : RReg c18_18 fun call tm h => match ((match (match tm.gt 1 with | none => none | some a => match tm.gt 6 with | none => none | some b => match indexAddr2 P 26 a b with | none => none | some y => some (y, h)) with | none => none | some r0 => match (match fieldAddr1 P 32 1 r0.1 with | none => none | some y => some (y, r0.2)) with | none => none | some r1 => match (match load1 r1.2 r1.1 with | none => none | some y => some (y, r1.2)) with | none => none | some r2 => match (match (match tm.gt 0 with | none => none | some a0 => match (some [r2.1]) with | none => none | some u0 => some (a0 :: u0)) with | none => none | some us => call (.fn 35) (app' [] (app' us [])) r2.2) with | none => none | some r3 => match (match nthTuple 0 r3.1 with | none => none | some y => some (y, r3.2)) with | none => none | some r4 => match (match nthTuple 1 r3.1 with | none => none | some y => some (y, r4.2)) with | none => none | some r5 => match (match nthTuple 2 r3.1 with | none => none | some y => some (y, r5.2)) with | none => none | some r6 => match (match nthTuple 3 r3.1 with | none => none | some y => some (y, r6.2)) with | none => none | some r7 => some ([r7.1, r6.1, r5.1, r4.1, r3.1, r2.1, r1.1, r0.1], r7.2)) : Option (List AV × Heap)) with | none => none | some (loc, h') => match ((match Opd.get (.loc 0) loc .leaf tm with | none => none | some o0 => match Opd.get (.loc 1) loc .leaf tm with | none => none | some o1 => match Opd.get (.loc 2) loc .leaf tm with | none => none | some o2 => match Opd.get (.loc 3) loc .leaf tm with | none => none | some o3 => some ((((tm.up (some o0) 10).up (some o1) 9).up (some o2) 8).up (some o3) 7)) : Option (Tr AV)) with | none => none | some tm' => some (tm', h') := rReg (by kernel_rfl)
noncomputable def c18_21 : AC := .reg [⟨none, .p2 (indexAddr2 P 26) (.tmp 1) (.tmp 6)⟩, ⟨none, .p1 (fieldAddr1 P 32 3) (.loc 0)⟩, ⟨none, .ld1 (.loc 0)⟩, ⟨none, .p2 (bin2 P .eql 3) (.loc 0) (.cst (AV.int .i64 0))⟩] [(34, .loc 0)]
theorem r18_21 : RReg c18_21 fun call tm h => match ((match (match tm.gt 1 with | none => none | some a => match tm.gt 6 with | none => none | some b => match indexAddr2 P 26 a b with | none => none | some y => some (y, h)) with | none => none | some r0 => match (match fieldAddr1 P 32 3 r0.1 with | none => none | some y => some (y, r0.2)) with | none => none | some r1 => match (match load1 r1.2 r1.1 with | none => none | some y => some (y, r1.2)) with | none => none | some r2 => match (match bin2 P .eql 3 r2.1 (AV.int .i64 0) with | none => none | some y => some (y, r2.2)) with | none => none | some r3 => some ([r3.1, r2.1, r1.1, r0.1], r3.2)) : Option (List AV × Heap)) with | none => none | some (loc, h') => match ((match Opd.get (.loc 0) loc .leaf tm with | none => none | some o0 => some (tm.up (some o0) 34)) : Option (Tr AV)) with | none => none | some tm' => some (tm', h') := rReg (by kernel_rfl)
noncomputable def c18_25 : AC := .reg [⟨none, .p2 (indexAddr2 P 26) (.tmp 1) (.tmp 6)⟩, ⟨none, .p1 (fieldAddr1 P 32 0) (.loc 0)⟩, ⟨none, .ld1 (.loc 0)⟩, ⟨none, .cl (.cst (AV.func (Fn.func 48) [] [])) [.tmp 0, .loc 0, .cst (AV.int .u32 0)]⟩, ⟨none, .p1 (un1 .not) (.loc 0)⟩, ⟨some (.loc 0, false), .mv (.tmp 10)⟩, ⟨none, .pick (.loc 1) (.cst (AV.bool true)) (.loc 0)⟩] [(45, .loc 0)]
theorem r18_25 : RReg c18_25 fun call tm h => match ((match (match tm.gt 1 with | none => none | some a => match tm.gt 6 with | none => none | some b => match indexAddr2 P 26 a b with | none => none | some y => some (y, h)) with | none => none | some r0 => match (match fieldAddr1 P 32 0 r0.1 with | none => none | some y => some (y, r0.2)) with | none => none | some r1 => match (match load1 r1.2 r1.1 with | none => none | some y => some (y, r1.2)) with | none => none | some r2 => match (match (match tm.gt 0 with | none => none | some a0 => match (some [r2.1, (AV.int .u32 0)]) with | none => none | some u0 => some (a0 :: u0)) with | none => none | some us => call (.fn 48) (app' [] (app' us [])) r2.2) with | none => none | some r3 => match (match un1 .not r3.1 with | none => none | some y => some (y, r3.2)) with | none => none | some r4 => match (match wanted false r4.1 with | true => (match tm.gt 10 with | none => none | some a => some (a, r4.2)) | false => some (undefA, r4.2)) with | none => none | some r5 => match (eBool (fun t => match (match t with | true => (some (AV.bool true)) | false => (some r5.1)) with | none => none | some y => some (y, r5.2)) r4.1) with | none => none | some r6 => some ([r6.1, r5.1, r4.1, r3.1, r2.1, r1.1, r0.1], r6.2)) : Option (List AV × Heap)) with | none => none | some (loc, h') => match ((match Opd.get (.loc 0) loc .leaf tm with | none => none | some o0 => some (tm.up (some o0) 45)) : Option (Tr AV)) with | none => none | some tm' => some (tm', h') := rReg (by kernel_rfl)
noncomputable def c18_28 : AC := .reg [] [(4, .cst (AV.bool false))]
theorem r18_28 : RReg c18_28 fun call tm h => some ((tm.up (some (AV.bool false)) 4), h) := rReg (by kernel_rfl)
noncomputable def c18_29 : AC := .ret
theorem r18_29 : RRet c18_29 .ret := rRet
noncomputable def c18_27 : AC := .seq c18_28 c18_29
theorem r18_27 : RSeq c18_27 c18_28 c18_29 := rSeq
noncomputable def c18_30 : AC := .skip
theorem r18_30 : RRet c18_30 .normal := rSkip
noncomputable def c18_26 : AC := .cond (.tmp 45) c18_27 c18_30
theorem r18_26 : RCnd c18_26 45 c18_27 c18_30 := rCnd
noncomputable def c18_24 : AC := .seq c18_25 c18_26
theorem r18_24 : RSeq c18_24 c18_25 c18_26 := rSeq
noncomputable def c18_31 : AC := .exit 1
theorem r18_31 : RRet c18_31 (.exit 1) := rExit
noncomputable def c18_23 : AC := .seq c18_24 c18_31
theorem r18_23 : RSeq c18_23 c18_24 c18_31 := rSeq
noncomputable def c18_32 : AC := .skip
theorem r18_32 : RRet c18_32 .normal := rSkip
noncomputable def c18_22 : AC := .cond (.tmp 34) c18_23 c18_32
theorem r18_22 : RCnd c18_22 34 c18_23 c18_32 := rCnd
noncomputable def c18_20 : AC := .seq c18_21 c18_22
theorem r18_20 : RSeq c18_20 c18_21 c18_22 := rSeq
noncomputable def c18_34 : AC := .reg [⟨none, .p2 (bin2 P .add 3) (.tmp 5) (.cst (AV.int .i64 1))⟩] [(5, .loc 0)]
theorem r18_34 : RReg c18_34 fun call tm h => match ((match (match tm.gt 5 with | none => none | some a => match bin2 P .add 3 a (AV.int .i64 1) with | none => none | some y => some (y, h)) with | none => none | some r0 => some ([r0.1], r0.2)) : Option (List AV × Heap)) with | none => none | some (loc, h') => match ((match Opd.get (.loc 0) loc .leaf tm with | none => none | some o0 => some (tm.up (some o0) 5)) : Option (Tr AV)) with | none => none | some tm' => some (tm', h') := rReg (by kernel_rfl)
noncomputable def c18_36g : List (Nat × GIns) := [(0, ⟨none, .mv (.tmp 10)⟩), (1, ⟨none, .p1 (un1 .not) (.opi 0)⟩), (2, ⟨none, .mv (.opi 1)⟩), (3, ⟨some (.opi 2, false), .mv (.tmp 7)⟩), (4, ⟨some (.opi 2, false), .mv (.tmp 1)⟩), (5, ⟨some (.opi 2, false), .mv (.tmp 6)⟩), (6, ⟨some (.opi 2, false), .p2 (indexAddr2 P 26) (.opi 4) (.opi 5)⟩), (7, ⟨some (.opi 2, false), .p1 (fieldAddr1 P 32 0) (.opi 6)⟩), (8, ⟨some (.opi 2, false), .ld1 (.opi 7)⟩), (9, ⟨some (.opi 2, false), .p2 (bin2 P .neq 9) (.opi 3) (.opi 8)⟩), (10, ⟨none, .pick (.opi 2) (.cst (AV.bool true)) (.opi 9)⟩), (11, ⟨none, .mv (.opi 10)⟩), (12, ⟨some (.opi 11, false), .mv (.tmp 8)⟩), (13, ⟨some (.opi 11, false), .mv (.tmp 1)⟩), (14, ⟨some (.opi 11, false), .mv (.tmp 6)⟩), (15, ⟨some (.opi 11, false), .p2 (indexAddr2 P 26) (.opi 13) (.opi 14)⟩), (16, ⟨some (.opi 11, false), .p1 (fieldAddr1 P 32 2) (.opi 15)⟩), (17, ⟨some (.opi 11, false), .ld1 (.opi 16)⟩), (18, ⟨some (.opi 11, false), .p2 (bin2 P .neq 3) (.opi 12) (.opi 17)⟩), (19, ⟨none, .pick (.opi 11) (.cst (AV.bool true)) (.opi 18)⟩), (20, ⟨none, .mv (.opi 19)⟩), (21, ⟨some (.opi 20, false), .mv (.tmp 9)⟩), (22, ⟨some (.opi 20, false), .mv (.tmp 1)⟩), (23, ⟨some (.opi 20, false), .mv (.tmp 6)⟩), (24, ⟨some (.opi 20, false), .p2 (indexAddr2 P 26) (.opi 22) (.opi 23)⟩), (25, ⟨some (.opi 20, false), .p1 (fieldAddr1 P 32 3) (.opi 24)⟩), (26, ⟨some (.opi 20, false), .ld1 (.opi 25)⟩), (27, ⟨some (.opi 20, false), .p2 (bin2 P .neq 3) (.opi 21) (.opi 26)⟩), (28, ⟨none, .pick (.opi 20) (.cst (AV.bool true)) (.opi 27)⟩), (29, ⟨none, .mv (.opi 28)⟩), (30, ⟨some (.opi 29, false), .mv (.tmp 0)⟩), (31, ⟨some (.opi 29, false), .mv (.tmp 1)⟩), (32, ⟨some (.opi 29, false), .mv (.tmp 6)⟩), (33, ⟨some (.opi 29, false), .p2 (indexAddr2 P 26) (.opi 31) (.opi 32)⟩), (34, ⟨some (.opi 29, false), .p1 (fieldAddr1 P 32 0) (.opi 33)⟩), (35, ⟨some (.opi 29, false), .ld1 (.opi 34)⟩), (36, ⟨some (.opi 29, false), .mv (.tmp 1)⟩), (37, ⟨some (.opi 29, false), .mv (.tmp 6)⟩), (38, ⟨some (.opi 29, false), .p2 (indexAddr2 P 26) (.opi 36) (.opi 37)⟩), (39, ⟨some (.opi 29, false), .p1 (fieldAddr1 P 32 1) (.opi 38)⟩), (40, ⟨some (.opi 29, false), .ld1 (.opi 39)⟩), (41, ⟨some (.opi 29, false), .cl (.cst (AV.func (Fn.func 48) [] [])) [.opi 30, .opi 35, .opi 40]⟩), (42, ⟨some (.opi 29, false), .p1 (un1 .not) (.opi 41)⟩), (43, ⟨none, .pick (.opi 29) (.cst (AV.bool true)) (.opi 42)⟩)]
noncomputable def c18_36 : AC := .draw 44 (stagesOf #[0, 1, 3, 7, 7, 7, 55, 119, 247, 511, 1023, 2047, 4095, 4095, 4095, 28671, 61439, 126975, 262143, 524287, 1048575, 2097151, 2097151, 2097151, 14680063, 31457279, 65011711, 134217727, 268435455, 536870911, 1073741823, 1073741823, 1073741823, 7516192767, 16106127359, 33285996543, 1073741823, 1073741823, 207232172031, 482110078975, 1031865892863, 2199023255551, 4398046511103, 8796093022207] c18_36g [41] 0 (c18_36g.filter fun x => x.2.i.eff)) [(91, 43)]
theorem r18_36 : RReg c18_36 fun call tm h => match (let base := h.next; let vs : Tr AV := .leaf; let h := Heap.mk h.bs (h.next + 44); ((match ((match (match (match tm.gt 10 with | none => none | some a => some (a, h)) with | none => none | some y => some y.1) with | none => none | some v => let vs := vs.up (some v) 0; match (match (match vs.gt 0 with | none => none | some a => match un1 .not a with | none => none | some y => some (y, h)) with | none => none | some y => some y.1) with | none => none | some v => let vs := vs.up (some v) 1; match (match (match vs.gt 1 with | none => none | some a => some (a, h)) with | none => none | some y => some y.1) with | none => none | some v => let vs := vs.up (some v) 2; match (match vs.gt 2 with | none => none | some g => match wanted false g with | true => (match (match tm.gt 7 with | none => none | some a => some (a, h)) with | none => none | some y => some y.1) | false => some undefA) with | none => none | some v => let vs := vs.up (some v) 3; match (match vs.gt 2 with | none => none | some g => match wanted false g with | true => (match (match tm.gt 1 with | none => none | some a => some (a, h)) with | none => none | some y => some y.1) | false => some undefA) with | none => none | some v => let vs := vs.up (some v) 4; match (match vs.gt 2 with | none => none | some g => match wanted false g with | true => (match (match tm.gt 6 with | none => none | some a => some (a, h)) with | none => none | some y => some y.1) | false => some undefA) with | none => none | some v => let vs := vs.up (some v) 5; match (match vs.gt 2 with | none => none | some g => match wanted false g with | true => (match (match vs.gt 4 with | none => none | some a => match vs.gt 5 with | none => none | some b => match indexAddr2 P 26 a b with | none => none | some y => some (y, h)) with | none => none | some y => some y.1) | false => some undefA) with | none => none | some v => let vs := vs.up (some v) 6; match (match vs.gt 2 with | none => none | some g => match wanted false g with | true => (match (match vs.gt 6 with | none => none | some a => match fieldAddr1 P 32 0 a with | none => none | some y => some (y, h)) with | none => none | some y => some y.1) | false => some undefA) with | none => none | some v => let vs := vs.up (some v) 7; match (match vs.gt 2 with | none => none | some g => match wanted false g with | true => (match (match vs.gt 7 with | none => none | some a => match load1 h a with | none => none | some y => some (y, h)) with | none => none | some y => some y.1) | false => some undefA) with | none => none | some v => let vs := vs.up (some v) 8; match (match vs.gt 2 with | none => none | some g => match wanted false g with | true => (match (match vs.gt 3 with | none => none | some a => match vs.gt 8 with | none => none | some b => match bin2 P .neq 9 a b with | none => none | some y => some (y, h)) with | none => none | some y => some y.1) | false => some undefA) with | none => none | some v => let vs := vs.up (some v) 9; match (match (match vs.gt 2 with | none => none | some c => eBool (fun t => match (match t with | true => (some (AV.bool true)) | false => (vs.gt 9)) with | none => none | some y => some (y, h)) c) with | none => none | some y => some y.1) with | none => none | some v => let vs := vs.up (some v) 10; match (match (match vs.gt 10 with | none => none | some a => some (a, h)) with | none => none | some y => some y.1) with | none => none | some v => let vs := vs.up (some v) 11; match (match vs.gt 11 with | none => none | some g => match wanted false g with | true => (match (match tm.gt 8 with | none => none | some a => some (a, h)) with | none => none | some y => some y.1) | false => some undefA) with | none => none | some v => let vs := vs.up (some v) 12; match (match vs.gt 11 with | none => none | some g => match wanted false g with | true => (match (match tm.gt 1 with | none => none | some a => some (a, h)) with | none => none | some y => some y.1) | false => some undefA) with | none => none | some v => let vs := vs.up (some v) 13; match (match vs.gt 11 with | none => none | some g => match wanted false g with | true => (match (match tm.gt 6 with | none => none | some a => some (a, h)) with | none => none | some y => some y.1) | false => some undefA) with | none => none | some v => let vs := vs.up (some v) 14; match (match vs.gt 11 with | none => none | some g => match wanted false g with | true => (match (match vs.gt 13 with | none => none | some a => match vs.gt 14 with | none => none | some b => match indexAddr2 P 26 a b with | none => none | some y => some (y, h)) with | none => none | some y => some y.1) | false => some undefA) with | none => none | some v => let vs := vs.up (some v) 15; match (match vs.gt 11 with | none => none | some g => match wanted false g with | true => (match (match vs.gt 15 with | none => none | some a => match fieldAddr1 P 32 2 a with | none => none | some y => some (y, h)) with | none => none | some y => some y.1) | false => some undefA) with | none => none | some v => let vs := vs.up (some v) 16; match (match vs.gt 11 with | none => none | some g => match wanted false g with | true => (match (match vs.gt 16 with | none => none | some a => match load1 h a with | none => none | some y => some (y, h)) with | none => none | some y => some y.1) | false => some undefA) with | none => none | some v => let vs := vs.up (some v) 17; match (match vs.gt 11 with | none => none | some g => match wanted false g with | true => (match (match vs.gt 12 with | none => none | some a => match vs.gt 17 with | none => none | some b => match bin2 P .neq 3 a b with | none => none | some y => some (y, h)) with | none => none | some y => some y.1) | false => some undefA) with | none => none | some v => let vs := vs.up (some v) 18; match (match (match vs.gt 11 with | none => none | some c => eBool (fun t => match (match t with | true => (some (AV.bool true)) | false => (vs.gt 18)) with | none => none | some y => some (y, h)) c) with | none => none | some y => some y.1) with | none => none | some v => let vs := vs.up (some v) 19; match (match (match vs.gt 19 with | none => none | some a => some (a, h)) with | none => none | some y => some y.1) with | none => none | some v => let vs := vs.up (some v) 20; match (match vs.gt 20 with | none => none | some g => match wanted false g with | true => (match (match tm.gt 9 with | none => none | some a => some (a, h)) with | none => none | some y => some y.1) | false => some undefA) with | none => none | some v => let vs := vs.up (some v) 21; match (match vs.gt 20 with | none => none | some g => match wanted false g with | true => (match (match tm.gt 1 with | none => none | some a => some (a, h)) with | none => none | some y => some y.1) | false => some undefA) with | none => none | some v => let vs := vs.up (some v) 22; match (match vs.gt 20 with | none => none | some g => match wanted false g with | true => (match (match tm.gt 6 with | none => none | some a => some (a, h)) with | none => none | some y => some y.1) | false => some undefA) with | none => none | some v => let vs := vs.up (some v) 23; match (match vs.gt 20 with | none => none | some g => match wanted false g with | true => (match (match vs.gt 22 with | none => none | some a => match vs.gt 23 with | none => none | some b => match indexAddr2 P 26 a b with | none => none | some y => some (y, h)) with | none => none | some y => some y.1) | false => some undefA) with | none => none | some v => let vs := vs.up (some v) 24; match (match vs.gt 20 with | none => none | some g => match wanted false g with | true => (match (match vs.gt 24 with | none => none | some a => match fieldAddr1 P 32 3 a with | none => none | some y => some (y, h)) with | none => none | some y => some y.1) | false => some undefA) with | none => none | some v => let vs := vs.up (some v) 25; match (match vs.gt 20 with | none => none | some g => match wanted false g with | true => (match (match vs.gt 25 with | none => none | some a => match load1 h a with | none => none | some y => some (y, h)) with | none => none | some y => some y.1) | false => some undefA) with | none => none | some v => let vs := vs.up (some v) 26; match (match vs.gt 20 with | none => none | some g => match wanted false g with | true => (match (match vs.gt 21 with | none => none | some a => match vs.gt 26 with | none => none | some b => match bin2 P .neq 3 a b with | none => none | some y => some (y, h)) with | none => none | some y => some y.1) | false => some undefA) with | none => none | some v => let vs := vs.up (some v) 27; match (match (match vs.gt 20 with | none => none | some c => eBool (fun t => match (match t with | true => (some (AV.bool true)) | false => (vs.gt 27)) with | none => none | some y => some (y, h)) c) with | none => none | some y => some y.1) with | none => none | some v => let vs := vs.up (some v) 28; match (match (match vs.gt 28 with | none => none | some a => some (a, h)) with | none => none | some y => some y.1) with | none => none | some v => let vs := vs.up (some v) 29; match (match vs.gt 29 with | none => none | some g => match wanted false g with | true => (match (match tm.gt 0 with | none => none | some a => some (a, h)) with | none => none | some y => some y.1) | false => some undefA) with | none => none | some v => let vs := vs.up (some v) 30; match (match vs.gt 29 with | none => none | some g => match wanted false g with | true => (match (match tm.gt 1 with | none => none | some a => some (a, h)) with | none => none | some y => some y.1) | false => some undefA) with | none => none | some v => let vs := vs.up (some v) 31; match (match vs.gt 29 with | none => none | some g => match wanted false g with | true => (match (match tm.gt 6 with | none => none | some a => some (a, h)) with | none => none | some y => some y.1) | false => some undefA) with | none => none | some v => let vs := vs.up (some v) 32; match (match vs.gt 29 with | none => none | some g => match wanted false g with | true => (match (match vs.gt 31 with | none => none | some a => match vs.gt 32 with | none => none | some b => match indexAddr2 P 26 a b with | none => none | some y => some (y, h)) with | none => none | some y => some y.1) | false => some undefA) with | none => none | some v => let vs := vs.up (some v) 33; match (match vs.gt 29 with | none => none | some g => match wanted false g with | true => (match (match vs.gt 33 with | none => none | some a => match fieldAddr1 P 32 0 a with | none => none | some y => some (y, h)) with | none => none | some y => some y.1) | false => some undefA) with | none => none | some v => let vs := vs.up (some v) 34; match (match vs.gt 29 with | none => none | some g => match wanted false g with | true => (match (match vs.gt 34 with | none => none | some a => match load1 h a with | none => none | some y => some (y, h)) with | none => none | some y => some y.1) | false => some undefA) with | none => none | some v => let vs := vs.up (some v) 35; match (match vs.gt 29 with | none => none | some g => match wanted false g with | true => (match (match tm.gt 1 with | none => none | some a => some (a, h)) with | none => none | some y => some y.1) | false => some undefA) with | none => none | some v => let vs := vs.up (some v) 36; match (match vs.gt 29 with | none => none | some g => match wanted false g with | true => (match (match tm.gt 6 with | none => none | some a => some (a, h)) with | none => none | some y => some y.1) | false => some undefA) with | none => none | some v => let vs := vs.up (some v) 37; match (match vs.gt 29 with | none => none | some g => match wanted false g with | true => (match (match vs.gt 36 with | none => none | some a => match vs.gt 37 with | none => none | some b => match indexAddr2 P 26 a b with | none => none | some y => some (y, h)) with | none => none | some y => some y.1) | false => some undefA) with | none => none | some v => let vs := vs.up (some v) 38; match (match vs.gt 29 with | none => none | some g => match wanted false g with | true => (match (match vs.gt 38 with | none => none | some a => match fieldAddr1 P 32 1 a with | none => none | some y => some (y, h)) with | none => none | some y => some y.1) | false => some undefA) with | none => none | some v => let vs := vs.up (some v) 39; match (match vs.gt 29 with | none => none | some g => match wanted false g with | true => (match (match vs.gt 39 with | none => none | some a => match load1 h a with | none => none | some y => some (y, h)) with | none => none | some y => some y.1) | false => some undefA) with | none => none | some v => let vs := vs.up (some v) 40; some vs) : Option (Tr AV)) with | none => none | some vs => match (match vs.gt 29 with | none => none | some g => match wanted false g with | true => (match (match vs.gt 30 with | none => none | some a0 => match (match vs.gt 35 with | none => none | some a1 => match (match vs.gt 40 with | none => none | some a2 => match (some ([] : List AV)) with | none => none | some u2 => some (a2 :: u2)) with | none => none | some u1 => some (a1 :: u1)) with | none => none | some u0 => some (a0 :: u0)) with | none => none | some us => call (.fn 48) (app' [] (app' us [])) h) | false => some (undefA, h)) with | none => none | some r => let vs := vs.up (some r.1) 41; let h := r.2; match ((match (match vs.gt 29 with | none => none | some g => match wanted false g with | true => (match (match vs.gt 41 with | none => none | some a => match un1 .not a with | none => none | some y => some (y, h)) with | none => none | some y => some y.1) | false => some undefA) with | none => none | some v => let vs := vs.up (some v) 42; match (match (match vs.gt 29 with | none => none | some c => eBool (fun t => match (match t with | true => (some (AV.bool true)) | false => (vs.gt 42)) with | none => none | some y => some (y, h)) c) with | none => none | some y => some y.1) with | none => none | some v => let vs := vs.up (some v) 43; some vs) : Option (Tr AV)) with | none => none | some vs => some (vs, h)) : Option (Tr AV × Heap))) with | none => none | some (vs, h') => match ((match vs.gt 43 with | none => none | some o0 => some (tm.up (some o0) 91)) : Option (Tr AV)) with | none => none | some tm' => some (tm', h') := rDrw (by kernel_rfl)
noncomputable def c18_39 : AC := .reg [] [(4, .cst (AV.bool false))]
theorem r18_39 : RReg c18_39 fun call tm h => some ((tm.up (some (AV.bool false)) 4), h) := rReg (by kernel_rfl)
noncomputable def c18_40 : AC := .ret
theorem r18_40 : RRet c18_40 .ret := rRet
noncomputable def c18_38 : AC := .seq c18_39 c18_40
theorem r18_38 : RSeq c18_38 c18_39 c18_40 := rSeq
noncomputable def c18_41 : AC := .skip
theorem r18_41 : RRet c18_41 .normal := rSkip
noncomputable def c18_37 : AC := .cond (.tmp 91) c18_38 c18_41
theorem r18_37 : RCnd c18_37 91 c18_38 c18_41 := rCnd
noncomputable def c18_35 : AC := .seq c18_36 c18_37
theorem r18_35 : RSeq c18_35 c18_36 c18_37 := rSeq
noncomputable def c18_33 : AC := .seq c18_34 c18_35
theorem r18_33 : RSeq c18_33 c18_34 c18_35 := rSeq
noncomputable def c18_19 : AC := .seq c18_20 c18_33
theorem r18_19 : RSeq c18_19 c18_20 c18_33 := rSeq
noncomputable def c18_17 : AC := .seq c18_18 c18_19
theorem r18_17 : RSeq c18_17 c18_18 c18_19 := rSeq
noncomputable def c18_16 : AC := .block 1 c18_17
theorem r18_16 : RBlk c18_16 1 c18_17 := rBlk
noncomputable def c18_42 : AC := .reg [⟨none, .p2 (bin2 P .add 3) (.tmp 6) (.cst (AV.int .i64 1))⟩] [(6, .loc 0)]
theorem r18_42 : RReg c18_42 fun call tm h => match ((match (match tm.gt 6 with | none => none | some a => match bin2 P .add 3 a (AV.int .i64 1) with | none => none | some y => some (y, h)) with | none => none | some r0 => some ([r0.1], r0.2)) : Option (List AV × Heap)) with | none => none | some (loc, h') => match ((match Opd.get (.loc 0) loc .leaf tm with | none => none | some o0 => some (tm.up (some o0) 6)) : Option (Tr AV)) with | none => none | some tm' => some (tm', h') := rReg (by kernel_rfl)
noncomputable def c18_15 : AC := .seq c18_16 c18_42
theorem r18_15 : RSeq c18_15 c18_16 c18_42 := rSeq
noncomputable def c18_9 : AC := .seq c18_10 c18_15
theorem r18_9 : RSeq c18_9 c18_10 c18_15 := rSeq
/- LOOP -/
noncomputable def c18_8 : AC := .loop c18_9
noncomputable def c18_7 : AC := .block 0 c18_8
theorem r18_7 : RBlk c18_7 0 c18_8 := rBlk
noncomputable def c18_5 : AC := .seq c18_6 c18_7
theorem r18_5 : RSeq c18_5 c18_6 c18_7 := rSeq
noncomputable def c18_44 : AC := .reg [⟨none, .cl (.cst (AV.func (Fn.func 39) [] [])) [.tmp 0]⟩, ⟨none, .p2 (bin2 P .eql 3) (.loc 0) (.tmp 5)⟩] [(4, .loc 0)]
theorem r18_44 : RReg c18_44 fun call tm h => match ((match (match (match tm.gt 0 with | none => none | some a0 => match (some ([] : List AV)) with | none => none | some u0 => some (a0 :: u0)) with | none => none | some us => call (.fn 39) (app' [] (app' us [])) h) with | none => none | some r0 => match (match tm.gt 5 with | none => none | some b => match bin2 P .eql 3 r0.1 b with | none => none | some y => some (y, r0.2)) with | none => none | some r1 => some ([r1.1, r0.1], r1.2)) : Option (List AV × Heap)) with | none => none | some (loc, h') => match ((match Opd.get (.loc 0) loc .leaf tm with | none => none | some o0 => some (tm.up (some o0) 4)) : Option (Tr AV)) with | none => none | some tm' => some (tm', h') := rReg (by kernel_rfl)
noncomputable def c18_45 : AC := .ret
theorem r18_45 : RRet c18_45 .ret := rRet
noncomputable def c18_43 : AC := .seq c18_44 c18_45
theorem r18_43 : RSeq c18_43 c18_44 c18_45 := rSeq
noncomputable def c18_4 : AC := .seq c18_5 c18_43
theorem r18_4 : RSeq c18_4 c18_5 c18_43 := rSeq
noncomputable def c18_2 : AC := .seq c18_3 c18_4
theorem r18_2 : RSeq c18_2 c18_3 c18_4 := rSeq
noncomputable def c18_0 : AC := .seq c18_1 c18_2
theorem r18_0 : RSeq c18_0 c18_1 c18_2 := rSeq
noncomputable def fn18 : FnA := ⟨c18_0, [.tmp 4], 96, true⟩
theorem f18A : fnA P (keepF P) 18 = some fn18 := by kernel_rfl

/-! (*revert/dedup.Table).Get -/
noncomputable def c35_1 : AC := .reg [] [(7, .cst (AV.bool false)), (6, .cst (AV.int .i64 0)), (5, .cst (AV.int .i64 0)), (4, .cst (AV.str []))]
theorem r35_1 : RReg c35_1 fun call tm h => some (((((tm.up (some (AV.bool false)) 7).up (some (AV.int .i64 0)) 6).up (some (AV.int .i64 0)) 5).up (some (AV.str [])) 4), h) := rReg (by kernel_rfl)
noncomputable def c35_3 : AC := .reg [⟨none, .cl (.cst (AV.func (Fn.func 54) [] [])) [.tmp 0, .tmp 1]⟩, ⟨none, .p1 (nthTuple 0) (.loc 0)⟩, ⟨none, .p1 (nthTuple 1) (.loc 1)⟩, ⟨none, .al (fun (_ : List AV) => allocN P 91) []⟩, ⟨none, .ef (fun vs _ h => l2 (storeN 3 h) vs) [.loc 0, .loc 2]⟩] [(9, .loc 2), (8, .loc 1)]
theorem r35_3 : RReg c35_3 fun call tm h => match ((match (match (match tm.gt 0 with | none => none | some a0 => match (match tm.gt 1 with | none => none | some a1 => match (some ([] : List AV)) with | none => none | some u1 => some (a1 :: u1)) with | none => none | some u0 => some (a0 :: u0)) with | none => none | some us => call (.fn 54) (app' [] (app' us [])) h) with | none => none | some r0 => match (match nthTuple 0 r0.1 with | none => none | some y => some (y, r0.2)) with | none => none | some r1 => match (match nthTuple 1 r0.1 with | none => none | some y => some (y, r1.2)) with | none => none | some r2 => match (match (fun (_ : List AV) => allocN P 91) [] with | none => none | some y => some (y.2 r2.2.next, r2.2.new r2.2.next y.1)) with | none => none | some r3 => match ((fun vs _ h => l2 (storeN 3 h) vs) [r3.1, r1.1] r3.2.next r3.2) with | none => none | some r4 => some ([r4.1, r3.1, r2.1, r1.1, r0.1], r4.2)) : Option (List AV × Heap)) with | none => none | some (loc, h') => match ((match Opd.get (.loc 2) loc .leaf tm with | none => none | some o0 => match Opd.get (.loc 1) loc .leaf tm with | none => none | some o1 => some ((tm.up (some o0) 9).up (some o1) 8)) : Option (Tr AV)) with | none => none | some tm' => some (tm', h') := rReg (by kernel_rfl)
noncomputable def c35_5g : List (Nat × GIns) := [(0, ⟨none, .p1 (fieldAddr1 P 91 0) (.tmp 8)⟩), (1, ⟨none, .ld1 (.opi 0)⟩), (2, ⟨none, .p1 (fieldAddr1 P 91 1) (.tmp 8)⟩), (3, ⟨none, .ld1 (.opi 2)⟩), (4, ⟨none, .p1 (fieldAddr1 P 91 2) (.tmp 8)⟩), (5, ⟨none, .ld1 (.opi 4)⟩), (6, ⟨none, .mv (.tmp 9)⟩), (7, ⟨none, .p2 (bin2 P .eql 33) (.opi 6) (.cst (AV.int .i64 0))⟩), (8, ⟨none, .mv (.opi 1)⟩), (9, ⟨none, .mv (.opi 3)⟩), (10, ⟨none, .mv (.opi 5)⟩), (11, ⟨none, .mv (.opi 7)⟩)]
noncomputable def c35_5 : AC := .draw 12 (stagesOf #[0, 1, 0, 4, 0, 16, 0, 64, 3, 271, 831, 2047] c35_5g [] 0 (c35_5g.filter fun x => x.2.i.eff)) [(7, 11), (6, 10), (5, 9), (4, 8)]
theorem r35_5 : RReg c35_5 fun call tm h => match (let base := h.next; let vs : Tr AV := .leaf; let h := Heap.mk h.bs (h.next + 12); ((match ((match (match (match tm.gt 8 with | none => none | some a => match fieldAddr1 P 91 0 a with | none => none | some y => some (y, h)) with | none => none | some y => some y.1) with | none => none | some v => let vs := vs.up (some v) 0; match (match (match vs.gt 0 with | none => none | some a => match load1 h a with | none => none | some y => some (y, h)) with | none => none | some y => some y.1) with | none => none | some v => let vs := vs.up (some v) 1; match (match (match tm.gt 8 with | none => none | some a => match fieldAddr1 P 91 1 a with | none => none | some y => some (y, h)) with | none => none | some y => some y.1) with | none => none | some v => let vs := vs.up (some v) 2; match (match (match vs.gt 2 with | none => none | some a => match load1 h a with | none => none | some y => some (y, h)) with | none => none | some y => some y.1) with | none => none | some v => let vs := vs.up (some v) 3; match (match (match tm.gt 8 with | none => none | some a => match fieldAddr1 P 91 2 a with | none => none | some y => some (y, h)) with | none => none | some y => some y.1) with | none => none | some v => let vs := vs.up (some v) 4; match (match (match vs.gt 4 with | none => none | some a => match load1 h a with | none => none | some y => some (y, h)) with | none => none | some y => some y.1) with | none => none | some v => let vs := vs.up (some v) 5; match (match (match tm.gt 9 with | none => none | some a => some (a, h)) with | none => none | some y => some y.1) with | none => none | some v => let vs := vs.up (some v) 6; match (match (match vs.gt 6 with | none => none | some a => match bin2 P .eql 33 a (AV.int .i64 0) with | none => none | some y => some (y, h)) with | none => none | some y => some y.1) with | none => none | some v => let vs := vs.up (some v) 7; match (match (match vs.gt 1 with | none => none | some a => some (a, h)) with | none => none | some y => some y.1) with | none => none | some v => let vs := vs.up (some v) 8; match (match (match vs.gt 3 with | none => none | some a => some (a, h)) with | none => none | some y => some y.1) with | none => none | some v => let vs := vs.up (some v) 9; match (match (match vs.gt 5 with | none => none | some a => some (a, h)) with | none => none | some y => some y.1) with | none => none | some v => let vs := vs.up (some v) 10; match (match (match vs.gt 7 with | none => none | some a => some (a, h)) with | none => none | some y => some y.1) with | none => none | some v => let vs := vs.up (some v) 11; some vs) : Option (Tr AV)) with | none => none | some vs => some (vs, h)) : Option (Tr AV × Heap))) with | none => none | some (vs, h') => match ((match vs.gt 11 with | none => none | some o0 => match vs.gt 10 with | none => none | some o1 => match vs.gt 9 with | none => none | some o2 => match vs.gt 8 with | none => none | some o3 => some ((((tm.up (some o0) 7).up (some o1) 6).up (some o2) 5).up (some o3) 4)) : Option (Tr AV)) with | none => none | some tm' => some (tm', h') := rDrw (by kernel_rfl)
noncomputable def c35_6 : AC := .ret
theorem r35_6 : RRet c35_6 .ret := rRet
noncomputable def c35_4 : AC := .seq c35_5 c35_6
theorem r35_4 : RSeq c35_4 c35_5 c35_6 := rSeq
noncomputable def c35_2 : AC := .seq c35_3 c35_4
theorem r35_2 : RSeq c35_2 c35_3 c35_4 := rSeq
noncomputable def c35_0 : AC := .seq c35_1 c35_2
theorem r35_0 : RSeq c35_0 c35_1 c35_2 := rSeq
noncomputable def fn35 : FnA := ⟨c35_0, [.tmp 4, .tmp 5, .tmp 6, .tmp 7], 24, true⟩
theorem f35A : fnA P (keepF P) 35 = some fn35 := by kernel_rfl

/-! (*revert/dedup.Table).Count -/
noncomputable def c39_1 : AC := .reg [] [(2, .cst (AV.int .i64 0))]
theorem r39_1 : RReg c39_1 fun call tm h => some ((tm.up (some (AV.int .i64 0)) 2), h) := rReg (by kernel_rfl)
noncomputable def c39_4 : AC := .reg [⟨none, .cl (.cst (AV.func (Fn.func 52) [] [])) [.tmp 0]⟩, ⟨none, .p1 (un1 .not) (.loc 0)⟩] [(5, .loc 0)]
theorem r39_4 : RReg c39_4 fun call tm h => match ((match (match (match tm.gt 0 with | none => none | some a0 => match (some ([] : List AV)) with | none => none | some u0 => some (a0 :: u0)) with | none => none | some us => call (.fn 52) (app' [] (app' us [])) h) with | none => none | some r0 => match (match un1 .not r0.1 with | none => none | some y => some (y, r0.2)) with | none => none | some r1 => some ([r1.1, r0.1], r1.2)) : Option (List AV × Heap)) with | none => none | some (loc, h') => match ((match Opd.get (.loc 0) loc .leaf tm with | none => none | some o0 => some (tm.up (some o0) 5)) : Option (Tr AV)) with | none => none | some tm' => some (tm', h') := rReg (by kernel_rfl)
noncomputable def c39_7 : AC := .reg [] [(2, .cst (AV.int .i64 0))]
theorem r39_7 : RReg c39_7 fun call tm h => some ((tm.up (some (AV.int .i64 0)) 2), h) := rReg (by kernel_rfl)
noncomputable def c39_8 : AC := .ret
theorem r39_8 : RRet c39_8 .ret := rRet
noncomputable def c39_6 : AC := .seq c39_7 c39_8
theorem r39_6 : RSeq c39_6 c39_7 c39_8 := rSeq
noncomputable def c39_9 : AC := .skip
theorem r39_9 : RRet c39_9 .normal := rSkip
noncomputable def c39_5 : AC := .cond (.tmp 5) c39_6 c39_9
theorem r39_5 : RCnd c39_5 5 c39_6 c39_9 := rCnd
noncomputable def c39_3 : AC := .seq c39_4 c39_5
theorem r39_3 : RSeq c39_3 c39_4 c39_5 := rSeq
noncomputable def c39_11 : AC := .reg [⟨none, .p1 (notNil) (.tmp 0)⟩, ⟨none, .p1 (fieldAddr1 P 87 0) (.loc 0)⟩, ⟨none, .ld1 (.loc 0)⟩, ⟨none, .rd (fun vs h => l1 (lenMap h) vs) [.loc 0]⟩] [(2, .loc 0)]
theorem r39_11 : RReg c39_11 fun call tm h => match ((match (match tm.gt 0 with | none => none | some a => match notNil a with | none => none | some y => some (y, h)) with | none => none | some r0 => match (match fieldAddr1 P 87 0 r0.1 with | none => none | some y => some (y, r0.2)) with | none => none | some r1 => match (match load1 r1.2 r1.1 with | none => none | some y => some (y, r1.2)) with | none => none | some r2 => match (match (fun vs h => l1 (lenMap h) vs) [r2.1] r2.2 with | none => none | some y => some (y, r2.2)) with | none => none | some r3 => some ([r3.1, r2.1, r1.1, r0.1], r3.2)) : Option (List AV × Heap)) with | none => none | some (loc, h') => match ((match Opd.get (.loc 0) loc .leaf tm with | none => none | some o0 => some (tm.up (some o0) 2)) : Option (Tr AV)) with | none => none | some tm' => some (tm', h') := rReg (by kernel_rfl)
noncomputable def c39_12 : AC := .ret
theorem r39_12 : RRet c39_12 .ret := rRet
noncomputable def c39_10 : AC := .seq c39_11 c39_12
theorem r39_10 : RSeq c39_10 c39_11 c39_12 := rSeq
noncomputable def c39_2 : AC := .seq c39_3 c39_10
theorem r39_2 : RSeq c39_2 c39_3 c39_10 := rSeq
noncomputable def c39_0 : AC := .seq c39_1 c39_2
theorem r39_0 : RSeq c39_0 c39_1 c39_2 := rSeq
noncomputable def fn39 : FnA := ⟨c39_0, [.tmp 2], 11, true⟩
theorem f39A : fnA P (keepF P) 39 = some fn39 := by kernel_rfl

/-! revert/revertlaw16.adds -/
noncomputable def c46_1 : AC := .reg [] [(8, .cst (AV.bool false))]
theorem r46_1 : RReg c46_1 fun call tm h => some ((tm.up (some (AV.bool false)) 8), h) := rReg (by kernel_rfl)
noncomputable def c46_3 : AC := .reg [⟨none, .cl (.cst (AV.func (Fn.func 17) [] [])) [.tmp 0, .tmp 1, .tmp 2]⟩, ⟨none, .p1 (nthTuple 0) (.loc 0)⟩, ⟨none, .p1 (nthTuple 1) (.loc 1)⟩] [(10, .loc 0), (9, .loc 1)]
theorem r46_3 : RReg c46_3 fun call tm h => match ((match (match (match tm.gt 0 with | none => none | some a0 => match (match tm.gt 1 with | none => none | some a1 => match (match tm.gt 2 with | none => none | some a2 => match (some ([] : List AV)) with | none => none | some u2 => some (a2 :: u2)) with | none => none | some u1 => some (a1 :: u1)) with | none => none | some u0 => some (a0 :: u0)) with | none => none | some us => call (.fn 17) (app' [] (app' us [])) h) with | none => none | some r0 => match (match nthTuple 0 r0.1 with | none => none | some y => some (y, r0.2)) with | none => none | some r1 => match (match nthTuple 1 r0.1 with | none => none | some y => some (y, r1.2)) with | none => none | some r2 => some ([r2.1, r1.1, r0.1], r2.2)) : Option (List AV × Heap)) with | none => none | some (loc, h') => match ((match Opd.get (.loc 0) loc .leaf tm with | none => none | some o0 => match Opd.get (.loc 1) loc .leaf tm with | none => none | some o1 => some ((tm.up (some o0) 10).up (some o1) 9)) : Option (Tr AV)) with | none => none | some tm' => some (tm', h') := rReg (by kernel_rfl)
noncomputable def c46_5 : AC := .reg [⟨none, .p2 (bin2 P .eql 27) (.tmp 9) (.tmp 3)⟩, ⟨some (.loc 0, true), .mv (.tmp 10)⟩, ⟨some (.loc 1, true), .p2 (bin2 P .eql 33) (.loc 0) (.cst (AV.int .i64 0))⟩, ⟨none, .pick (.loc 2) (.loc 0) (.cst (AV.bool false))⟩] [(8, .loc 0)]
theorem r46_5 : RReg c46_5 fun call tm h => match ((match (match tm.gt 9 with | none => none | some a => match tm.gt 3 with | none => none | some b => match bin2 P .eql 27 a b with | none => none | some y => some (y, h)) with | none => none | some r0 => match (match wanted true r0.1 with | true => (match tm.gt 10 with | none => none | some a => some (a, r0.2)) | false => some (undefA, r0.2)) with | none => none | some r1 => match (match wanted true r0.1 with | true => (match bin2 P .eql 33 r1.1 (AV.int .i64 0) with | none => none | some y => some (y, r1.2)) | false => some (undefA, r1.2)) with | none => none | some r2 => match (eBool (fun t => match (match t with | true => (some r2.1) | false => (some (AV.bool false))) with | none => none | some y => some (y, r2.2)) r0.1) with | none => none | some r3 => some ([r3.1, r2.1, r1.1, r0.1], r3.2)) : Option (List AV × Heap)) with | none => none | some (loc, h') => match ((match Opd.get (.loc 0) loc .leaf tm with | none => none | some o0 => some (tm.up (some o0) 8)) : Option (Tr AV)) with | none => none | some tm' => some (tm', h') := rReg (by kernel_rfl)
noncomputable def c46_6 : AC := .ret
theorem r46_6 : RRet c46_6 .ret := rRet
noncomputable def c46_4 : AC := .seq c46_5 c46_6
theorem r46_4 : RSeq c46_4 c46_5 c46_6 := rSeq
noncomputable def c46_2 : AC := .seq c46_3 c46_4
theorem r46_2 : RSeq c46_2 c46_3 c46_4 := rSeq
noncomputable def c46_0 : AC := .seq c46_1 c46_2
theorem r46_0 : RSeq c46_0 c46_1 c46_2 := rSeq
noncomputable def fn46 : FnA := ⟨c46_0, [.tmp 8], 25, true⟩
theorem f46A : fnA P (keepF P) 46 = some fn46 := by kernel_rfl

/-! revert/revertlaw16.finds -/
noncomputable def c48_1 : AC := .reg [] [(6, .cst (AV.bool false))]
theorem r48_1 : RReg c48_1 fun call tm h => some ((tm.up (some (AV.bool false)) 6), h) := rReg (by kernel_rfl)
noncomputable def c48_3 : AC := .reg [⟨none, .cl (.cst (AV.func (Fn.func 14) [] [])) [.tmp 0, .tmp 1]⟩, ⟨none, .p1 (nthTuple 0) (.loc 0)⟩, ⟨none, .p1 (nthTuple 1) (.loc 1)⟩] [(8, .loc 0), (7, .loc 1)]
theorem r48_3 : RReg c48_3 fun call tm h => match ((match (match (match tm.gt 0 with | none => none | some a0 => match (match tm.gt 1 with | none => none | some a1 => match (some ([] : List AV)) with | none => none | some u1 => some (a1 :: u1)) with | none => none | some u0 => some (a0 :: u0)) with | none => none | some us => call (.fn 14) (app' [] (app' us [])) h) with | none => none | some r0 => match (match nthTuple 0 r0.1 with | none => none | some y => some (y, r0.2)) with | none => none | some r1 => match (match nthTuple 1 r0.1 with | none => none | some y => some (y, r1.2)) with | none => none | some r2 => some ([r2.1, r1.1, r0.1], r2.2)) : Option (List AV × Heap)) with | none => none | some (loc, h') => match ((match Opd.get (.loc 0) loc .leaf tm with | none => none | some o0 => match Opd.get (.loc 1) loc .leaf tm with | none => none | some o1 => some ((tm.up (some o0) 8).up (some o1) 7)) : Option (Tr AV)) with | none => none | some tm' => some (tm', h') := rReg (by kernel_rfl)
noncomputable def c48_5 : AC := .reg [⟨none, .p2 (bin2 P .eql 27) (.tmp 7) (.tmp 2)⟩, ⟨some (.loc 0, true), .mv (.tmp 8)⟩, ⟨some (.loc 1, true), .mv (.tmp 2)⟩, ⟨some (.loc 2, true), .p2 (bin2 P .gtr 27) (.loc 0) (.cst (AV.int .u32 0))⟩, ⟨some (.loc 3, true), .p2 (bin2 P .eql 4) (.loc 2) (.loc 0)⟩, ⟨none, .pick (.loc 4) (.loc 0) (.cst (AV.bool false))⟩] [(6, .loc 0)]
theorem r48_5 : RReg c48_5 fun call tm h => match ((match (match tm.gt 7 with | none => none | some a => match tm.gt 2 with | none => none | some b => match bin2 P .eql 27 a b with | none => none | some y => some (y, h)) with | none => none | some r0 => match (match wanted true r0.1 with | true => (match tm.gt 8 with | none => none | some a => some (a, r0.2)) | false => some (undefA, r0.2)) with | none => none | some r1 => match (match wanted true r0.1 with | true => (match tm.gt 2 with | none => none | some a => some (a, r1.2)) | false => some (undefA, r1.2)) with | none => none | some r2 => match (match wanted true r0.1 with | true => (match bin2 P .gtr 27 r2.1 (AV.int .u32 0) with | none => none | some y => some (y, r2.2)) | false => some (undefA, r2.2)) with | none => none | some r3 => match (match wanted true r0.1 with | true => (match bin2 P .eql 4 r1.1 r3.1 with | none => none | some y => some (y, r3.2)) | false => some (undefA, r3.2)) with | none => none | some r4 => match (eBool (fun t => match (match t with | true => (some r4.1) | false => (some (AV.bool false))) with | none => none | some y => some (y, r4.2)) r0.1) with | none => none | some r5 => some ([r5.1, r4.1, r3.1, r2.1, r1.1, r0.1], r5.2)) : Option (List AV × Heap)) with | none => none | some (loc, h') => match ((match Opd.get (.loc 0) loc .leaf tm with | none => none | some o0 => some (tm.up (some o0) 6)) : Option (Tr AV)) with | none => none | some tm' => some (tm', h') := rReg (by kernel_rfl)
noncomputable def c48_6 : AC := .ret
theorem r48_6 : RRet c48_6 .ret := rRet
noncomputable def c48_4 : AC := .seq c48_5 c48_6
theorem r48_4 : RSeq c48_4 c48_5 c48_6 := rSeq
noncomputable def c48_2 : AC := .seq c48_3 c48_4
theorem r48_2 : RSeq c48_2 c48_3 c48_4 := rSeq
noncomputable def c48_0 : AC := .seq c48_1 c48_2
theorem r48_0 : RSeq c48_0 c48_1 c48_2 := rSeq
noncomputable def fn48 : FnA := ⟨c48_0, [.tmp 6], 24, true⟩
theorem f48A : fnA P (keepF P) 48 = some fn48 := by kernel_rfl

/-! revert/revertlaw16.refused -/
noncomputable def c49_1 : AC := .reg [] [(6, .cst (AV.bool false))]
theorem r49_1 : RReg c49_1 fun call tm h => some ((tm.up (some (AV.bool false)) 6), h) := rReg (by kernel_rfl)
noncomputable def c49_3 : AC := .reg [⟨none, .cl (.cst (AV.func (Fn.func 17) [] [])) [.tmp 0, .tmp 1, .cst (AV.int .i64 0)]⟩, ⟨none, .p1 (nthTuple 0) (.loc 0)⟩, ⟨none, .p1 (nthTuple 1) (.loc 1)⟩] [(8, .loc 0), (7, .loc 1)]
theorem r49_3 : RReg c49_3 fun call tm h => match ((match (match (match tm.gt 0 with | none => none | some a0 => match (match tm.gt 1 with | none => none | some a1 => match (some [(AV.int .i64 0)]) with | none => none | some u1 => some (a1 :: u1)) with | none => none | some u0 => some (a0 :: u0)) with | none => none | some us => call (.fn 17) (app' [] (app' us [])) h) with | none => none | some r0 => match (match nthTuple 0 r0.1 with | none => none | some y => some (y, r0.2)) with | none => none | some r1 => match (match nthTuple 1 r0.1 with | none => none | some y => some (y, r1.2)) with | none => none | some r2 => some ([r2.1, r1.1, r0.1], r2.2)) : Option (List AV × Heap)) with | none => none | some (loc, h') => match ((match Opd.get (.loc 0) loc .leaf tm with | none => none | some o0 => match Opd.get (.loc 1) loc .leaf tm with | none => none | some o1 => some ((tm.up (some o0) 8).up (some o1) 7)) : Option (Tr AV)) with | none => none | some tm' => some (tm', h') := rReg (by kernel_rfl)
noncomputable def c49_5 : AC := .reg [⟨none, .p2 (bin2 P .eql 27) (.tmp 7) (.cst (AV.int .u32 0))⟩, ⟨some (.loc 0, true), .mv (.tmp 8)⟩, ⟨some (.loc 1, true), .mv (.tmp 2)⟩, ⟨some (.loc 2, true), .p2 (bin2 P .eql 33) (.loc 1) (.loc 0)⟩, ⟨none, .pick (.loc 3) (.loc 0) (.cst (AV.bool false))⟩] [(6, .loc 0)]
theorem r49_5 : RReg c49_5 fun call tm h => match ((match (match tm.gt 7 with | none => none | some a => match bin2 P .eql 27 a (AV.int .u32 0) with | none => none | some y => some (y, h)) with | none => none | some r0 => match (match wanted true r0.1 with | true => (match tm.gt 8 with | none => none | some a => some (a, r0.2)) | false => some (undefA, r0.2)) with | none => none | some r1 => match (match wanted true r0.1 with | true => (match tm.gt 2 with | none => none | some a => some (a, r1.2)) | false => some (undefA, r1.2)) with | none => none | some r2 => match (match wanted true r0.1 with | true => (match bin2 P .eql 33 r1.1 r2.1 with | none => none | some y => some (y, r2.2)) | false => some (undefA, r2.2)) with | none => none | some r3 => match (eBool (fun t => match (match t with | true => (some r3.1) | false => (some (AV.bool false))) with | none => none | some y => some (y, r3.2)) r0.1) with | none => none | some r4 => some ([r4.1, r3.1, r2.1, r1.1, r0.1], r4.2)) : Option (List AV × Heap)) with | none => none | some (loc, h') => match ((match Opd.get (.loc 0) loc .leaf tm with | none => none | some o0 => some (tm.up (some o0) 6)) : Option (Tr AV)) with | none => none | some tm' => some (tm', h') := rReg (by kernel_rfl)
noncomputable def c49_6 : AC := .ret
theorem r49_6 : RRet c49_6 .ret := rRet
noncomputable def c49_4 : AC := .seq c49_5 c49_6
theorem r49_4 : RSeq c49_4 c49_5 c49_6 := rSeq
noncomputable def c49_2 : AC := .seq c49_3 c49_4
theorem r49_2 : RSeq c49_2 c49_3 c49_4 := rSeq
noncomputable def c49_0 : AC := .seq c49_1 c49_2
theorem r49_0 : RSeq c49_0 c49_1 c49_2 := rSeq
noncomputable def fn49 : FnA := ⟨c49_0, [.tmp 6], 22, true⟩
theorem f49A : fnA P (keepF P) 49 = some fn49 := by kernel_rfl

/-! revert/hash.New -/
noncomputable def c51_1 : AC := .reg [] [(0, .cst (AV.ptr none))]
theorem r51_1 : RReg c51_1 fun call tm h => some ((tm.up (some (AV.ptr none)) 0), h) := rReg (by kernel_rfl)
noncomputable def c51_3 : AC := .reg [⟨none, .pn (buildN P 135 [0]) [.cst (AV.bool true)]⟩, ⟨none, .al (l1 box1) [.loc 0]⟩] [(0, .loc 0)]
theorem r51_3 : RReg c51_3 fun call tm h => match ((match (match buildN P 135 [0] [(AV.bool true)] with | none => none | some y => some (y, h)) with | none => none | some r0 => match (match l1 box1 [r0.1] with | none => none | some y => some (y.2 r0.2.next, r0.2.new r0.2.next y.1)) with | none => none | some r1 => some ([r1.1, r0.1], r1.2)) : Option (List AV × Heap)) with | none => none | some (loc, h') => match ((match Opd.get (.loc 0) loc .leaf tm with | none => none | some o0 => some (tm.up (some o0) 0)) : Option (Tr AV)) with | none => none | some tm' => some (tm', h') := rReg (by kernel_rfl)
noncomputable def c51_4 : AC := .ret
theorem r51_4 : RRet c51_4 .ret := rRet
noncomputable def c51_2 : AC := .seq c51_3 c51_4
theorem r51_2 : RSeq c51_2 c51_3 c51_4 := rSeq
noncomputable def c51_0 : AC := .seq c51_1 c51_2
theorem r51_0 : RSeq c51_0 c51_1 c51_2 := rSeq
noncomputable def fn51 : FnA := ⟨c51_0, [.tmp 0], 3, true⟩
theorem f51A : fnA P (keepF P) 51 = some fn51 := by kernel_rfl

/-! (*revert/dedup.Table).is -/
noncomputable def c52_1 : AC := .reg [] [(2, .cst (AV.bool false))]
theorem r52_1 : RReg c52_1 fun call tm h => some ((tm.up (some (AV.bool false)) 2), h) := rReg (by kernel_rfl)
noncomputable def c52_3 : AC := .reg [⟨none, .p2 (bin2 P .neq 24) (.tmp 0) (.cst (AV.ptr none))⟩, ⟨some (.loc 0, true), .mv (.tmp 0)⟩, ⟨some (.loc 1, true), .p1 (notNil) (.loc 0)⟩, ⟨some (.loc 2, true), .p1 (fieldAddr1 P 87 0) (.loc 0)⟩, ⟨some (.loc 3, true), .ld1 (.loc 0)⟩, ⟨some (.loc 4, true), .p2 (bin2 P .neq 84) (.loc 0) (.cst (AV.map none))⟩, ⟨none, .pick (.loc 5) (.loc 0) (.cst (AV.bool false))⟩] [(2, .loc 0)]
theorem r52_3 : RReg c52_3 fun call tm h => match ((match (match tm.gt 0 with | none => none | some a => match bin2 P .neq 24 a (AV.ptr none) with | none => none | some y => some (y, h)) with | none => none | some r0 => match (match wanted true r0.1 with | true => (match tm.gt 0 with | none => none | some a => some (a, r0.2)) | false => some (undefA, r0.2)) with | none => none | some r1 => match (match wanted true r0.1 with | true => (match notNil r1.1 with | none => none | some y => some (y, r1.2)) | false => some (undefA, r1.2)) with | none => none | some r2 => match (match wanted true r0.1 with | true => (match fieldAddr1 P 87 0 r2.1 with | none => none | some y => some (y, r2.2)) | false => some (undefA, r2.2)) with | none => none | some r3 => match (match wanted true r0.1 with | true => (match load1 r3.2 r3.1 with | none => none | some y => some (y, r3.2)) | false => some (undefA, r3.2)) with | none => none | some r4 => match (match wanted true r0.1 with | true => (match bin2 P .neq 84 r4.1 (AV.map none) with | none => none | some y => some (y, r4.2)) | false => some (undefA, r4.2)) with | none => none | some r5 => match (eBool (fun t => match (match t with | true => (some r5.1) | false => (some (AV.bool false))) with | none => none | some y => some (y, r5.2)) r0.1) with | none => none | some r6 => some ([r6.1, r5.1, r4.1, r3.1, r2.1, r1.1, r0.1], r6.2)) : Option (List AV × Heap)) with | none => none | some (loc, h') => match ((match Opd.get (.loc 0) loc .leaf tm with | none => none | some o0 => some (tm.up (some o0) 2)) : Option (Tr AV)) with | none => none | some tm' => some (tm', h') := rReg (by kernel_rfl)
noncomputable def c52_4 : AC := .ret
theorem r52_4 : RRet c52_4 .ret := rRet
noncomputable def c52_2 : AC := .seq c52_3 c52_4
theorem r52_2 : RSeq c52_2 c52_3 c52_4 := rSeq
noncomputable def c52_0 : AC := .seq c52_1 c52_2
theorem r52_0 : RSeq c52_0 c52_1 c52_2 := rSeq
noncomputable def fn52 : FnA := ⟨c52_0, [.tmp 2], 12, true⟩
theorem f52A : fnA P (keepF P) 52 = some fn52 := by kernel_rfl

/-! (*revert/hash.Index).Find -/
noncomputable def c53_1 : AC := .reg [] [(4, .cst (AV.slice none 0 0 none))]
theorem r53_1 : RReg c53_1 fun call tm h => some ((tm.up (some (AV.slice none 0 0 none)) 4), h) := rReg (by kernel_rfl)
noncomputable def c53_4 : AC := .reg [⟨none, .cl (.cst (AV.func (Fn.func 77) [] [])) [.tmp 0]⟩, ⟨none, .p1 (un1 .not) (.loc 0)⟩] [(7, .loc 0)]
theorem r53_4 : RReg c53_4 fun call tm h => match ((match (match (match tm.gt 0 with | none => none | some a0 => match (some ([] : List AV)) with | none => none | some u0 => some (a0 :: u0)) with | none => none | some us => call (.fn 77) (app' [] (app' us [])) h) with | none => none | some r0 => match (match un1 .not r0.1 with | none => none | some y => some (y, r0.2)) with | none => none | some r1 => some ([r1.1, r0.1], r1.2)) : Option (List AV × Heap)) with | none => none | some (loc, h') => match ((match Opd.get (.loc 0) loc .leaf tm with | none => none | some o0 => some (tm.up (some o0) 7)) : Option (Tr AV)) with | none => none | some tm' => some (tm', h') := rReg (by kernel_rfl)
noncomputable def c53_7 : AC := .reg [] [(4, .cst (AV.slice none 0 0 none))]
theorem r53_7 : RReg c53_7 fun call tm h => some ((tm.up (some (AV.slice none 0 0 none)) 4), h) := rReg (by kernel_rfl)
noncomputable def c53_8 : AC := .ret
theorem r53_8 : RRet c53_8 .ret := rRet
noncomputable def c53_6 : AC := .seq c53_7 c53_8
theorem r53_6 : RSeq c53_6 c53_7 c53_8 := rSeq
noncomputable def c53_9 : AC := .skip
theorem r53_9 : RRet c53_9 .normal := rSkip
noncomputable def c53_5 : AC := .cond (.tmp 7) c53_6 c53_9
theorem r53_5 : RCnd c53_5 7 c53_6 c53_9 := rCnd
noncomputable def c53_3 : AC := .seq c53_4 c53_5
theorem r53_3 : RSeq c53_3 c53_4 c53_5 := rSeq
noncomputable def c53_11g : List (Nat × GIns) := [(0, ⟨none, .mv (.tmp 0)⟩), (1, ⟨none, .mv (.tmp 1)⟩), (2, ⟨none, .cl (.cst (AV.func (Fn.func 79) [] [])) [.opi 1]⟩), (3, ⟨none, .p1 (notNil) (.opi 0)⟩), (4, ⟨none, .p1 (fieldAddr1 P 135 1) (.opi 3)⟩), (5, ⟨none, .p2 (indexAddr2 P 133) (.opi 4) (.opi 2)⟩), (6, ⟨none, .ld1 (.opi 5)⟩), (7, ⟨none, .cl (.cst (AV.func (Fn.func 78) [] [])) [.opi 6]⟩), (8, ⟨none, .mv (.opi 7)⟩)]
noncomputable def c53_11 : AC := .draw 9 (stagesOf #[0, 0, 2, 1, 9, 31, 63, 127, 255] c53_11g [2, 7] 0 (c53_11g.filter fun x => x.2.i.eff)) [(4, 8)]
theorem r53_11 : RReg c53_11 fun call tm h => match (let base := h.next; let vs : Tr AV := .leaf; let h := Heap.mk h.bs (h.next + 9); ((match ((match (match (match tm.gt 0 with | none => none | some a => some (a, h)) with | none => none | some y => some y.1) with | none => none | some v => let vs := vs.up (some v) 0; match (match (match tm.gt 1 with | none => none | some a => some (a, h)) with | none => none | some y => some y.1) with | none => none | some v => let vs := vs.up (some v) 1; match (match (match vs.gt 0 with | none => none | some a => match notNil a with | none => none | some y => some (y, h)) with | none => none | some y => some y.1) with | none => none | some v => let vs := vs.up (some v) 3; match (match (match vs.gt 3 with | none => none | some a => match fieldAddr1 P 135 1 a with | none => none | some y => some (y, h)) with | none => none | some y => some y.1) with | none => none | some v => let vs := vs.up (some v) 4; some vs) : Option (Tr AV)) with | none => none | some vs => match (match (match vs.gt 1 with | none => none | some a0 => match (some ([] : List AV)) with | none => none | some u0 => some (a0 :: u0)) with | none => none | some us => call (.fn 79) (app' [] (app' us [])) h) with | none => none | some r => let vs := vs.up (some r.1) 2; let h := r.2; match ((match (match (match vs.gt 4 with | none => none | some a => match vs.gt 2 with | none => none | some b => match indexAddr2 P 133 a b with | none => none | some y => some (y, h)) with | none => none | some y => some y.1) with | none => none | some v => let vs := vs.up (some v) 5; match (match (match vs.gt 5 with | none => none | some a => match load1 h a with | none => none | some y => some (y, h)) with | none => none | some y => some y.1) with | none => none | some v => let vs := vs.up (some v) 6; some vs) : Option (Tr AV)) with | none => none | some vs => match (match (match vs.gt 6 with | none => none | some a0 => match (some ([] : List AV)) with | none => none | some u0 => some (a0 :: u0)) with | none => none | some us => call (.fn 78) (app' [] (app' us [])) h) with | none => none | some r => let vs := vs.up (some r.1) 7; let h := r.2; match ((match (match (match vs.gt 7 with | none => none | some a => some (a, h)) with | none => none | some y => some y.1) with | none => none | some v => let vs := vs.up (some v) 8; some vs) : Option (Tr AV)) with | none => none | some vs => some (vs, h)) : Option (Tr AV × Heap))) with | none => none | some (vs, h') => match ((match vs.gt 8 with | none => none | some o0 => some (tm.up (some o0) 4)) : Option (Tr AV)) with | none => none | some tm' => some (tm', h') := rDrw (by kernel_rfl)
noncomputable def c53_12 : AC := .ret
theorem r53_12 : RRet c53_12 .ret := rRet
noncomputable def c53_10 : AC := .seq c53_11 c53_12
theorem r53_10 : RSeq c53_10 c53_11 c53_12 := rSeq
noncomputable def c53_2 : AC := .seq c53_3 c53_10
theorem r53_2 : RSeq c53_2 c53_3 c53_10 := rSeq
noncomputable def c53_0 : AC := .seq c53_1 c53_2
theorem r53_0 : RSeq c53_0 c53_1 c53_2 := rSeq
noncomputable def fn53 : FnA := ⟨c53_0, [.tmp 4], 16, true⟩
theorem f53A : fnA P (keepF P) 53 = some fn53 := by kernel_rfl

/-! (*revert/dedup.Table).find -/
noncomputable def c54_1 : AC := .reg [⟨none, .al (fun (_ : List AV) => allocN P 91) []⟩] [(5, .cst (AV.int .i64 0)), (4, .loc 0)]
theorem r54_1 : RReg c54_1 fun call tm h => match ((match (match (fun (_ : List AV) => allocN P 91) [] with | none => none | some y => some (y.2 h.next, h.new h.next y.1)) with | none => none | some r0 => some ([r0.1], r0.2)) : Option (List AV × Heap)) with | none => none | some (loc, h') => match ((match Opd.get (.cst (AV.int .i64 0)) loc .leaf tm with | none => none | some o0 => match Opd.get (.loc 0) loc .leaf tm with | none => none | some o1 => some ((tm.up (some o0) 5).up (some o1) 4)) : Option (Tr AV)) with | none => none | some tm' => some (tm', h') := rReg (by kernel_rfl)
noncomputable def c54_4 : AC := .reg [⟨none, .cl (.cst (AV.func (Fn.func 52) [] [])) [.tmp 0]⟩, ⟨none, .p1 (un1 .not) (.loc 0)⟩] [(10, .loc 0)]
theorem r54_4 : RReg c54_4 fun call tm h => match ((match (match (match tm.gt 0 with | none => none | some a0 => match (some ([] : List AV)) with | none => none | some u0 => some (a0 :: u0)) with | none => none | some us => call (.fn 52) (app' [] (app' us [])) h) with | none => none | some r0 => match (match un1 .not r0.1 with | none => none | some y => some (y, r0.2)) with | none => none | some r1 => some ([r1.1, r0.1], r1.2)) : Option (List AV × Heap)) with | none => none | some (loc, h') => match ((match Opd.get (.loc 0) loc .leaf tm with | none => none | some o0 => some (tm.up (some o0) 10)) : Option (Tr AV)) with | none => none | some tm' => some (tm', h') := rReg (by kernel_rfl)
noncomputable def c54_7 : AC := .reg [⟨none, .pn (buildN P 91 []) []⟩, ⟨none, .ef (fun vs _ h => l2 (storeN 3 h) vs) [.tmp 4, .loc 0]⟩] [(5, .cst (AV.int .i64 1))]
theorem r54_7 : RReg c54_7 fun call tm h => match ((match (match buildN P 91 [] [] with | none => none | some y => some (y, h)) with | none => none | some r0 => match (match (match tm.gt 4 with | none => none | some a0 => match (some [r0.1]) with | none => none | some u0 => some (a0 :: u0)) with | none => none | some us => (fun vs _ h => l2 (storeN 3 h) vs) us r0.2.next r0.2) with | none => none | some r1 => some ([r1.1, r0.1], r1.2)) : Option (List AV × Heap)) with | none => none | some (loc, h') => match ((match Opd.get (.cst (AV.int .i64 1)) loc .leaf tm with | none => none | some o0 => some (tm.up (some o0) 5)) : Option (Tr AV)) with | none => none | some tm' => some (tm', h') := rReg (by kernel_rfl)
noncomputable def c54_8 : AC := .ret
theorem r54_8 : RRet c54_8 .ret := rRet
noncomputable def c54_6 : AC := .seq c54_7 c54_8
theorem r54_6 : RSeq c54_6 c54_7 c54_8 := rSeq
noncomputable def c54_9 : AC := .skip
theorem r54_9 : RRet c54_9 .normal := rSkip
noncomputable def c54_5 : AC := .cond (.tmp 10) c54_6 c54_9
theorem r54_5 : RCnd c54_5 10 c54_6 c54_9 := rCnd
noncomputable def c54_3 : AC := .seq c54_4 c54_5
theorem r54_3 : RSeq c54_3 c54_4 c54_5 := rSeq
noncomputable def c54_11 : AC := .reg [⟨none, .p1 (notNil) (.tmp 0)⟩, ⟨none, .p1 (fieldAddr1 P 87 0) (.loc 0)⟩, ⟨none, .ld1 (.loc 0)⟩, ⟨none, .rd (fun vs h => l2 (fun m k => lookup2 P 84 true m k h) vs) [.loc 0, .tmp 1]⟩, ⟨none, .p1 (nthTuple 0) (.loc 0)⟩, ⟨none, .p1 (nthTuple 1) (.loc 1)⟩, ⟨none, .al (fun (_ : List AV) => allocN P 91) []⟩, ⟨none, .ef (fun vs _ h => l2 (storeN 3 h) vs) [.loc 0, .loc 2]⟩] [(7, .loc 2), (6, .loc 1)]
theorem r54_11 : RReg c54_11 fun call tm h => match ((match (match tm.gt 0 with | none => none | some a => match notNil a with | none => none | some y => some (y, h)) with | none => none | some r0 => match (match fieldAddr1 P 87 0 r0.1 with | none => none | some y => some (y, r0.2)) with | none => none | some r1 => match (match load1 r1.2 r1.1 with | none => none | some y => some (y, r1.2)) with | none => none | some r2 => match (match (match (match tm.gt 1 with | none => none | some a0 => match (some ([] : List AV)) with | none => none | some u0 => some (a0 :: u0)) with | none => none | some u0 => some (r2.1 :: u0)) with | none => none | some us => match (fun vs h => l2 (fun m k => lookup2 P 84 true m k h) vs) us r2.2 with | none => none | some y => some (y, r2.2)) with | none => none | some r3 => match (match nthTuple 0 r3.1 with | none => none | some y => some (y, r3.2)) with | none => none | some r4 => match (match nthTuple 1 r3.1 with | none => none | some y => some (y, r4.2)) with | none => none | some r5 => match (match (fun (_ : List AV) => allocN P 91) [] with | none => none | some y => some (y.2 r5.2.next, r5.2.new r5.2.next y.1)) with | none => none | some r6 => match ((fun vs _ h => l2 (storeN 3 h) vs) [r6.1, r4.1] r6.2.next r6.2) with | none => none | some r7 => some ([r7.1, r6.1, r5.1, r4.1, r3.1, r2.1, r1.1, r0.1], r7.2)) : Option (List AV × Heap)) with | none => none | some (loc, h') => match ((match Opd.get (.loc 2) loc .leaf tm with | none => none | some o0 => match Opd.get (.loc 1) loc .leaf tm with | none => none | some o1 => some ((tm.up (some o0) 7).up (some o1) 6)) : Option (Tr AV)) with | none => none | some tm' => some (tm', h') := rReg (by kernel_rfl)
noncomputable def c54_14 : AC := .reg [⟨none, .p1 (un1 .not) (.tmp 7)⟩] [(22, .loc 0)]
theorem r54_14 : RReg c54_14 fun call tm h => match ((match (match tm.gt 7 with | none => none | some a => match un1 .not a with | none => none | some y => some (y, h)) with | none => none | some r0 => some ([r0.1], r0.2)) : Option (List AV × Heap)) with | none => none | some (loc, h') => match ((match Opd.get (.loc 0) loc .leaf tm with | none => none | some o0 => some (tm.up (some o0) 22)) : Option (Tr AV)) with | none => none | some tm' => some (tm', h') := rReg (by kernel_rfl)
noncomputable def c54_17 : AC := .reg [⟨none, .pn (buildN P 91 []) []⟩, ⟨none, .ef (fun vs _ h => l2 (storeN 3 h) vs) [.tmp 4, .loc 0]⟩] [(5, .cst (AV.int .i64 5))]
theorem r54_17 : RReg c54_17 fun call tm h => match ((match (match buildN P 91 [] [] with | none => none | some y => some (y, h)) with | none => none | some r0 => match (match (match tm.gt 4 with | none => none | some a0 => match (some [r0.1]) with | none => none | some u0 => some (a0 :: u0)) with | none => none | some us => (fun vs _ h => l2 (storeN 3 h) vs) us r0.2.next r0.2) with | none => none | some r1 => some ([r1.1, r0.1], r1.2)) : Option (List AV × Heap)) with | none => none | some (loc, h') => match ((match Opd.get (.cst (AV.int .i64 5)) loc .leaf tm with | none => none | some o0 => some (tm.up (some o0) 5)) : Option (Tr AV)) with | none => none | some tm' => some (tm', h') := rReg (by kernel_rfl)
noncomputable def c54_18 : AC := .ret
theorem r54_18 : RRet c54_18 .ret := rRet
noncomputable def c54_16 : AC := .seq c54_17 c54_18
theorem r54_16 : RSeq c54_16 c54_17 c54_18 := rSeq
noncomputable def c54_19 : AC := .skip
theorem r54_19 : RRet c54_19 .normal := rSkip
noncomputable def c54_15 : AC := .cond (.tmp 22) c54_16 c54_19
theorem r54_15 : RCnd c54_15 22 c54_16 c54_19 := rCnd
noncomputable def c54_13 : AC := .seq c54_14 c54_15
theorem r54_13 : RSeq c54_13 c54_14 c54_15 := rSeq
noncomputable def c54_21 : AC := .reg [⟨none, .ldn 3 (.tmp 6)⟩, ⟨none, .ef (fun vs _ h => l2 (storeN 3 h) vs) [.tmp 4, .loc 0]⟩] [(5, .cst (AV.int .i64 0))]
theorem r54_21 : RReg c54_21 fun call tm h => match ((match (match tm.gt 6 with | none => none | some a => match loadN 3 h a with | none => none | some y => some (y, h)) with | none => none | some r0 => match (match (match tm.gt 4 with | none => none | some a0 => match (some [r0.1]) with | none => none | some u0 => some (a0 :: u0)) with | none => none | some us => (fun vs _ h => l2 (storeN 3 h) vs) us r0.2.next r0.2) with | none => none | some r1 => some ([r1.1, r0.1], r1.2)) : Option (List AV × Heap)) with | none => none | some (loc, h') => match ((match Opd.get (.cst (AV.int .i64 0)) loc .leaf tm with | none => none | some o0 => some (tm.up (some o0) 5)) : Option (Tr AV)) with | none => none | some tm' => some (tm', h') := rReg (by kernel_rfl)
noncomputable def c54_22 : AC := .ret
theorem r54_22 : RRet c54_22 .ret := rRet
noncomputable def c54_20 : AC := .seq c54_21 c54_22
theorem r54_20 : RSeq c54_20 c54_21 c54_22 := rSeq
noncomputable def c54_12 : AC := .seq c54_13 c54_20
theorem r54_12 : RSeq c54_12 c54_13 c54_20 := rSeq
noncomputable def c54_10 : AC := .seq c54_11 c54_12
theorem r54_10 : RSeq c54_10 c54_11 c54_12 := rSeq
noncomputable def c54_2 : AC := .seq c54_3 c54_10
theorem r54_2 : RSeq c54_2 c54_3 c54_10 := rSeq
noncomputable def c54_0 : AC := .seq c54_1 c54_2
theorem r54_0 : RSeq c54_0 c54_1 c54_2 := rSeq
noncomputable def fn54 : FnA := ⟨c54_0, [.cell 4 91, .tmp 5], 25, true⟩
theorem f54A : fnA P (keepF P) 54 = some fn54 := by kernel_rfl

/-! (*revert/hash.Index).Drop -/
noncomputable def c55_1 : AC := .reg [] [(6, .cst (AV.int .i64 0))]
theorem r55_1 : RReg c55_1 fun call tm h => some ((tm.up (some (AV.int .i64 0)) 6), h) := rReg (by kernel_rfl)
noncomputable def c55_4 : AC := .reg [⟨none, .cl (.cst (AV.func (Fn.func 77) [] [])) [.tmp 0]⟩, ⟨none, .p1 (un1 .not) (.loc 0)⟩] [(11, .loc 0)]
theorem r55_4 : RReg c55_4 fun call tm h => match ((match (match (match tm.gt 0 with | none => none | some a0 => match (some ([] : List AV)) with | none => none | some u0 => some (a0 :: u0)) with | none => none | some us => call (.fn 77) (app' [] (app' us [])) h) with | none => none | some r0 => match (match un1 .not r0.1 with | none => none | some y => some (y, r0.2)) with | none => none | some r1 => some ([r1.1, r0.1], r1.2)) : Option (List AV × Heap)) with | none => none | some (loc, h') => match ((match Opd.get (.loc 0) loc .leaf tm with | none => none | some o0 => some (tm.up (some o0) 11)) : Option (Tr AV)) with | none => none | some tm' => some (tm', h') := rReg (by kernel_rfl)
noncomputable def c55_7 : AC := .reg [] [(6, .cst (AV.int .i64 1))]
theorem r55_7 : RReg c55_7 fun call tm h => some ((tm.up (some (AV.int .i64 1)) 6), h) := rReg (by kernel_rfl)
noncomputable def c55_8 : AC := .ret
theorem r55_8 : RRet c55_8 .ret := rRet
noncomputable def c55_6 : AC := .seq c55_7 c55_8
theorem r55_6 : RSeq c55_6 c55_7 c55_8 := rSeq
noncomputable def c55_9 : AC := .skip
theorem r55_9 : RRet c55_9 .normal := rSkip
noncomputable def c55_5 : AC := .cond (.tmp 11) c55_6 c55_9
theorem r55_5 : RCnd c55_5 11 c55_6 c55_9 := rCnd
noncomputable def c55_3 : AC := .seq c55_4 c55_5
theorem r55_3 : RSeq c55_3 c55_4 c55_5 := rSeq
noncomputable def c55_11g : List (Nat × GIns) := [(0, ⟨none, .mv (.tmp 0)⟩), (1, ⟨none, .mv (.tmp 1)⟩), (2, ⟨none, .cl (.cst (AV.func (Fn.func 79) [] [])) [.opi 1]⟩), (3, ⟨none, .p1 (notNil) (.opi 0)⟩), (4, ⟨none, .p1 (fieldAddr1 P 135 1) (.opi 3)⟩), (5, ⟨none, .p2 (indexAddr2 P 133) (.opi 4) (.opi 2)⟩), (6, ⟨none, .mv (.opi 5)⟩)]
noncomputable def c55_11 : AC := .draw 7 (stagesOf #[0, 0, 2, 1, 9, 31, 63] c55_11g [2] 0 (c55_11g.filter fun x => x.2.i.eff)) [(7, 6)]
theorem r55_11 : RReg c55_11 fun call tm h => match (let base := h.next; let vs : Tr AV := .leaf; let h := Heap.mk h.bs (h.next + 7); ((match ((match (match (match tm.gt 0 with | none => none | some a => some (a, h)) with | none => none | some y => some y.1) with | none => none | some v => let vs := vs.up (some v) 0; match (match (match tm.gt 1 with | none => none | some a => some (a, h)) with | none => none | some y => some y.1) with | none => none | some v => let vs := vs.up (some v) 1; match (match (match vs.gt 0 with | none => none | some a => match notNil a with | none => none | some y => some (y, h)) with | none => none | some y => some y.1) with | none => none | some v => let vs := vs.up (some v) 3; match (match (match vs.gt 3 with | none => none | some a => match fieldAddr1 P 135 1 a with | none => none | some y => some (y, h)) with | none => none | some y => some y.1) with | none => none | some v => let vs := vs.up (some v) 4; some vs) : Option (Tr AV)) with | none => none | some vs => match (match (match vs.gt 1 with | none => none | some a0 => match (some ([] : List AV)) with | none => none | some u0 => some (a0 :: u0)) with | none => none | some us => call (.fn 79) (app' [] (app' us [])) h) with | none => none | some r => let vs := vs.up (some r.1) 2; let h := r.2; match ((match (match (match vs.gt 4 with | none => none | some a => match vs.gt 2 with | none => none | some b => match indexAddr2 P 133 a b with | none => none | some y => some (y, h)) with | none => none | some y => some y.1) with | none => none | some v => let vs := vs.up (some v) 5; match (match (match vs.gt 5 with | none => none | some a => some (a, h)) with | none => none | some y => some y.1) with | none => none | some v => let vs := vs.up (some v) 6; some vs) : Option (Tr AV)) with | none => none | some vs => some (vs, h)) : Option (Tr AV × Heap))) with | none => none | some (vs, h') => match ((match vs.gt 6 with | none => none | some o0 => some (tm.up (some o0) 7)) : Option (Tr AV)) with | none => none | some tm' => some (tm', h') := rDrw (by kernel_rfl)
noncomputable def c55_13 : AC := .reg [⟨none, .p1 (notNil) (.tmp 7)⟩, ⟨none, .ld1 (.loc 0)⟩, ⟨none, .cl (.cst (AV.func (Fn.func 80) [] [])) [.loc 0, .tmp 2]⟩] [(8, .loc 0)]
theorem r55_13 : RReg c55_13 fun call tm h => match ((match (match tm.gt 7 with | none => none | some a => match notNil a with | none => none | some y => some (y, h)) with | none => none | some r0 => match (match load1 r0.2 r0.1 with | none => none | some y => some (y, r0.2)) with | none => none | some r1 => match (match (match (match tm.gt 2 with | none => none | some a0 => match (some ([] : List AV)) with | none => none | some u0 => some (a0 :: u0)) with | none => none | some u0 => some (r1.1 :: u0)) with | none => none | some us => call (.fn 80) (app' [] (app' us [])) r1.2) with | none => none | some r2 => some ([r2.1, r1.1, r0.1], r2.2)) : Option (List AV × Heap)) with | none => none | some (loc, h') => match ((match Opd.get (.loc 0) loc .leaf tm with | none => none | some o0 => some (tm.up (some o0) 8)) : Option (Tr AV)) with | none => none | some tm' => some (tm', h') := rReg (by kernel_rfl)
noncomputable def c55_16 : AC := .reg [⟨none, .p2 (bin2 P .lss 3) (.tmp 8) (.cst (AV.int .i64 0))⟩] [(24, .loc 0)]
theorem r55_16 : RReg c55_16 fun call tm h => match ((match (match tm.gt 8 with | none => none | some a => match bin2 P .lss 3 a (AV.int .i64 0) with | none => none | some y => some (y, h)) with | none => none | some r0 => some ([r0.1], r0.2)) : Option (List AV × Heap)) with | none => none | some (loc, h') => match ((match Opd.get (.loc 0) loc .leaf tm with | none => none | some o0 => some (tm.up (some o0) 24)) : Option (Tr AV)) with | none => none | some tm' => some (tm', h') := rReg (by kernel_rfl)
noncomputable def c55_19 : AC := .reg [] [(6, .cst (AV.int .i64 5))]
theorem r55_19 : RReg c55_19 fun call tm h => some ((tm.up (some (AV.int .i64 5)) 6), h) := rReg (by kernel_rfl)
noncomputable def c55_20 : AC := .ret
theorem r55_20 : RRet c55_20 .ret := rRet
noncomputable def c55_18 : AC := .seq c55_19 c55_20
theorem r55_18 : RSeq c55_18 c55_19 c55_20 := rSeq
noncomputable def c55_21 : AC := .skip
theorem r55_21 : RRet c55_21 .normal := rSkip
noncomputable def c55_17 : AC := .cond (.tmp 24) c55_18 c55_21
theorem r55_17 : RCnd c55_17 24 c55_18 c55_21 := rCnd
noncomputable def c55_15 : AC := .seq c55_16 c55_17
theorem r55_15 : RSeq c55_15 c55_16 c55_17 := rSeq
noncomputable def c55_23 : AC := .reg [⟨none, .p1 (notNil) (.tmp 7)⟩, ⟨none, .ld1 (.loc 0)⟩, ⟨none, .p2 (bin2 P .add 3) (.tmp 8) (.cst (AV.int .i64 1))⟩, ⟨none, .cl (.cst (AV.func (Fn.func 81) [] [])) [.loc 1, .tmp 8, .loc 0]⟩, ⟨none, .p1 (notNil) (.tmp 7)⟩, ⟨none, .st1 (.loc 0) (.loc 1)⟩] []
theorem r55_23 : RReg c55_23 fun call tm h => match ((match (match tm.gt 7 with | none => none | some a => match notNil a with | none => none | some y => some (y, h)) with | none => none | some r0 => match (match load1 r0.2 r0.1 with | none => none | some y => some (y, r0.2)) with | none => none | some r1 => match (match tm.gt 8 with | none => none | some a => match bin2 P .add 3 a (AV.int .i64 1) with | none => none | some y => some (y, r1.2)) with | none => none | some r2 => match (match (match (match tm.gt 8 with | none => none | some a0 => match (some [r2.1]) with | none => none | some u0 => some (a0 :: u0)) with | none => none | some u0 => some (r1.1 :: u0)) with | none => none | some us => call (.fn 81) (app' [] (app' us [])) r2.2) with | none => none | some r3 => match (match tm.gt 7 with | none => none | some a => match notNil a with | none => none | some y => some (y, r3.2)) with | none => none | some r4 => match (store1 r4.2 r4.1 r3.1) with | none => none | some r5 => some ([r5.1, r4.1, r3.1, r2.1, r1.1, r0.1], r5.2)) : Option (List AV × Heap)) with | none => none | some (_, h') => some (tm, h') := rReg (by kernel_rfl)
noncomputable def c55_25 : AC := .reg [] [(6, .cst (AV.int .i64 0))]
theorem r55_25 : RReg c55_25 fun call tm h => some ((tm.up (some (AV.int .i64 0)) 6), h) := rReg (by kernel_rfl)
noncomputable def c55_26 : AC := .ret
theorem r55_26 : RRet c55_26 .ret := rRet
noncomputable def c55_24 : AC := .seq c55_25 c55_26
theorem r55_24 : RSeq c55_24 c55_25 c55_26 := rSeq
noncomputable def c55_22 : AC := .seq c55_23 c55_24
theorem r55_22 : RSeq c55_22 c55_23 c55_24 := rSeq
noncomputable def c55_14 : AC := .seq c55_15 c55_22
theorem r55_14 : RSeq c55_14 c55_15 c55_22 := rSeq
noncomputable def c55_12 : AC := .seq c55_13 c55_14
theorem r55_12 : RSeq c55_12 c55_13 c55_14 := rSeq
noncomputable def c55_10 : AC := .seq c55_11 c55_12
theorem r55_10 : RSeq c55_10 c55_11 c55_12 := rSeq
noncomputable def c55_2 : AC := .seq c55_3 c55_10
theorem r55_2 : RSeq c55_2 c55_3 c55_10 := rSeq
noncomputable def c55_0 : AC := .seq c55_1 c55_2
theorem r55_0 : RSeq c55_0 c55_1 c55_2 := rSeq
noncomputable def fn55 : FnA := ⟨c55_0, [.tmp 6], 34, true⟩
theorem f55A : fnA P (keepF P) 55 = some fn55 := by kernel_rfl

/-! (*revert/dedup.Table).may -/
noncomputable def c56_1 : AC := .reg [] [(4, .cst (AV.int .i64 0))]
theorem r56_1 : RReg c56_1 fun call tm h => some ((tm.up (some (AV.int .i64 0)) 4), h) := rReg (by kernel_rfl)
noncomputable def c56_4 : AC := .reg [⟨none, .p2 (bin2 P .eql 9) (.tmp 1) (.cst (AV.str []))⟩, ⟨some (.loc 0, false), .mv (.tmp 1)⟩, ⟨some (.loc 1, false), .pn (l1 (len1 P 9)) [.loc 0]⟩, ⟨some (.loc 2, false), .p2 (bin2 P .gtr 3) (.loc 0) (.cst (AV.int .i64 64))⟩, ⟨none, .pick (.loc 3) (.cst (AV.bool true)) (.loc 0)⟩] [(13, .loc 0)]
theorem r56_4 : RReg c56_4 fun call tm h => match ((match (match tm.gt 1 with | none => none | some a => match bin2 P .eql 9 a (AV.str []) with | none => none | some y => some (y, h)) with | none => none | some r0 => match (match wanted false r0.1 with | true => (match tm.gt 1 with | none => none | some a => some (a, r0.2)) | false => some (undefA, r0.2)) with | none => none | some r1 => match (match wanted false r0.1 with | true => (match l1 (len1 P 9) [r1.1] with | none => none | some y => some (y, r1.2)) | false => some (undefA, r1.2)) with | none => none | some r2 => match (match wanted false r0.1 with | true => (match bin2 P .gtr 3 r2.1 (AV.int .i64 64) with | none => none | some y => some (y, r2.2)) | false => some (undefA, r2.2)) with | none => none | some r3 => match (eBool (fun t => match (match t with | true => (some (AV.bool true)) | false => (some r3.1)) with | none => none | some y => some (y, r3.2)) r0.1) with | none => none | some r4 => some ([r4.1, r3.1, r2.1, r1.1, r0.1], r4.2)) : Option (List AV × Heap)) with | none => none | some (loc, h') => match ((match Opd.get (.loc 0) loc .leaf tm with | none => none | some o0 => some (tm.up (some o0) 13)) : Option (Tr AV)) with | none => none | some tm' => some (tm', h') := rReg (by kernel_rfl)
noncomputable def c56_7 : AC := .reg [] [(4, .cst (AV.int .i64 4))]
theorem r56_7 : RReg c56_7 fun call tm h => some ((tm.up (some (AV.int .i64 4)) 4), h) := rReg (by kernel_rfl)
noncomputable def c56_8 : AC := .ret
theorem r56_8 : RRet c56_8 .ret := rRet
noncomputable def c56_6 : AC := .seq c56_7 c56_8
theorem r56_6 : RSeq c56_6 c56_7 c56_8 := rSeq
noncomputable def c56_9 : AC := .skip
theorem r56_9 : RRet c56_9 .normal := rSkip
noncomputable def c56_5 : AC := .cond (.tmp 13) c56_6 c56_9
theorem r56_5 : RCnd c56_5 13 c56_6 c56_9 := rCnd
noncomputable def c56_3 : AC := .seq c56_4 c56_5
theorem r56_3 : RSeq c56_3 c56_4 c56_5 := rSeq
noncomputable def c56_12 : AC := .reg [⟨none, .cl (.cst (AV.func (Fn.func 14) [] [])) [.tmp 0, .tmp 1]⟩, ⟨none, .p1 (nthTuple 0) (.loc 0)⟩, ⟨none, .p1 (nthTuple 1) (.loc 1)⟩] [(6, .loc 0)]
theorem r56_12 : RReg c56_12 fun call tm h => match ((match (match (match tm.gt 0 with | none => none | some a0 => match (match tm.gt 1 with | none => none | some a1 => match (some ([] : List AV)) with | none => none | some u1 => some (a1 :: u1)) with | none => none | some u0 => some (a0 :: u0)) with | none => none | some us => call (.fn 14) (app' [] (app' us [])) h) with | none => none | some r0 => match (match nthTuple 0 r0.1 with | none => none | some y => some (y, r0.2)) with | none => none | some r1 => match (match nthTuple 1 r0.1 with | none => none | some y => some (y, r1.2)) with | none => none | some r2 => some ([r2.1, r1.1, r0.1], r2.2)) : Option (List AV × Heap)) with | none => none | some (loc, h') => match ((match Opd.get (.loc 0) loc .leaf tm with | none => none | some o0 => some (tm.up (some o0) 6)) : Option (Tr AV)) with | none => none | some tm' => some (tm', h') := rReg (by kernel_rfl)
noncomputable def c56_14 : AC := .reg [] [(20, .tmp 6)]
theorem r56_14 : RReg c56_14 fun call tm h => match ((match tm.gt 6 with | none => none | some o0 => some (tm.up (some o0) 20)) : Option (Tr AV)) with | none => none | some tm' => some (tm', h) := rReg (by kernel_rfl)
noncomputable def c56_17 : AC := .reg [] [(4, .cst (AV.int .i64 6))]
theorem r56_17 : RReg c56_17 fun call tm h => some ((tm.up (some (AV.int .i64 6)) 4), h) := rReg (by kernel_rfl)
noncomputable def c56_18 : AC := .ret
theorem r56_18 : RRet c56_18 .ret := rRet
noncomputable def c56_16 : AC := .seq c56_17 c56_18
theorem r56_16 : RSeq c56_16 c56_17 c56_18 := rSeq
noncomputable def c56_19 : AC := .skip
theorem r56_19 : RRet c56_19 .normal := rSkip
noncomputable def c56_15 : AC := .cond (.tmp 20) c56_16 c56_19
theorem r56_15 : RCnd c56_15 20 c56_16 c56_19 := rCnd
noncomputable def c56_13 : AC := .seq c56_14 c56_15
theorem r56_13 : RSeq c56_13 c56_14 c56_15 := rSeq
noncomputable def c56_11 : AC := .seq c56_12 c56_13
theorem r56_11 : RSeq c56_11 c56_12 c56_13 := rSeq
noncomputable def c56_21 : AC := .reg [] [(4, .cst (AV.int .i64 0))]
theorem r56_21 : RReg c56_21 fun call tm h => some ((tm.up (some (AV.int .i64 0)) 4), h) := rReg (by kernel_rfl)
noncomputable def c56_22 : AC := .ret
theorem r56_22 : RRet c56_22 .ret := rRet
noncomputable def c56_20 : AC := .seq c56_21 c56_22
theorem r56_20 : RSeq c56_20 c56_21 c56_22 := rSeq
noncomputable def c56_10 : AC := .seq c56_11 c56_20
theorem r56_10 : RSeq c56_10 c56_11 c56_20 := rSeq
noncomputable def c56_2 : AC := .seq c56_3 c56_10
theorem r56_2 : RSeq c56_2 c56_3 c56_10 := rSeq
noncomputable def c56_0 : AC := .seq c56_1 c56_2
theorem r56_0 : RSeq c56_0 c56_1 c56_2 := rSeq
noncomputable def fn56 : FnA := ⟨c56_0, [.tmp 4], 21, true⟩
theorem f56A : fnA P (keepF P) 56 = some fn56 := by kernel_rfl

/-! (*revert/dedup.Table).put -/
noncomputable def c57_1 : AC := .reg [⟨none, .al (l1 box1) [.tmp 2]⟩] [(5, .loc 0)]
theorem r57_1 : RReg c57_1 fun call tm h => match ((match (match (match tm.gt 2 with | none => none | some a0 => match (some ([] : List AV)) with | none => none | some u0 => some (a0 :: u0)) with | none => none | some us => match l1 box1 us with | none => none | some y => some (y.2 h.next, h.new h.next y.1)) with | none => none | some r0 => some ([r0.1], r0.2)) : Option (List AV × Heap)) with | none => none | some (loc, h') => match ((match Opd.get (.loc 0) loc .leaf tm with | none => none | some o0 => some (tm.up (some o0) 5)) : Option (Tr AV)) with | none => none | some tm' => some (tm', h') := rReg (by kernel_rfl)
noncomputable def c57_3g : List (Nat × GIns) := [(0, ⟨none, .mv (.tmp 0)⟩), (1, ⟨none, .p1 (notNil) (.opi 0)⟩), (2, ⟨none, .p1 (fieldAddr1 P 87 0) (.opi 1)⟩), (3, ⟨none, .ld1 (.opi 2)⟩), (4, ⟨none, .mv (.tmp 1)⟩), (5, ⟨none, .ldn 3 (.tmp 5)⟩), (6, ⟨none, .ef (fun vs _ h => l3 (fun m k v => mapUpd P 84 m k v h) vs) [.opi 3, .opi 4, .opi 5]⟩)]
noncomputable def c57_3 : AC := .draw 7 (stagesOf #[0, 1, 3, 7, 0, 0, 63] c57_3g [6] 0 (c57_3g.filter fun x => x.2.i.eff)) []
theorem r57_3 : RReg c57_3 fun call tm h => match (let base := h.next; let vs : Tr AV := .leaf; let h := Heap.mk h.bs (h.next + 7); ((match ((match (match (match tm.gt 0 with | none => none | some a => some (a, h)) with | none => none | some y => some y.1) with | none => none | some v => let vs := vs.up (some v) 0; match (match (match vs.gt 0 with | none => none | some a => match notNil a with | none => none | some y => some (y, h)) with | none => none | some y => some y.1) with | none => none | some v => let vs := vs.up (some v) 1; match (match (match vs.gt 1 with | none => none | some a => match fieldAddr1 P 87 0 a with | none => none | some y => some (y, h)) with | none => none | some y => some y.1) with | none => none | some v => let vs := vs.up (some v) 2; match (match (match vs.gt 2 with | none => none | some a => match load1 h a with | none => none | some y => some (y, h)) with | none => none | some y => some y.1) with | none => none | some v => let vs := vs.up (some v) 3; match (match (match tm.gt 1 with | none => none | some a => some (a, h)) with | none => none | some y => some y.1) with | none => none | some v => let vs := vs.up (some v) 4; match (match (match tm.gt 5 with | none => none | some a => match loadN 3 h a with | none => none | some y => some (y, h)) with | none => none | some y => some y.1) with | none => none | some v => let vs := vs.up (some v) 5; some vs) : Option (Tr AV)) with | none => none | some vs => match (match (match vs.gt 3 with | none => none | some a0 => match (match vs.gt 4 with | none => none | some a1 => match (match vs.gt 5 with | none => none | some a2 => match (some ([] : List AV)) with | none => none | some u2 => some (a2 :: u2)) with | none => none | some u1 => some (a1 :: u1)) with | none => none | some u0 => some (a0 :: u0)) with | none => none | some us => (fun vs _ h => l3 (fun m k v => mapUpd P 84 m k v h) vs) us h.next h) with | none => none | some r => let vs := vs.up (some r.1) 6; let h := r.2; some (vs, h)) : Option (Tr AV × Heap))) with | none => none | some (vs, h') => some (tm, h') := rDrw (by kernel_rfl)
noncomputable def c57_5g : List (Nat × GIns) := [(0, ⟨none, .mv (.tmp 0)⟩), (1, ⟨none, .p1 (notNil) (.opi 0)⟩), (2, ⟨none, .p1 (fieldAddr1 P 87 1) (.opi 1)⟩), (3, ⟨none, .ld1 (.opi 2)⟩), (4, ⟨none, .p1 (fieldAddr1 P 91 0) (.tmp 5)⟩), (5, ⟨none, .ld1 (.opi 4)⟩), (6, ⟨none, .mv (.tmp 1)⟩), (7, ⟨none, .cl (.cst (AV.func (Fn.func 82) [] [])) [.opi 3, .opi 5, .opi 6]⟩)]
noncomputable def c57_5 : AC := .draw 8 (stagesOf #[0, 1, 3, 7, 0, 16, 0, 127] c57_5g [7] 0 (c57_5g.filter fun x => x.2.i.eff)) []
theorem r57_5 : RReg c57_5 fun call tm h => match (let base := h.next; let vs : Tr AV := .leaf; let h := Heap.mk h.bs (h.next + 8); ((match ((match (match (match tm.gt 0 with | none => none | some a => some (a, h)) with | none => none | some y => some y.1) with | none => none | some v => let vs := vs.up (some v) 0; match (match (match vs.gt 0 with | none => none | some a => match notNil a with | none => none | some y => some (y, h)) with | none => none | some y => some y.1) with | none => none | some v => let vs := vs.up (some v) 1; match (match (match vs.gt 1 with | none => none | some a => match fieldAddr1 P 87 1 a with | none => none | some y => some (y, h)) with | none => none | some y => some y.1) with | none => none | some v => let vs := vs.up (some v) 2; match (match (match vs.gt 2 with | none => none | some a => match load1 h a with | none => none | some y => some (y, h)) with | none => none | some y => some y.1) with | none => none | some v => let vs := vs.up (some v) 3; match (match (match tm.gt 5 with | none => none | some a => match fieldAddr1 P 91 0 a with | none => none | some y => some (y, h)) with | none => none | some y => some y.1) with | none => none | some v => let vs := vs.up (some v) 4; match (match (match vs.gt 4 with | none => none | some a => match load1 h a with | none => none | some y => some (y, h)) with | none => none | some y => some y.1) with | none => none | some v => let vs := vs.up (some v) 5; match (match (match tm.gt 1 with | none => none | some a => some (a, h)) with | none => none | some y => some y.1) with | none => none | some v => let vs := vs.up (some v) 6; some vs) : Option (Tr AV)) with | none => none | some vs => match (match (match vs.gt 3 with | none => none | some a0 => match (match vs.gt 5 with | none => none | some a1 => match (match vs.gt 6 with | none => none | some a2 => match (some ([] : List AV)) with | none => none | some u2 => some (a2 :: u2)) with | none => none | some u1 => some (a1 :: u1)) with | none => none | some u0 => some (a0 :: u0)) with | none => none | some us => call (.fn 82) (app' [] (app' us [])) h) with | none => none | some r => let vs := vs.up (some r.1) 7; let h := r.2; some (vs, h)) : Option (Tr AV × Heap))) with | none => none | some (vs, h') => some (tm, h') := rDrw (by kernel_rfl)
noncomputable def c57_6 : AC := .reg [⟨none, .p1 (notNil) (.tmp 0)⟩, ⟨none, .p1 (fieldAddr1 P 87 2) (.loc 0)⟩, ⟨none, .ld1 (.loc 0)⟩, ⟨none, .p2 (bin2 P .add 27) (.tmp 1) (.cst (AV.int .u32 1))⟩, ⟨none, .pn (folds max2) [.loc 1, .loc 0]⟩, ⟨none, .p1 (notNil) (.tmp 0)⟩, ⟨none, .p1 (fieldAddr1 P 87 2) (.loc 0)⟩, ⟨none, .st1 (.loc 0) (.loc 2)⟩] []
theorem r57_6 : RReg c57_6 fun call tm h => match ((match (match tm.gt 0 with | none => none | some a => match notNil a with | none => none | some y => some (y, h)) with | none => none | some r0 => match (match fieldAddr1 P 87 2 r0.1 with | none => none | some y => some (y, r0.2)) with | none => none | some r1 => match (match load1 r1.2 r1.1 with | none => none | some y => some (y, r1.2)) with | none => none | some r2 => match (match tm.gt 1 with | none => none | some a => match bin2 P .add 27 a (AV.int .u32 1) with | none => none | some y => some (y, r2.2)) with | none => none | some r3 => match (match folds max2 [r2.1, r3.1] with | none => none | some y => some (y, r3.2)) with | none => none | some r4 => match (match tm.gt 0 with | none => none | some a => match notNil a with | none => none | some y => some (y, r4.2)) with | none => none | some r5 => match (match fieldAddr1 P 87 2 r5.1 with | none => none | some y => some (y, r5.2)) with | none => none | some r6 => match (store1 r6.2 r6.1 r4.1) with | none => none | some r7 => some ([r7.1, r6.1, r5.1, r4.1, r3.1, r2.1, r1.1, r0.1], r7.2)) : Option (List AV × Heap)) with | none => none | some (_, h') => some (tm, h') := rReg (by kernel_rfl)
noncomputable def c57_4 : AC := .seq c57_5 c57_6
theorem r57_4 : RSeq c57_4 c57_5 c57_6 := rSeq
noncomputable def c57_2 : AC := .seq c57_3 c57_4
theorem r57_2 : RSeq c57_2 c57_3 c57_4 := rSeq
noncomputable def c57_0 : AC := .seq c57_1 c57_2
theorem r57_0 : RSeq c57_0 c57_1 c57_2 := rSeq
noncomputable def fn57 : FnA := ⟨c57_0, [], 30, true⟩
theorem f57A : fnA P (keepF P) 57 = some fn57 := by kernel_rfl

/-! (*revert/hash.Index).is -/
noncomputable def c77_1 : AC := .reg [] [(2, .cst (AV.bool false))]
theorem r77_1 : RReg c77_1 fun call tm h => some ((tm.up (some (AV.bool false)) 2), h) := rReg (by kernel_rfl)
noncomputable def c77_3 : AC := .reg [⟨none, .p2 (bin2 P .neq 85) (.tmp 0) (.cst (AV.ptr none))⟩, ⟨some (.loc 0, true), .mv (.tmp 0)⟩, ⟨some (.loc 1, true), .p1 (notNil) (.loc 0)⟩, ⟨some (.loc 2, true), .p1 (fieldAddr1 P 135 0) (.loc 0)⟩, ⟨some (.loc 3, true), .ld1 (.loc 0)⟩, ⟨none, .pick (.loc 4) (.loc 0) (.cst (AV.bool false))⟩] [(2, .loc 0)]
theorem r77_3 : RReg c77_3 fun call tm h => match ((match (match tm.gt 0 with | none => none | some a => match bin2 P .neq 85 a (AV.ptr none) with | none => none | some y => some (y, h)) with | none => none | some r0 => match (match wanted true r0.1 with | true => (match tm.gt 0 with | none => none | some a => some (a, r0.2)) | false => some (undefA, r0.2)) with | none => none | some r1 => match (match wanted true r0.1 with | true => (match notNil r1.1 with | none => none | some y => some (y, r1.2)) | false => some (undefA, r1.2)) with | none => none | some r2 => match (match wanted true r0.1 with | true => (match fieldAddr1 P 135 0 r2.1 with | none => none | some y => some (y, r2.2)) | false => some (undefA, r2.2)) with | none => none | some r3 => match (match wanted true r0.1 with | true => (match load1 r3.2 r3.1 with | none => none | some y => some (y, r3.2)) | false => some (undefA, r3.2)) with | none => none | some r4 => match (eBool (fun t => match (match t with | true => (some r4.1) | false => (some (AV.bool false))) with | none => none | some y => some (y, r4.2)) r0.1) with | none => none | some r5 => some ([r5.1, r4.1, r3.1, r2.1, r1.1, r0.1], r5.2)) : Option (List AV × Heap)) with | none => none | some (loc, h') => match ((match Opd.get (.loc 0) loc .leaf tm with | none => none | some o0 => some (tm.up (some o0) 2)) : Option (Tr AV)) with | none => none | some tm' => some (tm', h') := rReg (by kernel_rfl)
noncomputable def c77_4 : AC := .ret
theorem r77_4 : RRet c77_4 .ret := rRet
noncomputable def c77_2 : AC := .seq c77_3 c77_4
theorem r77_2 : RSeq c77_2 c77_3 c77_4 := rSeq
noncomputable def c77_0 : AC := .seq c77_1 c77_2
theorem r77_0 : RSeq c77_0 c77_1 c77_2 := rSeq
noncomputable def fn77 : FnA := ⟨c77_0, [.tmp 2], 11, true⟩
theorem f77A : fnA P (keepF P) 77 = some fn77 := by kernel_rfl

/-! slices.Clone[[]uint32,uint32] -/
noncomputable def c78_1 : AC := .reg [] [(2, .cst (AV.slice none 0 0 none))]
theorem r78_1 : RReg c78_1 fun call tm h => some ((tm.up (some (AV.slice none 0 0 none)) 2), h) := rReg (by kernel_rfl)
noncomputable def c78_4 : AC := .reg [⟨none, .p2 (bin2 P .eql 43) (.tmp 0) (.cst (AV.slice none 0 0 none))⟩] [(4, .loc 0)]
theorem r78_4 : RReg c78_4 fun call tm h => match ((match (match tm.gt 0 with | none => none | some a => match bin2 P .eql 43 a (AV.slice none 0 0 none) with | none => none | some y => some (y, h)) with | none => none | some r0 => some ([r0.1], r0.2)) : Option (List AV × Heap)) with | none => none | some (loc, h') => match ((match Opd.get (.loc 0) loc .leaf tm with | none => none | some o0 => some (tm.up (some o0) 4)) : Option (Tr AV)) with | none => none | some tm' => some (tm', h') := rReg (by kernel_rfl)
noncomputable def c78_7 : AC := .reg [] [(2, .cst (AV.slice none 0 0 none))]
theorem r78_7 : RReg c78_7 fun call tm h => some ((tm.up (some (AV.slice none 0 0 none)) 2), h) := rReg (by kernel_rfl)
noncomputable def c78_8 : AC := .ret
theorem r78_8 : RRet c78_8 .ret := rRet
noncomputable def c78_6 : AC := .seq c78_7 c78_8
theorem r78_6 : RSeq c78_6 c78_7 c78_8 := rSeq
noncomputable def c78_9 : AC := .skip
theorem r78_9 : RRet c78_9 .normal := rSkip
noncomputable def c78_5 : AC := .cond (.tmp 4) c78_6 c78_9
theorem r78_5 : RCnd c78_5 4 c78_6 c78_9 := rCnd
noncomputable def c78_3 : AC := .seq c78_4 c78_5
theorem r78_3 : RSeq c78_3 c78_4 c78_5 := rSeq
noncomputable def c78_11 : AC := .reg [⟨none, .al (buildSliceN P 43 0 []) []⟩, ⟨none, .ef (fun vs id h => l2 (fun s x => appendS P 43 s x id h) vs) [.loc 0, .tmp 0]⟩] [(2, .loc 0)]
theorem r78_11 : RReg c78_11 fun call tm h => match ((match (match buildSliceN P 43 0 [] [] with | none => none | some y => some (y.2 h.next, h.new h.next y.1)) with | none => none | some r0 => match (match (match (match tm.gt 0 with | none => none | some a0 => match (some ([] : List AV)) with | none => none | some u0 => some (a0 :: u0)) with | none => none | some u0 => some (r0.1 :: u0)) with | none => none | some us => (fun vs id h => l2 (fun s x => appendS P 43 s x id h) vs) us r0.2.next r0.2) with | none => none | some r1 => some ([r1.1, r0.1], r1.2)) : Option (List AV × Heap)) with | none => none | some (loc, h') => match ((match Opd.get (.loc 0) loc .leaf tm with | none => none | some o0 => some (tm.up (some o0) 2)) : Option (Tr AV)) with | none => none | some tm' => some (tm', h') := rReg (by kernel_rfl)
noncomputable def c78_12 : AC := .ret
theorem r78_12 : RRet c78_12 .ret := rRet
noncomputable def c78_10 : AC := .seq c78_11 c78_12
theorem r78_10 : RSeq c78_10 c78_11 c78_12 := rSeq
noncomputable def c78_2 : AC := .seq c78_3 c78_10
theorem r78_2 : RSeq c78_2 c78_3 c78_10 := rSeq
noncomputable def c78_0 : AC := .seq c78_1 c78_2
theorem r78_0 : RSeq c78_0 c78_1 c78_2 := rSeq
noncomputable def fn78 : FnA := ⟨c78_0, [.tmp 2], 8, true⟩
theorem f78A : fnA P (keepF P) 78 = some fn78 := by kernel_rfl

/-! revert/hash.Bucket -/
noncomputable def c79_1 : AC := .reg [] [(2, .cst (AV.int .u8 0))]
theorem r79_1 : RReg c79_1 fun call tm h => some ((tm.up (some (AV.int .u8 0)) 2), h) := rReg (by kernel_rfl)
noncomputable def c79_3 : AC := .reg [⟨none, .pn (l1 (len1 P 9)) [.tmp 0]⟩] [(3, .loc 0)]
theorem r79_3 : RReg c79_3 fun call tm h => match ((match (match (match tm.gt 0 with | none => none | some a0 => match (some ([] : List AV)) with | none => none | some u0 => some (a0 :: u0)) with | none => none | some us => match l1 (len1 P 9) us with | none => none | some y => some (y, h)) with | none => none | some r0 => some ([r0.1], r0.2)) : Option (List AV × Heap)) with | none => none | some (loc, h') => match ((match Opd.get (.loc 0) loc .leaf tm with | none => none | some o0 => some (tm.up (some o0) 3)) : Option (Tr AV)) with | none => none | some tm' => some (tm', h') := rReg (by kernel_rfl)
noncomputable def c79_6 : AC := .reg [⟨none, .pn (l1 (len1 P 9)) [.tmp 0]⟩] [(9, .cst (AV.int .i64 0)), (8, .loc 0)]
theorem r79_6 : RReg c79_6 fun call tm h => match ((match (match (match tm.gt 0 with | none => none | some a0 => match (some ([] : List AV)) with | none => none | some u0 => some (a0 :: u0)) with | none => none | some us => match l1 (len1 P 9) us with | none => none | some y => some (y, h)) with | none => none | some r0 => some ([r0.1], r0.2)) : Option (List AV × Heap)) with | none => none | some (loc, h') => match ((match Opd.get (.cst (AV.int .i64 0)) loc .leaf tm with | none => none | some o0 => match Opd.get (.loc 0) loc .leaf tm with | none => none | some o1 => some ((tm.up (some o0) 9).up (some o1) 8)) : Option (Tr AV)) with | none => none | some tm' => some (tm', h') := rReg (by kernel_rfl)
noncomputable def c79_10 : AC := .reg [⟨none, .p2 (bin2 P .lss 3) (.tmp 9) (.tmp 8)⟩] [(10, .loc 0)]
theorem r79_10 : RReg c79_10 fun call tm h => match ((match (match tm.gt 9 with | none => none | some a => match tm.gt 8 with | none => none | some b => match bin2 P .lss 3 a b with | none => none | some y => some (y, h)) with | none => none | some r0 => some ([r0.1], r0.2)) : Option (List AV × Heap)) with | none => none | some (loc, h') => match ((match Opd.get (.loc 0) loc .leaf tm with | none => none | some o0 => some (tm.up (some o0) 10)) : Option (Tr AV)) with | none => none | some tm' => some (tm', h') := rReg (by kernel_rfl)
noncomputable def c79_13 : AC := .skip
theorem r79_13 : RRet c79_13 .normal := rSkip
noncomputable def c79_14 : AC := .exit 0
theorem r79_14 : RRet c79_14 (.exit 0) := rExit
noncomputable def c79_12 : AC := .cond (.tmp 10) c79_13 c79_14
theorem r79_12 : RCnd c79_12 10 c79_13 c79_14 := rCnd
noncomputable def c79_18 : AC := .reg [] [(4, .tmp 9)]
theorem r79_18 : RReg c79_18 fun call tm h => match ((match tm.gt 9 with | none => none | some o0 => some (tm.up (some o0) 4)) : Option (Tr AV)) with | none => none | some tm' => some (tm', h) := rReg (by kernel_rfl)
noncomputable def c79_19 : AC := .reg [⟨none, .p2 (index2 P 9) (.tmp 0) (.tmp 4)⟩, ⟨none, .p1 (conv1 P 5 3) (.loc 0)⟩, ⟨none, .p2 (bin2 P .rem 3) (.tmp 4) (.cst (AV.int .i64 7))⟩, ⟨none, .p2 (bin2 P .mul 3) (.loc 0) (.cst (AV.int .i64 2))⟩, ⟨none, .p2 (bin2 P .add 3) (.loc 0) (.cst (AV.int .i64 1))⟩, ⟨none, .p2 (bin2 P .mul 3) (.loc 3) (.loc 0)⟩, ⟨none, .p2 (bin2 P .add 3) (.tmp 3) (.loc 0)⟩] [(3, .loc 0)]
theorem r79_19 : RReg c79_19 fun call tm h => match ((match (match tm.gt 0 with | none => none | some a => match tm.gt 4 with | none => none | some b => match index2 P 9 a b with | none => none | some y => some (y, h)) with | none => none | some r0 => match (match conv1 P 5 3 r0.1 with | none => none | some y => some (y, r0.2)) with | none => none | some r1 => match (match tm.gt 4 with | none => none | some a => match bin2 P .rem 3 a (AV.int .i64 7) with | none => none | some y => some (y, r1.2)) with | none => none | some r2 => match (match bin2 P .mul 3 r2.1 (AV.int .i64 2) with | none => none | some y => some (y, r2.2)) with | none => none | some r3 => match (match bin2 P .add 3 r3.1 (AV.int .i64 1) with | none => none | some y => some (y, r3.2)) with | none => none | some r4 => match (match bin2 P .mul 3 r1.1 r4.1 with | none => none | some y => some (y, r4.2)) with | none => none | some r5 => match (match tm.gt 3 with | none => none | some a => match bin2 P .add 3 a r5.1 with | none => none | some y => some (y, r5.2)) with | none => none | some r6 => some ([r6.1, r5.1, r4.1, r3.1, r2.1, r1.1, r0.1], r6.2)) : Option (List AV × Heap)) with | none => none | some (loc, h') => match ((match Opd.get (.loc 0) loc .leaf tm with | none => none | some o0 => some (tm.up (some o0) 3)) : Option (Tr AV)) with | none => none | some tm' => some (tm', h') := rReg (by kernel_rfl)
noncomputable def c79_17 : AC := .seq c79_18 c79_19
theorem r79_17 : RSeq c79_17 c79_18 c79_19 := rSeq
noncomputable def c79_16 : AC := .block 1 c79_17
theorem r79_16 : RBlk c79_16 1 c79_17 := rBlk
noncomputable def c79_20 : AC := .reg [⟨none, .p2 (bin2 P .add 3) (.tmp 9) (.cst (AV.int .i64 1))⟩] [(9, .loc 0)]
theorem r79_20 : RReg c79_20 fun call tm h => match ((match (match tm.gt 9 with | none => none | some a => match bin2 P .add 3 a (AV.int .i64 1) with | none => none | some y => some (y, h)) with | none => none | some r0 => some ([r0.1], r0.2)) : Option (List AV × Heap)) with | none => none | some (loc, h') => match ((match Opd.get (.loc 0) loc .leaf tm with | none => none | some o0 => some (tm.up (some o0) 9)) : Option (Tr AV)) with | none => none | some tm' => some (tm', h') := rReg (by kernel_rfl)
noncomputable def c79_15 : AC := .seq c79_16 c79_20
theorem r79_15 : RSeq c79_15 c79_16 c79_20 := rSeq
noncomputable def c79_11 : AC := .seq c79_12 c79_15
theorem r79_11 : RSeq c79_11 c79_12 c79_15 := rSeq
noncomputable def c79_9 : AC := .seq c79_10 c79_11
theorem r79_9 : RSeq c79_9 c79_10 c79_11 := rSeq
/- LOOP -/
noncomputable def c79_8 : AC := .loop c79_9
noncomputable def c79_7 : AC := .block 0 c79_8
theorem r79_7 : RBlk c79_7 0 c79_8 := rBlk
noncomputable def c79_5 : AC := .seq c79_6 c79_7
theorem r79_5 : RSeq c79_5 c79_6 c79_7 := rSeq
noncomputable def c79_22 : AC := .reg [⟨none, .p2 (bin2 P .rem 3) (.tmp 3) (.cst (AV.int .i64 16))⟩, ⟨none, .p1 (conv1 P 3 5) (.loc 0)⟩] [(2, .loc 0)]
theorem r79_22 : RReg c79_22 fun call tm h => match ((match (match tm.gt 3 with | none => none | some a => match bin2 P .rem 3 a (AV.int .i64 16) with | none => none | some y => some (y, h)) with | none => none | some r0 => match (match conv1 P 3 5 r0.1 with | none => none | some y => some (y, r0.2)) with | none => none | some r1 => some ([r1.1, r0.1], r1.2)) : Option (List AV × Heap)) with | none => none | some (loc, h') => match ((match Opd.get (.loc 0) loc .leaf tm with | none => none | some o0 => some (tm.up (some o0) 2)) : Option (Tr AV)) with | none => none | some tm' => some (tm', h') := rReg (by kernel_rfl)
noncomputable def c79_23 : AC := .ret
theorem r79_23 : RRet c79_23 .ret := rRet
noncomputable def c79_21 : AC := .seq c79_22 c79_23
theorem r79_21 : RSeq c79_21 c79_22 c79_23 := rSeq
noncomputable def c79_4 : AC := .seq c79_5 c79_21
theorem r79_4 : RSeq c79_4 c79_5 c79_21 := rSeq
noncomputable def c79_2 : AC := .seq c79_3 c79_4
theorem r79_2 : RSeq c79_2 c79_3 c79_4 := rSeq
noncomputable def c79_0 : AC := .seq c79_1 c79_2
theorem r79_0 : RSeq c79_0 c79_1 c79_2 := rSeq
noncomputable def fn79 : FnA := ⟨c79_0, [.tmp 2], 27, true⟩
theorem f79A : fnA P (keepF P) 79 = some fn79 := by kernel_rfl

/-! slices.Index[[]uint32,uint32] -/
noncomputable def c80_1 : AC := .reg [] [(4, .cst (AV.int .i64 0))]
theorem r80_1 : RReg c80_1 fun call tm h => some ((tm.up (some (AV.int .i64 0)) 4), h) := rReg (by kernel_rfl)
noncomputable def c80_4 : AC := .reg [⟨none, .pn (l1 (len1 P 43)) [.tmp 0]⟩] [(8, .cst (AV.int .i64 0)), (7, .loc 0)]
theorem r80_4 : RReg c80_4 fun call tm h => match ((match (match (match tm.gt 0 with | none => none | some a0 => match (some ([] : List AV)) with | none => none | some u0 => some (a0 :: u0)) with | none => none | some us => match l1 (len1 P 43) us with | none => none | some y => some (y, h)) with | none => none | some r0 => some ([r0.1], r0.2)) : Option (List AV × Heap)) with | none => none | some (loc, h') => match ((match Opd.get (.cst (AV.int .i64 0)) loc .leaf tm with | none => none | some o0 => match Opd.get (.loc 0) loc .leaf tm with | none => none | some o1 => some ((tm.up (some o0) 8).up (some o1) 7)) : Option (Tr AV)) with | none => none | some tm' => some (tm', h') := rReg (by kernel_rfl)
noncomputable def c80_8 : AC := .reg [⟨none, .p2 (bin2 P .lss 3) (.tmp 8) (.tmp 7)⟩] [(9, .loc 0)]
theorem r80_8 : RReg c80_8 fun call tm h => match ((match (match tm.gt 8 with | none => none | some a => match tm.gt 7 with | none => none | some b => match bin2 P .lss 3 a b with | none => none | some y => some (y, h)) with | none => none | some r0 => some ([r0.1], r0.2)) : Option (List AV × Heap)) with | none => none | some (loc, h') => match ((match Opd.get (.loc 0) loc .leaf tm with | none => none | some o0 => some (tm.up (some o0) 9)) : Option (Tr AV)) with | none => none | some tm' => some (tm', h') := rReg (by kernel_rfl)
noncomputable def c80_11 : AC := .skip
theorem r80_11 : RRet c80_11 .normal := rSkip
noncomputable def c80_12 : AC := .exit 0
theorem r80_12 : RRet c80_12 (.exit 0) := rExit
noncomputable def c80_10 : AC := .cond (.tmp 9) c80_11 c80_12
theorem r80_10 : RCnd c80_10 9 c80_11 c80_12 := rCnd
noncomputable def c80_16 : AC := .reg [] [(5, .tmp 8)]
theorem r80_16 : RReg c80_16 fun call tm h => match ((match tm.gt 8 with | none => none | some o0 => some (tm.up (some o0) 5)) : Option (Tr AV)) with | none => none | some tm' => some (tm', h) := rReg (by kernel_rfl)
noncomputable def c80_18 : AC := .reg [⟨none, .p2 (indexAddr2 P 43) (.tmp 0) (.tmp 5)⟩, ⟨none, .ld1 (.loc 0)⟩, ⟨none, .p2 (bin2 P .eql 27) (.tmp 1) (.loc 0)⟩] [(16, .loc 0)]
theorem r80_18 : RReg c80_18 fun call tm h => match ((match (match tm.gt 0 with | none => none | some a => match tm.gt 5 with | none => none | some b => match indexAddr2 P 43 a b with | none => none | some y => some (y, h)) with | none => none | some r0 => match (match load1 r0.2 r0.1 with | none => none | some y => some (y, r0.2)) with | none => none | some r1 => match (match tm.gt 1 with | none => none | some a => match bin2 P .eql 27 a r1.1 with | none => none | some y => some (y, r1.2)) with | none => none | some r2 => some ([r2.1, r1.1, r0.1], r2.2)) : Option (List AV × Heap)) with | none => none | some (loc, h') => match ((match Opd.get (.loc 0) loc .leaf tm with | none => none | some o0 => some (tm.up (some o0) 16)) : Option (Tr AV)) with | none => none | some tm' => some (tm', h') := rReg (by kernel_rfl)
noncomputable def c80_21 : AC := .reg [] [(4, .tmp 5)]
theorem r80_21 : RReg c80_21 fun call tm h => match ((match tm.gt 5 with | none => none | some o0 => some (tm.up (some o0) 4)) : Option (Tr AV)) with | none => none | some tm' => some (tm', h) := rReg (by kernel_rfl)
noncomputable def c80_22 : AC := .ret
theorem r80_22 : RRet c80_22 .ret := rRet
noncomputable def c80_20 : AC := .seq c80_21 c80_22
theorem r80_20 : RSeq c80_20 c80_21 c80_22 := rSeq
noncomputable def c80_23 : AC := .skip
theorem r80_23 : RRet c80_23 .normal := rSkip
noncomputable def c80_19 : AC := .cond (.tmp 16) c80_20 c80_23
theorem r80_19 : RCnd c80_19 16 c80_20 c80_23 := rCnd
noncomputable def c80_17 : AC := .seq c80_18 c80_19
theorem r80_17 : RSeq c80_17 c80_18 c80_19 := rSeq
noncomputable def c80_15 : AC := .seq c80_16 c80_17
theorem r80_15 : RSeq c80_15 c80_16 c80_17 := rSeq
noncomputable def c80_14 : AC := .block 1 c80_15
theorem r80_14 : RBlk c80_14 1 c80_15 := rBlk
noncomputable def c80_24 : AC := .reg [⟨none, .p2 (bin2 P .add 3) (.tmp 8) (.cst (AV.int .i64 1))⟩] [(8, .loc 0)]
theorem r80_24 : RReg c80_24 fun call tm h => match ((match (match tm.gt 8 with | none => none | some a => match bin2 P .add 3 a (AV.int .i64 1) with | none => none | some y => some (y, h)) with | none => none | some r0 => some ([r0.1], r0.2)) : Option (List AV × Heap)) with | none => none | some (loc, h') => match ((match Opd.get (.loc 0) loc .leaf tm with | none => none | some o0 => some (tm.up (some o0) 8)) : Option (Tr AV)) with | none => none | some tm' => some (tm', h') := rReg (by kernel_rfl)
noncomputable def c80_13 : AC := .seq c80_14 c80_24
theorem r80_13 : RSeq c80_13 c80_14 c80_24 := rSeq
noncomputable def c80_9 : AC := .seq c80_10 c80_13
theorem r80_9 : RSeq c80_9 c80_10 c80_13 := rSeq
noncomputable def c80_7 : AC := .seq c80_8 c80_9
theorem r80_7 : RSeq c80_7 c80_8 c80_9 := rSeq
/- LOOP -/
noncomputable def c80_6 : AC := .loop c80_7
noncomputable def c80_5 : AC := .block 0 c80_6
theorem r80_5 : RBlk c80_5 0 c80_6 := rBlk
noncomputable def c80_3 : AC := .seq c80_4 c80_5
theorem r80_3 : RSeq c80_3 c80_4 c80_5 := rSeq
noncomputable def c80_26 : AC := .reg [] [(4, .cst (AV.int .i64 (-1)))]
theorem r80_26 : RReg c80_26 fun call tm h => some ((tm.up (some (AV.int .i64 (-1))) 4), h) := rReg (by kernel_rfl)
noncomputable def c80_27 : AC := .ret
theorem r80_27 : RRet c80_27 .ret := rRet
noncomputable def c80_25 : AC := .seq c80_26 c80_27
theorem r80_25 : RSeq c80_25 c80_26 c80_27 := rSeq
noncomputable def c80_2 : AC := .seq c80_3 c80_25
theorem r80_2 : RSeq c80_2 c80_3 c80_25 := rSeq
noncomputable def c80_0 : AC := .seq c80_1 c80_2
theorem r80_0 : RSeq c80_0 c80_1 c80_2 := rSeq
noncomputable def fn80 : FnA := ⟨c80_0, [.tmp 4], 19, true⟩
theorem f80A : fnA P (keepF P) 80 = some fn80 := by kernel_rfl

/-! slices.Delete[[]uint32,uint32] -/
noncomputable def c81_1 : AC := .reg [] [(6, .cst (AV.slice none 0 0 none))]
theorem r81_1 : RReg c81_1 fun call tm h => some ((tm.up (some (AV.slice none 0 0 none)) 6), h) := rReg (by kernel_rfl)
noncomputable def c81_3 : AC := .reg [⟨none, .pn (l1 (len1 P 43)) [.tmp 0]⟩, ⟨none, .pn (sliceN P 43 true true true) [.tmp 0, .tmp 1, .tmp 2, .loc 0]⟩] []
theorem r81_3 : RReg c81_3 fun call tm h => match ((match (match (match tm.gt 0 with | none => none | some a0 => match (some ([] : List AV)) with | none => none | some u0 => some (a0 :: u0)) with | none => none | some us => match l1 (len1 P 43) us with | none => none | some y => some (y, h)) with | none => none | some r0 => match (match (match tm.gt 0 with | none => none | some a0 => match (match tm.gt 1 with | none => none | some a1 => match (match tm.gt 2 with | none => none | some a2 => match (some [r0.1]) with | none => none | some u2 => some (a2 :: u2)) with | none => none | some u1 => some (a1 :: u1)) with | none => none | some u0 => some (a0 :: u0)) with | none => none | some us => match sliceN P 43 true true true us with | none => none | some y => some (y, r0.2)) with | none => none | some r1 => some ([r1.1, r0.1], r1.2)) : Option (List AV × Heap)) with | none => none | some (_, h') => some (tm, h') := rReg (by kernel_rfl)
noncomputable def c81_6 : AC := .reg [⟨none, .p2 (bin2 P .eql 3) (.tmp 1) (.tmp 2)⟩] [(16, .loc 0)]
theorem r81_6 : RReg c81_6 fun call tm h => match ((match (match tm.gt 1 with | none => none | some a => match tm.gt 2 with | none => none | some b => match bin2 P .eql 3 a b with | none => none | some y => some (y, h)) with | none => none | some r0 => some ([r0.1], r0.2)) : Option (List AV × Heap)) with | none => none | some (loc, h') => match ((match Opd.get (.loc 0) loc .leaf tm with | none => none | some o0 => some (tm.up (some o0) 16)) : Option (Tr AV)) with | none => none | some tm' => some (tm', h') := rReg (by kernel_rfl)
noncomputable def c81_9 : AC := .reg [] [(6, .tmp 0)]
theorem r81_9 : RReg c81_9 fun call tm h => match ((match tm.gt 0 with | none => none | some o0 => some (tm.up (some o0) 6)) : Option (Tr AV)) with | none => none | some tm' => some (tm', h) := rReg (by kernel_rfl)
noncomputable def c81_10 : AC := .ret
theorem r81_10 : RRet c81_10 .ret := rRet
noncomputable def c81_8 : AC := .seq c81_9 c81_10
theorem r81_8 : RSeq c81_8 c81_9 c81_10 := rSeq
noncomputable def c81_11 : AC := .skip
theorem r81_11 : RRet c81_11 .normal := rSkip
noncomputable def c81_7 : AC := .cond (.tmp 16) c81_8 c81_11
theorem r81_7 : RCnd c81_7 16 c81_8 c81_11 := rCnd
noncomputable def c81_5 : AC := .seq c81_6 c81_7
theorem r81_5 : RSeq c81_5 c81_6 c81_7 := rSeq
noncomputable def c81_13 : AC := .reg [⟨none, .pn (l1 (len1 P 43)) [.tmp 0]⟩] [(7, .loc 0)]
theorem r81_13 : RReg c81_13 fun call tm h => match ((match (match (match tm.gt 0 with | none => none | some a0 => match (some ([] : List AV)) with | none => none | some u0 => some (a0 :: u0)) with | none => none | some us => match l1 (len1 P 43) us with | none => none | some y => some (y, h)) with | none => none | some r0 => some ([r0.1], r0.2)) : Option (List AV × Heap)) with | none => none | some (loc, h') => match ((match Opd.get (.loc 0) loc .leaf tm with | none => none | some o0 => some (tm.up (some o0) 7)) : Option (Tr AV)) with | none => none | some tm' => some (tm', h') := rReg (by kernel_rfl)
noncomputable def c81_15g : List (Nat × GIns) := [(0, ⟨none, .mv (.tmp 0)⟩), (1, ⟨none, .mv (.tmp 1)⟩), (2, ⟨none, .pn (sliceN P 43 false true false) [.opi 0, .opi 1]⟩), (3, ⟨none, .mv (.tmp 0)⟩), (4, ⟨none, .mv (.tmp 2)⟩), (5, ⟨none, .pn (sliceN P 43 true false false) [.opi 3, .opi 4]⟩), (6, ⟨none, .ef (fun vs id h => l2 (fun s x => appendS P 43 s x id h) vs) [.opi 2, .opi 5]⟩), (7, ⟨none, .mv (.opi 6)⟩)]
noncomputable def c81_15 : AC := .draw 8 (stagesOf #[0, 0, 3, 0, 0, 24, 63, 127] c81_15g [6] 0 (c81_15g.filter fun x => x.2.i.eff)) [(0, 7)]
theorem r81_15 : RReg c81_15 fun call tm h => match (let base := h.next; let vs : Tr AV := .leaf; let h := Heap.mk h.bs (h.next + 8); ((match ((match (match (match tm.gt 0 with | none => none | some a => some (a, h)) with | none => none | some y => some y.1) with | none => none | some v => let vs := vs.up (some v) 0; match (match (match tm.gt 1 with | none => none | some a => some (a, h)) with | none => none | some y => some y.1) with | none => none | some v => let vs := vs.up (some v) 1; match (match (match (match vs.gt 0 with | none => none | some a0 => match (match vs.gt 1 with | none => none | some a1 => match (some ([] : List AV)) with | none => none | some u1 => some (a1 :: u1)) with | none => none | some u0 => some (a0 :: u0)) with | none => none | some us => match sliceN P 43 false true false us with | none => none | some y => some (y, h)) with | none => none | some y => some y.1) with | none => none | some v => let vs := vs.up (some v) 2; match (match (match tm.gt 0 with | none => none | some a => some (a, h)) with | none => none | some y => some y.1) with | none => none | some v => let vs := vs.up (some v) 3; match (match (match tm.gt 2 with | none => none | some a => some (a, h)) with | none => none | some y => some y.1) with | none => none | some v => let vs := vs.up (some v) 4; match (match (match (match vs.gt 3 with | none => none | some a0 => match (match vs.gt 4 with | none => none | some a1 => match (some ([] : List AV)) with | none => none | some u1 => some (a1 :: u1)) with | none => none | some u0 => some (a0 :: u0)) with | none => none | some us => match sliceN P 43 true false false us with | none => none | some y => some (y, h)) with | none => none | some y => some y.1) with | none => none | some v => let vs := vs.up (some v) 5; some vs) : Option (Tr AV)) with | none => none | some vs => match (match (match vs.gt 2 with | none => none | some a0 => match (match vs.gt 5 with | none => none | some a1 => match (some ([] : List AV)) with | none => none | some u1 => some (a1 :: u1)) with | none => none | some u0 => some (a0 :: u0)) with | none => none | some us => (fun vs id h => l2 (fun s x => appendS P 43 s x id h) vs) us h.next h) with | none => none | some r => let vs := vs.up (some r.1) 6; let h := r.2; match ((match (match (match vs.gt 6 with | none => none | some a => some (a, h)) with | none => none | some y => some y.1) with | none => none | some v => let vs := vs.up (some v) 7; some vs) : Option (Tr AV)) with | none => none | some vs => some (vs, h)) : Option (Tr AV × Heap))) with | none => none | some (vs, h') => match ((match vs.gt 7 with | none => none | some o0 => some (tm.up (some o0) 0)) : Option (Tr AV)) with | none => none | some tm' => some (tm', h') := rDrw (by kernel_rfl)
noncomputable def c81_17 : AC := .reg [⟨none, .pn (l1 (len1 P 43)) [.tmp 0]⟩, ⟨none, .pn (sliceN P 43 true true false) [.tmp 0, .loc 0, .tmp 7]⟩, ⟨none, .ef (fun vs _ h => l1 (fun d => clearS P 43 d h) vs) [.loc 0]⟩] []
theorem r81_17 : RReg c81_17 fun call tm h => match ((match (match (match tm.gt 0 with | none => none | some a0 => match (some ([] : List AV)) with | none => none | some u0 => some (a0 :: u0)) with | none => none | some us => match l1 (len1 P 43) us with | none => none | some y => some (y, h)) with | none => none | some r0 => match (match (match tm.gt 0 with | none => none | some a0 => match (match (match tm.gt 7 with | none => none | some a1 => match (some ([] : List AV)) with | none => none | some u1 => some (a1 :: u1)) with | none => none | some u1 => some (r0.1 :: u1)) with | none => none | some u0 => some (a0 :: u0)) with | none => none | some us => match sliceN P 43 true true false us with | none => none | some y => some (y, r0.2)) with | none => none | some r1 => match ((fun vs _ h => l1 (fun d => clearS P 43 d h) vs) [r1.1] r1.2.next r1.2) with | none => none | some r2 => some ([r2.1, r1.1, r0.1], r2.2)) : Option (List AV × Heap)) with | none => none | some (_, h') => some (tm, h') := rReg (by kernel_rfl)
noncomputable def c81_19 : AC := .reg [] [(6, .tmp 0)]
theorem r81_19 : RReg c81_19 fun call tm h => match ((match tm.gt 0 with | none => none | some o0 => some (tm.up (some o0) 6)) : Option (Tr AV)) with | none => none | some tm' => some (tm', h) := rReg (by kernel_rfl)
noncomputable def c81_20 : AC := .ret
theorem r81_20 : RRet c81_20 .ret := rRet
noncomputable def c81_18 : AC := .seq c81_19 c81_20
theorem r81_18 : RSeq c81_18 c81_19 c81_20 := rSeq
noncomputable def c81_16 : AC := .seq c81_17 c81_18
theorem r81_16 : RSeq c81_16 c81_17 c81_18 := rSeq
noncomputable def c81_14 : AC := .seq c81_15 c81_16
theorem r81_14 : RSeq c81_14 c81_15 c81_16 := rSeq
noncomputable def c81_12 : AC := .seq c81_13 c81_14
theorem r81_12 : RSeq c81_12 c81_13 c81_14 := rSeq
noncomputable def c81_4 : AC := .seq c81_5 c81_12
theorem r81_4 : RSeq c81_4 c81_5 c81_12 := rSeq
noncomputable def c81_2 : AC := .seq c81_3 c81_4
theorem r81_2 : RSeq c81_2 c81_3 c81_4 := rSeq
noncomputable def c81_0 : AC := .seq c81_1 c81_2
theorem r81_0 : RSeq c81_0 c81_1 c81_2 := rSeq
noncomputable def fn81 : FnA := ⟨c81_0, [.tmp 6], 33, true⟩
theorem f81A : fnA P (keepF P) 81 = some fn81 := by kernel_rfl

/-! (*revert/hash.Index).Add -/
noncomputable def c82_1 : AC := .reg [] [(6, .cst (AV.int .i64 0))]
theorem r82_1 : RReg c82_1 fun call tm h => some ((tm.up (some (AV.int .i64 0)) 6), h) := rReg (by kernel_rfl)
noncomputable def c82_4 : AC := .reg [⟨none, .cl (.cst (AV.func (Fn.func 77) [] [])) [.tmp 0]⟩, ⟨none, .p1 (un1 .not) (.loc 0)⟩] [(10, .loc 0)]
theorem r82_4 : RReg c82_4 fun call tm h => match ((match (match (match tm.gt 0 with | none => none | some a0 => match (some ([] : List AV)) with | none => none | some u0 => some (a0 :: u0)) with | none => none | some us => call (.fn 77) (app' [] (app' us [])) h) with | none => none | some r0 => match (match un1 .not r0.1 with | none => none | some y => some (y, r0.2)) with | none => none | some r1 => some ([r1.1, r0.1], r1.2)) : Option (List AV × Heap)) with | none => none | some (loc, h') => match ((match Opd.get (.loc 0) loc .leaf tm with | none => none | some o0 => some (tm.up (some o0) 10)) : Option (Tr AV)) with | none => none | some tm' => some (tm', h') := rReg (by kernel_rfl)
noncomputable def c82_7 : AC := .reg [] [(6, .cst (AV.int .i64 1))]
theorem r82_7 : RReg c82_7 fun call tm h => some ((tm.up (some (AV.int .i64 1)) 6), h) := rReg (by kernel_rfl)
noncomputable def c82_8 : AC := .ret
theorem r82_8 : RRet c82_8 .ret := rRet
noncomputable def c82_6 : AC := .seq c82_7 c82_8
theorem r82_6 : RSeq c82_6 c82_7 c82_8 := rSeq
noncomputable def c82_9 : AC := .skip
theorem r82_9 : RRet c82_9 .normal := rSkip
noncomputable def c82_5 : AC := .cond (.tmp 10) c82_6 c82_9
theorem r82_5 : RCnd c82_5 10 c82_6 c82_9 := rCnd
noncomputable def c82_3 : AC := .seq c82_4 c82_5
theorem r82_3 : RSeq c82_3 c82_4 c82_5 := rSeq
noncomputable def c82_11g : List (Nat × GIns) := [(0, ⟨none, .mv (.tmp 0)⟩), (1, ⟨none, .mv (.tmp 1)⟩), (2, ⟨none, .cl (.cst (AV.func (Fn.func 79) [] [])) [.opi 1]⟩), (3, ⟨none, .p1 (notNil) (.opi 0)⟩), (4, ⟨none, .p1 (fieldAddr1 P 135 1) (.opi 3)⟩), (5, ⟨none, .p2 (indexAddr2 P 133) (.opi 4) (.opi 2)⟩), (6, ⟨none, .mv (.opi 5)⟩)]
noncomputable def c82_11 : AC := .draw 7 (stagesOf #[0, 0, 2, 1, 9, 31, 63] c82_11g [2] 0 (c82_11g.filter fun x => x.2.i.eff)) [(7, 6)]
theorem r82_11 : RReg c82_11 fun call tm h => match (let base := h.next; let vs : Tr AV := .leaf; let h := Heap.mk h.bs (h.next + 7); ((match ((match (match (match tm.gt 0 with | none => none | some a => some (a, h)) with | none => none | some y => some y.1) with | none => none | some v => let vs := vs.up (some v) 0; match (match (match tm.gt 1 with | none => none | some a => some (a, h)) with | none => none | some y => some y.1) with | none => none | some v => let vs := vs.up (some v) 1; match (match (match vs.gt 0 with | none => none | some a => match notNil a with | none => none | some y => some (y, h)) with | none => none | some y => some y.1) with | none => none | some v => let vs := vs.up (some v) 3; match (match (match vs.gt 3 with | none => none | some a => match fieldAddr1 P 135 1 a with | none => none | some y => some (y, h)) with | none => none | some y => some y.1) with | none => none | some v => let vs := vs.up (some v) 4; some vs) : Option (Tr AV)) with | none => none | some vs => match (match (match vs.gt 1 with | none => none | some a0 => match (some ([] : List AV)) with | none => none | some u0 => some (a0 :: u0)) with | none => none | some us => call (.fn 79) (app' [] (app' us [])) h) with | none => none | some r => let vs := vs.up (some r.1) 2; let h := r.2; match ((match (match (match vs.gt 4 with | none => none | some a => match vs.gt 2 with | none => none | some b => match indexAddr2 P 133 a b with | none => none | some y => some (y, h)) with | none => none | some y => some y.1) with | none => none | some v => let vs := vs.up (some v) 5; match (match (match vs.gt 5 with | none => none | some a => some (a, h)) with | none => none | some y => some y.1) with | none => none | some v => let vs := vs.up (some v) 6; some vs) : Option (Tr AV)) with | none => none | some vs => some (vs, h)) : Option (Tr AV × Heap))) with | none => none | some (vs, h') => match ((match vs.gt 6 with | none => none | some o0 => some (tm.up (some o0) 7)) : Option (Tr AV)) with | none => none | some tm' => some (tm', h') := rDrw (by kernel_rfl)
noncomputable def c82_14 : AC := .reg [⟨none, .p1 (notNil) (.tmp 7)⟩, ⟨none, .ld1 (.loc 0)⟩, ⟨none, .cl (.cst (AV.func (Fn.func 96) [] [])) [.loc 0, .tmp 2]⟩] [(21, .loc 0)]
theorem r82_14 : RReg c82_14 fun call tm h => match ((match (match tm.gt 7 with | none => none | some a => match notNil a with | none => none | some y => some (y, h)) with | none => none | some r0 => match (match load1 r0.2 r0.1 with | none => none | some y => some (y, r0.2)) with | none => none | some r1 => match (match (match (match tm.gt 2 with | none => none | some a0 => match (some ([] : List AV)) with | none => none | some u0 => some (a0 :: u0)) with | none => none | some u0 => some (r1.1 :: u0)) with | none => none | some us => call (.fn 96) (app' [] (app' us [])) r1.2) with | none => none | some r2 => some ([r2.1, r1.1, r0.1], r2.2)) : Option (List AV × Heap)) with | none => none | some (loc, h') => match ((match Opd.get (.loc 0) loc .leaf tm with | none => none | some o0 => some (tm.up (some o0) 21)) : Option (Tr AV)) with | none => none | some tm' => some (tm', h') := rReg (by kernel_rfl)
noncomputable def c82_17 : AC := .reg [] [(6, .cst (AV.int .i64 6))]
theorem r82_17 : RReg c82_17 fun call tm h => some ((tm.up (some (AV.int .i64 6)) 6), h) := rReg (by kernel_rfl)
noncomputable def c82_18 : AC := .ret
theorem r82_18 : RRet c82_18 .ret := rRet
noncomputable def c82_16 : AC := .seq c82_17 c82_18
theorem r82_16 : RSeq c82_16 c82_17 c82_18 := rSeq
noncomputable def c82_19 : AC := .skip
theorem r82_19 : RRet c82_19 .normal := rSkip
noncomputable def c82_15 : AC := .cond (.tmp 21) c82_16 c82_19
theorem r82_15 : RCnd c82_15 21 c82_16 c82_19 := rCnd
noncomputable def c82_13 : AC := .seq c82_14 c82_15
theorem r82_13 : RSeq c82_13 c82_14 c82_15 := rSeq
noncomputable def c82_21 : AC := .reg [⟨none, .p1 (notNil) (.tmp 7)⟩, ⟨none, .ld1 (.loc 0)⟩, ⟨none, .al (buildSliceN P 43 1 [0]) [.tmp 2]⟩, ⟨none, .ef (fun vs id h => l2 (fun s x => appendS P 43 s x id h) vs) [.loc 1, .loc 0]⟩, ⟨none, .p1 (notNil) (.tmp 7)⟩, ⟨none, .st1 (.loc 0) (.loc 1)⟩] []
theorem r82_21 : RReg c82_21 fun call tm h => match ((match (match tm.gt 7 with | none => none | some a => match notNil a with | none => none | some y => some (y, h)) with | none => none | some r0 => match (match load1 r0.2 r0.1 with | none => none | some y => some (y, r0.2)) with | none => none | some r1 => match (match (match tm.gt 2 with | none => none | some a0 => match (some ([] : List AV)) with | none => none | some u0 => some (a0 :: u0)) with | none => none | some us => match buildSliceN P 43 1 [0] us with | none => none | some y => some (y.2 r1.2.next, r1.2.new r1.2.next y.1)) with | none => none | some r2 => match ((fun vs id h => l2 (fun s x => appendS P 43 s x id h) vs) [r1.1, r2.1] r2.2.next r2.2) with | none => none | some r3 => match (match tm.gt 7 with | none => none | some a => match notNil a with | none => none | some y => some (y, r3.2)) with | none => none | some r4 => match (store1 r4.2 r4.1 r3.1) with | none => none | some r5 => some ([r5.1, r4.1, r3.1, r2.1, r1.1, r0.1], r5.2)) : Option (List AV × Heap)) with | none => none | some (_, h') => some (tm, h') := rReg (by kernel_rfl)
noncomputable def c82_23 : AC := .reg [] [(6, .cst (AV.int .i64 0))]
theorem r82_23 : RReg c82_23 fun call tm h => some ((tm.up (some (AV.int .i64 0)) 6), h) := rReg (by kernel_rfl)
noncomputable def c82_24 : AC := .ret
theorem r82_24 : RRet c82_24 .ret := rRet
noncomputable def c82_22 : AC := .seq c82_23 c82_24
theorem r82_22 : RSeq c82_22 c82_23 c82_24 := rSeq
noncomputable def c82_20 : AC := .seq c82_21 c82_22
theorem r82_20 : RSeq c82_20 c82_21 c82_22 := rSeq
noncomputable def c82_12 : AC := .seq c82_13 c82_20
theorem r82_12 : RSeq c82_12 c82_13 c82_20 := rSeq
noncomputable def c82_10 : AC := .seq c82_11 c82_12
theorem r82_10 : RSeq c82_10 c82_11 c82_12 := rSeq
noncomputable def c82_2 : AC := .seq c82_3 c82_10
theorem r82_2 : RSeq c82_2 c82_3 c82_10 := rSeq
noncomputable def c82_0 : AC := .seq c82_1 c82_2
theorem r82_0 : RSeq c82_0 c82_1 c82_2 := rSeq
noncomputable def fn82 : FnA := ⟨c82_0, [.tmp 6], 30, true⟩
theorem f82A : fnA P (keepF P) 82 = some fn82 := by kernel_rfl

/-! slices.Contains[[]uint32,uint32] -/
noncomputable def c96_1 : AC := .reg [] [(4, .cst (AV.bool false))]
theorem r96_1 : RReg c96_1 fun call tm h => some ((tm.up (some (AV.bool false)) 4), h) := rReg (by kernel_rfl)
noncomputable def c96_3 : AC := .reg [⟨none, .cl (.cst (AV.func (Fn.func 80) [] [])) [.tmp 0, .tmp 1]⟩, ⟨none, .p2 (bin2 P .geq 3) (.loc 0) (.cst (AV.int .i64 0))⟩] [(4, .loc 0)]
theorem r96_3 : RReg c96_3 fun call tm h => match ((match (match (match tm.gt 0 with | none => none | some a0 => match (match tm.gt 1 with | none => none | some a1 => match (some ([] : List AV)) with | none => none | some u1 => some (a1 :: u1)) with | none => none | some u0 => some (a0 :: u0)) with | none => none | some us => call (.fn 80) (app' [] (app' us [])) h) with | none => none | some r0 => match (match bin2 P .geq 3 r0.1 (AV.int .i64 0) with | none => none | some y => some (y, r0.2)) with | none => none | some r1 => some ([r1.1, r0.1], r1.2)) : Option (List AV × Heap)) with | none => none | some (loc, h') => match ((match Opd.get (.loc 0) loc .leaf tm with | none => none | some o0 => some (tm.up (some o0) 4)) : Option (Tr AV)) with | none => none | some tm' => some (tm', h') := rReg (by kernel_rfl)
noncomputable def c96_4 : AC := .ret
theorem r96_4 : RRet c96_4 .ret := rRet
noncomputable def c96_2 : AC := .seq c96_3 c96_4
theorem r96_2 : RSeq c96_2 c96_3 c96_4 := rSeq
noncomputable def c96_0 : AC := .seq c96_1 c96_2
theorem r96_0 : RSeq c96_0 c96_1 c96_2 := rSeq
noncomputable def fn96 : FnA := ⟨c96_0, [.tmp 4], 9, true⟩
theorem f96A : fnA P (keepF P) 96 = some fn96 := by kernel_rfl

theorem x_len_22 (a : Option (Nat × Nat)) (n c : Nat) (g : Option Nat) : len1 P 22 (.slice a n c g) = some (.int .i64 n) := len_slice (e := 9) (by kernel_rfl) a n c g
theorem u_9 : P.underlying 9 = some .string := by kernel_rfl
theorem s_9 : tSize P 9 = some 1 := by kernel_rfl
theorem b_9 : tBytes P 9 = some 16 := by kernel_rfl
theorem z_9 : tZero P 9 = some (AV.str []) := by kernel_rfl
theorem x_ia_22 {k : IntKind} {b o n c i : Nat} {g : Option Nat} (hi : i < n) : indexAddr2 P 22 (.slice (some (b, o)) n c g) (.int k (i : Int)) = some (.ptr (some (b, o + i * 1))) := ia_slice (e := 9) (by kernel_rfl) (by kernel_rfl) hi
theorem x_len_9 (l : List Nat) : len1 P 9 (.str l) = some (.int .i64 l.length) := len_str (by kernel_rfl) l
theorem x_sl_9_100 {k : IntKind} {l : List Nat} {lo : Nat} (h : lo ≤ l.length) : sliceN P 9 true false false [.str l, .int k (lo : Int)] = some (.str (l.drop lo)) := sl_str100 (by kernel_rfl) h
theorem s_32 : tSize P 32 = some 4 := by kernel_rfl
theorem b_32 : tBytes P 32 = some 40 := by kernel_rfl
theorem z_32 : tZero P 32 = some (AV.agg [(AV.str []), (AV.int .u32 0), (AV.int .i64 0), (AV.int .i64 0)]) := by kernel_rfl
theorem x_ia_26 {k : IntKind} {b o n c i : Nat} {g : Option Nat} (hi : i < n) : indexAddr2 P 26 (.slice (some (b, o)) n c g) (.int k (i : Int)) = some (.ptr (some (b, o + i * 4))) := ia_slice (e := 32) (by kernel_rfl) (by kernel_rfl) hi
theorem x_fa_32_3 (b o : Nat) : fieldAddr1 P 32 3 (.ptr (some (b, o))) = some (.ptr (some (b, o + 3))) := by kernel_rfl
theorem u_3 : P.underlying 3 = some (.int .i64) := by kernel_rfl
theorem s_3 : tSize P 3 = some 1 := by kernel_rfl
theorem b_3 : tBytes P 3 = some 8 := by kernel_rfl
theorem z_3 : tZero P 3 = some (AV.int .i64 0) := by kernel_rfl
theorem x_ne_4 (x y : Bool) : bin2 P .neq 4 (.bool x) (.bool y) = some (.bool (!(x == y))) := b_neqB (by kernel_rfl)
theorem x_ix_9 {k : IntKind} (l : List Nat) (i : Nat) : index2 P 9 (.str l) (.int k (i : Int)) = l[i]?.map fun c => .int .u8 (c : Int) := ix_str (by kernel_rfl) l i
theorem x_bd_32_0 (s0 : List Nat) : buildN P 32 [0] [(AV.str s0)] = some (.agg [(AV.str s0), (AV.int .u32 0), (AV.int .i64 0), (AV.int .i64 0)]) := by kernel_rfl
theorem x_bs_26_1 (s0 : List Nat) (n1 : Int) (n2 : Int) (n3 : Int) : buildSliceN P 26 1 [0] [(AV.agg [AV.str s0, AV.int .u32 n1, AV.int .i64 n2, AV.int .i64 n3])] = some (.cells (fillC [AV.str s0, AV.int .u32 n1, AV.int .i64 n2, AV.int .i64 n3] .leaf 0) [] 4 false, sliceTo 1) := by kernel_rfl
theorem u_26 : P.underlying 26 = some (.slice 32) := by kernel_rfl
theorem s_26 : tSize P 26 = some 1 := by kernel_rfl
theorem b_26 : tBytes P 26 = some 24 := by kernel_rfl
theorem z_26 : tZero P 26 = some (AV.slice none 0 0 none) := by kernel_rfl
theorem x_len_26 (a : Option (Nat × Nat)) (n c : Nat) (g : Option Nat) : len1 P 26 (.slice a n c g) = some (.int .i64 n) := len_slice (e := 32) (by kernel_rfl) a n c g
theorem x_bd_32_0_1_2_3 (s0 : List Nat) (n1 : Int) (n2 : Int) (n3 : Int) : buildN P 32 [0, 1, 2, 3] [(AV.str s0), (AV.int .u32 n1), (AV.int .i64 n2), (AV.int .i64 n3)] = some (.agg [(AV.str s0), (AV.int .u32 n1), (AV.int .i64 n2), (AV.int .i64 n3)]) := by kernel_rfl
theorem x_mm_84 : makeMap1 P 84 true = some (.map [] 0, mapTo) := mm_map (kt := 27) (e := 91) (by kernel_rfl)
theorem x_bd_87_0_1_2 (m0 : Option Nat) (p1 : Option (Nat × Nat)) (n2 : Int) : buildN P 87 [0, 1, 2] [(AV.map m0), (AV.ptr p1), (AV.int .u32 n2)] = some (.agg [(AV.map m0), (AV.ptr p1), (AV.int .u32 n2)]) := by kernel_rfl
theorem x_fa_32_0 (b o : Nat) : fieldAddr1 P 32 0 (.ptr (some (b, o))) = some (.ptr (some (b, o + 0))) := by kernel_rfl
theorem x_fa_87_1 (b o : Nat) : fieldAddr1 P 87 1 (.ptr (some (b, o))) = some (.ptr (some (b, o + 1))) := by kernel_rfl
theorem u_85 : P.underlying 85 = some (.pointer 135) := by kernel_rfl
theorem s_85 : tSize P 85 = some 1 := by kernel_rfl
theorem b_85 : tBytes P 85 = some 8 := by kernel_rfl
theorem z_85 : tZero P 85 = some (AV.ptr none) := by kernel_rfl
theorem x_len_43 (a : Option (Nat × Nat)) (n c : Nat) (g : Option Nat) : len1 P 43 (.slice a n c g) = some (.int .i64 n) := len_slice (e := 27) (by kernel_rfl) a n c g
theorem u_27 : P.underlying 27 = some (.int .u32) := by kernel_rfl
theorem s_27 : tSize P 27 = some 1 := by kernel_rfl
theorem b_27 : tBytes P 27 = some 4 := by kernel_rfl
theorem z_27 : tZero P 27 = some (AV.int .u32 0) := by kernel_rfl
theorem x_ia_43 {k : IntKind} {b o n c i : Nat} {g : Option Nat} (hi : i < n) : indexAddr2 P 43 (.slice (some (b, o)) n c g) (.int k (i : Int)) = some (.ptr (some (b, o + i * 1))) := ia_slice (e := 27) (by kernel_rfl) (by kernel_rfl) hi
theorem x_fa_87_0 (b o : Nat) : fieldAddr1 P 87 0 (.ptr (some (b, o))) = some (.ptr (some (b, o + 0))) := by kernel_rfl
theorem u_84 : P.underlying 84 = some (.map 27 91) := by kernel_rfl
theorem s_84 : tSize P 84 = some 1 := by kernel_rfl
theorem b_84 : tBytes P 84 = some 8 := by kernel_rfl
theorem z_84 : tZero P 84 = some (AV.map none) := by kernel_rfl
theorem x_lk_84_false {h : Heap} {b c : Nat} {es : List MEnt} (hb : h.bs.gt b = some (.map es c)) (ha : AllInt .u32 es) (n : Int) : lookup2 P 84 false (.map (some b)) (.int .u32 n) h = some (match es.find? (kInt .u32 n) with | some x => okPair false x.val true | none => okPair false (AV.agg [(AV.str []), (AV.int .i64 0), (AV.int .i64 0)]) false) := lk_int (kt := 27) (e := 91) (by kernel_rfl) (by kernel_rfl) (by kernel_rfl) hb ha n
theorem x_fd_91_0 (v0 v1 v2 : AV) : field1 P 91 0 (.agg [v0, v1, v2]) = some v0 := by kernel_rfl
theorem x_al_91 : allocN P 91 = some (.cells (fillC [(AV.str []), (AV.int .i64 0), (AV.int .i64 0)] .leaf 0) (tyMark 91 true) 3 false, ptrTo) := by kernel_rfl
theorem s_91 : tSize P 91 = some 3 := by kernel_rfl
theorem b_91 : tBytes P 91 = some 32 := by kernel_rfl
theorem z_91 : tZero P 91 = some (AV.agg [(AV.str []), (AV.int .i64 0), (AV.int .i64 0)]) := by kernel_rfl
theorem x_fa_91_2 (b o : Nat) : fieldAddr1 P 91 2 (.ptr (some (b, o))) = some (.ptr (some (b, o + 2))) := by kernel_rfl
theorem x_mu_84 {h : Heap} {b c : Nat} {es : List MEnt} (hb : h.bs.gt b = some (.map es c)) (ha : AllInt .u32 es) (n : Int) (v : AV) : mapUpd P 84 (.map (some b)) (.int .u32 n) v h = some (undefA, h.put b (.map (putE .u32 n v c es) (if es.any (kInt .u32 n) then c else c + 1))) := mu_int (kt := 27) (e := 91) (by kernel_rfl) (by kernel_rfl) hb ha n v
theorem x_md_84 {h : Heap} {b c : Nat} {es : List MEnt} (hb : h.bs.gt b = some (.map es c)) (ha : AllInt .u32 es) (n : Int) : mapDel P 84 (.map (some b)) (.int .u32 n) h = some (undefA, h.put b (.map (cutE .u32 n es) c)) := md_int (kt := 27) (e := 91) (by kernel_rfl) (by kernel_rfl) hb ha n
theorem x_fa_91_0 (b o : Nat) : fieldAddr1 P 91 0 (.ptr (some (b, o))) = some (.ptr (some (b, o + 0))) := by kernel_rfl
theorem x_fa_87_2 (b o : Nat) : fieldAddr1 P 87 2 (.ptr (some (b, o))) = some (.ptr (some (b, o + 2))) := by kernel_rfl
theorem x_bd_91_0_1_2 (s0 : List Nat) (n1 : Int) (n2 : Int) : buildN P 91 [0, 1, 2] [(AV.str s0), (AV.int .i64 n1), (AV.int .i64 n2)] = some (.agg [(AV.str s0), (AV.int .i64 n1), (AV.int .i64 n2)]) := by kernel_rfl
theorem x_fa_32_1 (b o : Nat) : fieldAddr1 P 32 1 (.ptr (some (b, o))) = some (.ptr (some (b, o + 1))) := by kernel_rfl
theorem x_fa_32_2 (b o : Nat) : fieldAddr1 P 32 2 (.ptr (some (b, o))) = some (.ptr (some (b, o + 2))) := by kernel_rfl
theorem x_fa_91_1 (b o : Nat) : fieldAddr1 P 91 1 (.ptr (some (b, o))) = some (.ptr (some (b, o + 1))) := by kernel_rfl
theorem x_eq_4 (x y : Bool) : bin2 P .eql 4 (.bool x) (.bool y) = some (.bool (x == y)) := b_eqlB (by kernel_rfl)
theorem x_bd_135_0 (b0 : Bool) : buildN P 135 [0] [(AV.bool b0)] = some (.agg [(AV.bool b0), (AV.slice none 0 0 none), (AV.slice none 0 0 none), (AV.slice none 0 0 none), (AV.slice none 0 0 none), (AV.slice none 0 0 none), (AV.slice none 0 0 none), (AV.slice none 0 0 none), (AV.slice none 0 0 none), (AV.slice none 0 0 none), (AV.slice none 0 0 none), (AV.slice none 0 0 none), (AV.slice none 0 0 none), (AV.slice none 0 0 none), (AV.slice none 0 0 none), (AV.slice none 0 0 none), (AV.slice none 0 0 none)]) := by kernel_rfl
theorem x_ne_24 (x : Option (Nat × Nat)) : bin2 P .neq 24 (.ptr x) (.ptr none) = some (.bool x.isSome) := b_neqP (e := 87) (by kernel_rfl)
theorem x_ne_84 (x : Option Nat) : bin2 P .neq 84 (.map x) (.map none) = some (.bool x.isSome) := b_neqM (e := 27) (f := 91) (by kernel_rfl)
theorem x_fa_135_1 (b o : Nat) : fieldAddr1 P 135 1 (.ptr (some (b, o))) = some (.ptr (some (b, o + 1))) := by kernel_rfl
theorem x_ia_133 {k : IntKind} {b o i : Nat} (hi : i < 16) : indexAddr2 P 133 (.ptr (some (b, o))) (.int k (i : Int)) = some (.ptr (some (b, o + i * 1))) := ia_arr (e := 43) (by kernel_rfl) (by kernel_rfl) hi
theorem u_43 : P.underlying 43 = some (.slice 27) := by kernel_rfl
theorem s_43 : tSize P 43 = some 1 := by kernel_rfl
theorem b_43 : tBytes P 43 = some 24 := by kernel_rfl
theorem z_43 : tZero P 43 = some (AV.slice none 0 0 none) := by kernel_rfl
theorem x_bd_91_  : buildN P 91 [] [] = some (.agg [(AV.str []), (AV.int .i64 0), (AV.int .i64 0)]) := by kernel_rfl
theorem x_lk_84_true {h : Heap} {b c : Nat} {es : List MEnt} (hb : h.bs.gt b = some (.map es c)) (ha : AllInt .u32 es) (n : Int) : lookup2 P 84 true (.map (some b)) (.int .u32 n) h = some (match es.find? (kInt .u32 n) with | some x => okPair true x.val true | none => okPair true (AV.agg [(AV.str []), (AV.int .i64 0), (AV.int .i64 0)]) false) := lk_int (kt := 27) (e := 91) (by kernel_rfl) (by kernel_rfl) (by kernel_rfl) hb ha n
theorem x_ne_85 (x : Option (Nat × Nat)) : bin2 P .neq 85 (.ptr x) (.ptr none) = some (.bool x.isSome) := b_neqP (e := 135) (by kernel_rfl)
theorem x_fa_135_0 (b o : Nat) : fieldAddr1 P 135 0 (.ptr (some (b, o))) = some (.ptr (some (b, o + 0))) := by kernel_rfl
theorem u_4 : P.underlying 4 = some .bool := by kernel_rfl
theorem s_4 : tSize P 4 = some 1 := by kernel_rfl
theorem b_4 : tBytes P 4 = some 1 := by kernel_rfl
theorem z_4 : tZero P 4 = some (AV.bool false) := by kernel_rfl
theorem x_eq_43 (x : Option (Nat × Nat)) (n c : Nat) (g : Option Nat) : bin2 P .eql 43 (.slice x n c g) (.slice none 0 0 none) = some (.bool x.isNone) := b_eqlL (e := 27) (by kernel_rfl)
theorem x_bs_43_0  : buildSliceN P 43 0 [] [] = some (.cells (fillC [] .leaf 0) [] 0 false, sliceTo 0) := by kernel_rfl
theorem x_cv_5_3 (k : IntKind) (n : Int) : conv1 P 5 3 (.int k n) = some (.int .i64 (IntKind.wrap .i64 n)) := cv_int (d := (.int .u8)) (by kernel_rfl) (by kernel_rfl) k n
theorem x_cv_3_5 (k : IntKind) (n : Int) : conv1 P 3 5 (.int k n) = some (.int .u8 (IntKind.wrap .u8 n)) := cv_int (d := (.int .i64)) (by kernel_rfl) (by kernel_rfl) k n
theorem x_sl_43_111 {a : Option (Nat × Nat)} {n c lo hi mx : Nat} {g : Option Nat} {k k' k'' : IntKind} (h : mx ≤ c) (h' : hi ≤ mx) (h'' : lo ≤ hi) : sliceN P 43 true true true [.slice a n c g, .int k (lo : Int), .int k' (hi : Int), .int k'' (mx : Int)] = some (.slice (a.map fun p => (p.1, p.2 + lo * 1)) (hi - lo) (mx - lo) none) := sl_111 (e := 27) (by kernel_rfl) (by kernel_rfl) h h' h''
theorem x_sl_43_010 {a : Option (Nat × Nat)} {n c hi : Nat} {g : Option Nat} {k : IntKind} (hg : gOk g 1 = true) (h : hi ≤ c) : sliceN P 43 false true false [.slice a n c g, .int k (hi : Int)] = some (.slice (a.map fun p => (p.1, p.2 + 0 * 1)) (hi - 0) (c - 0) g) := sl_010 (e := 27) (by kernel_rfl) (by kernel_rfl) hg h
theorem x_sl_43_100 {a : Option (Nat × Nat)} {n c lo : Nat} {g : Option Nat} {k : IntKind} (hg : gOk g 1 = true) (h : lo ≤ n) : sliceN P 43 true false false [.slice a n c g, .int k (lo : Int)] = some (.slice (a.map fun p => (p.1, p.2 + lo * 1)) (n - lo) (c - lo) g) := sl_100 (e := 27) (by kernel_rfl) (by kernel_rfl) hg h
theorem x_sl_43_110 {a : Option (Nat × Nat)} {n c lo hi : Nat} {g : Option Nat} {k k' : IntKind} (hg : gOk g 1 = true) (h : hi ≤ c) (h' : lo ≤ hi) : sliceN P 43 true true false [.slice a n c g, .int k (lo : Int), .int k' (hi : Int)] = some (.slice (a.map fun p => (p.1, p.2 + lo * 1)) (hi - lo) (c - lo) g) := sl_110 (e := 27) (by kernel_rfl) (by kernel_rfl) hg h h'
theorem x_bs_43_1 (n0 : Int) : buildSliceN P 43 1 [0] [(AV.int .u32 n0)] = some (.cells (fillC [(AV.int .u32 n0)] .leaf 0) [] 1 false, sliceTo 1) := by kernel_rfl
end Go.Proofs.Ytlfednnfkejcjaa

/-
  The code of functions, part by part, as rules. Printed by a program of this session's.
-/
import Derived.Test.YtlfednnfkejcjaaProg
import Derived.Test.YtlfednnfkejcjaaQAmG
set_option linter.unusedVariables false
set_option linter.unusedSimpArgs false
set_option linter.constructorNameAsVariable false
namespace Go.Proofs.Ytlfednnfkejcjaa
open Go.Am
noncomputable abbrev P : Program := Try.prog
noncomputable def c4_1 : AC := .reg [] [(4, .cst (AV.bool false))]
theorem r4_1 : RReg c4_1 fun call tm h => some ((tm.up (some (AV.bool false)) 4), h) := rReg (by kernel_rfl)
noncomputable def c4_4 : AC := .reg [⟨none, .cl (.cst (AV.func (Fn.func 19) [] [])) [.tmp 0]⟩, ⟨none, .p1 (un1 .not) (.loc 0)⟩] [(13, .loc 0)]
theorem r4_4 : RReg c4_4 fun call tm h => match ((match (match (match tm.gt 0 with | none => none | some a0 => match (some ([] : List AV)) with | none => none | some u0 => some (a0 :: u0)) with | none => none | some us => call (.fn 19) (app' [] (app' us [])) h) with | none => none | some r0 => match (match un1 .not r0.1 with | none => none | some y => some (y, r0.2)) with | none => none | some r1 => some ([r1.1, r0.1], r1.2)) : Option (List AV × Heap)) with | none => none | some (loc, h') => match ((match Opd.get (.loc 0) loc .leaf tm with | none => none | some o0 => some (tm.up (some o0) 13)) : Option (Tr AV)) with | none => none | some tm' => some (tm', h') := rReg (by kernel_rfl)
noncomputable def c4_7 : AC := .reg [⟨none, .cl (.cst (AV.func (Fn.func 20) [] [])) []⟩] [(4, .loc 0)]
theorem r4_7 : RReg c4_7 fun call tm h => match ((match (call (.fn 20) [] h) with | none => none | some r0 => some ([r0.1], r0.2)) : Option (List AV × Heap)) with | none => none | some (loc, h') => match ((match Opd.get (.loc 0) loc .leaf tm with | none => none | some o0 => some (tm.up (some o0) 4)) : Option (Tr AV)) with | none => none | some tm' => some (tm', h') := rReg (by kernel_rfl)
noncomputable def c4_8 : AC := .ret
theorem r4_8 : RRet c4_8 .ret := rRet
noncomputable def c4_6 : AC := .seq c4_7 c4_8
theorem r4_6 : RSeq c4_6 c4_7 c4_8 := rSeq
noncomputable def c4_9 : AC := .skip
theorem r4_9 : RRet c4_9 .normal := rSkip
noncomputable def c4_5 : AC := .cond (.tmp 13) c4_6 c4_9
theorem r4_5 : RCnd c4_5 13 c4_6 c4_9 := rCnd
noncomputable def c4_3 : AC := .seq c4_4 c4_5
theorem r4_3 : RSeq c4_3 c4_4 c4_5 := rSeq
noncomputable def c4_11 : AC := .reg [] [(5, .cst (AV.slice none 0 0 none))]
theorem r4_11 : RReg c4_11 fun call tm h => some ((tm.up (some (AV.slice none 0 0 none)) 5), h) := rReg (by kernel_rfl)
noncomputable def c4_13 : AC := .reg [⟨none, .ef (fun vs id h => l2 (fun s x => appendS P 41 s x id h) vs) [.tmp 5, .tmp 0]⟩] [(5, .loc 0)]
theorem r4_13 : RReg c4_13 fun call tm h => match ((match (match (match tm.gt 5 with | none => none | some a0 => match (match tm.gt 0 with | none => none | some a1 => match (some ([] : List AV)) with | none => none | some u1 => some (a1 :: u1)) with | none => none | some u0 => some (a0 :: u0)) with | none => none | some us => (fun vs id h => l2 (fun s x => appendS P 41 s x id h) vs) us h.next h) with | none => none | some r0 => some ([r0.1], r0.2)) : Option (List AV × Heap)) with | none => none | some (loc, h') => match ((match Opd.get (.loc 0) loc .leaf tm with | none => none | some o0 => some (tm.up (some o0) 5)) : Option (Tr AV)) with | none => none | some tm' => some (tm', h') := rReg (by kernel_rfl)
noncomputable def c4_15 : AC := .reg [⟨none, .cl (.cst (AV.func (Fn.func 21) [] [])) [.tmp 5, .tmp 1]⟩, ⟨none, .p1 (nthTuple 0) (.loc 0)⟩, ⟨none, .p1 (nthTuple 1) (.loc 1)⟩] [(7, .loc 0), (6, .loc 1)]
theorem r4_15 : RReg c4_15 fun call tm h => match ((match (match (match tm.gt 5 with | none => none | some a0 => match (match tm.gt 1 with | none => none | some a1 => match (some ([] : List AV)) with | none => none | some u1 => some (a1 :: u1)) with | none => none | some u0 => some (a0 :: u0)) with | none => none | some us => call (.fn 21) (app' [] (app' us [])) h) with | none => none | some r0 => match (match nthTuple 0 r0.1 with | none => none | some y => some (y, r0.2)) with | none => none | some r1 => match (match nthTuple 1 r0.1 with | none => none | some y => some (y, r1.2)) with | none => none | some r2 => some ([r2.1, r1.1, r0.1], r2.2)) : Option (List AV × Heap)) with | none => none | some (loc, h') => match ((match Opd.get (.loc 0) loc .leaf tm with | none => none | some o0 => match Opd.get (.loc 1) loc .leaf tm with | none => none | some o1 => some ((tm.up (some o0) 7).up (some o1) 6)) : Option (Tr AV)) with | none => none | some tm' => some (tm', h') := rReg (by kernel_rfl)
noncomputable def c4_17 : AC := .reg [⟨none, .cl (.cst (AV.func (Fn.func 23) [] [])) [.tmp 0]⟩, ⟨none, .cl (.cst (AV.func (Fn.func 22) [] [])) [.loc 0, .tmp 1]⟩, ⟨none, .p1 (nthTuple 0) (.loc 0)⟩, ⟨none, .p1 (nthTuple 1) (.loc 1)⟩] [(9, .loc 0), (8, .loc 1)]
theorem r4_17 : RReg c4_17 fun call tm h => match ((match (match (match tm.gt 0 with | none => none | some a0 => match (some ([] : List AV)) with | none => none | some u0 => some (a0 :: u0)) with | none => none | some us => call (.fn 23) (app' [] (app' us [])) h) with | none => none | some r0 => match (match (match (match tm.gt 1 with | none => none | some a0 => match (some ([] : List AV)) with | none => none | some u0 => some (a0 :: u0)) with | none => none | some u0 => some (r0.1 :: u0)) with | none => none | some us => call (.fn 22) (app' [] (app' us [])) r0.2) with | none => none | some r1 => match (match nthTuple 0 r1.1 with | none => none | some y => some (y, r1.2)) with | none => none | some r2 => match (match nthTuple 1 r1.1 with | none => none | some y => some (y, r2.2)) with | none => none | some r3 => some ([r3.1, r2.1, r1.1, r0.1], r3.2)) : Option (List AV × Heap)) with | none => none | some (loc, h') => match ((match Opd.get (.loc 0) loc .leaf tm with | none => none | some o0 => match Opd.get (.loc 1) loc .leaf tm with | none => none | some o1 => some ((tm.up (some o0) 9).up (some o1) 8)) : Option (Tr AV)) with | none => none | some tm' => some (tm', h') := rReg (by kernel_rfl)
noncomputable def c4_20 : AC := .reg [⟨none, .cl (.cst (AV.func (Fn.func 24) [] [])) [.tmp 6, .tmp 8]⟩, ⟨none, .p1 (un1 .not) (.loc 0)⟩, ⟨some (.loc 0, false), .mv (.tmp 7)⟩, ⟨some (.loc 1, false), .mv (.tmp 9)⟩, ⟨some (.loc 2, false), .p2 (bin2 P .neq 4) (.loc 1) (.loc 0)⟩, ⟨none, .pick (.loc 3) (.cst (AV.bool true)) (.loc 0)⟩, ⟨some (.loc 0, false), .mv (.tmp 5)⟩, ⟨some (.loc 1, false), .cl (.cst (AV.func (Fn.func 25) [] [])) [.loc 0]⟩, ⟨some (.loc 2, false), .mv (.tmp 0)⟩, ⟨some (.loc 3, false), .cl (.cst (AV.func (Fn.func 23) [] [])) [.loc 0]⟩, ⟨some (.loc 4, false), .cl (.cst (AV.func (Fn.func 26) [] [])) [.loc 0]⟩, ⟨some (.loc 5, false), .p2 (bin2 P .neq 3) (.loc 3) (.loc 0)⟩, ⟨none, .pick (.loc 6) (.cst (AV.bool true)) (.loc 0)⟩] [(47, .loc 0)]
theorem r4_20 : RReg c4_20 fun call tm h => match ((match (match (match tm.gt 6 with | none => none | some a0 => match (match tm.gt 8 with | none => none | some a1 => match (some ([] : List AV)) with | none => none | some u1 => some (a1 :: u1)) with | none => none | some u0 => some (a0 :: u0)) with | none => none | some us => call (.fn 24) (app' [] (app' us [])) h) with | none => none | some r0 => match (match un1 .not r0.1 with | none => none | some y => some (y, r0.2)) with | none => none | some r1 => match (match wanted false r1.1 with | true => (match tm.gt 7 with | none => none | some a => some (a, r1.2)) | false => some (undefA, r1.2)) with | none => none | some r2 => match (match wanted false r1.1 with | true => (match tm.gt 9 with | none => none | some a => some (a, r2.2)) | false => some (undefA, r2.2)) with | none => none | some r3 => match (match wanted false r1.1 with | true => (match bin2 P .neq 4 r2.1 r3.1 with | none => none | some y => some (y, r3.2)) | false => some (undefA, r3.2)) with | none => none | some r4 => match (eBool (fun t => match (match t with | true => (some (AV.bool true)) | false => (some r4.1)) with | none => none | some y => some (y, r4.2)) r1.1) with | none => none | some r5 => match (match wanted false r5.1 with | true => (match tm.gt 5 with | none => none | some a => some (a, r5.2)) | false => some (undefA, r5.2)) with | none => none | some r6 => match (match wanted false r5.1 with | true => (call (.fn 25) [r6.1] r6.2) | false => some (undefA, r6.2)) with | none => none | some r7 => match (match wanted false r5.1 with | true => (match tm.gt 0 with | none => none | some a => some (a, r7.2)) | false => some (undefA, r7.2)) with | none => none | some r8 => match (match wanted false r5.1 with | true => (call (.fn 23) [r8.1] r8.2) | false => some (undefA, r8.2)) with | none => none | some r9 => match (match wanted false r5.1 with | true => (call (.fn 26) [r9.1] r9.2) | false => some (undefA, r9.2)) with | none => none | some r10 => match (match wanted false r5.1 with | true => (match bin2 P .neq 3 r7.1 r10.1 with | none => none | some y => some (y, r10.2)) | false => some (undefA, r10.2)) with | none => none | some r11 => match (eBool (fun t => match (match t with | true => (some (AV.bool true)) | false => (some r11.1)) with | none => none | some y => some (y, r11.2)) r5.1) with | none => none | some r12 => some ([r12.1, r11.1, r10.1, r9.1, r8.1, r7.1, r6.1, r5.1, r4.1, r3.1, r2.1, r1.1, r0.1], r12.2)) : Option (List AV × Heap)) with | none => none | some (loc, h') => match ((match Opd.get (.loc 0) loc .leaf tm with | none => none | some o0 => some (tm.up (some o0) 47)) : Option (Tr AV)) with | none => none | some tm' => some (tm', h') := rReg (by kernel_rfl)
noncomputable def c4_23 : AC := .reg [] [(4, .cst (AV.bool false))]
theorem r4_23 : RReg c4_23 fun call tm h => some ((tm.up (some (AV.bool false)) 4), h) := rReg (by kernel_rfl)
noncomputable def c4_24 : AC := .ret
theorem r4_24 : RRet c4_24 .ret := rRet
noncomputable def c4_22 : AC := .seq c4_23 c4_24
theorem r4_22 : RSeq c4_22 c4_23 c4_24 := rSeq
noncomputable def c4_25 : AC := .skip
theorem r4_25 : RRet c4_25 .normal := rSkip
noncomputable def c4_21 : AC := .cond (.tmp 47) c4_22 c4_25
theorem r4_21 : RCnd c4_21 47 c4_22 c4_25 := rCnd
noncomputable def c4_19 : AC := .seq c4_20 c4_21
theorem r4_19 : RSeq c4_19 c4_20 c4_21 := rSeq
noncomputable def c4_28 : AC := .reg [] [(10, .cst (AV.int .i64 0))]
theorem r4_28 : RReg c4_28 fun call tm h => some ((tm.up (some (AV.int .i64 0)) 10), h) := rReg (by kernel_rfl)
noncomputable def c4_33 : AC := .reg [⟨none, .pn (l1 (len1 P 41)) [.tmp 0]⟩, ⟨none, .p2 (bin2 P .lss 3) (.tmp 10) (.loc 0)⟩] [(51, .loc 0)]
theorem r4_33 : RReg c4_33 fun call tm h => match ((match (match (match tm.gt 0 with | none => none | some a0 => match (some ([] : List AV)) with | none => none | some u0 => some (a0 :: u0)) with | none => none | some us => match l1 (len1 P 41) us with | none => none | some y => some (y, h)) with | none => none | some r0 => match (match tm.gt 10 with | none => none | some a => match bin2 P .lss 3 a r0.1 with | none => none | some y => some (y, r0.2)) with | none => none | some r1 => some ([r1.1, r0.1], r1.2)) : Option (List AV × Heap)) with | none => none | some (loc, h') => match ((match Opd.get (.loc 0) loc .leaf tm with | none => none | some o0 => some (tm.up (some o0) 51)) : Option (Tr AV)) with | none => none | some tm' => some (tm', h') := rReg (by kernel_rfl)
noncomputable def c4_35 : AC := .skip
theorem r4_35 : RRet c4_35 .normal := rSkip
noncomputable def c4_36 : AC := .exit 0
theorem r4_36 : RRet c4_36 (.exit 0) := rExit
noncomputable def c4_34 : AC := .cond (.tmp 51) c4_35 c4_36
theorem r4_34 : RCnd c4_34 51 c4_35 c4_36 := rCnd
noncomputable def c4_32 : AC := .seq c4_33 c4_34
theorem r4_32 : RSeq c4_32 c4_33 c4_34 := rSeq
noncomputable def c4_40g : List (Nat × GIns) := [(0, ⟨none, .mv (.tmp 5)⟩), (1, ⟨none, .mv (.tmp 10)⟩), (2, ⟨none, .p2 (indexAddr2 P 41) (.opi 0) (.opi 1)⟩), (3, ⟨none, .ldn 4 (.opi 2)⟩), (4, ⟨none, .mv (.tmp 0)⟩), (5, ⟨none, .mv (.tmp 10)⟩), (6, ⟨none, .p2 (indexAddr2 P 41) (.opi 4) (.opi 5)⟩), (7, ⟨none, .ldn 4 (.opi 6)⟩), (8, ⟨none, .p2 (bin2 P .neq 53) (.opi 3) (.opi 7)⟩)]
noncomputable def c4_40 : AC := .draw 9 (stagesOf #[0, 0, 3, 7, 0, 0, 48, 112, 255] c4_40g [] 0 (c4_40g.filter fun x => x.2.i.eff)) [(62, 8)]
theorem r4_40 : RReg c4_40 fun call tm h => match (let base := h.next; let vs : Tr AV := .leaf; let h := Heap.mk h.bs (h.next + 9); ((match ((match (match (match tm.gt 5 with | none => none | some a => some (a, h)) with | none => none | some y => some y.1) with | none => none | some v => let vs := vs.up (some v) 0; match (match (match tm.gt 10 with | none => none | some a => some (a, h)) with | none => none | some y => some y.1) with | none => none | some v => let vs := vs.up (some v) 1; match (match (match vs.gt 0 with | none => none | some a => match vs.gt 1 with | none => none | some b => match indexAddr2 P 41 a b with | none => none | some y => some (y, h)) with | none => none | some y => some y.1) with | none => none | some v => let vs := vs.up (some v) 2; match (match (match vs.gt 2 with | none => none | some a => match loadN 4 h a with | none => none | some y => some (y, h)) with | none => none | some y => some y.1) with | none => none | some v => let vs := vs.up (some v) 3; match (match (match tm.gt 0 with | none => none | some a => some (a, h)) with | none => none | some y => some y.1) with | none => none | some v => let vs := vs.up (some v) 4; match (match (match tm.gt 10 with | none => none | some a => some (a, h)) with | none => none | some y => some y.1) with | none => none | some v => let vs := vs.up (some v) 5; match (match (match vs.gt 4 with | none => none | some a => match vs.gt 5 with | none => none | some b => match indexAddr2 P 41 a b with | none => none | some y => some (y, h)) with | none => none | some y => some y.1) with | none => none | some v => let vs := vs.up (some v) 6; match (match (match vs.gt 6 with | none => none | some a => match loadN 4 h a with | none => none | some y => some (y, h)) with | none => none | some y => some y.1) with | none => none | some v => let vs := vs.up (some v) 7; match (match (match vs.gt 3 with | none => none | some a => match vs.gt 7 with | none => none | some b => match bin2 P .neq 53 a b with | none => none | some y => some (y, h)) with | none => none | some y => some y.1) with | none => none | some v => let vs := vs.up (some v) 8; some vs) : Option (Tr AV)) with | none => none | some vs => some (vs, h)) : Option (Tr AV × Heap))) with | none => none | some (vs, h') => match ((match vs.gt 8 with | none => none | some o0 => some (tm.up (some o0) 62)) : Option (Tr AV)) with | none => none | some tm' => some (tm', h') := rDrw (by kernel_rfl)
noncomputable def c4_43 : AC := .reg [] [(4, .cst (AV.bool false))]
theorem r4_43 : RReg c4_43 fun call tm h => some ((tm.up (some (AV.bool false)) 4), h) := rReg (by kernel_rfl)
noncomputable def c4_44 : AC := .ret
theorem r4_44 : RRet c4_44 .ret := rRet
noncomputable def c4_42 : AC := .seq c4_43 c4_44
theorem r4_42 : RSeq c4_42 c4_43 c4_44 := rSeq
noncomputable def c4_45 : AC := .skip
theorem r4_45 : RRet c4_45 .normal := rSkip
noncomputable def c4_41 : AC := .cond (.tmp 62) c4_42 c4_45
theorem r4_41 : RCnd c4_41 62 c4_42 c4_45 := rCnd
noncomputable def c4_39 : AC := .seq c4_40 c4_41
theorem r4_39 : RSeq c4_39 c4_40 c4_41 := rSeq
noncomputable def c4_38 : AC := .block 1 c4_39
theorem r4_38 : RBlk c4_38 1 c4_39 := rBlk
noncomputable def c4_46 : AC := .reg [⟨none, .p2 (bin2 P .add 3) (.tmp 10) (.cst (AV.int .i64 1))⟩] [(10, .loc 0)]
theorem r4_46 : RReg c4_46 fun call tm h => match ((match (match tm.gt 10 with | none => none | some a => match bin2 P .add 3 a (AV.int .i64 1) with | none => none | some y => some (y, h)) with | none => none | some r0 => some ([r0.1], r0.2)) : Option (List AV × Heap)) with | none => none | some (loc, h') => match ((match Opd.get (.loc 0) loc .leaf tm with | none => none | some o0 => some (tm.up (some o0) 10)) : Option (Tr AV)) with | none => none | some tm' => some (tm', h') := rReg (by kernel_rfl)
noncomputable def c4_37 : AC := .seq c4_38 c4_46
theorem r4_37 : RSeq c4_37 c4_38 c4_46 := rSeq
noncomputable def c4_31 : AC := .seq c4_32 c4_37
theorem r4_31 : RSeq c4_31 c4_32 c4_37 := rSeq
/- LOOP -/
noncomputable def c4_30 : AC := .loop c4_31
noncomputable def c4_29 : AC := .block 0 c4_30
theorem r4_29 : RBlk c4_29 0 c4_30 := rBlk
noncomputable def c4_27 : AC := .seq c4_28 c4_29
theorem r4_27 : RSeq c4_27 c4_28 c4_29 := rSeq
noncomputable def c4_48 : AC := .reg [⟨none, .cl (.cst (AV.func (Fn.func 20) [] [])) []⟩] [(4, .loc 0)]
theorem r4_48 : RReg c4_48 fun call tm h => match ((match (call (.fn 20) [] h) with | none => none | some r0 => some ([r0.1], r0.2)) : Option (List AV × Heap)) with | none => none | some (loc, h') => match ((match Opd.get (.loc 0) loc .leaf tm with | none => none | some o0 => some (tm.up (some o0) 4)) : Option (Tr AV)) with | none => none | some tm' => some (tm', h') := rReg (by kernel_rfl)
noncomputable def c4_49 : AC := .ret
theorem r4_49 : RRet c4_49 .ret := rRet
noncomputable def c4_47 : AC := .seq c4_48 c4_49
theorem r4_47 : RSeq c4_47 c4_48 c4_49 := rSeq
noncomputable def c4_26 : AC := .seq c4_27 c4_47
theorem r4_26 : RSeq c4_26 c4_27 c4_47 := rSeq
noncomputable def c4_18 : AC := .seq c4_19 c4_26
theorem r4_18 : RSeq c4_18 c4_19 c4_26 := rSeq
noncomputable def c4_16 : AC := .seq c4_17 c4_18
theorem r4_16 : RSeq c4_16 c4_17 c4_18 := rSeq
noncomputable def c4_14 : AC := .seq c4_15 c4_16
theorem r4_14 : RSeq c4_14 c4_15 c4_16 := rSeq
noncomputable def c4_12 : AC := .seq c4_13 c4_14
theorem r4_12 : RSeq c4_12 c4_13 c4_14 := rSeq
noncomputable def c4_10 : AC := .seq c4_11 c4_12
theorem r4_10 : RSeq c4_10 c4_11 c4_12 := rSeq
noncomputable def c4_2 : AC := .seq c4_3 c4_10
theorem r4_2 : RSeq c4_2 c4_3 c4_10 := rSeq
noncomputable def c4_0 : AC := .seq c4_1 c4_2
theorem r4_0 : RSeq c4_0 c4_1 c4_2 := rSeq
noncomputable def fn4 : FnA := ⟨c4_0, [.tmp 4], 64, true⟩
theorem f4A : fnA P (keepF P) 4 = some fn4 := by kernel_rfl

noncomputable def c19_1 : AC := .reg [] [(2, .cst (AV.bool false))]
theorem r19_1 : RReg c19_1 fun call tm h => some ((tm.up (some (AV.bool false)) 2), h) := rReg (by kernel_rfl)
noncomputable def c19_4 : AC := .reg [] [(3, .cst (AV.int .i64 0))]
theorem r19_4 : RReg c19_4 fun call tm h => some ((tm.up (some (AV.int .i64 0)) 3), h) := rReg (by kernel_rfl)
noncomputable def c19_9 : AC := .reg [⟨none, .pn (l1 (len1 P 41)) [.tmp 0]⟩, ⟨none, .p2 (bin2 P .lss 3) (.tmp 3) (.loc 0)⟩, ⟨some (.loc 0, true), .mv (.tmp 3)⟩, ⟨some (.loc 1, true), .p2 (bin2 P .lss 3) (.loc 0) (.cst (AV.int .i64 40))⟩, ⟨none, .pick (.loc 2) (.loc 0) (.cst (AV.bool false))⟩] [(11, .loc 0)]
theorem r19_9 : RReg c19_9 fun call tm h => match ((match (match (match tm.gt 0 with | none => none | some a0 => match (some ([] : List AV)) with | none => none | some u0 => some (a0 :: u0)) with | none => none | some us => match l1 (len1 P 41) us with | none => none | some y => some (y, h)) with | none => none | some r0 => match (match tm.gt 3 with | none => none | some a => match bin2 P .lss 3 a r0.1 with | none => none | some y => some (y, r0.2)) with | none => none | some r1 => match (match wanted true r1.1 with | true => (match tm.gt 3 with | none => none | some a => some (a, r1.2)) | false => some (undefA, r1.2)) with | none => none | some r2 => match (match wanted true r1.1 with | true => (match bin2 P .lss 3 r2.1 (AV.int .i64 40) with | none => none | some y => some (y, r2.2)) | false => some (undefA, r2.2)) with | none => none | some r3 => match (eBool (fun t => match (match t with | true => (some r3.1) | false => (some (AV.bool false))) with | none => none | some y => some (y, r3.2)) r1.1) with | none => none | some r4 => some ([r4.1, r3.1, r2.1, r1.1, r0.1], r4.2)) : Option (List AV × Heap)) with | none => none | some (loc, h') => match ((match Opd.get (.loc 0) loc .leaf tm with | none => none | some o0 => some (tm.up (some o0) 11)) : Option (Tr AV)) with | none => none | some tm' => some (tm', h') := rReg (by kernel_rfl)
noncomputable def c19_11 : AC := .skip
theorem r19_11 : RRet c19_11 .normal := rSkip
noncomputable def c19_12 : AC := .exit 0
theorem r19_12 : RRet c19_12 (.exit 0) := rExit
noncomputable def c19_10 : AC := .cond (.tmp 11) c19_11 c19_12
theorem r19_10 : RCnd c19_10 11 c19_11 c19_12 := rCnd
noncomputable def c19_8 : AC := .seq c19_9 c19_10
theorem r19_8 : RSeq c19_8 c19_9 c19_10 := rSeq
noncomputable def c19_16 : AC := .reg [⟨none, .p2 (indexAddr2 P 41) (.tmp 0) (.tmp 3)⟩, ⟨none, .p1 (fieldAddr1 P 53 0) (.loc 0)⟩, ⟨none, .ld1 (.loc 0)⟩, ⟨none, .pn (l1 (len1 P 9)) [.loc 0]⟩, ⟨none, .p2 (bin2 P .gtr 3) (.loc 0) (.cst (AV.int .i64 100))⟩] [(20, .loc 0)]
theorem r19_16 : RReg c19_16 fun call tm h => match ((match (match tm.gt 0 with | none => none | some a => match tm.gt 3 with | none => none | some b => match indexAddr2 P 41 a b with | none => none | some y => some (y, h)) with | none => none | some r0 => match (match fieldAddr1 P 53 0 r0.1 with | none => none | some y => some (y, r0.2)) with | none => none | some r1 => match (match load1 r1.2 r1.1 with | none => none | some y => some (y, r1.2)) with | none => none | some r2 => match (match l1 (len1 P 9) [r2.1] with | none => none | some y => some (y, r2.2)) with | none => none | some r3 => match (match bin2 P .gtr 3 r3.1 (AV.int .i64 100) with | none => none | some y => some (y, r3.2)) with | none => none | some r4 => some ([r4.1, r3.1, r2.1, r1.1, r0.1], r4.2)) : Option (List AV × Heap)) with | none => none | some (loc, h') => match ((match Opd.get (.loc 0) loc .leaf tm with | none => none | some o0 => some (tm.up (some o0) 20)) : Option (Tr AV)) with | none => none | some tm' => some (tm', h') := rReg (by kernel_rfl)
noncomputable def c19_19 : AC := .reg [] [(2, .cst (AV.bool false))]
theorem r19_19 : RReg c19_19 fun call tm h => some ((tm.up (some (AV.bool false)) 2), h) := rReg (by kernel_rfl)
noncomputable def c19_20 : AC := .ret
theorem r19_20 : RRet c19_20 .ret := rRet
noncomputable def c19_18 : AC := .seq c19_19 c19_20
theorem r19_18 : RSeq c19_18 c19_19 c19_20 := rSeq
noncomputable def c19_21 : AC := .skip
theorem r19_21 : RRet c19_21 .normal := rSkip
noncomputable def c19_17 : AC := .cond (.tmp 20) c19_18 c19_21
theorem r19_17 : RCnd c19_17 20 c19_18 c19_21 := rCnd
noncomputable def c19_15 : AC := .seq c19_16 c19_17
theorem r19_15 : RSeq c19_15 c19_16 c19_17 := rSeq
noncomputable def c19_14 : AC := .block 1 c19_15
theorem r19_14 : RBlk c19_14 1 c19_15 := rBlk
noncomputable def c19_22 : AC := .reg [⟨none, .p2 (bin2 P .add 3) (.tmp 3) (.cst (AV.int .i64 1))⟩] [(3, .loc 0)]
theorem r19_22 : RReg c19_22 fun call tm h => match ((match (match tm.gt 3 with | none => none | some a => match bin2 P .add 3 a (AV.int .i64 1) with | none => none | some y => some (y, h)) with | none => none | some r0 => some ([r0.1], r0.2)) : Option (List AV × Heap)) with | none => none | some (loc, h') => match ((match Opd.get (.loc 0) loc .leaf tm with | none => none | some o0 => some (tm.up (some o0) 3)) : Option (Tr AV)) with | none => none | some tm' => some (tm', h') := rReg (by kernel_rfl)
noncomputable def c19_13 : AC := .seq c19_14 c19_22
theorem r19_13 : RSeq c19_13 c19_14 c19_22 := rSeq
noncomputable def c19_7 : AC := .seq c19_8 c19_13
theorem r19_7 : RSeq c19_7 c19_8 c19_13 := rSeq
/- LOOP -/
noncomputable def c19_6 : AC := .loop c19_7
noncomputable def c19_5 : AC := .block 0 c19_6
theorem r19_5 : RBlk c19_5 0 c19_6 := rBlk
noncomputable def c19_3 : AC := .seq c19_4 c19_5
theorem r19_3 : RSeq c19_3 c19_4 c19_5 := rSeq
noncomputable def c19_24 : AC := .reg [⟨none, .pn (l1 (len1 P 41)) [.tmp 0]⟩, ⟨none, .p2 (bin2 P .leq 3) (.loc 0) (.cst (AV.int .i64 30))⟩] [(2, .loc 0)]
theorem r19_24 : RReg c19_24 fun call tm h => match ((match (match (match tm.gt 0 with | none => none | some a0 => match (some ([] : List AV)) with | none => none | some u0 => some (a0 :: u0)) with | none => none | some us => match l1 (len1 P 41) us with | none => none | some y => some (y, h)) with | none => none | some r0 => match (match bin2 P .leq 3 r0.1 (AV.int .i64 30) with | none => none | some y => some (y, r0.2)) with | none => none | some r1 => some ([r1.1, r0.1], r1.2)) : Option (List AV × Heap)) with | none => none | some (loc, h') => match ((match Opd.get (.loc 0) loc .leaf tm with | none => none | some o0 => some (tm.up (some o0) 2)) : Option (Tr AV)) with | none => none | some tm' => some (tm', h') := rReg (by kernel_rfl)
noncomputable def c19_25 : AC := .ret
theorem r19_25 : RRet c19_25 .ret := rRet
noncomputable def c19_23 : AC := .seq c19_24 c19_25
theorem r19_23 : RSeq c19_23 c19_24 c19_25 := rSeq
noncomputable def c19_2 : AC := .seq c19_3 c19_23
theorem r19_2 : RSeq c19_2 c19_3 c19_23 := rSeq
noncomputable def c19_0 : AC := .seq c19_1 c19_2
theorem r19_0 : RSeq c19_0 c19_1 c19_2 := rSeq
noncomputable def fn19 : FnA := ⟨c19_0, [.tmp 2], 24, true⟩
theorem f19A : fnA P (keepF P) 19 = some fn19 := by kernel_rfl

noncomputable def c21_1 : AC := .reg [⟨none, .al (l1 box1) [.tmp 1]⟩, ⟨none, .al (fun (_ : List AV) => allocN P 43) []⟩] [(5, .cst (AV.bool false)), (4, .loc 0), (3, .loc 1)]
theorem r21_1 : RReg c21_1 fun call tm h => match ((match (match (match tm.gt 1 with | none => none | some a0 => match (some ([] : List AV)) with | none => none | some u0 => some (a0 :: u0)) with | none => none | some us => match l1 box1 us with | none => none | some y => some (y.2 h.next, h.new h.next y.1)) with | none => none | some r0 => match (match (fun (_ : List AV) => allocN P 43) [] with | none => none | some y => some (y.2 r0.2.next, r0.2.new r0.2.next y.1)) with | none => none | some r1 => some ([r1.1, r0.1], r1.2)) : Option (List AV × Heap)) with | none => none | some (loc, h') => match ((match Opd.get (.cst (AV.bool false)) loc .leaf tm with | none => none | some o0 => match Opd.get (.loc 0) loc .leaf tm with | none => none | some o1 => match Opd.get (.loc 1) loc .leaf tm with | none => none | some o2 => some (((tm.up (some o0) 5).up (some o1) 4).up (some o2) 3)) : Option (Tr AV)) with | none => none | some tm' => some (tm', h') := rReg (by kernel_rfl)
noncomputable def c21_3 : AC := .reg [⟨none, .cl (.cst (AV.func (Fn.func 25) [] [])) [.tmp 0]⟩, ⟨none, .al (fun (_ : List AV) => allocN P 3) []⟩, ⟨none, .st1 (.loc 0) (.loc 1)⟩] [(6, .loc 1)]
theorem r21_3 : RReg c21_3 fun call tm h => match ((match (match (match tm.gt 0 with | none => none | some a0 => match (some ([] : List AV)) with | none => none | some u0 => some (a0 :: u0)) with | none => none | some us => call (.fn 25) (app' [] (app' us [])) h) with | none => none | some r0 => match (match (fun (_ : List AV) => allocN P 3) [] with | none => none | some y => some (y.2 r0.2.next, r0.2.new r0.2.next y.1)) with | none => none | some r1 => match (store1 r1.2 r1.1 r0.1) with | none => none | some r2 => some ([r2.1, r1.1, r0.1], r2.2)) : Option (List AV × Heap)) with | none => none | some (loc, h') => match ((match Opd.get (.loc 1) loc .leaf tm with | none => none | some o0 => some (tm.up (some o0) 6)) : Option (Tr AV)) with | none => none | some tm' => some (tm', h') := rReg (by kernel_rfl)
noncomputable def c21_6 : AC := .reg [⟨none, .cl (.cst (AV.func (Fn.func 59) [] [])) [.tmp 0]⟩] [(11, .loc 0)]
theorem r21_6 : RReg c21_6 fun call tm h => match ((match (match (match tm.gt 0 with | none => none | some a0 => match (some ([] : List AV)) with | none => none | some u0 => some (a0 :: u0)) with | none => none | some us => call (.fn 59) (app' [] (app' us [])) h) with | none => none | some r0 => some ([r0.1], r0.2)) : Option (List AV × Heap)) with | none => none | some (loc, h') => match ((match Opd.get (.loc 0) loc .leaf tm with | none => none | some o0 => some (tm.up (some o0) 11)) : Option (Tr AV)) with | none => none | some tm' => some (tm', h') := rReg (by kernel_rfl)
noncomputable def c21_9 : AC := .reg [⟨none, .al (fun (_ : List AV) => allocN P 53) []⟩, ⟨none, .ef (fun vs _ h => l2 (storeN 4 h) vs) [.loc 0, .tmp 12]⟩] [(7, .loc 1)]
theorem r21_9 : RReg c21_9 fun call tm h => match ((match (match (fun (_ : List AV) => allocN P 53) [] with | none => none | some y => some (y.2 h.next, h.new h.next y.1)) with | none => none | some r0 => match (match (match (match tm.gt 12 with | none => none | some a0 => match (some ([] : List AV)) with | none => none | some u0 => some (a0 :: u0)) with | none => none | some u0 => some (r0.1 :: u0)) with | none => none | some us => (fun vs _ h => l2 (storeN 4 h) vs) us r0.2.next r0.2) with | none => none | some r1 => some ([r1.1, r0.1], r1.2)) : Option (List AV × Heap)) with | none => none | some (loc, h') => match ((match Opd.get (.loc 1) loc .leaf tm with | none => none | some o0 => some (tm.up (some o0) 7)) : Option (Tr AV)) with | none => none | some tm' => some (tm', h') := rReg (by kernel_rfl)
noncomputable def c21_13 : AC := .reg [⟨none, .ld1 (.tmp 6)⟩, ⟨none, .ld1 (.tmp 3)⟩, ⟨none, .p2 (bin2 P .leq 3) (.loc 1) (.loc 0)⟩] [(15, .loc 0)]
theorem r21_13 : RReg c21_13 fun call tm h => match ((match (match tm.gt 6 with | none => none | some a => match load1 h a with | none => none | some y => some (y, h)) with | none => none | some r0 => match (match tm.gt 3 with | none => none | some a => match load1 r0.2 a with | none => none | some y => some (y, r0.2)) with | none => none | some r1 => match (match bin2 P .leq 3 r0.1 r1.1 with | none => none | some y => some (y, r1.2)) with | none => none | some r2 => some ([r2.1, r1.1, r0.1], r2.2)) : Option (List AV × Heap)) with | none => none | some (loc, h') => match ((match Opd.get (.loc 0) loc .leaf tm with | none => none | some o0 => some (tm.up (some o0) 15)) : Option (Tr AV)) with | none => none | some tm' => some (tm', h') := rReg (by kernel_rfl)
noncomputable def c21_15 : AC := .exit 0
theorem r21_15 : RRet c21_15 (.exit 0) := rExit
noncomputable def c21_16 : AC := .skip
theorem r21_16 : RRet c21_16 .normal := rSkip
noncomputable def c21_14 : AC := .cond (.tmp 15) c21_15 c21_16
theorem r21_14 : RCnd c21_14 15 c21_15 c21_16 := rCnd
noncomputable def c21_12 : AC := .seq c21_13 c21_14
theorem r21_12 : RSeq c21_12 c21_13 c21_14 := rSeq
noncomputable def c21_18g : List (Nat × GIns) := [(0, ⟨none, .ld1 (.tmp 6)⟩), (1, ⟨none, .ldn 4 (.tmp 7)⟩), (2, ⟨none, .cl (.cst (AV.func (Fn.func 60) [] [])) [.opi 1]⟩), (3, ⟨none, .p2 (bin2 P .sub 3) (.opi 0) (.opi 2)⟩), (4, ⟨none, .st1 (.tmp 6) (.opi 3)⟩)]
noncomputable def c21_18 : AC := .draw 5 (stagesOf #[0, 0, 2, 7, 15] c21_18g [2, 4] 0 (c21_18g.filter fun x => x.2.i.eff)) []
theorem r21_18 : RReg c21_18 fun call tm h => match (let base := h.next; let vs : Tr AV := .leaf; let h := Heap.mk h.bs (h.next + 5); ((match ((match (match (match tm.gt 6 with | none => none | some a => match load1 h a with | none => none | some y => some (y, h)) with | none => none | some y => some y.1) with | none => none | some v => let vs := vs.up (some v) 0; match (match (match tm.gt 7 with | none => none | some a => match loadN 4 h a with | none => none | some y => some (y, h)) with | none => none | some y => some y.1) with | none => none | some v => let vs := vs.up (some v) 1; some vs) : Option (Tr AV)) with | none => none | some vs => match (match (match vs.gt 1 with | none => none | some a0 => match (some ([] : List AV)) with | none => none | some u0 => some (a0 :: u0)) with | none => none | some us => call (.fn 60) (app' [] (app' us [])) h) with | none => none | some r => let vs := vs.up (some r.1) 2; let h := r.2; iff' (match (match (match tm.gt 6 with | none => none | some a => match load1 h a with | none => none | some y => some (y, h)) with | none => none | some y => some y.1) with | none => false | some v => match vs.gt 0 with | none => false | some u => and' (AV.same v u) true) (match ((match (match (match vs.gt 0 with | none => none | some a => match vs.gt 2 with | none => none | some b => match bin2 P .sub 3 a b with | none => none | some y => some (y, h)) with | none => none | some y => some y.1) with | none => none | some v => let vs := vs.up (some v) 3; some vs) : Option (Tr AV)) with | none => none | some vs => match (match tm.gt 6 with | none => none | some a => match vs.gt 3 with | none => none | some b => store1 h a b) with | none => none | some r => let vs := vs.up (some r.1) 4; let h := r.2; some (vs, h))) : Option (Tr AV × Heap))) with | none => none | some (vs, h') => some (tm, h') := rDrw (by kernel_rfl)
noncomputable def c21_19 : AC := .reg [⟨none, .ld1 (.tmp 4)⟩, ⟨none, .p1 (fieldAddr1 P 53 1) (.tmp 7)⟩, ⟨none, .ld1 (.loc 0)⟩, ⟨none, .al (buildSliceN P 43 1 [0]) [.loc 0]⟩, ⟨none, .ef (fun vs id h => l2 (fun s x => appendS P 43 s x id h) vs) [.loc 3, .loc 0]⟩, ⟨none, .st1 (.tmp 4) (.loc 0)⟩] []
theorem r21_19 : RReg c21_19 fun call tm h => match ((match (match tm.gt 4 with | none => none | some a => match load1 h a with | none => none | some y => some (y, h)) with | none => none | some r0 => match (match tm.gt 7 with | none => none | some a => match fieldAddr1 P 53 1 a with | none => none | some y => some (y, r0.2)) with | none => none | some r1 => match (match load1 r1.2 r1.1 with | none => none | some y => some (y, r1.2)) with | none => none | some r2 => match (match buildSliceN P 43 1 [0] [r2.1] with | none => none | some y => some (y.2 r2.2.next, r2.2.new r2.2.next y.1)) with | none => none | some r3 => match ((fun vs id h => l2 (fun s x => appendS P 43 s x id h) vs) [r0.1, r3.1] r3.2.next r3.2) with | none => none | some r4 => match (match tm.gt 4 with | none => none | some a => store1 r4.2 a r4.1) with | none => none | some r5 => some ([r5.1, r4.1, r3.1, r2.1, r1.1, r0.1], r5.2)) : Option (List AV × Heap)) with | none => none | some (_, h') => some (tm, h') := rReg (by kernel_rfl)
noncomputable def c21_17 : AC := .seq c21_18 c21_19
theorem r21_17 : RSeq c21_17 c21_18 c21_19 := rSeq
noncomputable def c21_11 : AC := .seq c21_12 c21_17
theorem r21_11 : RSeq c21_11 c21_12 c21_17 := rSeq
noncomputable def c21_10 : AC := .block 1 c21_11
theorem r21_10 : RBlk c21_10 1 c21_11 := rBlk
/- RANGE OVER A FUNCTION -/
noncomputable def c21_8A : Code := subC (bodyC P 21) [1, 1, 0, 1, 0] 0
noncomputable def c21_8B : Code := subC (bodyC P 21) [1, 1, 0, 1, 0] 1
noncomputable def c21_8 : AC := .rangeF (.tmp 11) [12] c21_8A c21_8B
theorem q21_8a : compC P (keepF P 21) 29 c21_8A = c21_9 := by kernel_rfl
theorem q21_8b : compC P (keepF P 21) 29 c21_8B = c21_10 := by kernel_rfl
noncomputable def c21_7 : AC := .block 0 c21_8
theorem r21_7 : RBlk c21_7 0 c21_8 := rBlk
noncomputable def c21_5 : AC := .seq c21_6 c21_7
theorem r21_5 : RSeq c21_5 c21_6 c21_7 := rSeq
noncomputable def c21_22 : AC := .reg [⟨none, .ld1 (.tmp 6)⟩, ⟨none, .ld1 (.tmp 3)⟩, ⟨none, .p2 (bin2 P .gtr 3) (.loc 1) (.loc 0)⟩] [(27, .loc 0)]
theorem r21_22 : RReg c21_22 fun call tm h => match ((match (match tm.gt 6 with | none => none | some a => match load1 h a with | none => none | some y => some (y, h)) with | none => none | some r0 => match (match tm.gt 3 with | none => none | some a => match load1 r0.2 a with | none => none | some y => some (y, r0.2)) with | none => none | some r1 => match (match bin2 P .gtr 3 r0.1 r1.1 with | none => none | some y => some (y, r1.2)) with | none => none | some r2 => some ([r2.1, r1.1, r0.1], r2.2)) : Option (List AV × Heap)) with | none => none | some (loc, h') => match ((match Opd.get (.loc 0) loc .leaf tm with | none => none | some o0 => some (tm.up (some o0) 27)) : Option (Tr AV)) with | none => none | some tm' => some (tm', h') := rReg (by kernel_rfl)
noncomputable def c21_25 : AC := .reg [⟨none, .st1 (.tmp 4) (.cst (AV.slice none 0 0 none))⟩] [(5, .cst (AV.bool false))]
theorem r21_25 : RReg c21_25 fun call tm h => match ((match (match tm.gt 4 with | none => none | some a => store1 h a (AV.slice none 0 0 none)) with | none => none | some r0 => some ([r0.1], r0.2)) : Option (List AV × Heap)) with | none => none | some (loc, h') => match ((match Opd.get (.cst (AV.bool false)) loc .leaf tm with | none => none | some o0 => some (tm.up (some o0) 5)) : Option (Tr AV)) with | none => none | some tm' => some (tm', h') := rReg (by kernel_rfl)
noncomputable def c21_26 : AC := .ret
theorem r21_26 : RRet c21_26 .ret := rRet
noncomputable def c21_24 : AC := .seq c21_25 c21_26
theorem r21_24 : RSeq c21_24 c21_25 c21_26 := rSeq
noncomputable def c21_27 : AC := .skip
theorem r21_27 : RRet c21_27 .normal := rSkip
noncomputable def c21_23 : AC := .cond (.tmp 27) c21_24 c21_27
theorem r21_23 : RCnd c21_23 27 c21_24 c21_27 := rCnd
noncomputable def c21_21 : AC := .seq c21_22 c21_23
theorem r21_21 : RSeq c21_21 c21_22 c21_23 := rSeq
noncomputable def c21_29 : AC := .reg [⟨none, .ld1 (.tmp 4)⟩, ⟨none, .st1 (.tmp 4) (.loc 0)⟩] [(5, .cst (AV.bool true))]
theorem r21_29 : RReg c21_29 fun call tm h => match ((match (match tm.gt 4 with | none => none | some a => match load1 h a with | none => none | some y => some (y, h)) with | none => none | some r0 => match (match tm.gt 4 with | none => none | some a => store1 r0.2 a r0.1) with | none => none | some r1 => some ([r1.1, r0.1], r1.2)) : Option (List AV × Heap)) with | none => none | some (loc, h') => match ((match Opd.get (.cst (AV.bool true)) loc .leaf tm with | none => none | some o0 => some (tm.up (some o0) 5)) : Option (Tr AV)) with | none => none | some tm' => some (tm', h') := rReg (by kernel_rfl)
noncomputable def c21_30 : AC := .ret
theorem r21_30 : RRet c21_30 .ret := rRet
noncomputable def c21_28 : AC := .seq c21_29 c21_30
theorem r21_28 : RSeq c21_28 c21_29 c21_30 := rSeq
noncomputable def c21_20 : AC := .seq c21_21 c21_28
theorem r21_20 : RSeq c21_20 c21_21 c21_28 := rSeq
noncomputable def c21_4 : AC := .seq c21_5 c21_20
theorem r21_4 : RSeq c21_4 c21_5 c21_20 := rSeq
noncomputable def c21_2 : AC := .seq c21_3 c21_4
theorem r21_2 : RSeq c21_2 c21_3 c21_4 := rSeq
noncomputable def c21_0 : AC := .seq c21_1 c21_2
theorem r21_0 : RSeq c21_0 c21_1 c21_2 := rSeq
noncomputable def fn21 : FnA := ⟨c21_0, [.cell 4 43, .tmp 5], 29, false⟩
theorem f21A : fnA P (keepF P) 21 = some fn21 := by kernel_rfl

noncomputable def c22_1 : AC := .reg [] [(5, .cst (AV.bool false)), (4, .cst (AV.slice none 0 0 none))]
theorem r22_1 : RReg c22_1 fun call tm h => some (((tm.up (some (AV.bool false)) 5).up (some (AV.slice none 0 0 none)) 4), h) := rReg (by kernel_rfl)
noncomputable def c22_3 : AC := .reg [] [(6, .cst (AV.slice none 0 0 none))]
theorem r22_3 : RReg c22_3 fun call tm h => some ((tm.up (some (AV.slice none 0 0 none)) 6), h) := rReg (by kernel_rfl)
noncomputable def c22_5 : AC := .reg [⟨none, .ef (fun vs id h => l2 (fun s x => appendS P 47 s x id h) vs) [.tmp 6, .tmp 0]⟩] [(6, .loc 0)]
theorem r22_5 : RReg c22_5 fun call tm h => match ((match (match (match tm.gt 6 with | none => none | some a0 => match (match tm.gt 0 with | none => none | some a1 => match (some ([] : List AV)) with | none => none | some u1 => some (a1 :: u1)) with | none => none | some u0 => some (a0 :: u0)) with | none => none | some us => (fun vs id h => l2 (fun s x => appendS P 47 s x id h) vs) us h.next h) with | none => none | some r0 => some ([r0.1], r0.2)) : Option (List AV × Heap)) with | none => none | some (loc, h') => match ((match Opd.get (.loc 0) loc .leaf tm with | none => none | some o0 => some (tm.up (some o0) 6)) : Option (Tr AV)) with | none => none | some tm' => some (tm', h') := rReg (by kernel_rfl)
noncomputable def c22_7 : AC := .reg [] [(7, .cst (AV.slice none 0 0 none))]
theorem r22_7 : RReg c22_7 fun call tm h => some ((tm.up (some (AV.slice none 0 0 none)) 7), h) := rReg (by kernel_rfl)
noncomputable def c22_13 : AC := .reg [⟨none, .cl (.cst (AV.func (Fn.func 26) [] [])) [.tmp 6]⟩, ⟨none, .p2 (bin2 P .gtr 3) (.loc 0) (.tmp 1)⟩] [(16, .loc 0)]
theorem r22_13 : RReg c22_13 fun call tm h => match ((match (match (match tm.gt 6 with | none => none | some a0 => match (some ([] : List AV)) with | none => none | some u0 => some (a0 :: u0)) with | none => none | some us => call (.fn 26) (app' [] (app' us [])) h) with | none => none | some r0 => match (match tm.gt 1 with | none => none | some b => match bin2 P .gtr 3 r0.1 b with | none => none | some y => some (y, r0.2)) with | none => none | some r1 => some ([r1.1, r0.1], r1.2)) : Option (List AV × Heap)) with | none => none | some (loc, h') => match ((match Opd.get (.loc 0) loc .leaf tm with | none => none | some o0 => some (tm.up (some o0) 16)) : Option (Tr AV)) with | none => none | some tm' => some (tm', h') := rReg (by kernel_rfl)
noncomputable def c22_15 : AC := .skip
theorem r22_15 : RRet c22_15 .normal := rSkip
noncomputable def c22_16 : AC := .exit 0
theorem r22_16 : RRet c22_16 (.exit 0) := rExit
noncomputable def c22_14 : AC := .cond (.tmp 16) c22_15 c22_16
theorem r22_14 : RCnd c22_14 16 c22_15 c22_16 := rCnd
noncomputable def c22_12 : AC := .seq c22_13 c22_14
theorem r22_12 : RSeq c22_12 c22_13 c22_14 := rSeq
noncomputable def c22_19 : AC := .reg [⟨none, .cl (.cst (AV.func (Fn.func 61) [] [])) [.tmp 6]⟩] [(8, .loc 0)]
theorem r22_19 : RReg c22_19 fun call tm h => match ((match (match (match tm.gt 6 with | none => none | some a0 => match (some ([] : List AV)) with | none => none | some u0 => some (a0 :: u0)) with | none => none | some us => call (.fn 61) (app' [] (app' us [])) h) with | none => none | some r0 => some ([r0.1], r0.2)) : Option (List AV × Heap)) with | none => none | some (loc, h') => match ((match Opd.get (.loc 0) loc .leaf tm with | none => none | some o0 => some (tm.up (some o0) 8)) : Option (Tr AV)) with | none => none | some tm' => some (tm', h') := rReg (by kernel_rfl)
noncomputable def c22_22 : AC := .reg [⟨none, .p2 (bin2 P .lss 3) (.tmp 8) (.cst (AV.int .i64 0))⟩] [(20, .loc 0)]
theorem r22_22 : RReg c22_22 fun call tm h => match ((match (match tm.gt 8 with | none => none | some a => match bin2 P .lss 3 a (AV.int .i64 0) with | none => none | some y => some (y, h)) with | none => none | some r0 => some ([r0.1], r0.2)) : Option (List AV × Heap)) with | none => none | some (loc, h') => match ((match Opd.get (.loc 0) loc .leaf tm with | none => none | some o0 => some (tm.up (some o0) 20)) : Option (Tr AV)) with | none => none | some tm' => some (tm', h') := rReg (by kernel_rfl)
noncomputable def c22_25 : AC := .reg [] [(5, .cst (AV.bool false)), (4, .cst (AV.slice none 0 0 none))]
theorem r22_25 : RReg c22_25 fun call tm h => some (((tm.up (some (AV.bool false)) 5).up (some (AV.slice none 0 0 none)) 4), h) := rReg (by kernel_rfl)
noncomputable def c22_26 : AC := .ret
theorem r22_26 : RRet c22_26 .ret := rRet
noncomputable def c22_24 : AC := .seq c22_25 c22_26
theorem r22_24 : RSeq c22_24 c22_25 c22_26 := rSeq
noncomputable def c22_27 : AC := .skip
theorem r22_27 : RRet c22_27 .normal := rSkip
noncomputable def c22_23 : AC := .cond (.tmp 20) c22_24 c22_27
theorem r22_23 : RCnd c22_23 20 c22_24 c22_27 := rCnd
noncomputable def c22_21 : AC := .seq c22_22 c22_23
theorem r22_21 : RSeq c22_21 c22_22 c22_23 := rSeq
noncomputable def c22_29 : AC := .reg [⟨none, .p2 (indexAddr2 P 47) (.tmp 6) (.tmp 8)⟩, ⟨none, .p1 (fieldAddr1 P 101 1) (.loc 0)⟩, ⟨none, .ld1 (.loc 0)⟩, ⟨none, .al (buildSliceN P 43 1 [0]) [.loc 0]⟩, ⟨none, .ef (fun vs id h => l2 (fun s x => appendS P 43 s x id h) vs) [.tmp 7, .loc 0]⟩] [(7, .loc 0)]
theorem r22_29 : RReg c22_29 fun call tm h => match ((match (match tm.gt 6 with | none => none | some a => match tm.gt 8 with | none => none | some b => match indexAddr2 P 47 a b with | none => none | some y => some (y, h)) with | none => none | some r0 => match (match fieldAddr1 P 101 1 r0.1 with | none => none | some y => some (y, r0.2)) with | none => none | some r1 => match (match load1 r1.2 r1.1 with | none => none | some y => some (y, r1.2)) with | none => none | some r2 => match (match buildSliceN P 43 1 [0] [r2.1] with | none => none | some y => some (y.2 r2.2.next, r2.2.new r2.2.next y.1)) with | none => none | some r3 => match (match (match tm.gt 7 with | none => none | some a0 => match (some [r3.1]) with | none => none | some u0 => some (a0 :: u0)) with | none => none | some us => (fun vs id h => l2 (fun s x => appendS P 43 s x id h) vs) us r3.2.next r3.2) with | none => none | some r4 => some ([r4.1, r3.1, r2.1, r1.1, r0.1], r4.2)) : Option (List AV × Heap)) with | none => none | some (loc, h') => match ((match Opd.get (.loc 0) loc .leaf tm with | none => none | some o0 => some (tm.up (some o0) 7)) : Option (Tr AV)) with | none => none | some tm' => some (tm', h') := rReg (by kernel_rfl)
noncomputable def c22_31 : AC := .reg [] [(9, .cst (AV.slice none 0 0 none))]
theorem r22_31 : RReg c22_31 fun call tm h => some ((tm.up (some (AV.slice none 0 0 none)) 9), h) := rReg (by kernel_rfl)
noncomputable def c22_33 : AC := .reg [⟨none, .pn (sliceN P 47 false true false) [.tmp 6, .tmp 8]⟩, ⟨none, .ef (fun vs id h => l2 (fun s x => appendS P 47 s x id h) vs) [.tmp 9, .loc 0]⟩] [(9, .loc 0)]
theorem r22_33 : RReg c22_33 fun call tm h => match ((match (match (match tm.gt 6 with | none => none | some a0 => match (match tm.gt 8 with | none => none | some a1 => match (some ([] : List AV)) with | none => none | some u1 => some (a1 :: u1)) with | none => none | some u0 => some (a0 :: u0)) with | none => none | some us => match sliceN P 47 false true false us with | none => none | some y => some (y, h)) with | none => none | some r0 => match (match (match tm.gt 9 with | none => none | some a0 => match (some [r0.1]) with | none => none | some u0 => some (a0 :: u0)) with | none => none | some us => (fun vs id h => l2 (fun s x => appendS P 47 s x id h) vs) us r0.2.next r0.2) with | none => none | some r1 => some ([r1.1, r0.1], r1.2)) : Option (List AV × Heap)) with | none => none | some (loc, h') => match ((match Opd.get (.loc 0) loc .leaf tm with | none => none | some o0 => some (tm.up (some o0) 9)) : Option (Tr AV)) with | none => none | some tm' => some (tm', h') := rReg (by kernel_rfl)
noncomputable def c22_34 : AC := .reg [⟨none, .p2 (bin2 P .add 3) (.tmp 8) (.cst (AV.int .i64 1))⟩, ⟨none, .pn (sliceN P 47 true false false) [.tmp 6, .loc 0]⟩, ⟨none, .ef (fun vs id h => l2 (fun s x => appendS P 47 s x id h) vs) [.tmp 9, .loc 0]⟩] [(6, .loc 0)]
theorem r22_34 : RReg c22_34 fun call tm h => match ((match (match tm.gt 8 with | none => none | some a => match bin2 P .add 3 a (AV.int .i64 1) with | none => none | some y => some (y, h)) with | none => none | some r0 => match (match (match tm.gt 6 with | none => none | some a0 => match (some [r0.1]) with | none => none | some u0 => some (a0 :: u0)) with | none => none | some us => match sliceN P 47 true false false us with | none => none | some y => some (y, r0.2)) with | none => none | some r1 => match (match (match tm.gt 9 with | none => none | some a0 => match (some [r1.1]) with | none => none | some u0 => some (a0 :: u0)) with | none => none | some us => (fun vs id h => l2 (fun s x => appendS P 47 s x id h) vs) us r1.2.next r1.2) with | none => none | some r2 => some ([r2.1, r1.1, r0.1], r2.2)) : Option (List AV × Heap)) with | none => none | some (loc, h') => match ((match Opd.get (.loc 0) loc .leaf tm with | none => none | some o0 => some (tm.up (some o0) 6)) : Option (Tr AV)) with | none => none | some tm' => some (tm', h') := rReg (by kernel_rfl)
noncomputable def c22_32 : AC := .seq c22_33 c22_34
theorem r22_32 : RSeq c22_32 c22_33 c22_34 := rSeq
noncomputable def c22_30 : AC := .seq c22_31 c22_32
theorem r22_30 : RSeq c22_30 c22_31 c22_32 := rSeq
noncomputable def c22_28 : AC := .seq c22_29 c22_30
theorem r22_28 : RSeq c22_28 c22_29 c22_30 := rSeq
noncomputable def c22_20 : AC := .seq c22_21 c22_28
theorem r22_20 : RSeq c22_20 c22_21 c22_28 := rSeq
noncomputable def c22_18 : AC := .seq c22_19 c22_20
theorem r22_18 : RSeq c22_18 c22_19 c22_20 := rSeq
noncomputable def c22_17 : AC := .block 1 c22_18
theorem r22_17 : RBlk c22_17 1 c22_18 := rBlk
noncomputable def c22_11 : AC := .seq c22_12 c22_17
theorem r22_11 : RSeq c22_11 c22_12 c22_17 := rSeq
/- LOOP -/
noncomputable def c22_10 : AC := .loop c22_11
noncomputable def c22_9 : AC := .block 0 c22_10
theorem r22_9 : RBlk c22_9 0 c22_10 := rBlk
noncomputable def c22_36 : AC := .reg [] [(5, .cst (AV.bool true)), (4, .tmp 7)]
theorem r22_36 : RReg c22_36 fun call tm h => match ((match tm.gt 7 with | none => none | some o1 => some ((tm.up (some (AV.bool true)) 5).up (some o1) 4)) : Option (Tr AV)) with | none => none | some tm' => some (tm', h) := rReg (by kernel_rfl)
noncomputable def c22_37 : AC := .ret
theorem r22_37 : RRet c22_37 .ret := rRet
noncomputable def c22_35 : AC := .seq c22_36 c22_37
theorem r22_35 : RSeq c22_35 c22_36 c22_37 := rSeq
noncomputable def c22_8 : AC := .seq c22_9 c22_35
theorem r22_8 : RSeq c22_8 c22_9 c22_35 := rSeq
noncomputable def c22_6 : AC := .seq c22_7 c22_8
theorem r22_6 : RSeq c22_6 c22_7 c22_8 := rSeq
noncomputable def c22_4 : AC := .seq c22_5 c22_6
theorem r22_4 : RSeq c22_4 c22_5 c22_6 := rSeq
noncomputable def c22_2 : AC := .seq c22_3 c22_4
theorem r22_2 : RSeq c22_2 c22_3 c22_4 := rSeq
noncomputable def c22_0 : AC := .seq c22_1 c22_2
theorem r22_0 : RSeq c22_0 c22_1 c22_2 := rSeq
noncomputable def fn22 : FnA := ⟨c22_0, [.tmp 4, .tmp 5], 41, true⟩
theorem f22A : fnA P (keepF P) 22 = some fn22 := by kernel_rfl

noncomputable def c23_1 : AC := .reg [] [(2, .cst (AV.slice none 0 0 none))]
theorem r23_1 : RReg c23_1 fun call tm h => some ((tm.up (some (AV.slice none 0 0 none)) 2), h) := rReg (by kernel_rfl)
noncomputable def c23_3 : AC := .reg [] [(3, .cst (AV.slice none 0 0 none))]
theorem r23_3 : RReg c23_3 fun call tm h => some ((tm.up (some (AV.slice none 0 0 none)) 3), h) := rReg (by kernel_rfl)
noncomputable def c23_6 : AC := .reg [] [(4, .cst (AV.int .i64 0))]
theorem r23_6 : RReg c23_6 fun call tm h => some ((tm.up (some (AV.int .i64 0)) 4), h) := rReg (by kernel_rfl)
noncomputable def c23_11 : AC := .reg [⟨none, .pn (l1 (len1 P 41)) [.tmp 0]⟩, ⟨none, .p2 (bin2 P .lss 3) (.tmp 4) (.loc 0)⟩] [(8, .loc 0)]
theorem r23_11 : RReg c23_11 fun call tm h => match ((match (match (match tm.gt 0 with | none => none | some a0 => match (some ([] : List AV)) with | none => none | some u0 => some (a0 :: u0)) with | none => none | some us => match l1 (len1 P 41) us with | none => none | some y => some (y, h)) with | none => none | some r0 => match (match tm.gt 4 with | none => none | some a => match bin2 P .lss 3 a r0.1 with | none => none | some y => some (y, r0.2)) with | none => none | some r1 => some ([r1.1, r0.1], r1.2)) : Option (List AV × Heap)) with | none => none | some (loc, h') => match ((match Opd.get (.loc 0) loc .leaf tm with | none => none | some o0 => some (tm.up (some o0) 8)) : Option (Tr AV)) with | none => none | some tm' => some (tm', h') := rReg (by kernel_rfl)
noncomputable def c23_13 : AC := .skip
theorem r23_13 : RRet c23_13 .normal := rSkip
noncomputable def c23_14 : AC := .exit 0
theorem r23_14 : RRet c23_14 (.exit 0) := rExit
noncomputable def c23_12 : AC := .cond (.tmp 8) c23_13 c23_14
theorem r23_12 : RCnd c23_12 8 c23_13 c23_14 := rCnd
noncomputable def c23_10 : AC := .seq c23_11 c23_12
theorem r23_10 : RSeq c23_10 c23_11 c23_12 := rSeq
noncomputable def c23_17 : AC := .reg [⟨none, .p2 (indexAddr2 P 41) (.tmp 0) (.tmp 4)⟩, ⟨none, .ldn 4 (.loc 0)⟩, ⟨none, .al (buildSliceN P 47 1 [0]) [.loc 0]⟩, ⟨none, .ef (fun vs id h => l2 (fun s x => appendS P 47 s x id h) vs) [.tmp 3, .loc 0]⟩] [(3, .loc 0)]
theorem r23_17 : RReg c23_17 fun call tm h => match ((match (match tm.gt 0 with | none => none | some a => match tm.gt 4 with | none => none | some b => match indexAddr2 P 41 a b with | none => none | some y => some (y, h)) with | none => none | some r0 => match (match loadN 4 r0.2 r0.1 with | none => none | some y => some (y, r0.2)) with | none => none | some r1 => match (match buildSliceN P 47 1 [0] [r1.1] with | none => none | some y => some (y.2 r1.2.next, r1.2.new r1.2.next y.1)) with | none => none | some r2 => match (match (match tm.gt 3 with | none => none | some a0 => match (some [r2.1]) with | none => none | some u0 => some (a0 :: u0)) with | none => none | some us => (fun vs id h => l2 (fun s x => appendS P 47 s x id h) vs) us r2.2.next r2.2) with | none => none | some r3 => some ([r3.1, r2.1, r1.1, r0.1], r3.2)) : Option (List AV × Heap)) with | none => none | some (loc, h') => match ((match Opd.get (.loc 0) loc .leaf tm with | none => none | some o0 => some (tm.up (some o0) 3)) : Option (Tr AV)) with | none => none | some tm' => some (tm', h') := rReg (by kernel_rfl)
noncomputable def c23_16 : AC := .block 1 c23_17
theorem r23_16 : RBlk c23_16 1 c23_17 := rBlk
noncomputable def c23_18 : AC := .reg [⟨none, .p2 (bin2 P .add 3) (.tmp 4) (.cst (AV.int .i64 1))⟩] [(4, .loc 0)]
theorem r23_18 : RReg c23_18 fun call tm h => match ((match (match tm.gt 4 with | none => none | some a => match bin2 P .add 3 a (AV.int .i64 1) with | none => none | some y => some (y, h)) with | none => none | some r0 => some ([r0.1], r0.2)) : Option (List AV × Heap)) with | none => none | some (loc, h') => match ((match Opd.get (.loc 0) loc .leaf tm with | none => none | some o0 => some (tm.up (some o0) 4)) : Option (Tr AV)) with | none => none | some tm' => some (tm', h') := rReg (by kernel_rfl)
noncomputable def c23_15 : AC := .seq c23_16 c23_18
theorem r23_15 : RSeq c23_15 c23_16 c23_18 := rSeq
noncomputable def c23_9 : AC := .seq c23_10 c23_15
theorem r23_9 : RSeq c23_9 c23_10 c23_15 := rSeq
/- LOOP -/
noncomputable def c23_8 : AC := .loop c23_9
noncomputable def c23_7 : AC := .block 0 c23_8
theorem r23_7 : RBlk c23_7 0 c23_8 := rBlk
noncomputable def c23_5 : AC := .seq c23_6 c23_7
theorem r23_5 : RSeq c23_5 c23_6 c23_7 := rSeq
noncomputable def c23_20 : AC := .reg [] [(2, .tmp 3)]
theorem r23_20 : RReg c23_20 fun call tm h => match ((match tm.gt 3 with | none => none | some o0 => some (tm.up (some o0) 2)) : Option (Tr AV)) with | none => none | some tm' => some (tm', h) := rReg (by kernel_rfl)
noncomputable def c23_21 : AC := .ret
theorem r23_21 : RRet c23_21 .ret := rRet
noncomputable def c23_19 : AC := .seq c23_20 c23_21
theorem r23_19 : RSeq c23_19 c23_20 c23_21 := rSeq
noncomputable def c23_4 : AC := .seq c23_5 c23_19
theorem r23_4 : RSeq c23_4 c23_5 c23_19 := rSeq
noncomputable def c23_2 : AC := .seq c23_3 c23_4
theorem r23_2 : RSeq c23_2 c23_3 c23_4 := rSeq
noncomputable def c23_0 : AC := .seq c23_1 c23_2
theorem r23_0 : RSeq c23_0 c23_1 c23_2 := rSeq
noncomputable def fn23 : FnA := ⟨c23_0, [.tmp 2], 19, true⟩
theorem f23A : fnA P (keepF P) 23 = some fn23 := by kernel_rfl

noncomputable def c24_1 : AC := .reg [] [(4, .cst (AV.bool false))]
theorem r24_1 : RReg c24_1 fun call tm h => some ((tm.up (some (AV.bool false)) 4), h) := rReg (by kernel_rfl)
noncomputable def c24_4 : AC := .reg [⟨none, .pn (l1 (len1 P 43)) [.tmp 0]⟩, ⟨none, .pn (l1 (len1 P 43)) [.tmp 1]⟩, ⟨none, .p2 (bin2 P .neq 3) (.loc 1) (.loc 0)⟩] [(10, .loc 0)]
theorem r24_4 : RReg c24_4 fun call tm h => match ((match (match (match tm.gt 0 with | none => none | some a0 => match (some ([] : List AV)) with | none => none | some u0 => some (a0 :: u0)) with | none => none | some us => match l1 (len1 P 43) us with | none => none | some y => some (y, h)) with | none => none | some r0 => match (match (match tm.gt 1 with | none => none | some a0 => match (some ([] : List AV)) with | none => none | some u0 => some (a0 :: u0)) with | none => none | some us => match l1 (len1 P 43) us with | none => none | some y => some (y, r0.2)) with | none => none | some r1 => match (match bin2 P .neq 3 r0.1 r1.1 with | none => none | some y => some (y, r1.2)) with | none => none | some r2 => some ([r2.1, r1.1, r0.1], r2.2)) : Option (List AV × Heap)) with | none => none | some (loc, h') => match ((match Opd.get (.loc 0) loc .leaf tm with | none => none | some o0 => some (tm.up (some o0) 10)) : Option (Tr AV)) with | none => none | some tm' => some (tm', h') := rReg (by kernel_rfl)
noncomputable def c24_7 : AC := .reg [] [(4, .cst (AV.bool false))]
theorem r24_7 : RReg c24_7 fun call tm h => some ((tm.up (some (AV.bool false)) 4), h) := rReg (by kernel_rfl)
noncomputable def c24_8 : AC := .ret
theorem r24_8 : RRet c24_8 .ret := rRet
noncomputable def c24_6 : AC := .seq c24_7 c24_8
theorem r24_6 : RSeq c24_6 c24_7 c24_8 := rSeq
noncomputable def c24_9 : AC := .skip
theorem r24_9 : RRet c24_9 .normal := rSkip
noncomputable def c24_5 : AC := .cond (.tmp 10) c24_6 c24_9
theorem r24_5 : RCnd c24_5 10 c24_6 c24_9 := rCnd
noncomputable def c24_3 : AC := .seq c24_4 c24_5
theorem r24_3 : RSeq c24_3 c24_4 c24_5 := rSeq
noncomputable def c24_12 : AC := .reg [] [(5, .cst (AV.int .i64 0))]
theorem r24_12 : RReg c24_12 fun call tm h => some ((tm.up (some (AV.int .i64 0)) 5), h) := rReg (by kernel_rfl)
noncomputable def c24_17 : AC := .reg [⟨none, .pn (l1 (len1 P 43)) [.tmp 0]⟩, ⟨none, .p2 (bin2 P .lss 3) (.tmp 5) (.loc 0)⟩] [(14, .loc 0)]
theorem r24_17 : RReg c24_17 fun call tm h => match ((match (match (match tm.gt 0 with | none => none | some a0 => match (some ([] : List AV)) with | none => none | some u0 => some (a0 :: u0)) with | none => none | some us => match l1 (len1 P 43) us with | none => none | some y => some (y, h)) with | none => none | some r0 => match (match tm.gt 5 with | none => none | some a => match bin2 P .lss 3 a r0.1 with | none => none | some y => some (y, r0.2)) with | none => none | some r1 => some ([r1.1, r0.1], r1.2)) : Option (List AV × Heap)) with | none => none | some (loc, h') => match ((match Opd.get (.loc 0) loc .leaf tm with | none => none | some o0 => some (tm.up (some o0) 14)) : Option (Tr AV)) with | none => none | some tm' => some (tm', h') := rReg (by kernel_rfl)
noncomputable def c24_19 : AC := .skip
theorem r24_19 : RRet c24_19 .normal := rSkip
noncomputable def c24_20 : AC := .exit 0
theorem r24_20 : RRet c24_20 (.exit 0) := rExit
noncomputable def c24_18 : AC := .cond (.tmp 14) c24_19 c24_20
theorem r24_18 : RCnd c24_18 14 c24_19 c24_20 := rCnd
noncomputable def c24_16 : AC := .seq c24_17 c24_18
theorem r24_16 : RSeq c24_16 c24_17 c24_18 := rSeq
noncomputable def c24_24g : List (Nat × GIns) := [(0, ⟨none, .mv (.tmp 0)⟩), (1, ⟨none, .mv (.tmp 5)⟩), (2, ⟨none, .p2 (indexAddr2 P 43) (.opi 0) (.opi 1)⟩), (3, ⟨none, .ld1 (.opi 2)⟩), (4, ⟨none, .mv (.tmp 1)⟩), (5, ⟨none, .mv (.tmp 5)⟩), (6, ⟨none, .p2 (indexAddr2 P 43) (.opi 4) (.opi 5)⟩), (7, ⟨none, .ld1 (.opi 6)⟩), (8, ⟨none, .p2 (bin2 P .neq 27) (.opi 3) (.opi 7)⟩)]
noncomputable def c24_24 : AC := .draw 9 (stagesOf #[0, 0, 3, 7, 0, 0, 48, 112, 255] c24_24g [] 0 (c24_24g.filter fun x => x.2.i.eff)) [(25, 8)]
theorem r24_24 : RReg c24_24 fun call tm h => match (let base := h.next; let vs : Tr AV := .leaf; let h := Heap.mk h.bs (h.next + 9); ((match ((match (match (match tm.gt 0 with | none => none | some a => some (a, h)) with | none => none | some y => some y.1) with | none => none | some v => let vs := vs.up (some v) 0; match (match (match tm.gt 5 with | none => none | some a => some (a, h)) with | none => none | some y => some y.1) with | none => none | some v => let vs := vs.up (some v) 1; match (match (match vs.gt 0 with | none => none | some a => match vs.gt 1 with | none => none | some b => match indexAddr2 P 43 a b with | none => none | some y => some (y, h)) with | none => none | some y => some y.1) with | none => none | some v => let vs := vs.up (some v) 2; match (match (match vs.gt 2 with | none => none | some a => match load1 h a with | none => none | some y => some (y, h)) with | none => none | some y => some y.1) with | none => none | some v => let vs := vs.up (some v) 3; match (match (match tm.gt 1 with | none => none | some a => some (a, h)) with | none => none | some y => some y.1) with | none => none | some v => let vs := vs.up (some v) 4; match (match (match tm.gt 5 with | none => none | some a => some (a, h)) with | none => none | some y => some y.1) with | none => none | some v => let vs := vs.up (some v) 5; match (match (match vs.gt 4 with | none => none | some a => match vs.gt 5 with | none => none | some b => match indexAddr2 P 43 a b with | none => none | some y => some (y, h)) with | none => none | some y => some y.1) with | none => none | some v => let vs := vs.up (some v) 6; match (match (match vs.gt 6 with | none => none | some a => match load1 h a with | none => none | some y => some (y, h)) with | none => none | some y => some y.1) with | none => none | some v => let vs := vs.up (some v) 7; match (match (match vs.gt 3 with | none => none | some a => match vs.gt 7 with | none => none | some b => match bin2 P .neq 27 a b with | none => none | some y => some (y, h)) with | none => none | some y => some y.1) with | none => none | some v => let vs := vs.up (some v) 8; some vs) : Option (Tr AV)) with | none => none | some vs => some (vs, h)) : Option (Tr AV × Heap))) with | none => none | some (vs, h') => match ((match vs.gt 8 with | none => none | some o0 => some (tm.up (some o0) 25)) : Option (Tr AV)) with | none => none | some tm' => some (tm', h') := rDrw (by kernel_rfl)
noncomputable def c24_27 : AC := .reg [] [(4, .cst (AV.bool false))]
theorem r24_27 : RReg c24_27 fun call tm h => some ((tm.up (some (AV.bool false)) 4), h) := rReg (by kernel_rfl)
noncomputable def c24_28 : AC := .ret
theorem r24_28 : RRet c24_28 .ret := rRet
noncomputable def c24_26 : AC := .seq c24_27 c24_28
theorem r24_26 : RSeq c24_26 c24_27 c24_28 := rSeq
noncomputable def c24_29 : AC := .skip
theorem r24_29 : RRet c24_29 .normal := rSkip
noncomputable def c24_25 : AC := .cond (.tmp 25) c24_26 c24_29
theorem r24_25 : RCnd c24_25 25 c24_26 c24_29 := rCnd
noncomputable def c24_23 : AC := .seq c24_24 c24_25
theorem r24_23 : RSeq c24_23 c24_24 c24_25 := rSeq
noncomputable def c24_22 : AC := .block 1 c24_23
theorem r24_22 : RBlk c24_22 1 c24_23 := rBlk
noncomputable def c24_30 : AC := .reg [⟨none, .p2 (bin2 P .add 3) (.tmp 5) (.cst (AV.int .i64 1))⟩] [(5, .loc 0)]
theorem r24_30 : RReg c24_30 fun call tm h => match ((match (match tm.gt 5 with | none => none | some a => match bin2 P .add 3 a (AV.int .i64 1) with | none => none | some y => some (y, h)) with | none => none | some r0 => some ([r0.1], r0.2)) : Option (List AV × Heap)) with | none => none | some (loc, h') => match ((match Opd.get (.loc 0) loc .leaf tm with | none => none | some o0 => some (tm.up (some o0) 5)) : Option (Tr AV)) with | none => none | some tm' => some (tm', h') := rReg (by kernel_rfl)
noncomputable def c24_21 : AC := .seq c24_22 c24_30
theorem r24_21 : RSeq c24_21 c24_22 c24_30 := rSeq
noncomputable def c24_15 : AC := .seq c24_16 c24_21
theorem r24_15 : RSeq c24_15 c24_16 c24_21 := rSeq
/- LOOP -/
noncomputable def c24_14 : AC := .loop c24_15
noncomputable def c24_13 : AC := .block 0 c24_14
theorem r24_13 : RBlk c24_13 0 c24_14 := rBlk
noncomputable def c24_11 : AC := .seq c24_12 c24_13
theorem r24_11 : RSeq c24_11 c24_12 c24_13 := rSeq
noncomputable def c24_32 : AC := .reg [] [(4, .cst (AV.bool true))]
theorem r24_32 : RReg c24_32 fun call tm h => some ((tm.up (some (AV.bool true)) 4), h) := rReg (by kernel_rfl)
noncomputable def c24_33 : AC := .ret
theorem r24_33 : RRet c24_33 .ret := rRet
noncomputable def c24_31 : AC := .seq c24_32 c24_33
theorem r24_31 : RSeq c24_31 c24_32 c24_33 := rSeq
noncomputable def c24_10 : AC := .seq c24_11 c24_31
theorem r24_10 : RSeq c24_10 c24_11 c24_31 := rSeq
noncomputable def c24_2 : AC := .seq c24_3 c24_10
theorem r24_2 : RSeq c24_2 c24_3 c24_10 := rSeq
noncomputable def c24_0 : AC := .seq c24_1 c24_2
theorem r24_0 : RSeq c24_0 c24_1 c24_2 := rSeq
noncomputable def fn24 : FnA := ⟨c24_0, [.tmp 4], 26, true⟩
theorem f24A : fnA P (keepF P) 24 = some fn24 := by kernel_rfl

noncomputable def c25_1 : AC := .reg [] [(2, .cst (AV.int .i64 0))]
theorem r25_1 : RReg c25_1 fun call tm h => some ((tm.up (some (AV.int .i64 0)) 2), h) := rReg (by kernel_rfl)
noncomputable def c25_4 : AC := .reg [⟨none, .pn (l1 (len1 P 41)) [.tmp 0]⟩] [(7, .cst (AV.int .i64 0)), (6, .loc 0), (5, .tmp 0)]
theorem r25_4 : RReg c25_4 fun call tm h => match ((match (match (match tm.gt 0 with | none => none | some a0 => match (some ([] : List AV)) with | none => none | some u0 => some (a0 :: u0)) with | none => none | some us => match l1 (len1 P 41) us with | none => none | some y => some (y, h)) with | none => none | some r0 => some ([r0.1], r0.2)) : Option (List AV × Heap)) with | none => none | some (loc, h') => match ((match Opd.get (.cst (AV.int .i64 0)) loc .leaf tm with | none => none | some o0 => match Opd.get (.loc 0) loc .leaf tm with | none => none | some o1 => match Opd.get (.tmp 0) loc .leaf tm with | none => none | some o2 => some (((tm.up (some o0) 7).up (some o1) 6).up (some o2) 5)) : Option (Tr AV)) with | none => none | some tm' => some (tm', h') := rReg (by kernel_rfl)
noncomputable def c25_8 : AC := .reg [⟨none, .p2 (bin2 P .lss 3) (.tmp 7) (.tmp 6)⟩] [(8, .loc 0)]
theorem r25_8 : RReg c25_8 fun call tm h => match ((match (match tm.gt 7 with | none => none | some a => match tm.gt 6 with | none => none | some b => match bin2 P .lss 3 a b with | none => none | some y => some (y, h)) with | none => none | some r0 => some ([r0.1], r0.2)) : Option (List AV × Heap)) with | none => none | some (loc, h') => match ((match Opd.get (.loc 0) loc .leaf tm with | none => none | some o0 => some (tm.up (some o0) 8)) : Option (Tr AV)) with | none => none | some tm' => some (tm', h') := rReg (by kernel_rfl)
noncomputable def c25_11 : AC := .skip
theorem r25_11 : RRet c25_11 .normal := rSkip
noncomputable def c25_12 : AC := .exit 0
theorem r25_12 : RRet c25_12 (.exit 0) := rExit
noncomputable def c25_10 : AC := .cond (.tmp 8) c25_11 c25_12
theorem r25_10 : RCnd c25_10 8 c25_11 c25_12 := rCnd
noncomputable def c25_16 : AC := .reg [⟨none, .p2 (indexAddr2 P 41) (.tmp 5) (.tmp 7)⟩, ⟨none, .ldn 4 (.loc 0)⟩, ⟨none, .al (fun (_ : List AV) => allocN P 53) []⟩, ⟨none, .ef (fun vs _ h => l2 (storeN 4 h) vs) [.loc 0, .loc 1]⟩] [(4, .loc 1)]
theorem r25_16 : RReg c25_16 fun call tm h => match ((match (match tm.gt 5 with | none => none | some a => match tm.gt 7 with | none => none | some b => match indexAddr2 P 41 a b with | none => none | some y => some (y, h)) with | none => none | some r0 => match (match loadN 4 r0.2 r0.1 with | none => none | some y => some (y, r0.2)) with | none => none | some r1 => match (match (fun (_ : List AV) => allocN P 53) [] with | none => none | some y => some (y.2 r1.2.next, r1.2.new r1.2.next y.1)) with | none => none | some r2 => match ((fun vs _ h => l2 (storeN 4 h) vs) [r2.1, r1.1] r2.2.next r2.2) with | none => none | some r3 => some ([r3.1, r2.1, r1.1, r0.1], r3.2)) : Option (List AV × Heap)) with | none => none | some (loc, h') => match ((match Opd.get (.loc 1) loc .leaf tm with | none => none | some o0 => some (tm.up (some o0) 4)) : Option (Tr AV)) with | none => none | some tm' => some (tm', h') := rReg (by kernel_rfl)
noncomputable def c25_17 : AC := .reg [⟨none, .ldn 4 (.tmp 4)⟩, ⟨none, .cl (.cst (AV.func (Fn.func 60) [] [])) [.loc 0]⟩, ⟨none, .p2 (bin2 P .add 3) (.tmp 2) (.loc 0)⟩] [(2, .loc 0)]
theorem r25_17 : RReg c25_17 fun call tm h => match ((match (match tm.gt 4 with | none => none | some a => match loadN 4 h a with | none => none | some y => some (y, h)) with | none => none | some r0 => match (call (.fn 60) [r0.1] r0.2) with | none => none | some r1 => match (match tm.gt 2 with | none => none | some a => match bin2 P .add 3 a r1.1 with | none => none | some y => some (y, r1.2)) with | none => none | some r2 => some ([r2.1, r1.1, r0.1], r2.2)) : Option (List AV × Heap)) with | none => none | some (loc, h') => match ((match Opd.get (.loc 0) loc .leaf tm with | none => none | some o0 => some (tm.up (some o0) 2)) : Option (Tr AV)) with | none => none | some tm' => some (tm', h') := rReg (by kernel_rfl)
noncomputable def c25_15 : AC := .seq c25_16 c25_17
theorem r25_15 : RSeq c25_15 c25_16 c25_17 := rSeq
noncomputable def c25_14 : AC := .block 1 c25_15
theorem r25_14 : RBlk c25_14 1 c25_15 := rBlk
noncomputable def c25_18 : AC := .reg [⟨none, .p2 (bin2 P .add 3) (.tmp 7) (.cst (AV.int .i64 1))⟩] [(7, .loc 0)]
theorem r25_18 : RReg c25_18 fun call tm h => match ((match (match tm.gt 7 with | none => none | some a => match bin2 P .add 3 a (AV.int .i64 1) with | none => none | some y => some (y, h)) with | none => none | some r0 => some ([r0.1], r0.2)) : Option (List AV × Heap)) with | none => none | some (loc, h') => match ((match Opd.get (.loc 0) loc .leaf tm with | none => none | some o0 => some (tm.up (some o0) 7)) : Option (Tr AV)) with | none => none | some tm' => some (tm', h') := rReg (by kernel_rfl)
noncomputable def c25_13 : AC := .seq c25_14 c25_18
theorem r25_13 : RSeq c25_13 c25_14 c25_18 := rSeq
noncomputable def c25_9 : AC := .seq c25_10 c25_13
theorem r25_9 : RSeq c25_9 c25_10 c25_13 := rSeq
noncomputable def c25_7 : AC := .seq c25_8 c25_9
theorem r25_7 : RSeq c25_7 c25_8 c25_9 := rSeq
/- LOOP -/
noncomputable def c25_6 : AC := .loop c25_7
noncomputable def c25_5 : AC := .block 0 c25_6
theorem r25_5 : RBlk c25_5 0 c25_6 := rBlk
noncomputable def c25_3 : AC := .seq c25_4 c25_5
theorem r25_3 : RSeq c25_3 c25_4 c25_5 := rSeq
noncomputable def c25_20 : AC := .reg [] [(2, .tmp 2)]
theorem r25_20 : RReg c25_20 fun call tm h => match ((match tm.gt 2 with | none => none | some o0 => some (tm.up (some o0) 2)) : Option (Tr AV)) with | none => none | some tm' => some (tm', h) := rReg (by kernel_rfl)
noncomputable def c25_21 : AC := .ret
theorem r25_21 : RRet c25_21 .ret := rRet
noncomputable def c25_19 : AC := .seq c25_20 c25_21
theorem r25_19 : RSeq c25_19 c25_20 c25_21 := rSeq
noncomputable def c25_2 : AC := .seq c25_3 c25_19
theorem r25_2 : RSeq c25_2 c25_3 c25_19 := rSeq
noncomputable def c25_0 : AC := .seq c25_1 c25_2
theorem r25_0 : RSeq c25_0 c25_1 c25_2 := rSeq
noncomputable def fn25 : FnA := ⟨c25_0, [.tmp 2], 17, true⟩
theorem f25A : fnA P (keepF P) 25 = some fn25 := by kernel_rfl

noncomputable def c26_1 : AC := .reg [] [(2, .cst (AV.int .i64 0))]
theorem r26_1 : RReg c26_1 fun call tm h => some ((tm.up (some (AV.int .i64 0)) 2), h) := rReg (by kernel_rfl)
noncomputable def c26_3 : AC := .reg [] [(3, .cst (AV.int .i64 0))]
theorem r26_3 : RReg c26_3 fun call tm h => some ((tm.up (some (AV.int .i64 0)) 3), h) := rReg (by kernel_rfl)
noncomputable def c26_6 : AC := .reg [] [(4, .cst (AV.int .i64 0))]
theorem r26_6 : RReg c26_6 fun call tm h => some ((tm.up (some (AV.int .i64 0)) 4), h) := rReg (by kernel_rfl)
noncomputable def c26_11 : AC := .reg [⟨none, .pn (l1 (len1 P 47)) [.tmp 0]⟩, ⟨none, .p2 (bin2 P .lss 3) (.tmp 4) (.loc 0)⟩] [(8, .loc 0)]
theorem r26_11 : RReg c26_11 fun call tm h => match ((match (match (match tm.gt 0 with | none => none | some a0 => match (some ([] : List AV)) with | none => none | some u0 => some (a0 :: u0)) with | none => none | some us => match l1 (len1 P 47) us with | none => none | some y => some (y, h)) with | none => none | some r0 => match (match tm.gt 4 with | none => none | some a => match bin2 P .lss 3 a r0.1 with | none => none | some y => some (y, r0.2)) with | none => none | some r1 => some ([r1.1, r0.1], r1.2)) : Option (List AV × Heap)) with | none => none | some (loc, h') => match ((match Opd.get (.loc 0) loc .leaf tm with | none => none | some o0 => some (tm.up (some o0) 8)) : Option (Tr AV)) with | none => none | some tm' => some (tm', h') := rReg (by kernel_rfl)
noncomputable def c26_13 : AC := .skip
theorem r26_13 : RRet c26_13 .normal := rSkip
noncomputable def c26_14 : AC := .exit 0
theorem r26_14 : RRet c26_14 (.exit 0) := rExit
noncomputable def c26_12 : AC := .cond (.tmp 8) c26_13 c26_14
theorem r26_12 : RCnd c26_12 8 c26_13 c26_14 := rCnd
noncomputable def c26_10 : AC := .seq c26_11 c26_12
theorem r26_10 : RSeq c26_10 c26_11 c26_12 := rSeq
noncomputable def c26_17 : AC := .reg [⟨none, .p2 (indexAddr2 P 47) (.tmp 0) (.tmp 4)⟩, ⟨none, .p1 (fieldAddr1 P 101 3) (.loc 0)⟩, ⟨none, .ld1 (.loc 0)⟩, ⟨none, .cl (.cst (AV.func (Fn.func 62) [] [])) [.loc 0]⟩, ⟨none, .p2 (bin2 P .add 3) (.tmp 3) (.loc 0)⟩] [(3, .loc 0)]
theorem r26_17 : RReg c26_17 fun call tm h => match ((match (match tm.gt 0 with | none => none | some a => match tm.gt 4 with | none => none | some b => match indexAddr2 P 47 a b with | none => none | some y => some (y, h)) with | none => none | some r0 => match (match fieldAddr1 P 101 3 r0.1 with | none => none | some y => some (y, r0.2)) with | none => none | some r1 => match (match load1 r1.2 r1.1 with | none => none | some y => some (y, r1.2)) with | none => none | some r2 => match (call (.fn 62) [r2.1] r2.2) with | none => none | some r3 => match (match tm.gt 3 with | none => none | some a => match bin2 P .add 3 a r3.1 with | none => none | some y => some (y, r3.2)) with | none => none | some r4 => some ([r4.1, r3.1, r2.1, r1.1, r0.1], r4.2)) : Option (List AV × Heap)) with | none => none | some (loc, h') => match ((match Opd.get (.loc 0) loc .leaf tm with | none => none | some o0 => some (tm.up (some o0) 3)) : Option (Tr AV)) with | none => none | some tm' => some (tm', h') := rReg (by kernel_rfl)
noncomputable def c26_16 : AC := .block 1 c26_17
theorem r26_16 : RBlk c26_16 1 c26_17 := rBlk
noncomputable def c26_18 : AC := .reg [⟨none, .p2 (bin2 P .add 3) (.tmp 4) (.cst (AV.int .i64 1))⟩] [(4, .loc 0)]
theorem r26_18 : RReg c26_18 fun call tm h => match ((match (match tm.gt 4 with | none => none | some a => match bin2 P .add 3 a (AV.int .i64 1) with | none => none | some y => some (y, h)) with | none => none | some r0 => some ([r0.1], r0.2)) : Option (List AV × Heap)) with | none => none | some (loc, h') => match ((match Opd.get (.loc 0) loc .leaf tm with | none => none | some o0 => some (tm.up (some o0) 4)) : Option (Tr AV)) with | none => none | some tm' => some (tm', h') := rReg (by kernel_rfl)
noncomputable def c26_15 : AC := .seq c26_16 c26_18
theorem r26_15 : RSeq c26_15 c26_16 c26_18 := rSeq
noncomputable def c26_9 : AC := .seq c26_10 c26_15
theorem r26_9 : RSeq c26_9 c26_10 c26_15 := rSeq
/- LOOP -/
noncomputable def c26_8 : AC := .loop c26_9
noncomputable def c26_7 : AC := .block 0 c26_8
theorem r26_7 : RBlk c26_7 0 c26_8 := rBlk
noncomputable def c26_5 : AC := .seq c26_6 c26_7
theorem r26_5 : RSeq c26_5 c26_6 c26_7 := rSeq
noncomputable def c26_20 : AC := .reg [] [(2, .tmp 3)]
theorem r26_20 : RReg c26_20 fun call tm h => match ((match tm.gt 3 with | none => none | some o0 => some (tm.up (some o0) 2)) : Option (Tr AV)) with | none => none | some tm' => some (tm', h) := rReg (by kernel_rfl)
noncomputable def c26_21 : AC := .ret
theorem r26_21 : RRet c26_21 .ret := rRet
noncomputable def c26_19 : AC := .seq c26_20 c26_21
theorem r26_19 : RSeq c26_19 c26_20 c26_21 := rSeq
noncomputable def c26_4 : AC := .seq c26_5 c26_19
theorem r26_4 : RSeq c26_4 c26_5 c26_19 := rSeq
noncomputable def c26_2 : AC := .seq c26_3 c26_4
theorem r26_2 : RSeq c26_2 c26_3 c26_4 := rSeq
noncomputable def c26_0 : AC := .seq c26_1 c26_2
theorem r26_0 : RSeq c26_0 c26_1 c26_2 := rSeq
noncomputable def fn26 : FnA := ⟨c26_0, [.tmp 2], 20, true⟩
theorem f26A : fnA P (keepF P) 26 = some fn26 := by kernel_rfl

noncomputable def c59_1 : AC := .reg [⟨none, .al (l1 box1) [.tmp 0]⟩] [(2, .cst AV.nilFunc), (1, .loc 0)]
theorem r59_1 : RReg c59_1 fun call tm h => match ((match (match (match tm.gt 0 with | none => none | some a0 => match (some ([] : List AV)) with | none => none | some u0 => some (a0 :: u0)) with | none => none | some us => match l1 box1 us with | none => none | some y => some (y.2 h.next, h.new h.next y.1)) with | none => none | some r0 => some ([r0.1], r0.2)) : Option (List AV × Heap)) with | none => none | some (loc, h') => match ((match Opd.get (.cst AV.nilFunc) loc .leaf tm with | none => none | some o0 => match Opd.get (.loc 0) loc .leaf tm with | none => none | some o1 => some ((tm.up (some o0) 2).up (some o1) 1)) : Option (Tr AV)) with | none => none | some tm' => some (tm', h') := rReg (by kernel_rfl)
noncomputable def c59_3 : AC := .reg [⟨none, .pn (mkFunc (Fn.func 83) 0) [.tmp 1]⟩] [(2, .loc 0)]
theorem r59_3 : RReg c59_3 fun call tm h => match ((match (match (match tm.gt 1 with | none => none | some a0 => match (some ([] : List AV)) with | none => none | some u0 => some (a0 :: u0)) with | none => none | some us => match mkFunc (Fn.func 83) 0 us with | none => none | some y => some (y, h)) with | none => none | some r0 => some ([r0.1], r0.2)) : Option (List AV × Heap)) with | none => none | some (loc, h') => match ((match Opd.get (.loc 0) loc .leaf tm with | none => none | some o0 => some (tm.up (some o0) 2)) : Option (Tr AV)) with | none => none | some tm' => some (tm', h') := rReg (by kernel_rfl)
noncomputable def c59_4 : AC := .ret
theorem r59_4 : RRet c59_4 .ret := rRet
noncomputable def c59_2 : AC := .seq c59_3 c59_4
theorem r59_2 : RSeq c59_2 c59_3 c59_4 := rSeq
noncomputable def c59_0 : AC := .seq c59_1 c59_2
theorem r59_0 : RSeq c59_0 c59_1 c59_2 := rSeq
noncomputable def fn59 : FnA := ⟨c59_0, [.tmp 2], 4, true⟩
theorem f59A : fnA P (keepF P) 59 = some fn59 := by kernel_rfl

noncomputable def c60_1 : AC := .reg [⟨none, .al (l1 box1) [.tmp 0]⟩] [(2, .cst (AV.int .i64 0)), (1, .loc 0)]
theorem r60_1 : RReg c60_1 fun call tm h => match ((match (match (match tm.gt 0 with | none => none | some a0 => match (some ([] : List AV)) with | none => none | some u0 => some (a0 :: u0)) with | none => none | some us => match l1 box1 us with | none => none | some y => some (y.2 h.next, h.new h.next y.1)) with | none => none | some r0 => some ([r0.1], r0.2)) : Option (List AV × Heap)) with | none => none | some (loc, h') => match ((match Opd.get (.cst (AV.int .i64 0)) loc .leaf tm with | none => none | some o0 => match Opd.get (.loc 0) loc .leaf tm with | none => none | some o1 => some ((tm.up (some o0) 2).up (some o1) 1)) : Option (Tr AV)) with | none => none | some tm' => some (tm', h') := rReg (by kernel_rfl)
noncomputable def c60_3 : AC := .reg [⟨none, .p1 (fieldAddr1 P 53 3) (.tmp 1)⟩, ⟨none, .ld1 (.loc 0)⟩, ⟨none, .pn (folds max2) [.cst (AV.int .i64 0), .loc 0]⟩, ⟨none, .pn (folds min2) [.loc 0, .cst (AV.int .i64 65536)]⟩] [(2, .loc 0)]
theorem r60_3 : RReg c60_3 fun call tm h => match ((match (match tm.gt 1 with | none => none | some a => match fieldAddr1 P 53 3 a with | none => none | some y => some (y, h)) with | none => none | some r0 => match (match load1 r0.2 r0.1 with | none => none | some y => some (y, r0.2)) with | none => none | some r1 => match (match folds max2 [(AV.int .i64 0), r1.1] with | none => none | some y => some (y, r1.2)) with | none => none | some r2 => match (match folds min2 [r2.1, (AV.int .i64 65536)] with | none => none | some y => some (y, r2.2)) with | none => none | some r3 => some ([r3.1, r2.1, r1.1, r0.1], r3.2)) : Option (List AV × Heap)) with | none => none | some (loc, h') => match ((match Opd.get (.loc 0) loc .leaf tm with | none => none | some o0 => some (tm.up (some o0) 2)) : Option (Tr AV)) with | none => none | some tm' => some (tm', h') := rReg (by kernel_rfl)
noncomputable def c60_4 : AC := .ret
theorem r60_4 : RRet c60_4 .ret := rRet
noncomputable def c60_2 : AC := .seq c60_3 c60_4
theorem r60_2 : RSeq c60_2 c60_3 c60_4 := rSeq
noncomputable def c60_0 : AC := .seq c60_1 c60_2
theorem r60_0 : RSeq c60_0 c60_1 c60_2 := rSeq
noncomputable def fn60 : FnA := ⟨c60_0, [.tmp 2], 7, true⟩
theorem f60A : fnA P (keepF P) 60 = some fn60 := by kernel_rfl

noncomputable def c61_1 : AC := .reg [] [(2, .cst (AV.int .i64 0))]
theorem r61_1 : RReg c61_1 fun call tm h => some ((tm.up (some (AV.int .i64 0)) 2), h) := rReg (by kernel_rfl)
noncomputable def c61_3 : AC := .reg [] [(3, .cst (AV.int .i64 (-1)))]
theorem r61_3 : RReg c61_3 fun call tm h => some ((tm.up (some (AV.int .i64 (-1))) 3), h) := rReg (by kernel_rfl)
noncomputable def c61_6 : AC := .reg [] [(4, .cst (AV.int .i64 0))]
theorem r61_6 : RReg c61_6 fun call tm h => some ((tm.up (some (AV.int .i64 0)) 4), h) := rReg (by kernel_rfl)
noncomputable def c61_11 : AC := .reg [⟨none, .pn (l1 (len1 P 47)) [.tmp 0]⟩, ⟨none, .p2 (bin2 P .lss 3) (.tmp 4) (.loc 0)⟩] [(8, .loc 0)]
theorem r61_11 : RReg c61_11 fun call tm h => match ((match (match (match tm.gt 0 with | none => none | some a0 => match (some ([] : List AV)) with | none => none | some u0 => some (a0 :: u0)) with | none => none | some us => match l1 (len1 P 47) us with | none => none | some y => some (y, h)) with | none => none | some r0 => match (match tm.gt 4 with | none => none | some a => match bin2 P .lss 3 a r0.1 with | none => none | some y => some (y, r0.2)) with | none => none | some r1 => some ([r1.1, r0.1], r1.2)) : Option (List AV × Heap)) with | none => none | some (loc, h') => match ((match Opd.get (.loc 0) loc .leaf tm with | none => none | some o0 => some (tm.up (some o0) 8)) : Option (Tr AV)) with | none => none | some tm' => some (tm', h') := rReg (by kernel_rfl)
noncomputable def c61_13 : AC := .skip
theorem r61_13 : RRet c61_13 .normal := rSkip
noncomputable def c61_14 : AC := .exit 0
theorem r61_14 : RRet c61_14 (.exit 0) := rExit
noncomputable def c61_12 : AC := .cond (.tmp 8) c61_13 c61_14
theorem r61_12 : RCnd c61_12 8 c61_13 c61_14 := rCnd
noncomputable def c61_10 : AC := .seq c61_11 c61_12
theorem r61_10 : RSeq c61_10 c61_11 c61_12 := rSeq
noncomputable def c61_18 : AC := .reg [⟨none, .cl (.cst (AV.func (Fn.func 85) [] [])) [.tmp 0, .tmp 4]⟩, ⟨none, .p1 (un1 .not) (.loc 0)⟩, ⟨some (.loc 0, true), .mv (.tmp 3)⟩, ⟨some (.loc 1, true), .p2 (bin2 P .lss 3) (.loc 0) (.cst (AV.int .i64 0))⟩, ⟨some (.loc 2, true), .mv (.loc 0)⟩, ⟨some (.loc 0, false), .mv (.tmp 0)⟩, ⟨some (.loc 1, false), .mv (.tmp 4)⟩, ⟨some (.loc 2, false), .mv (.tmp 3)⟩, ⟨some (.loc 3, false), .cl (.cst (AV.func (Fn.func 86) [] [])) [.loc 2, .loc 1, .loc 0]⟩, ⟨some (.loc 7, true), .pick (.loc 4) (.cst (AV.bool true)) (.loc 0)⟩, ⟨none, .pick (.loc 8) (.loc 0) (.cst (AV.bool false))⟩] [(24, .loc 0)]
theorem r61_18 : RReg c61_18 fun call tm h => match ((match (match (match tm.gt 0 with | none => none | some a0 => match (match tm.gt 4 with | none => none | some a1 => match (some ([] : List AV)) with | none => none | some u1 => some (a1 :: u1)) with | none => none | some u0 => some (a0 :: u0)) with | none => none | some us => call (.fn 85) (app' [] (app' us [])) h) with | none => none | some r0 => match (match un1 .not r0.1 with | none => none | some y => some (y, r0.2)) with | none => none | some r1 => match (match wanted true r1.1 with | true => (match tm.gt 3 with | none => none | some a => some (a, r1.2)) | false => some (undefA, r1.2)) with | none => none | some r2 => match (match wanted true r1.1 with | true => (match bin2 P .lss 3 r2.1 (AV.int .i64 0) with | none => none | some y => some (y, r2.2)) | false => some (undefA, r2.2)) with | none => none | some r3 => match (match wanted true r1.1 with | true => (some (r3.1, r3.2)) | false => some (undefA, r3.2)) with | none => none | some r4 => match (match wanted false r4.1 with | true => (match tm.gt 0 with | none => none | some a => some (a, r4.2)) | false => some (undefA, r4.2)) with | none => none | some r5 => match (match wanted false r4.1 with | true => (match tm.gt 4 with | none => none | some a => some (a, r5.2)) | false => some (undefA, r5.2)) with | none => none | some r6 => match (match wanted false r4.1 with | true => (match tm.gt 3 with | none => none | some a => some (a, r6.2)) | false => some (undefA, r6.2)) with | none => none | some r7 => match (match wanted false r4.1 with | true => (call (.fn 86) [r5.1, r6.1, r7.1] r7.2) | false => some (undefA, r7.2)) with | none => none | some r8 => match (match wanted true r1.1 with | true => (eBool (fun t => match (match t with | true => (some (AV.bool true)) | false => (some r8.1)) with | none => none | some y => some (y, r8.2)) r4.1) | false => some (undefA, r8.2)) with | none => none | some r9 => match (eBool (fun t => match (match t with | true => (some r9.1) | false => (some (AV.bool false))) with | none => none | some y => some (y, r9.2)) r1.1) with | none => none | some r10 => some ([r10.1, r9.1, r8.1, r7.1, r6.1, r5.1, r4.1, r3.1, r2.1, r1.1, r0.1], r10.2)) : Option (List AV × Heap)) with | none => none | some (loc, h') => match ((match Opd.get (.loc 0) loc .leaf tm with | none => none | some o0 => some (tm.up (some o0) 24)) : Option (Tr AV)) with | none => none | some tm' => some (tm', h') := rReg (by kernel_rfl)
noncomputable def c61_20 : AC := .reg [] [(3, .tmp 4)]
theorem r61_20 : RReg c61_20 fun call tm h => match ((match tm.gt 4 with | none => none | some o0 => some (tm.up (some o0) 3)) : Option (Tr AV)) with | none => none | some tm' => some (tm', h) := rReg (by kernel_rfl)
noncomputable def c61_21 : AC := .skip
theorem r61_21 : RRet c61_21 .normal := rSkip
noncomputable def c61_19 : AC := .cond (.tmp 24) c61_20 c61_21
theorem r61_19 : RCnd c61_19 24 c61_20 c61_21 := rCnd
noncomputable def c61_17 : AC := .seq c61_18 c61_19
theorem r61_17 : RSeq c61_17 c61_18 c61_19 := rSeq
noncomputable def c61_16 : AC := .block 1 c61_17
theorem r61_16 : RBlk c61_16 1 c61_17 := rBlk
noncomputable def c61_22 : AC := .reg [⟨none, .p2 (bin2 P .add 3) (.tmp 4) (.cst (AV.int .i64 1))⟩] [(4, .loc 0)]
theorem r61_22 : RReg c61_22 fun call tm h => match ((match (match tm.gt 4 with | none => none | some a => match bin2 P .add 3 a (AV.int .i64 1) with | none => none | some y => some (y, h)) with | none => none | some r0 => some ([r0.1], r0.2)) : Option (List AV × Heap)) with | none => none | some (loc, h') => match ((match Opd.get (.loc 0) loc .leaf tm with | none => none | some o0 => some (tm.up (some o0) 4)) : Option (Tr AV)) with | none => none | some tm' => some (tm', h') := rReg (by kernel_rfl)
noncomputable def c61_15 : AC := .seq c61_16 c61_22
theorem r61_15 : RSeq c61_15 c61_16 c61_22 := rSeq
noncomputable def c61_9 : AC := .seq c61_10 c61_15
theorem r61_9 : RSeq c61_9 c61_10 c61_15 := rSeq
/- LOOP -/
noncomputable def c61_8 : AC := .loop c61_9
noncomputable def c61_7 : AC := .block 0 c61_8
theorem r61_7 : RBlk c61_7 0 c61_8 := rBlk
noncomputable def c61_5 : AC := .seq c61_6 c61_7
theorem r61_5 : RSeq c61_5 c61_6 c61_7 := rSeq
noncomputable def c61_24 : AC := .reg [] [(2, .tmp 3)]
theorem r61_24 : RReg c61_24 fun call tm h => match ((match tm.gt 3 with | none => none | some o0 => some (tm.up (some o0) 2)) : Option (Tr AV)) with | none => none | some tm' => some (tm', h) := rReg (by kernel_rfl)
noncomputable def c61_25 : AC := .ret
theorem r61_25 : RRet c61_25 .ret := rRet
noncomputable def c61_23 : AC := .seq c61_24 c61_25
theorem r61_23 : RSeq c61_23 c61_24 c61_25 := rSeq
noncomputable def c61_4 : AC := .seq c61_5 c61_23
theorem r61_4 : RSeq c61_4 c61_5 c61_23 := rSeq
noncomputable def c61_2 : AC := .seq c61_3 c61_4
theorem r61_2 : RSeq c61_2 c61_3 c61_4 := rSeq
noncomputable def c61_0 : AC := .seq c61_1 c61_2
theorem r61_0 : RSeq c61_0 c61_1 c61_2 := rSeq
noncomputable def fn61 : FnA := ⟨c61_0, [.tmp 2], 27, true⟩
theorem f61A : fnA P (keepF P) 61 = some fn61 := by kernel_rfl

noncomputable def c62_1 : AC := .reg [] [(2, .cst (AV.int .i64 0))]
theorem r62_1 : RReg c62_1 fun call tm h => some ((tm.up (some (AV.int .i64 0)) 2), h) := rReg (by kernel_rfl)
noncomputable def c62_4 : AC := .reg [⟨none, .p2 (bin2 P .lss 3) (.tmp 0) (.cst (AV.int .i64 0))⟩] [(4, .loc 0)]
theorem r62_4 : RReg c62_4 fun call tm h => match ((match (match tm.gt 0 with | none => none | some a => match bin2 P .lss 3 a (AV.int .i64 0) with | none => none | some y => some (y, h)) with | none => none | some r0 => some ([r0.1], r0.2)) : Option (List AV × Heap)) with | none => none | some (loc, h') => match ((match Opd.get (.loc 0) loc .leaf tm with | none => none | some o0 => some (tm.up (some o0) 4)) : Option (Tr AV)) with | none => none | some tm' => some (tm', h') := rReg (by kernel_rfl)
noncomputable def c62_7 : AC := .reg [] [(2, .cst (AV.int .i64 0))]
theorem r62_7 : RReg c62_7 fun call tm h => some ((tm.up (some (AV.int .i64 0)) 2), h) := rReg (by kernel_rfl)
noncomputable def c62_8 : AC := .ret
theorem r62_8 : RRet c62_8 .ret := rRet
noncomputable def c62_6 : AC := .seq c62_7 c62_8
theorem r62_6 : RSeq c62_6 c62_7 c62_8 := rSeq
noncomputable def c62_9 : AC := .skip
theorem r62_9 : RRet c62_9 .normal := rSkip
noncomputable def c62_5 : AC := .cond (.tmp 4) c62_6 c62_9
theorem r62_5 : RCnd c62_5 4 c62_6 c62_9 := rCnd
noncomputable def c62_3 : AC := .seq c62_4 c62_5
theorem r62_3 : RSeq c62_3 c62_4 c62_5 := rSeq
noncomputable def c62_12 : AC := .reg [⟨none, .p2 (bin2 P .gtr 3) (.tmp 0) (.cst (AV.int .i64 65536))⟩] [(6, .loc 0)]
theorem r62_12 : RReg c62_12 fun call tm h => match ((match (match tm.gt 0 with | none => none | some a => match bin2 P .gtr 3 a (AV.int .i64 65536) with | none => none | some y => some (y, h)) with | none => none | some r0 => some ([r0.1], r0.2)) : Option (List AV × Heap)) with | none => none | some (loc, h') => match ((match Opd.get (.loc 0) loc .leaf tm with | none => none | some o0 => some (tm.up (some o0) 6)) : Option (Tr AV)) with | none => none | some tm' => some (tm', h') := rReg (by kernel_rfl)
noncomputable def c62_15 : AC := .reg [] [(2, .cst (AV.int .i64 65536))]
theorem r62_15 : RReg c62_15 fun call tm h => some ((tm.up (some (AV.int .i64 65536)) 2), h) := rReg (by kernel_rfl)
noncomputable def c62_16 : AC := .ret
theorem r62_16 : RRet c62_16 .ret := rRet
noncomputable def c62_14 : AC := .seq c62_15 c62_16
theorem r62_14 : RSeq c62_14 c62_15 c62_16 := rSeq
noncomputable def c62_17 : AC := .skip
theorem r62_17 : RRet c62_17 .normal := rSkip
noncomputable def c62_13 : AC := .cond (.tmp 6) c62_14 c62_17
theorem r62_13 : RCnd c62_13 6 c62_14 c62_17 := rCnd
noncomputable def c62_11 : AC := .seq c62_12 c62_13
theorem r62_11 : RSeq c62_11 c62_12 c62_13 := rSeq
noncomputable def c62_19 : AC := .reg [] [(2, .tmp 0)]
theorem r62_19 : RReg c62_19 fun call tm h => match ((match tm.gt 0 with | none => none | some o0 => some (tm.up (some o0) 2)) : Option (Tr AV)) with | none => none | some tm' => some (tm', h) := rReg (by kernel_rfl)
noncomputable def c62_20 : AC := .ret
theorem r62_20 : RRet c62_20 .ret := rRet
noncomputable def c62_18 : AC := .seq c62_19 c62_20
theorem r62_18 : RSeq c62_18 c62_19 c62_20 := rSeq
noncomputable def c62_10 : AC := .seq c62_11 c62_18
theorem r62_10 : RSeq c62_10 c62_11 c62_18 := rSeq
noncomputable def c62_2 : AC := .seq c62_3 c62_10
theorem r62_2 : RSeq c62_2 c62_3 c62_10 := rSeq
noncomputable def c62_0 : AC := .seq c62_1 c62_2
theorem r62_0 : RSeq c62_0 c62_1 c62_2 := rSeq
noncomputable def fn62 : FnA := ⟨c62_0, [.tmp 2], 8, true⟩
theorem f62A : fnA P (keepF P) 62 = some fn62 := by kernel_rfl

noncomputable def c83_1 : AC := .reg [⟨none, .ld1 (.tmp 1)⟩, ⟨none, .cl (.cst (AV.func (Fn.func 84) [] [])) [.loc 0]⟩] [(3, .loc 0)]
theorem r83_1 : RReg c83_1 fun call tm h => match ((match (match tm.gt 1 with | none => none | some a => match load1 h a with | none => none | some y => some (y, h)) with | none => none | some r0 => match (call (.fn 84) [r0.1] r0.2) with | none => none | some r1 => some ([r1.1, r0.1], r1.2)) : Option (List AV × Heap)) with | none => none | some (loc, h') => match ((match Opd.get (.loc 0) loc .leaf tm with | none => none | some o0 => some (tm.up (some o0) 3)) : Option (Tr AV)) with | none => none | some tm' => some (tm', h') := rReg (by kernel_rfl)
noncomputable def c83_3 : AC := .reg [⟨none, .al (fun (_ : List AV) => makeMap1 P 144 true) []⟩] [(4, .loc 0)]
theorem r83_3 : RReg c83_3 fun call tm h => match ((match (match (fun (_ : List AV) => makeMap1 P 144 true) [] with | none => none | some y => some (y.2 h.next, h.new h.next y.1)) with | none => none | some r0 => some ([r0.1], r0.2)) : Option (List AV × Heap)) with | none => none | some (loc, h') => match ((match Opd.get (.loc 0) loc .leaf tm with | none => none | some o0 => some (tm.up (some o0) 4)) : Option (Tr AV)) with | none => none | some tm' => some (tm', h') := rReg (by kernel_rfl)
noncomputable def c83_6 : AC := .reg [⟨none, .pn (l1 (len1 P 142)) [.tmp 3]⟩] [(14, .cst (AV.int .i64 0)), (13, .loc 0), (12, .tmp 3)]
theorem r83_6 : RReg c83_6 fun call tm h => match ((match (match (match tm.gt 3 with | none => none | some a0 => match (some ([] : List AV)) with | none => none | some u0 => some (a0 :: u0)) with | none => none | some us => match l1 (len1 P 142) us with | none => none | some y => some (y, h)) with | none => none | some r0 => some ([r0.1], r0.2)) : Option (List AV × Heap)) with | none => none | some (loc, h') => match ((match Opd.get (.cst (AV.int .i64 0)) loc .leaf tm with | none => none | some o0 => match Opd.get (.loc 0) loc .leaf tm with | none => none | some o1 => match Opd.get (.tmp 3) loc .leaf tm with | none => none | some o2 => some (((tm.up (some o0) 14).up (some o1) 13).up (some o2) 12)) : Option (Tr AV)) with | none => none | some tm' => some (tm', h') := rReg (by kernel_rfl)
noncomputable def c83_10 : AC := .reg [⟨none, .p2 (bin2 P .lss 3) (.tmp 14) (.tmp 13)⟩] [(15, .loc 0)]
theorem r83_10 : RReg c83_10 fun call tm h => match ((match (match tm.gt 14 with | none => none | some a => match tm.gt 13 with | none => none | some b => match bin2 P .lss 3 a b with | none => none | some y => some (y, h)) with | none => none | some r0 => some ([r0.1], r0.2)) : Option (List AV × Heap)) with | none => none | some (loc, h') => match ((match Opd.get (.loc 0) loc .leaf tm with | none => none | some o0 => some (tm.up (some o0) 15)) : Option (Tr AV)) with | none => none | some tm' => some (tm', h') := rReg (by kernel_rfl)
noncomputable def c83_13 : AC := .skip
theorem r83_13 : RRet c83_13 .normal := rSkip
noncomputable def c83_14 : AC := .exit 0
theorem r83_14 : RRet c83_14 (.exit 0) := rExit
noncomputable def c83_12 : AC := .cond (.tmp 15) c83_13 c83_14
theorem r83_12 : RCnd c83_12 15 c83_13 c83_14 := rCnd
noncomputable def c83_18 : AC := .reg [⟨none, .p2 (indexAddr2 P 142) (.tmp 12) (.tmp 14)⟩, ⟨none, .ld1 (.loc 0)⟩] [(6, .loc 0)]
theorem r83_18 : RReg c83_18 fun call tm h => match ((match (match tm.gt 12 with | none => none | some a => match tm.gt 14 with | none => none | some b => match indexAddr2 P 142 a b with | none => none | some y => some (y, h)) with | none => none | some r0 => match (match load1 r0.2 r0.1 with | none => none | some y => some (y, r0.2)) with | none => none | some r1 => some ([r1.1, r0.1], r1.2)) : Option (List AV × Heap)) with | none => none | some (loc, h') => match ((match Opd.get (.loc 0) loc .leaf tm with | none => none | some o0 => some (tm.up (some o0) 6)) : Option (Tr AV)) with | none => none | some tm' => some (tm', h') := rReg (by kernel_rfl)
noncomputable def c83_19 : AC := .reg [⟨none, .ld1 (.tmp 1)⟩, ⟨none, .p2 (indexAddr2 P 41) (.loc 0) (.tmp 6)⟩, ⟨none, .p1 (fieldAddr1 P 53 0) (.loc 0)⟩, ⟨none, .ld1 (.loc 0)⟩, ⟨none, .ef (fun vs _ h => l3 (fun m k v => mapUpd P 144 m k v h) vs) [.tmp 4, .loc 0, .tmp 6]⟩] []
theorem r83_19 : RReg c83_19 fun call tm h => match ((match (match tm.gt 1 with | none => none | some a => match load1 h a with | none => none | some y => some (y, h)) with | none => none | some r0 => match (match tm.gt 6 with | none => none | some b => match indexAddr2 P 41 r0.1 b with | none => none | some y => some (y, r0.2)) with | none => none | some r1 => match (match fieldAddr1 P 53 0 r1.1 with | none => none | some y => some (y, r1.2)) with | none => none | some r2 => match (match load1 r2.2 r2.1 with | none => none | some y => some (y, r2.2)) with | none => none | some r3 => match (match (match tm.gt 4 with | none => none | some a0 => match (match (match tm.gt 6 with | none => none | some a1 => match (some ([] : List AV)) with | none => none | some u1 => some (a1 :: u1)) with | none => none | some u1 => some (r3.1 :: u1)) with | none => none | some u0 => some (a0 :: u0)) with | none => none | some us => (fun vs _ h => l3 (fun m k v => mapUpd P 144 m k v h) vs) us r3.2.next r3.2) with | none => none | some r4 => some ([r4.1, r3.1, r2.1, r1.1, r0.1], r4.2)) : Option (List AV × Heap)) with | none => none | some (_, h') => some (tm, h') := rReg (by kernel_rfl)
noncomputable def c83_17 : AC := .seq c83_18 c83_19
theorem r83_17 : RSeq c83_17 c83_18 c83_19 := rSeq
noncomputable def c83_16 : AC := .block 1 c83_17
theorem r83_16 : RBlk c83_16 1 c83_17 := rBlk
noncomputable def c83_20 : AC := .reg [⟨none, .p2 (bin2 P .add 3) (.tmp 14) (.cst (AV.int .i64 1))⟩] [(14, .loc 0)]
theorem r83_20 : RReg c83_20 fun call tm h => match ((match (match tm.gt 14 with | none => none | some a => match bin2 P .add 3 a (AV.int .i64 1) with | none => none | some y => some (y, h)) with | none => none | some r0 => some ([r0.1], r0.2)) : Option (List AV × Heap)) with | none => none | some (loc, h') => match ((match Opd.get (.loc 0) loc .leaf tm with | none => none | some o0 => some (tm.up (some o0) 14)) : Option (Tr AV)) with | none => none | some tm' => some (tm', h') := rReg (by kernel_rfl)
noncomputable def c83_15 : AC := .seq c83_16 c83_20
theorem r83_15 : RSeq c83_15 c83_16 c83_20 := rSeq
noncomputable def c83_11 : AC := .seq c83_12 c83_15
theorem r83_11 : RSeq c83_11 c83_12 c83_15 := rSeq
noncomputable def c83_9 : AC := .seq c83_10 c83_11
theorem r83_9 : RSeq c83_9 c83_10 c83_11 := rSeq
/- LOOP -/
noncomputable def c83_8 : AC := .loop c83_9
noncomputable def c83_7 : AC := .block 0 c83_8
theorem r83_7 : RBlk c83_7 0 c83_8 := rBlk
noncomputable def c83_5 : AC := .seq c83_6 c83_7
theorem r83_5 : RSeq c83_5 c83_6 c83_7 := rSeq
noncomputable def c83_22 : AC := .reg [⟨none, .pn (l1 (len1 P 142)) [.tmp 3]⟩] [(28, .cst (AV.int .i64 0)), (27, .loc 0), (26, .tmp 3)]
theorem r83_22 : RReg c83_22 fun call tm h => match ((match (match (match tm.gt 3 with | none => none | some a0 => match (some ([] : List AV)) with | none => none | some u0 => some (a0 :: u0)) with | none => none | some us => match l1 (len1 P 142) us with | none => none | some y => some (y, h)) with | none => none | some r0 => some ([r0.1], r0.2)) : Option (List AV × Heap)) with | none => none | some (loc, h') => match ((match Opd.get (.cst (AV.int .i64 0)) loc .leaf tm with | none => none | some o0 => match Opd.get (.loc 0) loc .leaf tm with | none => none | some o1 => match Opd.get (.tmp 3) loc .leaf tm with | none => none | some o2 => some (((tm.up (some o0) 28).up (some o1) 27).up (some o2) 26)) : Option (Tr AV)) with | none => none | some tm' => some (tm', h') := rReg (by kernel_rfl)
noncomputable def c83_26 : AC := .reg [⟨none, .p2 (bin2 P .lss 3) (.tmp 28) (.tmp 27)⟩] [(29, .loc 0)]
theorem r83_26 : RReg c83_26 fun call tm h => match ((match (match tm.gt 28 with | none => none | some a => match tm.gt 27 with | none => none | some b => match bin2 P .lss 3 a b with | none => none | some y => some (y, h)) with | none => none | some r0 => some ([r0.1], r0.2)) : Option (List AV × Heap)) with | none => none | some (loc, h') => match ((match Opd.get (.loc 0) loc .leaf tm with | none => none | some o0 => some (tm.up (some o0) 29)) : Option (Tr AV)) with | none => none | some tm' => some (tm', h') := rReg (by kernel_rfl)
noncomputable def c83_29 : AC := .skip
theorem r83_29 : RRet c83_29 .normal := rSkip
noncomputable def c83_30 : AC := .exit 2
theorem r83_30 : RRet c83_30 (.exit 2) := rExit
noncomputable def c83_28 : AC := .cond (.tmp 29) c83_29 c83_30
theorem r83_28 : RCnd c83_28 29 c83_29 c83_30 := rCnd
noncomputable def c83_34 : AC := .reg [⟨none, .p2 (indexAddr2 P 142) (.tmp 26) (.tmp 28)⟩, ⟨none, .ld1 (.loc 0)⟩] [(8, .loc 0)]
theorem r83_34 : RReg c83_34 fun call tm h => match ((match (match tm.gt 26 with | none => none | some a => match tm.gt 28 with | none => none | some b => match indexAddr2 P 142 a b with | none => none | some y => some (y, h)) with | none => none | some r0 => match (match load1 r0.2 r0.1 with | none => none | some y => some (y, r0.2)) with | none => none | some r1 => some ([r1.1, r0.1], r1.2)) : Option (List AV × Heap)) with | none => none | some (loc, h') => match ((match Opd.get (.loc 0) loc .leaf tm with | none => none | some o0 => some (tm.up (some o0) 8)) : Option (Tr AV)) with | none => none | some tm' => some (tm', h') := rReg (by kernel_rfl)
noncomputable def c83_36 : AC := .reg [⟨none, .ld1 (.tmp 1)⟩, ⟨none, .p2 (indexAddr2 P 41) (.loc 0) (.tmp 8)⟩, ⟨none, .p1 (fieldAddr1 P 53 0) (.loc 0)⟩, ⟨none, .ld1 (.loc 0)⟩, ⟨none, .rd (fun vs h => l2 (fun m k => lookup2 P 144 false m k h) vs) [.tmp 4, .loc 0]⟩, ⟨none, .p2 (bin2 P .neq 3) (.loc 0) (.tmp 8)⟩, ⟨some (.loc 0, true), .mv (.tmp 0)⟩, ⟨some (.loc 1, true), .ld1 (.tmp 1)⟩, ⟨some (.loc 2, true), .mv (.tmp 8)⟩, ⟨some (.loc 3, true), .p2 (indexAddr2 P 41) (.loc 1) (.loc 0)⟩, ⟨some (.loc 4, true), .ldn 4 (.loc 0)⟩, ⟨some (.loc 5, true), .cl (.loc 4) [.loc 0]⟩, ⟨some (.loc 6, true), .p1 (un1 .not) (.loc 0)⟩, ⟨none, .pick (.loc 7) (.loc 0) (.cst (AV.bool false))⟩] [(49, .loc 0)]
theorem r83_36 : RReg c83_36 fun call tm h => match ((match (match tm.gt 1 with | none => none | some a => match load1 h a with | none => none | some y => some (y, h)) with | none => none | some r0 => match (match tm.gt 8 with | none => none | some b => match indexAddr2 P 41 r0.1 b with | none => none | some y => some (y, r0.2)) with | none => none | some r1 => match (match fieldAddr1 P 53 0 r1.1 with | none => none | some y => some (y, r1.2)) with | none => none | some r2 => match (match load1 r2.2 r2.1 with | none => none | some y => some (y, r2.2)) with | none => none | some r3 => match (match (match tm.gt 4 with | none => none | some a0 => match (some [r3.1]) with | none => none | some u0 => some (a0 :: u0)) with | none => none | some us => match (fun vs h => l2 (fun m k => lookup2 P 144 false m k h) vs) us r3.2 with | none => none | some y => some (y, r3.2)) with | none => none | some r4 => match (match tm.gt 8 with | none => none | some b => match bin2 P .neq 3 r4.1 b with | none => none | some y => some (y, r4.2)) with | none => none | some r5 => match (match wanted true r5.1 with | true => (match tm.gt 0 with | none => none | some a => some (a, r5.2)) | false => some (undefA, r5.2)) with | none => none | some r6 => match (match wanted true r5.1 with | true => (match tm.gt 1 with | none => none | some a => match load1 r6.2 a with | none => none | some y => some (y, r6.2)) | false => some (undefA, r6.2)) with | none => none | some r7 => match (match wanted true r5.1 with | true => (match tm.gt 8 with | none => none | some a => some (a, r7.2)) | false => some (undefA, r7.2)) with | none => none | some r8 => match (match wanted true r5.1 with | true => (match indexAddr2 P 41 r7.1 r8.1 with | none => none | some y => some (y, r8.2)) | false => some (undefA, r8.2)) with | none => none | some r9 => match (match wanted true r5.1 with | true => (match loadN 4 r9.2 r9.1 with | none => none | some y => some (y, r9.2)) | false => some (undefA, r9.2)) with | none => none | some r10 => match (match wanted true r5.1 with | true => (applyV call [r10.1] r10.2 r6.1) | false => some (undefA, r10.2)) with | none => none | some r11 => match (match wanted true r5.1 with | true => (match un1 .not r11.1 with | none => none | some y => some (y, r11.2)) | false => some (undefA, r11.2)) with | none => none | some r12 => match (eBool (fun t => match (match t with | true => (some r12.1) | false => (some (AV.bool false))) with | none => none | some y => some (y, r12.2)) r5.1) with | none => none | some r13 => some ([r13.1, r12.1, r11.1, r10.1, r9.1, r8.1, r7.1, r6.1, r5.1, r4.1, r3.1, r2.1, r1.1, r0.1], r13.2)) : Option (List AV × Heap)) with | none => none | some (loc, h') => match ((match Opd.get (.loc 0) loc .leaf tm with | none => none | some o0 => some (tm.up (some o0) 49)) : Option (Tr AV)) with | none => none | some tm' => some (tm', h') := rReg (by kernel_rfl)
noncomputable def c83_38 : AC := .ret
theorem r83_38 : RRet c83_38 .ret := rRet
noncomputable def c83_39 : AC := .skip
theorem r83_39 : RRet c83_39 .normal := rSkip
noncomputable def c83_37 : AC := .cond (.tmp 49) c83_38 c83_39
theorem r83_37 : RCnd c83_37 49 c83_38 c83_39 := rCnd
noncomputable def c83_35 : AC := .seq c83_36 c83_37
theorem r83_35 : RSeq c83_35 c83_36 c83_37 := rSeq
noncomputable def c83_33 : AC := .seq c83_34 c83_35
theorem r83_33 : RSeq c83_33 c83_34 c83_35 := rSeq
noncomputable def c83_32 : AC := .block 3 c83_33
theorem r83_32 : RBlk c83_32 3 c83_33 := rBlk
noncomputable def c83_40 : AC := .reg [⟨none, .p2 (bin2 P .add 3) (.tmp 28) (.cst (AV.int .i64 1))⟩] [(28, .loc 0)]
theorem r83_40 : RReg c83_40 fun call tm h => match ((match (match tm.gt 28 with | none => none | some a => match bin2 P .add 3 a (AV.int .i64 1) with | none => none | some y => some (y, h)) with | none => none | some r0 => some ([r0.1], r0.2)) : Option (List AV × Heap)) with | none => none | some (loc, h') => match ((match Opd.get (.loc 0) loc .leaf tm with | none => none | some o0 => some (tm.up (some o0) 28)) : Option (Tr AV)) with | none => none | some tm' => some (tm', h') := rReg (by kernel_rfl)
noncomputable def c83_31 : AC := .seq c83_32 c83_40
theorem r83_31 : RSeq c83_31 c83_32 c83_40 := rSeq
noncomputable def c83_27 : AC := .seq c83_28 c83_31
theorem r83_27 : RSeq c83_27 c83_28 c83_31 := rSeq
noncomputable def c83_25 : AC := .seq c83_26 c83_27
theorem r83_25 : RSeq c83_25 c83_26 c83_27 := rSeq
/- LOOP -/
noncomputable def c83_24 : AC := .loop c83_25
noncomputable def c83_23 : AC := .block 2 c83_24
theorem r83_23 : RBlk c83_23 2 c83_24 := rBlk
noncomputable def c83_21 : AC := .seq c83_22 c83_23
theorem r83_21 : RSeq c83_21 c83_22 c83_23 := rSeq
noncomputable def c83_4 : AC := .seq c83_5 c83_21
theorem r83_4 : RSeq c83_4 c83_5 c83_21 := rSeq
noncomputable def c83_2 : AC := .seq c83_3 c83_4
theorem r83_2 : RSeq c83_2 c83_3 c83_4 := rSeq
noncomputable def c83_0 : AC := .seq c83_1 c83_2
theorem r83_0 : RSeq c83_0 c83_1 c83_2 := rSeq
noncomputable def fn83 : FnA := ⟨c83_0, [], 51, true⟩
theorem f83A : fnA P (keepF P) 83 = some fn83 := by kernel_rfl

noncomputable def c84_1 : AC := .reg [⟨none, .al (l1 box1) [.tmp 0]⟩] [(2, .cst (AV.slice none 0 0 none)), (1, .loc 0)]
theorem r84_1 : RReg c84_1 fun call tm h => match ((match (match (match tm.gt 0 with | none => none | some a0 => match (some ([] : List AV)) with | none => none | some u0 => some (a0 :: u0)) with | none => none | some us => match l1 box1 us with | none => none | some y => some (y.2 h.next, h.new h.next y.1)) with | none => none | some r0 => some ([r0.1], r0.2)) : Option (List AV × Heap)) with | none => none | some (loc, h') => match ((match Opd.get (.cst (AV.slice none 0 0 none)) loc .leaf tm with | none => none | some o0 => match Opd.get (.loc 0) loc .leaf tm with | none => none | some o1 => some ((tm.up (some o0) 2).up (some o1) 1)) : Option (Tr AV)) with | none => none | some tm' => some (tm', h') := rReg (by kernel_rfl)
noncomputable def c84_3 : AC := .reg [] [(3, .cst (AV.slice none 0 0 none))]
theorem r84_3 : RReg c84_3 fun call tm h => some ((tm.up (some (AV.slice none 0 0 none)) 3), h) := rReg (by kernel_rfl)
noncomputable def c84_6 : AC := .reg [⟨none, .ld1 (.tmp 1)⟩, ⟨none, .pn (l1 (len1 P 41)) [.loc 0]⟩] [(7, .cst (AV.int .i64 0)), (6, .loc 0)]
theorem r84_6 : RReg c84_6 fun call tm h => match ((match (match tm.gt 1 with | none => none | some a => match load1 h a with | none => none | some y => some (y, h)) with | none => none | some r0 => match (match l1 (len1 P 41) [r0.1] with | none => none | some y => some (y, r0.2)) with | none => none | some r1 => some ([r1.1, r0.1], r1.2)) : Option (List AV × Heap)) with | none => none | some (loc, h') => match ((match Opd.get (.cst (AV.int .i64 0)) loc .leaf tm with | none => none | some o0 => match Opd.get (.loc 0) loc .leaf tm with | none => none | some o1 => some ((tm.up (some o0) 7).up (some o1) 6)) : Option (Tr AV)) with | none => none | some tm' => some (tm', h') := rReg (by kernel_rfl)
noncomputable def c84_10 : AC := .reg [⟨none, .p2 (bin2 P .lss 3) (.tmp 7) (.tmp 6)⟩] [(8, .loc 0)]
theorem r84_10 : RReg c84_10 fun call tm h => match ((match (match tm.gt 7 with | none => none | some a => match tm.gt 6 with | none => none | some b => match bin2 P .lss 3 a b with | none => none | some y => some (y, h)) with | none => none | some r0 => some ([r0.1], r0.2)) : Option (List AV × Heap)) with | none => none | some (loc, h') => match ((match Opd.get (.loc 0) loc .leaf tm with | none => none | some o0 => some (tm.up (some o0) 8)) : Option (Tr AV)) with | none => none | some tm' => some (tm', h') := rReg (by kernel_rfl)
noncomputable def c84_13 : AC := .skip
theorem r84_13 : RRet c84_13 .normal := rSkip
noncomputable def c84_14 : AC := .exit 0
theorem r84_14 : RRet c84_14 (.exit 0) := rExit
noncomputable def c84_12 : AC := .cond (.tmp 8) c84_13 c84_14
theorem r84_12 : RCnd c84_12 8 c84_13 c84_14 := rCnd
noncomputable def c84_18 : AC := .reg [] [(4, .tmp 7)]
theorem r84_18 : RReg c84_18 fun call tm h => match ((match tm.gt 7 with | none => none | some o0 => some (tm.up (some o0) 4)) : Option (Tr AV)) with | none => none | some tm' => some (tm', h) := rReg (by kernel_rfl)
noncomputable def c84_19 : AC := .reg [⟨none, .al (buildSliceN P 142 1 [0]) [.tmp 4]⟩, ⟨none, .ef (fun vs id h => l2 (fun s x => appendS P 142 s x id h) vs) [.tmp 3, .loc 0]⟩] [(3, .loc 0)]
theorem r84_19 : RReg c84_19 fun call tm h => match ((match (match (match tm.gt 4 with | none => none | some a0 => match (some ([] : List AV)) with | none => none | some u0 => some (a0 :: u0)) with | none => none | some us => match buildSliceN P 142 1 [0] us with | none => none | some y => some (y.2 h.next, h.new h.next y.1)) with | none => none | some r0 => match (match (match tm.gt 3 with | none => none | some a0 => match (some [r0.1]) with | none => none | some u0 => some (a0 :: u0)) with | none => none | some us => (fun vs id h => l2 (fun s x => appendS P 142 s x id h) vs) us r0.2.next r0.2) with | none => none | some r1 => some ([r1.1, r0.1], r1.2)) : Option (List AV × Heap)) with | none => none | some (loc, h') => match ((match Opd.get (.loc 0) loc .leaf tm with | none => none | some o0 => some (tm.up (some o0) 3)) : Option (Tr AV)) with | none => none | some tm' => some (tm', h') := rReg (by kernel_rfl)
noncomputable def c84_17 : AC := .seq c84_18 c84_19
theorem r84_17 : RSeq c84_17 c84_18 c84_19 := rSeq
noncomputable def c84_16 : AC := .block 1 c84_17
theorem r84_16 : RBlk c84_16 1 c84_17 := rBlk
noncomputable def c84_20 : AC := .reg [⟨none, .p2 (bin2 P .add 3) (.tmp 7) (.cst (AV.int .i64 1))⟩] [(7, .loc 0)]
theorem r84_20 : RReg c84_20 fun call tm h => match ((match (match tm.gt 7 with | none => none | some a => match bin2 P .add 3 a (AV.int .i64 1) with | none => none | some y => some (y, h)) with | none => none | some r0 => some ([r0.1], r0.2)) : Option (List AV × Heap)) with | none => none | some (loc, h') => match ((match Opd.get (.loc 0) loc .leaf tm with | none => none | some o0 => some (tm.up (some o0) 7)) : Option (Tr AV)) with | none => none | some tm' => some (tm', h') := rReg (by kernel_rfl)
noncomputable def c84_15 : AC := .seq c84_16 c84_20
theorem r84_15 : RSeq c84_15 c84_16 c84_20 := rSeq
noncomputable def c84_11 : AC := .seq c84_12 c84_15
theorem r84_11 : RSeq c84_11 c84_12 c84_15 := rSeq
noncomputable def c84_9 : AC := .seq c84_10 c84_11
theorem r84_9 : RSeq c84_9 c84_10 c84_11 := rSeq
/- LOOP -/
noncomputable def c84_8 : AC := .loop c84_9
noncomputable def c84_7 : AC := .block 0 c84_8
theorem r84_7 : RBlk c84_7 0 c84_8 := rBlk
noncomputable def c84_5 : AC := .seq c84_6 c84_7
theorem r84_5 : RSeq c84_5 c84_6 c84_7 := rSeq
noncomputable def c84_22 : AC := .reg [⟨none, .pn (mkFunc (Fn.func 98) 0) [.tmp 1]⟩, ⟨none, .cl (.cst (AV.func (Fn.func 97) [] [])) [.tmp 3, .loc 0]⟩] []
theorem r84_22 : RReg c84_22 fun call tm h => match ((match (match (match tm.gt 1 with | none => none | some a0 => match (some ([] : List AV)) with | none => none | some u0 => some (a0 :: u0)) with | none => none | some us => match mkFunc (Fn.func 98) 0 us with | none => none | some y => some (y, h)) with | none => none | some r0 => match (match (match tm.gt 3 with | none => none | some a0 => match (some [r0.1]) with | none => none | some u0 => some (a0 :: u0)) with | none => none | some us => call (.fn 97) (app' [] (app' us [])) r0.2) with | none => none | some r1 => some ([r1.1, r0.1], r1.2)) : Option (List AV × Heap)) with | none => none | some (_, h') => some (tm, h') := rReg (by kernel_rfl)
noncomputable def c84_24 : AC := .reg [] [(2, .tmp 3)]
theorem r84_24 : RReg c84_24 fun call tm h => match ((match tm.gt 3 with | none => none | some o0 => some (tm.up (some o0) 2)) : Option (Tr AV)) with | none => none | some tm' => some (tm', h) := rReg (by kernel_rfl)
noncomputable def c84_25 : AC := .ret
theorem r84_25 : RRet c84_25 .ret := rRet
noncomputable def c84_23 : AC := .seq c84_24 c84_25
theorem r84_23 : RSeq c84_23 c84_24 c84_25 := rSeq
noncomputable def c84_21 : AC := .seq c84_22 c84_23
theorem r84_21 : RSeq c84_21 c84_22 c84_23 := rSeq
noncomputable def c84_4 : AC := .seq c84_5 c84_21
theorem r84_4 : RSeq c84_4 c84_5 c84_21 := rSeq
noncomputable def c84_2 : AC := .seq c84_3 c84_4
theorem r84_2 : RSeq c84_2 c84_3 c84_4 := rSeq
noncomputable def c84_0 : AC := .seq c84_1 c84_2
theorem r84_0 : RSeq c84_0 c84_1 c84_2 := rSeq
noncomputable def fn84 : FnA := ⟨c84_0, [.tmp 2], 19, true⟩
theorem f84A : fnA P (keepF P) 84 = some fn84 := by kernel_rfl

noncomputable def c85_1 : AC := .reg [] [(4, .cst (AV.bool false))]
theorem r85_1 : RReg c85_1 fun call tm h => some ((tm.up (some (AV.bool false)) 4), h) := rReg (by kernel_rfl)
noncomputable def c85_4 : AC := .reg [] [(5, .cst (AV.int .i64 0))]
theorem r85_4 : RReg c85_4 fun call tm h => some ((tm.up (some (AV.int .i64 0)) 5), h) := rReg (by kernel_rfl)
noncomputable def c85_9 : AC := .reg [⟨none, .pn (l1 (len1 P 47)) [.tmp 0]⟩, ⟨none, .p2 (bin2 P .lss 3) (.tmp 5) (.loc 0)⟩] [(9, .loc 0)]
theorem r85_9 : RReg c85_9 fun call tm h => match ((match (match (match tm.gt 0 with | none => none | some a0 => match (some ([] : List AV)) with | none => none | some u0 => some (a0 :: u0)) with | none => none | some us => match l1 (len1 P 47) us with | none => none | some y => some (y, h)) with | none => none | some r0 => match (match tm.gt 5 with | none => none | some a => match bin2 P .lss 3 a r0.1 with | none => none | some y => some (y, r0.2)) with | none => none | some r1 => some ([r1.1, r0.1], r1.2)) : Option (List AV × Heap)) with | none => none | some (loc, h') => match ((match Opd.get (.loc 0) loc .leaf tm with | none => none | some o0 => some (tm.up (some o0) 9)) : Option (Tr AV)) with | none => none | some tm' => some (tm', h') := rReg (by kernel_rfl)
noncomputable def c85_11 : AC := .skip
theorem r85_11 : RRet c85_11 .normal := rSkip
noncomputable def c85_12 : AC := .exit 0
theorem r85_12 : RRet c85_12 (.exit 0) := rExit
noncomputable def c85_10 : AC := .cond (.tmp 9) c85_11 c85_12
theorem r85_10 : RCnd c85_10 9 c85_11 c85_12 := rCnd
noncomputable def c85_8 : AC := .seq c85_9 c85_10
theorem r85_8 : RSeq c85_8 c85_9 c85_10 := rSeq
noncomputable def c85_16g : List (Nat × GIns) := [(0, ⟨none, .mv (.tmp 0)⟩), (1, ⟨none, .mv (.tmp 5)⟩), (2, ⟨none, .p2 (indexAddr2 P 47) (.opi 0) (.opi 1)⟩), (3, ⟨none, .p1 (fieldAddr1 P 101 0) (.opi 2)⟩), (4, ⟨none, .ld1 (.opi 3)⟩), (5, ⟨none, .mv (.tmp 0)⟩), (6, ⟨none, .mv (.tmp 1)⟩), (7, ⟨none, .p2 (indexAddr2 P 47) (.opi 5) (.opi 6)⟩), (8, ⟨none, .p1 (fieldAddr1 P 101 0) (.opi 7)⟩), (9, ⟨none, .ld1 (.opi 8)⟩), (10, ⟨none, .p2 (bin2 P .eql 9) (.opi 4) (.opi 9)⟩), (11, ⟨none, .mv (.opi 10)⟩), (12, ⟨some (.opi 11, true), .mv (.tmp 0)⟩), (13, ⟨some (.opi 11, true), .mv (.tmp 1)⟩), (14, ⟨some (.opi 11, true), .mv (.tmp 5)⟩), (15, ⟨some (.opi 11, true), .cl (.cst (AV.func (Fn.func 86) [] [])) [.opi 12, .opi 13, .opi 14]⟩), (16, ⟨none, .pick (.opi 11) (.opi 15) (.cst (AV.bool false))⟩)]
noncomputable def c85_16 : AC := .draw 17 (stagesOf #[0, 0, 3, 7, 15, 0, 0, 96, 224, 480, 1023, 2047, 4095, 4095, 4095, 32767, 65535] c85_16g [15] 0 (c85_16g.filter fun x => x.2.i.eff)) [(28, 16)]
theorem r85_16 : RReg c85_16 fun call tm h => match (let base := h.next; let vs : Tr AV := .leaf; let h := Heap.mk h.bs (h.next + 17); ((match ((match (match (match tm.gt 0 with | none => none | some a => some (a, h)) with | none => none | some y => some y.1) with | none => none | some v => let vs := vs.up (some v) 0; match (match (match tm.gt 5 with | none => none | some a => some (a, h)) with | none => none | some y => some y.1) with | none => none | some v => let vs := vs.up (some v) 1; match (match (match vs.gt 0 with | none => none | some a => match vs.gt 1 with | none => none | some b => match indexAddr2 P 47 a b with | none => none | some y => some (y, h)) with | none => none | some y => some y.1) with | none => none | some v => let vs := vs.up (some v) 2; match (match (match vs.gt 2 with | none => none | some a => match fieldAddr1 P 101 0 a with | none => none | some y => some (y, h)) with | none => none | some y => some y.1) with | none => none | some v => let vs := vs.up (some v) 3; match (match (match vs.gt 3 with | none => none | some a => match load1 h a with | none => none | some y => some (y, h)) with | none => none | some y => some y.1) with | none => none | some v => let vs := vs.up (some v) 4; match (match (match tm.gt 0 with | none => none | some a => some (a, h)) with | none => none | some y => some y.1) with | none => none | some v => let vs := vs.up (some v) 5; match (match (match tm.gt 1 with | none => none | some a => some (a, h)) with | none => none | some y => some y.1) with | none => none | some v => let vs := vs.up (some v) 6; match (match (match vs.gt 5 with | none => none | some a => match vs.gt 6 with | none => none | some b => match indexAddr2 P 47 a b with | none => none | some y => some (y, h)) with | none => none | some y => some y.1) with | none => none | some v => let vs := vs.up (some v) 7; match (match (match vs.gt 7 with | none => none | some a => match fieldAddr1 P 101 0 a with | none => none | some y => some (y, h)) with | none => none | some y => some y.1) with | none => none | some v => let vs := vs.up (some v) 8; match (match (match vs.gt 8 with | none => none | some a => match load1 h a with | none => none | some y => some (y, h)) with | none => none | some y => some y.1) with | none => none | some v => let vs := vs.up (some v) 9; match (match (match vs.gt 4 with | none => none | some a => match vs.gt 9 with | none => none | some b => match bin2 P .eql 9 a b with | none => none | some y => some (y, h)) with | none => none | some y => some y.1) with | none => none | some v => let vs := vs.up (some v) 10; match (match (match vs.gt 10 with | none => none | some a => some (a, h)) with | none => none | some y => some y.1) with | none => none | some v => let vs := vs.up (some v) 11; match (match vs.gt 11 with | none => none | some g => match wanted true g with | true => (match (match tm.gt 0 with | none => none | some a => some (a, h)) with | none => none | some y => some y.1) | false => some undefA) with | none => none | some v => let vs := vs.up (some v) 12; match (match vs.gt 11 with | none => none | some g => match wanted true g with | true => (match (match tm.gt 1 with | none => none | some a => some (a, h)) with | none => none | some y => some y.1) | false => some undefA) with | none => none | some v => let vs := vs.up (some v) 13; match (match vs.gt 11 with | none => none | some g => match wanted true g with | true => (match (match tm.gt 5 with | none => none | some a => some (a, h)) with | none => none | some y => some y.1) | false => some undefA) with | none => none | some v => let vs := vs.up (some v) 14; some vs) : Option (Tr AV)) with | none => none | some vs => match (match vs.gt 11 with | none => none | some g => match wanted true g with | true => (match (match vs.gt 12 with | none => none | some a0 => match (match vs.gt 13 with | none => none | some a1 => match (match vs.gt 14 with | none => none | some a2 => match (some ([] : List AV)) with | none => none | some u2 => some (a2 :: u2)) with | none => none | some u1 => some (a1 :: u1)) with | none => none | some u0 => some (a0 :: u0)) with | none => none | some us => call (.fn 86) (app' [] (app' us [])) h) | false => some (undefA, h)) with | none => none | some r => let vs := vs.up (some r.1) 15; let h := r.2; match ((match (match (match vs.gt 11 with | none => none | some c => eBool (fun t => match (match t with | true => (vs.gt 15) | false => (some (AV.bool false))) with | none => none | some y => some (y, h)) c) with | none => none | some y => some y.1) with | none => none | some v => let vs := vs.up (some v) 16; some vs) : Option (Tr AV)) with | none => none | some vs => some (vs, h)) : Option (Tr AV × Heap))) with | none => none | some (vs, h') => match ((match vs.gt 16 with | none => none | some o0 => some (tm.up (some o0) 28)) : Option (Tr AV)) with | none => none | some tm' => some (tm', h') := rDrw (by kernel_rfl)
noncomputable def c85_19 : AC := .reg [] [(4, .cst (AV.bool false))]
theorem r85_19 : RReg c85_19 fun call tm h => some ((tm.up (some (AV.bool false)) 4), h) := rReg (by kernel_rfl)
noncomputable def c85_20 : AC := .ret
theorem r85_20 : RRet c85_20 .ret := rRet
noncomputable def c85_18 : AC := .seq c85_19 c85_20
theorem r85_18 : RSeq c85_18 c85_19 c85_20 := rSeq
noncomputable def c85_21 : AC := .skip
theorem r85_21 : RRet c85_21 .normal := rSkip
noncomputable def c85_17 : AC := .cond (.tmp 28) c85_18 c85_21
theorem r85_17 : RCnd c85_17 28 c85_18 c85_21 := rCnd
noncomputable def c85_15 : AC := .seq c85_16 c85_17
theorem r85_15 : RSeq c85_15 c85_16 c85_17 := rSeq
noncomputable def c85_14 : AC := .block 1 c85_15
theorem r85_14 : RBlk c85_14 1 c85_15 := rBlk
noncomputable def c85_22 : AC := .reg [⟨none, .p2 (bin2 P .add 3) (.tmp 5) (.cst (AV.int .i64 1))⟩] [(5, .loc 0)]
theorem r85_22 : RReg c85_22 fun call tm h => match ((match (match tm.gt 5 with | none => none | some a => match bin2 P .add 3 a (AV.int .i64 1) with | none => none | some y => some (y, h)) with | none => none | some r0 => some ([r0.1], r0.2)) : Option (List AV × Heap)) with | none => none | some (loc, h') => match ((match Opd.get (.loc 0) loc .leaf tm with | none => none | some o0 => some (tm.up (some o0) 5)) : Option (Tr AV)) with | none => none | some tm' => some (tm', h') := rReg (by kernel_rfl)
noncomputable def c85_13 : AC := .seq c85_14 c85_22
theorem r85_13 : RSeq c85_13 c85_14 c85_22 := rSeq
noncomputable def c85_7 : AC := .seq c85_8 c85_13
theorem r85_7 : RSeq c85_7 c85_8 c85_13 := rSeq
/- LOOP -/
noncomputable def c85_6 : AC := .loop c85_7
noncomputable def c85_5 : AC := .block 0 c85_6
theorem r85_5 : RBlk c85_5 0 c85_6 := rBlk
noncomputable def c85_3 : AC := .seq c85_4 c85_5
theorem r85_3 : RSeq c85_3 c85_4 c85_5 := rSeq
noncomputable def c85_24 : AC := .reg [] [(4, .cst (AV.bool true))]
theorem r85_24 : RReg c85_24 fun call tm h => some ((tm.up (some (AV.bool true)) 4), h) := rReg (by kernel_rfl)
noncomputable def c85_25 : AC := .ret
theorem r85_25 : RRet c85_25 .ret := rRet
noncomputable def c85_23 : AC := .seq c85_24 c85_25
theorem r85_23 : RSeq c85_23 c85_24 c85_25 := rSeq
noncomputable def c85_2 : AC := .seq c85_3 c85_23
theorem r85_2 : RSeq c85_2 c85_3 c85_23 := rSeq
noncomputable def c85_0 : AC := .seq c85_1 c85_2
theorem r85_0 : RSeq c85_0 c85_1 c85_2 := rSeq
noncomputable def fn85 : FnA := ⟨c85_0, [.tmp 4], 29, true⟩
theorem f85A : fnA P (keepF P) 85 = some fn85 := by kernel_rfl

noncomputable def c86_1 : AC := .reg [] [(6, .cst (AV.bool false))]
theorem r86_1 : RReg c86_1 fun call tm h => some ((tm.up (some (AV.bool false)) 6), h) := rReg (by kernel_rfl)
noncomputable def c86_4g : List (Nat × GIns) := [(0, ⟨none, .mv (.tmp 0)⟩), (1, ⟨none, .mv (.tmp 1)⟩), (2, ⟨none, .p2 (indexAddr2 P 47) (.opi 0) (.opi 1)⟩), (3, ⟨none, .p1 (fieldAddr1 P 101 2) (.opi 2)⟩), (4, ⟨none, .ld1 (.opi 3)⟩), (5, ⟨none, .mv (.tmp 0)⟩), (6, ⟨none, .mv (.tmp 2)⟩), (7, ⟨none, .p2 (indexAddr2 P 47) (.opi 5) (.opi 6)⟩), (8, ⟨none, .p1 (fieldAddr1 P 101 2) (.opi 7)⟩), (9, ⟨none, .ld1 (.opi 8)⟩), (10, ⟨none, .p2 (bin2 P .neq 27) (.opi 4) (.opi 9)⟩)]
noncomputable def c86_4 : AC := .draw 11 (stagesOf #[0, 0, 3, 7, 15, 0, 0, 96, 224, 480, 1023] c86_4g [] 0 (c86_4g.filter fun x => x.2.i.eff)) [(17, 10)]
theorem r86_4 : RReg c86_4 fun call tm h => match (let base := h.next; let vs : Tr AV := .leaf; let h := Heap.mk h.bs (h.next + 11); ((match ((match (match (match tm.gt 0 with | none => none | some a => some (a, h)) with | none => none | some y => some y.1) with | none => none | some v => let vs := vs.up (some v) 0; match (match (match tm.gt 1 with | none => none | some a => some (a, h)) with | none => none | some y => some y.1) with | none => none | some v => let vs := vs.up (some v) 1; match (match (match vs.gt 0 with | none => none | some a => match vs.gt 1 with | none => none | some b => match indexAddr2 P 47 a b with | none => none | some y => some (y, h)) with | none => none | some y => some y.1) with | none => none | some v => let vs := vs.up (some v) 2; match (match (match vs.gt 2 with | none => none | some a => match fieldAddr1 P 101 2 a with | none => none | some y => some (y, h)) with | none => none | some y => some y.1) with | none => none | some v => let vs := vs.up (some v) 3; match (match (match vs.gt 3 with | none => none | some a => match load1 h a with | none => none | some y => some (y, h)) with | none => none | some y => some y.1) with | none => none | some v => let vs := vs.up (some v) 4; match (match (match tm.gt 0 with | none => none | some a => some (a, h)) with | none => none | some y => some y.1) with | none => none | some v => let vs := vs.up (some v) 5; match (match (match tm.gt 2 with | none => none | some a => some (a, h)) with | none => none | some y => some y.1) with | none => none | some v => let vs := vs.up (some v) 6; match (match (match vs.gt 5 with | none => none | some a => match vs.gt 6 with | none => none | some b => match indexAddr2 P 47 a b with | none => none | some y => some (y, h)) with | none => none | some y => some y.1) with | none => none | some v => let vs := vs.up (some v) 7; match (match (match vs.gt 7 with | none => none | some a => match fieldAddr1 P 101 2 a with | none => none | some y => some (y, h)) with | none => none | some y => some y.1) with | none => none | some v => let vs := vs.up (some v) 8; match (match (match vs.gt 8 with | none => none | some a => match load1 h a with | none => none | some y => some (y, h)) with | none => none | some y => some y.1) with | none => none | some v => let vs := vs.up (some v) 9; match (match (match vs.gt 4 with | none => none | some a => match vs.gt 9 with | none => none | some b => match bin2 P .neq 27 a b with | none => none | some y => some (y, h)) with | none => none | some y => some y.1) with | none => none | some v => let vs := vs.up (some v) 10; some vs) : Option (Tr AV)) with | none => none | some vs => some (vs, h)) : Option (Tr AV × Heap))) with | none => none | some (vs, h') => match ((match vs.gt 10 with | none => none | some o0 => some (tm.up (some o0) 17)) : Option (Tr AV)) with | none => none | some tm' => some (tm', h') := rDrw (by kernel_rfl)
noncomputable def c86_7g : List (Nat × GIns) := [(0, ⟨none, .mv (.tmp 0)⟩), (1, ⟨none, .mv (.tmp 1)⟩), (2, ⟨none, .p2 (indexAddr2 P 47) (.opi 0) (.opi 1)⟩), (3, ⟨none, .p1 (fieldAddr1 P 101 2) (.opi 2)⟩), (4, ⟨none, .ld1 (.opi 3)⟩), (5, ⟨none, .mv (.tmp 0)⟩), (6, ⟨none, .mv (.tmp 2)⟩), (7, ⟨none, .p2 (indexAddr2 P 47) (.opi 5) (.opi 6)⟩), (8, ⟨none, .p1 (fieldAddr1 P 101 2) (.opi 7)⟩), (9, ⟨none, .ld1 (.opi 8)⟩), (10, ⟨none, .p2 (bin2 P .lss 27) (.opi 4) (.opi 9)⟩), (11, ⟨none, .mv (.opi 10)⟩)]
noncomputable def c86_7 : AC := .draw 12 (stagesOf #[0, 0, 3, 7, 15, 0, 0, 96, 224, 480, 1023, 2047] c86_7g [] 0 (c86_7g.filter fun x => x.2.i.eff)) [(6, 11)]
theorem r86_7 : RReg c86_7 fun call tm h => match (let base := h.next; let vs : Tr AV := .leaf; let h := Heap.mk h.bs (h.next + 12); ((match ((match (match (match tm.gt 0 with | none => none | some a => some (a, h)) with | none => none | some y => some y.1) with | none => none | some v => let vs := vs.up (some v) 0; match (match (match tm.gt 1 with | none => none | some a => some (a, h)) with | none => none | some y => some y.1) with | none => none | some v => let vs := vs.up (some v) 1; match (match (match vs.gt 0 with | none => none | some a => match vs.gt 1 with | none => none | some b => match indexAddr2 P 47 a b with | none => none | some y => some (y, h)) with | none => none | some y => some y.1) with | none => none | some v => let vs := vs.up (some v) 2; match (match (match vs.gt 2 with | none => none | some a => match fieldAddr1 P 101 2 a with | none => none | some y => some (y, h)) with | none => none | some y => some y.1) with | none => none | some v => let vs := vs.up (some v) 3; match (match (match vs.gt 3 with | none => none | some a => match load1 h a with | none => none | some y => some (y, h)) with | none => none | some y => some y.1) with | none => none | some v => let vs := vs.up (some v) 4; match (match (match tm.gt 0 with | none => none | some a => some (a, h)) with | none => none | some y => some y.1) with | none => none | some v => let vs := vs.up (some v) 5; match (match (match tm.gt 2 with | none => none | some a => some (a, h)) with | none => none | some y => some y.1) with | none => none | some v => let vs := vs.up (some v) 6; match (match (match vs.gt 5 with | none => none | some a => match vs.gt 6 with | none => none | some b => match indexAddr2 P 47 a b with | none => none | some y => some (y, h)) with | none => none | some y => some y.1) with | none => none | some v => let vs := vs.up (some v) 7; match (match (match vs.gt 7 with | none => none | some a => match fieldAddr1 P 101 2 a with | none => none | some y => some (y, h)) with | none => none | some y => some y.1) with | none => none | some v => let vs := vs.up (some v) 8; match (match (match vs.gt 8 with | none => none | some a => match load1 h a with | none => none | some y => some (y, h)) with | none => none | some y => some y.1) with | none => none | some v => let vs := vs.up (some v) 9; match (match (match vs.gt 4 with | none => none | some a => match vs.gt 9 with | none => none | some b => match bin2 P .lss 27 a b with | none => none | some y => some (y, h)) with | none => none | some y => some y.1) with | none => none | some v => let vs := vs.up (some v) 10; match (match (match vs.gt 10 with | none => none | some a => some (a, h)) with | none => none | some y => some y.1) with | none => none | some v => let vs := vs.up (some v) 11; some vs) : Option (Tr AV)) with | none => none | some vs => some (vs, h)) : Option (Tr AV × Heap))) with | none => none | some (vs, h') => match ((match vs.gt 11 with | none => none | some o0 => some (tm.up (some o0) 6)) : Option (Tr AV)) with | none => none | some tm' => some (tm', h') := rDrw (by kernel_rfl)
noncomputable def c86_8 : AC := .ret
theorem r86_8 : RRet c86_8 .ret := rRet
noncomputable def c86_6 : AC := .seq c86_7 c86_8
theorem r86_6 : RSeq c86_6 c86_7 c86_8 := rSeq
noncomputable def c86_9 : AC := .skip
theorem r86_9 : RRet c86_9 .normal := rSkip
noncomputable def c86_5 : AC := .cond (.tmp 17) c86_6 c86_9
theorem r86_5 : RCnd c86_5 17 c86_6 c86_9 := rCnd
noncomputable def c86_3 : AC := .seq c86_4 c86_5
theorem r86_3 : RSeq c86_3 c86_4 c86_5 := rSeq
noncomputable def c86_12g : List (Nat × GIns) := [(0, ⟨none, .mv (.tmp 0)⟩), (1, ⟨none, .mv (.tmp 1)⟩), (2, ⟨none, .p2 (indexAddr2 P 47) (.opi 0) (.opi 1)⟩), (3, ⟨none, .p1 (fieldAddr1 P 101 1) (.opi 2)⟩), (4, ⟨none, .ld1 (.opi 3)⟩), (5, ⟨none, .mv (.tmp 0)⟩), (6, ⟨none, .mv (.tmp 2)⟩), (7, ⟨none, .p2 (indexAddr2 P 47) (.opi 5) (.opi 6)⟩), (8, ⟨none, .p1 (fieldAddr1 P 101 1) (.opi 7)⟩), (9, ⟨none, .ld1 (.opi 8)⟩), (10, ⟨none, .p2 (bin2 P .neq 27) (.opi 4) (.opi 9)⟩)]
noncomputable def c86_12 : AC := .draw 11 (stagesOf #[0, 0, 3, 7, 15, 0, 0, 96, 224, 480, 1023] c86_12g [] 0 (c86_12g.filter fun x => x.2.i.eff)) [(39, 10)]
theorem r86_12 : RReg c86_12 fun call tm h => match (let base := h.next; let vs : Tr AV := .leaf; let h := Heap.mk h.bs (h.next + 11); ((match ((match (match (match tm.gt 0 with | none => none | some a => some (a, h)) with | none => none | some y => some y.1) with | none => none | some v => let vs := vs.up (some v) 0; match (match (match tm.gt 1 with | none => none | some a => some (a, h)) with | none => none | some y => some y.1) with | none => none | some v => let vs := vs.up (some v) 1; match (match (match vs.gt 0 with | none => none | some a => match vs.gt 1 with | none => none | some b => match indexAddr2 P 47 a b with | none => none | some y => some (y, h)) with | none => none | some y => some y.1) with | none => none | some v => let vs := vs.up (some v) 2; match (match (match vs.gt 2 with | none => none | some a => match fieldAddr1 P 101 1 a with | none => none | some y => some (y, h)) with | none => none | some y => some y.1) with | none => none | some v => let vs := vs.up (some v) 3; match (match (match vs.gt 3 with | none => none | some a => match load1 h a with | none => none | some y => some (y, h)) with | none => none | some y => some y.1) with | none => none | some v => let vs := vs.up (some v) 4; match (match (match tm.gt 0 with | none => none | some a => some (a, h)) with | none => none | some y => some y.1) with | none => none | some v => let vs := vs.up (some v) 5; match (match (match tm.gt 2 with | none => none | some a => some (a, h)) with | none => none | some y => some y.1) with | none => none | some v => let vs := vs.up (some v) 6; match (match (match vs.gt 5 with | none => none | some a => match vs.gt 6 with | none => none | some b => match indexAddr2 P 47 a b with | none => none | some y => some (y, h)) with | none => none | some y => some y.1) with | none => none | some v => let vs := vs.up (some v) 7; match (match (match vs.gt 7 with | none => none | some a => match fieldAddr1 P 101 1 a with | none => none | some y => some (y, h)) with | none => none | some y => some y.1) with | none => none | some v => let vs := vs.up (some v) 8; match (match (match vs.gt 8 with | none => none | some a => match load1 h a with | none => none | some y => some (y, h)) with | none => none | some y => some y.1) with | none => none | some v => let vs := vs.up (some v) 9; match (match (match vs.gt 4 with | none => none | some a => match vs.gt 9 with | none => none | some b => match bin2 P .neq 27 a b with | none => none | some y => some (y, h)) with | none => none | some y => some y.1) with | none => none | some v => let vs := vs.up (some v) 10; some vs) : Option (Tr AV)) with | none => none | some vs => some (vs, h)) : Option (Tr AV × Heap))) with | none => none | some (vs, h') => match ((match vs.gt 10 with | none => none | some o0 => some (tm.up (some o0) 39)) : Option (Tr AV)) with | none => none | some tm' => some (tm', h') := rDrw (by kernel_rfl)
noncomputable def c86_15g : List (Nat × GIns) := [(0, ⟨none, .mv (.tmp 0)⟩), (1, ⟨none, .mv (.tmp 1)⟩), (2, ⟨none, .p2 (indexAddr2 P 47) (.opi 0) (.opi 1)⟩), (3, ⟨none, .p1 (fieldAddr1 P 101 1) (.opi 2)⟩), (4, ⟨none, .ld1 (.opi 3)⟩), (5, ⟨none, .mv (.tmp 0)⟩), (6, ⟨none, .mv (.tmp 2)⟩), (7, ⟨none, .p2 (indexAddr2 P 47) (.opi 5) (.opi 6)⟩), (8, ⟨none, .p1 (fieldAddr1 P 101 1) (.opi 7)⟩), (9, ⟨none, .ld1 (.opi 8)⟩), (10, ⟨none, .p2 (bin2 P .lss 27) (.opi 4) (.opi 9)⟩), (11, ⟨none, .mv (.opi 10)⟩)]
noncomputable def c86_15 : AC := .draw 12 (stagesOf #[0, 0, 3, 7, 15, 0, 0, 96, 224, 480, 1023, 2047] c86_15g [] 0 (c86_15g.filter fun x => x.2.i.eff)) [(6, 11)]
theorem r86_15 : RReg c86_15 fun call tm h => match (let base := h.next; let vs : Tr AV := .leaf; let h := Heap.mk h.bs (h.next + 12); ((match ((match (match (match tm.gt 0 with | none => none | some a => some (a, h)) with | none => none | some y => some y.1) with | none => none | some v => let vs := vs.up (some v) 0; match (match (match tm.gt 1 with | none => none | some a => some (a, h)) with | none => none | some y => some y.1) with | none => none | some v => let vs := vs.up (some v) 1; match (match (match vs.gt 0 with | none => none | some a => match vs.gt 1 with | none => none | some b => match indexAddr2 P 47 a b with | none => none | some y => some (y, h)) with | none => none | some y => some y.1) with | none => none | some v => let vs := vs.up (some v) 2; match (match (match vs.gt 2 with | none => none | some a => match fieldAddr1 P 101 1 a with | none => none | some y => some (y, h)) with | none => none | some y => some y.1) with | none => none | some v => let vs := vs.up (some v) 3; match (match (match vs.gt 3 with | none => none | some a => match load1 h a with | none => none | some y => some (y, h)) with | none => none | some y => some y.1) with | none => none | some v => let vs := vs.up (some v) 4; match (match (match tm.gt 0 with | none => none | some a => some (a, h)) with | none => none | some y => some y.1) with | none => none | some v => let vs := vs.up (some v) 5; match (match (match tm.gt 2 with | none => none | some a => some (a, h)) with | none => none | some y => some y.1) with | none => none | some v => let vs := vs.up (some v) 6; match (match (match vs.gt 5 with | none => none | some a => match vs.gt 6 with | none => none | some b => match indexAddr2 P 47 a b with | none => none | some y => some (y, h)) with | none => none | some y => some y.1) with | none => none | some v => let vs := vs.up (some v) 7; match (match (match vs.gt 7 with | none => none | some a => match fieldAddr1 P 101 1 a with | none => none | some y => some (y, h)) with | none => none | some y => some y.1) with | none => none | some v => let vs := vs.up (some v) 8; match (match (match vs.gt 8 with | none => none | some a => match load1 h a with | none => none | some y => some (y, h)) with | none => none | some y => some y.1) with | none => none | some v => let vs := vs.up (some v) 9; match (match (match vs.gt 4 with | none => none | some a => match vs.gt 9 with | none => none | some b => match bin2 P .lss 27 a b with | none => none | some y => some (y, h)) with | none => none | some y => some y.1) with | none => none | some v => let vs := vs.up (some v) 10; match (match (match vs.gt 10 with | none => none | some a => some (a, h)) with | none => none | some y => some y.1) with | none => none | some v => let vs := vs.up (some v) 11; some vs) : Option (Tr AV)) with | none => none | some vs => some (vs, h)) : Option (Tr AV × Heap))) with | none => none | some (vs, h') => match ((match vs.gt 11 with | none => none | some o0 => some (tm.up (some o0) 6)) : Option (Tr AV)) with | none => none | some tm' => some (tm', h') := rDrw (by kernel_rfl)
noncomputable def c86_16 : AC := .ret
theorem r86_16 : RRet c86_16 .ret := rRet
noncomputable def c86_14 : AC := .seq c86_15 c86_16
theorem r86_14 : RSeq c86_14 c86_15 c86_16 := rSeq
noncomputable def c86_17 : AC := .skip
theorem r86_17 : RRet c86_17 .normal := rSkip
noncomputable def c86_13 : AC := .cond (.tmp 39) c86_14 c86_17
theorem r86_13 : RCnd c86_13 39 c86_14 c86_17 := rCnd
noncomputable def c86_11 : AC := .seq c86_12 c86_13
theorem r86_11 : RSeq c86_11 c86_12 c86_13 := rSeq
noncomputable def c86_19 : AC := .reg [⟨none, .p2 (bin2 P .lss 3) (.tmp 1) (.tmp 2)⟩] [(6, .loc 0)]
theorem r86_19 : RReg c86_19 fun call tm h => match ((match (match tm.gt 1 with | none => none | some a => match tm.gt 2 with | none => none | some b => match bin2 P .lss 3 a b with | none => none | some y => some (y, h)) with | none => none | some r0 => some ([r0.1], r0.2)) : Option (List AV × Heap)) with | none => none | some (loc, h') => match ((match Opd.get (.loc 0) loc .leaf tm with | none => none | some o0 => some (tm.up (some o0) 6)) : Option (Tr AV)) with | none => none | some tm' => some (tm', h') := rReg (by kernel_rfl)
noncomputable def c86_20 : AC := .ret
theorem r86_20 : RRet c86_20 .ret := rRet
noncomputable def c86_18 : AC := .seq c86_19 c86_20
theorem r86_18 : RSeq c86_18 c86_19 c86_20 := rSeq
noncomputable def c86_10 : AC := .seq c86_11 c86_18
theorem r86_10 : RSeq c86_10 c86_11 c86_18 := rSeq
noncomputable def c86_2 : AC := .seq c86_3 c86_10
theorem r86_2 : RSeq c86_2 c86_3 c86_10 := rSeq
noncomputable def c86_0 : AC := .seq c86_1 c86_2
theorem r86_0 : RSeq c86_0 c86_1 c86_2 := rSeq
noncomputable def fn86 : FnA := ⟨c86_0, [.tmp 6], 54, true⟩
theorem f86A : fnA P (keepF P) 86 = some fn86 := by kernel_rfl

noncomputable def c97_0 : AC := .reg [⟨none, .pn (l1 (len1 P 142)) [.tmp 0]⟩, ⟨none, .cl (.cst (AV.func (Fn.func 106) [] [])) [.tmp 0, .loc 0, .tmp 1]⟩] []
theorem r97_0 : RReg c97_0 fun call tm h => match ((match (match (match tm.gt 0 with | none => none | some a0 => match (some ([] : List AV)) with | none => none | some u0 => some (a0 :: u0)) with | none => none | some us => match l1 (len1 P 142) us with | none => none | some y => some (y, h)) with | none => none | some r0 => match (match (match tm.gt 0 with | none => none | some a0 => match (match (match tm.gt 1 with | none => none | some a1 => match (some ([] : List AV)) with | none => none | some u1 => some (a1 :: u1)) with | none => none | some u1 => some (r0.1 :: u1)) with | none => none | some u0 => some (a0 :: u0)) with | none => none | some us => call (.fn 106) (app' [] (app' us [])) r0.2) with | none => none | some r1 => some ([r1.1, r0.1], r1.2)) : Option (List AV × Heap)) with | none => none | some (_, h') => some (tm, h') := rReg (by kernel_rfl)
noncomputable def fn97 : FnA := ⟨c97_0, [], 9, true⟩
theorem f97A : fnA P (keepF P) 97 = some fn97 := by kernel_rfl

noncomputable def c98_1 : AC := .reg [] [(5, .cst (AV.int .i64 0))]
theorem r98_1 : RReg c98_1 fun call tm h => some ((tm.up (some (AV.int .i64 0)) 5), h) := rReg (by kernel_rfl)
noncomputable def c98_3g : List (Nat × GIns) := [(0, ⟨none, .ld1 (.tmp 2)⟩), (1, ⟨none, .mv (.tmp 0)⟩), (2, ⟨none, .p2 (indexAddr2 P 41) (.opi 0) (.opi 1)⟩), (3, ⟨none, .p1 (fieldAddr1 P 53 2) (.opi 2)⟩), (4, ⟨none, .ld1 (.opi 3)⟩), (5, ⟨none, .ld1 (.tmp 2)⟩), (6, ⟨none, .mv (.tmp 1)⟩), (7, ⟨none, .p2 (indexAddr2 P 41) (.opi 5) (.opi 6)⟩), (8, ⟨none, .p1 (fieldAddr1 P 53 2) (.opi 7)⟩), (9, ⟨none, .ld1 (.opi 8)⟩), (10, ⟨none, .cl (.cst (AV.func (Fn.func 100) [] [])) [.opi 4, .opi 9]⟩), (11, ⟨none, .ld1 (.tmp 2)⟩), (12, ⟨none, .mv (.tmp 0)⟩), (13, ⟨none, .p2 (indexAddr2 P 41) (.opi 11) (.opi 12)⟩), (14, ⟨none, .p1 (fieldAddr1 P 53 1) (.opi 13)⟩), (15, ⟨none, .ld1 (.opi 14)⟩), (16, ⟨none, .ld1 (.tmp 2)⟩), (17, ⟨none, .mv (.tmp 1)⟩), (18, ⟨none, .p2 (indexAddr2 P 41) (.opi 16) (.opi 17)⟩), (19, ⟨none, .p1 (fieldAddr1 P 53 1) (.opi 18)⟩), (20, ⟨none, .ld1 (.opi 19)⟩), (21, ⟨none, .cl (.cst (AV.func (Fn.func 100) [] [])) [.opi 15, .opi 20]⟩), (22, ⟨none, .al (buildSliceN P 142 2 [0, 1]) [.opi 10, .opi 21]⟩), (23, ⟨none, .cl (.cst (AV.func (Fn.func 99) [] [])) [.opi 22]⟩), (24, ⟨none, .mv (.opi 23)⟩)]
noncomputable def c98_3 : AC := .draw 25 (stagesOf #[0, 0, 3, 7, 15, 0, 0, 96, 224, 480, 1023, 0, 0, 6144, 14336, 30720, 0, 0, 196608, 458752, 983040, 2097151, 4194303, 8388607, 16777215] c98_3g [10, 21, 23] 0 (c98_3g.filter fun x => x.2.i.eff)) [(5, 24)]
theorem r98_3 : RReg c98_3 fun call tm h => match (let base := h.next; let vs : Tr AV := .leaf; let h := Heap.mk h.bs (h.next + 25); ((match ((match (match (match tm.gt 2 with | none => none | some a => match load1 h a with | none => none | some y => some (y, h)) with | none => none | some y => some y.1) with | none => none | some v => let vs := vs.up (some v) 0; match (match (match tm.gt 0 with | none => none | some a => some (a, h)) with | none => none | some y => some y.1) with | none => none | some v => let vs := vs.up (some v) 1; match (match (match vs.gt 0 with | none => none | some a => match vs.gt 1 with | none => none | some b => match indexAddr2 P 41 a b with | none => none | some y => some (y, h)) with | none => none | some y => some y.1) with | none => none | some v => let vs := vs.up (some v) 2; match (match (match vs.gt 2 with | none => none | some a => match fieldAddr1 P 53 2 a with | none => none | some y => some (y, h)) with | none => none | some y => some y.1) with | none => none | some v => let vs := vs.up (some v) 3; match (match (match vs.gt 3 with | none => none | some a => match load1 h a with | none => none | some y => some (y, h)) with | none => none | some y => some y.1) with | none => none | some v => let vs := vs.up (some v) 4; match (match (match tm.gt 2 with | none => none | some a => match load1 h a with | none => none | some y => some (y, h)) with | none => none | some y => some y.1) with | none => none | some v => let vs := vs.up (some v) 5; match (match (match tm.gt 1 with | none => none | some a => some (a, h)) with | none => none | some y => some y.1) with | none => none | some v => let vs := vs.up (some v) 6; match (match (match vs.gt 5 with | none => none | some a => match vs.gt 6 with | none => none | some b => match indexAddr2 P 41 a b with | none => none | some y => some (y, h)) with | none => none | some y => some y.1) with | none => none | some v => let vs := vs.up (some v) 7; match (match (match vs.gt 7 with | none => none | some a => match fieldAddr1 P 53 2 a with | none => none | some y => some (y, h)) with | none => none | some y => some y.1) with | none => none | some v => let vs := vs.up (some v) 8; match (match (match vs.gt 8 with | none => none | some a => match load1 h a with | none => none | some y => some (y, h)) with | none => none | some y => some y.1) with | none => none | some v => let vs := vs.up (some v) 9; match (match (match tm.gt 2 with | none => none | some a => match load1 h a with | none => none | some y => some (y, h)) with | none => none | some y => some y.1) with | none => none | some v => let vs := vs.up (some v) 11; match (match (match tm.gt 0 with | none => none | some a => some (a, h)) with | none => none | some y => some y.1) with | none => none | some v => let vs := vs.up (some v) 12; match (match (match vs.gt 11 with | none => none | some a => match vs.gt 12 with | none => none | some b => match indexAddr2 P 41 a b with | none => none | some y => some (y, h)) with | none => none | some y => some y.1) with | none => none | some v => let vs := vs.up (some v) 13; match (match (match vs.gt 13 with | none => none | some a => match fieldAddr1 P 53 1 a with | none => none | some y => some (y, h)) with | none => none | some y => some y.1) with | none => none | some v => let vs := vs.up (some v) 14; match (match (match vs.gt 14 with | none => none | some a => match load1 h a with | none => none | some y => some (y, h)) with | none => none | some y => some y.1) with | none => none | some v => let vs := vs.up (some v) 15; match (match (match tm.gt 2 with | none => none | some a => match load1 h a with | none => none | some y => some (y, h)) with | none => none | some y => some y.1) with | none => none | some v => let vs := vs.up (some v) 16; match (match (match tm.gt 1 with | none => none | some a => some (a, h)) with | none => none | some y => some y.1) with | none => none | some v => let vs := vs.up (some v) 17; match (match (match vs.gt 16 with | none => none | some a => match vs.gt 17 with | none => none | some b => match indexAddr2 P 41 a b with | none => none | some y => some (y, h)) with | none => none | some y => some y.1) with | none => none | some v => let vs := vs.up (some v) 18; match (match (match vs.gt 18 with | none => none | some a => match fieldAddr1 P 53 1 a with | none => none | some y => some (y, h)) with | none => none | some y => some y.1) with | none => none | some v => let vs := vs.up (some v) 19; match (match (match vs.gt 19 with | none => none | some a => match load1 h a with | none => none | some y => some (y, h)) with | none => none | some y => some y.1) with | none => none | some v => let vs := vs.up (some v) 20; some vs) : Option (Tr AV)) with | none => none | some vs => match (match (match vs.gt 4 with | none => none | some a0 => match (match vs.gt 9 with | none => none | some a1 => match (some ([] : List AV)) with | none => none | some u1 => some (a1 :: u1)) with | none => none | some u0 => some (a0 :: u0)) with | none => none | some us => call (.fn 100) (app' [] (app' us [])) h) with | none => none | some r => let vs := vs.up (some r.1) 10; let h := r.2; iff' (match (match (match tm.gt 2 with | none => none | some a => match load1 h a with | none => none | some y => some (y, h)) with | none => none | some y => some y.1) with | none => false | some v => match vs.gt 11 with | none => false | some u => and' (AV.same v u) (match (match (match vs.gt 14 with | none => none | some a => match load1 h a with | none => none | some y => some (y, h)) with | none => none | some y => some y.1) with | none => false | some v => match vs.gt 15 with | none => false | some u => and' (AV.same v u) (match (match (match tm.gt 2 with | none => none | some a => match load1 h a with | none => none | some y => some (y, h)) with | none => none | some y => some y.1) with | none => false | some v => match vs.gt 16 with | none => false | some u => and' (AV.same v u) (match (match (match vs.gt 19 with | none => none | some a => match load1 h a with | none => none | some y => some (y, h)) with | none => none | some y => some y.1) with | none => false | some v => match vs.gt 20 with | none => false | some u => and' (AV.same v u) true)))) (match (match (match vs.gt 15 with | none => none | some a0 => match (match vs.gt 20 with | none => none | some a1 => match (some ([] : List AV)) with | none => none | some u1 => some (a1 :: u1)) with | none => none | some u0 => some (a0 :: u0)) with | none => none | some us => call (.fn 100) (app' [] (app' us [])) h) with | none => none | some r => let vs := vs.up (some r.1) 21; let h := r.2; match ((match (match (match vs.gt 10 with | none => none | some a0 => match (match vs.gt 21 with | none => none | some a1 => match (some ([] : List AV)) with | none => none | some u1 => some (a1 :: u1)) with | none => none | some u0 => some (a0 :: u0)) with | none => none | some us => match buildSliceN P 142 2 [0, 1] us with | none => none | some y => some (y.2 (Nat.add base 22))) with | none => none | some v => let vs := vs.up (some v) 22; some vs) : Option (Tr AV)) with | none => none | some vs => match ((match (match (match vs.gt 10 with | none => none | some a0 => match (match vs.gt 21 with | none => none | some a1 => match (some ([] : List AV)) with | none => none | some u1 => some (a1 :: u1)) with | none => none | some u0 => some (a0 :: u0)) with | none => none | some us => match buildSliceN P 142 2 [0, 1] us with | none => none | some y => some (some y.1)) with | none => none | some b => (match b with | none => (some h) | some b => (some (Heap.mk (h.bs.up (some b) (Nat.add base 22)) h.next)))) : Option Heap) with | none => none | some h => match (match (match vs.gt 22 with | none => none | some a0 => match (some ([] : List AV)) with | none => none | some u0 => some (a0 :: u0)) with | none => none | some us => call (.fn 99) (app' [] (app' us [])) h) with | none => none | some r => let vs := vs.up (some r.1) 23; let h := r.2; match ((match (match (match vs.gt 23 with | none => none | some a => some (a, h)) with | none => none | some y => some y.1) with | none => none | some v => let vs := vs.up (some v) 24; some vs) : Option (Tr AV)) with | none => none | some vs => some (vs, h))) : Option (Tr AV × Heap))) with | none => none | some (vs, h') => match ((match vs.gt 24 with | none => none | some o0 => some (tm.up (some o0) 5)) : Option (Tr AV)) with | none => none | some tm' => some (tm', h') := rDrw (by kernel_rfl)
noncomputable def c98_4 : AC := .ret
theorem r98_4 : RRet c98_4 .ret := rRet
noncomputable def c98_2 : AC := .seq c98_3 c98_4
theorem r98_2 : RSeq c98_2 c98_3 c98_4 := rSeq
noncomputable def c98_0 : AC := .seq c98_1 c98_2
theorem r98_0 : RSeq c98_0 c98_1 c98_2 := rSeq
noncomputable def fn98 : FnA := ⟨c98_0, [.tmp 5], 30, true⟩
theorem f98A : fnA P (keepF P) 98 = some fn98 := by kernel_rfl

noncomputable def c99_1 : AC := .reg [] [(2, .cst (AV.int .i64 0))]
theorem r99_1 : RReg c99_1 fun call tm h => some ((tm.up (some (AV.int .i64 0)) 2), h) := rReg (by kernel_rfl)
noncomputable def c99_3 : AC := .reg [] [(3, .cst (AV.int .i64 0))]
theorem r99_3 : RReg c99_3 fun call tm h => some ((tm.up (some (AV.int .i64 0)) 3), h) := rReg (by kernel_rfl)
noncomputable def c99_6 : AC := .reg [⟨none, .pn (l1 (len1 P 142)) [.tmp 0]⟩] [(8, .cst (AV.int .i64 0)), (7, .loc 0), (6, .tmp 0)]
theorem r99_6 : RReg c99_6 fun call tm h => match ((match (match (match tm.gt 0 with | none => none | some a0 => match (some ([] : List AV)) with | none => none | some u0 => some (a0 :: u0)) with | none => none | some us => match l1 (len1 P 142) us with | none => none | some y => some (y, h)) with | none => none | some r0 => some ([r0.1], r0.2)) : Option (List AV × Heap)) with | none => none | some (loc, h') => match ((match Opd.get (.cst (AV.int .i64 0)) loc .leaf tm with | none => none | some o0 => match Opd.get (.loc 0) loc .leaf tm with | none => none | some o1 => match Opd.get (.tmp 0) loc .leaf tm with | none => none | some o2 => some (((tm.up (some o0) 8).up (some o1) 7).up (some o2) 6)) : Option (Tr AV)) with | none => none | some tm' => some (tm', h') := rReg (by kernel_rfl)
noncomputable def c99_10 : AC := .reg [⟨none, .p2 (bin2 P .lss 3) (.tmp 8) (.tmp 7)⟩] [(9, .loc 0)]
theorem r99_10 : RReg c99_10 fun call tm h => match ((match (match tm.gt 8 with | none => none | some a => match tm.gt 7 with | none => none | some b => match bin2 P .lss 3 a b with | none => none | some y => some (y, h)) with | none => none | some r0 => some ([r0.1], r0.2)) : Option (List AV × Heap)) with | none => none | some (loc, h') => match ((match Opd.get (.loc 0) loc .leaf tm with | none => none | some o0 => some (tm.up (some o0) 9)) : Option (Tr AV)) with | none => none | some tm' => some (tm', h') := rReg (by kernel_rfl)
noncomputable def c99_13 : AC := .skip
theorem r99_13 : RRet c99_13 .normal := rSkip
noncomputable def c99_14 : AC := .exit 0
theorem r99_14 : RRet c99_14 (.exit 0) := rExit
noncomputable def c99_12 : AC := .cond (.tmp 9) c99_13 c99_14
theorem r99_12 : RCnd c99_12 9 c99_13 c99_14 := rCnd
noncomputable def c99_18 : AC := .reg [⟨none, .p2 (indexAddr2 P 142) (.tmp 6) (.tmp 8)⟩, ⟨none, .ld1 (.loc 0)⟩] [(5, .loc 0)]
theorem r99_18 : RReg c99_18 fun call tm h => match ((match (match tm.gt 6 with | none => none | some a => match tm.gt 8 with | none => none | some b => match indexAddr2 P 142 a b with | none => none | some y => some (y, h)) with | none => none | some r0 => match (match load1 r0.2 r0.1 with | none => none | some y => some (y, r0.2)) with | none => none | some r1 => some ([r1.1, r0.1], r1.2)) : Option (List AV × Heap)) with | none => none | some (loc, h') => match ((match Opd.get (.loc 0) loc .leaf tm with | none => none | some o0 => some (tm.up (some o0) 5)) : Option (Tr AV)) with | none => none | some tm' => some (tm', h') := rReg (by kernel_rfl)
noncomputable def c99_20 : AC := .reg [⟨none, .p2 (bin2 P .neq 3) (.tmp 5) (.tmp 3)⟩] [(14, .loc 0)]
theorem r99_20 : RReg c99_20 fun call tm h => match ((match (match tm.gt 5 with | none => none | some a => match tm.gt 3 with | none => none | some b => match bin2 P .neq 3 a b with | none => none | some y => some (y, h)) with | none => none | some r0 => some ([r0.1], r0.2)) : Option (List AV × Heap)) with | none => none | some (loc, h') => match ((match Opd.get (.loc 0) loc .leaf tm with | none => none | some o0 => some (tm.up (some o0) 14)) : Option (Tr AV)) with | none => none | some tm' => some (tm', h') := rReg (by kernel_rfl)
noncomputable def c99_23 : AC := .reg [] [(2, .tmp 5)]
theorem r99_23 : RReg c99_23 fun call tm h => match ((match tm.gt 5 with | none => none | some o0 => some (tm.up (some o0) 2)) : Option (Tr AV)) with | none => none | some tm' => some (tm', h) := rReg (by kernel_rfl)
noncomputable def c99_24 : AC := .ret
theorem r99_24 : RRet c99_24 .ret := rRet
noncomputable def c99_22 : AC := .seq c99_23 c99_24
theorem r99_22 : RSeq c99_22 c99_23 c99_24 := rSeq
noncomputable def c99_25 : AC := .skip
theorem r99_25 : RRet c99_25 .normal := rSkip
noncomputable def c99_21 : AC := .cond (.tmp 14) c99_22 c99_25
theorem r99_21 : RCnd c99_21 14 c99_22 c99_25 := rCnd
noncomputable def c99_19 : AC := .seq c99_20 c99_21
theorem r99_19 : RSeq c99_19 c99_20 c99_21 := rSeq
noncomputable def c99_17 : AC := .seq c99_18 c99_19
theorem r99_17 : RSeq c99_17 c99_18 c99_19 := rSeq
noncomputable def c99_16 : AC := .block 1 c99_17
theorem r99_16 : RBlk c99_16 1 c99_17 := rBlk
noncomputable def c99_26 : AC := .reg [⟨none, .p2 (bin2 P .add 3) (.tmp 8) (.cst (AV.int .i64 1))⟩] [(8, .loc 0)]
theorem r99_26 : RReg c99_26 fun call tm h => match ((match (match tm.gt 8 with | none => none | some a => match bin2 P .add 3 a (AV.int .i64 1) with | none => none | some y => some (y, h)) with | none => none | some r0 => some ([r0.1], r0.2)) : Option (List AV × Heap)) with | none => none | some (loc, h') => match ((match Opd.get (.loc 0) loc .leaf tm with | none => none | some o0 => some (tm.up (some o0) 8)) : Option (Tr AV)) with | none => none | some tm' => some (tm', h') := rReg (by kernel_rfl)
noncomputable def c99_15 : AC := .seq c99_16 c99_26
theorem r99_15 : RSeq c99_15 c99_16 c99_26 := rSeq
noncomputable def c99_11 : AC := .seq c99_12 c99_15
theorem r99_11 : RSeq c99_11 c99_12 c99_15 := rSeq
noncomputable def c99_9 : AC := .seq c99_10 c99_11
theorem r99_9 : RSeq c99_9 c99_10 c99_11 := rSeq
/- LOOP -/
noncomputable def c99_8 : AC := .loop c99_9
noncomputable def c99_7 : AC := .block 0 c99_8
theorem r99_7 : RBlk c99_7 0 c99_8 := rBlk
noncomputable def c99_5 : AC := .seq c99_6 c99_7
theorem r99_5 : RSeq c99_5 c99_6 c99_7 := rSeq
noncomputable def c99_28 : AC := .reg [] [(2, .tmp 3)]
theorem r99_28 : RReg c99_28 fun call tm h => match ((match tm.gt 3 with | none => none | some o0 => some (tm.up (some o0) 2)) : Option (Tr AV)) with | none => none | some tm' => some (tm', h) := rReg (by kernel_rfl)
noncomputable def c99_29 : AC := .ret
theorem r99_29 : RRet c99_29 .ret := rRet
noncomputable def c99_27 : AC := .seq c99_28 c99_29
theorem r99_27 : RSeq c99_27 c99_28 c99_29 := rSeq
noncomputable def c99_4 : AC := .seq c99_5 c99_27
theorem r99_4 : RSeq c99_4 c99_5 c99_27 := rSeq
noncomputable def c99_2 : AC := .seq c99_3 c99_4
theorem r99_2 : RSeq c99_2 c99_3 c99_4 := rSeq
noncomputable def c99_0 : AC := .seq c99_1 c99_2
theorem r99_0 : RSeq c99_0 c99_1 c99_2 := rSeq
noncomputable def fn99 : FnA := ⟨c99_0, [.tmp 2], 18, true⟩
theorem f99A : fnA P (keepF P) 99 = some fn99 := by kernel_rfl

noncomputable def c100_1 : AC := .reg [] [(4, .cst (AV.int .i64 0))]
theorem r100_1 : RReg c100_1 fun call tm h => some ((tm.up (some (AV.int .i64 0)) 4), h) := rReg (by kernel_rfl)
noncomputable def c100_3 : AC := .reg [⟨none, .cl (.cst (AV.func (Fn.func 107) [] [])) [.tmp 0]⟩] [(5, .loc 0)]
theorem r100_3 : RReg c100_3 fun call tm h => match ((match (match (match tm.gt 0 with | none => none | some a0 => match (some ([] : List AV)) with | none => none | some u0 => some (a0 :: u0)) with | none => none | some us => call (.fn 107) (app' [] (app' us [])) h) with | none => none | some r0 => some ([r0.1], r0.2)) : Option (List AV × Heap)) with | none => none | some (loc, h') => match ((match Opd.get (.loc 0) loc .leaf tm with | none => none | some o0 => some (tm.up (some o0) 5)) : Option (Tr AV)) with | none => none | some tm' => some (tm', h') := rReg (by kernel_rfl)
noncomputable def c100_5 : AC := .reg [⟨none, .cl (.cst (AV.func (Fn.func 107) [] [])) [.tmp 1]⟩] [(6, .loc 0)]
theorem r100_5 : RReg c100_5 fun call tm h => match ((match (match (match tm.gt 1 with | none => none | some a0 => match (some ([] : List AV)) with | none => none | some u0 => some (a0 :: u0)) with | none => none | some us => call (.fn 107) (app' [] (app' us [])) h) with | none => none | some r0 => some ([r0.1], r0.2)) : Option (List AV × Heap)) with | none => none | some (loc, h') => match ((match Opd.get (.loc 0) loc .leaf tm with | none => none | some o0 => some (tm.up (some o0) 6)) : Option (Tr AV)) with | none => none | some tm' => some (tm', h') := rReg (by kernel_rfl)
noncomputable def c100_8 : AC := .reg [] [(11, .tmp 5)]
theorem r100_8 : RReg c100_8 fun call tm h => match ((match tm.gt 5 with | none => none | some o0 => some (tm.up (some o0) 11)) : Option (Tr AV)) with | none => none | some tm' => some (tm', h) := rReg (by kernel_rfl)
noncomputable def c100_12 : AC := .reg [] [(12, .tmp 6)]
theorem r100_12 : RReg c100_12 fun call tm h => match ((match tm.gt 6 with | none => none | some o0 => some (tm.up (some o0) 12)) : Option (Tr AV)) with | none => none | some tm' => some (tm', h) := rReg (by kernel_rfl)
noncomputable def c100_15 : AC := .reg [] [(4, .cst (AV.int .i64 0))]
theorem r100_15 : RReg c100_15 fun call tm h => some ((tm.up (some (AV.int .i64 0)) 4), h) := rReg (by kernel_rfl)
noncomputable def c100_16 : AC := .ret
theorem r100_16 : RRet c100_16 .ret := rRet
noncomputable def c100_14 : AC := .seq c100_15 c100_16
theorem r100_14 : RSeq c100_14 c100_15 c100_16 := rSeq
noncomputable def c100_17 : AC := .skip
theorem r100_17 : RRet c100_17 .normal := rSkip
noncomputable def c100_13 : AC := .cond (.tmp 12) c100_14 c100_17
theorem r100_13 : RCnd c100_13 12 c100_14 c100_17 := rCnd
noncomputable def c100_11 : AC := .seq c100_12 c100_13
theorem r100_11 : RSeq c100_11 c100_12 c100_13 := rSeq
noncomputable def c100_19 : AC := .reg [] [(4, .cst (AV.int .i64 (-1)))]
theorem r100_19 : RReg c100_19 fun call tm h => some ((tm.up (some (AV.int .i64 (-1))) 4), h) := rReg (by kernel_rfl)
noncomputable def c100_20 : AC := .ret
theorem r100_20 : RRet c100_20 .ret := rRet
noncomputable def c100_18 : AC := .seq c100_19 c100_20
theorem r100_18 : RSeq c100_18 c100_19 c100_20 := rSeq
noncomputable def c100_10 : AC := .seq c100_11 c100_18
theorem r100_10 : RSeq c100_10 c100_11 c100_18 := rSeq
noncomputable def c100_21 : AC := .skip
theorem r100_21 : RRet c100_21 .normal := rSkip
noncomputable def c100_9 : AC := .cond (.tmp 11) c100_10 c100_21
theorem r100_9 : RCnd c100_9 11 c100_10 c100_21 := rCnd
noncomputable def c100_7 : AC := .seq c100_8 c100_9
theorem r100_7 : RSeq c100_7 c100_8 c100_9 := rSeq
noncomputable def c100_24 : AC := .reg [] [(13, .tmp 6)]
theorem r100_24 : RReg c100_24 fun call tm h => match ((match tm.gt 6 with | none => none | some o0 => some (tm.up (some o0) 13)) : Option (Tr AV)) with | none => none | some tm' => some (tm', h) := rReg (by kernel_rfl)
noncomputable def c100_27 : AC := .reg [] [(4, .cst (AV.int .i64 1))]
theorem r100_27 : RReg c100_27 fun call tm h => some ((tm.up (some (AV.int .i64 1)) 4), h) := rReg (by kernel_rfl)
noncomputable def c100_28 : AC := .ret
theorem r100_28 : RRet c100_28 .ret := rRet
noncomputable def c100_26 : AC := .seq c100_27 c100_28
theorem r100_26 : RSeq c100_26 c100_27 c100_28 := rSeq
noncomputable def c100_29 : AC := .skip
theorem r100_29 : RRet c100_29 .normal := rSkip
noncomputable def c100_25 : AC := .cond (.tmp 13) c100_26 c100_29
theorem r100_25 : RCnd c100_25 13 c100_26 c100_29 := rCnd
noncomputable def c100_23 : AC := .seq c100_24 c100_25
theorem r100_23 : RSeq c100_23 c100_24 c100_25 := rSeq
noncomputable def c100_32 : AC := .reg [⟨none, .p2 (bin2 P .lss 27) (.tmp 0) (.tmp 1)⟩] [(16, .loc 0)]
theorem r100_32 : RReg c100_32 fun call tm h => match ((match (match tm.gt 0 with | none => none | some a => match tm.gt 1 with | none => none | some b => match bin2 P .lss 27 a b with | none => none | some y => some (y, h)) with | none => none | some r0 => some ([r0.1], r0.2)) : Option (List AV × Heap)) with | none => none | some (loc, h') => match ((match Opd.get (.loc 0) loc .leaf tm with | none => none | some o0 => some (tm.up (some o0) 16)) : Option (Tr AV)) with | none => none | some tm' => some (tm', h') := rReg (by kernel_rfl)
noncomputable def c100_35 : AC := .reg [] [(4, .cst (AV.int .i64 (-1)))]
theorem r100_35 : RReg c100_35 fun call tm h => some ((tm.up (some (AV.int .i64 (-1))) 4), h) := rReg (by kernel_rfl)
noncomputable def c100_36 : AC := .ret
theorem r100_36 : RRet c100_36 .ret := rRet
noncomputable def c100_34 : AC := .seq c100_35 c100_36
theorem r100_34 : RSeq c100_34 c100_35 c100_36 := rSeq
noncomputable def c100_37 : AC := .skip
theorem r100_37 : RRet c100_37 .normal := rSkip
noncomputable def c100_33 : AC := .cond (.tmp 16) c100_34 c100_37
theorem r100_33 : RCnd c100_33 16 c100_34 c100_37 := rCnd
noncomputable def c100_31 : AC := .seq c100_32 c100_33
theorem r100_31 : RSeq c100_31 c100_32 c100_33 := rSeq
noncomputable def c100_40 : AC := .reg [⟨none, .p2 (bin2 P .gtr 27) (.tmp 0) (.tmp 1)⟩] [(19, .loc 0)]
theorem r100_40 : RReg c100_40 fun call tm h => match ((match (match tm.gt 0 with | none => none | some a => match tm.gt 1 with | none => none | some b => match bin2 P .gtr 27 a b with | none => none | some y => some (y, h)) with | none => none | some r0 => some ([r0.1], r0.2)) : Option (List AV × Heap)) with | none => none | some (loc, h') => match ((match Opd.get (.loc 0) loc .leaf tm with | none => none | some o0 => some (tm.up (some o0) 19)) : Option (Tr AV)) with | none => none | some tm' => some (tm', h') := rReg (by kernel_rfl)
noncomputable def c100_43 : AC := .reg [] [(4, .cst (AV.int .i64 1))]
theorem r100_43 : RReg c100_43 fun call tm h => some ((tm.up (some (AV.int .i64 1)) 4), h) := rReg (by kernel_rfl)
noncomputable def c100_44 : AC := .ret
theorem r100_44 : RRet c100_44 .ret := rRet
noncomputable def c100_42 : AC := .seq c100_43 c100_44
theorem r100_42 : RSeq c100_42 c100_43 c100_44 := rSeq
noncomputable def c100_45 : AC := .skip
theorem r100_45 : RRet c100_45 .normal := rSkip
noncomputable def c100_41 : AC := .cond (.tmp 19) c100_42 c100_45
theorem r100_41 : RCnd c100_41 19 c100_42 c100_45 := rCnd
noncomputable def c100_39 : AC := .seq c100_40 c100_41
theorem r100_39 : RSeq c100_39 c100_40 c100_41 := rSeq
noncomputable def c100_47 : AC := .reg [] [(4, .cst (AV.int .i64 0))]
theorem r100_47 : RReg c100_47 fun call tm h => some ((tm.up (some (AV.int .i64 0)) 4), h) := rReg (by kernel_rfl)
noncomputable def c100_48 : AC := .ret
theorem r100_48 : RRet c100_48 .ret := rRet
noncomputable def c100_46 : AC := .seq c100_47 c100_48
theorem r100_46 : RSeq c100_46 c100_47 c100_48 := rSeq
noncomputable def c100_38 : AC := .seq c100_39 c100_46
theorem r100_38 : RSeq c100_38 c100_39 c100_46 := rSeq
noncomputable def c100_30 : AC := .seq c100_31 c100_38
theorem r100_30 : RSeq c100_30 c100_31 c100_38 := rSeq
noncomputable def c100_22 : AC := .seq c100_23 c100_30
theorem r100_22 : RSeq c100_22 c100_23 c100_30 := rSeq
noncomputable def c100_6 : AC := .seq c100_7 c100_22
theorem r100_6 : RSeq c100_6 c100_7 c100_22 := rSeq
noncomputable def c100_4 : AC := .seq c100_5 c100_6
theorem r100_4 : RSeq c100_4 c100_5 c100_6 := rSeq
noncomputable def c100_2 : AC := .seq c100_3 c100_4
theorem r100_2 : RSeq c100_2 c100_3 c100_4 := rSeq
noncomputable def c100_0 : AC := .seq c100_1 c100_2
theorem r100_0 : RSeq c100_0 c100_1 c100_2 := rSeq
noncomputable def fn100 : FnA := ⟨c100_0, [.tmp 4], 20, true⟩
theorem f100A : fnA P (keepF P) 100 = some fn100 := by kernel_rfl

noncomputable def c106_1 : AC := .reg [] [(6, .cst (AV.int .i64 20))]
theorem r106_1 : RReg c106_1 fun call tm h => some ((tm.up (some (AV.int .i64 20)) 6), h) := rReg (by kernel_rfl)
noncomputable def c106_3 : AC := .reg [] [(8, .tmp 6), (7, .cst (AV.int .i64 0))]
theorem r106_3 : RReg c106_3 fun call tm h => match ((match tm.gt 6 with | none => none | some o0 => some ((tm.up (some o0) 8).up (some (AV.int .i64 0)) 7)) : Option (Tr AV)) with | none => none | some tm' => some (tm', h) := rReg (by kernel_rfl)
noncomputable def c106_9 : AC := .reg [⟨none, .p2 (bin2 P .leq 3) (.tmp 8) (.tmp 1)⟩] [(13, .loc 0)]
theorem r106_9 : RReg c106_9 fun call tm h => match ((match (match tm.gt 8 with | none => none | some a => match tm.gt 1 with | none => none | some b => match bin2 P .leq 3 a b with | none => none | some y => some (y, h)) with | none => none | some r0 => some ([r0.1], r0.2)) : Option (List AV × Heap)) with | none => none | some (loc, h') => match ((match Opd.get (.loc 0) loc .leaf tm with | none => none | some o0 => some (tm.up (some o0) 13)) : Option (Tr AV)) with | none => none | some tm' => some (tm', h') := rReg (by kernel_rfl)
noncomputable def c106_11 : AC := .skip
theorem r106_11 : RRet c106_11 .normal := rSkip
noncomputable def c106_12 : AC := .exit 0
theorem r106_12 : RRet c106_12 (.exit 0) := rExit
noncomputable def c106_10 : AC := .cond (.tmp 13) c106_11 c106_12
theorem r106_10 : RCnd c106_10 13 c106_11 c106_12 := rCnd
noncomputable def c106_8 : AC := .seq c106_9 c106_10
theorem r106_8 : RSeq c106_8 c106_9 c106_10 := rSeq
noncomputable def c106_15 : AC := .reg [⟨none, .cl (.cst (AV.func (Fn.func 111) [] [])) [.tmp 0, .tmp 7, .tmp 8, .tmp 2]⟩] []
theorem r106_15 : RReg c106_15 fun call tm h => match ((match (match (match tm.gt 0 with | none => none | some a0 => match (match tm.gt 7 with | none => none | some a1 => match (match tm.gt 8 with | none => none | some a2 => match (match tm.gt 2 with | none => none | some a3 => match (some ([] : List AV)) with | none => none | some u3 => some (a3 :: u3)) with | none => none | some u2 => some (a2 :: u2)) with | none => none | some u1 => some (a1 :: u1)) with | none => none | some u0 => some (a0 :: u0)) with | none => none | some us => call (.fn 111) (app' [] (app' us [])) h) with | none => none | some r0 => some ([r0.1], r0.2)) : Option (List AV × Heap)) with | none => none | some (_, h') => some (tm, h') := rReg (by kernel_rfl)
noncomputable def c106_17 : AC := .reg [] [(7, .tmp 8)]
theorem r106_17 : RReg c106_17 fun call tm h => match ((match tm.gt 8 with | none => none | some o0 => some (tm.up (some o0) 7)) : Option (Tr AV)) with | none => none | some tm' => some (tm', h) := rReg (by kernel_rfl)
noncomputable def c106_18 : AC := .reg [⟨none, .p2 (bin2 P .add 3) (.tmp 8) (.tmp 6)⟩] [(8, .loc 0)]
theorem r106_18 : RReg c106_18 fun call tm h => match ((match (match tm.gt 8 with | none => none | some a => match tm.gt 6 with | none => none | some b => match bin2 P .add 3 a b with | none => none | some y => some (y, h)) with | none => none | some r0 => some ([r0.1], r0.2)) : Option (List AV × Heap)) with | none => none | some (loc, h') => match ((match Opd.get (.loc 0) loc .leaf tm with | none => none | some o0 => some (tm.up (some o0) 8)) : Option (Tr AV)) with | none => none | some tm' => some (tm', h') := rReg (by kernel_rfl)
noncomputable def c106_16 : AC := .seq c106_17 c106_18
theorem r106_16 : RSeq c106_16 c106_17 c106_18 := rSeq
noncomputable def c106_14 : AC := .seq c106_15 c106_16
theorem r106_14 : RSeq c106_14 c106_15 c106_16 := rSeq
noncomputable def c106_13 : AC := .block 1 c106_14
theorem r106_13 : RBlk c106_13 1 c106_14 := rBlk
noncomputable def c106_7 : AC := .seq c106_8 c106_13
theorem r106_7 : RSeq c106_7 c106_8 c106_13 := rSeq
/- LOOP -/
noncomputable def c106_6 : AC := .loop c106_7
noncomputable def c106_5 : AC := .block 0 c106_6
theorem r106_5 : RBlk c106_5 0 c106_6 := rBlk
noncomputable def c106_20 : AC := .reg [⟨none, .cl (.cst (AV.func (Fn.func 111) [] [])) [.tmp 0, .tmp 7, .tmp 1, .tmp 2]⟩] []
theorem r106_20 : RReg c106_20 fun call tm h => match ((match (match (match tm.gt 0 with | none => none | some a0 => match (match tm.gt 7 with | none => none | some a1 => match (match tm.gt 1 with | none => none | some a2 => match (match tm.gt 2 with | none => none | some a3 => match (some ([] : List AV)) with | none => none | some u3 => some (a3 :: u3)) with | none => none | some u2 => some (a2 :: u2)) with | none => none | some u1 => some (a1 :: u1)) with | none => none | some u0 => some (a0 :: u0)) with | none => none | some us => call (.fn 111) (app' [] (app' us [])) h) with | none => none | some r0 => some ([r0.1], r0.2)) : Option (List AV × Heap)) with | none => none | some (_, h') => some (tm, h') := rReg (by kernel_rfl)
noncomputable def c106_25 : AC := .reg [⟨none, .p2 (bin2 P .lss 3) (.tmp 6) (.tmp 1)⟩] [(30, .loc 0)]
theorem r106_25 : RReg c106_25 fun call tm h => match ((match (match tm.gt 6 with | none => none | some a => match tm.gt 1 with | none => none | some b => match bin2 P .lss 3 a b with | none => none | some y => some (y, h)) with | none => none | some r0 => some ([r0.1], r0.2)) : Option (List AV × Heap)) with | none => none | some (loc, h') => match ((match Opd.get (.loc 0) loc .leaf tm with | none => none | some o0 => some (tm.up (some o0) 30)) : Option (Tr AV)) with | none => none | some tm' => some (tm', h') := rReg (by kernel_rfl)
noncomputable def c106_27 : AC := .skip
theorem r106_27 : RRet c106_27 .normal := rSkip
noncomputable def c106_28 : AC := .exit 2
theorem r106_28 : RRet c106_28 (.exit 2) := rExit
noncomputable def c106_26 : AC := .cond (.tmp 30) c106_27 c106_28
theorem r106_26 : RCnd c106_26 30 c106_27 c106_28 := rCnd
noncomputable def c106_24 : AC := .seq c106_25 c106_26
theorem r106_24 : RSeq c106_24 c106_25 c106_26 := rSeq
noncomputable def c106_31 : AC := .reg [⟨none, .p2 (bin2 P .mul 3) (.cst (AV.int .i64 2)) (.tmp 6)⟩] [(8, .loc 0), (7, .cst (AV.int .i64 0))]
theorem r106_31 : RReg c106_31 fun call tm h => match ((match (match tm.gt 6 with | none => none | some b => match bin2 P .mul 3 (AV.int .i64 2) b with | none => none | some y => some (y, h)) with | none => none | some r0 => some ([r0.1], r0.2)) : Option (List AV × Heap)) with | none => none | some (loc, h') => match ((match Opd.get (.loc 0) loc .leaf tm with | none => none | some o0 => match Opd.get (.cst (AV.int .i64 0)) loc .leaf tm with | none => none | some o1 => some ((tm.up (some o0) 8).up (some o1) 7)) : Option (Tr AV)) with | none => none | some tm' => some (tm', h') := rReg (by kernel_rfl)
noncomputable def c106_37 : AC := .reg [⟨none, .p2 (bin2 P .leq 3) (.tmp 8) (.tmp 1)⟩] [(35, .loc 0)]
theorem r106_37 : RReg c106_37 fun call tm h => match ((match (match tm.gt 8 with | none => none | some a => match tm.gt 1 with | none => none | some b => match bin2 P .leq 3 a b with | none => none | some y => some (y, h)) with | none => none | some r0 => some ([r0.1], r0.2)) : Option (List AV × Heap)) with | none => none | some (loc, h') => match ((match Opd.get (.loc 0) loc .leaf tm with | none => none | some o0 => some (tm.up (some o0) 35)) : Option (Tr AV)) with | none => none | some tm' => some (tm', h') := rReg (by kernel_rfl)
noncomputable def c106_39 : AC := .skip
theorem r106_39 : RRet c106_39 .normal := rSkip
noncomputable def c106_40 : AC := .exit 4
theorem r106_40 : RRet c106_40 (.exit 4) := rExit
noncomputable def c106_38 : AC := .cond (.tmp 35) c106_39 c106_40
theorem r106_38 : RCnd c106_38 35 c106_39 c106_40 := rCnd
noncomputable def c106_36 : AC := .seq c106_37 c106_38
theorem r106_36 : RSeq c106_36 c106_37 c106_38 := rSeq
noncomputable def c106_43 : AC := .reg [⟨none, .p2 (bin2 P .add 3) (.tmp 7) (.tmp 6)⟩, ⟨none, .cl (.cst (AV.func (Fn.func 112) [] [])) [.tmp 0, .tmp 7, .loc 0, .tmp 8, .tmp 2]⟩] []
theorem r106_43 : RReg c106_43 fun call tm h => match ((match (match tm.gt 7 with | none => none | some a => match tm.gt 6 with | none => none | some b => match bin2 P .add 3 a b with | none => none | some y => some (y, h)) with | none => none | some r0 => match (match (match tm.gt 0 with | none => none | some a0 => match (match tm.gt 7 with | none => none | some a1 => match (match (match tm.gt 8 with | none => none | some a2 => match (match tm.gt 2 with | none => none | some a3 => match (some ([] : List AV)) with | none => none | some u3 => some (a3 :: u3)) with | none => none | some u2 => some (a2 :: u2)) with | none => none | some u2 => some (r0.1 :: u2)) with | none => none | some u1 => some (a1 :: u1)) with | none => none | some u0 => some (a0 :: u0)) with | none => none | some us => call (.fn 112) (app' [] (app' us [])) r0.2) with | none => none | some r1 => some ([r1.1, r0.1], r1.2)) : Option (List AV × Heap)) with | none => none | some (_, h') => some (tm, h') := rReg (by kernel_rfl)
noncomputable def c106_45 : AC := .reg [] [(7, .tmp 8)]
theorem r106_45 : RReg c106_45 fun call tm h => match ((match tm.gt 8 with | none => none | some o0 => some (tm.up (some o0) 7)) : Option (Tr AV)) with | none => none | some tm' => some (tm', h) := rReg (by kernel_rfl)
noncomputable def c106_46 : AC := .reg [⟨none, .p2 (bin2 P .mul 3) (.cst (AV.int .i64 2)) (.tmp 6)⟩, ⟨none, .p2 (bin2 P .add 3) (.tmp 8) (.loc 0)⟩] [(8, .loc 0)]
theorem r106_46 : RReg c106_46 fun call tm h => match ((match (match tm.gt 6 with | none => none | some b => match bin2 P .mul 3 (AV.int .i64 2) b with | none => none | some y => some (y, h)) with | none => none | some r0 => match (match tm.gt 8 with | none => none | some a => match bin2 P .add 3 a r0.1 with | none => none | some y => some (y, r0.2)) with | none => none | some r1 => some ([r1.1, r0.1], r1.2)) : Option (List AV × Heap)) with | none => none | some (loc, h') => match ((match Opd.get (.loc 0) loc .leaf tm with | none => none | some o0 => some (tm.up (some o0) 8)) : Option (Tr AV)) with | none => none | some tm' => some (tm', h') := rReg (by kernel_rfl)
noncomputable def c106_44 : AC := .seq c106_45 c106_46
theorem r106_44 : RSeq c106_44 c106_45 c106_46 := rSeq
noncomputable def c106_42 : AC := .seq c106_43 c106_44
theorem r106_42 : RSeq c106_42 c106_43 c106_44 := rSeq
noncomputable def c106_41 : AC := .block 5 c106_42
theorem r106_41 : RBlk c106_41 5 c106_42 := rBlk
noncomputable def c106_35 : AC := .seq c106_36 c106_41
theorem r106_35 : RSeq c106_35 c106_36 c106_41 := rSeq
/- LOOP -/
noncomputable def c106_34 : AC := .loop c106_35
noncomputable def c106_33 : AC := .block 4 c106_34
theorem r106_33 : RBlk c106_33 4 c106_34 := rBlk
noncomputable def c106_49 : AC := .reg [⟨none, .p2 (bin2 P .add 3) (.tmp 7) (.tmp 6)⟩] [(9, .loc 0)]
theorem r106_49 : RReg c106_49 fun call tm h => match ((match (match tm.gt 7 with | none => none | some a => match tm.gt 6 with | none => none | some b => match bin2 P .add 3 a b with | none => none | some y => some (y, h)) with | none => none | some r0 => some ([r0.1], r0.2)) : Option (List AV × Heap)) with | none => none | some (loc, h') => match ((match Opd.get (.loc 0) loc .leaf tm with | none => none | some o0 => some (tm.up (some o0) 9)) : Option (Tr AV)) with | none => none | some tm' => some (tm', h') := rReg (by kernel_rfl)
noncomputable def c106_51 : AC := .reg [⟨none, .p2 (bin2 P .lss 3) (.tmp 9) (.tmp 1)⟩] [(54, .loc 0)]
theorem r106_51 : RReg c106_51 fun call tm h => match ((match (match tm.gt 9 with | none => none | some a => match tm.gt 1 with | none => none | some b => match bin2 P .lss 3 a b with | none => none | some y => some (y, h)) with | none => none | some r0 => some ([r0.1], r0.2)) : Option (List AV × Heap)) with | none => none | some (loc, h') => match ((match Opd.get (.loc 0) loc .leaf tm with | none => none | some o0 => some (tm.up (some o0) 54)) : Option (Tr AV)) with | none => none | some tm' => some (tm', h') := rReg (by kernel_rfl)
noncomputable def c106_53 : AC := .reg [⟨none, .cl (.cst (AV.func (Fn.func 112) [] [])) [.tmp 0, .tmp 7, .tmp 9, .tmp 1, .tmp 2]⟩] []
theorem r106_53 : RReg c106_53 fun call tm h => match ((match (match (match tm.gt 0 with | none => none | some a0 => match (match tm.gt 7 with | none => none | some a1 => match (match tm.gt 9 with | none => none | some a2 => match (match tm.gt 1 with | none => none | some a3 => match (match tm.gt 2 with | none => none | some a4 => match (some ([] : List AV)) with | none => none | some u4 => some (a4 :: u4)) with | none => none | some u3 => some (a3 :: u3)) with | none => none | some u2 => some (a2 :: u2)) with | none => none | some u1 => some (a1 :: u1)) with | none => none | some u0 => some (a0 :: u0)) with | none => none | some us => call (.fn 112) (app' [] (app' us [])) h) with | none => none | some r0 => some ([r0.1], r0.2)) : Option (List AV × Heap)) with | none => none | some (_, h') => some (tm, h') := rReg (by kernel_rfl)
noncomputable def c106_54 : AC := .skip
theorem r106_54 : RRet c106_54 .normal := rSkip
noncomputable def c106_52 : AC := .cond (.tmp 54) c106_53 c106_54
theorem r106_52 : RCnd c106_52 54 c106_53 c106_54 := rCnd
noncomputable def c106_50 : AC := .seq c106_51 c106_52
theorem r106_50 : RSeq c106_50 c106_51 c106_52 := rSeq
noncomputable def c106_48 : AC := .seq c106_49 c106_50
theorem r106_48 : RSeq c106_48 c106_49 c106_50 := rSeq
noncomputable def c106_55 : AC := .reg [⟨none, .p2 (bin2 P .mul 3) (.tmp 6) (.cst (AV.int .i64 2))⟩] [(6, .loc 0)]
theorem r106_55 : RReg c106_55 fun call tm h => match ((match (match tm.gt 6 with | none => none | some a => match bin2 P .mul 3 a (AV.int .i64 2) with | none => none | some y => some (y, h)) with | none => none | some r0 => some ([r0.1], r0.2)) : Option (List AV × Heap)) with | none => none | some (loc, h') => match ((match Opd.get (.loc 0) loc .leaf tm with | none => none | some o0 => some (tm.up (some o0) 6)) : Option (Tr AV)) with | none => none | some tm' => some (tm', h') := rReg (by kernel_rfl)
noncomputable def c106_47 : AC := .seq c106_48 c106_55
theorem r106_47 : RSeq c106_47 c106_48 c106_55 := rSeq
noncomputable def c106_32 : AC := .seq c106_33 c106_47
theorem r106_32 : RSeq c106_32 c106_33 c106_47 := rSeq
noncomputable def c106_30 : AC := .seq c106_31 c106_32
theorem r106_30 : RSeq c106_30 c106_31 c106_32 := rSeq
noncomputable def c106_29 : AC := .block 3 c106_30
theorem r106_29 : RBlk c106_29 3 c106_30 := rBlk
noncomputable def c106_23 : AC := .seq c106_24 c106_29
theorem r106_23 : RSeq c106_23 c106_24 c106_29 := rSeq
/- LOOP -/
noncomputable def c106_22 : AC := .loop c106_23
noncomputable def c106_21 : AC := .block 2 c106_22
theorem r106_21 : RBlk c106_21 2 c106_22 := rBlk
noncomputable def c106_19 : AC := .seq c106_20 c106_21
theorem r106_19 : RSeq c106_19 c106_20 c106_21 := rSeq
noncomputable def c106_4 : AC := .seq c106_5 c106_19
theorem r106_4 : RSeq c106_4 c106_5 c106_19 := rSeq
noncomputable def c106_2 : AC := .seq c106_3 c106_4
theorem r106_2 : RSeq c106_2 c106_3 c106_4 := rSeq
noncomputable def c106_0 : AC := .seq c106_1 c106_2
theorem r106_0 : RSeq c106_0 c106_1 c106_2 := rSeq
noncomputable def fn106 : FnA := ⟨c106_0, [], 63, true⟩
theorem f106A : fnA P (keepF P) 106 = some fn106 := by kernel_rfl

noncomputable def c107_1 : AC := .reg [] [(2, .cst (AV.bool false))]
theorem r107_1 : RReg c107_1 fun call tm h => some ((tm.up (some (AV.bool false)) 2), h) := rReg (by kernel_rfl)
noncomputable def c107_3 : AC := .reg [⟨none, .p2 (bin2 P .neq 27) (.tmp 0) (.tmp 0)⟩] [(2, .loc 0)]
theorem r107_3 : RReg c107_3 fun call tm h => match ((match (match tm.gt 0 with | none => none | some a => match tm.gt 0 with | none => none | some b => match bin2 P .neq 27 a b with | none => none | some y => some (y, h)) with | none => none | some r0 => some ([r0.1], r0.2)) : Option (List AV × Heap)) with | none => none | some (loc, h') => match ((match Opd.get (.loc 0) loc .leaf tm with | none => none | some o0 => some (tm.up (some o0) 2)) : Option (Tr AV)) with | none => none | some tm' => some (tm', h') := rReg (by kernel_rfl)
noncomputable def c107_4 : AC := .ret
theorem r107_4 : RRet c107_4 .ret := rRet
noncomputable def c107_2 : AC := .seq c107_3 c107_4
theorem r107_2 : RSeq c107_2 c107_3 c107_4 := rSeq
noncomputable def c107_0 : AC := .seq c107_1 c107_2
theorem r107_0 : RSeq c107_0 c107_1 c107_2 := rSeq
noncomputable def fn107 : FnA := ⟨c107_0, [.tmp 2], 6, true⟩
theorem f107A : fnA P (keepF P) 107 = some fn107 := by kernel_rfl

noncomputable def c111_1 : AC := .reg [⟨none, .p2 (bin2 P .add 3) (.tmp 1) (.cst (AV.int .i64 1))⟩] [(8, .loc 0)]
theorem r111_1 : RReg c111_1 fun call tm h => match ((match (match tm.gt 1 with | none => none | some a => match bin2 P .add 3 a (AV.int .i64 1) with | none => none | some y => some (y, h)) with | none => none | some r0 => some ([r0.1], r0.2)) : Option (List AV × Heap)) with | none => none | some (loc, h') => match ((match Opd.get (.loc 0) loc .leaf tm with | none => none | some o0 => some (tm.up (some o0) 8)) : Option (Tr AV)) with | none => none | some tm' => some (tm', h') := rReg (by kernel_rfl)
noncomputable def c111_6 : AC := .reg [⟨none, .p2 (bin2 P .lss 3) (.tmp 8) (.tmp 2)⟩] [(14, .loc 0)]
theorem r111_6 : RReg c111_6 fun call tm h => match ((match (match tm.gt 8 with | none => none | some a => match tm.gt 2 with | none => none | some b => match bin2 P .lss 3 a b with | none => none | some y => some (y, h)) with | none => none | some r0 => some ([r0.1], r0.2)) : Option (List AV × Heap)) with | none => none | some (loc, h') => match ((match Opd.get (.loc 0) loc .leaf tm with | none => none | some o0 => some (tm.up (some o0) 14)) : Option (Tr AV)) with | none => none | some tm' => some (tm', h') := rReg (by kernel_rfl)
noncomputable def c111_8 : AC := .skip
theorem r111_8 : RRet c111_8 .normal := rSkip
noncomputable def c111_9 : AC := .exit 0
theorem r111_9 : RRet c111_9 (.exit 0) := rExit
noncomputable def c111_7 : AC := .cond (.tmp 14) c111_8 c111_9
theorem r111_7 : RCnd c111_7 14 c111_8 c111_9 := rCnd
noncomputable def c111_5 : AC := .seq c111_6 c111_7
theorem r111_5 : RSeq c111_5 c111_6 c111_7 := rSeq
noncomputable def c111_13 : AC := .reg [] [(9, .tmp 8)]
theorem r111_13 : RReg c111_13 fun call tm h => match ((match tm.gt 8 with | none => none | some o0 => some (tm.up (some o0) 9)) : Option (Tr AV)) with | none => none | some tm' => some (tm', h) := rReg (by kernel_rfl)
noncomputable def c111_18g : List (Nat × GIns) := [(0, ⟨none, .mv (.tmp 9)⟩), (1, ⟨none, .mv (.tmp 1)⟩), (2, ⟨none, .p2 (bin2 P .gtr 3) (.opi 0) (.opi 1)⟩), (3, ⟨none, .mv (.opi 2)⟩), (4, ⟨some (.opi 3, true), .mv (.tmp 3)⟩), (5, ⟨some (.opi 3, true), .mv (.tmp 0)⟩), (6, ⟨some (.opi 3, true), .mv (.tmp 9)⟩), (7, ⟨some (.opi 3, true), .p2 (indexAddr2 P 142) (.opi 5) (.opi 6)⟩), (8, ⟨some (.opi 3, true), .ld1 (.opi 7)⟩), (9, ⟨some (.opi 3, true), .mv (.tmp 0)⟩), (10, ⟨some (.opi 3, true), .mv (.tmp 9)⟩), (11, ⟨some (.opi 3, true), .p2 (bin2 P .sub 3) (.opi 10) (.cst (AV.int .i64 1))⟩), (12, ⟨some (.opi 3, true), .p2 (indexAddr2 P 142) (.opi 9) (.opi 11)⟩), (13, ⟨some (.opi 3, true), .ld1 (.opi 12)⟩), (14, ⟨some (.opi 3, true), .cl (.opi 4) [.opi 8, .opi 13]⟩), (15, ⟨some (.opi 3, true), .p2 (bin2 P .lss 3) (.opi 14) (.cst (AV.int .i64 0))⟩), (16, ⟨none, .pick (.opi 3) (.opi 15) (.cst (AV.bool false))⟩)]
noncomputable def c111_18 : AC := .draw 17 (stagesOf #[0, 0, 3, 7, 15, 15, 15, 111, 239, 15, 15, 1039, 3599, 7695, 16383, 32767, 65535] c111_18g [14] 0 (c111_18g.filter fun x => x.2.i.eff)) [(34, 16)]
theorem r111_18 : RReg c111_18 fun call tm h => match (let base := h.next; let vs : Tr AV := .leaf; let h := Heap.mk h.bs (h.next + 17); ((match ((match (match (match tm.gt 9 with | none => none | some a => some (a, h)) with | none => none | some y => some y.1) with | none => none | some v => let vs := vs.up (some v) 0; match (match (match tm.gt 1 with | none => none | some a => some (a, h)) with | none => none | some y => some y.1) with | none => none | some v => let vs := vs.up (some v) 1; match (match (match vs.gt 0 with | none => none | some a => match vs.gt 1 with | none => none | some b => match bin2 P .gtr 3 a b with | none => none | some y => some (y, h)) with | none => none | some y => some y.1) with | none => none | some v => let vs := vs.up (some v) 2; match (match (match vs.gt 2 with | none => none | some a => some (a, h)) with | none => none | some y => some y.1) with | none => none | some v => let vs := vs.up (some v) 3; match (match vs.gt 3 with | none => none | some g => match wanted true g with | true => (match (match tm.gt 3 with | none => none | some a => some (a, h)) with | none => none | some y => some y.1) | false => some undefA) with | none => none | some v => let vs := vs.up (some v) 4; match (match vs.gt 3 with | none => none | some g => match wanted true g with | true => (match (match tm.gt 0 with | none => none | some a => some (a, h)) with | none => none | some y => some y.1) | false => some undefA) with | none => none | some v => let vs := vs.up (some v) 5; match (match vs.gt 3 with | none => none | some g => match wanted true g with | true => (match (match tm.gt 9 with | none => none | some a => some (a, h)) with | none => none | some y => some y.1) | false => some undefA) with | none => none | some v => let vs := vs.up (some v) 6; match (match vs.gt 3 with | none => none | some g => match wanted true g with | true => (match (match vs.gt 5 with | none => none | some a => match vs.gt 6 with | none => none | some b => match indexAddr2 P 142 a b with | none => none | some y => some (y, h)) with | none => none | some y => some y.1) | false => some undefA) with | none => none | some v => let vs := vs.up (some v) 7; match (match vs.gt 3 with | none => none | some g => match wanted true g with | true => (match (match vs.gt 7 with | none => none | some a => match load1 h a with | none => none | some y => some (y, h)) with | none => none | some y => some y.1) | false => some undefA) with | none => none | some v => let vs := vs.up (some v) 8; match (match vs.gt 3 with | none => none | some g => match wanted true g with | true => (match (match tm.gt 0 with | none => none | some a => some (a, h)) with | none => none | some y => some y.1) | false => some undefA) with | none => none | some v => let vs := vs.up (some v) 9; match (match vs.gt 3 with | none => none | some g => match wanted true g with | true => (match (match tm.gt 9 with | none => none | some a => some (a, h)) with | none => none | some y => some y.1) | false => some undefA) with | none => none | some v => let vs := vs.up (some v) 10; match (match vs.gt 3 with | none => none | some g => match wanted true g with | true => (match (match vs.gt 10 with | none => none | some a => match bin2 P .sub 3 a (AV.int .i64 1) with | none => none | some y => some (y, h)) with | none => none | some y => some y.1) | false => some undefA) with | none => none | some v => let vs := vs.up (some v) 11; match (match vs.gt 3 with | none => none | some g => match wanted true g with | true => (match (match vs.gt 9 with | none => none | some a => match vs.gt 11 with | none => none | some b => match indexAddr2 P 142 a b with | none => none | some y => some (y, h)) with | none => none | some y => some y.1) | false => some undefA) with | none => none | some v => let vs := vs.up (some v) 12; match (match vs.gt 3 with | none => none | some g => match wanted true g with | true => (match (match vs.gt 12 with | none => none | some a => match load1 h a with | none => none | some y => some (y, h)) with | none => none | some y => some y.1) | false => some undefA) with | none => none | some v => let vs := vs.up (some v) 13; some vs) : Option (Tr AV)) with | none => none | some vs => match (match vs.gt 3 with | none => none | some g => match wanted true g with | true => (match vs.gt 4 with | none => none | some g => match (match vs.gt 8 with | none => none | some a0 => match (match vs.gt 13 with | none => none | some a1 => match (some ([] : List AV)) with | none => none | some u1 => some (a1 :: u1)) with | none => none | some u0 => some (a0 :: u0)) with | none => none | some us => applyV call us h g) | false => some (undefA, h)) with | none => none | some r => let vs := vs.up (some r.1) 14; let h := r.2; match ((match (match vs.gt 3 with | none => none | some g => match wanted true g with | true => (match (match vs.gt 14 with | none => none | some a => match bin2 P .lss 3 a (AV.int .i64 0) with | none => none | some y => some (y, h)) with | none => none | some y => some y.1) | false => some undefA) with | none => none | some v => let vs := vs.up (some v) 15; match (match (match vs.gt 3 with | none => none | some c => eBool (fun t => match (match t with | true => (vs.gt 15) | false => (some (AV.bool false))) with | none => none | some y => some (y, h)) c) with | none => none | some y => some y.1) with | none => none | some v => let vs := vs.up (some v) 16; some vs) : Option (Tr AV)) with | none => none | some vs => some (vs, h)) : Option (Tr AV × Heap))) with | none => none | some (vs, h') => match ((match vs.gt 16 with | none => none | some o0 => some (tm.up (some o0) 34)) : Option (Tr AV)) with | none => none | some tm' => some (tm', h') := rDrw (by kernel_rfl)
noncomputable def c111_20 : AC := .skip
theorem r111_20 : RRet c111_20 .normal := rSkip
noncomputable def c111_21 : AC := .exit 2
theorem r111_21 : RRet c111_21 (.exit 2) := rExit
noncomputable def c111_19 : AC := .cond (.tmp 34) c111_20 c111_21
theorem r111_19 : RCnd c111_19 34 c111_20 c111_21 := rCnd
noncomputable def c111_17 : AC := .seq c111_18 c111_19
theorem r111_17 : RSeq c111_17 c111_18 c111_19 := rSeq
noncomputable def c111_24g : List (Nat × GIns) := [(0, ⟨none, .mv (.tmp 0)⟩), (1, ⟨none, .mv (.tmp 9)⟩), (2, ⟨none, .mv (.tmp 0)⟩), (3, ⟨none, .mv (.tmp 9)⟩), (4, ⟨none, .p2 (bin2 P .sub 3) (.opi 3) (.cst (AV.int .i64 1))⟩), (5, ⟨none, .mv (.tmp 0)⟩), (6, ⟨none, .mv (.tmp 9)⟩), (7, ⟨none, .p2 (bin2 P .sub 3) (.opi 6) (.cst (AV.int .i64 1))⟩), (8, ⟨none, .p2 (indexAddr2 P 142) (.opi 5) (.opi 7)⟩), (9, ⟨none, .ld1 (.opi 8)⟩), (10, ⟨none, .mv (.tmp 0)⟩), (11, ⟨none, .mv (.tmp 9)⟩), (12, ⟨none, .p2 (indexAddr2 P 142) (.opi 10) (.opi 11)⟩), (13, ⟨none, .ld1 (.opi 12)⟩), (14, ⟨none, .p2 (indexAddr2 P 142) (.opi 0) (.opi 1)⟩), (15, ⟨none, .st1 (.opi 14) (.opi 9)⟩), (16, ⟨none, .p2 (indexAddr2 P 142) (.opi 2) (.opi 4)⟩), (17, ⟨none, .st1 (.opi 16) (.opi 13)⟩)]
noncomputable def c111_24 : AC := .draw 18 (stagesOf #[0, 0, 0, 0, 8, 0, 0, 64, 224, 480, 0, 0, 3072, 7168, 16355, 32739, 65535, 131071] c111_24g [15, 17] 0 (c111_24g.filter fun x => x.2.i.eff)) []
theorem r111_24 : RReg c111_24 fun call tm h => match (let base := h.next; let vs : Tr AV := .leaf; let h := Heap.mk h.bs (h.next + 18); ((match ((match (match (match tm.gt 0 with | none => none | some a => some (a, h)) with | none => none | some y => some y.1) with | none => none | some v => let vs := vs.up (some v) 0; match (match (match tm.gt 9 with | none => none | some a => some (a, h)) with | none => none | some y => some y.1) with | none => none | some v => let vs := vs.up (some v) 1; match (match (match tm.gt 0 with | none => none | some a => some (a, h)) with | none => none | some y => some y.1) with | none => none | some v => let vs := vs.up (some v) 2; match (match (match tm.gt 9 with | none => none | some a => some (a, h)) with | none => none | some y => some y.1) with | none => none | some v => let vs := vs.up (some v) 3; match (match (match vs.gt 3 with | none => none | some a => match bin2 P .sub 3 a (AV.int .i64 1) with | none => none | some y => some (y, h)) with | none => none | some y => some y.1) with | none => none | some v => let vs := vs.up (some v) 4; match (match (match tm.gt 0 with | none => none | some a => some (a, h)) with | none => none | some y => some y.1) with | none => none | some v => let vs := vs.up (some v) 5; match (match (match tm.gt 9 with | none => none | some a => some (a, h)) with | none => none | some y => some y.1) with | none => none | some v => let vs := vs.up (some v) 6; match (match (match vs.gt 6 with | none => none | some a => match bin2 P .sub 3 a (AV.int .i64 1) with | none => none | some y => some (y, h)) with | none => none | some y => some y.1) with | none => none | some v => let vs := vs.up (some v) 7; match (match (match vs.gt 5 with | none => none | some a => match vs.gt 7 with | none => none | some b => match indexAddr2 P 142 a b with | none => none | some y => some (y, h)) with | none => none | some y => some y.1) with | none => none | some v => let vs := vs.up (some v) 8; match (match (match vs.gt 8 with | none => none | some a => match load1 h a with | none => none | some y => some (y, h)) with | none => none | some y => some y.1) with | none => none | some v => let vs := vs.up (some v) 9; match (match (match tm.gt 0 with | none => none | some a => some (a, h)) with | none => none | some y => some y.1) with | none => none | some v => let vs := vs.up (some v) 10; match (match (match tm.gt 9 with | none => none | some a => some (a, h)) with | none => none | some y => some y.1) with | none => none | some v => let vs := vs.up (some v) 11; match (match (match vs.gt 10 with | none => none | some a => match vs.gt 11 with | none => none | some b => match indexAddr2 P 142 a b with | none => none | some y => some (y, h)) with | none => none | some y => some y.1) with | none => none | some v => let vs := vs.up (some v) 12; match (match (match vs.gt 12 with | none => none | some a => match load1 h a with | none => none | some y => some (y, h)) with | none => none | some y => some y.1) with | none => none | some v => let vs := vs.up (some v) 13; match (match (match vs.gt 0 with | none => none | some a => match vs.gt 1 with | none => none | some b => match indexAddr2 P 142 a b with | none => none | some y => some (y, h)) with | none => none | some y => some y.1) with | none => none | some v => let vs := vs.up (some v) 14; some vs) : Option (Tr AV)) with | none => none | some vs => match (match vs.gt 14 with | none => none | some a => match vs.gt 9 with | none => none | some b => store1 h a b) with | none => none | some r => let vs := vs.up (some r.1) 15; let h := r.2; match ((match (match (match vs.gt 2 with | none => none | some a => match vs.gt 4 with | none => none | some b => match indexAddr2 P 142 a b with | none => none | some y => some (y, h)) with | none => none | some y => some y.1) with | none => none | some v => let vs := vs.up (some v) 16; some vs) : Option (Tr AV)) with | none => none | some vs => match (match vs.gt 16 with | none => none | some a => match vs.gt 13 with | none => none | some b => store1 h a b) with | none => none | some r => let vs := vs.up (some r.1) 17; let h := r.2; some (vs, h)) : Option (Tr AV × Heap))) with | none => none | some (vs, h') => some (tm, h') := rDrw (by kernel_rfl)
noncomputable def c111_23 : AC := .block 3 c111_24
theorem r111_23 : RBlk c111_23 3 c111_24 := rBlk
noncomputable def c111_25 : AC := .reg [⟨none, .p2 (bin2 P .sub 3) (.tmp 9) (.cst (AV.int .i64 1))⟩] [(9, .loc 0)]
theorem r111_25 : RReg c111_25 fun call tm h => match ((match (match tm.gt 9 with | none => none | some a => match bin2 P .sub 3 a (AV.int .i64 1) with | none => none | some y => some (y, h)) with | none => none | some r0 => some ([r0.1], r0.2)) : Option (List AV × Heap)) with | none => none | some (loc, h') => match ((match Opd.get (.loc 0) loc .leaf tm with | none => none | some o0 => some (tm.up (some o0) 9)) : Option (Tr AV)) with | none => none | some tm' => some (tm', h') := rReg (by kernel_rfl)
noncomputable def c111_22 : AC := .seq c111_23 c111_25
theorem r111_22 : RSeq c111_22 c111_23 c111_25 := rSeq
noncomputable def c111_16 : AC := .seq c111_17 c111_22
theorem r111_16 : RSeq c111_16 c111_17 c111_22 := rSeq
/- LOOP -/
noncomputable def c111_15 : AC := .loop c111_16
noncomputable def c111_14 : AC := .block 2 c111_15
theorem r111_14 : RBlk c111_14 2 c111_15 := rBlk
noncomputable def c111_12 : AC := .seq c111_13 c111_14
theorem r111_12 : RSeq c111_12 c111_13 c111_14 := rSeq
noncomputable def c111_11 : AC := .block 1 c111_12
theorem r111_11 : RBlk c111_11 1 c111_12 := rBlk
noncomputable def c111_26 : AC := .reg [⟨none, .p2 (bin2 P .add 3) (.tmp 8) (.cst (AV.int .i64 1))⟩] [(8, .loc 0)]
theorem r111_26 : RReg c111_26 fun call tm h => match ((match (match tm.gt 8 with | none => none | some a => match bin2 P .add 3 a (AV.int .i64 1) with | none => none | some y => some (y, h)) with | none => none | some r0 => some ([r0.1], r0.2)) : Option (List AV × Heap)) with | none => none | some (loc, h') => match ((match Opd.get (.loc 0) loc .leaf tm with | none => none | some o0 => some (tm.up (some o0) 8)) : Option (Tr AV)) with | none => none | some tm' => some (tm', h') := rReg (by kernel_rfl)
noncomputable def c111_10 : AC := .seq c111_11 c111_26
theorem r111_10 : RSeq c111_10 c111_11 c111_26 := rSeq
noncomputable def c111_4 : AC := .seq c111_5 c111_10
theorem r111_4 : RSeq c111_4 c111_5 c111_10 := rSeq
/- LOOP -/
noncomputable def c111_3 : AC := .loop c111_4
noncomputable def c111_2 : AC := .block 0 c111_3
theorem r111_2 : RBlk c111_2 0 c111_3 := rBlk
noncomputable def c111_0 : AC := .seq c111_1 c111_2
theorem r111_0 : RSeq c111_0 c111_1 c111_2 := rSeq
noncomputable def fn111 : FnA := ⟨c111_0, [], 53, true⟩
theorem f111A : fnA P (keepF P) 111 = some fn111 := by kernel_rfl

noncomputable def c112_2 : AC := .reg [⟨none, .p2 (bin2 P .sub 3) (.tmp 2) (.tmp 1)⟩, ⟨none, .p2 (bin2 P .eql 3) (.loc 0) (.cst (AV.int .i64 1))⟩] [(28, .loc 0)]
theorem r112_2 : RReg c112_2 fun call tm h => match ((match (match tm.gt 2 with | none => none | some a => match tm.gt 1 with | none => none | some b => match bin2 P .sub 3 a b with | none => none | some y => some (y, h)) with | none => none | some r0 => match (match bin2 P .eql 3 r0.1 (AV.int .i64 1) with | none => none | some y => some (y, r0.2)) with | none => none | some r1 => some ([r1.1, r0.1], r1.2)) : Option (List AV × Heap)) with | none => none | some (loc, h') => match ((match Opd.get (.loc 0) loc .leaf tm with | none => none | some o0 => some (tm.up (some o0) 28)) : Option (Tr AV)) with | none => none | some tm' => some (tm', h') := rReg (by kernel_rfl)
noncomputable def c112_5 : AC := .reg [] [(10, .tmp 2)]
theorem r112_5 : RReg c112_5 fun call tm h => match ((match tm.gt 2 with | none => none | some o0 => some (tm.up (some o0) 10)) : Option (Tr AV)) with | none => none | some tm' => some (tm', h) := rReg (by kernel_rfl)
noncomputable def c112_7 : AC := .reg [] [(11, .tmp 3)]
theorem r112_7 : RReg c112_7 fun call tm h => match ((match tm.gt 3 with | none => none | some o0 => some (tm.up (some o0) 11)) : Option (Tr AV)) with | none => none | some tm' => some (tm', h) := rReg (by kernel_rfl)
noncomputable def c112_13 : AC := .reg [⟨none, .p2 (bin2 P .lss 3) (.tmp 10) (.tmp 11)⟩] [(33, .loc 0)]
theorem r112_13 : RReg c112_13 fun call tm h => match ((match (match tm.gt 10 with | none => none | some a => match tm.gt 11 with | none => none | some b => match bin2 P .lss 3 a b with | none => none | some y => some (y, h)) with | none => none | some r0 => some ([r0.1], r0.2)) : Option (List AV × Heap)) with | none => none | some (loc, h') => match ((match Opd.get (.loc 0) loc .leaf tm with | none => none | some o0 => some (tm.up (some o0) 33)) : Option (Tr AV)) with | none => none | some tm' => some (tm', h') := rReg (by kernel_rfl)
noncomputable def c112_15 : AC := .skip
theorem r112_15 : RRet c112_15 .normal := rSkip
noncomputable def c112_16 : AC := .exit 0
theorem r112_16 : RRet c112_16 (.exit 0) := rExit
noncomputable def c112_14 : AC := .cond (.tmp 33) c112_15 c112_16
theorem r112_14 : RCnd c112_14 33 c112_15 c112_16 := rCnd
noncomputable def c112_12 : AC := .seq c112_13 c112_14
theorem r112_12 : RSeq c112_12 c112_13 c112_14 := rSeq
noncomputable def c112_19 : AC := .reg [⟨none, .p2 (bin2 P .add 3) (.tmp 10) (.tmp 11)⟩, ⟨none, .p1 (conv1 P 3 119) (.loc 0)⟩, ⟨none, .p2 (bin2 P .shr 119) (.loc 0) (.cst (AV.int .u64 1))⟩, ⟨none, .p1 (conv1 P 119 3) (.loc 0)⟩] [(12, .loc 0)]
theorem r112_19 : RReg c112_19 fun call tm h => match ((match (match tm.gt 10 with | none => none | some a => match tm.gt 11 with | none => none | some b => match bin2 P .add 3 a b with | none => none | some y => some (y, h)) with | none => none | some r0 => match (match conv1 P 3 119 r0.1 with | none => none | some y => some (y, r0.2)) with | none => none | some r1 => match (match bin2 P .shr 119 r1.1 (AV.int .u64 1) with | none => none | some y => some (y, r1.2)) with | none => none | some r2 => match (match conv1 P 119 3 r2.1 with | none => none | some y => some (y, r2.2)) with | none => none | some r3 => some ([r3.1, r2.1, r1.1, r0.1], r3.2)) : Option (List AV × Heap)) with | none => none | some (loc, h') => match ((match Opd.get (.loc 0) loc .leaf tm with | none => none | some o0 => some (tm.up (some o0) 12)) : Option (Tr AV)) with | none => none | some tm' => some (tm', h') := rReg (by kernel_rfl)
noncomputable def c112_21g : List (Nat × GIns) := [(0, ⟨none, .mv (.tmp 4)⟩), (1, ⟨none, .mv (.tmp 0)⟩), (2, ⟨none, .mv (.tmp 12)⟩), (3, ⟨none, .p2 (indexAddr2 P 142) (.opi 1) (.opi 2)⟩), (4, ⟨none, .ld1 (.opi 3)⟩), (5, ⟨none, .mv (.tmp 0)⟩), (6, ⟨none, .mv (.tmp 1)⟩), (7, ⟨none, .p2 (indexAddr2 P 142) (.opi 5) (.opi 6)⟩), (8, ⟨none, .ld1 (.opi 7)⟩), (9, ⟨none, .cl (.opi 0) [.opi 4, .opi 8]⟩), (10, ⟨none, .p2 (bin2 P .lss 3) (.opi 9) (.cst (AV.int .i64 0))⟩)]
noncomputable def c112_21 : AC := .draw 11 (stagesOf #[0, 0, 0, 6, 14, 0, 0, 96, 224, 511, 1023] c112_21g [9] 0 (c112_21g.filter fun x => x.2.i.eff)) [(50, 10)]
theorem r112_21 : RReg c112_21 fun call tm h => match (let base := h.next; let vs : Tr AV := .leaf; let h := Heap.mk h.bs (h.next + 11); ((match ((match (match (match tm.gt 4 with | none => none | some a => some (a, h)) with | none => none | some y => some y.1) with | none => none | some v => let vs := vs.up (some v) 0; match (match (match tm.gt 0 with | none => none | some a => some (a, h)) with | none => none | some y => some y.1) with | none => none | some v => let vs := vs.up (some v) 1; match (match (match tm.gt 12 with | none => none | some a => some (a, h)) with | none => none | some y => some y.1) with | none => none | some v => let vs := vs.up (some v) 2; match (match (match vs.gt 1 with | none => none | some a => match vs.gt 2 with | none => none | some b => match indexAddr2 P 142 a b with | none => none | some y => some (y, h)) with | none => none | some y => some y.1) with | none => none | some v => let vs := vs.up (some v) 3; match (match (match vs.gt 3 with | none => none | some a => match load1 h a with | none => none | some y => some (y, h)) with | none => none | some y => some y.1) with | none => none | some v => let vs := vs.up (some v) 4; match (match (match tm.gt 0 with | none => none | some a => some (a, h)) with | none => none | some y => some y.1) with | none => none | some v => let vs := vs.up (some v) 5; match (match (match tm.gt 1 with | none => none | some a => some (a, h)) with | none => none | some y => some y.1) with | none => none | some v => let vs := vs.up (some v) 6; match (match (match vs.gt 5 with | none => none | some a => match vs.gt 6 with | none => none | some b => match indexAddr2 P 142 a b with | none => none | some y => some (y, h)) with | none => none | some y => some y.1) with | none => none | some v => let vs := vs.up (some v) 7; match (match (match vs.gt 7 with | none => none | some a => match load1 h a with | none => none | some y => some (y, h)) with | none => none | some y => some y.1) with | none => none | some v => let vs := vs.up (some v) 8; some vs) : Option (Tr AV)) with | none => none | some vs => match (match vs.gt 0 with | none => none | some g => match (match vs.gt 4 with | none => none | some a0 => match (match vs.gt 8 with | none => none | some a1 => match (some ([] : List AV)) with | none => none | some u1 => some (a1 :: u1)) with | none => none | some u0 => some (a0 :: u0)) with | none => none | some us => applyV call us h g) with | none => none | some r => let vs := vs.up (some r.1) 9; let h := r.2; match ((match (match (match vs.gt 9 with | none => none | some a => match bin2 P .lss 3 a (AV.int .i64 0) with | none => none | some y => some (y, h)) with | none => none | some y => some y.1) with | none => none | some v => let vs := vs.up (some v) 10; some vs) : Option (Tr AV)) with | none => none | some vs => some (vs, h)) : Option (Tr AV × Heap))) with | none => none | some (vs, h') => match ((match vs.gt 10 with | none => none | some o0 => some (tm.up (some o0) 50)) : Option (Tr AV)) with | none => none | some tm' => some (tm', h') := rDrw (by kernel_rfl)
noncomputable def c112_23 : AC := .reg [⟨none, .p2 (bin2 P .add 3) (.tmp 12) (.cst (AV.int .i64 1))⟩] [(10, .loc 0)]
theorem r112_23 : RReg c112_23 fun call tm h => match ((match (match tm.gt 12 with | none => none | some a => match bin2 P .add 3 a (AV.int .i64 1) with | none => none | some y => some (y, h)) with | none => none | some r0 => some ([r0.1], r0.2)) : Option (List AV × Heap)) with | none => none | some (loc, h') => match ((match Opd.get (.loc 0) loc .leaf tm with | none => none | some o0 => some (tm.up (some o0) 10)) : Option (Tr AV)) with | none => none | some tm' => some (tm', h') := rReg (by kernel_rfl)
noncomputable def c112_24 : AC := .reg [] [(11, .tmp 12)]
theorem r112_24 : RReg c112_24 fun call tm h => match ((match tm.gt 12 with | none => none | some o0 => some (tm.up (some o0) 11)) : Option (Tr AV)) with | none => none | some tm' => some (tm', h) := rReg (by kernel_rfl)
noncomputable def c112_22 : AC := .cond (.tmp 50) c112_23 c112_24
theorem r112_22 : RCnd c112_22 50 c112_23 c112_24 := rCnd
noncomputable def c112_20 : AC := .seq c112_21 c112_22
theorem r112_20 : RSeq c112_20 c112_21 c112_22 := rSeq
noncomputable def c112_18 : AC := .seq c112_19 c112_20
theorem r112_18 : RSeq c112_18 c112_19 c112_20 := rSeq
noncomputable def c112_17 : AC := .block 1 c112_18
theorem r112_17 : RBlk c112_17 1 c112_18 := rBlk
noncomputable def c112_11 : AC := .seq c112_12 c112_17
theorem r112_11 : RSeq c112_11 c112_12 c112_17 := rSeq
/- LOOP -/
noncomputable def c112_10 : AC := .loop c112_11
noncomputable def c112_9 : AC := .block 0 c112_10
theorem r112_9 : RBlk c112_9 0 c112_10 := rBlk
noncomputable def c112_27 : AC := .reg [] [(13, .tmp 1)]
theorem r112_27 : RReg c112_27 fun call tm h => match ((match tm.gt 1 with | none => none | some o0 => some (tm.up (some o0) 13)) : Option (Tr AV)) with | none => none | some tm' => some (tm', h) := rReg (by kernel_rfl)
noncomputable def c112_32 : AC := .reg [⟨none, .p2 (bin2 P .sub 3) (.tmp 10) (.cst (AV.int .i64 1))⟩, ⟨none, .p2 (bin2 P .lss 3) (.tmp 13) (.loc 0)⟩] [(58, .loc 0)]
theorem r112_32 : RReg c112_32 fun call tm h => match ((match (match tm.gt 10 with | none => none | some a => match bin2 P .sub 3 a (AV.int .i64 1) with | none => none | some y => some (y, h)) with | none => none | some r0 => match (match tm.gt 13 with | none => none | some a => match bin2 P .lss 3 a r0.1 with | none => none | some y => some (y, r0.2)) with | none => none | some r1 => some ([r1.1, r0.1], r1.2)) : Option (List AV × Heap)) with | none => none | some (loc, h') => match ((match Opd.get (.loc 0) loc .leaf tm with | none => none | some o0 => some (tm.up (some o0) 58)) : Option (Tr AV)) with | none => none | some tm' => some (tm', h') := rReg (by kernel_rfl)
noncomputable def c112_34 : AC := .skip
theorem r112_34 : RRet c112_34 .normal := rSkip
noncomputable def c112_35 : AC := .exit 2
theorem r112_35 : RRet c112_35 (.exit 2) := rExit
noncomputable def c112_33 : AC := .cond (.tmp 58) c112_34 c112_35
theorem r112_33 : RCnd c112_33 58 c112_34 c112_35 := rCnd
noncomputable def c112_31 : AC := .seq c112_32 c112_33
theorem r112_31 : RSeq c112_31 c112_32 c112_33 := rSeq
noncomputable def c112_38g : List (Nat × GIns) := [(0, ⟨none, .mv (.tmp 0)⟩), (1, ⟨none, .mv (.tmp 13)⟩), (2, ⟨none, .mv (.tmp 0)⟩), (3, ⟨none, .mv (.tmp 13)⟩), (4, ⟨none, .p2 (bin2 P .add 3) (.opi 3) (.cst (AV.int .i64 1))⟩), (5, ⟨none, .mv (.tmp 0)⟩), (6, ⟨none, .mv (.tmp 13)⟩), (7, ⟨none, .p2 (bin2 P .add 3) (.opi 6) (.cst (AV.int .i64 1))⟩), (8, ⟨none, .p2 (indexAddr2 P 142) (.opi 5) (.opi 7)⟩), (9, ⟨none, .ld1 (.opi 8)⟩), (10, ⟨none, .mv (.tmp 0)⟩), (11, ⟨none, .mv (.tmp 13)⟩), (12, ⟨none, .p2 (indexAddr2 P 142) (.opi 10) (.opi 11)⟩), (13, ⟨none, .ld1 (.opi 12)⟩), (14, ⟨none, .p2 (indexAddr2 P 142) (.opi 0) (.opi 1)⟩), (15, ⟨none, .st1 (.opi 14) (.opi 9)⟩), (16, ⟨none, .p2 (indexAddr2 P 142) (.opi 2) (.opi 4)⟩), (17, ⟨none, .st1 (.opi 16) (.opi 13)⟩)]
noncomputable def c112_38 : AC := .draw 18 (stagesOf #[0, 0, 0, 0, 8, 0, 0, 64, 224, 480, 0, 0, 3072, 7168, 16355, 32739, 65535, 131071] c112_38g [15, 17] 0 (c112_38g.filter fun x => x.2.i.eff)) []
theorem r112_38 : RReg c112_38 fun call tm h => match (let base := h.next; let vs : Tr AV := .leaf; let h := Heap.mk h.bs (h.next + 18); ((match ((match (match (match tm.gt 0 with | none => none | some a => some (a, h)) with | none => none | some y => some y.1) with | none => none | some v => let vs := vs.up (some v) 0; match (match (match tm.gt 13 with | none => none | some a => some (a, h)) with | none => none | some y => some y.1) with | none => none | some v => let vs := vs.up (some v) 1; match (match (match tm.gt 0 with | none => none | some a => some (a, h)) with | none => none | some y => some y.1) with | none => none | some v => let vs := vs.up (some v) 2; match (match (match tm.gt 13 with | none => none | some a => some (a, h)) with | none => none | some y => some y.1) with | none => none | some v => let vs := vs.up (some v) 3; match (match (match vs.gt 3 with | none => none | some a => match bin2 P .add 3 a (AV.int .i64 1) with | none => none | some y => some (y, h)) with | none => none | some y => some y.1) with | none => none | some v => let vs := vs.up (some v) 4; match (match (match tm.gt 0 with | none => none | some a => some (a, h)) with | none => none | some y => some y.1) with | none => none | some v => let vs := vs.up (some v) 5; match (match (match tm.gt 13 with | none => none | some a => some (a, h)) with | none => none | some y => some y.1) with | none => none | some v => let vs := vs.up (some v) 6; match (match (match vs.gt 6 with | none => none | some a => match bin2 P .add 3 a (AV.int .i64 1) with | none => none | some y => some (y, h)) with | none => none | some y => some y.1) with | none => none | some v => let vs := vs.up (some v) 7; match (match (match vs.gt 5 with | none => none | some a => match vs.gt 7 with | none => none | some b => match indexAddr2 P 142 a b with | none => none | some y => some (y, h)) with | none => none | some y => some y.1) with | none => none | some v => let vs := vs.up (some v) 8; match (match (match vs.gt 8 with | none => none | some a => match load1 h a with | none => none | some y => some (y, h)) with | none => none | some y => some y.1) with | none => none | some v => let vs := vs.up (some v) 9; match (match (match tm.gt 0 with | none => none | some a => some (a, h)) with | none => none | some y => some y.1) with | none => none | some v => let vs := vs.up (some v) 10; match (match (match tm.gt 13 with | none => none | some a => some (a, h)) with | none => none | some y => some y.1) with | none => none | some v => let vs := vs.up (some v) 11; match (match (match vs.gt 10 with | none => none | some a => match vs.gt 11 with | none => none | some b => match indexAddr2 P 142 a b with | none => none | some y => some (y, h)) with | none => none | some y => some y.1) with | none => none | some v => let vs := vs.up (some v) 12; match (match (match vs.gt 12 with | none => none | some a => match load1 h a with | none => none | some y => some (y, h)) with | none => none | some y => some y.1) with | none => none | some v => let vs := vs.up (some v) 13; match (match (match vs.gt 0 with | none => none | some a => match vs.gt 1 with | none => none | some b => match indexAddr2 P 142 a b with | none => none | some y => some (y, h)) with | none => none | some y => some y.1) with | none => none | some v => let vs := vs.up (some v) 14; some vs) : Option (Tr AV)) with | none => none | some vs => match (match vs.gt 14 with | none => none | some a => match vs.gt 9 with | none => none | some b => store1 h a b) with | none => none | some r => let vs := vs.up (some r.1) 15; let h := r.2; match ((match (match (match vs.gt 2 with | none => none | some a => match vs.gt 4 with | none => none | some b => match indexAddr2 P 142 a b with | none => none | some y => some (y, h)) with | none => none | some y => some y.1) with | none => none | some v => let vs := vs.up (some v) 16; some vs) : Option (Tr AV)) with | none => none | some vs => match (match vs.gt 16 with | none => none | some a => match vs.gt 13 with | none => none | some b => store1 h a b) with | none => none | some r => let vs := vs.up (some r.1) 17; let h := r.2; some (vs, h)) : Option (Tr AV × Heap))) with | none => none | some (vs, h') => some (tm, h') := rDrw (by kernel_rfl)
noncomputable def c112_37 : AC := .block 3 c112_38
theorem r112_37 : RBlk c112_37 3 c112_38 := rBlk
noncomputable def c112_39 : AC := .reg [⟨none, .p2 (bin2 P .add 3) (.tmp 13) (.cst (AV.int .i64 1))⟩] [(13, .loc 0)]
theorem r112_39 : RReg c112_39 fun call tm h => match ((match (match tm.gt 13 with | none => none | some a => match bin2 P .add 3 a (AV.int .i64 1) with | none => none | some y => some (y, h)) with | none => none | some r0 => some ([r0.1], r0.2)) : Option (List AV × Heap)) with | none => none | some (loc, h') => match ((match Opd.get (.loc 0) loc .leaf tm with | none => none | some o0 => some (tm.up (some o0) 13)) : Option (Tr AV)) with | none => none | some tm' => some (tm', h') := rReg (by kernel_rfl)
noncomputable def c112_36 : AC := .seq c112_37 c112_39
theorem r112_36 : RSeq c112_36 c112_37 c112_39 := rSeq
noncomputable def c112_30 : AC := .seq c112_31 c112_36
theorem r112_30 : RSeq c112_30 c112_31 c112_36 := rSeq
/- LOOP -/
noncomputable def c112_29 : AC := .loop c112_30
noncomputable def c112_28 : AC := .block 2 c112_29
theorem r112_28 : RBlk c112_28 2 c112_29 := rBlk
noncomputable def c112_26 : AC := .seq c112_27 c112_28
theorem r112_26 : RSeq c112_26 c112_27 c112_28 := rSeq
noncomputable def c112_40 : AC := .ret
theorem r112_40 : RRet c112_40 .ret := rRet
noncomputable def c112_25 : AC := .seq c112_26 c112_40
theorem r112_25 : RSeq c112_25 c112_26 c112_40 := rSeq
noncomputable def c112_8 : AC := .seq c112_9 c112_25
theorem r112_8 : RSeq c112_8 c112_9 c112_25 := rSeq
noncomputable def c112_6 : AC := .seq c112_7 c112_8
theorem r112_6 : RSeq c112_6 c112_7 c112_8 := rSeq
noncomputable def c112_4 : AC := .seq c112_5 c112_6
theorem r112_4 : RSeq c112_4 c112_5 c112_6 := rSeq
noncomputable def c112_41 : AC := .skip
theorem r112_41 : RRet c112_41 .normal := rSkip
noncomputable def c112_3 : AC := .cond (.tmp 28) c112_4 c112_41
theorem r112_3 : RCnd c112_3 28 c112_4 c112_41 := rCnd
noncomputable def c112_1 : AC := .seq c112_2 c112_3
theorem r112_1 : RSeq c112_1 c112_2 c112_3 := rSeq
noncomputable def c112_44 : AC := .reg [⟨none, .p2 (bin2 P .sub 3) (.tmp 3) (.tmp 2)⟩, ⟨none, .p2 (bin2 P .eql 3) (.loc 0) (.cst (AV.int .i64 1))⟩] [(80, .loc 0)]
theorem r112_44 : RReg c112_44 fun call tm h => match ((match (match tm.gt 3 with | none => none | some a => match tm.gt 2 with | none => none | some b => match bin2 P .sub 3 a b with | none => none | some y => some (y, h)) with | none => none | some r0 => match (match bin2 P .eql 3 r0.1 (AV.int .i64 1) with | none => none | some y => some (y, r0.2)) with | none => none | some r1 => some ([r1.1, r0.1], r1.2)) : Option (List AV × Heap)) with | none => none | some (loc, h') => match ((match Opd.get (.loc 0) loc .leaf tm with | none => none | some o0 => some (tm.up (some o0) 80)) : Option (Tr AV)) with | none => none | some tm' => some (tm', h') := rReg (by kernel_rfl)
noncomputable def c112_47 : AC := .reg [] [(14, .tmp 1)]
theorem r112_47 : RReg c112_47 fun call tm h => match ((match tm.gt 1 with | none => none | some o0 => some (tm.up (some o0) 14)) : Option (Tr AV)) with | none => none | some tm' => some (tm', h) := rReg (by kernel_rfl)
noncomputable def c112_49 : AC := .reg [] [(15, .tmp 2)]
theorem r112_49 : RReg c112_49 fun call tm h => match ((match tm.gt 2 with | none => none | some o0 => some (tm.up (some o0) 15)) : Option (Tr AV)) with | none => none | some tm' => some (tm', h) := rReg (by kernel_rfl)
noncomputable def c112_55 : AC := .reg [⟨none, .p2 (bin2 P .lss 3) (.tmp 14) (.tmp 15)⟩] [(85, .loc 0)]
theorem r112_55 : RReg c112_55 fun call tm h => match ((match (match tm.gt 14 with | none => none | some a => match tm.gt 15 with | none => none | some b => match bin2 P .lss 3 a b with | none => none | some y => some (y, h)) with | none => none | some r0 => some ([r0.1], r0.2)) : Option (List AV × Heap)) with | none => none | some (loc, h') => match ((match Opd.get (.loc 0) loc .leaf tm with | none => none | some o0 => some (tm.up (some o0) 85)) : Option (Tr AV)) with | none => none | some tm' => some (tm', h') := rReg (by kernel_rfl)
noncomputable def c112_57 : AC := .skip
theorem r112_57 : RRet c112_57 .normal := rSkip
noncomputable def c112_58 : AC := .exit 4
theorem r112_58 : RRet c112_58 (.exit 4) := rExit
noncomputable def c112_56 : AC := .cond (.tmp 85) c112_57 c112_58
theorem r112_56 : RCnd c112_56 85 c112_57 c112_58 := rCnd
noncomputable def c112_54 : AC := .seq c112_55 c112_56
theorem r112_54 : RSeq c112_54 c112_55 c112_56 := rSeq
noncomputable def c112_61 : AC := .reg [⟨none, .p2 (bin2 P .add 3) (.tmp 14) (.tmp 15)⟩, ⟨none, .p1 (conv1 P 3 119) (.loc 0)⟩, ⟨none, .p2 (bin2 P .shr 119) (.loc 0) (.cst (AV.int .u64 1))⟩, ⟨none, .p1 (conv1 P 119 3) (.loc 0)⟩] [(16, .loc 0)]
theorem r112_61 : RReg c112_61 fun call tm h => match ((match (match tm.gt 14 with | none => none | some a => match tm.gt 15 with | none => none | some b => match bin2 P .add 3 a b with | none => none | some y => some (y, h)) with | none => none | some r0 => match (match conv1 P 3 119 r0.1 with | none => none | some y => some (y, r0.2)) with | none => none | some r1 => match (match bin2 P .shr 119 r1.1 (AV.int .u64 1) with | none => none | some y => some (y, r1.2)) with | none => none | some r2 => match (match conv1 P 119 3 r2.1 with | none => none | some y => some (y, r2.2)) with | none => none | some r3 => some ([r3.1, r2.1, r1.1, r0.1], r3.2)) : Option (List AV × Heap)) with | none => none | some (loc, h') => match ((match Opd.get (.loc 0) loc .leaf tm with | none => none | some o0 => some (tm.up (some o0) 16)) : Option (Tr AV)) with | none => none | some tm' => some (tm', h') := rReg (by kernel_rfl)
noncomputable def c112_63g : List (Nat × GIns) := [(0, ⟨none, .mv (.tmp 4)⟩), (1, ⟨none, .mv (.tmp 0)⟩), (2, ⟨none, .mv (.tmp 2)⟩), (3, ⟨none, .p2 (indexAddr2 P 142) (.opi 1) (.opi 2)⟩), (4, ⟨none, .ld1 (.opi 3)⟩), (5, ⟨none, .mv (.tmp 0)⟩), (6, ⟨none, .mv (.tmp 16)⟩), (7, ⟨none, .p2 (indexAddr2 P 142) (.opi 5) (.opi 6)⟩), (8, ⟨none, .ld1 (.opi 7)⟩), (9, ⟨none, .cl (.opi 0) [.opi 4, .opi 8]⟩), (10, ⟨none, .p2 (bin2 P .lss 3) (.opi 9) (.cst (AV.int .i64 0))⟩), (11, ⟨none, .p1 (un1 .not) (.opi 10)⟩)]
noncomputable def c112_63 : AC := .draw 12 (stagesOf #[0, 0, 0, 6, 14, 0, 0, 96, 224, 511, 1023, 2047] c112_63g [9] 0 (c112_63g.filter fun x => x.2.i.eff)) [(103, 11)]
theorem r112_63 : RReg c112_63 fun call tm h => match (let base := h.next; let vs : Tr AV := .leaf; let h := Heap.mk h.bs (h.next + 12); ((match ((match (match (match tm.gt 4 with | none => none | some a => some (a, h)) with | none => none | some y => some y.1) with | none => none | some v => let vs := vs.up (some v) 0; match (match (match tm.gt 0 with | none => none | some a => some (a, h)) with | none => none | some y => some y.1) with | none => none | some v => let vs := vs.up (some v) 1; match (match (match tm.gt 2 with | none => none | some a => some (a, h)) with | none => none | some y => some y.1) with | none => none | some v => let vs := vs.up (some v) 2; match (match (match vs.gt 1 with | none => none | some a => match vs.gt 2 with | none => none | some b => match indexAddr2 P 142 a b with | none => none | some y => some (y, h)) with | none => none | some y => some y.1) with | none => none | some v => let vs := vs.up (some v) 3; match (match (match vs.gt 3 with | none => none | some a => match load1 h a with | none => none | some y => some (y, h)) with | none => none | some y => some y.1) with | none => none | some v => let vs := vs.up (some v) 4; match (match (match tm.gt 0 with | none => none | some a => some (a, h)) with | none => none | some y => some y.1) with | none => none | some v => let vs := vs.up (some v) 5; match (match (match tm.gt 16 with | none => none | some a => some (a, h)) with | none => none | some y => some y.1) with | none => none | some v => let vs := vs.up (some v) 6; match (match (match vs.gt 5 with | none => none | some a => match vs.gt 6 with | none => none | some b => match indexAddr2 P 142 a b with | none => none | some y => some (y, h)) with | none => none | some y => some y.1) with | none => none | some v => let vs := vs.up (some v) 7; match (match (match vs.gt 7 with | none => none | some a => match load1 h a with | none => none | some y => some (y, h)) with | none => none | some y => some y.1) with | none => none | some v => let vs := vs.up (some v) 8; some vs) : Option (Tr AV)) with | none => none | some vs => match (match vs.gt 0 with | none => none | some g => match (match vs.gt 4 with | none => none | some a0 => match (match vs.gt 8 with | none => none | some a1 => match (some ([] : List AV)) with | none => none | some u1 => some (a1 :: u1)) with | none => none | some u0 => some (a0 :: u0)) with | none => none | some us => applyV call us h g) with | none => none | some r => let vs := vs.up (some r.1) 9; let h := r.2; match ((match (match (match vs.gt 9 with | none => none | some a => match bin2 P .lss 3 a (AV.int .i64 0) with | none => none | some y => some (y, h)) with | none => none | some y => some y.1) with | none => none | some v => let vs := vs.up (some v) 10; match (match (match vs.gt 10 with | none => none | some a => match un1 .not a with | none => none | some y => some (y, h)) with | none => none | some y => some y.1) with | none => none | some v => let vs := vs.up (some v) 11; some vs) : Option (Tr AV)) with | none => none | some vs => some (vs, h)) : Option (Tr AV × Heap))) with | none => none | some (vs, h') => match ((match vs.gt 11 with | none => none | some o0 => some (tm.up (some o0) 103)) : Option (Tr AV)) with | none => none | some tm' => some (tm', h') := rDrw (by kernel_rfl)
noncomputable def c112_65 : AC := .reg [⟨none, .p2 (bin2 P .add 3) (.tmp 16) (.cst (AV.int .i64 1))⟩] [(14, .loc 0)]
theorem r112_65 : RReg c112_65 fun call tm h => match ((match (match tm.gt 16 with | none => none | some a => match bin2 P .add 3 a (AV.int .i64 1) with | none => none | some y => some (y, h)) with | none => none | some r0 => some ([r0.1], r0.2)) : Option (List AV × Heap)) with | none => none | some (loc, h') => match ((match Opd.get (.loc 0) loc .leaf tm with | none => none | some o0 => some (tm.up (some o0) 14)) : Option (Tr AV)) with | none => none | some tm' => some (tm', h') := rReg (by kernel_rfl)
noncomputable def c112_66 : AC := .reg [] [(15, .tmp 16)]
theorem r112_66 : RReg c112_66 fun call tm h => match ((match tm.gt 16 with | none => none | some o0 => some (tm.up (some o0) 15)) : Option (Tr AV)) with | none => none | some tm' => some (tm', h) := rReg (by kernel_rfl)
noncomputable def c112_64 : AC := .cond (.tmp 103) c112_65 c112_66
theorem r112_64 : RCnd c112_64 103 c112_65 c112_66 := rCnd
noncomputable def c112_62 : AC := .seq c112_63 c112_64
theorem r112_62 : RSeq c112_62 c112_63 c112_64 := rSeq
noncomputable def c112_60 : AC := .seq c112_61 c112_62
theorem r112_60 : RSeq c112_60 c112_61 c112_62 := rSeq
noncomputable def c112_59 : AC := .block 5 c112_60
theorem r112_59 : RBlk c112_59 5 c112_60 := rBlk
noncomputable def c112_53 : AC := .seq c112_54 c112_59
theorem r112_53 : RSeq c112_53 c112_54 c112_59 := rSeq
/- LOOP -/
noncomputable def c112_52 : AC := .loop c112_53
noncomputable def c112_51 : AC := .block 4 c112_52
theorem r112_51 : RBlk c112_51 4 c112_52 := rBlk
noncomputable def c112_69 : AC := .reg [] [(17, .tmp 2)]
theorem r112_69 : RReg c112_69 fun call tm h => match ((match tm.gt 2 with | none => none | some o0 => some (tm.up (some o0) 17)) : Option (Tr AV)) with | none => none | some tm' => some (tm', h) := rReg (by kernel_rfl)
noncomputable def c112_74 : AC := .reg [⟨none, .p2 (bin2 P .gtr 3) (.tmp 17) (.tmp 14)⟩] [(110, .loc 0)]
theorem r112_74 : RReg c112_74 fun call tm h => match ((match (match tm.gt 17 with | none => none | some a => match tm.gt 14 with | none => none | some b => match bin2 P .gtr 3 a b with | none => none | some y => some (y, h)) with | none => none | some r0 => some ([r0.1], r0.2)) : Option (List AV × Heap)) with | none => none | some (loc, h') => match ((match Opd.get (.loc 0) loc .leaf tm with | none => none | some o0 => some (tm.up (some o0) 110)) : Option (Tr AV)) with | none => none | some tm' => some (tm', h') := rReg (by kernel_rfl)
noncomputable def c112_76 : AC := .skip
theorem r112_76 : RRet c112_76 .normal := rSkip
noncomputable def c112_77 : AC := .exit 6
theorem r112_77 : RRet c112_77 (.exit 6) := rExit
noncomputable def c112_75 : AC := .cond (.tmp 110) c112_76 c112_77
theorem r112_75 : RCnd c112_75 110 c112_76 c112_77 := rCnd
noncomputable def c112_73 : AC := .seq c112_74 c112_75
theorem r112_73 : RSeq c112_73 c112_74 c112_75 := rSeq
noncomputable def c112_80g : List (Nat × GIns) := [(0, ⟨none, .mv (.tmp 0)⟩), (1, ⟨none, .mv (.tmp 17)⟩), (2, ⟨none, .mv (.tmp 0)⟩), (3, ⟨none, .mv (.tmp 17)⟩), (4, ⟨none, .p2 (bin2 P .sub 3) (.opi 3) (.cst (AV.int .i64 1))⟩), (5, ⟨none, .mv (.tmp 0)⟩), (6, ⟨none, .mv (.tmp 17)⟩), (7, ⟨none, .p2 (bin2 P .sub 3) (.opi 6) (.cst (AV.int .i64 1))⟩), (8, ⟨none, .p2 (indexAddr2 P 142) (.opi 5) (.opi 7)⟩), (9, ⟨none, .ld1 (.opi 8)⟩), (10, ⟨none, .mv (.tmp 0)⟩), (11, ⟨none, .mv (.tmp 17)⟩), (12, ⟨none, .p2 (indexAddr2 P 142) (.opi 10) (.opi 11)⟩), (13, ⟨none, .ld1 (.opi 12)⟩), (14, ⟨none, .p2 (indexAddr2 P 142) (.opi 0) (.opi 1)⟩), (15, ⟨none, .st1 (.opi 14) (.opi 9)⟩), (16, ⟨none, .p2 (indexAddr2 P 142) (.opi 2) (.opi 4)⟩), (17, ⟨none, .st1 (.opi 16) (.opi 13)⟩)]
noncomputable def c112_80 : AC := .draw 18 (stagesOf #[0, 0, 0, 0, 8, 0, 0, 64, 224, 480, 0, 0, 3072, 7168, 16355, 32739, 65535, 131071] c112_80g [15, 17] 0 (c112_80g.filter fun x => x.2.i.eff)) []
theorem r112_80 : RReg c112_80 fun call tm h => match (let base := h.next; let vs : Tr AV := .leaf; let h := Heap.mk h.bs (h.next + 18); ((match ((match (match (match tm.gt 0 with | none => none | some a => some (a, h)) with | none => none | some y => some y.1) with | none => none | some v => let vs := vs.up (some v) 0; match (match (match tm.gt 17 with | none => none | some a => some (a, h)) with | none => none | some y => some y.1) with | none => none | some v => let vs := vs.up (some v) 1; match (match (match tm.gt 0 with | none => none | some a => some (a, h)) with | none => none | some y => some y.1) with | none => none | some v => let vs := vs.up (some v) 2; match (match (match tm.gt 17 with | none => none | some a => some (a, h)) with | none => none | some y => some y.1) with | none => none | some v => let vs := vs.up (some v) 3; match (match (match vs.gt 3 with | none => none | some a => match bin2 P .sub 3 a (AV.int .i64 1) with | none => none | some y => some (y, h)) with | none => none | some y => some y.1) with | none => none | some v => let vs := vs.up (some v) 4; match (match (match tm.gt 0 with | none => none | some a => some (a, h)) with | none => none | some y => some y.1) with | none => none | some v => let vs := vs.up (some v) 5; match (match (match tm.gt 17 with | none => none | some a => some (a, h)) with | none => none | some y => some y.1) with | none => none | some v => let vs := vs.up (some v) 6; match (match (match vs.gt 6 with | none => none | some a => match bin2 P .sub 3 a (AV.int .i64 1) with | none => none | some y => some (y, h)) with | none => none | some y => some y.1) with | none => none | some v => let vs := vs.up (some v) 7; match (match (match vs.gt 5 with | none => none | some a => match vs.gt 7 with | none => none | some b => match indexAddr2 P 142 a b with | none => none | some y => some (y, h)) with | none => none | some y => some y.1) with | none => none | some v => let vs := vs.up (some v) 8; match (match (match vs.gt 8 with | none => none | some a => match load1 h a with | none => none | some y => some (y, h)) with | none => none | some y => some y.1) with | none => none | some v => let vs := vs.up (some v) 9; match (match (match tm.gt 0 with | none => none | some a => some (a, h)) with | none => none | some y => some y.1) with | none => none | some v => let vs := vs.up (some v) 10; match (match (match tm.gt 17 with | none => none | some a => some (a, h)) with | none => none | some y => some y.1) with | none => none | some v => let vs := vs.up (some v) 11; match (match (match vs.gt 10 with | none => none | some a => match vs.gt 11 with | none => none | some b => match indexAddr2 P 142 a b with | none => none | some y => some (y, h)) with | none => none | some y => some y.1) with | none => none | some v => let vs := vs.up (some v) 12; match (match (match vs.gt 12 with | none => none | some a => match load1 h a with | none => none | some y => some (y, h)) with | none => none | some y => some y.1) with | none => none | some v => let vs := vs.up (some v) 13; match (match (match vs.gt 0 with | none => none | some a => match vs.gt 1 with | none => none | some b => match indexAddr2 P 142 a b with | none => none | some y => some (y, h)) with | none => none | some y => some y.1) with | none => none | some v => let vs := vs.up (some v) 14; some vs) : Option (Tr AV)) with | none => none | some vs => match (match vs.gt 14 with | none => none | some a => match vs.gt 9 with | none => none | some b => store1 h a b) with | none => none | some r => let vs := vs.up (some r.1) 15; let h := r.2; match ((match (match (match vs.gt 2 with | none => none | some a => match vs.gt 4 with | none => none | some b => match indexAddr2 P 142 a b with | none => none | some y => some (y, h)) with | none => none | some y => some y.1) with | none => none | some v => let vs := vs.up (some v) 16; some vs) : Option (Tr AV)) with | none => none | some vs => match (match vs.gt 16 with | none => none | some a => match vs.gt 13 with | none => none | some b => store1 h a b) with | none => none | some r => let vs := vs.up (some r.1) 17; let h := r.2; some (vs, h)) : Option (Tr AV × Heap))) with | none => none | some (vs, h') => some (tm, h') := rDrw (by kernel_rfl)
noncomputable def c112_79 : AC := .block 7 c112_80
theorem r112_79 : RBlk c112_79 7 c112_80 := rBlk
noncomputable def c112_81 : AC := .reg [⟨none, .p2 (bin2 P .sub 3) (.tmp 17) (.cst (AV.int .i64 1))⟩] [(17, .loc 0)]
theorem r112_81 : RReg c112_81 fun call tm h => match ((match (match tm.gt 17 with | none => none | some a => match bin2 P .sub 3 a (AV.int .i64 1) with | none => none | some y => some (y, h)) with | none => none | some r0 => some ([r0.1], r0.2)) : Option (List AV × Heap)) with | none => none | some (loc, h') => match ((match Opd.get (.loc 0) loc .leaf tm with | none => none | some o0 => some (tm.up (some o0) 17)) : Option (Tr AV)) with | none => none | some tm' => some (tm', h') := rReg (by kernel_rfl)
noncomputable def c112_78 : AC := .seq c112_79 c112_81
theorem r112_78 : RSeq c112_78 c112_79 c112_81 := rSeq
noncomputable def c112_72 : AC := .seq c112_73 c112_78
theorem r112_72 : RSeq c112_72 c112_73 c112_78 := rSeq
/- LOOP -/
noncomputable def c112_71 : AC := .loop c112_72
noncomputable def c112_70 : AC := .block 6 c112_71
theorem r112_70 : RBlk c112_70 6 c112_71 := rBlk
noncomputable def c112_68 : AC := .seq c112_69 c112_70
theorem r112_68 : RSeq c112_68 c112_69 c112_70 := rSeq
noncomputable def c112_82 : AC := .ret
theorem r112_82 : RRet c112_82 .ret := rRet
noncomputable def c112_67 : AC := .seq c112_68 c112_82
theorem r112_67 : RSeq c112_67 c112_68 c112_82 := rSeq
noncomputable def c112_50 : AC := .seq c112_51 c112_67
theorem r112_50 : RSeq c112_50 c112_51 c112_67 := rSeq
noncomputable def c112_48 : AC := .seq c112_49 c112_50
theorem r112_48 : RSeq c112_48 c112_49 c112_50 := rSeq
noncomputable def c112_46 : AC := .seq c112_47 c112_48
theorem r112_46 : RSeq c112_46 c112_47 c112_48 := rSeq
noncomputable def c112_83 : AC := .skip
theorem r112_83 : RRet c112_83 .normal := rSkip
noncomputable def c112_45 : AC := .cond (.tmp 80) c112_46 c112_83
theorem r112_45 : RCnd c112_45 80 c112_46 c112_83 := rCnd
noncomputable def c112_43 : AC := .seq c112_44 c112_45
theorem r112_43 : RSeq c112_43 c112_44 c112_45 := rSeq
noncomputable def c112_85 : AC := .reg [⟨none, .p2 (bin2 P .add 3) (.tmp 1) (.tmp 3)⟩, ⟨none, .p1 (conv1 P 3 119) (.loc 0)⟩, ⟨none, .p2 (bin2 P .shr 119) (.loc 0) (.cst (AV.int .u64 1))⟩, ⟨none, .p1 (conv1 P 119 3) (.loc 0)⟩] [(18, .loc 0)]
theorem r112_85 : RReg c112_85 fun call tm h => match ((match (match tm.gt 1 with | none => none | some a => match tm.gt 3 with | none => none | some b => match bin2 P .add 3 a b with | none => none | some y => some (y, h)) with | none => none | some r0 => match (match conv1 P 3 119 r0.1 with | none => none | some y => some (y, r0.2)) with | none => none | some r1 => match (match bin2 P .shr 119 r1.1 (AV.int .u64 1) with | none => none | some y => some (y, r1.2)) with | none => none | some r2 => match (match conv1 P 119 3 r2.1 with | none => none | some y => some (y, r2.2)) with | none => none | some r3 => some ([r3.1, r2.1, r1.1, r0.1], r3.2)) : Option (List AV × Heap)) with | none => none | some (loc, h') => match ((match Opd.get (.loc 0) loc .leaf tm with | none => none | some o0 => some (tm.up (some o0) 18)) : Option (Tr AV)) with | none => none | some tm' => some (tm', h') := rReg (by kernel_rfl)
noncomputable def c112_87 : AC := .reg [⟨none, .p2 (bin2 P .add 3) (.tmp 18) (.tmp 2)⟩] [(19, .loc 0)]
theorem r112_87 : RReg c112_87 fun call tm h => match ((match (match tm.gt 18 with | none => none | some a => match tm.gt 2 with | none => none | some b => match bin2 P .add 3 a b with | none => none | some y => some (y, h)) with | none => none | some r0 => some ([r0.1], r0.2)) : Option (List AV × Heap)) with | none => none | some (loc, h') => match ((match Opd.get (.loc 0) loc .leaf tm with | none => none | some o0 => some (tm.up (some o0) 19)) : Option (Tr AV)) with | none => none | some tm' => some (tm', h') := rReg (by kernel_rfl)
noncomputable def c112_89 : AC := .reg [] [(21, .cst (AV.int .i64 0)), (20, .cst (AV.int .i64 0))]
theorem r112_89 : RReg c112_89 fun call tm h => some (((tm.up (some (AV.int .i64 0)) 21).up (some (AV.int .i64 0)) 20), h) := rReg (by kernel_rfl)
noncomputable def c112_92 : AC := .reg [⟨none, .p2 (bin2 P .gtr 3) (.tmp 2) (.tmp 18)⟩] [(140, .loc 0)]
theorem r112_92 : RReg c112_92 fun call tm h => match ((match (match tm.gt 2 with | none => none | some a => match tm.gt 18 with | none => none | some b => match bin2 P .gtr 3 a b with | none => none | some y => some (y, h)) with | none => none | some r0 => some ([r0.1], r0.2)) : Option (List AV × Heap)) with | none => none | some (loc, h') => match ((match Opd.get (.loc 0) loc .leaf tm with | none => none | some o0 => some (tm.up (some o0) 140)) : Option (Tr AV)) with | none => none | some tm' => some (tm', h') := rReg (by kernel_rfl)
noncomputable def c112_95 : AC := .reg [⟨none, .p2 (bin2 P .sub 3) (.tmp 19) (.tmp 3)⟩] [(20, .loc 0)]
theorem r112_95 : RReg c112_95 fun call tm h => match ((match (match tm.gt 19 with | none => none | some a => match tm.gt 3 with | none => none | some b => match bin2 P .sub 3 a b with | none => none | some y => some (y, h)) with | none => none | some r0 => some ([r0.1], r0.2)) : Option (List AV × Heap)) with | none => none | some (loc, h') => match ((match Opd.get (.loc 0) loc .leaf tm with | none => none | some o0 => some (tm.up (some o0) 20)) : Option (Tr AV)) with | none => none | some tm' => some (tm', h') := rReg (by kernel_rfl)
noncomputable def c112_96 : AC := .reg [] [(21, .tmp 18)]
theorem r112_96 : RReg c112_96 fun call tm h => match ((match tm.gt 18 with | none => none | some o0 => some (tm.up (some o0) 21)) : Option (Tr AV)) with | none => none | some tm' => some (tm', h) := rReg (by kernel_rfl)
noncomputable def c112_94 : AC := .seq c112_95 c112_96
theorem r112_94 : RSeq c112_94 c112_95 c112_96 := rSeq
noncomputable def c112_98 : AC := .reg [] [(20, .tmp 1)]
theorem r112_98 : RReg c112_98 fun call tm h => match ((match tm.gt 1 with | none => none | some o0 => some (tm.up (some o0) 20)) : Option (Tr AV)) with | none => none | some tm' => some (tm', h) := rReg (by kernel_rfl)
noncomputable def c112_99 : AC := .reg [] [(21, .tmp 2)]
theorem r112_99 : RReg c112_99 fun call tm h => match ((match tm.gt 2 with | none => none | some o0 => some (tm.up (some o0) 21)) : Option (Tr AV)) with | none => none | some tm' => some (tm', h) := rReg (by kernel_rfl)
noncomputable def c112_97 : AC := .seq c112_98 c112_99
theorem r112_97 : RSeq c112_97 c112_98 c112_99 := rSeq
noncomputable def c112_93 : AC := .cond (.tmp 140) c112_94 c112_97
theorem r112_93 : RCnd c112_93 140 c112_94 c112_97 := rCnd
noncomputable def c112_91 : AC := .seq c112_92 c112_93
theorem r112_91 : RSeq c112_91 c112_92 c112_93 := rSeq
noncomputable def c112_101 : AC := .reg [⟨none, .p2 (bin2 P .sub 3) (.tmp 19) (.cst (AV.int .i64 1))⟩] [(22, .loc 0)]
theorem r112_101 : RReg c112_101 fun call tm h => match ((match (match tm.gt 19 with | none => none | some a => match bin2 P .sub 3 a (AV.int .i64 1) with | none => none | some y => some (y, h)) with | none => none | some r0 => some ([r0.1], r0.2)) : Option (List AV × Heap)) with | none => none | some (loc, h') => match ((match Opd.get (.loc 0) loc .leaf tm with | none => none | some o0 => some (tm.up (some o0) 22)) : Option (Tr AV)) with | none => none | some tm' => some (tm', h') := rReg (by kernel_rfl)
noncomputable def c112_107 : AC := .reg [⟨none, .p2 (bin2 P .lss 3) (.tmp 20) (.tmp 21)⟩] [(151, .loc 0)]
theorem r112_107 : RReg c112_107 fun call tm h => match ((match (match tm.gt 20 with | none => none | some a => match tm.gt 21 with | none => none | some b => match bin2 P .lss 3 a b with | none => none | some y => some (y, h)) with | none => none | some r0 => some ([r0.1], r0.2)) : Option (List AV × Heap)) with | none => none | some (loc, h') => match ((match Opd.get (.loc 0) loc .leaf tm with | none => none | some o0 => some (tm.up (some o0) 151)) : Option (Tr AV)) with | none => none | some tm' => some (tm', h') := rReg (by kernel_rfl)
noncomputable def c112_109 : AC := .skip
theorem r112_109 : RRet c112_109 .normal := rSkip
noncomputable def c112_110 : AC := .exit 8
theorem r112_110 : RRet c112_110 (.exit 8) := rExit
noncomputable def c112_108 : AC := .cond (.tmp 151) c112_109 c112_110
theorem r112_108 : RCnd c112_108 151 c112_109 c112_110 := rCnd
noncomputable def c112_106 : AC := .seq c112_107 c112_108
theorem r112_106 : RSeq c112_106 c112_107 c112_108 := rSeq
noncomputable def c112_113 : AC := .reg [⟨none, .p2 (bin2 P .add 3) (.tmp 20) (.tmp 21)⟩, ⟨none, .p1 (conv1 P 3 119) (.loc 0)⟩, ⟨none, .p2 (bin2 P .shr 119) (.loc 0) (.cst (AV.int .u64 1))⟩, ⟨none, .p1 (conv1 P 119 3) (.loc 0)⟩] [(23, .loc 0)]
theorem r112_113 : RReg c112_113 fun call tm h => match ((match (match tm.gt 20 with | none => none | some a => match tm.gt 21 with | none => none | some b => match bin2 P .add 3 a b with | none => none | some y => some (y, h)) with | none => none | some r0 => match (match conv1 P 3 119 r0.1 with | none => none | some y => some (y, r0.2)) with | none => none | some r1 => match (match bin2 P .shr 119 r1.1 (AV.int .u64 1) with | none => none | some y => some (y, r1.2)) with | none => none | some r2 => match (match conv1 P 119 3 r2.1 with | none => none | some y => some (y, r2.2)) with | none => none | some r3 => some ([r3.1, r2.1, r1.1, r0.1], r3.2)) : Option (List AV × Heap)) with | none => none | some (loc, h') => match ((match Opd.get (.loc 0) loc .leaf tm with | none => none | some o0 => some (tm.up (some o0) 23)) : Option (Tr AV)) with | none => none | some tm' => some (tm', h') := rReg (by kernel_rfl)
noncomputable def c112_115g : List (Nat × GIns) := [(0, ⟨none, .mv (.tmp 4)⟩), (1, ⟨none, .mv (.tmp 0)⟩), (2, ⟨none, .mv (.tmp 22)⟩), (3, ⟨none, .mv (.tmp 23)⟩), (4, ⟨none, .p2 (bin2 P .sub 3) (.opi 2) (.opi 3)⟩), (5, ⟨none, .p2 (indexAddr2 P 142) (.opi 1) (.opi 4)⟩), (6, ⟨none, .ld1 (.opi 5)⟩), (7, ⟨none, .mv (.tmp 0)⟩), (8, ⟨none, .mv (.tmp 23)⟩), (9, ⟨none, .p2 (indexAddr2 P 142) (.opi 7) (.opi 8)⟩), (10, ⟨none, .ld1 (.opi 9)⟩), (11, ⟨none, .cl (.opi 0) [.opi 6, .opi 10]⟩), (12, ⟨none, .p2 (bin2 P .lss 3) (.opi 11) (.cst (AV.int .i64 0))⟩), (13, ⟨none, .p1 (un1 .not) (.opi 12)⟩)]
noncomputable def c112_115 : AC := .draw 14 (stagesOf #[0, 0, 0, 0, 12, 30, 62, 0, 0, 384, 896, 2047, 4095, 8191] c112_115g [11] 0 (c112_115g.filter fun x => x.2.i.eff)) [(171, 13)]
theorem r112_115 : RReg c112_115 fun call tm h => match (let base := h.next; let vs : Tr AV := .leaf; let h := Heap.mk h.bs (h.next + 14); ((match ((match (match (match tm.gt 4 with | none => none | some a => some (a, h)) with | none => none | some y => some y.1) with | none => none | some v => let vs := vs.up (some v) 0; match (match (match tm.gt 0 with | none => none | some a => some (a, h)) with | none => none | some y => some y.1) with | none => none | some v => let vs := vs.up (some v) 1; match (match (match tm.gt 22 with | none => none | some a => some (a, h)) with | none => none | some y => some y.1) with | none => none | some v => let vs := vs.up (some v) 2; match (match (match tm.gt 23 with | none => none | some a => some (a, h)) with | none => none | some y => some y.1) with | none => none | some v => let vs := vs.up (some v) 3; match (match (match vs.gt 2 with | none => none | some a => match vs.gt 3 with | none => none | some b => match bin2 P .sub 3 a b with | none => none | some y => some (y, h)) with | none => none | some y => some y.1) with | none => none | some v => let vs := vs.up (some v) 4; match (match (match vs.gt 1 with | none => none | some a => match vs.gt 4 with | none => none | some b => match indexAddr2 P 142 a b with | none => none | some y => some (y, h)) with | none => none | some y => some y.1) with | none => none | some v => let vs := vs.up (some v) 5; match (match (match vs.gt 5 with | none => none | some a => match load1 h a with | none => none | some y => some (y, h)) with | none => none | some y => some y.1) with | none => none | some v => let vs := vs.up (some v) 6; match (match (match tm.gt 0 with | none => none | some a => some (a, h)) with | none => none | some y => some y.1) with | none => none | some v => let vs := vs.up (some v) 7; match (match (match tm.gt 23 with | none => none | some a => some (a, h)) with | none => none | some y => some y.1) with | none => none | some v => let vs := vs.up (some v) 8; match (match (match vs.gt 7 with | none => none | some a => match vs.gt 8 with | none => none | some b => match indexAddr2 P 142 a b with | none => none | some y => some (y, h)) with | none => none | some y => some y.1) with | none => none | some v => let vs := vs.up (some v) 9; match (match (match vs.gt 9 with | none => none | some a => match load1 h a with | none => none | some y => some (y, h)) with | none => none | some y => some y.1) with | none => none | some v => let vs := vs.up (some v) 10; some vs) : Option (Tr AV)) with | none => none | some vs => match (match vs.gt 0 with | none => none | some g => match (match vs.gt 6 with | none => none | some a0 => match (match vs.gt 10 with | none => none | some a1 => match (some ([] : List AV)) with | none => none | some u1 => some (a1 :: u1)) with | none => none | some u0 => some (a0 :: u0)) with | none => none | some us => applyV call us h g) with | none => none | some r => let vs := vs.up (some r.1) 11; let h := r.2; match ((match (match (match vs.gt 11 with | none => none | some a => match bin2 P .lss 3 a (AV.int .i64 0) with | none => none | some y => some (y, h)) with | none => none | some y => some y.1) with | none => none | some v => let vs := vs.up (some v) 12; match (match (match vs.gt 12 with | none => none | some a => match un1 .not a with | none => none | some y => some (y, h)) with | none => none | some y => some y.1) with | none => none | some v => let vs := vs.up (some v) 13; some vs) : Option (Tr AV)) with | none => none | some vs => some (vs, h)) : Option (Tr AV × Heap))) with | none => none | some (vs, h') => match ((match vs.gt 13 with | none => none | some o0 => some (tm.up (some o0) 171)) : Option (Tr AV)) with | none => none | some tm' => some (tm', h') := rDrw (by kernel_rfl)
noncomputable def c112_117 : AC := .reg [⟨none, .p2 (bin2 P .add 3) (.tmp 23) (.cst (AV.int .i64 1))⟩] [(20, .loc 0)]
theorem r112_117 : RReg c112_117 fun call tm h => match ((match (match tm.gt 23 with | none => none | some a => match bin2 P .add 3 a (AV.int .i64 1) with | none => none | some y => some (y, h)) with | none => none | some r0 => some ([r0.1], r0.2)) : Option (List AV × Heap)) with | none => none | some (loc, h') => match ((match Opd.get (.loc 0) loc .leaf tm with | none => none | some o0 => some (tm.up (some o0) 20)) : Option (Tr AV)) with | none => none | some tm' => some (tm', h') := rReg (by kernel_rfl)
noncomputable def c112_118 : AC := .reg [] [(21, .tmp 23)]
theorem r112_118 : RReg c112_118 fun call tm h => match ((match tm.gt 23 with | none => none | some o0 => some (tm.up (some o0) 21)) : Option (Tr AV)) with | none => none | some tm' => some (tm', h) := rReg (by kernel_rfl)
noncomputable def c112_116 : AC := .cond (.tmp 171) c112_117 c112_118
theorem r112_116 : RCnd c112_116 171 c112_117 c112_118 := rCnd
noncomputable def c112_114 : AC := .seq c112_115 c112_116
theorem r112_114 : RSeq c112_114 c112_115 c112_116 := rSeq
noncomputable def c112_112 : AC := .seq c112_113 c112_114
theorem r112_112 : RSeq c112_112 c112_113 c112_114 := rSeq
noncomputable def c112_111 : AC := .block 9 c112_112
theorem r112_111 : RBlk c112_111 9 c112_112 := rBlk
noncomputable def c112_105 : AC := .seq c112_106 c112_111
theorem r112_105 : RSeq c112_105 c112_106 c112_111 := rSeq
/- LOOP -/
noncomputable def c112_104 : AC := .loop c112_105
noncomputable def c112_103 : AC := .block 8 c112_104
theorem r112_103 : RBlk c112_103 8 c112_104 := rBlk
noncomputable def c112_120 : AC := .reg [⟨none, .p2 (bin2 P .sub 3) (.tmp 19) (.tmp 20)⟩] [(24, .loc 0)]
theorem r112_120 : RReg c112_120 fun call tm h => match ((match (match tm.gt 19 with | none => none | some a => match tm.gt 20 with | none => none | some b => match bin2 P .sub 3 a b with | none => none | some y => some (y, h)) with | none => none | some r0 => some ([r0.1], r0.2)) : Option (List AV × Heap)) with | none => none | some (loc, h') => match ((match Opd.get (.loc 0) loc .leaf tm with | none => none | some o0 => some (tm.up (some o0) 24)) : Option (Tr AV)) with | none => none | some tm' => some (tm', h') := rReg (by kernel_rfl)
noncomputable def c112_123 : AC := .reg [⟨none, .p2 (bin2 P .lss 3) (.tmp 20) (.tmp 2)⟩, ⟨some (.loc 0, true), .mv (.tmp 2)⟩, ⟨some (.loc 1, true), .mv (.tmp 24)⟩, ⟨some (.loc 2, true), .p2 (bin2 P .lss 3) (.loc 1) (.loc 0)⟩, ⟨none, .pick (.loc 3) (.loc 0) (.cst (AV.bool false))⟩] [(185, .loc 0)]
theorem r112_123 : RReg c112_123 fun call tm h => match ((match (match tm.gt 20 with | none => none | some a => match tm.gt 2 with | none => none | some b => match bin2 P .lss 3 a b with | none => none | some y => some (y, h)) with | none => none | some r0 => match (match wanted true r0.1 with | true => (match tm.gt 2 with | none => none | some a => some (a, r0.2)) | false => some (undefA, r0.2)) with | none => none | some r1 => match (match wanted true r0.1 with | true => (match tm.gt 24 with | none => none | some a => some (a, r1.2)) | false => some (undefA, r1.2)) with | none => none | some r2 => match (match wanted true r0.1 with | true => (match bin2 P .lss 3 r1.1 r2.1 with | none => none | some y => some (y, r2.2)) | false => some (undefA, r2.2)) with | none => none | some r3 => match (eBool (fun t => match (match t with | true => (some r3.1) | false => (some (AV.bool false))) with | none => none | some y => some (y, r3.2)) r0.1) with | none => none | some r4 => some ([r4.1, r3.1, r2.1, r1.1, r0.1], r4.2)) : Option (List AV × Heap)) with | none => none | some (loc, h') => match ((match Opd.get (.loc 0) loc .leaf tm with | none => none | some o0 => some (tm.up (some o0) 185)) : Option (Tr AV)) with | none => none | some tm' => some (tm', h') := rReg (by kernel_rfl)
noncomputable def c112_125 : AC := .reg [⟨none, .cl (.cst (AV.func (Fn.func 124) [] [])) [.tmp 0, .tmp 20, .tmp 2, .tmp 24, .tmp 4]⟩] []
theorem r112_125 : RReg c112_125 fun call tm h => match ((match (match (match tm.gt 0 with | none => none | some a0 => match (match tm.gt 20 with | none => none | some a1 => match (match tm.gt 2 with | none => none | some a2 => match (match tm.gt 24 with | none => none | some a3 => match (match tm.gt 4 with | none => none | some a4 => match (some ([] : List AV)) with | none => none | some u4 => some (a4 :: u4)) with | none => none | some u3 => some (a3 :: u3)) with | none => none | some u2 => some (a2 :: u2)) with | none => none | some u1 => some (a1 :: u1)) with | none => none | some u0 => some (a0 :: u0)) with | none => none | some us => call (.fn 124) (app' [] (app' us [])) h) with | none => none | some r0 => some ([r0.1], r0.2)) : Option (List AV × Heap)) with | none => none | some (_, h') => some (tm, h') := rReg (by kernel_rfl)
noncomputable def c112_126 : AC := .skip
theorem r112_126 : RRet c112_126 .normal := rSkip
noncomputable def c112_124 : AC := .cond (.tmp 185) c112_125 c112_126
theorem r112_124 : RCnd c112_124 185 c112_125 c112_126 := rCnd
noncomputable def c112_122 : AC := .seq c112_123 c112_124
theorem r112_122 : RSeq c112_122 c112_123 c112_124 := rSeq
noncomputable def c112_129 : AC := .reg [⟨none, .p2 (bin2 P .lss 3) (.tmp 1) (.tmp 20)⟩, ⟨some (.loc 0, true), .mv (.tmp 20)⟩, ⟨some (.loc 1, true), .mv (.tmp 18)⟩, ⟨some (.loc 2, true), .p2 (bin2 P .lss 3) (.loc 1) (.loc 0)⟩, ⟨none, .pick (.loc 3) (.loc 0) (.cst (AV.bool false))⟩] [(199, .loc 0)]
theorem r112_129 : RReg c112_129 fun call tm h => match ((match (match tm.gt 1 with | none => none | some a => match tm.gt 20 with | none => none | some b => match bin2 P .lss 3 a b with | none => none | some y => some (y, h)) with | none => none | some r0 => match (match wanted true r0.1 with | true => (match tm.gt 20 with | none => none | some a => some (a, r0.2)) | false => some (undefA, r0.2)) with | none => none | some r1 => match (match wanted true r0.1 with | true => (match tm.gt 18 with | none => none | some a => some (a, r1.2)) | false => some (undefA, r1.2)) with | none => none | some r2 => match (match wanted true r0.1 with | true => (match bin2 P .lss 3 r1.1 r2.1 with | none => none | some y => some (y, r2.2)) | false => some (undefA, r2.2)) with | none => none | some r3 => match (eBool (fun t => match (match t with | true => (some r3.1) | false => (some (AV.bool false))) with | none => none | some y => some (y, r3.2)) r0.1) with | none => none | some r4 => some ([r4.1, r3.1, r2.1, r1.1, r0.1], r4.2)) : Option (List AV × Heap)) with | none => none | some (loc, h') => match ((match Opd.get (.loc 0) loc .leaf tm with | none => none | some o0 => some (tm.up (some o0) 199)) : Option (Tr AV)) with | none => none | some tm' => some (tm', h') := rReg (by kernel_rfl)
noncomputable def c112_131 : AC := .reg [⟨none, .cl (.cst (AV.func (Fn.func 112) [] [])) [.tmp 0, .tmp 1, .tmp 20, .tmp 18, .tmp 4]⟩] []
theorem r112_131 : RReg c112_131 fun call tm h => match ((match (match (match tm.gt 0 with | none => none | some a0 => match (match tm.gt 1 with | none => none | some a1 => match (match tm.gt 20 with | none => none | some a2 => match (match tm.gt 18 with | none => none | some a3 => match (match tm.gt 4 with | none => none | some a4 => match (some ([] : List AV)) with | none => none | some u4 => some (a4 :: u4)) with | none => none | some u3 => some (a3 :: u3)) with | none => none | some u2 => some (a2 :: u2)) with | none => none | some u1 => some (a1 :: u1)) with | none => none | some u0 => some (a0 :: u0)) with | none => none | some us => call (.fn 112) (app' [] (app' us [])) h) with | none => none | some r0 => some ([r0.1], r0.2)) : Option (List AV × Heap)) with | none => none | some (_, h') => some (tm, h') := rReg (by kernel_rfl)
noncomputable def c112_132 : AC := .skip
theorem r112_132 : RRet c112_132 .normal := rSkip
noncomputable def c112_130 : AC := .cond (.tmp 199) c112_131 c112_132
theorem r112_130 : RCnd c112_130 199 c112_131 c112_132 := rCnd
noncomputable def c112_128 : AC := .seq c112_129 c112_130
theorem r112_128 : RSeq c112_128 c112_129 c112_130 := rSeq
noncomputable def c112_134 : AC := .reg [⟨none, .p2 (bin2 P .lss 3) (.tmp 18) (.tmp 24)⟩, ⟨some (.loc 0, true), .mv (.tmp 24)⟩, ⟨some (.loc 1, true), .mv (.tmp 3)⟩, ⟨some (.loc 2, true), .p2 (bin2 P .lss 3) (.loc 1) (.loc 0)⟩, ⟨none, .pick (.loc 3) (.loc 0) (.cst (AV.bool false))⟩] [(213, .loc 0)]
theorem r112_134 : RReg c112_134 fun call tm h => match ((match (match tm.gt 18 with | none => none | some a => match tm.gt 24 with | none => none | some b => match bin2 P .lss 3 a b with | none => none | some y => some (y, h)) with | none => none | some r0 => match (match wanted true r0.1 with | true => (match tm.gt 24 with | none => none | some a => some (a, r0.2)) | false => some (undefA, r0.2)) with | none => none | some r1 => match (match wanted true r0.1 with | true => (match tm.gt 3 with | none => none | some a => some (a, r1.2)) | false => some (undefA, r1.2)) with | none => none | some r2 => match (match wanted true r0.1 with | true => (match bin2 P .lss 3 r1.1 r2.1 with | none => none | some y => some (y, r2.2)) | false => some (undefA, r2.2)) with | none => none | some r3 => match (eBool (fun t => match (match t with | true => (some r3.1) | false => (some (AV.bool false))) with | none => none | some y => some (y, r3.2)) r0.1) with | none => none | some r4 => some ([r4.1, r3.1, r2.1, r1.1, r0.1], r4.2)) : Option (List AV × Heap)) with | none => none | some (loc, h') => match ((match Opd.get (.loc 0) loc .leaf tm with | none => none | some o0 => some (tm.up (some o0) 213)) : Option (Tr AV)) with | none => none | some tm' => some (tm', h') := rReg (by kernel_rfl)
noncomputable def c112_136 : AC := .reg [⟨none, .cl (.cst (AV.func (Fn.func 112) [] [])) [.tmp 0, .tmp 18, .tmp 24, .tmp 3, .tmp 4]⟩] []
theorem r112_136 : RReg c112_136 fun call tm h => match ((match (match (match tm.gt 0 with | none => none | some a0 => match (match tm.gt 18 with | none => none | some a1 => match (match tm.gt 24 with | none => none | some a2 => match (match tm.gt 3 with | none => none | some a3 => match (match tm.gt 4 with | none => none | some a4 => match (some ([] : List AV)) with | none => none | some u4 => some (a4 :: u4)) with | none => none | some u3 => some (a3 :: u3)) with | none => none | some u2 => some (a2 :: u2)) with | none => none | some u1 => some (a1 :: u1)) with | none => none | some u0 => some (a0 :: u0)) with | none => none | some us => call (.fn 112) (app' [] (app' us [])) h) with | none => none | some r0 => some ([r0.1], r0.2)) : Option (List AV × Heap)) with | none => none | some (_, h') => some (tm, h') := rReg (by kernel_rfl)
noncomputable def c112_137 : AC := .skip
theorem r112_137 : RRet c112_137 .normal := rSkip
noncomputable def c112_135 : AC := .cond (.tmp 213) c112_136 c112_137
theorem r112_135 : RCnd c112_135 213 c112_136 c112_137 := rCnd
noncomputable def c112_133 : AC := .seq c112_134 c112_135
theorem r112_133 : RSeq c112_133 c112_134 c112_135 := rSeq
noncomputable def c112_127 : AC := .seq c112_128 c112_133
theorem r112_127 : RSeq c112_127 c112_128 c112_133 := rSeq
noncomputable def c112_121 : AC := .seq c112_122 c112_127
theorem r112_121 : RSeq c112_121 c112_122 c112_127 := rSeq
noncomputable def c112_119 : AC := .seq c112_120 c112_121
theorem r112_119 : RSeq c112_119 c112_120 c112_121 := rSeq
noncomputable def c112_102 : AC := .seq c112_103 c112_119
theorem r112_102 : RSeq c112_102 c112_103 c112_119 := rSeq
noncomputable def c112_100 : AC := .seq c112_101 c112_102
theorem r112_100 : RSeq c112_100 c112_101 c112_102 := rSeq
noncomputable def c112_90 : AC := .seq c112_91 c112_100
theorem r112_90 : RSeq c112_90 c112_91 c112_100 := rSeq
noncomputable def c112_88 : AC := .seq c112_89 c112_90
theorem r112_88 : RSeq c112_88 c112_89 c112_90 := rSeq
noncomputable def c112_86 : AC := .seq c112_87 c112_88
theorem r112_86 : RSeq c112_86 c112_87 c112_88 := rSeq
noncomputable def c112_84 : AC := .seq c112_85 c112_86
theorem r112_84 : RSeq c112_84 c112_85 c112_86 := rSeq
noncomputable def c112_42 : AC := .seq c112_43 c112_84
theorem r112_42 : RSeq c112_42 c112_43 c112_84 := rSeq
noncomputable def c112_0 : AC := .seq c112_1 c112_42
theorem r112_0 : RSeq c112_0 c112_1 c112_42 := rSeq
noncomputable def fn112 : FnA := ⟨c112_0, [], 220, true⟩
theorem f112A : fnA P (keepF P) 112 = some fn112 := by kernel_rfl

noncomputable def c124_1 : AC := .reg [⟨none, .p2 (bin2 P .sub 3) (.tmp 2) (.tmp 1)⟩] [(10, .loc 0)]
theorem r124_1 : RReg c124_1 fun call tm h => match ((match (match tm.gt 2 with | none => none | some a => match tm.gt 1 with | none => none | some b => match bin2 P .sub 3 a b with | none => none | some y => some (y, h)) with | none => none | some r0 => some ([r0.1], r0.2)) : Option (List AV × Heap)) with | none => none | some (loc, h') => match ((match Opd.get (.loc 0) loc .leaf tm with | none => none | some o0 => some (tm.up (some o0) 10)) : Option (Tr AV)) with | none => none | some tm' => some (tm', h') := rReg (by kernel_rfl)
noncomputable def c124_3 : AC := .reg [⟨none, .p2 (bin2 P .sub 3) (.tmp 3) (.tmp 2)⟩] [(11, .loc 0)]
theorem r124_3 : RReg c124_3 fun call tm h => match ((match (match tm.gt 3 with | none => none | some a => match tm.gt 2 with | none => none | some b => match bin2 P .sub 3 a b with | none => none | some y => some (y, h)) with | none => none | some r0 => some ([r0.1], r0.2)) : Option (List AV × Heap)) with | none => none | some (loc, h') => match ((match Opd.get (.loc 0) loc .leaf tm with | none => none | some o0 => some (tm.up (some o0) 11)) : Option (Tr AV)) with | none => none | some tm' => some (tm', h') := rReg (by kernel_rfl)
noncomputable def c124_9 : AC := .reg [⟨none, .p2 (bin2 P .neq 3) (.tmp 10) (.tmp 11)⟩] [(20, .loc 0)]
theorem r124_9 : RReg c124_9 fun call tm h => match ((match (match tm.gt 10 with | none => none | some a => match tm.gt 11 with | none => none | some b => match bin2 P .neq 3 a b with | none => none | some y => some (y, h)) with | none => none | some r0 => some ([r0.1], r0.2)) : Option (List AV × Heap)) with | none => none | some (loc, h') => match ((match Opd.get (.loc 0) loc .leaf tm with | none => none | some o0 => some (tm.up (some o0) 20)) : Option (Tr AV)) with | none => none | some tm' => some (tm', h') := rReg (by kernel_rfl)
noncomputable def c124_11 : AC := .skip
theorem r124_11 : RRet c124_11 .normal := rSkip
noncomputable def c124_12 : AC := .exit 0
theorem r124_12 : RRet c124_12 (.exit 0) := rExit
noncomputable def c124_10 : AC := .cond (.tmp 20) c124_11 c124_12
theorem r124_10 : RCnd c124_10 20 c124_11 c124_12 := rCnd
noncomputable def c124_8 : AC := .seq c124_9 c124_10
theorem r124_8 : RSeq c124_8 c124_9 c124_10 := rSeq
noncomputable def c124_15 : AC := .reg [⟨none, .p2 (bin2 P .gtr 3) (.tmp 10) (.tmp 11)⟩] [(23, .loc 0)]
theorem r124_15 : RReg c124_15 fun call tm h => match ((match (match tm.gt 10 with | none => none | some a => match tm.gt 11 with | none => none | some b => match bin2 P .gtr 3 a b with | none => none | some y => some (y, h)) with | none => none | some r0 => some ([r0.1], r0.2)) : Option (List AV × Heap)) with | none => none | some (loc, h') => match ((match Opd.get (.loc 0) loc .leaf tm with | none => none | some o0 => some (tm.up (some o0) 23)) : Option (Tr AV)) with | none => none | some tm' => some (tm', h') := rReg (by kernel_rfl)
noncomputable def c124_18 : AC := .reg [⟨none, .p2 (bin2 P .sub 3) (.tmp 2) (.tmp 10)⟩, ⟨none, .cl (.cst (AV.func (Fn.func 130) [] [])) [.tmp 0, .loc 0, .tmp 2, .tmp 11, .tmp 4]⟩] []
theorem r124_18 : RReg c124_18 fun call tm h => match ((match (match tm.gt 2 with | none => none | some a => match tm.gt 10 with | none => none | some b => match bin2 P .sub 3 a b with | none => none | some y => some (y, h)) with | none => none | some r0 => match (match (match tm.gt 0 with | none => none | some a0 => match (match (match tm.gt 2 with | none => none | some a1 => match (match tm.gt 11 with | none => none | some a2 => match (match tm.gt 4 with | none => none | some a3 => match (some ([] : List AV)) with | none => none | some u3 => some (a3 :: u3)) with | none => none | some u2 => some (a2 :: u2)) with | none => none | some u1 => some (a1 :: u1)) with | none => none | some u1 => some (r0.1 :: u1)) with | none => none | some u0 => some (a0 :: u0)) with | none => none | some us => call (.fn 130) (app' [] (app' us [])) r0.2) with | none => none | some r1 => some ([r1.1, r0.1], r1.2)) : Option (List AV × Heap)) with | none => none | some (_, h') => some (tm, h') := rReg (by kernel_rfl)
noncomputable def c124_19 : AC := .reg [⟨none, .p2 (bin2 P .sub 3) (.tmp 10) (.tmp 11)⟩] [(10, .loc 0)]
theorem r124_19 : RReg c124_19 fun call tm h => match ((match (match tm.gt 10 with | none => none | some a => match tm.gt 11 with | none => none | some b => match bin2 P .sub 3 a b with | none => none | some y => some (y, h)) with | none => none | some r0 => some ([r0.1], r0.2)) : Option (List AV × Heap)) with | none => none | some (loc, h') => match ((match Opd.get (.loc 0) loc .leaf tm with | none => none | some o0 => some (tm.up (some o0) 10)) : Option (Tr AV)) with | none => none | some tm' => some (tm', h') := rReg (by kernel_rfl)
noncomputable def c124_17 : AC := .seq c124_18 c124_19
theorem r124_17 : RSeq c124_17 c124_18 c124_19 := rSeq
noncomputable def c124_21 : AC := .reg [⟨none, .p2 (bin2 P .sub 3) (.tmp 2) (.tmp 10)⟩, ⟨none, .p2 (bin2 P .add 3) (.tmp 2) (.tmp 11)⟩, ⟨none, .p2 (bin2 P .sub 3) (.loc 0) (.tmp 10)⟩, ⟨none, .cl (.cst (AV.func (Fn.func 130) [] [])) [.tmp 0, .loc 2, .loc 0, .tmp 10, .tmp 4]⟩] []
theorem r124_21 : RReg c124_21 fun call tm h => match ((match (match tm.gt 2 with | none => none | some a => match tm.gt 10 with | none => none | some b => match bin2 P .sub 3 a b with | none => none | some y => some (y, h)) with | none => none | some r0 => match (match tm.gt 2 with | none => none | some a => match tm.gt 11 with | none => none | some b => match bin2 P .add 3 a b with | none => none | some y => some (y, r0.2)) with | none => none | some r1 => match (match tm.gt 10 with | none => none | some b => match bin2 P .sub 3 r1.1 b with | none => none | some y => some (y, r1.2)) with | none => none | some r2 => match (match (match tm.gt 0 with | none => none | some a0 => match (match (match (match tm.gt 10 with | none => none | some a1 => match (match tm.gt 4 with | none => none | some a2 => match (some ([] : List AV)) with | none => none | some u2 => some (a2 :: u2)) with | none => none | some u1 => some (a1 :: u1)) with | none => none | some u1 => some (r2.1 :: u1)) with | none => none | some u1 => some (r0.1 :: u1)) with | none => none | some u0 => some (a0 :: u0)) with | none => none | some us => call (.fn 130) (app' [] (app' us [])) r2.2) with | none => none | some r3 => some ([r3.1, r2.1, r1.1, r0.1], r3.2)) : Option (List AV × Heap)) with | none => none | some (_, h') => some (tm, h') := rReg (by kernel_rfl)
noncomputable def c124_22 : AC := .reg [⟨none, .p2 (bin2 P .sub 3) (.tmp 11) (.tmp 10)⟩] [(11, .loc 0)]
theorem r124_22 : RReg c124_22 fun call tm h => match ((match (match tm.gt 11 with | none => none | some a => match tm.gt 10 with | none => none | some b => match bin2 P .sub 3 a b with | none => none | some y => some (y, h)) with | none => none | some r0 => some ([r0.1], r0.2)) : Option (List AV × Heap)) with | none => none | some (loc, h') => match ((match Opd.get (.loc 0) loc .leaf tm with | none => none | some o0 => some (tm.up (some o0) 11)) : Option (Tr AV)) with | none => none | some tm' => some (tm', h') := rReg (by kernel_rfl)
noncomputable def c124_20 : AC := .seq c124_21 c124_22
theorem r124_20 : RSeq c124_20 c124_21 c124_22 := rSeq
noncomputable def c124_16 : AC := .cond (.tmp 23) c124_17 c124_20
theorem r124_16 : RCnd c124_16 23 c124_17 c124_20 := rCnd
noncomputable def c124_14 : AC := .seq c124_15 c124_16
theorem r124_14 : RSeq c124_14 c124_15 c124_16 := rSeq
noncomputable def c124_13 : AC := .block 1 c124_14
theorem r124_13 : RBlk c124_13 1 c124_14 := rBlk
noncomputable def c124_7 : AC := .seq c124_8 c124_13
theorem r124_7 : RSeq c124_7 c124_8 c124_13 := rSeq
/- LOOP -/
noncomputable def c124_6 : AC := .loop c124_7
noncomputable def c124_5 : AC := .block 0 c124_6
theorem r124_5 : RBlk c124_5 0 c124_6 := rBlk
noncomputable def c124_23 : AC := .reg [⟨none, .p2 (bin2 P .sub 3) (.tmp 2) (.tmp 10)⟩, ⟨none, .cl (.cst (AV.func (Fn.func 130) [] [])) [.tmp 0, .loc 0, .tmp 2, .tmp 10, .tmp 4]⟩] []
theorem r124_23 : RReg c124_23 fun call tm h => match ((match (match tm.gt 2 with | none => none | some a => match tm.gt 10 with | none => none | some b => match bin2 P .sub 3 a b with | none => none | some y => some (y, h)) with | none => none | some r0 => match (match (match tm.gt 0 with | none => none | some a0 => match (match (match tm.gt 2 with | none => none | some a1 => match (match tm.gt 10 with | none => none | some a2 => match (match tm.gt 4 with | none => none | some a3 => match (some ([] : List AV)) with | none => none | some u3 => some (a3 :: u3)) with | none => none | some u2 => some (a2 :: u2)) with | none => none | some u1 => some (a1 :: u1)) with | none => none | some u1 => some (r0.1 :: u1)) with | none => none | some u0 => some (a0 :: u0)) with | none => none | some us => call (.fn 130) (app' [] (app' us [])) r0.2) with | none => none | some r1 => some ([r1.1, r0.1], r1.2)) : Option (List AV × Heap)) with | none => none | some (_, h') => some (tm, h') := rReg (by kernel_rfl)
noncomputable def c124_4 : AC := .seq c124_5 c124_23
theorem r124_4 : RSeq c124_4 c124_5 c124_23 := rSeq
noncomputable def c124_2 : AC := .seq c124_3 c124_4
theorem r124_2 : RSeq c124_2 c124_3 c124_4 := rSeq
noncomputable def c124_0 : AC := .seq c124_1 c124_2
theorem r124_0 : RSeq c124_0 c124_1 c124_2 := rSeq
noncomputable def fn124 : FnA := ⟨c124_0, [], 58, true⟩
theorem f124A : fnA P (keepF P) 124 = some fn124 := by kernel_rfl

noncomputable def c130_1 : AC := .reg [] [(10, .cst (AV.int .i64 0))]
theorem r130_1 : RReg c130_1 fun call tm h => some ((tm.up (some (AV.int .i64 0)) 10), h) := rReg (by kernel_rfl)
noncomputable def c130_6 : AC := .reg [⟨none, .p2 (bin2 P .lss 3) (.tmp 10) (.tmp 3)⟩] [(13, .loc 0)]
theorem r130_6 : RReg c130_6 fun call tm h => match ((match (match tm.gt 10 with | none => none | some a => match tm.gt 3 with | none => none | some b => match bin2 P .lss 3 a b with | none => none | some y => some (y, h)) with | none => none | some r0 => some ([r0.1], r0.2)) : Option (List AV × Heap)) with | none => none | some (loc, h') => match ((match Opd.get (.loc 0) loc .leaf tm with | none => none | some o0 => some (tm.up (some o0) 13)) : Option (Tr AV)) with | none => none | some tm' => some (tm', h') := rReg (by kernel_rfl)
noncomputable def c130_8 : AC := .skip
theorem r130_8 : RRet c130_8 .normal := rSkip
noncomputable def c130_9 : AC := .exit 0
theorem r130_9 : RRet c130_9 (.exit 0) := rExit
noncomputable def c130_7 : AC := .cond (.tmp 13) c130_8 c130_9
theorem r130_7 : RCnd c130_7 13 c130_8 c130_9 := rCnd
noncomputable def c130_5 : AC := .seq c130_6 c130_7
theorem r130_5 : RSeq c130_5 c130_6 c130_7 := rSeq
noncomputable def c130_12g : List (Nat × GIns) := [(0, ⟨none, .mv (.tmp 0)⟩), (1, ⟨none, .mv (.tmp 1)⟩), (2, ⟨none, .mv (.tmp 10)⟩), (3, ⟨none, .p2 (bin2 P .add 3) (.opi 1) (.opi 2)⟩), (4, ⟨none, .mv (.tmp 0)⟩), (5, ⟨none, .mv (.tmp 2)⟩), (6, ⟨none, .mv (.tmp 10)⟩), (7, ⟨none, .p2 (bin2 P .add 3) (.opi 5) (.opi 6)⟩), (8, ⟨none, .mv (.tmp 0)⟩), (9, ⟨none, .mv (.tmp 2)⟩), (10, ⟨none, .mv (.tmp 10)⟩), (11, ⟨none, .p2 (bin2 P .add 3) (.opi 9) (.opi 10)⟩), (12, ⟨none, .p2 (indexAddr2 P 142) (.opi 8) (.opi 11)⟩), (13, ⟨none, .ld1 (.opi 12)⟩), (14, ⟨none, .mv (.tmp 0)⟩), (15, ⟨none, .mv (.tmp 1)⟩), (16, ⟨none, .mv (.tmp 10)⟩), (17, ⟨none, .p2 (bin2 P .add 3) (.opi 15) (.opi 16)⟩), (18, ⟨none, .p2 (indexAddr2 P 142) (.opi 14) (.opi 17)⟩), (19, ⟨none, .ld1 (.opi 18)⟩), (20, ⟨none, .p2 (indexAddr2 P 142) (.opi 0) (.opi 3)⟩), (21, ⟨none, .st1 (.opi 20) (.opi 13)⟩), (22, ⟨none, .p2 (indexAddr2 P 142) (.opi 4) (.opi 7)⟩), (23, ⟨none, .st1 (.opi 22) (.opi 19)⟩)]
noncomputable def c130_12 : AC := .draw 24 (stagesOf #[0, 0, 0, 6, 0, 0, 0, 96, 0, 0, 0, 1536, 3840, 7936, 0, 0, 0, 98304, 245760, 507904, 1048335, 2096911, 4194303, 8388607] c130_12g [21, 23] 0 (c130_12g.filter fun x => x.2.i.eff)) []
theorem r130_12 : RReg c130_12 fun call tm h => match (let base := h.next; let vs : Tr AV := .leaf; let h := Heap.mk h.bs (h.next + 24); ((match ((match (match (match tm.gt 0 with | none => none | some a => some (a, h)) with | none => none | some y => some y.1) with | none => none | some v => let vs := vs.up (some v) 0; match (match (match tm.gt 1 with | none => none | some a => some (a, h)) with | none => none | some y => some y.1) with | none => none | some v => let vs := vs.up (some v) 1; match (match (match tm.gt 10 with | none => none | some a => some (a, h)) with | none => none | some y => some y.1) with | none => none | some v => let vs := vs.up (some v) 2; match (match (match vs.gt 1 with | none => none | some a => match vs.gt 2 with | none => none | some b => match bin2 P .add 3 a b with | none => none | some y => some (y, h)) with | none => none | some y => some y.1) with | none => none | some v => let vs := vs.up (some v) 3; match (match (match tm.gt 0 with | none => none | some a => some (a, h)) with | none => none | some y => some y.1) with | none => none | some v => let vs := vs.up (some v) 4; match (match (match tm.gt 2 with | none => none | some a => some (a, h)) with | none => none | some y => some y.1) with | none => none | some v => let vs := vs.up (some v) 5; match (match (match tm.gt 10 with | none => none | some a => some (a, h)) with | none => none | some y => some y.1) with | none => none | some v => let vs := vs.up (some v) 6; match (match (match vs.gt 5 with | none => none | some a => match vs.gt 6 with | none => none | some b => match bin2 P .add 3 a b with | none => none | some y => some (y, h)) with | none => none | some y => some y.1) with | none => none | some v => let vs := vs.up (some v) 7; match (match (match tm.gt 0 with | none => none | some a => some (a, h)) with | none => none | some y => some y.1) with | none => none | some v => let vs := vs.up (some v) 8; match (match (match tm.gt 2 with | none => none | some a => some (a, h)) with | none => none | some y => some y.1) with | none => none | some v => let vs := vs.up (some v) 9; match (match (match tm.gt 10 with | none => none | some a => some (a, h)) with | none => none | some y => some y.1) with | none => none | some v => let vs := vs.up (some v) 10; match (match (match vs.gt 9 with | none => none | some a => match vs.gt 10 with | none => none | some b => match bin2 P .add 3 a b with | none => none | some y => some (y, h)) with | none => none | some y => some y.1) with | none => none | some v => let vs := vs.up (some v) 11; match (match (match vs.gt 8 with | none => none | some a => match vs.gt 11 with | none => none | some b => match indexAddr2 P 142 a b with | none => none | some y => some (y, h)) with | none => none | some y => some y.1) with | none => none | some v => let vs := vs.up (some v) 12; match (match (match vs.gt 12 with | none => none | some a => match load1 h a with | none => none | some y => some (y, h)) with | none => none | some y => some y.1) with | none => none | some v => let vs := vs.up (some v) 13; match (match (match tm.gt 0 with | none => none | some a => some (a, h)) with | none => none | some y => some y.1) with | none => none | some v => let vs := vs.up (some v) 14; match (match (match tm.gt 1 with | none => none | some a => some (a, h)) with | none => none | some y => some y.1) with | none => none | some v => let vs := vs.up (some v) 15; match (match (match tm.gt 10 with | none => none | some a => some (a, h)) with | none => none | some y => some y.1) with | none => none | some v => let vs := vs.up (some v) 16; match (match (match vs.gt 15 with | none => none | some a => match vs.gt 16 with | none => none | some b => match bin2 P .add 3 a b with | none => none | some y => some (y, h)) with | none => none | some y => some y.1) with | none => none | some v => let vs := vs.up (some v) 17; match (match (match vs.gt 14 with | none => none | some a => match vs.gt 17 with | none => none | some b => match indexAddr2 P 142 a b with | none => none | some y => some (y, h)) with | none => none | some y => some y.1) with | none => none | some v => let vs := vs.up (some v) 18; match (match (match vs.gt 18 with | none => none | some a => match load1 h a with | none => none | some y => some (y, h)) with | none => none | some y => some y.1) with | none => none | some v => let vs := vs.up (some v) 19; match (match (match vs.gt 0 with | none => none | some a => match vs.gt 3 with | none => none | some b => match indexAddr2 P 142 a b with | none => none | some y => some (y, h)) with | none => none | some y => some y.1) with | none => none | some v => let vs := vs.up (some v) 20; some vs) : Option (Tr AV)) with | none => none | some vs => match (match vs.gt 20 with | none => none | some a => match vs.gt 13 with | none => none | some b => store1 h a b) with | none => none | some r => let vs := vs.up (some r.1) 21; let h := r.2; match ((match (match (match vs.gt 4 with | none => none | some a => match vs.gt 7 with | none => none | some b => match indexAddr2 P 142 a b with | none => none | some y => some (y, h)) with | none => none | some y => some y.1) with | none => none | some v => let vs := vs.up (some v) 22; some vs) : Option (Tr AV)) with | none => none | some vs => match (match vs.gt 22 with | none => none | some a => match vs.gt 19 with | none => none | some b => store1 h a b) with | none => none | some r => let vs := vs.up (some r.1) 23; let h := r.2; some (vs, h)) : Option (Tr AV × Heap))) with | none => none | some (vs, h') => some (tm, h') := rDrw (by kernel_rfl)
noncomputable def c130_11 : AC := .block 1 c130_12
theorem r130_11 : RBlk c130_11 1 c130_12 := rBlk
noncomputable def c130_13 : AC := .reg [⟨none, .p2 (bin2 P .add 3) (.tmp 10) (.cst (AV.int .i64 1))⟩] [(10, .loc 0)]
theorem r130_13 : RReg c130_13 fun call tm h => match ((match (match tm.gt 10 with | none => none | some a => match bin2 P .add 3 a (AV.int .i64 1) with | none => none | some y => some (y, h)) with | none => none | some r0 => some ([r0.1], r0.2)) : Option (List AV × Heap)) with | none => none | some (loc, h') => match ((match Opd.get (.loc 0) loc .leaf tm with | none => none | some o0 => some (tm.up (some o0) 10)) : Option (Tr AV)) with | none => none | some tm' => some (tm', h') := rReg (by kernel_rfl)
noncomputable def c130_10 : AC := .seq c130_11 c130_13
theorem r130_10 : RSeq c130_10 c130_11 c130_13 := rSeq
noncomputable def c130_4 : AC := .seq c130_5 c130_10
theorem r130_4 : RSeq c130_4 c130_5 c130_10 := rSeq
/- LOOP -/
noncomputable def c130_3 : AC := .loop c130_4
noncomputable def c130_2 : AC := .block 0 c130_3
theorem r130_2 : RBlk c130_2 0 c130_3 := rBlk
noncomputable def c130_0 : AC := .seq c130_1 c130_2
theorem r130_0 : RSeq c130_0 c130_1 c130_2 := rSeq
noncomputable def fn130 : FnA := ⟨c130_0, [], 38, true⟩
theorem f130A : fnA P (keepF P) 130 = some fn130 := by kernel_rfl

theorem u_41 : P.underlying 41 = some (.slice 53) := by kernel_rfl
theorem s_41 : tSize P 41 = some 1 := by kernel_rfl
theorem b_41 : tBytes P 41 = some 24 := by kernel_rfl
theorem z_41 : tZero P 41 = some (AV.slice none 0 0 none) := by kernel_rfl
theorem s_53 : tSize P 53 = some 4 := by kernel_rfl
theorem b_53 : tBytes P 53 = some 32 := by kernel_rfl
theorem z_53 : tZero P 53 = some (AV.agg [(AV.str []), (AV.int .u32 0), (AV.int .u32 0), (AV.int .i64 0)]) := by kernel_rfl
theorem x_ne_4 (x y : Bool) : bin2 P .neq 4 (.bool x) (.bool y) = some (.bool (!(x == y))) := b_neqB (by kernel_rfl)
theorem x_len_41 (a : Option (Nat × Nat)) (n c : Nat) (g : Option Nat) : len1 P 41 (.slice a n c g) = some (.int .i64 n) := len_slice (e := 53) (by kernel_rfl) a n c g
theorem x_ia_41 {k : IntKind} {b o n c i : Nat} {g : Option Nat} (hi : i < n) : indexAddr2 P 41 (.slice (some (b, o)) n c g) (.int k (i : Int)) = some (.ptr (some (b, o + i * 4))) := ia_slice (e := 53) (by kernel_rfl) (by kernel_rfl) hi
theorem x_fa_53_0 (b o : Nat) : fieldAddr1 P 53 0 (.ptr (some (b, o))) = some (.ptr (some (b, o + 0))) := by kernel_rfl
theorem u_9 : P.underlying 9 = some .string := by kernel_rfl
theorem s_9 : tSize P 9 = some 1 := by kernel_rfl
theorem b_9 : tBytes P 9 = some 16 := by kernel_rfl
theorem z_9 : tZero P 9 = some (AV.str []) := by kernel_rfl
theorem x_len_9 (l : List Nat) : len1 P 9 (.str l) = some (.int .i64 l.length) := len_str (by kernel_rfl) l
theorem x_al_43 : allocN P 43 = some (.cells (fillC [(AV.slice none 0 0 none)] .leaf 0) (tyMark 43 true) 1 false, ptrTo) := by kernel_rfl
theorem x_al_3 : allocN P 3 = some (.cells (fillC [(AV.int .i64 0)] .leaf 0) (tyMark 3 true) 1 false, ptrTo) := by kernel_rfl
theorem u_3 : P.underlying 3 = some (.int .i64) := by kernel_rfl
theorem s_3 : tSize P 3 = some 1 := by kernel_rfl
theorem b_3 : tBytes P 3 = some 8 := by kernel_rfl
theorem z_3 : tZero P 3 = some (AV.int .i64 0) := by kernel_rfl
theorem x_al_53 : allocN P 53 = some (.cells (fillC [(AV.str []), (AV.int .u32 0), (AV.int .u32 0), (AV.int .i64 0)] .leaf 0) (tyMark 53 true) 4 false, ptrTo) := by kernel_rfl
theorem u_43 : P.underlying 43 = some (.slice 27) := by kernel_rfl
theorem s_43 : tSize P 43 = some 1 := by kernel_rfl
theorem b_43 : tBytes P 43 = some 24 := by kernel_rfl
theorem z_43 : tZero P 43 = some (AV.slice none 0 0 none) := by kernel_rfl
theorem x_fa_53_1 (b o : Nat) : fieldAddr1 P 53 1 (.ptr (some (b, o))) = some (.ptr (some (b, o + 1))) := by kernel_rfl
theorem u_27 : P.underlying 27 = some (.int .u32) := by kernel_rfl
theorem s_27 : tSize P 27 = some 1 := by kernel_rfl
theorem b_27 : tBytes P 27 = some 4 := by kernel_rfl
theorem z_27 : tZero P 27 = some (AV.int .u32 0) := by kernel_rfl
theorem x_bs_43_1 (n0 : Int) : buildSliceN P 43 1 [0] [(AV.int .u32 n0)] = some (.cells (fillC [(AV.int .u32 n0)] .leaf 0) [] 1 false, sliceTo 1) := by kernel_rfl
theorem u_47 : P.underlying 47 = some (.slice 101) := by kernel_rfl
theorem s_47 : tSize P 47 = some 1 := by kernel_rfl
theorem b_47 : tBytes P 47 = some 24 := by kernel_rfl
theorem z_47 : tZero P 47 = some (AV.slice none 0 0 none) := by kernel_rfl
theorem s_101 : tSize P 101 = some 4 := by kernel_rfl
theorem b_101 : tBytes P 101 = some 32 := by kernel_rfl
theorem z_101 : tZero P 101 = some (AV.agg [(AV.str []), (AV.int .u32 0), (AV.int .u32 0), (AV.int .i64 0)]) := by kernel_rfl
theorem x_ia_47 {k : IntKind} {b o n c i : Nat} {g : Option Nat} (hi : i < n) : indexAddr2 P 47 (.slice (some (b, o)) n c g) (.int k (i : Int)) = some (.ptr (some (b, o + i * 4))) := ia_slice (e := 101) (by kernel_rfl) (by kernel_rfl) hi
theorem x_fa_101_1 (b o : Nat) : fieldAddr1 P 101 1 (.ptr (some (b, o))) = some (.ptr (some (b, o + 1))) := by kernel_rfl
theorem x_sl_47_010 {a : Option (Nat × Nat)} {n c hi : Nat} {g : Option Nat} {k : IntKind} (hg : gOk g 4 = true) (h : hi ≤ c) : sliceN P 47 false true false [.slice a n c g, .int k (hi : Int)] = some (.slice (a.map fun p => (p.1, p.2 + 0 * 4)) (hi - 0) (c - 0) g) := sl_010 (e := 101) (by kernel_rfl) (by kernel_rfl) hg h
theorem x_sl_47_100 {a : Option (Nat × Nat)} {n c lo : Nat} {g : Option Nat} {k : IntKind} (hg : gOk g 4 = true) (h : lo ≤ n) : sliceN P 47 true false false [.slice a n c g, .int k (lo : Int)] = some (.slice (a.map fun p => (p.1, p.2 + lo * 4)) (n - lo) (c - lo) g) := sl_100 (e := 101) (by kernel_rfl) (by kernel_rfl) hg h
theorem x_bs_47_1 (s0 : List Nat) (n1 : Int) (n2 : Int) (n3 : Int) : buildSliceN P 47 1 [0] [(AV.agg [AV.str s0, AV.int .u32 n1, AV.int .u32 n2, AV.int .i64 n3])] = some (.cells (fillC [AV.str s0, AV.int .u32 n1, AV.int .u32 n2, AV.int .i64 n3] .leaf 0) [] 4 false, sliceTo 1) := by kernel_rfl
theorem x_len_43 (a : Option (Nat × Nat)) (n c : Nat) (g : Option Nat) : len1 P 43 (.slice a n c g) = some (.int .i64 n) := len_slice (e := 27) (by kernel_rfl) a n c g
theorem x_ia_43 {k : IntKind} {b o n c i : Nat} {g : Option Nat} (hi : i < n) : indexAddr2 P 43 (.slice (some (b, o)) n c g) (.int k (i : Int)) = some (.ptr (some (b, o + i * 1))) := ia_slice (e := 27) (by kernel_rfl) (by kernel_rfl) hi
theorem x_len_47 (a : Option (Nat × Nat)) (n c : Nat) (g : Option Nat) : len1 P 47 (.slice a n c g) = some (.int .i64 n) := len_slice (e := 101) (by kernel_rfl) a n c g
theorem x_fa_101_3 (b o : Nat) : fieldAddr1 P 101 3 (.ptr (some (b, o))) = some (.ptr (some (b, o + 3))) := by kernel_rfl
theorem x_fa_53_3 (b o : Nat) : fieldAddr1 P 53 3 (.ptr (some (b, o))) = some (.ptr (some (b, o + 3))) := by kernel_rfl
theorem x_mm_144 : makeMap1 P 144 true = some (.map [] 0, mapTo) := mm_map (kt := 9) (e := 3) (by kernel_rfl)
theorem x_len_142 (a : Option (Nat × Nat)) (n c : Nat) (g : Option Nat) : len1 P 142 (.slice a n c g) = some (.int .i64 n) := len_slice (e := 3) (by kernel_rfl) a n c g
theorem x_ia_142 {k : IntKind} {b o n c i : Nat} {g : Option Nat} (hi : i < n) : indexAddr2 P 142 (.slice (some (b, o)) n c g) (.int k (i : Int)) = some (.ptr (some (b, o + i * 1))) := ia_slice (e := 3) (by kernel_rfl) (by kernel_rfl) hi
theorem x_bs_142_1 (n0 : Int) : buildSliceN P 142 1 [0] [(AV.int .i64 n0)] = some (.cells (fillC [(AV.int .i64 n0)] .leaf 0) [] 1 false, sliceTo 1) := by kernel_rfl
theorem u_142 : P.underlying 142 = some (.slice 3) := by kernel_rfl
theorem s_142 : tSize P 142 = some 1 := by kernel_rfl
theorem b_142 : tBytes P 142 = some 24 := by kernel_rfl
theorem z_142 : tZero P 142 = some (AV.slice none 0 0 none) := by kernel_rfl
theorem x_fa_101_0 (b o : Nat) : fieldAddr1 P 101 0 (.ptr (some (b, o))) = some (.ptr (some (b, o + 0))) := by kernel_rfl
theorem x_fa_101_2 (b o : Nat) : fieldAddr1 P 101 2 (.ptr (some (b, o))) = some (.ptr (some (b, o + 2))) := by kernel_rfl
theorem x_fa_53_2 (b o : Nat) : fieldAddr1 P 53 2 (.ptr (some (b, o))) = some (.ptr (some (b, o + 2))) := by kernel_rfl
theorem x_bs_142_2 (n0 : Int) (n1 : Int) : buildSliceN P 142 2 [0, 1] [(AV.int .i64 n0), (AV.int .i64 n1)] = some (.cells (fillC [(AV.int .i64 n0), (AV.int .i64 n1)] .leaf 0) [] 2 false, sliceTo 2) := by kernel_rfl
theorem x_cv_3_119 (k : IntKind) (n : Int) : conv1 P 3 119 (.int k n) = some (.int .u64 (IntKind.wrap .u64 n)) := cv_int (d := (.int .i64)) (by kernel_rfl) (by kernel_rfl) k n
theorem x_cv_119_3 (k : IntKind) (n : Int) : conv1 P 119 3 (.int k n) = some (.int .i64 (IntKind.wrap .i64 n)) := cv_int (d := (.int .u64)) (by kernel_rfl) (by kernel_rfl) k n
end Go.Proofs.Ytlfednnfkejcjaa

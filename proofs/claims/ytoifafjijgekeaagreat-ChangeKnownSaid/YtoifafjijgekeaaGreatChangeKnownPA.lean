/-
  Parts of the run of ChangeKnown, told before. No condition.
-/
import Derived.Test.YtoifafjijgekeaaGreatBase
namespace Go.Proofs.YtoifafjijgekeaaGreat.ChangeKnownRun
open Go.Shelf
noncomputable section
def e0A : List Am.AV := [pt 15 0, .str [47, 97], .str [120], .slice none 0 0 none, nI64 3654]
def e0H : Am.Heap := ⟨hp [(0, .cells (ups []) (Am.app' (Am.rep' 128 [nU8 0]) [.bool false]) 33024 false),
  (1, .cells (Am.fillC [sl 0 0 256 256 none] .leaf 0) [] 1 false),
  (2, .map [] 0),
  (3, .map [] 0),
  (4, .map [] 0),
  (5, .map [] 0),
  (6, .cells (Am.fillC [nU8 0, nU32 0, nU32 1, nU32 1, nU8 0, nU32 0, nI64 1048576, .map (some 2), .map (some 3), .map (some 4), .map (some 5)] .leaf 0) [] 11 false),
  (7, .cells (Am.fillC [pt 1 0, mI64 0, .slice none 0 0 none, nI64 0, .bool false] .leaf 0) [] 5 false),
  (8, .map [] 0),
  (10, .cells (Am.fillC [.map (some 8), pt 9 0, nU32 1] .leaf 0) [] 3 false),
  (11, .cells (ups []) [nU64 0, nU64 0, nU64 0, nU64 0] 4 false),
  (12, .cells (Am.fillC [nI64 128, nI64 256, sl 11 0 1 1 none] .leaf 0) [] 3 false),
  (13, .cells (Am.fillC [pt 7 0, pt 10 0, pt 12 0] .leaf 0) [] 3 false),
  (15, .cells (Am.fillC [pt 1 0, pt 6 0, pt 13 0, nU8 0, nU32 0, nU32 1, nU8 0, nU32 0, nI64 1048576, .slice none 0 0 none, .slice none 0 0 none, .slice none 0 0 none, nI64 128] .leaf 0) [] 13 false)], 16⟩
def e0V : Am.AV := nI64 0
def e0G : Am.Heap := ⟨hp [(0, .cells (sg [(16512, (Am.app' (Am.app' (bsL [120]) (Am.app' (Am.rep' 63 [nU8 0]) (Am.app' (bsL [120]) (Am.rep' 63 [nU8 0])))) [.bool false]))]) (Am.app' (Am.rep' 128 [nU8 0]) [.bool false]) 33024 false),
  (1, .cells (Am.fillC [sl 0 0 256 256 none] .leaf 0) [] 1 false),
  (2, .map [] 0),
  (3, .map [] 0),
  (4, .map [] 0),
  (5, .map [] 0),
  (6, .cells (Am.fillC [nU8 0, nU32 0, nU32 1, nU32 1, nU8 0, nU32 0, nI64 1048576, .map (some 2), .map (some 3), .map (some 4), .map (some 5)] .leaf 0) [] 11 false),
  (7, .cells (Am.fillC [pt 1 0, mI64 0, .slice none 0 0 none, nI64 2, .bool false] .leaf 0) [] 5 false),
  (8, .map [] 0),
  (10, .cells (Am.fillC [.map (some 8), pt 9 0, nU32 1] .leaf 0) [] 3 false),
  (11, .cells (ups []) [nU64 0, nU64 0, nU64 0, nU64 0] 4 false),
  (12, .cells (Am.fillC [nI64 128, nI64 256, sl 11 0 1 1 none] .leaf 0) [] 3 false),
  (13, .cells (Am.fillC [pt 7 0, pt 43 0, pt 1401 0] .leaf 0) [] 3 false),
  (15, .cells (Am.fillC [pt 1 0, pt 158 0, pt 13 0, nU8 0, nU32 0, nU32 1, nU8 0, nU32 0, nI64 1048576, .slice none 0 0 none, .slice none 0 0 none, .slice none 0 0 none, nI64 128] .leaf 0) [] 13 false),
  (41, .map [⟨nU32 1, .agg [.str [120], nI64 128, nI64 1], 0⟩] 1),
  (43, .cells (Am.fillC [.map (some 41), pt 42 0, nU32 2] .leaf 0) [] 3 false),
  (154, .map [⟨.str [47, 97], .agg [nU32 1, nU32 0, nU32 0, nU32 0, nU32 0, nU32 0, nU32 0, nU32 0, sl 802 0 1 1 (some 5)], 0⟩] 1),
  (155, .map [] 0),
  (156, .map [⟨nU32 1, .agg [nU32 1, nI64 128, nI64 1, nI64 1], 0⟩] 1),
  (157, .map [] 0),
  (158, .cells (Am.fillC [nU8 0, nU32 0, nU32 1, nU32 2, nU8 0, nU32 0, nI64 1048576, .map (some 154), .map (some 155), .map (some 156), .map (some 157)] .leaf 0) [] 11 false),
  (801, .cells (Am.fillC [nU32 1] .leaf 0) [nU32 0] 1 false),
  (802, .cells (Am.fillC [nU8 0, nU32 1, .bool false, nI64 1, sl 801 0 1 1 none] .leaf 0) [.tuple [nU64 145, .bool false]] 5 false),
  (1400, .cells (ups [(2, nU64 1)]) [nU64 0, nU64 0, nU64 0, nU64 0] 4 false),
  (1401, .cells (Am.fillC [nI64 128, nI64 256, sl 1400 0 1 1 none] .leaf 0) [] 3 false)], 1457⟩

noncomputable def e0P : Am.Prims := Am.snapF 13 e0A e0H e0V e0G
noncomputable def e0Q : Am.Prims := prB
theorem e0R : Am.answers (Am.callNF Tryz.prog (Am.keepF Tryz.prog) e0Q 100000 300 (.fn 13) e0A e0H) e0V e0G = true := by kernel_rfl
theorem e0Ok : Am.PrimsOk Tryz.prog (Am.keepF Tryz.prog) e0P := Am.snapF_ok mixed namesQ prBOk (by kernel_rfl) e0R
def e1A : List Am.AV := [pt 15 0, .str [47, 97], .str [121], sl 1458 0 1 1 none, nI64 3654]
def e1H : Am.Heap := ⟨hp [(0, .cells (sg [(16512, (Am.app' (Am.app' (bsL [120]) (Am.app' (Am.rep' 63 [nU8 0]) (Am.app' (bsL [120]) (Am.rep' 63 [nU8 0])))) [.bool false]))]) (Am.app' (Am.rep' 128 [nU8 0]) [.bool false]) 33024 false),
  (1, .cells (Am.fillC [sl 0 0 256 256 none] .leaf 0) [] 1 false),
  (7, .cells (Am.fillC [pt 1 0, mI64 0, .slice none 0 0 none, nI64 2, .bool false] .leaf 0) [] 5 false),
  (13, .cells (Am.fillC [pt 7 0, pt 43 0, pt 1401 0] .leaf 0) [] 3 false),
  (15, .cells (Am.fillC [pt 1 0, pt 158 0, pt 13 0, nU8 0, nU32 0, nU32 1, nU8 0, nU32 0, nI64 1048576, .slice none 0 0 none, .slice none 0 0 none, .slice none 0 0 none, nI64 128] .leaf 0) [] 13 false),
  (41, .map [⟨nU32 1, .agg [.str [120], nI64 128, nI64 1], 0⟩] 1),
  (43, .cells (Am.fillC [.map (some 41), pt 42 0, nU32 2] .leaf 0) [] 3 false),
  (154, .map [⟨.str [47, 97], .agg [nU32 1, nU32 0, nU32 0, nU32 0, nU32 0, nU32 0, nU32 0, nU32 0, sl 802 0 1 1 (some 5)], 0⟩] 1),
  (155, .map [] 0),
  (156, .map [⟨nU32 1, .agg [nU32 1, nI64 128, nI64 1, nI64 1], 0⟩] 1),
  (157, .map [] 0),
  (158, .cells (Am.fillC [nU8 0, nU32 0, nU32 1, nU32 2, nU8 0, nU32 0, nI64 1048576, .map (some 154), .map (some 155), .map (some 156), .map (some 157)] .leaf 0) [] 11 false),
  (801, .cells (Am.fillC [nU32 1] .leaf 0) [nU32 0] 1 false),
  (802, .cells (Am.fillC [nU8 0, nU32 1, .bool false, nI64 1, sl 801 0 1 1 none] .leaf 0) [.tuple [nU64 145, .bool false]] 5 false),
  (1400, .cells (ups [(2, nU64 1)]) [nU64 0, nU64 0, nU64 0, nU64 0] 4 false),
  (1401, .cells (Am.fillC [nI64 128, nI64 256, sl 1400 0 1 1 none] .leaf 0) [] 3 false),
  (1458, .cells (Am.fillC [nU8 0, nU32 1] .leaf 0) [] 2 false)], 1459⟩
def e1V : Am.AV := nI64 0
def e1G : Am.Heap := ⟨hp [(0, .cells (sg [(16512, [nU8 120, nU8 0, nU8 0, nU8 0, nU8 0, nU8 0, nU8 0, nU8 0, nU8 0, nU8 0, nU8 0, nU8 0, nU8 0, nU8 0, nU8 0, nU8 0, nU8 0, nU8 0, nU8 0, nU8 0, nU8 0, nU8 0, nU8 0, nU8 0, nU8 0, nU8 0, nU8 0, nU8 0, nU8 0, nU8 0, nU8 0, nU8 0, nU8 0, nU8 0, nU8 0, nU8 0, nU8 0, nU8 0, nU8 0, nU8 0, nU8 0, nU8 0, nU8 0, nU8 0, nU8 0, nU8 0, nU8 0, nU8 0, nU8 0, nU8 0, nU8 0, nU8 0, nU8 0, nU8 0, nU8 0, nU8 0, nU8 0, nU8 0, nU8 0, nU8 0, nU8 0, nU8 0, nU8 0, nU8 0, nU8 120, nU8 0, nU8 0, nU8 0, nU8 0, nU8 0, nU8 0, nU8 0, nU8 0, nU8 0, nU8 0, nU8 0, nU8 0, nU8 0, nU8 0, nU8 0, nU8 0, nU8 0, nU8 0, nU8 0, nU8 0, nU8 0, nU8 0, nU8 0, nU8 0, nU8 0, nU8 0, nU8 0, nU8 0, nU8 0, nU8 0, nU8 0, nU8 0, nU8 0, nU8 0, nU8 0, nU8 0, nU8 0, nU8 0, nU8 0, nU8 0, nU8 0, nU8 0, nU8 0, nU8 0, nU8 0, nU8 0, nU8 0, nU8 0, nU8 0, nU8 0, nU8 0, nU8 0, nU8 0, nU8 0, nU8 0, nU8 0, nU8 0, nU8 0, nU8 0, nU8 0, nU8 0, nU8 0, nU8 0, .bool false, nU8 121, nU8 0, nU8 0, nU8 0, nU8 0, nU8 0, nU8 0, nU8 0, nU8 0, nU8 0, nU8 0, nU8 0, nU8 0, nU8 0, nU8 0, nU8 0, nU8 0, nU8 0, nU8 0, nU8 0, nU8 0, nU8 0, nU8 0, nU8 0, nU8 0, nU8 0, nU8 0, nU8 0, nU8 0, nU8 0, nU8 0, nU8 0, nU8 0, nU8 0, nU8 0, nU8 0, nU8 0, nU8 0, nU8 0, nU8 0, nU8 0, nU8 0, nU8 0, nU8 0, nU8 0, nU8 0, nU8 0, nU8 0, nU8 0, nU8 0, nU8 0, nU8 0, nU8 0, nU8 0, nU8 0, nU8 0, nU8 0, nU8 0, nU8 0, nU8 0, nU8 0, nU8 0, nU8 0, nU8 0, nU8 121, nU8 0, nU8 0, nU8 0, nU8 0, nU8 0, nU8 0, nU8 0, nU8 0, nU8 0, nU8 0, nU8 0, nU8 0, nU8 0, nU8 0, nU8 0, nU8 0, nU8 0, nU8 0, nU8 0, nU8 0, nU8 0, nU8 0, nU8 0, nU8 0, nU8 0, nU8 0, nU8 0, nU8 0, nU8 0, nU8 0, nU8 0, nU8 0, nU8 0, nU8 0, nU8 0, nU8 0, nU8 0, nU8 0, nU8 0, nU8 0, nU8 0, nU8 0, nU8 0, nU8 0, nU8 0, nU8 0, nU8 0, nU8 0, nU8 0, nU8 0, nU8 0, nU8 0, nU8 0, nU8 0, nU8 0, nU8 0, nU8 0, nU8 0, nU8 0, nU8 0, nU8 0, nU8 0, nU8 0, .bool false])]) (Am.app' (Am.rep' 128 [nU8 0]) [.bool false]) 33024 false),
  (1, .cells (Am.fillC [sl 0 0 256 256 none] .leaf 0) [] 1 false),
  (7, .cells (Am.fillC [pt 1 0, mI64 0, .slice none 0 0 none, nI64 4, .bool false] .leaf 0) [] 5 false),
  (13, .cells (Am.fillC [pt 7 0, pt 1486 0, pt 3828 0] .leaf 0) [] 3 false),
  (15, .cells (Am.fillC [pt 1 0, pt 1788 0, pt 13 0, nU8 0, nU32 0, nU32 1, nU8 0, nU32 0, nI64 1048576, .slice none 0 0 none, .slice none 0 0 none, .slice none 0 0 none, nI64 128] .leaf 0) [] 13 false),
  (41, .map [⟨nU32 1, .agg [.str [120], nI64 128, nI64 1], 0⟩] 1),
  (43, .cells (Am.fillC [.map (some 41), pt 42 0, nU32 2] .leaf 0) [] 3 false),
  (154, .map [⟨.str [47, 97], .agg [nU32 1, nU32 0, nU32 0, nU32 0, nU32 0, nU32 0, nU32 0, nU32 0, sl 802 0 1 1 (some 5)], 0⟩] 1),
  (155, .map [] 0),
  (156, .map [⟨nU32 1, .agg [nU32 1, nI64 128, nI64 1, nI64 1], 0⟩] 1),
  (157, .map [] 0),
  (158, .cells (Am.fillC [nU8 0, nU32 0, nU32 1, nU32 2, nU8 0, nU32 0, nI64 1048576, .map (some 154), .map (some 155), .map (some 156), .map (some 157)] .leaf 0) [] 11 false),
  (801, .cells (Am.fillC [nU32 1] .leaf 0) [nU32 0] 1 false),
  (802, .cells (Am.fillC [nU8 0, nU32 1, .bool false, nI64 1, sl 801 0 1 1 none] .leaf 0) [.tuple [nU64 145, .bool false]] 5 false),
  (1400, .cells (ups [(2, nU64 1)]) [nU64 0, nU64 0, nU64 0, nU64 0] 4 false),
  (1401, .cells (Am.fillC [nI64 128, nI64 256, sl 1400 0 1 1 none] .leaf 0) [] 3 false),
  (1458, .cells (Am.fillC [nU8 0, nU32 1] .leaf 0) [] 2 false),
  (1484, .map [⟨nU32 1, .agg [.str [120], nI64 128, nI64 1], 0⟩, ⟨nU32 2, .agg [.str [121], nI64 129, nI64 1], 1⟩] 2),
  (1486, .cells (Am.fillC [.map (some 1484), pt 1485 0, nU32 3] .leaf 0) [] 3 false),
  (1785, .map [⟨nU32 1, .agg [.str [47, 97], nU32 1, nU32 0, nU8 1, .bool false, nI64 1, sl 2999 0 1 1 none], 0⟩] 1),
  (1788, .cells (Am.fillC [nU8 0, nU32 0, nU32 2, nU32 3, nU8 0, nU32 0, nI64 1048576, .map (some 1784), .map (some 1785), .map (some 1786), .map (some 1787)] .leaf 0) [] 11 false),
  (2999, .cells (Am.fillC [nU32 1] .leaf 0) [nU32 0] 1 false)], 3915⟩

noncomputable def e1P : Am.Prims := Am.snapF 13 e1A e1H e1V e1G
noncomputable def e1Q : Am.Prims := prB
theorem e1R : Am.answers (Am.callNF Tryz.prog (Am.keepF Tryz.prog) e1Q 100000 300 (.fn 13) e1A e1H) e1V e1G = true := by kernel_rfl
theorem e1Ok : Am.PrimsOk Tryz.prog (Am.keepF Tryz.prog) e1P := Am.snapF_ok mixed namesQ prBOk (by kernel_rfl) e1R
def e2A : List Am.AV := []
def e2V : Am.AV := .bool true

noncomputable def e2P : Am.Prims := Am.pureP 12 e2A e2V
noncomputable def e2Q : Am.Prims := (e0P.or (e1P.or prB))
theorem e2R : Am.says (Am.callNF Tryz.prog (Am.keepF Tryz.prog) e2Q 100000 300 (.fn 12) e2A ⟨.leaf, 0⟩) e2V = true := by kernel_rfl
theorem e2Ok : Am.PrimsOk Tryz.prog (Am.keepF Tryz.prog) e2P := Am.pureP_ok mixed namesQ (Am.Prims.or_ok e0Ok (Am.Prims.or_ok e1Ok prBOk)) (by kernel_rfl) e2R
end
end Go.Proofs.YtoifafjijgekeaaGreat.ChangeKnownRun

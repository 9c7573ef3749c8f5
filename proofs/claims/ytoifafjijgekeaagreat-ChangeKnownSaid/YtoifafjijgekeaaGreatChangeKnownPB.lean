/-
  Parts of the run of ChangeKnown, told before. No condition.
-/
import Derived.Test.YtoifafjijgekeaaGreatBase
namespace Go.Proofs.YtoifafjijgekeaaGreat.ChangeKnownRun
open Go.Shelf
noncomputable section
def e3A : List Am.AV := [pt 15 0, .str [47, 97], .str [121], sl 1457 0 1 1 none, nI64 3654]
def e3H : Am.Heap := ⟨hp [(0, .cells (sg [(16512, (Am.app' (Am.app' (bsL [120]) (Am.app' (Am.rep' 63 [nU8 0]) (Am.app' (bsL [120]) (Am.rep' 63 [nU8 0])))) [.bool false]))]) (Am.app' (Am.rep' 128 [nU8 0]) [.bool false]) 33024 false),
  (1, .cells (Am.fillC [sl 0 0 256 256 none] .leaf 0) [] 1 false),
  (7, .cells (Am.fillC [pt 1 0, mI64 0, .slice none 0 0 none, nI64 2, .bool false] .leaf 0) [] 5 false),
  (13, .cells (Am.fillC [pt 7 0, pt 43 0, pt 1401 0] .leaf 0) [] 3 false),
  (15, .cells (Am.fillC [pt 1 0, pt 158 0, pt 13 0, nU8 0, nU32 0, nU32 1, nU8 0, nU32 0, nI64 1048576, .slice none 0 0 none, .slice none 0 0 none, .slice none 0 0 none, nI64 128] .leaf 0) [] 13 false),
  (41, .map [⟨nU32 1, .agg [.str [120], nI64 128, nI64 1], 0⟩] 1),
  (43, .cells (Am.fillC [.map (some 41), pt 42 0, nU32 2] .leaf 0) [] 3 false),
  (154, .map [⟨.str [47, 97], .agg [nU32 1, nU32 0, nU32 0, nU32 0, nU32 0, nU32 0, nU32 0, nU32 0, sl 802 0 1 1 (some 5)], 0⟩] 1),
  (155, .map [] 0),
  (156, .map [⟨nU32 1, .agg [nU32 1, nI64 128, nI64 1, nI64 1], 0⟩] 1),
  (157, .map [] 0),
  (158, .cells (Am.fillC [nU8 0, nU32 0, nU32 1, nU32 2, nU8 0, nU32 0, nI64 1048576, .map (some 154), .map (some 155), .map (some 156), .map (some 157)] .leaf 0) [] 11 false),
  (801, .cells (Am.fillC [nU32 1] .leaf 0) [nU32 0] 1 false),
  (802, .cells (Am.fillC [nU8 0, nU32 1, .bool false, nI64 1, sl 801 0 1 1 none] .leaf 0) [.tuple [nU64 145, .bool false]] 5 false),
  (1400, .cells (ups [(2, nU64 1)]) [nU64 0, nU64 0, nU64 0, nU64 0] 4 false),
  (1401, .cells (Am.fillC [nI64 128, nI64 256, sl 1400 0 1 1 none] .leaf 0) [] 3 false),
  (1457, .cells (Am.fillC [nU8 0, nU32 1] .leaf 0) [] 2 false)], 1458⟩
def e3V : Am.AV := nI64 0
def e3G : Am.Heap := ⟨hp [(0, .cells (sg [(16512, [nU8 120, nU8 0, nU8 0, nU8 0, nU8 0, nU8 0, nU8 0, nU8 0, nU8 0, nU8 0, nU8 0, nU8 0, nU8 0, nU8 0, nU8 0, nU8 0, nU8 0, nU8 0, nU8 0, nU8 0, nU8 0, nU8 0, nU8 0, nU8 0, nU8 0, nU8 0, nU8 0, nU8 0, nU8 0, nU8 0, nU8 0, nU8 0, nU8 0, nU8 0, nU8 0, nU8 0, nU8 0, nU8 0, nU8 0, nU8 0, nU8 0, nU8 0, nU8 0, nU8 0, nU8 0, nU8 0, nU8 0, nU8 0, nU8 0, nU8 0, nU8 0, nU8 0, nU8 0, nU8 0, nU8 0, nU8 0, nU8 0, nU8 0, nU8 0, nU8 0, nU8 0, nU8 0, nU8 0, nU8 0, nU8 120, nU8 0, nU8 0, nU8 0, nU8 0, nU8 0, nU8 0, nU8 0, nU8 0, nU8 0, nU8 0, nU8 0, nU8 0, nU8 0, nU8 0, nU8 0, nU8 0, nU8 0, nU8 0, nU8 0, nU8 0, nU8 0, nU8 0, nU8 0, nU8 0, nU8 0, nU8 0, nU8 0, nU8 0, nU8 0, nU8 0, nU8 0, nU8 0, nU8 0, nU8 0, nU8 0, nU8 0, nU8 0, nU8 0, nU8 0, nU8 0, nU8 0, nU8 0, nU8 0, nU8 0, nU8 0, nU8 0, nU8 0, nU8 0, nU8 0, nU8 0, nU8 0, nU8 0, nU8 0, nU8 0, nU8 0, nU8 0, nU8 0, nU8 0, nU8 0, nU8 0, nU8 0, nU8 0, nU8 0, .bool false, nU8 121, nU8 0, nU8 0, nU8 0, nU8 0, nU8 0, nU8 0, nU8 0, nU8 0, nU8 0, nU8 0, nU8 0, nU8 0, nU8 0, nU8 0, nU8 0, nU8 0, nU8 0, nU8 0, nU8 0, nU8 0, nU8 0, nU8 0, nU8 0, nU8 0, nU8 0, nU8 0, nU8 0, nU8 0, nU8 0, nU8 0, nU8 0, nU8 0, nU8 0, nU8 0, nU8 0, nU8 0, nU8 0, nU8 0, nU8 0, nU8 0, nU8 0, nU8 0, nU8 0, nU8 0, nU8 0, nU8 0, nU8 0, nU8 0, nU8 0, nU8 0, nU8 0, nU8 0, nU8 0, nU8 0, nU8 0, nU8 0, nU8 0, nU8 0, nU8 0, nU8 0, nU8 0, nU8 0, nU8 0, nU8 121, nU8 0, nU8 0, nU8 0, nU8 0, nU8 0, nU8 0, nU8 0, nU8 0, nU8 0, nU8 0, nU8 0, nU8 0, nU8 0, nU8 0, nU8 0, nU8 0, nU8 0, nU8 0, nU8 0, nU8 0, nU8 0, nU8 0, nU8 0, nU8 0, nU8 0, nU8 0, nU8 0, nU8 0, nU8 0, nU8 0, nU8 0, nU8 0, nU8 0, nU8 0, nU8 0, nU8 0, nU8 0, nU8 0, nU8 0, nU8 0, nU8 0, nU8 0, nU8 0, nU8 0, nU8 0, nU8 0, nU8 0, nU8 0, nU8 0, nU8 0, nU8 0, nU8 0, nU8 0, nU8 0, nU8 0, nU8 0, nU8 0, nU8 0, nU8 0, nU8 0, nU8 0, nU8 0, nU8 0, .bool false])]) (Am.app' (Am.rep' 128 [nU8 0]) [.bool false]) 33024 false),
  (1, .cells (Am.fillC [sl 0 0 256 256 none] .leaf 0) [] 1 false),
  (7, .cells (Am.fillC [pt 1 0, mI64 0, .slice none 0 0 none, nI64 4, .bool false] .leaf 0) [] 5 false),
  (13, .cells (Am.fillC [pt 7 0, pt 1485 0, pt 3827 0] .leaf 0) [] 3 false),
  (15, .cells (Am.fillC [pt 1 0, pt 1787 0, pt 13 0, nU8 0, nU32 0, nU32 1, nU8 0, nU32 0, nI64 1048576, .slice none 0 0 none, .slice none 0 0 none, .slice none 0 0 none, nI64 128] .leaf 0) [] 13 false),
  (41, .map [⟨nU32 1, .agg [.str [120], nI64 128, nI64 1], 0⟩] 1),
  (43, .cells (Am.fillC [.map (some 41), pt 42 0, nU32 2] .leaf 0) [] 3 false),
  (154, .map [⟨.str [47, 97], .agg [nU32 1, nU32 0, nU32 0, nU32 0, nU32 0, nU32 0, nU32 0, nU32 0, sl 802 0 1 1 (some 5)], 0⟩] 1),
  (155, .map [] 0),
  (156, .map [⟨nU32 1, .agg [nU32 1, nI64 128, nI64 1, nI64 1], 0⟩] 1),
  (157, .map [] 0),
  (158, .cells (Am.fillC [nU8 0, nU32 0, nU32 1, nU32 2, nU8 0, nU32 0, nI64 1048576, .map (some 154), .map (some 155), .map (some 156), .map (some 157)] .leaf 0) [] 11 false),
  (801, .cells (Am.fillC [nU32 1] .leaf 0) [nU32 0] 1 false),
  (802, .cells (Am.fillC [nU8 0, nU32 1, .bool false, nI64 1, sl 801 0 1 1 none] .leaf 0) [.tuple [nU64 145, .bool false]] 5 false),
  (1400, .cells (ups [(2, nU64 1)]) [nU64 0, nU64 0, nU64 0, nU64 0] 4 false),
  (1401, .cells (Am.fillC [nI64 128, nI64 256, sl 1400 0 1 1 none] .leaf 0) [] 3 false),
  (1457, .cells (Am.fillC [nU8 0, nU32 1] .leaf 0) [] 2 false),
  (1483, .map [⟨nU32 1, .agg [.str [120], nI64 128, nI64 1], 0⟩, ⟨nU32 2, .agg [.str [121], nI64 129, nI64 1], 1⟩] 2),
  (1485, .cells (Am.fillC [.map (some 1483), pt 1484 0, nU32 3] .leaf 0) [] 3 false),
  (1783, .map [⟨.str [47, 97], .agg [nU32 2, nU32 0, nU32 0, nU32 0, nU32 0, nU32 0, nU32 0, nU32 0, sl 2977 0 1 1 (some 5)], 0⟩] 1),
  (1784, .map [⟨nU32 1, .agg [.str [47, 97], nU32 1, nU32 0, nU8 1, .bool false, nI64 1, sl 2998 0 1 1 none], 0⟩] 1),
  (1785, .map [⟨nU32 1, .agg [nU32 1, nI64 128, nI64 1, nI64 1], 0⟩, ⟨nU32 2, .agg [nU32 2, nI64 129, nI64 1, nI64 1], 1⟩] 2),
  (1786, .map [] 0),
  (1787, .cells (Am.fillC [nU8 0, nU32 0, nU32 2, nU32 3, nU8 0, nU32 0, nI64 1048576, .map (some 1783), .map (some 1784), .map (some 1785), .map (some 1786)] .leaf 0) [] 11 false),
  (2976, .cells (Am.fillC [nU32 2] .leaf 0) [nU32 0] 1 false),
  (2977, .cells (Am.fillC [nU8 0, nU32 2, .bool false, nI64 1, sl 2976 0 1 1 none] .leaf 0) [.tuple [nU64 145, .bool false]] 5 false),
  (2998, .cells (Am.fillC [nU32 1] .leaf 0) [nU32 0] 1 false),
  (3826, .cells (ups [(2, nU64 3)]) [nU64 0, nU64 0, nU64 0, nU64 0] 4 false),
  (3827, .cells (Am.fillC [nI64 128, nI64 256, sl 3826 0 1 1 none] .leaf 0) [] 3 false)], 3914⟩

noncomputable def e3P : Am.Prims := Am.snapF 13 e3A e3H e3V e3G
noncomputable def e3Q : Am.Prims := prB
theorem e3R : Am.answers (Am.callNF Tryz.prog (Am.keepF Tryz.prog) e3Q 100000 300 (.fn 13) e3A e3H) e3V e3G = true := by kernel_rfl
theorem e3Ok : Am.PrimsOk Tryz.prog (Am.keepF Tryz.prog) e3P := Am.snapF_ok mixed namesQ prBOk (by kernel_rfl) e3R
def e4A : List Am.AV := [pt 15 0, pt 4487 0, nI64 3654]
def e4H : Am.Heap := ⟨hp [(0, .cells (sg [(16512, [nU8 120, nU8 0, nU8 0, nU8 0, nU8 0, nU8 0, nU8 0, nU8 0, nU8 0, nU8 0, nU8 0, nU8 0, nU8 0, nU8 0, nU8 0, nU8 0, nU8 0, nU8 0, nU8 0, nU8 0, nU8 0, nU8 0, nU8 0, nU8 0, nU8 0, nU8 0, nU8 0, nU8 0, nU8 0, nU8 0, nU8 0, nU8 0, nU8 0, nU8 0, nU8 0, nU8 0, nU8 0, nU8 0, nU8 0, nU8 0, nU8 0, nU8 0, nU8 0, nU8 0, nU8 0, nU8 0, nU8 0, nU8 0, nU8 0, nU8 0, nU8 0, nU8 0, nU8 0, nU8 0, nU8 0, nU8 0, nU8 0, nU8 0, nU8 0, nU8 0, nU8 0, nU8 0, nU8 0, nU8 0, nU8 120, nU8 0, nU8 0, nU8 0, nU8 0, nU8 0, nU8 0, nU8 0, nU8 0, nU8 0, nU8 0, nU8 0, nU8 0, nU8 0, nU8 0, nU8 0, nU8 0, nU8 0, nU8 0, nU8 0, nU8 0, nU8 0, nU8 0, nU8 0, nU8 0, nU8 0, nU8 0, nU8 0, nU8 0, nU8 0, nU8 0, nU8 0, nU8 0, nU8 0, nU8 0, nU8 0, nU8 0, nU8 0, nU8 0, nU8 0, nU8 0, nU8 0, nU8 0, nU8 0, nU8 0, nU8 0, nU8 0, nU8 0, nU8 0, nU8 0, nU8 0, nU8 0, nU8 0, nU8 0, nU8 0, nU8 0, nU8 0, nU8 0, nU8 0, nU8 0, nU8 0, nU8 0, nU8 0, nU8 0, .bool false, nU8 121, nU8 0, nU8 0, nU8 0, nU8 0, nU8 0, nU8 0, nU8 0, nU8 0, nU8 0, nU8 0, nU8 0, nU8 0, nU8 0, nU8 0, nU8 0, nU8 0, nU8 0, nU8 0, nU8 0, nU8 0, nU8 0, nU8 0, nU8 0, nU8 0, nU8 0, nU8 0, nU8 0, nU8 0, nU8 0, nU8 0, nU8 0, nU8 0, nU8 0, nU8 0, nU8 0, nU8 0, nU8 0, nU8 0, nU8 0, nU8 0, nU8 0, nU8 0, nU8 0, nU8 0, nU8 0, nU8 0, nU8 0, nU8 0, nU8 0, nU8 0, nU8 0, nU8 0, nU8 0, nU8 0, nU8 0, nU8 0, nU8 0, nU8 0, nU8 0, nU8 0, nU8 0, nU8 0, nU8 0, nU8 121, nU8 0, nU8 0, nU8 0, nU8 0, nU8 0, nU8 0, nU8 0, nU8 0, nU8 0, nU8 0, nU8 0, nU8 0, nU8 0, nU8 0, nU8 0, nU8 0, nU8 0, nU8 0, nU8 0, nU8 0, nU8 0, nU8 0, nU8 0, nU8 0, nU8 0, nU8 0, nU8 0, nU8 0, nU8 0, nU8 0, nU8 0, nU8 0, nU8 0, nU8 0, nU8 0, nU8 0, nU8 0, nU8 0, nU8 0, nU8 0, nU8 0, nU8 0, nU8 0, nU8 0, nU8 0, nU8 0, nU8 0, nU8 0, nU8 0, nU8 0, nU8 0, nU8 0, nU8 0, nU8 0, nU8 0, nU8 0, nU8 0, nU8 0, nU8 0, nU8 0, nU8 0, nU8 0, nU8 0, .bool false])]) (Am.app' (Am.rep' 128 [nU8 0]) [.bool false]) 33024 false),
  (1, .cells (Am.fillC [sl 0 0 256 256 none] .leaf 0) [] 1 false),
  (7, .cells (Am.fillC [pt 1 0, mI64 0, .slice none 0 0 none, nI64 4, .bool false] .leaf 0) [] 5 false),
  (13, .cells (Am.fillC [pt 7 0, pt 1485 0, pt 3827 0] .leaf 0) [] 3 false),
  (15, .cells (Am.fillC [pt 1 0, pt 1787 0, pt 13 0, nU8 0, nU32 0, nU32 1, nU8 0, nU32 0, nI64 1048576, .slice none 0 0 none, .slice none 0 0 none, .slice none 0 0 none, nI64 128] .leaf 0) [] 13 false),
  (1483, .map [⟨nU32 1, .agg [.str [120], nI64 128, nI64 1], 0⟩, ⟨nU32 2, .agg [.str [121], nI64 129, nI64 1], 1⟩] 2),
  (1485, .cells (Am.fillC [.map (some 1483), pt 1484 0, nU32 3] .leaf 0) [] 3 false),
  (3936, .cells (Am.fillC [pt 13 0, pt 3941 0, pt 4037 0, .bool false] .leaf 0) [] 4 false),
  (3939, .map [⟨nU32 1, .agg [.str [120], nI64 128, nI64 1], 0⟩, ⟨nU32 2, .agg [.str [121], nI64 129, nI64 2], 1⟩] 2),
  (3941, .cells (Am.fillC [.map (some 3939), pt 3940 0, nU32 3] .leaf 0) [] 3 false),
  (4209, .map [⟨.str [47, 97], .agg [nU32 2, nU32 0, nU32 0, nU32 0, nU32 0, nU32 0, nU32 0, nU32 0, sl 4252 0 1 1 (some 5)], 0⟩] 1),
  (4210, .map [⟨nU32 1, .agg [.str [47, 97], nU32 1, nU32 0, nU8 1, .bool false, nI64 1, sl 4273 0 1 1 none], 0⟩] 1),
  (4213, .cells (Am.fillC [nU8 0, nU32 0, nU32 2, nU32 3, nU8 0, nU32 0, nI64 1048576, .map (some 4209), .map (some 4210), .map (some 4211), .map (some 4212)] .leaf 0) [] 11 false),
  (4251, .cells (Am.fillC [nU32 2] .leaf 0) [nU32 0] 1 false),
  (4252, .cells (Am.fillC [nU8 0, nU32 2, .bool false, nI64 1, sl 4251 0 1 1 none] .leaf 0) [.tuple [nU64 145, .bool false]] 5 false),
  (4273, .cells (Am.fillC [nU32 1] .leaf 0) [nU32 0] 1 false),
  (4390, .map [⟨.str [47, 97], .agg [nU32 3, nU32 0, nU32 0, nU32 0, nU32 0, nU32 0, nU32 0, nU32 0, .slice none 0 0 none], 0⟩] 1),
  (4391, .map [⟨nU32 1, .agg [.str [47, 97], nU32 1, nU32 0, nU8 1, .bool false, nI64 1, sl 4454 0 1 1 none], 0⟩, ⟨nU32 2, .agg [.str [47, 97], nU32 2, nU32 0, nU8 2, .bool false, nI64 1, sl 4774 0 1 1 none], 1⟩] 2),
  (4392, .map [⟨nU32 1, .agg [nU32 1, nI64 128, nI64 1, nI64 1], 0⟩, ⟨nU32 2, .agg [nU32 2, nI64 129, nI64 1, nI64 1], 1⟩] 2),
  (4393, .map [] 0),
  (4394, .cells (Am.fillC [nU8 0, nU32 0, nU32 3, nU32 3, nU8 0, nU32 0, nI64 1048576, .map (some 4390), .map (some 4391), .map (some 4392), .map (some 4393)] .leaf 0) [] 11 false),
  (4454, .cells (Am.fillC [nU32 1] .leaf 0) [nU32 0] 1 false),
  (4487, .cells (Am.fillC [pt 4213 0, pt 4394 0, pt 3936 0, sl 4686 0 1 1 (some 1), sl 4809 0 1 1 (some 1), .slice none 0 0 none, nI64 0] .leaf 0) [] 7 false),
  (4686, .cells (Am.fillC [nU32 2] .leaf 0) [.tuple [nU64 29, .bool false]] 1 false),
  (4774, .cells (Am.fillC [nU32 2] .leaf 0) [nU32 0] 1 false),
  (4809, .cells (Am.fillC [.str [47, 97]] .leaf 0) [.tuple [nU64 9, .bool false]] 1 false)], 4810⟩
def e4V : Am.AV := nI64 0
def e4G : Am.Heap := ⟨hp [(0, .cells (sg [(16512, [nU8 120, nU8 0, nU8 0, nU8 0, nU8 0, nU8 0, nU8 0, nU8 0, nU8 0, nU8 0, nU8 0, nU8 0, nU8 0, nU8 0, nU8 0, nU8 0, nU8 0, nU8 0, nU8 0, nU8 0, nU8 0, nU8 0, nU8 0, nU8 0, nU8 0, nU8 0, nU8 0, nU8 0, nU8 0, nU8 0, nU8 0, nU8 0, nU8 0, nU8 0, nU8 0, nU8 0, nU8 0, nU8 0, nU8 0, nU8 0, nU8 0, nU8 0, nU8 0, nU8 0, nU8 0, nU8 0, nU8 0, nU8 0, nU8 0, nU8 0, nU8 0, nU8 0, nU8 0, nU8 0, nU8 0, nU8 0, nU8 0, nU8 0, nU8 0, nU8 0, nU8 0, nU8 0, nU8 0, nU8 0, nU8 120, nU8 0, nU8 0, nU8 0, nU8 0, nU8 0, nU8 0, nU8 0, nU8 0, nU8 0, nU8 0, nU8 0, nU8 0, nU8 0, nU8 0, nU8 0, nU8 0, nU8 0, nU8 0, nU8 0, nU8 0, nU8 0, nU8 0, nU8 0, nU8 0, nU8 0, nU8 0, nU8 0, nU8 0, nU8 0, nU8 0, nU8 0, nU8 0, nU8 0, nU8 0, nU8 0, nU8 0, nU8 0, nU8 0, nU8 0, nU8 0, nU8 0, nU8 0, nU8 0, nU8 0, nU8 0, nU8 0, nU8 0, nU8 0, nU8 0, nU8 0, nU8 0, nU8 0, nU8 0, nU8 0, nU8 0, nU8 0, nU8 0, nU8 0, nU8 0, nU8 0, nU8 0, nU8 0, nU8 0, .bool false, nU8 121, nU8 0, nU8 0, nU8 0, nU8 0, nU8 0, nU8 0, nU8 0, nU8 0, nU8 0, nU8 0, nU8 0, nU8 0, nU8 0, nU8 0, nU8 0, nU8 0, nU8 0, nU8 0, nU8 0, nU8 0, nU8 0, nU8 0, nU8 0, nU8 0, nU8 0, nU8 0, nU8 0, nU8 0, nU8 0, nU8 0, nU8 0, nU8 0, nU8 0, nU8 0, nU8 0, nU8 0, nU8 0, nU8 0, nU8 0, nU8 0, nU8 0, nU8 0, nU8 0, nU8 0, nU8 0, nU8 0, nU8 0, nU8 0, nU8 0, nU8 0, nU8 0, nU8 0, nU8 0, nU8 0, nU8 0, nU8 0, nU8 0, nU8 0, nU8 0, nU8 0, nU8 0, nU8 0, nU8 0, nU8 121, nU8 0, nU8 0, nU8 0, nU8 0, nU8 0, nU8 0, nU8 0, nU8 0, nU8 0, nU8 0, nU8 0, nU8 0, nU8 0, nU8 0, nU8 0, nU8 0, nU8 0, nU8 0, nU8 0, nU8 0, nU8 0, nU8 0, nU8 0, nU8 0, nU8 0, nU8 0, nU8 0, nU8 0, nU8 0, nU8 0, nU8 0, nU8 0, nU8 0, nU8 0, nU8 0, nU8 0, nU8 0, nU8 0, nU8 0, nU8 0, nU8 0, nU8 0, nU8 0, nU8 0, nU8 0, nU8 0, nU8 0, nU8 0, nU8 0, nU8 0, nU8 0, nU8 0, nU8 0, nU8 0, nU8 0, nU8 0, nU8 0, nU8 0, nU8 0, nU8 0, nU8 0, nU8 0, nU8 0, .bool false])]) (Am.app' (Am.rep' 128 [nU8 0]) [.bool false]) 33024 false),
  (1, .cells (Am.fillC [sl 0 0 256 256 none] .leaf 0) [] 1 false),
  (7, .cells (Am.fillC [pt 1 0, mI64 0, .slice none 0 0 none, nI64 5, .bool false] .leaf 0) [] 5 false),
  (13, .cells (Am.fillC [pt 7 0, pt 3941 0, pt 6511 0] .leaf 0) [] 3 false),
  (15, .cells (Am.fillC [pt 1 0, pt 4394 0, pt 13 0, nU8 0, nU32 0, nU32 1, nU8 0, nU32 0, nI64 1048576, .slice none 0 0 none, .slice none 0 0 none, .slice none 0 0 none, nI64 128] .leaf 0) [] 13 false),
  (1483, .map [⟨nU32 1, .agg [.str [120], nI64 128, nI64 1], 0⟩, ⟨nU32 2, .agg [.str [121], nI64 129, nI64 1], 1⟩] 2),
  (1485, .cells (Am.fillC [.map (some 1483), pt 1484 0, nU32 3] .leaf 0) [] 3 false),
  (3936, .cells (Am.fillC [pt 13 0, pt 3941 0, pt 4037 0, .bool true] .leaf 0) [] 4 false),
  (3939, .map [⟨nU32 1, .agg [.str [120], nI64 128, nI64 1], 0⟩, ⟨nU32 2, .agg [.str [121], nI64 129, nI64 1], 1⟩] 2),
  (3941, .cells (Am.fillC [.map (some 3939), pt 3940 0, nU32 3] .leaf 0) [] 3 false),
  (4209, .map [⟨.str [47, 97], .agg [nU32 2, nU32 0, nU32 0, nU32 0, nU32 0, nU32 0, nU32 0, nU32 0, sl 4252 0 1 1 (some 5)], 0⟩] 1),
  (4210, .map [⟨nU32 1, .agg [.str [47, 97], nU32 1, nU32 0, nU8 1, .bool false, nI64 1, sl 4273 0 1 1 none], 0⟩] 1),
  (4213, .cells (Am.fillC [nU8 0, nU32 0, nU32 2, nU32 3, nU8 0, nU32 0, nI64 1048576, .map (some 4209), .map (some 4210), .map (some 4211), .map (some 4212)] .leaf 0) [] 11 false),
  (4251, .cells (Am.fillC [nU32 2] .leaf 0) [nU32 0] 1 false),
  (4252, .cells (Am.fillC [nU8 0, nU32 2, .bool false, nI64 1, sl 4251 0 1 1 none] .leaf 0) [.tuple [nU64 145, .bool false]] 5 false),
  (4273, .cells (Am.fillC [nU32 1] .leaf 0) [nU32 0] 1 false),
  (4390, .map [⟨.str [47, 97], .agg [nU32 3, nU32 0, nU32 0, nU32 0, nU32 0, nU32 0, nU32 0, nU32 0, .slice none 0 0 none], 0⟩] 1),
  (4391, .map [⟨nU32 1, .agg [.str [47, 97], nU32 1, nU32 0, nU8 1, .bool false, nI64 1, sl 4454 0 1 1 none], 0⟩, ⟨nU32 2, .agg [.str [47, 97], nU32 2, nU32 0, nU8 2, .bool false, nI64 1, sl 5716 0 1 1 none], 1⟩] 2),
  (4392, .map [⟨nU32 1, .agg [nU32 1, nI64 128, nI64 1, nI64 1], 0⟩, ⟨nU32 2, .agg [nU32 2, nI64 129, nI64 1, nI64 1], 1⟩] 2),
  (4393, .map [] 0),
  (4394, .cells (Am.fillC [nU8 0, nU32 0, nU32 3, nU32 3, nU8 0, nU32 0, nI64 1048576, .map (some 4390), .map (some 4391), .map (some 4392), .map (some 4393)] .leaf 0) [] 11 false),
  (4454, .cells (Am.fillC [nU32 1] .leaf 0) [nU32 0] 1 false),
  (4487, .cells (Am.fillC [pt 4213 0, pt 4394 0, pt 3936 0, sl 4686 0 1 1 (some 1), sl 4809 0 1 1 (some 1), .slice none 0 0 none, nI64 17] .leaf 0) [] 7 false),
  (4686, .cells (Am.fillC [nU32 2] .leaf 0) [.tuple [nU64 29, .bool false]] 1 false),
  (4774, .cells (Am.fillC [nU32 2] .leaf 0) [nU32 0] 1 false),
  (4809, .cells (Am.fillC [.str [47, 97]] .leaf 0) [.tuple [nU64 9, .bool false]] 1 false),
  (5716, .cells (Am.fillC [nU32 2] .leaf 0) [nU32 0] 1 false),
  (6510, .cells (ups [(2, nU64 3)]) [nU64 0, nU64 0, nU64 0, nU64 0] 4 false),
  (6511, .cells (Am.fillC [nI64 128, nI64 256, sl 6510 0 1 1 none] .leaf 0) [] 3 false)], 6598⟩

noncomputable def e4P : Am.Prims := Am.snapF 17 e4A e4H e4V e4G
noncomputable def e4Q : Am.Prims := prB
theorem e4R : Am.answers (Am.callNF Tryz.prog (Am.keepF Tryz.prog) e4Q 100000 300 (.fn 17) e4A e4H) e4V e4G = true := by kernel_rfl
theorem e4Ok : Am.PrimsOk Tryz.prog (Am.keepF Tryz.prog) e4P := Am.snapF_ok mixed namesQ prBOk (by kernel_rfl) e4R
end
end Go.Proofs.YtoifafjijgekeaaGreat.ChangeKnownRun

/-
  Parts of the run of ChangeKnown, told before. No condition.
-/
import Derived.Test.YtoifafjijgekeaaGreatBase
namespace Go.Proofs.YtoifafjijgekeaaGreat.ChangeKnownRun
open Go.Shelf
noncomputable section
def e5A : List Am.AV := [pt 4394 0, pt 13 0]
def e5H : Am.Heap := ⟨hp [(13, .cells (Am.fillC [pt 7 0, pt 3941 0, pt 6511 0] .leaf 0) [] 3 false),
  (3939, .map [⟨nU32 1, .agg [.str [120], nI64 128, nI64 1], 0⟩, ⟨nU32 2, .agg [.str [121], nI64 129, nI64 1], 1⟩] 2),
  (3941, .cells (Am.fillC [.map (some 3939), pt 3940 0, nU32 3] .leaf 0) [] 3 false),
  (4390, .map [⟨.str [47, 97], .agg [nU32 3, nU32 0, nU32 0, nU32 0, nU32 0, nU32 0, nU32 0, nU32 0, .slice none 0 0 none], 0⟩] 1),
  (4391, .map [⟨nU32 1, .agg [.str [47, 97], nU32 1, nU32 0, nU8 1, .bool false, nI64 1, sl 4454 0 1 1 none], 0⟩, ⟨nU32 2, .agg [.str [47, 97], nU32 2, nU32 0, nU8 2, .bool false, nI64 1, sl 5716 0 1 1 none], 1⟩] 2),
  (4392, .map [⟨nU32 1, .agg [nU32 1, nI64 128, nI64 1, nI64 1], 0⟩, ⟨nU32 2, .agg [nU32 2, nI64 129, nI64 1, nI64 1], 1⟩] 2),
  (4393, .map [] 0),
  (4394, .cells (Am.fillC [nU8 0, nU32 0, nU32 3, nU32 3, nU8 0, nU32 0, nI64 1048576, .map (some 4390), .map (some 4391), .map (some 4392), .map (some 4393)] .leaf 0) [] 11 false),
  (4454, .cells (Am.fillC [nU32 1] .leaf 0) [nU32 0] 1 false),
  (5716, .cells (Am.fillC [nU32 2] .leaf 0) [nU32 0] 1 false),
  (6510, .cells (ups [(2, nU64 3)]) [nU64 0, nU64 0, nU64 0, nU64 0] 4 false),
  (6511, .cells (Am.fillC [nI64 128, nI64 256, sl 6510 0 1 1 none] .leaf 0) [] 3 false)], 6782⟩
def e5V : Am.AV := pt 7363 0
def e5G : Am.Heap := ⟨hp [(13, .cells (Am.fillC [pt 7 0, pt 3941 0, pt 6511 0] .leaf 0) [] 3 false),
  (3939, .map [⟨nU32 1, .agg [.str [120], nI64 128, nI64 1], 0⟩, ⟨nU32 2, .agg [.str [121], nI64 129, nI64 1], 1⟩] 2),
  (3941, .cells (Am.fillC [.map (some 3939), pt 3940 0, nU32 3] .leaf 0) [] 3 false),
  (4390, .map [⟨.str [47, 97], .agg [nU32 3, nU32 0, nU32 0, nU32 0, nU32 0, nU32 0, nU32 0, nU32 0, .slice none 0 0 none], 0⟩] 1),
  (4391, .map [⟨nU32 1, .agg [.str [47, 97], nU32 1, nU32 0, nU8 1, .bool false, nI64 1, sl 4454 0 1 1 none], 0⟩, ⟨nU32 2, .agg [.str [47, 97], nU32 2, nU32 0, nU8 2, .bool false, nI64 1, sl 5716 0 1 1 none], 1⟩] 2),
  (4392, .map [⟨nU32 1, .agg [nU32 1, nI64 128, nI64 1, nI64 1], 0⟩, ⟨nU32 2, .agg [nU32 2, nI64 129, nI64 1, nI64 1], 1⟩] 2),
  (4393, .map [] 0),
  (4394, .cells (Am.fillC [nU8 0, nU32 0, nU32 3, nU32 3, nU8 0, nU32 0, nI64 1048576, .map (some 4390), .map (some 4391), .map (some 4392), .map (some 4393)] .leaf 0) [] 11 false),
  (4454, .cells (Am.fillC [nU32 1] .leaf 0) [nU32 0] 1 false),
  (5716, .cells (Am.fillC [nU32 2] .leaf 0) [nU32 0] 1 false),
  (6510, .cells (ups [(2, nU64 3)]) [nU64 0, nU64 0, nU64 0, nU64 0] 4 false),
  (6511, .cells (Am.fillC [nI64 128, nI64 256, sl 6510 0 1 1 none] .leaf 0) [] 3 false),
  (7263, .map [⟨.str [47, 97], .agg [nU32 3, nU32 0, nU32 0, nU32 0, nU32 0, nU32 0, nU32 0, nU32 0, .slice none 0 0 none], 0⟩] 1),
  (7267, .cells (Am.fillC [nU8 0, nU32 0, nU32 3, nU32 3, nU8 0, nU32 0, nI64 1048576, .map (some 7263), .map (some 7264), .map (some 7265), .map (some 7266)] .leaf 0) [] 11 false),
  (7363, .cells (Am.fillC [pt 7079 0, pt 7267 0, pt 6794 0, .slice none 0 0 none, .slice none 0 0 none, .slice none 0 0 none, nI64 0] .leaf 0) [] 7 false)], 7364⟩

noncomputable def e5P : Am.Prims := Am.snapF 15 e5A e5H e5V e5G
noncomputable def e5Q : Am.Prims := prB
theorem e5R : Am.answers (Am.callNF Tryz.prog (Am.keepF Tryz.prog) e5Q 100000 300 (.fn 15) e5A e5H) e5V e5G = true := by kernel_rfl
theorem e5Ok : Am.PrimsOk Tryz.prog (Am.keepF Tryz.prog) e5P := Am.snapF_ok mixed namesQ prBOk (by kernel_rfl) e5R
def e6A : List Am.AV := [pt 4394 0, pt 13 0]
def e6H : Am.Heap := ⟨hp [(13, .cells (Am.fillC [pt 7 0, pt 3941 0, pt 6511 0] .leaf 0) [] 3 false),
  (3939, .map [⟨nU32 1, .agg [.str [120], nI64 128, nI64 1], 0⟩, ⟨nU32 2, .agg [.str [121], nI64 129, nI64 1], 1⟩] 2),
  (3941, .cells (Am.fillC [.map (some 3939), pt 3940 0, nU32 3] .leaf 0) [] 3 false),
  (4390, .map [⟨.str [47, 97], .agg [nU32 3, nU32 0, nU32 0, nU32 0, nU32 0, nU32 0, nU32 0, nU32 0, .slice none 0 0 none], 0⟩] 1),
  (4391, .map [⟨nU32 1, .agg [.str [47, 97], nU32 1, nU32 0, nU8 1, .bool false, nI64 1, sl 4454 0 1 1 none], 0⟩, ⟨nU32 2, .agg [.str [47, 97], nU32 2, nU32 0, nU8 2, .bool false, nI64 1, sl 5716 0 1 1 none], 1⟩] 2),
  (4392, .map [⟨nU32 1, .agg [nU32 1, nI64 128, nI64 1, nI64 1], 0⟩, ⟨nU32 2, .agg [nU32 2, nI64 129, nI64 1, nI64 1], 1⟩] 2),
  (4393, .map [] 0),
  (4394, .cells (Am.fillC [nU8 0, nU32 0, nU32 3, nU32 3, nU8 0, nU32 0, nI64 1048576, .map (some 4390), .map (some 4391), .map (some 4392), .map (some 4393)] .leaf 0) [] 11 false),
  (4454, .cells (Am.fillC [nU32 1] .leaf 0) [nU32 0] 1 false),
  (5716, .cells (Am.fillC [nU32 2] .leaf 0) [nU32 0] 1 false),
  (6510, .cells (ups [(2, nU64 3)]) [nU64 0, nU64 0, nU64 0, nU64 0] 4 false),
  (6511, .cells (Am.fillC [nI64 128, nI64 256, sl 6510 0 1 1 none] .leaf 0) [] 3 false)], 7395⟩
def e6V : Am.AV := pt 7976 0
def e6G : Am.Heap := ⟨hp [(13, .cells (Am.fillC [pt 7 0, pt 3941 0, pt 6511 0] .leaf 0) [] 3 false),
  (3939, .map [⟨nU32 1, .agg [.str [120], nI64 128, nI64 1], 0⟩, ⟨nU32 2, .agg [.str [121], nI64 129, nI64 1], 1⟩] 2),
  (3941, .cells (Am.fillC [.map (some 3939), pt 3940 0, nU32 3] .leaf 0) [] 3 false),
  (4390, .map [⟨.str [47, 97], .agg [nU32 3, nU32 0, nU32 0, nU32 0, nU32 0, nU32 0, nU32 0, nU32 0, .slice none 0 0 none], 0⟩] 1),
  (4391, .map [⟨nU32 1, .agg [.str [47, 97], nU32 1, nU32 0, nU8 1, .bool false, nI64 1, sl 4454 0 1 1 none], 0⟩, ⟨nU32 2, .agg [.str [47, 97], nU32 2, nU32 0, nU8 2, .bool false, nI64 1, sl 5716 0 1 1 none], 1⟩] 2),
  (4392, .map [⟨nU32 1, .agg [nU32 1, nI64 128, nI64 1, nI64 1], 0⟩, ⟨nU32 2, .agg [nU32 2, nI64 129, nI64 1, nI64 1], 1⟩] 2),
  (4393, .map [] 0),
  (4394, .cells (Am.fillC [nU8 0, nU32 0, nU32 3, nU32 3, nU8 0, nU32 0, nI64 1048576, .map (some 4390), .map (some 4391), .map (some 4392), .map (some 4393)] .leaf 0) [] 11 false),
  (4454, .cells (Am.fillC [nU32 1] .leaf 0) [nU32 0] 1 false),
  (5716, .cells (Am.fillC [nU32 2] .leaf 0) [nU32 0] 1 false),
  (6510, .cells (ups [(2, nU64 3)]) [nU64 0, nU64 0, nU64 0, nU64 0] 4 false),
  (6511, .cells (Am.fillC [nI64 128, nI64 256, sl 6510 0 1 1 none] .leaf 0) [] 3 false),
  (7976, .cells (Am.fillC [pt 7692 0, pt 7880 0, pt 7407 0, .slice none 0 0 none, .slice none 0 0 none, .slice none 0 0 none, nI64 0] .leaf 0) [] 7 false)], 7977⟩

noncomputable def e6P : Am.Prims := Am.snapF 15 e6A e6H e6V e6G
noncomputable def e6Q : Am.Prims := prB
theorem e6R : Am.answers (Am.callNF Tryz.prog (Am.keepF Tryz.prog) e6Q 100000 300 (.fn 15) e6A e6H) e6V e6G = true := by kernel_rfl
theorem e6Ok : Am.PrimsOk Tryz.prog (Am.keepF Tryz.prog) e6P := Am.snapF_ok mixed namesQ prBOk (by kernel_rfl) e6R
def e7A : List Am.AV := [pt 4394 0, pt 13 0]
def e7H : Am.Heap := ⟨hp [(13, .cells (Am.fillC [pt 7 0, pt 3941 0, pt 6511 0] .leaf 0) [] 3 false),
  (3939, .map [⟨nU32 1, .agg [.str [120], nI64 128, nI64 1], 0⟩, ⟨nU32 2, .agg [.str [121], nI64 129, nI64 1], 1⟩] 2),
  (3941, .cells (Am.fillC [.map (some 3939), pt 3940 0, nU32 3] .leaf 0) [] 3 false),
  (4390, .map [⟨.str [47, 97], .agg [nU32 3, nU32 0, nU32 0, nU32 0, nU32 0, nU32 0, nU32 0, nU32 0, .slice none 0 0 none], 0⟩] 1),
  (4391, .map [⟨nU32 1, .agg [.str [47, 97], nU32 1, nU32 0, nU8 1, .bool false, nI64 1, sl 4454 0 1 1 none], 0⟩, ⟨nU32 2, .agg [.str [47, 97], nU32 2, nU32 0, nU8 2, .bool false, nI64 1, sl 5716 0 1 1 none], 1⟩] 2),
  (4392, .map [⟨nU32 1, .agg [nU32 1, nI64 128, nI64 1, nI64 1], 0⟩, ⟨nU32 2, .agg [nU32 2, nI64 129, nI64 1, nI64 1], 1⟩] 2),
  (4393, .map [] 0),
  (4394, .cells (Am.fillC [nU8 0, nU32 0, nU32 3, nU32 3, nU8 0, nU32 0, nI64 1048576, .map (some 4390), .map (some 4391), .map (some 4392), .map (some 4393)] .leaf 0) [] 11 false),
  (4454, .cells (Am.fillC [nU32 1] .leaf 0) [nU32 0] 1 false),
  (5716, .cells (Am.fillC [nU32 2] .leaf 0) [nU32 0] 1 false),
  (6510, .cells (ups [(2, nU64 3)]) [nU64 0, nU64 0, nU64 0, nU64 0] 4 false),
  (6511, .cells (Am.fillC [nI64 128, nI64 256, sl 6510 0 1 1 none] .leaf 0) [] 3 false)], 7989⟩
def e7V : Am.AV := pt 8570 0
def e7G : Am.Heap := ⟨hp [(13, .cells (Am.fillC [pt 7 0, pt 3941 0, pt 6511 0] .leaf 0) [] 3 false),
  (3939, .map [⟨nU32 1, .agg [.str [120], nI64 128, nI64 1], 0⟩, ⟨nU32 2, .agg [.str [121], nI64 129, nI64 1], 1⟩] 2),
  (3941, .cells (Am.fillC [.map (some 3939), pt 3940 0, nU32 3] .leaf 0) [] 3 false),
  (4390, .map [⟨.str [47, 97], .agg [nU32 3, nU32 0, nU32 0, nU32 0, nU32 0, nU32 0, nU32 0, nU32 0, .slice none 0 0 none], 0⟩] 1),
  (4391, .map [⟨nU32 1, .agg [.str [47, 97], nU32 1, nU32 0, nU8 1, .bool false, nI64 1, sl 4454 0 1 1 none], 0⟩, ⟨nU32 2, .agg [.str [47, 97], nU32 2, nU32 0, nU8 2, .bool false, nI64 1, sl 5716 0 1 1 none], 1⟩] 2),
  (4392, .map [⟨nU32 1, .agg [nU32 1, nI64 128, nI64 1, nI64 1], 0⟩, ⟨nU32 2, .agg [nU32 2, nI64 129, nI64 1, nI64 1], 1⟩] 2),
  (4393, .map [] 0),
  (4394, .cells (Am.fillC [nU8 0, nU32 0, nU32 3, nU32 3, nU8 0, nU32 0, nI64 1048576, .map (some 4390), .map (some 4391), .map (some 4392), .map (some 4393)] .leaf 0) [] 11 false),
  (4454, .cells (Am.fillC [nU32 1] .leaf 0) [nU32 0] 1 false),
  (5716, .cells (Am.fillC [nU32 2] .leaf 0) [nU32 0] 1 false),
  (6510, .cells (ups [(2, nU64 3)]) [nU64 0, nU64 0, nU64 0, nU64 0] 4 false),
  (6511, .cells (Am.fillC [nI64 128, nI64 256, sl 6510 0 1 1 none] .leaf 0) [] 3 false),
  (8570, .cells (Am.fillC [pt 8286 0, pt 8474 0, pt 8001 0, .slice none 0 0 none, .slice none 0 0 none, .slice none 0 0 none, nI64 0] .leaf 0) [] 7 false)], 8571⟩

noncomputable def e7P : Am.Prims := Am.snapF 15 e7A e7H e7V e7G
noncomputable def e7Q : Am.Prims := prB
theorem e7R : Am.answers (Am.callNF Tryz.prog (Am.keepF Tryz.prog) e7Q 100000 300 (.fn 15) e7A e7H) e7V e7G = true := by kernel_rfl
theorem e7Ok : Am.PrimsOk Tryz.prog (Am.keepF Tryz.prog) e7P := Am.snapF_ok mixed namesQ prBOk (by kernel_rfl) e7R
def e8A : List Am.AV := [pt 4394 0, pt 13 0]
def e8H : Am.Heap := ⟨hp [(13, .cells (Am.fillC [pt 7 0, pt 3941 0, pt 6511 0] .leaf 0) [] 3 false),
  (3939, .map [⟨nU32 1, .agg [.str [120], nI64 128, nI64 1], 0⟩, ⟨nU32 2, .agg [.str [121], nI64 129, nI64 1], 1⟩] 2),
  (3941, .cells (Am.fillC [.map (some 3939), pt 3940 0, nU32 3] .leaf 0) [] 3 false),
  (4390, .map [⟨.str [47, 97], .agg [nU32 3, nU32 0, nU32 0, nU32 0, nU32 0, nU32 0, nU32 0, nU32 0, .slice none 0 0 none], 0⟩] 1),
  (4391, .map [⟨nU32 1, .agg [.str [47, 97], nU32 1, nU32 0, nU8 1, .bool false, nI64 1, sl 4454 0 1 1 none], 0⟩, ⟨nU32 2, .agg [.str [47, 97], nU32 2, nU32 0, nU8 2, .bool false, nI64 1, sl 5716 0 1 1 none], 1⟩] 2),
  (4392, .map [⟨nU32 1, .agg [nU32 1, nI64 128, nI64 1, nI64 1], 0⟩, ⟨nU32 2, .agg [nU32 2, nI64 129, nI64 1, nI64 1], 1⟩] 2),
  (4393, .map [] 0),
  (4394, .cells (Am.fillC [nU8 0, nU32 0, nU32 3, nU32 3, nU8 0, nU32 0, nI64 1048576, .map (some 4390), .map (some 4391), .map (some 4392), .map (some 4393)] .leaf 0) [] 11 false),
  (4454, .cells (Am.fillC [nU32 1] .leaf 0) [nU32 0] 1 false),
  (5716, .cells (Am.fillC [nU32 2] .leaf 0) [nU32 0] 1 false),
  (6510, .cells (ups [(2, nU64 3)]) [nU64 0, nU64 0, nU64 0, nU64 0] 4 false),
  (6511, .cells (Am.fillC [nI64 128, nI64 256, sl 6510 0 1 1 none] .leaf 0) [] 3 false)], 8588⟩
def e8V : Am.AV := pt 9169 0
def e8G : Am.Heap := ⟨hp [(13, .cells (Am.fillC [pt 7 0, pt 3941 0, pt 6511 0] .leaf 0) [] 3 false),
  (3939, .map [⟨nU32 1, .agg [.str [120], nI64 128, nI64 1], 0⟩, ⟨nU32 2, .agg [.str [121], nI64 129, nI64 1], 1⟩] 2),
  (3941, .cells (Am.fillC [.map (some 3939), pt 3940 0, nU32 3] .leaf 0) [] 3 false),
  (4390, .map [⟨.str [47, 97], .agg [nU32 3, nU32 0, nU32 0, nU32 0, nU32 0, nU32 0, nU32 0, nU32 0, .slice none 0 0 none], 0⟩] 1),
  (4391, .map [⟨nU32 1, .agg [.str [47, 97], nU32 1, nU32 0, nU8 1, .bool false, nI64 1, sl 4454 0 1 1 none], 0⟩, ⟨nU32 2, .agg [.str [47, 97], nU32 2, nU32 0, nU8 2, .bool false, nI64 1, sl 5716 0 1 1 none], 1⟩] 2),
  (4392, .map [⟨nU32 1, .agg [nU32 1, nI64 128, nI64 1, nI64 1], 0⟩, ⟨nU32 2, .agg [nU32 2, nI64 129, nI64 1, nI64 1], 1⟩] 2),
  (4393, .map [] 0),
  (4394, .cells (Am.fillC [nU8 0, nU32 0, nU32 3, nU32 3, nU8 0, nU32 0, nI64 1048576, .map (some 4390), .map (some 4391), .map (some 4392), .map (some 4393)] .leaf 0) [] 11 false),
  (4454, .cells (Am.fillC [nU32 1] .leaf 0) [nU32 0] 1 false),
  (5716, .cells (Am.fillC [nU32 2] .leaf 0) [nU32 0] 1 false),
  (6510, .cells (ups [(2, nU64 3)]) [nU64 0, nU64 0, nU64 0, nU64 0] 4 false),
  (6511, .cells (Am.fillC [nI64 128, nI64 256, sl 6510 0 1 1 none] .leaf 0) [] 3 false),
  (9169, .cells (Am.fillC [pt 8885 0, pt 9073 0, pt 8600 0, .slice none 0 0 none, .slice none 0 0 none, .slice none 0 0 none, nI64 0] .leaf 0) [] 7 false)], 9170⟩

noncomputable def e8P : Am.Prims := Am.snapF 15 e8A e8H e8V e8G
noncomputable def e8Q : Am.Prims := prB
theorem e8R : Am.answers (Am.callNF Tryz.prog (Am.keepF Tryz.prog) e8Q 100000 300 (.fn 15) e8A e8H) e8V e8G = true := by kernel_rfl
theorem e8Ok : Am.PrimsOk Tryz.prog (Am.keepF Tryz.prog) e8P := Am.snapF_ok mixed namesQ prBOk (by kernel_rfl) e8R
def e9A : List Am.AV := [pt 15 0, nI64 1, .bool true]
def e9H : Am.Heap := ⟨hp [(0, .cells (sg [(16512, [nU8 120, nU8 0, nU8 0, nU8 0, nU8 0, nU8 0, nU8 0, nU8 0, nU8 0, nU8 0, nU8 0, nU8 0, nU8 0, nU8 0, nU8 0, nU8 0, nU8 0, nU8 0, nU8 0, nU8 0, nU8 0, nU8 0, nU8 0, nU8 0, nU8 0, nU8 0, nU8 0, nU8 0, nU8 0, nU8 0, nU8 0, nU8 0, nU8 0, nU8 0, nU8 0, nU8 0, nU8 0, nU8 0, nU8 0, nU8 0, nU8 0, nU8 0, nU8 0, nU8 0, nU8 0, nU8 0, nU8 0, nU8 0, nU8 0, nU8 0, nU8 0, nU8 0, nU8 0, nU8 0, nU8 0, nU8 0, nU8 0, nU8 0, nU8 0, nU8 0, nU8 0, nU8 0, nU8 0, nU8 0, nU8 120, nU8 0, nU8 0, nU8 0, nU8 0, nU8 0, nU8 0, nU8 0, nU8 0, nU8 0, nU8 0, nU8 0, nU8 0, nU8 0, nU8 0, nU8 0, nU8 0, nU8 0, nU8 0, nU8 0, nU8 0, nU8 0, nU8 0, nU8 0, nU8 0, nU8 0, nU8 0, nU8 0, nU8 0, nU8 0, nU8 0, nU8 0, nU8 0, nU8 0, nU8 0, nU8 0, nU8 0, nU8 0, nU8 0, nU8 0, nU8 0, nU8 0, nU8 0, nU8 0, nU8 0, nU8 0, nU8 0, nU8 0, nU8 0, nU8 0, nU8 0, nU8 0, nU8 0, nU8 0, nU8 0, nU8 0, nU8 0, nU8 0, nU8 0, nU8 0, nU8 0, nU8 0, nU8 0, nU8 0, .bool false, nU8 121, nU8 0, nU8 0, nU8 0, nU8 0, nU8 0, nU8 0, nU8 0, nU8 0, nU8 0, nU8 0, nU8 0, nU8 0, nU8 0, nU8 0, nU8 0, nU8 0, nU8 0, nU8 0, nU8 0, nU8 0, nU8 0, nU8 0, nU8 0, nU8 0, nU8 0, nU8 0, nU8 0, nU8 0, nU8 0, nU8 0, nU8 0, nU8 0, nU8 0, nU8 0, nU8 0, nU8 0, nU8 0, nU8 0, nU8 0, nU8 0, nU8 0, nU8 0, nU8 0, nU8 0, nU8 0, nU8 0, nU8 0, nU8 0, nU8 0, nU8 0, nU8 0, nU8 0, nU8 0, nU8 0, nU8 0, nU8 0, nU8 0, nU8 0, nU8 0, nU8 0, nU8 0, nU8 0, nU8 0, nU8 121, nU8 0, nU8 0, nU8 0, nU8 0, nU8 0, nU8 0, nU8 0, nU8 0, nU8 0, nU8 0, nU8 0, nU8 0, nU8 0, nU8 0, nU8 0, nU8 0, nU8 0, nU8 0, nU8 0, nU8 0, nU8 0, nU8 0, nU8 0, nU8 0, nU8 0, nU8 0, nU8 0, nU8 0, nU8 0, nU8 0, nU8 0, nU8 0, nU8 0, nU8 0, nU8 0, nU8 0, nU8 0, nU8 0, nU8 0, nU8 0, nU8 0, nU8 0, nU8 0, nU8 0, nU8 0, nU8 0, nU8 0, nU8 0, nU8 0, nU8 0, nU8 0, nU8 0, nU8 0, nU8 0, nU8 0, nU8 0, nU8 0, nU8 0, nU8 0, nU8 0, nU8 0, nU8 0, nU8 0, .bool false])]) (Am.app' (Am.rep' 128 [nU8 0]) [.bool false]) 33024 false),
  (1, .cells (Am.fillC [sl 0 0 256 256 none] .leaf 0) [] 1 false),
  (7, .cells (Am.fillC [pt 1 0, mI64 0, .slice none 0 0 none, nI64 5, .bool false] .leaf 0) [] 5 false),
  (13, .cells (Am.fillC [pt 7 0, pt 3941 0, pt 6511 0] .leaf 0) [] 3 false),
  (15, .cells (Am.fillC [pt 1 0, pt 4394 0, pt 13 0, nU8 0, nU32 0, nU32 1, nU8 0, nU32 0, nI64 1048576, .slice none 0 0 none, .slice none 0 0 none, .slice none 0 0 none, nI64 128] .leaf 0) [] 13 false),
  (3939, .map [⟨nU32 1, .agg [.str [120], nI64 128, nI64 1], 0⟩, ⟨nU32 2, .agg [.str [121], nI64 129, nI64 1], 1⟩] 2),
  (3941, .cells (Am.fillC [.map (some 3939), pt 3940 0, nU32 3] .leaf 0) [] 3 false),
  (4390, .map [⟨.str [47, 97], .agg [nU32 3, nU32 0, nU32 0, nU32 0, nU32 0, nU32 0, nU32 0, nU32 0, .slice none 0 0 none], 0⟩] 1),
  (4391, .map [⟨nU32 1, .agg [.str [47, 97], nU32 1, nU32 0, nU8 1, .bool false, nI64 1, sl 4454 0 1 1 none], 0⟩, ⟨nU32 2, .agg [.str [47, 97], nU32 2, nU32 0, nU8 2, .bool false, nI64 1, sl 5716 0 1 1 none], 1⟩] 2),
  (4392, .map [⟨nU32 1, .agg [nU32 1, nI64 128, nI64 1, nI64 1], 0⟩, ⟨nU32 2, .agg [nU32 2, nI64 129, nI64 1, nI64 1], 1⟩] 2),
  (4393, .map [] 0),
  (4394, .cells (Am.fillC [nU8 0, nU32 0, nU32 3, nU32 3, nU8 0, nU32 0, nI64 1048576, .map (some 4390), .map (some 4391), .map (some 4392), .map (some 4393)] .leaf 0) [] 11 false),
  (4454, .cells (Am.fillC [nU32 1] .leaf 0) [nU32 0] 1 false),
  (5716, .cells (Am.fillC [nU32 2] .leaf 0) [nU32 0] 1 false),
  (6510, .cells (ups [(2, nU64 3)]) [nU64 0, nU64 0, nU64 0, nU64 0] 4 false),
  (6511, .cells (Am.fillC [nI64 128, nI64 256, sl 6510 0 1 1 none] .leaf 0) [] 3 false)], 9185⟩
def e9V : Am.AV := nI64 0
def e9G : Am.Heap := ⟨hp [(0, .cells (sg [(16512, [nU8 120, nU8 0, nU8 0, nU8 0, nU8 0, nU8 0, nU8 0, nU8 0, nU8 0, nU8 0, nU8 0, nU8 0, nU8 0, nU8 0, nU8 0, nU8 0, nU8 0, nU8 0, nU8 0, nU8 0, nU8 0, nU8 0, nU8 0, nU8 0, nU8 0, nU8 0, nU8 0, nU8 0, nU8 0, nU8 0, nU8 0, nU8 0, nU8 0, nU8 0, nU8 0, nU8 0, nU8 0, nU8 0, nU8 0, nU8 0, nU8 0, nU8 0, nU8 0, nU8 0, nU8 0, nU8 0, nU8 0, nU8 0, nU8 0, nU8 0, nU8 0, nU8 0, nU8 0, nU8 0, nU8 0, nU8 0, nU8 0, nU8 0, nU8 0, nU8 0, nU8 0, nU8 0, nU8 0, nU8 0, nU8 120, nU8 0, nU8 0, nU8 0, nU8 0, nU8 0, nU8 0, nU8 0, nU8 0, nU8 0, nU8 0, nU8 0, nU8 0, nU8 0, nU8 0, nU8 0, nU8 0, nU8 0, nU8 0, nU8 0, nU8 0, nU8 0, nU8 0, nU8 0, nU8 0, nU8 0, nU8 0, nU8 0, nU8 0, nU8 0, nU8 0, nU8 0, nU8 0, nU8 0, nU8 0, nU8 0, nU8 0, nU8 0, nU8 0, nU8 0, nU8 0, nU8 0, nU8 0, nU8 0, nU8 0, nU8 0, nU8 0, nU8 0, nU8 0, nU8 0, nU8 0, nU8 0, nU8 0, nU8 0, nU8 0, nU8 0, nU8 0, nU8 0, nU8 0, nU8 0, nU8 0, nU8 0, nU8 0, nU8 0, .bool false, nU8 121, nU8 0, nU8 0, nU8 0, nU8 0, nU8 0, nU8 0, nU8 0, nU8 0, nU8 0, nU8 0, nU8 0, nU8 0, nU8 0, nU8 0, nU8 0, nU8 0, nU8 0, nU8 0, nU8 0, nU8 0, nU8 0, nU8 0, nU8 0, nU8 0, nU8 0, nU8 0, nU8 0, nU8 0, nU8 0, nU8 0, nU8 0, nU8 0, nU8 0, nU8 0, nU8 0, nU8 0, nU8 0, nU8 0, nU8 0, nU8 0, nU8 0, nU8 0, nU8 0, nU8 0, nU8 0, nU8 0, nU8 0, nU8 0, nU8 0, nU8 0, nU8 0, nU8 0, nU8 0, nU8 0, nU8 0, nU8 0, nU8 0, nU8 0, nU8 0, nU8 0, nU8 0, nU8 0, nU8 0, nU8 121, nU8 0, nU8 0, nU8 0, nU8 0, nU8 0, nU8 0, nU8 0, nU8 0, nU8 0, nU8 0, nU8 0, nU8 0, nU8 0, nU8 0, nU8 0, nU8 0, nU8 0, nU8 0, nU8 0, nU8 0, nU8 0, nU8 0, nU8 0, nU8 0, nU8 0, nU8 0, nU8 0, nU8 0, nU8 0, nU8 0, nU8 0, nU8 0, nU8 0, nU8 0, nU8 0, nU8 0, nU8 0, nU8 0, nU8 0, nU8 0, nU8 0, nU8 0, nU8 0, nU8 0, nU8 0, nU8 0, nU8 0, nU8 0, nU8 0, nU8 0, nU8 0, nU8 0, nU8 0, nU8 0, nU8 0, nU8 0, nU8 0, nU8 0, nU8 0, nU8 0, nU8 0, nU8 0, nU8 0, .bool false, nU8 122, nU8 0, nU8 0, nU8 0, nU8 0, nU8 0, nU8 0, nU8 0, nU8 0, nU8 0, nU8 0, nU8 0, nU8 0, nU8 0, nU8 0, nU8 0, nU8 0, nU8 0, nU8 0, nU8 0, nU8 0, nU8 0, nU8 0, nU8 0, nU8 0, nU8 0, nU8 0, nU8 0, nU8 0, nU8 0, nU8 0, nU8 0, nU8 0, nU8 0, nU8 0, nU8 0, nU8 0, nU8 0, nU8 0, nU8 0, nU8 0, nU8 0, nU8 0, nU8 0, nU8 0, nU8 0, nU8 0, nU8 0, nU8 0, nU8 0, nU8 0, nU8 0, nU8 0, nU8 0, nU8 0, nU8 0, nU8 0, nU8 0, nU8 0, nU8 0, nU8 0, nU8 0, nU8 0, nU8 0, nU8 122, nU8 0, nU8 0, nU8 0, nU8 0, nU8 0, nU8 0, nU8 0, nU8 0, nU8 0, nU8 0, nU8 0, nU8 0, nU8 0, nU8 0, nU8 0, nU8 0, nU8 0, nU8 0, nU8 0, nU8 0, nU8 0, nU8 0, nU8 0, nU8 0, nU8 0, nU8 0, nU8 0, nU8 0, nU8 0, nU8 0, nU8 0, nU8 0, nU8 0, nU8 0, nU8 0, nU8 0, nU8 0, nU8 0, nU8 0, nU8 0, nU8 0, nU8 0, nU8 0, nU8 0, nU8 0, nU8 0, nU8 0, nU8 0, nU8 0, nU8 0, nU8 0, nU8 0, nU8 0, nU8 0, nU8 0, nU8 0, nU8 0, nU8 0, nU8 0, nU8 0, nU8 0, nU8 0, nU8 0, .bool false])]) (Am.app' (Am.rep' 128 [nU8 0]) [.bool false]) 33024 false),
  (1, .cells (Am.fillC [sl 0 0 256 256 none] .leaf 0) [] 1 false),
  (7, .cells (Am.fillC [pt 1 0, mI64 0, .slice none 0 0 none, nI64 7, .bool false] .leaf 0) [] 5 false),
  (13, .cells (Am.fillC [pt 7 0, pt 9212 0, pt 11998 0] .leaf 0) [] 3 false),
  (15, .cells (Am.fillC [pt 1 0, pt 9680 0, pt 13 0, nU8 0, nU32 0, nU32 1, nU8 0, nU32 0, nI64 1048576, .slice none 0 0 none, .slice none 0 0 none, .slice none 0 0 none, nI64 128] .leaf 0) [] 13 false),
  (3939, .map [⟨nU32 1, .agg [.str [120], nI64 128, nI64 1], 0⟩, ⟨nU32 2, .agg [.str [121], nI64 129, nI64 1], 1⟩] 2),
  (3941, .cells (Am.fillC [.map (some 3939), pt 3940 0, nU32 3] .leaf 0) [] 3 false),
  (4390, .map [⟨.str [47, 97], .agg [nU32 3, nU32 0, nU32 0, nU32 0, nU32 0, nU32 0, nU32 0, nU32 0, .slice none 0 0 none], 0⟩] 1),
  (4391, .map [⟨nU32 1, .agg [.str [47, 97], nU32 1, nU32 0, nU8 1, .bool false, nI64 1, sl 4454 0 1 1 none], 0⟩, ⟨nU32 2, .agg [.str [47, 97], nU32 2, nU32 0, nU8 2, .bool false, nI64 1, sl 5716 0 1 1 none], 1⟩] 2),
  (4392, .map [⟨nU32 1, .agg [nU32 1, nI64 128, nI64 1, nI64 1], 0⟩, ⟨nU32 2, .agg [nU32 2, nI64 129, nI64 1, nI64 1], 1⟩] 2),
  (4393, .map [] 0),
  (4394, .cells (Am.fillC [nU8 0, nU32 0, nU32 3, nU32 3, nU8 0, nU32 0, nI64 1048576, .map (some 4390), .map (some 4391), .map (some 4392), .map (some 4393)] .leaf 0) [] 11 false),
  (4454, .cells (Am.fillC [nU32 1] .leaf 0) [nU32 0] 1 false),
  (5716, .cells (Am.fillC [nU32 2] .leaf 0) [nU32 0] 1 false),
  (6510, .cells (ups [(2, nU64 3)]) [nU64 0, nU64 0, nU64 0, nU64 0] 4 false),
  (6511, .cells (Am.fillC [nI64 128, nI64 256, sl 6510 0 1 1 none] .leaf 0) [] 3 false),
  (9210, .map [⟨nU32 2, .agg [.str [121], nI64 129, nI64 1], 1⟩, ⟨nU32 3, .agg [.str [122], nI64 130, nI64 1], 2⟩] 3),
  (9212, .cells (Am.fillC [.map (some 9210), pt 9211 0, nU32 4] .leaf 0) [] 3 false),
  (9676, .map [⟨.str [47, 97], .agg [nU32 4, nU32 0, nU32 0, nU32 0, nU32 0, nU32 0, nU32 0, nU32 0, sl 11143 0 1 1 (some 5)], 0⟩] 1),
  (9677, .map [⟨nU32 2, .agg [.str [47, 97], nU32 2, nU32 0, nU8 2, .bool false, nI64 1, sl 9743 0 1 1 none], 1⟩] 2),
  (9678, .map [⟨nU32 2, .agg [nU32 2, nI64 129, nI64 1, nI64 1], 1⟩, ⟨nU32 3, .agg [nU32 3, nI64 130, nI64 1, nI64 1], 2⟩] 3),
  (9679, .map [] 0),
  (9680, .cells (Am.fillC [nU8 0, nU32 0, nU32 3, nU32 4, nU8 0, nU32 0, nI64 1, .map (some 9676), .map (some 9677), .map (some 9678), .map (some 9679)] .leaf 0) [] 11 false),
  (9743, .cells (Am.fillC [nU32 2] .leaf 0) [nU32 0] 1 false),
  (11142, .cells (Am.fillC [nU32 3] .leaf 0) [nU32 0] 1 false),
  (11143, .cells (Am.fillC [nU8 0, nU32 4, .bool false, nI64 1, sl 11142 0 1 1 none] .leaf 0) [.tuple [nU64 145, .bool false]] 5 false),
  (11997, .cells (ups [(2, nU64 6)]) [nU64 0, nU64 0, nU64 0, nU64 0] 4 false),
  (11998, .cells (Am.fillC [nI64 128, nI64 256, sl 11997 0 1 1 none] .leaf 0) [] 3 false)], 12085⟩

noncomputable def e9P : Am.Prims := Am.snapF 23 e9A e9H e9V e9G
noncomputable def e9Q : Am.Prims := prB
theorem e9R : Am.answers (Am.callNF Tryz.prog (Am.keepF Tryz.prog) e9Q 100000 300 (.fn 23) e9A e9H) e9V e9G = true := by kernel_rfl
theorem e9Ok : Am.PrimsOk Tryz.prog (Am.keepF Tryz.prog) e9P := Am.snapF_ok mixed namesQ prBOk (by kernel_rfl) e9R
end
end Go.Proofs.YtoifafjijgekeaaGreat.ChangeKnownRun

/-
  Parts of the run of ChangeKnown, told before. No condition.
-/
import Derived.Test.YtoifafjijgekeaaGreatBase
namespace Go.Proofs.YtoifafjijgekeaaGreat.ChangeKnownRun
open Go.Shelf
noncomputable section
def e10A : List Am.AV := [pt 15 0, nI64 0, .bool false]
def e10H : Am.Heap := ⟨hp [(13, .cells (Am.fillC [pt 7 0, pt 9212 0, pt 11998 0] .leaf 0) [] 3 false),
  (15, .cells (Am.fillC [pt 1 0, pt 9680 0, pt 13 0, nU8 0, nU32 0, nU32 1, nU8 0, nU32 0, nI64 1048576, .slice none 0 0 none, .slice none 0 0 none, .slice none 0 0 none, nI64 128] .leaf 0) [] 13 false),
  (9210, .map [⟨nU32 2, .agg [.str [121], nI64 129, nI64 1], 1⟩, ⟨nU32 3, .agg [.str [122], nI64 130, nI64 1], 2⟩] 3),
  (9212, .cells (Am.fillC [.map (some 9210), pt 9211 0, nU32 4] .leaf 0) [] 3 false),
  (9676, .map [⟨.str [47, 97], .agg [nU32 4, nU32 0, nU32 0, nU32 0, nU32 0, nU32 0, nU32 0, nU32 0, sl 11143 0 1 1 (some 5)], 0⟩] 1),
  (9677, .map [⟨nU32 2, .agg [.str [47, 97], nU32 2, nU32 0, nU8 2, .bool false, nI64 1, sl 9743 0 1 1 none], 1⟩] 2),
  (9678, .map [⟨nU32 2, .agg [nU32 2, nI64 129, nI64 1, nI64 1], 1⟩, ⟨nU32 3, .agg [nU32 3, nI64 130, nI64 1, nI64 1], 2⟩] 3),
  (9679, .map [] 0),
  (9680, .cells (Am.fillC [nU8 0, nU32 0, nU32 3, nU32 4, nU8 0, nU32 0, nI64 1, .map (some 9676), .map (some 9677), .map (some 9678), .map (some 9679)] .leaf 0) [] 11 false),
  (9743, .cells (Am.fillC [nU32 2] .leaf 0) [nU32 0] 1 false),
  (11142, .cells (Am.fillC [nU32 3] .leaf 0) [nU32 0] 1 false),
  (11143, .cells (Am.fillC [nU8 0, nU32 4, .bool false, nI64 1, sl 11142 0 1 1 none] .leaf 0) [.tuple [nU64 145, .bool false]] 5 false),
  (11997, .cells (ups [(2, nU64 6)]) [nU64 0, nU64 0, nU64 0, nU64 0] 4 false),
  (11998, .cells (Am.fillC [nI64 128, nI64 256, sl 11997 0 1 1 none] .leaf 0) [] 3 false)], 12178⟩
def e10V : Am.AV := nI64 11
def e10G : Am.Heap := ⟨hp [(13, .cells (Am.fillC [pt 7 0, pt 9212 0, pt 11998 0] .leaf 0) [] 3 false),
  (15, .cells (Am.fillC [pt 1 0, pt 9680 0, pt 13 0, nU8 0, nU32 0, nU32 1, nU8 0, nU32 0, nI64 1048576, .slice none 0 0 none, .slice none 0 0 none, .slice none 0 0 none, nI64 128] .leaf 0) [] 13 false),
  (9210, .map [⟨nU32 2, .agg [.str [121], nI64 129, nI64 1], 1⟩, ⟨nU32 3, .agg [.str [122], nI64 130, nI64 1], 2⟩] 3),
  (9212, .cells (Am.fillC [.map (some 9210), pt 9211 0, nU32 4] .leaf 0) [] 3 false),
  (9676, .map [⟨.str [47, 97], .agg [nU32 4, nU32 0, nU32 0, nU32 0, nU32 0, nU32 0, nU32 0, nU32 0, sl 11143 0 1 1 (some 5)], 0⟩] 1),
  (9677, .map [⟨nU32 2, .agg [.str [47, 97], nU32 2, nU32 0, nU8 2, .bool false, nI64 1, sl 9743 0 1 1 none], 1⟩] 2),
  (9678, .map [⟨nU32 2, .agg [nU32 2, nI64 129, nI64 1, nI64 1], 1⟩, ⟨nU32 3, .agg [nU32 3, nI64 130, nI64 1, nI64 1], 2⟩] 3),
  (9679, .map [] 0),
  (9680, .cells (Am.fillC [nU8 0, nU32 0, nU32 3, nU32 4, nU8 0, nU32 0, nI64 1, .map (some 9676), .map (some 9677), .map (some 9678), .map (some 9679)] .leaf 0) [] 11 false),
  (9743, .cells (Am.fillC [nU32 2] .leaf 0) [nU32 0] 1 false),
  (11142, .cells (Am.fillC [nU32 3] .leaf 0) [nU32 0] 1 false),
  (11143, .cells (Am.fillC [nU8 0, nU32 4, .bool false, nI64 1, sl 11142 0 1 1 none] .leaf 0) [.tuple [nU64 145, .bool false]] 5 false),
  (11997, .cells (ups [(2, nU64 6)]) [nU64 0, nU64 0, nU64 0, nU64 0] 4 false),
  (11998, .cells (Am.fillC [nI64 128, nI64 256, sl 11997 0 1 1 none] .leaf 0) [] 3 false)], 12926⟩

noncomputable def e10P : Am.Prims := Am.snapF 23 e10A e10H e10V e10G
noncomputable def e10Q : Am.Prims := prB
theorem e10R : Am.answers (Am.callNF Tryz.prog (Am.keepF Tryz.prog) e10Q 100000 300 (.fn 23) e10A e10H) e10V e10G = true := by kernel_rfl
theorem e10Ok : Am.PrimsOk Tryz.prog (Am.keepF Tryz.prog) e10P := Am.snapF_ok mixed namesQ prBOk (by kernel_rfl) e10R
def e11A : List Am.AV := [pt 15 0, .str [47, 97], .str [113], .slice none 0 0 none, nI64 10]
def e11H : Am.Heap := ⟨hp [(13, .cells (Am.fillC [pt 7 0, pt 9212 0, pt 11998 0] .leaf 0) [] 3 false),
  (15, .cells (Am.fillC [pt 1 0, pt 9680 0, pt 13 0, nU8 0, nU32 0, nU32 1, nU8 0, nU32 0, nI64 1048576, .slice none 0 0 none, .slice none 0 0 none, .slice none 0 0 none, nI64 128] .leaf 0) [] 13 false),
  (9210, .map [⟨nU32 2, .agg [.str [121], nI64 129, nI64 1], 1⟩, ⟨nU32 3, .agg [.str [122], nI64 130, nI64 1], 2⟩] 3),
  (9212, .cells (Am.fillC [.map (some 9210), pt 9211 0, nU32 4] .leaf 0) [] 3 false),
  (9676, .map [⟨.str [47, 97], .agg [nU32 4, nU32 0, nU32 0, nU32 0, nU32 0, nU32 0, nU32 0, nU32 0, sl 11143 0 1 1 (some 5)], 0⟩] 1),
  (9677, .map [⟨nU32 2, .agg [.str [47, 97], nU32 2, nU32 0, nU8 2, .bool false, nI64 1, sl 9743 0 1 1 none], 1⟩] 2),
  (9678, .map [⟨nU32 2, .agg [nU32 2, nI64 129, nI64 1, nI64 1], 1⟩, ⟨nU32 3, .agg [nU32 3, nI64 130, nI64 1, nI64 1], 2⟩] 3),
  (9679, .map [] 0),
  (9680, .cells (Am.fillC [nU8 0, nU32 0, nU32 3, nU32 4, nU8 0, nU32 0, nI64 1, .map (some 9676), .map (some 9677), .map (some 9678), .map (some 9679)] .leaf 0) [] 11 false),
  (9743, .cells (Am.fillC [nU32 2] .leaf 0) [nU32 0] 1 false),
  (11142, .cells (Am.fillC [nU32 3] .leaf 0) [nU32 0] 1 false),
  (11143, .cells (Am.fillC [nU8 0, nU32 4, .bool false, nI64 1, sl 11142 0 1 1 none] .leaf 0) [.tuple [nU64 145, .bool false]] 5 false),
  (11997, .cells (ups [(2, nU64 6)]) [nU64 0, nU64 0, nU64 0, nU64 0] 4 false),
  (11998, .cells (Am.fillC [nI64 128, nI64 256, sl 11997 0 1 1 none] .leaf 0) [] 3 false)], 12926⟩
def e11V : Am.AV := nI64 7
def e11G : Am.Heap := ⟨hp [(13, .cells (Am.fillC [pt 7 0, pt 9212 0, pt 11998 0] .leaf 0) [] 3 false),
  (15, .cells (Am.fillC [pt 1 0, pt 9680 0, pt 13 0, nU8 0, nU32 0, nU32 1, nU8 0, nU32 0, nI64 1048576, .slice none 0 0 none, .slice none 0 0 none, .slice none 0 0 none, nI64 128] .leaf 0) [] 13 false),
  (9210, .map [⟨nU32 2, .agg [.str [121], nI64 129, nI64 1], 1⟩, ⟨nU32 3, .agg [.str [122], nI64 130, nI64 1], 2⟩] 3),
  (9212, .cells (Am.fillC [.map (some 9210), pt 9211 0, nU32 4] .leaf 0) [] 3 false),
  (9676, .map [⟨.str [47, 97], .agg [nU32 4, nU32 0, nU32 0, nU32 0, nU32 0, nU32 0, nU32 0, nU32 0, sl 11143 0 1 1 (some 5)], 0⟩] 1),
  (9677, .map [⟨nU32 2, .agg [.str [47, 97], nU32 2, nU32 0, nU8 2, .bool false, nI64 1, sl 9743 0 1 1 none], 1⟩] 2),
  (9678, .map [⟨nU32 2, .agg [nU32 2, nI64 129, nI64 1, nI64 1], 1⟩, ⟨nU32 3, .agg [nU32 3, nI64 130, nI64 1, nI64 1], 2⟩] 3),
  (9679, .map [] 0),
  (9680, .cells (Am.fillC [nU8 0, nU32 0, nU32 3, nU32 4, nU8 0, nU32 0, nI64 1, .map (some 9676), .map (some 9677), .map (some 9678), .map (some 9679)] .leaf 0) [] 11 false),
  (9743, .cells (Am.fillC [nU32 2] .leaf 0) [nU32 0] 1 false),
  (11142, .cells (Am.fillC [nU32 3] .leaf 0) [nU32 0] 1 false),
  (11143, .cells (Am.fillC [nU8 0, nU32 4, .bool false, nI64 1, sl 11142 0 1 1 none] .leaf 0) [.tuple [nU64 145, .bool false]] 5 false),
  (11997, .cells (ups [(2, nU64 6)]) [nU64 0, nU64 0, nU64 0, nU64 0] 4 false),
  (11998, .cells (Am.fillC [nI64 128, nI64 256, sl 11997 0 1 1 none] .leaf 0) [] 3 false)], 15689⟩

noncomputable def e11P : Am.Prims := Am.snapF 13 e11A e11H e11V e11G
noncomputable def e11Q : Am.Prims := prB
theorem e11R : Am.answers (Am.callNF Tryz.prog (Am.keepF Tryz.prog) e11Q 100000 300 (.fn 13) e11A e11H) e11V e11G = true := by kernel_rfl
theorem e11Ok : Am.PrimsOk Tryz.prog (Am.keepF Tryz.prog) e11P := Am.snapF_ok mixed namesQ prBOk (by kernel_rfl) e11R
end
end Go.Proofs.YtoifafjijgekeaaGreat.ChangeKnownRun

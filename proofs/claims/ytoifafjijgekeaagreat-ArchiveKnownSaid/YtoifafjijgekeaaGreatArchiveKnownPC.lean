/-
  Parts of the run of ArchiveKnown, told before. No condition.
-/
import Derived.Test.YtoifafjijgekeaaGreatBase
namespace Go.Proofs.YtoifafjijgekeaaGreat.ArchiveKnownRun
open Go.Shelf
noncomputable section
def e2A : List Am.AV := [pt 15 0, .agg [nU8 0, nU8 0, .str [47, 98], .bool false, .str [122], nU32 0, nU32 0, nU32 0, nU32 0, nU32 0, nU32 0, nU32 0, nU32 0, .slice none 0 0 none]]
def e2H : Am.Heap := ⟨hp [(5, .cells (sg [(66048, [nU8 120, nU8 0, nU8 0, nU8 0, nU8 0, nU8 0, nU8 0, nU8 0, nU8 0, nU8 0, nU8 0, nU8 0, nU8 0, nU8 0, nU8 0, nU8 0, nU8 0, nU8 0, nU8 0, nU8 0, nU8 0, nU8 0, nU8 0, nU8 0, nU8 0, nU8 0, nU8 0, nU8 0, nU8 0, nU8 0, nU8 0, nU8 0, nU8 0, nU8 0, nU8 0, nU8 0, nU8 0, nU8 0, nU8 0, nU8 0, nU8 0, nU8 0, nU8 0, nU8 0, nU8 0, nU8 0, nU8 0, nU8 0, nU8 0, nU8 0, nU8 0, nU8 0, nU8 0, nU8 0, nU8 0, nU8 0, nU8 0, nU8 0, nU8 0, nU8 0, nU8 0, nU8 0, nU8 0, nU8 0, nU8 120, nU8 0, nU8 0, nU8 0, nU8 0, nU8 0, nU8 0, nU8 0, nU8 0, nU8 0, nU8 0, nU8 0, nU8 0, nU8 0, nU8 0, nU8 0, nU8 0, nU8 0, nU8 0, nU8 0, nU8 0, nU8 0, nU8 0, nU8 0, nU8 0, nU8 0, nU8 0, nU8 0, nU8 0, nU8 0, nU8 0, nU8 0, nU8 0, nU8 0, nU8 0, nU8 0, nU8 0, nU8 0, nU8 0, nU8 0, nU8 0, nU8 0, nU8 0, nU8 0, nU8 0, nU8 0, nU8 0, nU8 0, nU8 0, nU8 0, nU8 0, nU8 0, nU8 0, nU8 0, nU8 0, nU8 0, nU8 0, nU8 0, nU8 0, nU8 0, nU8 0, nU8 0, nU8 0, nU8 0, .bool false, nU8 121, nU8 0, nU8 0, nU8 0, nU8 0, nU8 0, nU8 0, nU8 0, nU8 0, nU8 0, nU8 0, nU8 0, nU8 0, nU8 0, nU8 0, nU8 0, nU8 0, nU8 0, nU8 0, nU8 0, nU8 0, nU8 0, nU8 0, nU8 0, nU8 0, nU8 0, nU8 0, nU8 0, nU8 0, nU8 0, nU8 0, nU8 0, nU8 0, nU8 0, nU8 0, nU8 0, nU8 0, nU8 0, nU8 0, nU8 0, nU8 0, nU8 0, nU8 0, nU8 0, nU8 0, nU8 0, nU8 0, nU8 0, nU8 0, nU8 0, nU8 0, nU8 0, nU8 0, nU8 0, nU8 0, nU8 0, nU8 0, nU8 0, nU8 0, nU8 0, nU8 0, nU8 0, nU8 0, nU8 0, nU8 121, nU8 0, nU8 0, nU8 0, nU8 0, nU8 0, nU8 0, nU8 0, nU8 0, nU8 0, nU8 0, nU8 0, nU8 0, nU8 0, nU8 0, nU8 0, nU8 0, nU8 0, nU8 0, nU8 0, nU8 0, nU8 0, nU8 0, nU8 0, nU8 0, nU8 0, nU8 0, nU8 0, nU8 0, nU8 0, nU8 0, nU8 0, nU8 0, nU8 0, nU8 0, nU8 0, nU8 0, nU8 0, nU8 0, nU8 0, nU8 0, nU8 0, nU8 0, nU8 0, nU8 0, nU8 0, nU8 0, nU8 0, nU8 0, nU8 0, nU8 0, nU8 0, nU8 0, nU8 0, nU8 0, nU8 0, nU8 0, nU8 0, nU8 0, nU8 0, nU8 0, nU8 0, nU8 0, nU8 0, .bool false])]) (Am.app' (Am.rep' 128 [nU8 0]) [.bool false]) 132096 false),
  (6, .cells (Am.fillC [sl 5 0 1024 1024 none] .leaf 0) [] 1 false),
  (7, .cells (Am.fillC [pt 6 0, mI64 0, .slice none 0 0 none, nI64 4, .bool false] .leaf 0) [] 5 false),
  (13, .cells (Am.fillC [pt 7 0, pt 1504 0, pt 3589 0] .leaf 0) [] 3 false),
  (15, .cells (Am.fillC [pt 1806 0, pt 13 0, nU8 0, nU32 0, nU32 1, nU8 0, nU32 0, nI64 1048576, .slice none 0 0 none, .slice none 0 0 none, .slice none 0 0 none, nI64 512] .leaf 0) [] 12 false),
  (1502, .map [⟨nU32 1, .agg [.str [120], nI64 512, nI64 1], 0⟩, ⟨nU32 2, .agg [.str [121], nI64 513, nI64 1], 1⟩] 2),
  (1504, .cells (Am.fillC [.map (some 1502), pt 1503 0, nU32 3] .leaf 0) [] 3 false),
  (1802, .map [⟨.str [47, 97], .agg [nU32 1, nU32 0, nU32 0, nU32 0, nU32 0, nU32 0, nU32 0, nU32 0, sl 1845 0 1 1 (some 5)], 0⟩, ⟨.str [47, 98], .agg [nU32 1, nU32 0, nU32 0, nU32 0, nU32 0, nU32 0, nU32 0, nU32 0, sl 2690 0 1 1 (some 5)], 1⟩] 2),
  (1803, .map [] 0),
  (1804, .map [⟨nU32 1, .agg [nU32 1, nI64 512, nI64 1, nI64 1], 0⟩, ⟨nU32 2, .agg [nU32 2, nI64 513, nI64 1, nI64 1], 1⟩] 2),
  (1805, .map [] 0),
  (1806, .cells (Am.fillC [nU8 0, nU32 0, nU32 1, nU32 3, nU8 0, nU32 0, nI64 1048576, .map (some 1802), .map (some 1803), .map (some 1804), .map (some 1805)] .leaf 0) [] 11 false),
  (1844, .cells (Am.fillC [nU32 1] .leaf 0) [nU32 0] 1 false),
  (1845, .cells (Am.fillC [nU8 0, nU32 1, .bool false, nI64 1, sl 1844 0 1 1 none] .leaf 0) [.tuple [nU64 145, .bool false]] 5 false),
  (2689, .cells (Am.fillC [nU32 2] .leaf 0) [nU32 0] 1 false),
  (2690, .cells (Am.fillC [nU8 0, nU32 1, .bool false, nI64 1, sl 2689 0 1 1 none] .leaf 0) [.tuple [nU64 145, .bool false]] 5 false),
  (3588, .cells (ups [(8, nU64 3)]) [nU64 0, nU64 0, nU64 0, nU64 0] 16 false),
  (3589, .cells (Am.fillC [nI64 512, nI64 1024, sl 3588 0 4 4 none] .leaf 0) [] 3 false)], 3676⟩
def e2V : Am.AV := .bool true
def e2G : Am.Heap := ⟨hp [(5, .cells (sg [(66048, [nU8 120, nU8 0, nU8 0, nU8 0, nU8 0, nU8 0, nU8 0, nU8 0, nU8 0, nU8 0, nU8 0, nU8 0, nU8 0, nU8 0, nU8 0, nU8 0, nU8 0, nU8 0, nU8 0, nU8 0, nU8 0, nU8 0, nU8 0, nU8 0, nU8 0, nU8 0, nU8 0, nU8 0, nU8 0, nU8 0, nU8 0, nU8 0, nU8 0, nU8 0, nU8 0, nU8 0, nU8 0, nU8 0, nU8 0, nU8 0, nU8 0, nU8 0, nU8 0, nU8 0, nU8 0, nU8 0, nU8 0, nU8 0, nU8 0, nU8 0, nU8 0, nU8 0, nU8 0, nU8 0, nU8 0, nU8 0, nU8 0, nU8 0, nU8 0, nU8 0, nU8 0, nU8 0, nU8 0, nU8 0, nU8 120, nU8 0, nU8 0, nU8 0, nU8 0, nU8 0, nU8 0, nU8 0, nU8 0, nU8 0, nU8 0, nU8 0, nU8 0, nU8 0, nU8 0, nU8 0, nU8 0, nU8 0, nU8 0, nU8 0, nU8 0, nU8 0, nU8 0, nU8 0, nU8 0, nU8 0, nU8 0, nU8 0, nU8 0, nU8 0, nU8 0, nU8 0, nU8 0, nU8 0, nU8 0, nU8 0, nU8 0, nU8 0, nU8 0, nU8 0, nU8 0, nU8 0, nU8 0, nU8 0, nU8 0, nU8 0, nU8 0, nU8 0, nU8 0, nU8 0, nU8 0, nU8 0, nU8 0, nU8 0, nU8 0, nU8 0, nU8 0, nU8 0, nU8 0, nU8 0, nU8 0, nU8 0, nU8 0, nU8 0, .bool false, nU8 121, nU8 0, nU8 0, nU8 0, nU8 0, nU8 0, nU8 0, nU8 0, nU8 0, nU8 0, nU8 0, nU8 0, nU8 0, nU8 0, nU8 0, nU8 0, nU8 0, nU8 0, nU8 0, nU8 0, nU8 0, nU8 0, nU8 0, nU8 0, nU8 0, nU8 0, nU8 0, nU8 0, nU8 0, nU8 0, nU8 0, nU8 0, nU8 0, nU8 0, nU8 0, nU8 0, nU8 0, nU8 0, nU8 0, nU8 0, nU8 0, nU8 0, nU8 0, nU8 0, nU8 0, nU8 0, nU8 0, nU8 0, nU8 0, nU8 0, nU8 0, nU8 0, nU8 0, nU8 0, nU8 0, nU8 0, nU8 0, nU8 0, nU8 0, nU8 0, nU8 0, nU8 0, nU8 0, nU8 0, nU8 121, nU8 0, nU8 0, nU8 0, nU8 0, nU8 0, nU8 0, nU8 0, nU8 0, nU8 0, nU8 0, nU8 0, nU8 0, nU8 0, nU8 0, nU8 0, nU8 0, nU8 0, nU8 0, nU8 0, nU8 0, nU8 0, nU8 0, nU8 0, nU8 0, nU8 0, nU8 0, nU8 0, nU8 0, nU8 0, nU8 0, nU8 0, nU8 0, nU8 0, nU8 0, nU8 0, nU8 0, nU8 0, nU8 0, nU8 0, nU8 0, nU8 0, nU8 0, nU8 0, nU8 0, nU8 0, nU8 0, nU8 0, nU8 0, nU8 0, nU8 0, nU8 0, nU8 0, nU8 0, nU8 0, nU8 0, nU8 0, nU8 0, nU8 0, nU8 0, nU8 0, nU8 0, nU8 0, nU8 0, .bool false, nU8 122, nU8 0, nU8 0, nU8 0, nU8 0, nU8 0, nU8 0, nU8 0, nU8 0, nU8 0, nU8 0, nU8 0, nU8 0, nU8 0, nU8 0, nU8 0, nU8 0, nU8 0, nU8 0, nU8 0, nU8 0, nU8 0, nU8 0, nU8 0, nU8 0, nU8 0, nU8 0, nU8 0, nU8 0, nU8 0, nU8 0, nU8 0, nU8 0, nU8 0, nU8 0, nU8 0, nU8 0, nU8 0, nU8 0, nU8 0, nU8 0, nU8 0, nU8 0, nU8 0, nU8 0, nU8 0, nU8 0, nU8 0, nU8 0, nU8 0, nU8 0, nU8 0, nU8 0, nU8 0, nU8 0, nU8 0, nU8 0, nU8 0, nU8 0, nU8 0, nU8 0, nU8 0, nU8 0, nU8 0, nU8 122, nU8 0, nU8 0, nU8 0, nU8 0, nU8 0, nU8 0, nU8 0, nU8 0, nU8 0, nU8 0, nU8 0, nU8 0, nU8 0, nU8 0, nU8 0, nU8 0, nU8 0, nU8 0, nU8 0, nU8 0, nU8 0, nU8 0, nU8 0, nU8 0, nU8 0, nU8 0, nU8 0, nU8 0, nU8 0, nU8 0, nU8 0, nU8 0, nU8 0, nU8 0, nU8 0, nU8 0, nU8 0, nU8 0, nU8 0, nU8 0, nU8 0, nU8 0, nU8 0, nU8 0, nU8 0, nU8 0, nU8 0, nU8 0, nU8 0, nU8 0, nU8 0, nU8 0, nU8 0, nU8 0, nU8 0, nU8 0, nU8 0, nU8 0, nU8 0, nU8 0, nU8 0, nU8 0, nU8 0, .bool false])]) (Am.app' (Am.rep' 128 [nU8 0]) [.bool false]) 132096 false),
  (6, .cells (Am.fillC [sl 5 0 1024 1024 none] .leaf 0) [] 1 false),
  (7, .cells (Am.fillC [pt 6 0, mI64 0, .slice none 0 0 none, nI64 6, .bool false] .leaf 0) [] 5 false),
  (13, .cells (Am.fillC [pt 7 0, pt 3704 0, pt 6816 0] .leaf 0) [] 3 false),
  (15, .cells (Am.fillC [pt 4186 0, pt 13 0, nU8 0, nU32 0, nU32 1, nU8 0, nU32 0, nI64 1048576, .slice none 0 0 none, .slice none 0 0 none, .slice none 0 0 none, nI64 512] .leaf 0) [] 12 false),
  (1502, .map [⟨nU32 1, .agg [.str [120], nI64 512, nI64 1], 0⟩, ⟨nU32 2, .agg [.str [121], nI64 513, nI64 1], 1⟩] 2),
  (1504, .cells (Am.fillC [.map (some 1502), pt 1503 0, nU32 3] .leaf 0) [] 3 false),
  (1802, .map [⟨.str [47, 97], .agg [nU32 1, nU32 0, nU32 0, nU32 0, nU32 0, nU32 0, nU32 0, nU32 0, sl 1845 0 1 1 (some 5)], 0⟩, ⟨.str [47, 98], .agg [nU32 1, nU32 0, nU32 0, nU32 0, nU32 0, nU32 0, nU32 0, nU32 0, sl 2690 0 1 1 (some 5)], 1⟩] 2),
  (1803, .map [] 0),
  (1804, .map [⟨nU32 1, .agg [nU32 1, nI64 512, nI64 1, nI64 1], 0⟩, ⟨nU32 2, .agg [nU32 2, nI64 513, nI64 1, nI64 1], 1⟩] 2),
  (1805, .map [] 0),
  (1806, .cells (Am.fillC [nU8 0, nU32 0, nU32 1, nU32 3, nU8 0, nU32 0, nI64 1048576, .map (some 1802), .map (some 1803), .map (some 1804), .map (some 1805)] .leaf 0) [] 11 false),
  (1844, .cells (Am.fillC [nU32 1] .leaf 0) [nU32 0] 1 false),
  (1845, .cells (Am.fillC [nU8 0, nU32 1, .bool false, nI64 1, sl 1844 0 1 1 none] .leaf 0) [.tuple [nU64 145, .bool false]] 5 false),
  (2689, .cells (Am.fillC [nU32 2] .leaf 0) [nU32 0] 1 false),
  (2690, .cells (Am.fillC [nU8 0, nU32 1, .bool false, nI64 1, sl 2689 0 1 1 none] .leaf 0) [.tuple [nU64 145, .bool false]] 5 false),
  (3588, .cells (ups [(8, nU64 3)]) [nU64 0, nU64 0, nU64 0, nU64 0] 16 false),
  (3589, .cells (Am.fillC [nI64 512, nI64 1024, sl 3588 0 4 4 none] .leaf 0) [] 3 false),
  (3702, .map [⟨nU32 1, .agg [.str [120], nI64 512, nI64 1], 0⟩, ⟨nU32 2, .agg [.str [121], nI64 513, nI64 1], 1⟩, ⟨nU32 3, .agg [.str [122], nI64 514, nI64 1], 2⟩] 3),
  (3704, .cells (Am.fillC [.map (some 3702), pt 3703 0, nU32 4] .leaf 0) [] 3 false),
  (4182, .map [⟨.str [47, 97], .agg [nU32 1, nU32 0, nU32 0, nU32 0, nU32 0, nU32 0, nU32 0, nU32 0, sl 4225 0 1 1 (some 5)], 0⟩, ⟨.str [47, 98], .agg [nU32 2, nU32 0, nU32 0, nU32 0, nU32 0, nU32 0, nU32 0, nU32 0, sl 5666 0 1 1 (some 5)], 1⟩] 2),
  (4183, .map [⟨nU32 1, .agg [.str [47, 98], nU32 1, nU32 0, nU8 1, .bool false, nI64 1, sl 5687 0 1 1 none], 0⟩] 1),
  (4184, .map [⟨nU32 1, .agg [nU32 1, nI64 512, nI64 1, nI64 1], 0⟩, ⟨nU32 2, .agg [nU32 2, nI64 513, nI64 1, nI64 1], 1⟩, ⟨nU32 3, .agg [nU32 3, nI64 514, nI64 1, nI64 1], 2⟩] 3),
  (4185, .map [] 0),
  (4186, .cells (Am.fillC [nU8 0, nU32 0, nU32 2, nU32 4, nU8 0, nU32 0, nI64 1048576, .map (some 4182), .map (some 4183), .map (some 4184), .map (some 4185)] .leaf 0) [] 11 false),
  (4224, .cells (Am.fillC [nU32 1] .leaf 0) [nU32 0] 1 false),
  (4225, .cells (Am.fillC [nU8 0, nU32 1, .bool false, nI64 1, sl 4224 0 1 1 none] .leaf 0) [.tuple [nU64 145, .bool false]] 5 false),
  (5665, .cells (Am.fillC [nU32 3] .leaf 0) [nU32 0] 1 false),
  (5666, .cells (Am.fillC [nU8 0, nU32 2, .bool false, nI64 1, sl 5665 0 1 1 none] .leaf 0) [.tuple [nU64 145, .bool false]] 5 false),
  (5687, .cells (Am.fillC [nU32 2] .leaf 0) [nU32 0] 1 false),
  (6815, .cells (ups [(8, nU64 7)]) [nU64 0, nU64 0, nU64 0, nU64 0] 16 false),
  (6816, .cells (Am.fillC [nI64 512, nI64 1024, sl 6815 0 4 4 none] .leaf 0) [] 3 false)], 6934⟩

noncomputable def e2P : Am.Prims := Am.snapF 29 e2A e2H e2V e2G
noncomputable def e2Q : Am.Prims := prB
theorem e2R : Am.answers (Am.callNF Tryz.prog (Am.keepF Tryz.prog) e2Q 100000 300 (.fn 29) e2A e2H) e2V e2G = true := by kernel_rfl
theorem e2Ok : Am.PrimsOk Tryz.prog (Am.keepF Tryz.prog) e2P := Am.snapF_ok mixed namesQ prBOk (by kernel_rfl) e2R
end
end Go.Proofs.YtoifafjijgekeaaGreat.ArchiveKnownRun

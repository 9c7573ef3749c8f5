/-
  Parts of the run of ArchiveKnown, told before. No condition.
-/
import Derived.Test.YtoifafjijgekeaaGreatBase
namespace Go.Proofs.YtoifafjijgekeaaGreat.ArchiveKnownRun
open Go.Shelf
noncomputable section
def e0A : List Am.AV := [pt 15 0, .agg [nU8 0, nU8 0, .str [47, 97], .bool false, .str [120], nU32 0, nU32 0, nU32 0, nU32 0, nU32 0, nU32 0, nU32 0, nU32 0, .slice none 0 0 none]]
def e0H : Am.Heap := ⟨hp [(0, .map [] 0),
  (1, .map [] 0),
  (2, .map [] 0),
  (3, .map [] 0),
  (4, .cells (Am.fillC [nU8 0, nU32 0, nU32 1, nU32 1, nU8 0, nU32 0, nI64 1048576, .map (some 0), .map (some 1), .map (some 2), .map (some 3)] .leaf 0) [] 11 false),
  (5, .cells (ups []) (Am.app' (Am.rep' 128 [nU8 0]) [.bool false]) 132096 false),
  (6, .cells (Am.fillC [sl 5 0 1024 1024 none] .leaf 0) [] 1 false),
  (7, .cells (Am.fillC [pt 6 0, mI64 0, .slice none 0 0 none, nI64 0, .bool false] .leaf 0) [] 5 false),
  (8, .map [] 0),
  (10, .cells (Am.fillC [.map (some 8), pt 9 0, nU32 1] .leaf 0) [] 3 false),
  (11, .cells (ups []) [nU64 0, nU64 0, nU64 0, nU64 0] 16 false),
  (12, .cells (Am.fillC [nI64 512, nI64 1024, sl 11 0 4 4 none] .leaf 0) [] 3 false),
  (13, .cells (Am.fillC [pt 7 0, pt 10 0, pt 12 0] .leaf 0) [] 3 false),
  (15, .cells (Am.fillC [pt 4 0, pt 13 0, nU8 0, nU32 0, nU32 1, nU8 0, nU32 0, nI64 1048576, .slice none 0 0 none, .slice none 0 0 none, .slice none 0 0 none, nI64 512] .leaf 0) [] 12 false)], 16⟩
def e0V : Am.AV := .bool true
def e0G : Am.Heap := ⟨hp [(0, .map [] 0),
  (1, .map [] 0),
  (2, .map [] 0),
  (3, .map [] 0),
  (4, .cells (Am.fillC [nU8 0, nU32 0, nU32 1, nU32 1, nU8 0, nU32 0, nI64 1048576, .map (some 0), .map (some 1), .map (some 2), .map (some 3)] .leaf 0) [] 11 false),
  (5, .cells (sg [(66048, (Am.app' (Am.app' (bsL [120]) (Am.app' (Am.rep' 63 [nU8 0]) (Am.app' (bsL [120]) (Am.rep' 63 [nU8 0])))) [.bool false]))]) (Am.app' (Am.rep' 128 [nU8 0]) [.bool false]) 132096 false),
  (6, .cells (Am.fillC [sl 5 0 1024 1024 none] .leaf 0) [] 1 false),
  (7, .cells (Am.fillC [pt 6 0, mI64 0, .slice none 0 0 none, nI64 2, .bool false] .leaf 0) [] 5 false),
  (8, .map [] 0),
  (10, .cells (Am.fillC [.map (some 8), pt 9 0, nU32 1] .leaf 0) [] 3 false),
  (11, .cells (ups []) [nU64 0, nU64 0, nU64 0, nU64 0] 16 false),
  (12, .cells (Am.fillC [nI64 512, nI64 1024, sl 11 0 4 4 none] .leaf 0) [] 3 false),
  (13, .cells (Am.fillC [pt 7 0, pt 44 0, pt 1420 0] .leaf 0) [] 3 false),
  (15, .cells (Am.fillC [pt 159 0, pt 13 0, nU8 0, nU32 0, nU32 1, nU8 0, nU32 0, nI64 1048576, .slice none 0 0 none, .slice none 0 0 none, .slice none 0 0 none, nI64 512] .leaf 0) [] 12 false),
  (42, .map [⟨nU32 1, .agg [.str [120], nI64 512, nI64 1], 0⟩] 1),
  (44, .cells (Am.fillC [.map (some 42), pt 43 0, nU32 2] .leaf 0) [] 3 false),
  (155, .map [⟨.str [47, 97], .agg [nU32 1, nU32 0, nU32 0, nU32 0, nU32 0, nU32 0, nU32 0, nU32 0, sl 821 0 1 1 (some 5)], 0⟩] 1),
  (156, .map [] 0),
  (157, .map [⟨nU32 1, .agg [nU32 1, nI64 512, nI64 1, nI64 1], 0⟩] 1),
  (158, .map [] 0),
  (159, .cells (Am.fillC [nU8 0, nU32 0, nU32 1, nU32 2, nU8 0, nU32 0, nI64 1048576, .map (some 155), .map (some 156), .map (some 157), .map (some 158)] .leaf 0) [] 11 false),
  (820, .cells (Am.fillC [nU32 1] .leaf 0) [nU32 0] 1 false),
  (821, .cells (Am.fillC [nU8 0, nU32 1, .bool false, nI64 1, sl 820 0 1 1 none] .leaf 0) [.tuple [nU64 145, .bool false]] 5 false),
  (1419, .cells (ups [(8, nU64 1)]) [nU64 0, nU64 0, nU64 0, nU64 0] 16 false),
  (1420, .cells (Am.fillC [nI64 512, nI64 1024, sl 1419 0 4 4 none] .leaf 0) [] 3 false)], 1476⟩

noncomputable def e0P : Am.Prims := Am.snapF 29 e0A e0H e0V e0G
noncomputable def e0Q : Am.Prims := prB
theorem e0R : Am.answers (Am.callNF Tryz.prog (Am.keepF Tryz.prog) e0Q 100000 300 (.fn 29) e0A e0H) e0V e0G = true := by kernel_rfl
theorem e0Ok : Am.PrimsOk Tryz.prog (Am.keepF Tryz.prog) e0P := Am.snapF_ok mixed namesQ prBOk (by kernel_rfl) e0R
end
end Go.Proofs.YtoifafjijgekeaaGreat.ArchiveKnownRun

/-
  Parts of the run of ArchiveKnown, told before. No condition.
-/
import Derived.Test.YtoifafjijgekeaaGreatBase
import Derived.Test.YtoifafjijgekeaaGreatArchiveKnownPA
import Derived.Test.YtoifafjijgekeaaGreatArchiveKnownPB
import Derived.Test.YtoifafjijgekeaaGreatArchiveKnownPC
import Derived.Test.YtoifafjijgekeaaGreatArchiveKnownPD
namespace Go.Proofs.YtoifafjijgekeaaGreat.ArchiveKnownRun
open Go.Shelf
noncomputable section
def e4A : List Am.AV := []
def e4H : Am.Heap := ⟨hp [], 0⟩
def e4V : Am.AV := pt 15 0
def e4G : Am.Heap := ⟨hp [(13, .cells (Am.fillC [pt 7 0, pt 6962 0, pt 9991 0] .leaf 0) [] 3 false),
  (15, .cells (Am.fillC [pt 7595 0, pt 13 0, nU8 0, nU32 0, nU32 1, nU8 0, nU32 0, nI64 1048576, .slice none 0 0 none, .slice none 0 0 none, .slice none 0 0 none, nI64 512] .leaf 0) [] 12 false),
  (6960, .map [⟨nU32 1, .agg [.str [120], nI64 512, nI64 1], 0⟩, ⟨nU32 2, .agg [.str [121], nI64 513, nI64 1], 1⟩, ⟨nU32 3, .agg [.str [122], nI64 514, nI64 1], 2⟩] 3),
  (6962, .cells (Am.fillC [.map (some 6960), pt 6961 0, nU32 4] .leaf 0) [] 3 false),
  (7591, .map [⟨.str [47, 97], .agg [nU32 1, nU32 0, nU32 0, nU32 0, nU32 0, nU32 0, nU32 0, nU32 0, sl 7634 0 1 1 (some 5)], 0⟩, ⟨.str [47, 98], .agg [nU32 2, nU32 0, nU32 0, nU32 0, nU32 0, nU32 0, nU32 0, nU32 0, sl 7671 0 1 1 (some 5)], 1⟩] 2),
  (7592, .map [⟨nU32 1, .agg [.str [47, 98], nU32 1, nU32 0, nU8 1, .bool false, nI64 1, sl 7692 0 1 1 none], 0⟩] 1),
  (7593, .map [⟨nU32 1, .agg [nU32 1, nI64 512, nI64 1, nI64 1], 0⟩, ⟨nU32 2, .agg [nU32 2, nI64 513, nI64 1, nI64 1], 1⟩, ⟨nU32 3, .agg [nU32 3, nI64 514, nI64 1, nI64 1], 2⟩] 3),
  (7594, .map [⟨.agg [nU8 1, .str [47, 97]], .agg [nU32 1, nU32 0, nU32 0, nU32 0, nU32 0, nU32 0, nU32 0, nU32 0], 0⟩] 1),
  (7595, .cells (Am.fillC [nU8 0, nU32 0, nU32 2, nU32 4, nU8 0, nU32 0, nI64 1048576, .map (some 7591), .map (some 7592), .map (some 7593), .map (some 7594)] .leaf 0) [] 11 false),
  (7633, .cells (Am.fillC [nU32 1] .leaf 0) [nU32 0] 1 false),
  (7634, .cells (Am.fillC [nU8 0, nU32 1, .bool false, nI64 1, sl 7633 0 1 1 none] .leaf 0) [.tuple [nU64 145, .bool false]] 5 false),
  (7670, .cells (Am.fillC [nU32 3] .leaf 0) [nU32 0] 1 false),
  (7671, .cells (Am.fillC [nU8 0, nU32 2, .bool false, nI64 1, sl 7670 0 1 1 none] .leaf 0) [.tuple [nU64 145, .bool false]] 5 false),
  (7692, .cells (Am.fillC [nU32 2] .leaf 0) [nU32 0] 1 false)], 10109⟩

noncomputable def e4P : Am.Prims := Am.snapF 5 e4A e4H e4V e4G
noncomputable def e4Q : Am.Prims := (e0P.or (e1P.or (e2P.or (e3P.or prB))))
theorem e4R : Am.answers (Am.callNF Tryz.prog (Am.keepF Tryz.prog) e4Q 100000 300 (.fn 5) e4A e4H) e4V e4G = true := by kernel_rfl
theorem e4Ok : Am.PrimsOk Tryz.prog (Am.keepF Tryz.prog) e4P := Am.snapF_ok mixed namesQ (Am.Prims.or_ok e0Ok (Am.Prims.or_ok e1Ok (Am.Prims.or_ok e2Ok (Am.Prims.or_ok e3Ok prBOk)))) (by kernel_rfl) e4R
def e5A : List Am.AV := []
def e5V : Am.AV := .bool true

noncomputable def e5P : Am.Prims := Am.pureP 6 e5A e5V
noncomputable def e5Q : Am.Prims := (e4P.or prB)
theorem e5R : Am.says (Am.callNF Tryz.prog (Am.keepF Tryz.prog) e5Q 100000 300 (.fn 6) e5A ⟨.leaf, 0⟩) e5V = true := by kernel_rfl
theorem e5Ok : Am.PrimsOk Tryz.prog (Am.keepF Tryz.prog) e5P := Am.pureP_ok mixed namesQ (Am.Prims.or_ok e4Ok prBOk) (by kernel_rfl) e5R
end
end Go.Proofs.YtoifafjijgekeaaGreat.ArchiveKnownRun

/-
  YtlfednnfkejcjaaDedupKnown: the law DedupKnown answers true, in every world, and leaves all that was there. No condition.
-/
import Derived.Test.YtlfednnfkejcjaaRows
import Derived.ProofKit
import Derived.Test.YtlfednnfkejcjaaAm37
import Derived.Shelf.Strings.Repeat
namespace Go.Proofs.Ytlfednnfkejcjaa
open Go.ChangeShapes Go.WideShapes Go.ChangeAt Go.RowKit Go.Shelf

def layRepeat_ren : Go.Shelf.Ren := ⟨fun | 105 => 50 | 212 => 71 | 99 => 72 | 165 => 73 | 166 => 74 | 170 => 75 | 169 => 76 | 263 => 91 | 264 => 92 | 206 => 93 | 240 => 94 | 241 => 95 | 276 => 104 | 277 => 105 | n => n, fun | 9 => 9 | 3 => 3 | 4 => 4 | 20 => 20 | 0 => 0 | 46 => 119 | 109 => 120 | 5 => 5 | 72 => 126 | 76 => 130 | 51 => 27 | 146 => 151 | 53 => 153 | 148 => 154 | 70 => 123 | 37 => 124 | 75 => 129 | 127 => 156 | 164 => 163 | 80 => 132 | n => n, fun | n => n⟩
theorem layRepeat : Go.Proofs.Lays.n105 Try.prog layRepeat_ren := {
  mixed := by kernel_rfl,
  f99 := Try.func72.trans (congrArg some (by kernel_rfl)),
  f105 := Try.func50.trans (congrArg some (by kernel_rfl)),
  f165 := Try.func73.trans (congrArg some (by kernel_rfl)),
  f166 := Try.func74.trans (congrArg some (by kernel_rfl)),
  f169 := Try.func76.trans (congrArg some (by kernel_rfl)),
  f170 := Try.func75.trans (congrArg some (by kernel_rfl)),
  f206 := Try.func93.trans (congrArg some (by kernel_rfl)),
  f212 := Try.func71.trans (congrArg some (by kernel_rfl)),
  f240 := Try.func94.trans (congrArg some (by kernel_rfl)),
  f241 := Try.func95.trans (congrArg some (by kernel_rfl)),
  f263 := Try.func91.trans (congrArg some (by kernel_rfl)),
  f264 := Try.func92.trans (congrArg some (by kernel_rfl)),
  f276 := Try.func104.trans (congrArg some (by kernel_rfl)),
  f277 := Try.func105.trans (congrArg some (by kernel_rfl)),
  t0 := Try.underlying0,
  a0 := Try.isAgg0,
  z0 := Try.sizeOf0,
  v0 := Try.zeroValue0,
  t3 := Try.underlying3,
  a3 := Try.isAgg3,
  z3 := Try.sizeOf3,
  v3 := Try.zeroValue3,
  t4 := Try.underlying4,
  a4 := Try.isAgg4,
  z4 := Try.sizeOf4,
  v4 := Try.zeroValue4,
  t5 := Try.underlying5,
  a5 := Try.isAgg5,
  z5 := Try.sizeOf5,
  v5 := Try.zeroValue5,
  t9 := Try.underlying9,
  a9 := Try.isAgg9,
  z9 := Try.sizeOf9,
  v9 := Try.zeroValue9,
  t20 := Try.underlying20,
  a20 := Try.isAgg20,
  z20 := Try.sizeOf20,
  v20 := Try.zeroValue20,
  t37 := Try.underlying124,
  a37 := Try.isAgg124,
  z37 := Try.sizeOf124,
  v37 := Try.zeroValue124,
  t46 := Try.underlying119,
  a46 := Try.isAgg119,
  z46 := Try.sizeOf119,
  v46 := Try.zeroValue119,
  t51 := Try.underlying27,
  a51 := Try.isAgg27,
  z51 := Try.sizeOf27,
  v51 := Try.zeroValue27,
  t53 := Try.underlying153,
  a53 := Try.isAgg153,
  z53 := Try.sizeOf153,
  v53 := Try.zeroValue153,
  t70 := Try.underlying123,
  a70 := Try.isAgg123,
  z70 := Try.sizeOf123,
  v70 := Try.zeroValue123,
  t72 := Try.underlying126,
  a72 := Try.isAgg126,
  z72 := Try.sizeOf126,
  v72 := Try.zeroValue126,
  t75 := Try.underlying129,
  a75 := Try.isAgg129,
  z75 := Try.sizeOf129,
  v75 := Try.zeroValue129,
  t76 := Try.underlying130,
  a76 := Try.isAgg130,
  z76 := Try.sizeOf130,
  v76 := Try.zeroValue130,
  t109 := Try.underlying120,
  a109 := Try.isAgg120,
  z109 := Try.sizeOf120,
  v109 := Try.zeroValue120,
  t127 := Try.underlying156,
  a127 := Try.isAgg156,
  z127 := Try.sizeOf156,
  v127 := Try.zeroValue156,
  t146 := Try.underlying151,
  a146 := Try.isAgg151,
  z146 := Try.sizeOf151,
  v146 := Try.zeroValue151,
  t148 := Try.underlying154,
  a148 := Try.isAgg154,
  z148 := Try.sizeOf154,
  v148 := Try.zeroValue154,
  t164 := Try.underlying163,
  a164 := Try.isAgg163,
  z164 := Try.sizeOf163,
  v164 := Try.zeroValue163 }

theorem layExtra : Builder.Extra Try.prog layRepeat_ren where
  sizeBuilder := by kernel_rfl
  liesBuilder := by kernel_rfl
  t5 := layRepeat.t5
  a5 := layRepeat.a5
  z5 := layRepeat.z5
  v5 := layRepeat.v5
  infoByte := by kernel_rfl
  cellsByte := by kernel_rfl
  sizeByte := by kernel_rfl
  neB5 := by decide

theorem Try.own : ownKnob Try.prog.godebug = none := by kernel_rfl

theorem keptBut_all {w w' : World} (hos : w'.os = w.os) (hout : w'.output = w.output) (h : ∀ k, k < w.heap.size → w'.heap[k]? = w.heap[k]?) (may : MemPlace → Prop) : w.keptBut w' may := by
  refine ⟨hos, hout, fun i hi => ?_⟩
  rw [h i hi]
  exact (World.keptBut_refl w may).2.2 i hi

theorem repeatL_eq (l : List UInt8) : ∀ c, Lib.repeatL l c = (List.replicate c l).flatten
  | 0 => rfl
  | c + 1 => by rw [List.replicate_succ, List.flatten_cons, ← repeatL_eq l c]; rfl

noncomputable section
def isTrue (r : Option (Am.AV × Am.Heap)) : Bool := Option.rec (motive := fun _ => Bool) false (fun r => Option.rec (motive := fun _ => Bool) false (fun b => b) (Am.eBool (fun b => some b) r.1)) r
theorem isTrue_some {r : Option (Am.AV × Am.Heap)} (h : isTrue r = true) : ∃ hp, r = some (.bool true, hp) := by
  cases r with
  | none => cases h
  | some q =>
    obtain ⟨v, hp⟩ := q
    cases v with
    | bool b => cases b with
      | true => exact ⟨hp, rfl⟩
      | false => cases h
    | _ => cases h
theorem runD : isTrue (Am.callN Try.prog (Am.keepF Try.prog) (Am.repeatP 50) 100000 200 (.fn 10) [] ⟨.leaf, 0⟩) = true := by kernel_rfl
theorem namesQ : Am.NamesOk Try.prog := by unfold Am.NamesOk; kernel_rfl
theorem mixed : Try.prog.follows .mixedOrders = true := by kernel_rfl
theorem primsQ : Am.PrimsOk Try.prog (Am.keepF Try.prog) (Am.repeatP 50) :=
  Am.repeatP_ok (rl := Lib.repeatL) repeatL_eq ⟨_, _, Try.func50, rfl⟩ fun s c w h1 h2 => Any.strings_Repeat layRepeat layExtra s c w h1 h2
end

theorem dedupKnown_any (w : World) : Calls Try.prog 10 #[] w fun e w' => e = .returned (.bool true) ∧ w'.os = w.os ∧ w'.output = w.output ∧ ∀ k, k < w.heap.size → w'.heap[k]? = w.heap[k]? := by
  obtain ⟨hp, hr⟩ := isTrue_some runD
  exact Am.calls_of_run mixed namesQ primsQ hr w

set_option maxRecDepth 100000 in
theorem dedupKnown_lifted (os : Os) (started : os.Started) (H : Type) (enc : TypeId × Value → H) :
    ReturnsInHanded {} Try.checked os 10 .any (Rows.dedupKnownSpec.pre6 enc Try.prog Try.f10 Rows.dedupKnownRow.domain false) (Rows.dedupKnownSpec.post enc Try.prog Try.f10 false true false false) := by
  refine returnsInHanded_of_change (C := Try.checked) Try.own started (by kernel_rfl) Try.func10
    (ChangeSpec.witness6 (enc := enc) (C := Try.checked) false ⟨#[], #[], []⟩ 8 (by kernel_rfl) (by kernel_rfl) (by kernel_rfl) (by kernel_rfl)) ?_
  intro W base args ds gs before hval0 hW hcnd _
  have hW' := hW
  obtain ⟨p, q, hA0, hV, rfl, hfz, hnd⟩ := hW
  have hA : DataW.TrodAll enc Try.prog W 0 (fun _ => true) true Try.f10.params.toList args.toList ds p := hA0
  rw [Try.params10] at hA
  obtain ⟨hargs, rfl, rfl⟩ := trodAll_nil hA
  obtain rfl : args = #[] := Array.toList_inj.1 hargs
  obtain ⟨rfl, rfl⟩ := trodVars_none hV
  refine (dedupKnown_any W).mono fun e W' ⟨he, hos, hout, hheap⟩ => ?_
  subst he
  refine ⟨_, rfl, [], [], _, [], [], [], hW', ?_, ?_, rfl, keptBut_all hos hout hheap _, fun h => by cases h⟩
  · exact trodAll_mk1 (shut_bool (by kernel_rfl) true)
  · exact trodAll_mk0

theorem dedupKnown_holds : Rows.DedupKnownSaid :=
  OpenClaim.holds_of_wide 10 Try.f10 rfl rfl rfl rfl rfl rfl rfl ⟨rfl, rfl, rfl, rfl, rfl⟩ rfl rfl rfl rfl rfl (by kernel_rfl) Try.func10 (by kernel_rfl)
    (of_decide_eq_true (by kernel_rfl)) (by unfold Func.isWrapper; first | (rw [if_pos (by decide +kernel)]; kernel_rfl) | (rw [if_neg (by decide +kernel)]; exact ⟨rfl, rfl⟩))
    (fun os started H enc _ => dedupKnown_lifted os started H enc)
end Go.Proofs.Ytlfednnfkejcjaa

/-
  YtoifafjijgekeaaGreatChangeKnown: the law ChangeKnown answers true, in every world, and leaves all that was there. No condition.
-/
import Derived.Test.YtoifafjijgekeaaGreatBase
import Derived.Test.YtoifafjijgekeaaGreatChangeKnownPA
import Derived.Test.YtoifafjijgekeaaGreatChangeKnownPB
import Derived.Test.YtoifafjijgekeaaGreatChangeKnownPC
import Derived.Test.YtoifafjijgekeaaGreatChangeKnownPD
import Derived.Test.YtoifafjijgekeaaGreatChangeKnownF
namespace Go.Proofs.YtoifafjijgekeaaGreat
open Go.ChangeShapes Go.WideShapes Go.ChangeAt Go.RowKit Go.Shelf
open ChangeKnownRun
noncomputable section

def isTrue (r : Option (Am.AV × Am.Heap)) : Bool := Option.rec (motive := fun _ => Bool) false (fun r => Option.rec (motive := fun _ => Bool) false (fun b => b) (Am.eBool (fun b => some b) r.1)) r
theorem isTrue_some {r : Option (Am.AV × Am.Heap)} (h : isTrue r = true) : ∃ hp, r = some (.bool true, hp) := by
  cases r with
  | none => cases h
  | some q =>
    obtain ⟨v, hp⟩ := q
    cases v with
    | bool b => cases b with
      | true => exact ⟨hp, rfl⟩
      | false => cases h
    | _ => cases h
def prT : Am.Prims := (e2P.or (e0P.or (e3P.or (e11P.or (e5P.or (e6P.or (e7P.or (e8P.or (e4P.or (e9P.or (e10P.or prB)))))))))))
theorem runD : isTrue (Am.callNF Tryz.prog (Am.keepF Tryz.prog) prT 100000 300 (.fn 4) [] ⟨.leaf, 0⟩) = true := by kernel_rfl
theorem primsQ : Am.PrimsOk Tryz.prog (Am.keepF Tryz.prog) prT := (Am.Prims.or_ok e2Ok (Am.Prims.or_ok e0Ok (Am.Prims.or_ok e3Ok (Am.Prims.or_ok e11Ok (Am.Prims.or_ok e5Ok (Am.Prims.or_ok e6Ok (Am.Prims.or_ok e7Ok (Am.Prims.or_ok e8Ok (Am.Prims.or_ok e4Ok (Am.Prims.or_ok e9Ok (Am.Prims.or_ok e10Ok prBOk)))))))))))
end

theorem changeKnown_any (w : World) : Calls Tryz.prog 4 #[] w fun e w' => e = .returned (.bool true) ∧ w'.os = w.os ∧ w'.output = w.output ∧ ∀ k, k < w.heap.size → w'.heap[k]? = w.heap[k]? := by
  obtain ⟨hp, hr⟩ := isTrue_some runD
  rw [Am.callNF_eq] at hr
  exact Am.calls_of_run mixed namesQ primsQ hr w

set_option maxRecDepth 100000 in
theorem changeKnown_lifted (os : Os) (started : os.Started) (H : Type) (enc : TypeId × Value → H) :
    ReturnsInHanded {} Tryz.checked os 4 .any (Rows.changeKnownSpec.pre6 enc Tryz.prog Tryz.f4 Rows.changeKnownRow.domain false) (Rows.changeKnownSpec.post enc Tryz.prog Tryz.f4 false true false false) := by
  refine returnsInHanded_of_change (C := Tryz.checked) Tryz.own started (by kernel_rfl) Tryz.func4
    (ChangeSpec.witness6 (enc := enc) (C := Tryz.checked) false ⟨#[], #[], []⟩ 8 (by kernel_rfl) (by kernel_rfl) (by kernel_rfl) (by kernel_rfl)) ?_
  intro W base args ds gs before hval0 hW hcnd _
  have hW' := hW
  obtain ⟨p, q, hA0, hV, rfl, hfz, hnd⟩ := hW
  have hA : DataW.TrodAll enc Tryz.prog W 0 (fun _ => true) true Tryz.f4.params.toList args.toList ds p := hA0
  rw [Tryz.params4] at hA
  obtain ⟨hargs, rfl, rfl⟩ := trodAll_nil hA
  obtain rfl : args = #[] := Array.toList_inj.1 hargs
  obtain ⟨rfl, rfl⟩ := trodVars_none hV
  refine (changeKnown_any W).mono fun e W' ⟨he, hos, hout, hheap⟩ => ?_
  subst he
  refine ⟨_, rfl, [], [], _, [], [], [], hW', ?_, ?_, rfl, keptBut_all hos hout hheap _, fun h => by cases h⟩
  · exact trodAll_mk1 (shut_bool (by kernel_rfl) true)
  · exact trodAll_mk0

theorem changeKnown_holds : Rows.ChangeKnownSaid :=
  OpenClaim.holds_of_wide 4 Tryz.f4 rfl rfl rfl rfl rfl rfl rfl ⟨rfl, rfl, rfl, rfl, rfl⟩ rfl rfl rfl rfl rfl changeKnown_named Tryz.func4 changeKnown_facts changeKnown_inst changeKnown_wrap
    (fun os started H enc _ => changeKnown_lifted os started H enc)
end Go.Proofs.YtoifafjijgekeaaGreat

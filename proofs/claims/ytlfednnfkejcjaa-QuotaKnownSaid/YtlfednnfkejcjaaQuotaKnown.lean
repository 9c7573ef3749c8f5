import Derived.Test.YtlfednnfkejcjaaRows
import Derived.ProofKit
import Derived.Test.YtlfednnfkejcjaaAm36
namespace Go.Proofs.Ytlfednnfkejcjaa
open Go.ChangeShapes Go.WideShapes Go.ChangeAt Go.RowKit

theorem Try.own : ownKnob Try.prog.godebug = none := by kernel_rfl

theorem keptBut_all {w w' : World} (hos : w'.os = w.os) (hout : w'.output = w.output) (h : ∀ k, k < w.heap.size → w'.heap[k]? = w.heap[k]?) (may : MemPlace → Prop) : w.keptBut w' may := by
  refine ⟨hos, hout, fun i hi => ?_⟩
  rw [h i hi]
  have hr := (World.keptBut_refl w may).2.2 i hi
  exact hr

noncomputable section
def isTrue (r : Option (Am.AV × Am.Heap)) : Bool := Option.rec (motive := fun _ => Bool) false (fun r => Option.rec (motive := fun _ => Bool) false (fun b => b) (Am.eBool (fun b => some b) r.1)) r
theorem isTrue_some {r : Option (Am.AV × Am.Heap)} (h : isTrue r = true) : ∃ hp, r = some (.bool true, hp) := by
  cases r with
  | none => cases h
  | some q =>
    obtain ⟨v, hp⟩ := q
    cases v with
    | bool b => cases b with
      | true => exact ⟨hp, rfl⟩
      | false => cases h
    | _ => cases h
theorem runQ : isTrue (Am.callN Try.prog (Am.keepF Try.prog) Am.noPrims 100000 200 (.fn 7) [] ⟨.leaf, 0⟩) = true := by kernel_rfl
theorem namesQ : Am.NamesOk Try.prog := by unfold Am.NamesOk; kernel_rfl
theorem mixed : Try.prog.follows .mixedOrders = true := by kernel_rfl
end

theorem quotaKnown_any (w : World) : Calls Try.prog 7 #[] w fun e w' => e = .returned (.bool true) ∧ w'.os = w.os ∧ w'.output = w.output ∧ ∀ k, k < w.heap.size → w'.heap[k]? = w.heap[k]? := by
  obtain ⟨hp, hr⟩ := isTrue_some runQ
  exact Am.calls_of_run mixed namesQ Am.noPrims_ok hr w

set_option maxRecDepth 100000 in
theorem quotaKnown_lifted (os : Os) (started : os.Started) (H : Type) (enc : TypeId × Value → H) :
    ReturnsInHanded {} Try.checked os 7 .any (Rows.quotaKnownSpec.pre6 enc Try.prog Try.f7 Rows.quotaKnownRow.domain false) (Rows.quotaKnownSpec.post enc Try.prog Try.f7 false true false false) := by
  refine returnsInHanded_of_change (C := Try.checked) Try.own started (by kernel_rfl) Try.func7
    (ChangeSpec.witness6 (enc := enc) (C := Try.checked) false ⟨#[], #[], []⟩ 8 (by kernel_rfl) (by kernel_rfl) (by kernel_rfl) (by kernel_rfl)) ?_
  intro W base args ds gs before hval0 hW hcnd _
  have hW' := hW
  obtain ⟨p, q, hA0, hV, rfl, hfz, hnd⟩ := hW
  have hA : DataW.TrodAll enc Try.prog W 0 (fun _ => true) true Try.f7.params.toList args.toList ds p := hA0
  rw [Try.params7] at hA
  obtain ⟨hargs, rfl, rfl⟩ := trodAll_nil hA
  obtain rfl : args = #[] := Array.toList_inj.1 hargs
  obtain ⟨rfl, rfl⟩ := trodVars_none hV
  refine (quotaKnown_any W).mono fun e W' ⟨he, hos, hout, hheap⟩ => ?_
  subst he
  refine ⟨_, rfl, [], [], _, [], [], [], hW', ?_, ?_, rfl, keptBut_all hos hout hheap _, fun h => by cases h⟩
  · exact trodAll_mk1 (shut_bool (by kernel_rfl) true)
  · exact trodAll_mk0

theorem quotaKnown_holds : Rows.QuotaKnownSaid :=
  OpenClaim.holds_of_wide 7 Try.f7 rfl rfl rfl rfl rfl rfl rfl ⟨rfl, rfl, rfl, rfl, rfl⟩ rfl rfl rfl rfl rfl (by kernel_rfl) Try.func7 (by kernel_rfl)
    (of_decide_eq_true (by kernel_rfl)) (by unfold Func.isWrapper; first | (rw [if_pos (by decide +kernel)]; kernel_rfl) | (rw [if_neg (by decide +kernel)]; exact ⟨rfl, rfl⟩))
    (fun os started H enc _ => quotaKnown_lifted os started H enc)
end Go.Proofs.Ytlfednnfkejcjaa

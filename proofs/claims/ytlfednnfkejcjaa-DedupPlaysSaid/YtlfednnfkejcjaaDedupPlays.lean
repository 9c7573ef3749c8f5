/-
  Proved: the law DedupPlays returns true for every input, and what came in reads as it did. Conditions: none.
-/
import Derived.Test.YtlfednnfkejcjaaRows
import Derived.Test.YtlfednnfkejcjaaDpWalkB
import Derived.ProofKit
import Derived.ChangeBook
import Derived.ChangeSame
set_option linter.constructorNameAsVariable false
namespace Go.Proofs.Ytlfednnfkejcjaa
open Go.ChangeShapes Go.WideShapes Go.ChangeAt Go.RowKit Go.Am
theorem Try.own : ownKnob Try.prog.godebug = none := by kernel_rfl
theorem Try.laidOut : laidOutB Try.prog = true := by kernel_rfl
theorem prW_ok : PrimsOk Try.prog (keepF Try.prog) prW :=
  Prims.or_ok (pureP_ok (prims := noPrims) (lf := 100000) (n := 100) mixed namesQ noPrims_ok rfl (by kernel_rfl)) suOk
theorem carry {H : Type} {enc : TypeId × Value → H} {t : TypeId} (hr : Try.prog.readableRec t = true) (hrow : t < Try.prog.types.size) {W W' : World} (hh : ∀ k, k < W.heap.size → W'.heap[k]? = W.heap[k]?) {v : Value} {d : DataW H} {p : List MemPlace}
    (h : DataW.Trod enc Try.prog W 0 (fun _ => true) true t v d p) (hlt : ∀ x, x ∈ p → x.block < W.heap.size) {sp : Nat → Bool} (hs : ∀ x, x ∈ p → sp x.block = true) : DataW.Trod enc Try.prog W' 0 sp true t v d p := by
  obtain ⟨n, hn⟩ := h
  refine ⟨n, DataW.trod_stays (kids_book Try.laidOut hr) (book_sized hr) (fun h => by cases h) ⟨hrow, book_self t⟩ hn (fun x hx => ?_) hs⟩
  have h1 := hh x.block (hlt x hx)
  cases x with
  | cell b off => show W'.cell? ⟨b, off, none⟩ = W.cell? ⟨b, off, none⟩; unfold World.cell?; rw [show W'.heap[b]? = W.heap[b]? from h1]
  | map b => exact h1
theorem keptBut_all {w w' : World} (hos : w'.os = w.os) (hout : w'.output = w.output) (h : ∀ k, k < w.heap.size → w'.heap[k]? = w.heap[k]?) (may : MemPlace → Prop) : w.keptBut w' may := by
  refine ⟨hos, hout, fun i hi => ?_⟩
  rw [h i hi]
  have hr := (World.keptBut_refl w may).2.2 i hi
  exact hr
theorem Try.func9q : Try.prog.funcs[9]? = some Try.f9 := by kernel_rfl
theorem Try.params9q : Try.f9.params.toList = [60] := by kernel_rfl
theorem Try.params9a : Try.f9.params = #[60] := by kernel_rfl
set_option maxRecDepth 100000 in
theorem dedupPlays_lifted (os : Os) (started : os.Started) (H : Type) (enc : TypeId × Value → H) :
    ReturnsInHanded {} Try.checked os 9 .any (Rows.dedupPlaysSpec.pre6 enc Try.prog Try.f9 Rows.dedupPlaysRow.domain false) (Rows.dedupPlaysSpec.post enc Try.prog Try.f9 false true false false) := by
  refine returnsInHanded_of_change (C := Try.checked) Try.own started (by kernel_rfl) Try.func9q
    (ChangeSpec.witness6 (enc := enc) (C := Try.checked) false ⟨#[], #[.slice none 0 0], []⟩ 8 (by kernel_rfl) (by kernel_rfl) (by kernel_rfl) (by kernel_rfl)) ?_
  intro W base args ds gs before hval0 hW hcnd _
  have hW' := hW
  have hlt := hW.lt
  obtain ⟨p, q, hA0, hV, rfl, hfz, hnd⟩ := hW
  have hA : DataW.TrodAll enc Try.prog W 0 (fun _ => true) true Try.f9.params.toList args.toList ds p := hA0
  have hval : ∀ (j : Nat) t v, Try.f9.params[j]? = some t → args[j]? = some v → Value.okWide Try.prog W .any base t v := hval0
  rw [Try.params9q] at hA
  rw [Try.params9a] at hval
  obtain ⟨v0, d0, rfl, rfl, h0⟩ := trodAll_one hA
  obtain ⟨rfl, rfl⟩ := trodVars_none hV
  obtain ⟨it, lv, L, k1, k2, k3⟩ := Acs_in (hval 0 60 v0 rfl rfl) h0 0
  obtain ⟨hv, he⟩ := k1 [] [] rfl
  obtain ⟨r, h', e, rfl⟩ := plays_ok (n := 100) (by decide) he (fun i hi => by
    have := k3 i hi
    unfold Ac.Rng at this
    obtain ⟨_, _, i1, i2, b1, _, _, _, _, a1, a2, b2⟩ := this
    exact ⟨⟨i1, i2⟩, b1, b2, ⟨a1, a2⟩⟩)
  have hrun := calls_of_args (keep := keepF Try.prog) (avs := #[v0]) mixed namesQ prW_ok e (args_HR (w := W) (l := [it]) (fun x hx => by rw [List.mem_singleton.1 hx]; exact k2 _)) ⟨v0, _, rfl, hv, rfl⟩ (args_fixed _)
  refine hrun.mono fun e W' ⟨he', hos, hout, hsz, hheap⟩ => ?_
  subst he'
  refine ⟨_, rfl, [d0], [], _, [], p, [], hW', ?_, ?_, rfl, keptBut_all hos hout hheap _, fun h => by cases h⟩
  · exact trodAll_mk1 (shut_bool (by kernel_rfl) true)
  · rw [Try.params9q]
    have hl : ∀ x, x ∈ p → x.block < W.heap.size := fun x hx => hlt x (List.mem_append_left _ hx)
    exact trodAll_mk1 (carry (sp := fun b => decide (b < W.heap.size)) (by kernel_rfl) (of_decide_eq_true (by kernel_rfl)) hheap h0 hl (fun x hx => decide_eq_true (hl x hx)))
theorem dedupPlays_holds : Rows.DedupPlaysSaid :=
  OpenClaim.holds_of_wide 9 Try.f9 rfl rfl rfl rfl rfl rfl rfl ⟨rfl, rfl, rfl, rfl, rfl⟩ rfl rfl rfl rfl rfl (by kernel_rfl) Try.func9q (by kernel_rfl)
    (of_decide_eq_true (by kernel_rfl)) (by unfold Func.isWrapper; first | (rw [if_pos (by decide +kernel)]; kernel_rfl) | (rw [if_neg (by decide +kernel)]; exact ⟨rfl, rfl⟩))
    (fun os started H enc _ => dedupPlays_lifted os started H enc)
end Go.Proofs.Ytlfednnfkejcjaa

/-
  Proved: the law QuotaPrunes returns true for every input, and what came in reads as it did. Conditions: none.
-/
import Derived.Test.YtlfednnfkejcjaaRows
import Derived.ProofKit
import Derived.ChangeBook
import Derived.ChangeSame
import Derived.Test.YtlfednnfkejcjaaQzWalkB
import Derived.Test.YtlfednnfkejcjaaQzWalkB
set_option linter.constructorNameAsVariable false
namespace Go.Proofs.Ytlfednnfkejcjaa
open Go.ChangeShapes Go.WideShapes Go.ChangeAt Go.RowKit Go.Am

theorem Try.own : ownKnob Try.prog.godebug = none := by kernel_rfl
theorem Try.laidOut : laidOutB Try.prog = true := by kernel_rfl
theorem namesQ : Am.NamesOk Try.prog := by unfold Am.NamesOk; kernel_rfl
theorem mixed : Try.prog.follows .mixedOrders = true := by kernel_rfl
theorem prQ_ok : PrimsOk Try.prog (keepF Try.prog) prQ :=
  pureP_ok (prims := noPrims) (lf := 100000) (n := 100) mixed namesQ noPrims_ok rfl (by kernel_rfl)

theorem carry {H : Type} {enc : TypeId × Value → H} {t : TypeId} (hr : Try.prog.readableRec t = true) (hrow : t < Try.prog.types.size) {W W' : World} (hh : ∀ k, k < W.heap.size → W'.heap[k]? = W.heap[k]?) {v : Value} {d : DataW H} {p : List MemPlace}
    (h : DataW.Trod enc Try.prog W 0 (fun _ => true) true t v d p) (hlt : ∀ x, x ∈ p → x.block < W.heap.size) {sp : Nat → Bool} (hs : ∀ x, x ∈ p → sp x.block = true) : DataW.Trod enc Try.prog W' 0 sp true t v d p := by
  obtain ⟨n, hn⟩ := h
  refine ⟨n, DataW.trod_stays (kids_book Try.laidOut hr) (book_sized hr) (fun h => by cases h) ⟨hrow, book_self t⟩ hn (fun x hx => ?_) hs⟩
  have h1 := hh x.block (hlt x hx)
  cases x with
  | cell b off => show W'.cell? ⟨b, off, none⟩ = W.cell? ⟨b, off, none⟩; unfold World.cell?; rw [show W'.heap[b]? = W.heap[b]? from h1]
  | map b => exact h1
theorem keptBut_all {w w' : World} (hos : w'.os = w.os) (hout : w'.output = w.output) (h : ∀ k, k < w.heap.size → w'.heap[k]? = w.heap[k]?) (may : MemPlace → Prop) : w.keptBut w' may := by
  refine ⟨hos, hout, fun i hi => ?_⟩
  rw [h i hi]
  have hr := (World.keptBut_refl w may).2.2 i hi
  exact hr

theorem Try.func4q : Try.prog.funcs[4]? = some Try.f4 := by kernel_rfl
theorem Try.params4q : Try.f4.params.toList = [41, 3] := by kernel_rfl
theorem Try.params4a : Try.f4.params = #[41, 3] := by kernel_rfl
theorem int_in {W : World} {r : Reach} {b0 : Nat} {t : TypeId} {k : IntKind} {v : Value} (ht : Try.prog.underlying t = some (.int k)) (hok : Value.okWide Try.prog W r b0 t v) : ∃ n, v = .int k n ∧ k.min ≤ n ∧ n ≤ k.max := by
  simp only [Value.okWide, ht, Cell.okWide] at hok
  cases v <;> simp_all [Cell.ok, IntKind.has]

set_option maxRecDepth 100000 in
theorem quotaPrunes_lifted (os : Os) (started : os.Started) (H : Type) (enc : TypeId × Value → H) :
    ReturnsInHanded {} Try.checked os 4 .any (Rows.quotaPrunesSpec.pre6 enc Try.prog Try.f4 Rows.quotaPrunesRow.domain false) (Rows.quotaPrunesSpec.post enc Try.prog Try.f4 false true false false) := by
  refine returnsInHanded_of_change (C := Try.checked) Try.own started (by kernel_rfl) Try.func4q
    (ChangeSpec.witness6 (enc := enc) (C := Try.checked) false ⟨#[], #[.slice none 0 0, .int .i64 0], []⟩ 8 (by kernel_rfl) (by kernel_rfl) (by kernel_rfl) (by kernel_rfl)) ?_
  intro W base args ds gs before hval0 hW hcnd _
  have hW' := hW
  have hlt := hW.lt
  obtain ⟨p, q, hA0, hV, rfl, hfz, hnd⟩ := hW
  have hA : DataW.TrodAll enc Try.prog W 0 (fun _ => true) true Try.f4.params.toList args.toList ds p := hA0
  have hval : ∀ (j : Nat) t v, Try.f4.params[j]? = some t → args[j]? = some v → Value.okWide Try.prog W .any base t v := hval0
  rw [Try.params4q] at hA
  rw [Try.params4a] at hval
  obtain ⟨v0, v1, d0, d1, p0, p1, rfl, rfl, rfl, h0, h1⟩ := trodAll_two hA
  obtain ⟨rfl, rfl⟩ := trodVars_none hV
  obtain ⟨it, lv, L, k1, k2, k3⟩ := items_in (hval 0 41 v0 rfl rfl) h0 0
  obtain ⟨hv, he⟩ := k1 [] [] rfl
  obtain ⟨n1, rfl, a1, a2⟩ := int_in un3 (hval 1 3 v1 rfl rfl)
  obtain ⟨r, h', e, rfl⟩ := prunes_ok (n := 100) (by decide) he (q := n1)
  have hrun := calls_of_args (keep := keepF Try.prog) (avs := #[v0, .int .i64 n1]) mixed namesQ prQ_ok e (args_HR (w := W) (l := [it]) (fun x hx => by rw [List.mem_singleton.1 hx]; exact k2 _)) ⟨v0, _, rfl, hv, _, _, rfl, rfl, rfl⟩ (args_fixed _)
  refine hrun.mono fun e W' ⟨he', hos, hout, hsz, hheap⟩ => ?_
  subst he'
  refine ⟨_, rfl, [d0, d1], [], _, [], p0 ++ p1, [], hW', ?_, ?_, rfl, keptBut_all hos hout hheap _, fun h => by cases h⟩
  · exact trodAll_mk1 (shut_bool (by kernel_rfl) true)
  · rw [Try.params4q]
    have hl : ∀ x, x ∈ p0 ++ p1 → x.block < W.heap.size := fun x hx => hlt x (List.mem_append_left _ hx)
    have c0 := carry (sp := fun b => decide (b < W.heap.size)) (by kernel_rfl) (of_decide_eq_true (by kernel_rfl)) hheap h0 (fun x hx => hl x (by simp [hx])) (fun x hx => decide_eq_true (hl x (by simp [hx])))
    have c1 := carry (sp := fun b => decide (b < W.heap.size)) (by kernel_rfl) (of_decide_eq_true (by kernel_rfl)) hheap h1 (fun x hx => hl x (by simp [hx])) (fun x hx => decide_eq_true (hl x (by simp [hx])))
    exact trodAll_mk2 c0 c1

theorem quotaPrunes_holds : Rows.QuotaPrunesSaid :=
  OpenClaim.holds_of_wide 4 Try.f4 rfl rfl rfl rfl rfl rfl rfl ⟨rfl, rfl, rfl, rfl, rfl⟩ rfl rfl rfl rfl rfl (by kernel_rfl) Try.func4q (by kernel_rfl)
    (of_decide_eq_true (by kernel_rfl)) (by unfold Func.isWrapper; first | (rw [if_pos (by decide +kernel)]; kernel_rfl) | (rw [if_neg (by decide +kernel)]; exact ⟨rfl, rfl⟩))
    (fun os started H enc _ => quotaPrunes_lifted os started H enc)
end Go.Proofs.Ytlfednnfkejcjaa

/-
  Proved: the law DedupLoads returns true for every input, and what came in reads as it did. Conditions: none.
-/
import Derived.Test.YtlfednnfkejcjaaRows
import Derived.Test.YtlfednnfkejcjaaDlWalkB
import Derived.ProofKit
import Derived.ChangeBook
import Derived.ChangeSame
set_option linter.constructorNameAsVariable false
namespace Go.Proofs.Ytlfednnfkejcjaa
open Go.ChangeShapes Go.WideShapes Go.ChangeAt Go.RowKit Go.Am
theorem Try.own : ownKnob Try.prog.godebug = none := by kernel_rfl
theorem Try.laidOut : laidOutB Try.prog = true := by kernel_rfl
theorem prW_ok : PrimsOk Try.prog (keepF Try.prog) prW :=
  Prims.or_ok (pureP_ok (prims := noPrims) (lf := 100000) (n := 100) mixed namesQ noPrims_ok rfl (by kernel_rfl)) suOk
theorem carry {H : Type} {enc : TypeId × Value → H} {t : TypeId} (hr : Try.prog.readableRec t = true) (hrow : t < Try.prog.types.size) {W W' : World} (hh : ∀ k, k < W.heap.size → W'.heap[k]? = W.heap[k]?) {v : Value} {d : DataW H} {p : List MemPlace}
    (h : DataW.Trod enc Try.prog W 0 (fun _ => true) true t v d p) (hlt : ∀ x, x ∈ p → x.block < W.heap.size) {sp : Nat → Bool} (hs : ∀ x, x ∈ p → sp x.block = true) : DataW.Trod enc Try.prog W' 0 sp true t v d p := by
  obtain ⟨n, hn⟩ := h
  refine ⟨n, DataW.trod_stays (kids_book Try.laidOut hr) (book_sized hr) (fun h => by cases h) ⟨hrow, book_self t⟩ hn (fun x hx => ?_) hs⟩
  have h1 := hh x.block (hlt x hx)
  cases x with
  | cell b off => show W'.cell? ⟨b, off, none⟩ = W.cell? ⟨b, off, none⟩; unfold World.cell?; rw [show W'.heap[b]? = W.heap[b]? from h1]
  | map b => exact h1
theorem keptBut_all {w w' : World} (hos : w'.os = w.os) (hout : w'.output = w.output) (h : ∀ k, k < w.heap.size → w'.heap[k]? = w.heap[k]?) (may : MemPlace → Prop) : w.keptBut w' may := by
  refine ⟨hos, hout, fun i hi => ?_⟩
  rw [h i hi]
  have hr := (World.keptBut_refl w may).2.2 i hi
  exact hr
theorem Try.func8q : Try.prog.funcs[8]? = some Try.f8 := by kernel_rfl
theorem Try.params8q : Try.f8.params.toList = [60, 60, 5] := by kernel_rfl
theorem Try.params8a : Try.f8.params = #[60, 60, 5] := by kernel_rfl
theorem int_in {W : World} {r : Reach} {b0 : Nat} {t : TypeId} {k : IntKind} {v : Value} (ht : Try.prog.underlying t = some (.int k)) (hok : Value.okWide Try.prog W r b0 t v) : ∃ n, v = .int k n ∧ k.min ≤ n ∧ n ≤ k.max := by
  simp only [Value.okWide, ht, Cell.okWide] at hok
  cases v <;> simp_all [Cell.ok, IntKind.has]
set_option maxRecDepth 100000 in
theorem dedupLoads_lifted (os : Os) (started : os.Started) (H : Type) (enc : TypeId × Value → H) :
    ReturnsInHanded {} Try.checked os 8 .any (Rows.dedupLoadsSpec.pre6 enc Try.prog Try.f8 Rows.dedupLoadsRow.domain false) (Rows.dedupLoadsSpec.post enc Try.prog Try.f8 false true false false) := by
  refine returnsInHanded_of_change (C := Try.checked) Try.own started (by kernel_rfl) Try.func8q
    (ChangeSpec.witness6 (enc := enc) (C := Try.checked) false ⟨#[], #[.slice none 0 0, .slice none 0 0, .int .u8 0], []⟩ 8 (by kernel_rfl) (by kernel_rfl) (by kernel_rfl) (by kernel_rfl)) ?_
  intro W base args ds gs before hval0 hW hcnd _
  have hW' := hW
  have hlt := hW.lt
  obtain ⟨p, q, hA0, hV, rfl, hfz, hnd⟩ := hW
  have hA : DataW.TrodAll enc Try.prog W 0 (fun _ => true) true Try.f8.params.toList args.toList ds p := hA0
  have hval : ∀ (j : Nat) t v, Try.f8.params[j]? = some t → args[j]? = some v → Value.okWide Try.prog W .any base t v := hval0
  rw [Try.params8q] at hA
  rw [Try.params8a] at hval
  obtain ⟨v0, v1, v2, d0, d1, d2, p0, p1, p2, rfl, rfl, rfl, h0, h1, h2⟩ := trodAll_three hA
  obtain ⟨rfl, rfl⟩ := trodVars_none hV
  obtain ⟨it0, lv0, L0, k10, k20, k30⟩ := Acs_in (hval 0 60 v0 rfl rfl) h0 0
  obtain ⟨it1, lv1, L1, k11, k21, k31⟩ := Acs_in (hval 1 60 v1 rfl rfl) h1 1
  obtain ⟨n1, rfl, a1, a2⟩ := int_in (k := .u8) un65_5 (hval 2 5 v2 rfl rfl)
  obtain ⟨hv0, he0⟩ := k10 [] [it1] rfl
  obtain ⟨hv1, he1⟩ := k11 [it0] [] rfl
  have a1 : 0 ≤ n1 := a1
  have a2 : n1 ≤ 255 := a2
  obtain ⟨f, rfl⟩ : ∃ f : Nat, n1 = (f : Int) := ⟨n1.toNat, by omega⟩
  have okr : ∀ (L : List Ac), (∀ i, i < L.length → (Ai L i).Rng) → ∀ i, i < L.length → AcR (Ai L i) := fun L k i hi => by
    have := k i hi
    unfold Ac.Rng at this
    obtain ⟨_, _, i1, i2, b1, _, _, _, _, a1, a2, b2⟩ := this
    exact ⟨⟨i1, i2⟩, b1, b2, ⟨a1, a2⟩⟩
  obtain ⟨r, h', e, rfl⟩ := loads_ok (n := 100) (by decide) he0 he1 (okr L0 k30) (okr L1 k31) f (by omega)
  have hrun := calls_of_args (keep := keepF Try.prog) (avs := #[v0, v1, .int .u8 (f : Int)]) mixed namesQ prW_ok e (args_HR (w := W) (l := [it0, it1]) (fun x hx => by
    rcases List.mem_cons.1 hx with rfl | hx
    · exact k20 _
    · rw [List.mem_singleton.1 hx]; exact k21 _)) ⟨v0, _, rfl, hv0, v1, _, rfl, hv1, _, _, rfl, rfl, rfl⟩ (args_fixed _)
  refine hrun.mono fun e W' ⟨he', hos, hout, hsz, hheap⟩ => ?_
  subst he'
  refine ⟨_, rfl, [d0, d1, d2], [], _, [], p0 ++ p1 ++ p2, [], hW', ?_, ?_, rfl, keptBut_all hos hout hheap _, fun h => by cases h⟩
  · exact trodAll_mk1 (shut_bool (by kernel_rfl) true)
  · rw [Try.params8q]
    have hl : ∀ x, x ∈ p0 ++ p1 ++ p2 → x.block < W.heap.size := fun x hx => hlt x (List.mem_append_left _ hx)
    have c0 := carry (sp := fun b => decide (b < W.heap.size)) (by kernel_rfl) (of_decide_eq_true (by kernel_rfl)) hheap h0 (fun x hx => hl x (by simp [hx])) (fun x hx => decide_eq_true (hl x (by simp [hx])))
    have c1 := carry (sp := fun b => decide (b < W.heap.size)) (by kernel_rfl) (of_decide_eq_true (by kernel_rfl)) hheap h1 (fun x hx => hl x (by simp [hx])) (fun x hx => decide_eq_true (hl x (by simp [hx])))
    have c2 := carry (sp := fun b => decide (b < W.heap.size)) (by kernel_rfl) (of_decide_eq_true (by kernel_rfl)) hheap h2 (fun x hx => hl x (by simp [hx])) (fun x hx => decide_eq_true (hl x (by simp [hx])))
    rw [List.append_assoc]
    exact trodAll_mk3 c0 c1 c2
theorem dedupLoads_holds : Rows.DedupLoadsSaid :=
  OpenClaim.holds_of_wide 8 Try.f8 rfl rfl rfl rfl rfl rfl rfl ⟨rfl, rfl, rfl, rfl, rfl⟩ rfl rfl rfl rfl rfl (by kernel_rfl) Try.func8q (by kernel_rfl)
    (of_decide_eq_true (by kernel_rfl)) (by unfold Func.isWrapper; first | (rw [if_pos (by decide +kernel)]; kernel_rfl) | (rw [if_neg (by decide +kernel)]; exact ⟨rfl, rfl⟩))
    (fun os started H enc _ => dedupLoads_lifted os started H enc)
end Go.Proofs.Ytlfednnfkejcjaa

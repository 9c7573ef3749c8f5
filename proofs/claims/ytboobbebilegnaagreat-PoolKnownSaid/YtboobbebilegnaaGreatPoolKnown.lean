/-
  YtboobbebilegnaaGreatPoolKnown: the law PoolKnown answers true, in every world, and leaves all that was there. No condition.
-/
import Derived.Test.YtboobbebilegnaaGreatRows
import Derived.ProofKit
import Derived.Test.YtboobbebilegnaaGreatAm43
import Derived.Shelf.Strings.Repeat
namespace Go.Proofs.YtboobbebilegnaaGreat
open Go.ChangeShapes Go.WideShapes Go.ChangeAt Go.RowKit Go.Shelf

theorem namesQ : Am.NamesOk Tryz.prog := by unfold Am.NamesOk; kernel_rfl
theorem mixed : Tryz.prog.follows .mixedOrders = true := by kernel_rfl
theorem Tryz.own : ownKnob Tryz.prog.godebug = none := by kernel_rfl

theorem keptBut_all {w w' : World} (hos : w'.os = w.os) (hout : w'.output = w.output) (h : ∀ k, k < w.heap.size → w'.heap[k]? = w.heap[k]?) (may : MemPlace → Prop) : w.keptBut w' may := by
  refine ⟨hos, hout, fun i hi => ?_⟩
  rw [h i hi]
  exact (World.keptBut_refl w may).2.2 i hi

def layRepeat_ren : Go.Shelf.Ren := ⟨fun | 105 => 34 | 212 => 87 | 99 => 88 | 165 => 89 | 166 => 79 | 170 => 80 | 169 => 81 | 263 => 137 | 264 => 138 | 206 => 139 | 240 => 134 | 241 => 140 | 276 => 159 | 277 => 162 | n => n, fun | 9 => 9 | 3 => 3 | 4 => 4 | 20 => 20 | 0 => 0 | 46 => 154 | 109 => 155 | 5 => 5 | 72 => 146 | 76 => 149 | 51 => 48 | 146 => 220 | 53 => 185 | 148 => 222 | 70 => 144 | 37 => 42 | 75 => 148 | 127 => 219 | 164 => 239 | 80 => 151 | n => n, fun | n => n⟩
theorem layRepeat : Go.Proofs.Lays.n105 Tryz.prog layRepeat_ren := {
  mixed := by kernel_rfl,
  f99 := Tryz.func88.trans (congrArg some (by kernel_rfl)),
  f105 := Tryz.func34.trans (congrArg some (by kernel_rfl)),
  f165 := Tryz.func89.trans (congrArg some (by kernel_rfl)),
  f166 := Tryz.func79.trans (congrArg some (by kernel_rfl)),
  f169 := Tryz.func81.trans (congrArg some (by kernel_rfl)),
  f170 := Tryz.func80.trans (congrArg some (by kernel_rfl)),
  f206 := Tryz.func139.trans (congrArg some (by kernel_rfl)),
  f212 := Tryz.func87.trans (congrArg some (by kernel_rfl)),
  f240 := Tryz.func134.trans (congrArg some (by kernel_rfl)),
  f241 := Tryz.func140.trans (congrArg some (by kernel_rfl)),
  f263 := Tryz.func137.trans (congrArg some (by kernel_rfl)),
  f264 := Tryz.func138.trans (congrArg some (by kernel_rfl)),
  f276 := Tryz.func159.trans (congrArg some (by kernel_rfl)),
  f277 := Tryz.func162.trans (congrArg some (by kernel_rfl)),
  t0 := Tryz.underlying0,
  a0 := Tryz.isAgg0,
  z0 := Tryz.sizeOf0,
  v0 := Tryz.zeroValue0,
  t3 := Tryz.underlying3,
  a3 := Tryz.isAgg3,
  z3 := Tryz.sizeOf3,
  v3 := Tryz.zeroValue3,
  t4 := Tryz.underlying4,
  a4 := Tryz.isAgg4,
  z4 := Tryz.sizeOf4,
  v4 := Tryz.zeroValue4,
  t5 := Tryz.underlying5,
  a5 := Tryz.isAgg5,
  z5 := Tryz.sizeOf5,
  v5 := Tryz.zeroValue5,
  t9 := Tryz.underlying9,
  a9 := Tryz.isAgg9,
  z9 := Tryz.sizeOf9,
  v9 := Tryz.zeroValue9,
  t20 := Tryz.underlying20,
  a20 := Tryz.isAgg20,
  z20 := Tryz.sizeOf20,
  v20 := Tryz.zeroValue20,
  t37 := Tryz.underlying42,
  a37 := Tryz.isAgg42,
  z37 := Tryz.sizeOf42,
  v37 := Tryz.zeroValue42,
  t46 := Tryz.underlying154,
  a46 := Tryz.isAgg154,
  z46 := Tryz.sizeOf154,
  v46 := Tryz.zeroValue154,
  t51 := Tryz.underlying48,
  a51 := Tryz.isAgg48,
  z51 := Tryz.sizeOf48,
  v51 := Tryz.zeroValue48,
  t53 := Tryz.underlying185,
  a53 := Tryz.isAgg185,
  z53 := Tryz.sizeOf185,
  v53 := Tryz.zeroValue185,
  t70 := Tryz.underlying144,
  a70 := Tryz.isAgg144,
  z70 := Tryz.sizeOf144,
  v70 := Tryz.zeroValue144,
  t72 := Tryz.underlying146,
  a72 := Tryz.isAgg146,
  z72 := Tryz.sizeOf146,
  v72 := Tryz.zeroValue146,
  t75 := Tryz.underlying148,
  a75 := Tryz.isAgg148,
  z75 := Tryz.sizeOf148,
  v75 := Tryz.zeroValue148,
  t76 := Tryz.underlying149,
  a76 := Tryz.isAgg149,
  z76 := Tryz.sizeOf149,
  v76 := Tryz.zeroValue149,
  t109 := Tryz.underlying155,
  a109 := Tryz.isAgg155,
  z109 := Tryz.sizeOf155,
  v109 := Tryz.zeroValue155,
  t127 := Tryz.underlying219,
  a127 := Tryz.isAgg219,
  z127 := Tryz.sizeOf219,
  v127 := Tryz.zeroValue219,
  t146 := Tryz.underlying220,
  a146 := Tryz.isAgg220,
  z146 := Tryz.sizeOf220,
  v146 := Tryz.zeroValue220,
  t148 := Tryz.underlying222,
  a148 := Tryz.isAgg222,
  z148 := Tryz.sizeOf222,
  v148 := Tryz.zeroValue222,
  t164 := Tryz.underlying239,
  a164 := Tryz.isAgg239,
  z164 := Tryz.sizeOf239,
  v164 := Tryz.zeroValue239 }

theorem layExtra : Builder.Extra Tryz.prog layRepeat_ren where
  sizeBuilder := by kernel_rfl
  liesBuilder := by kernel_rfl
  t5 := layRepeat.t5
  a5 := layRepeat.a5
  z5 := layRepeat.z5
  v5 := layRepeat.v5
  infoByte := by kernel_rfl
  cellsByte := by kernel_rfl
  sizeByte := by kernel_rfl
  neB5 := by decide

theorem repeatL_eq (l : List UInt8) : ∀ c, Lib.repeatL l c = (List.replicate c l).flatten
  | 0 => rfl
  | c + 1 => by rw [List.replicate_succ, List.flatten_cons, ← repeatL_eq l c]; rfl

noncomputable section

def ltU (x y : Am.AV) : Option Bool := match x, y with | .int _ a, .int _ b => some (Am.ltI a b) | _, _ => none
def ltS (x y : Am.AV) : Option Bool := match x, y with | .str a, .str b => some (Am.strLt a b) | _, _ => none

/-! ### slices.Sorted at u32 -/
noncomputable def suApp : Am.AppCode Tryz.prog (Am.keepF Tryz.prog) 93 51 0 (Am.buildSliceN Tryz.prog 51 1 [0]) :=
  ⟨Tryz.f93, _, _, _, _, _, _, _, _, Tryz.func93, rfl, rfl, by kernel_rfl, by decide, by kernel_rfl, by kernel_rfl, by kernel_rfl, rfl, by kernel_rfl, by kernel_rfl, by kernel_rfl, by kernel_rfl, by kernel_rfl⟩
theorem suCol : ∃ fn c, Tryz.prog.funcs[(94 : Nat)]? = some fn ∧ fn.body = some c ∧ Am.CollectCode 93 c ∧ fn.results = #[.tmp 2] ∧ 5 ≤ fn.ntmps :=
  ⟨Tryz.f94, _, Tryz.func94, rfl, ⟨_, _, _, _, _, _, _, rfl, ⟨rfl, rfl, rfl⟩, ⟨rfl, rfl, rfl⟩, ⟨rfl, rfl, rfl⟩, ⟨rfl, rfl, rfl⟩⟩, rfl, by decide⟩
theorem suSor : ∃ fn c, Tryz.prog.funcs[(113 : Nat)]? = some fn ∧ fn.body = some c ∧ Am.SortedCode 94 95 c ∧ fn.results = #[.tmp 2] ∧ 9 ≤ fn.ntmps :=
  ⟨Tryz.f113, _, Tryz.func113, rfl, ⟨_, _, _, _, _, _, _, _, _, _, _, _, _, _, rfl, ⟨rfl, rfl, rfl⟩, ⟨rfl, rfl, rfl⟩, ⟨rfl, rfl, rfl⟩, ⟨rfl, rfl, rfl⟩, ⟨rfl, rfl, rfl⟩, ⟨rfl, rfl, rfl⟩, ⟨rfl, rfl, rfl⟩, ⟨rfl, rfl, rfl⟩⟩, rfl, by decide⟩
theorem keysFn152 : Am.KeysFn Tryz.prog 152 :=
  ⟨Tryz.f152, _, 173, _, _, Tryz.func152, rfl, ⟨_, _, _, _, _, _, _, _, _, _, _, _, _, _, _, _, _, _, _, rfl, ⟨rfl, rfl, rfl⟩, ⟨rfl, rfl, rfl⟩, ⟨rfl, rfl, rfl⟩, ⟨rfl, rfl, rfl⟩, ⟨rfl, rfl, rfl⟩, ⟨rfl, rfl, rfl⟩, ⟨rfl, rfl, rfl⟩, ⟨rfl, rfl, rfl⟩, ⟨rfl, rfl, rfl⟩, ⟨rfl, rfl, rfl⟩, ⟨rfl, rfl, rfl⟩⟩, rfl, by decide, Tryz.underlying173, by kernel_rfl⟩
def suFine : Am.AV → Bool := fun k => match k with | .int .u32 _ => true | _ => false
theorem suFineOk (k : Am.AV) (hk : suFine k = true) : Am.buildSliceN Tryz.prog 51 1 [0] [k] = some (Am.rowBlk k.cells, Am.sliceTo 1) ∧ k.cells.length = 0 + 1 ∧ ∀ c ∈ k.cells, Am.plainCell c = true := by
  cases k with
  | int kk n =>
    cases kk with
    | u32 => exact ⟨by kernel_rfl, rfl, fun c hc => by obtain rfl := List.mem_singleton.1 hc; rfl⟩
    | _ => cases hk
  | _ => cases hk
noncomputable def suPrim : Am.Prims := Am.sortedP (Am.callN Tryz.prog (Am.keepF Tryz.prog) Am.noPrims 1000 (40 + 1)) 113 95 [152] 1 4 ltU suFine
theorem suGs : ∀ g ∈ ([152] : List Nat), Am.KeysFn Tryz.prog g := by
  intro g hg
  simp only [List.mem_cons, List.not_mem_nil, or_false] at hg
  rcases hg with rfl
  exact keysFn152
theorem suOk : Am.PrimsOk Tryz.prog (Am.keepF Tryz.prog) suPrim :=
  Am.sortedP_ok mixed namesQ suApp Tryz.underlying51 (by kernel_rfl) (by kernel_rfl) (by kernel_rfl) suCol ⟨_, _, Tryz.func95, rfl⟩ suSor suGs suFineOk

def isTrue (r : Option (Am.AV × Am.Heap)) : Bool := Option.rec (motive := fun _ => Bool) false (fun r => Option.rec (motive := fun _ => Bool) false (fun b => b) (Am.eBool (fun b => some b) r.1)) r
theorem isTrue_some {r : Option (Am.AV × Am.Heap)} (h : isTrue r = true) : ∃ hp, r = some (.bool true, hp) := by
  cases r with
  | none => cases h
  | some q =>
    obtain ⟨v, hp⟩ := q
    cases v with
    | bool b => cases b with
      | true => exact ⟨hp, rfl⟩
      | false => cases h
    | _ => cases h
def prT : Am.Prims := suPrim.or (Am.repeatP 34)
theorem runD : isTrue (Am.callN Tryz.prog (Am.keepF Tryz.prog) prT 100000 300 (.fn 5) [] ⟨.leaf, 0⟩) = true := by kernel_rfl
theorem primsQ : Am.PrimsOk Tryz.prog (Am.keepF Tryz.prog) prT := Am.Prims.or_ok suOk (Am.repeatP_ok (rl := Lib.repeatL) repeatL_eq ⟨_, _, Tryz.func34, rfl⟩ fun s c w h1 h2 => Any.strings_Repeat layRepeat layExtra s c w h1 h2)
end

theorem poolKnown_any (w : World) : Calls Tryz.prog 5 #[] w fun e w' => e = .returned (.bool true) ∧ w'.os = w.os ∧ w'.output = w.output ∧ ∀ k, k < w.heap.size → w'.heap[k]? = w.heap[k]? := by
  obtain ⟨hp, hr⟩ := isTrue_some runD
  exact Am.calls_of_run mixed namesQ primsQ hr w

set_option maxRecDepth 100000 in
theorem poolKnown_lifted (os : Os) (started : os.Started) (H : Type) (enc : TypeId × Value → H) :
    ReturnsInHanded {} Tryz.checked os 5 .any (Rows.poolKnownSpec.pre6 enc Tryz.prog Tryz.f5 Rows.poolKnownRow.domain false) (Rows.poolKnownSpec.post enc Tryz.prog Tryz.f5 false true false false) := by
  refine returnsInHanded_of_change (C := Tryz.checked) Tryz.own started (by kernel_rfl) Tryz.func5
    (ChangeSpec.witness6 (enc := enc) (C := Tryz.checked) false ⟨#[], #[], []⟩ 8 (by kernel_rfl) (by kernel_rfl) (by kernel_rfl) (by kernel_rfl)) ?_
  intro W base args ds gs before hval0 hW hcnd _
  have hW' := hW
  obtain ⟨p, q, hA0, hV, rfl, hfz, hnd⟩ := hW
  have hA : DataW.TrodAll enc Tryz.prog W 0 (fun _ => true) true Tryz.f5.params.toList args.toList ds p := hA0
  rw [Tryz.params5] at hA
  obtain ⟨hargs, rfl, rfl⟩ := trodAll_nil hA
  obtain rfl : args = #[] := Array.toList_inj.1 hargs
  obtain ⟨rfl, rfl⟩ := trodVars_none hV
  refine (poolKnown_any W).mono fun e W' ⟨he, hos, hout, hheap⟩ => ?_
  subst he
  refine ⟨_, rfl, [], [], _, [], [], [], hW', ?_, ?_, rfl, keptBut_all hos hout hheap _, fun h => by cases h⟩
  · exact trodAll_mk1 (shut_bool (by kernel_rfl) true)
  · exact trodAll_mk0

theorem poolKnown_holds : Rows.PoolKnownSaid :=
  OpenClaim.holds_of_wide 5 Tryz.f5 rfl rfl rfl rfl rfl rfl rfl ⟨rfl, rfl, rfl, rfl, rfl⟩ rfl rfl rfl rfl rfl (by kernel_rfl) Tryz.func5 (by kernel_rfl)
    (of_decide_eq_true (by kernel_rfl)) (by unfold Func.isWrapper; first | (rw [if_pos (by decide +kernel)]; kernel_rfl) | (rw [if_neg (by decide +kernel)]; exact ⟨rfl, rfl⟩))
    (fun os started H enc _ => poolKnown_lifted os started H enc)
end Go.Proofs.YtboobbebilegnaaGreat

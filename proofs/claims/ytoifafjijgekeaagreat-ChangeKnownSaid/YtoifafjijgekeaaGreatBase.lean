/-
  The base of the laws of this seat: what the sorted keys of maps are; strings.Repeat; short names. No condition.
-/
import Derived.Test.YtoifafjijgekeaaGreatRows
import Derived.ProofKit
import Derived.Test.YtoifafjijgekeaaGreatAmG
import Derived.Shelf.Strings.Repeat
namespace Go.Proofs.YtoifafjijgekeaaGreat
open Go.ChangeShapes Go.WideShapes Go.ChangeAt Go.RowKit Go.Shelf

theorem namesQ : Am.NamesOk Tryz.prog := by unfold Am.NamesOk; kernel_rfl
theorem mixed : Tryz.prog.follows .mixedOrders = true := by kernel_rfl
theorem Tryz.own : ownKnob Tryz.prog.godebug = none := by kernel_rfl

theorem keptBut_all {w w' : World} (hos : w'.os = w.os) (hout : w'.output = w.output) (h : ∀ k, k < w.heap.size → w'.heap[k]? = w.heap[k]?) (may : MemPlace → Prop) : w.keptBut w' may := by
  refine ⟨hos, hout, fun i hi => ?_⟩
  rw [h i hi]
  exact (World.keptBut_refl w may).2.2 i hi

def layRepeat_ren : Go.Shelf.Ren := ⟨fun | 105 => 22 | 212 => 64 | 99 => 65 | 165 => 66 | 166 => 67 | 170 => 68 | 169 => 69 | 263 => 127 | 264 => 128 | 206 => 129 | 240 => 130 | 241 => 131 | 276 => 211 | 277 => 212 | n => n, fun | 9 => 9 | 3 => 3 | 4 => 4 | 20 => 20 | 0 => 0 | 46 => 146 | 109 => 147 | 5 => 5 | 72 => 153 | 76 => 157 | 51 => 29 | 146 => 239 | 53 => 135 | 148 => 241 | 70 => 150 | 37 => 151 | 75 => 156 | 127 => 243 | 164 => 327 | 80 => 160 | n => n, fun | n => n⟩
theorem layRepeat : Go.Proofs.Lays.n105 Tryz.prog layRepeat_ren := {
  mixed := by kernel_rfl,
  f99 := Tryz.func65.trans (congrArg some (by kernel_rfl)),
  f105 := Tryz.func22.trans (congrArg some (by kernel_rfl)),
  f165 := Tryz.func66.trans (congrArg some (by kernel_rfl)),
  f166 := Tryz.func67.trans (congrArg some (by kernel_rfl)),
  f169 := Tryz.func69.trans (congrArg some (by kernel_rfl)),
  f170 := Tryz.func68.trans (congrArg some (by kernel_rfl)),
  f206 := Tryz.func129.trans (congrArg some (by kernel_rfl)),
  f212 := Tryz.func64.trans (congrArg some (by kernel_rfl)),
  f240 := Tryz.func130.trans (congrArg some (by kernel_rfl)),
  f241 := Tryz.func131.trans (congrArg some (by kernel_rfl)),
  f263 := Tryz.func127.trans (congrArg some (by kernel_rfl)),
  f264 := Tryz.func128.trans (congrArg some (by kernel_rfl)),
  f276 := Tryz.func211.trans (congrArg some (by kernel_rfl)),
  f277 := Tryz.func212.trans (congrArg some (by kernel_rfl)),
  t0 := Tryz.underlying0,
  a0 := Tryz.isAgg0,
  z0 := Tryz.sizeOf0,
  v0 := Tryz.zeroValue0,
  t3 := Tryz.underlying3,
  a3 := Tryz.isAgg3,
  z3 := Tryz.sizeOf3,
  v3 := Tryz.zeroValue3,
  t4 := Tryz.underlying4,
  a4 := Tryz.isAgg4,
  z4 := Tryz.sizeOf4,
  v4 := Tryz.zeroValue4,
  t5 := Tryz.underlying5,
  a5 := Tryz.isAgg5,
  z5 := Tryz.sizeOf5,
  v5 := Tryz.zeroValue5,
  t9 := Tryz.underlying9,
  a9 := Tryz.isAgg9,
  z9 := Tryz.sizeOf9,
  v9 := Tryz.zeroValue9,
  t20 := Tryz.underlying20,
  a20 := Tryz.isAgg20,
  z20 := Tryz.sizeOf20,
  v20 := Tryz.zeroValue20,
  t37 := Tryz.underlying151,
  a37 := Tryz.isAgg151,
  z37 := Tryz.sizeOf151,
  v37 := Tryz.zeroValue151,
  t46 := Tryz.underlying146,
  a46 := Tryz.isAgg146,
  z46 := Tryz.sizeOf146,
  v46 := Tryz.zeroValue146,
  t51 := Tryz.underlying29,
  a51 := Tryz.isAgg29,
  z51 := Tryz.sizeOf29,
  v51 := Tryz.zeroValue29,
  t53 := Tryz.underlying135,
  a53 := Tryz.isAgg135,
  z53 := Tryz.sizeOf135,
  v53 := Tryz.zeroValue135,
  t70 := Tryz.underlying150,
  a70 := Tryz.isAgg150,
  z70 := Tryz.sizeOf150,
  v70 := Tryz.zeroValue150,
  t72 := Tryz.underlying153,
  a72 := Tryz.isAgg153,
  z72 := Tryz.sizeOf153,
  v72 := Tryz.zeroValue153,
  t75 := Tryz.underlying156,
  a75 := Tryz.isAgg156,
  z75 := Tryz.sizeOf156,
  v75 := Tryz.zeroValue156,
  t76 := Tryz.underlying157,
  a76 := Tryz.isAgg157,
  z76 := Tryz.sizeOf157,
  v76 := Tryz.zeroValue157,
  t109 := Tryz.underlying147,
  a109 := Tryz.isAgg147,
  z109 := Tryz.sizeOf147,
  v109 := Tryz.zeroValue147,
  t127 := Tryz.underlying243,
  a127 := Tryz.isAgg243,
  z127 := Tryz.sizeOf243,
  v127 := Tryz.zeroValue243,
  t146 := Tryz.underlying239,
  a146 := Tryz.isAgg239,
  z146 := Tryz.sizeOf239,
  v146 := Tryz.zeroValue239,
  t148 := Tryz.underlying241,
  a148 := Tryz.isAgg241,
  z148 := Tryz.sizeOf241,
  v148 := Tryz.zeroValue241,
  t164 := Tryz.underlying327,
  a164 := Tryz.isAgg327,
  z164 := Tryz.sizeOf327,
  v164 := Tryz.zeroValue327 }

theorem layExtra : Builder.Extra Tryz.prog layRepeat_ren where
  sizeBuilder := by kernel_rfl
  liesBuilder := by kernel_rfl
  t5 := layRepeat.t5
  a5 := layRepeat.a5
  z5 := layRepeat.z5
  v5 := layRepeat.v5
  infoByte := by kernel_rfl
  cellsByte := by kernel_rfl
  sizeByte := by kernel_rfl
  neB5 := by decide

theorem repeatL_eq (l : List UInt8) : ∀ c, Lib.repeatL l c = (List.replicate c l).flatten
  | 0 => rfl
  | c + 1 => by rw [List.replicate_succ, List.flatten_cons, ← repeatL_eq l c]; rfl

noncomputable section

def ltU (x y : Am.AV) : Option Bool := match x, y with | .int _ a, .int _ b => some (Am.ltI a b) | _, _ => none
def ltS (x y : Am.AV) : Option Bool := match x, y with | .str a, .str b => some (Am.strLt a b) | _, _ => none

/-! ### slices.Sorted at u32 -/
noncomputable def suApp : Am.AppCode Tryz.prog (Am.keepF Tryz.prog) 213 91 0 (Am.buildSliceN Tryz.prog 91 1 [0]) :=
  ⟨Tryz.f213, _, _, _, _, _, _, _, _, Tryz.func213, rfl, rfl, by kernel_rfl, by decide, by kernel_rfl, by kernel_rfl, by kernel_rfl, rfl, by kernel_rfl, by kernel_rfl, by kernel_rfl, by kernel_rfl, by kernel_rfl⟩
theorem suCol : ∃ fn c, Tryz.prog.funcs[(134 : Nat)]? = some fn ∧ fn.body = some c ∧ Am.CollectCode 213 c ∧ fn.results = #[.tmp 2] ∧ 5 ≤ fn.ntmps :=
  ⟨Tryz.f134, _, Tryz.func134, rfl, ⟨_, _, _, _, _, _, _, rfl, ⟨rfl, rfl, rfl⟩, ⟨rfl, rfl, rfl⟩, ⟨rfl, rfl, rfl⟩, ⟨rfl, rfl, rfl⟩⟩, rfl, by decide⟩
theorem suSor : ∃ fn c, Tryz.prog.funcs[(71 : Nat)]? = some fn ∧ fn.body = some c ∧ Am.SortedCode 134 135 c ∧ fn.results = #[.tmp 2] ∧ 9 ≤ fn.ntmps :=
  ⟨Tryz.f71, _, Tryz.func71, rfl, ⟨_, _, _, _, _, _, _, _, _, _, _, _, _, _, rfl, ⟨rfl, rfl, rfl⟩, ⟨rfl, rfl, rfl⟩, ⟨rfl, rfl, rfl⟩, ⟨rfl, rfl, rfl⟩, ⟨rfl, rfl, rfl⟩, ⟨rfl, rfl, rfl⟩, ⟨rfl, rfl, rfl⟩, ⟨rfl, rfl, rfl⟩⟩, rfl, by decide⟩
theorem keysFn136 : Am.KeysFn Tryz.prog 136 :=
  ⟨Tryz.f136, _, 49, _, _, Tryz.func136, rfl, ⟨_, _, _, _, _, _, _, _, _, _, _, _, _, _, _, _, _, _, _, rfl, ⟨rfl, rfl, rfl⟩, ⟨rfl, rfl, rfl⟩, ⟨rfl, rfl, rfl⟩, ⟨rfl, rfl, rfl⟩, ⟨rfl, rfl, rfl⟩, ⟨rfl, rfl, rfl⟩, ⟨rfl, rfl, rfl⟩, ⟨rfl, rfl, rfl⟩, ⟨rfl, rfl, rfl⟩, ⟨rfl, rfl, rfl⟩, ⟨rfl, rfl, rfl⟩⟩, rfl, by decide, Tryz.underlying49, by kernel_rfl⟩
theorem keysFn238 : Am.KeysFn Tryz.prog 238 :=
  ⟨Tryz.f238, _, 50, _, _, Tryz.func238, rfl, ⟨_, _, _, _, _, _, _, _, _, _, _, _, _, _, _, _, _, _, _, rfl, ⟨rfl, rfl, rfl⟩, ⟨rfl, rfl, rfl⟩, ⟨rfl, rfl, rfl⟩, ⟨rfl, rfl, rfl⟩, ⟨rfl, rfl, rfl⟩, ⟨rfl, rfl, rfl⟩, ⟨rfl, rfl, rfl⟩, ⟨rfl, rfl, rfl⟩, ⟨rfl, rfl, rfl⟩, ⟨rfl, rfl, rfl⟩, ⟨rfl, rfl, rfl⟩⟩, rfl, by decide, Tryz.underlying50, by kernel_rfl⟩
theorem keysFn250 : Am.KeysFn Tryz.prog 250 :=
  ⟨Tryz.f250, _, 294, _, _, Tryz.func250, rfl, ⟨_, _, _, _, _, _, _, _, _, _, _, _, _, _, _, _, _, _, _, rfl, ⟨rfl, rfl, rfl⟩, ⟨rfl, rfl, rfl⟩, ⟨rfl, rfl, rfl⟩, ⟨rfl, rfl, rfl⟩, ⟨rfl, rfl, rfl⟩, ⟨rfl, rfl, rfl⟩, ⟨rfl, rfl, rfl⟩, ⟨rfl, rfl, rfl⟩, ⟨rfl, rfl, rfl⟩, ⟨rfl, rfl, rfl⟩, ⟨rfl, rfl, rfl⟩⟩, rfl, by decide, Tryz.underlying294, by kernel_rfl⟩
def suFine : Am.AV → Bool := fun k => match k with | .int .u32 _ => true | _ => false
theorem suFineOk (k : Am.AV) (hk : suFine k = true) : Am.buildSliceN Tryz.prog 91 1 [0] [k] = some (Am.rowBlk k.cells, Am.sliceTo 1) ∧ k.cells.length = 0 + 1 ∧ ∀ c ∈ k.cells, Am.plainCell c = true := by
  cases k with
  | int kk n =>
    cases kk with
    | u32 => exact ⟨by kernel_rfl, rfl, fun c hc => by obtain rfl := List.mem_singleton.1 hc; rfl⟩
    | _ => cases hk
  | _ => cases hk
noncomputable def suPrim : Am.Prims := Am.sortedP (Am.callN Tryz.prog (Am.keepF Tryz.prog) Am.noPrims 1000 (40 + 1)) 71 135 [136, 238, 250] 1 4 ltU suFine
theorem suGs : ∀ g ∈ ([136, 238, 250] : List Nat), Am.KeysFn Tryz.prog g := by
  intro g hg
  simp only [List.mem_cons, List.not_mem_nil, or_false] at hg
  rcases hg with rfl | rfl | rfl
  · exact keysFn136
  · exact keysFn238
  · exact keysFn250
theorem suOk : Am.PrimsOk Tryz.prog (Am.keepF Tryz.prog) suPrim :=
  Am.sortedP_ok mixed namesQ suApp Tryz.underlying91 (by kernel_rfl) (by kernel_rfl) (by kernel_rfl) suCol ⟨_, _, Tryz.func135, rfl⟩ suSor suGs suFineOk

/-! ### slices.Sorted at str -/
noncomputable def ssApp : Am.AppCode Tryz.prog (Am.keepF Tryz.prog) 307 92 0 (Am.buildSliceN Tryz.prog 92 1 [0]) :=
  ⟨Tryz.f307, _, _, _, _, _, _, _, _, Tryz.func307, rfl, rfl, by kernel_rfl, by decide, by kernel_rfl, by kernel_rfl, by kernel_rfl, rfl, by kernel_rfl, by kernel_rfl, by kernel_rfl, by kernel_rfl, by kernel_rfl⟩
theorem ssCol : ∃ fn c, Tryz.prog.funcs[(236 : Nat)]? = some fn ∧ fn.body = some c ∧ Am.CollectCode 307 c ∧ fn.results = #[.tmp 2] ∧ 5 ≤ fn.ntmps :=
  ⟨Tryz.f236, _, Tryz.func236, rfl, ⟨_, _, _, _, _, _, _, rfl, ⟨rfl, rfl, rfl⟩, ⟨rfl, rfl, rfl⟩, ⟨rfl, rfl, rfl⟩, ⟨rfl, rfl, rfl⟩⟩, rfl, by decide⟩
theorem ssSor : ∃ fn c, Tryz.prog.funcs[(167 : Nat)]? = some fn ∧ fn.body = some c ∧ Am.SortedCode 236 152 c ∧ fn.results = #[.tmp 2] ∧ 9 ≤ fn.ntmps :=
  ⟨Tryz.f167, _, Tryz.func167, rfl, ⟨_, _, _, _, _, _, _, _, _, _, _, _, _, _, rfl, ⟨rfl, rfl, rfl⟩, ⟨rfl, rfl, rfl⟩, ⟨rfl, rfl, rfl⟩, ⟨rfl, rfl, rfl⟩, ⟨rfl, rfl, rfl⟩, ⟨rfl, rfl, rfl⟩, ⟨rfl, rfl, rfl⟩, ⟨rfl, rfl, rfl⟩⟩, rfl, by decide⟩
theorem keysFn237 : Am.KeysFn Tryz.prog 237 :=
  ⟨Tryz.f237, _, 48, _, _, Tryz.func237, rfl, ⟨_, _, _, _, _, _, _, _, _, _, _, _, _, _, _, _, _, _, _, rfl, ⟨rfl, rfl, rfl⟩, ⟨rfl, rfl, rfl⟩, ⟨rfl, rfl, rfl⟩, ⟨rfl, rfl, rfl⟩, ⟨rfl, rfl, rfl⟩, ⟨rfl, rfl, rfl⟩, ⟨rfl, rfl, rfl⟩, ⟨rfl, rfl, rfl⟩, ⟨rfl, rfl, rfl⟩, ⟨rfl, rfl, rfl⟩, ⟨rfl, rfl, rfl⟩⟩, rfl, by decide, Tryz.underlying48, by kernel_rfl⟩
def ssFine : Am.AV → Bool := fun k => match k with | .str _ => true | _ => false
theorem ssFineOk (k : Am.AV) (hk : ssFine k = true) : Am.buildSliceN Tryz.prog 92 1 [0] [k] = some (Am.rowBlk k.cells, Am.sliceTo 1) ∧ k.cells.length = 0 + 1 ∧ ∀ c ∈ k.cells, Am.plainCell c = true := by
  cases k with
  | str s => exact ⟨by kernel_rfl, rfl, fun c hc => by obtain rfl := List.mem_singleton.1 hc; rfl⟩
  | _ => cases hk
noncomputable def ssPrim : Am.Prims := Am.sortedP (Am.callN Tryz.prog (Am.keepF Tryz.prog) Am.noPrims 1000 (40 + 1)) 167 152 [237] 1 16 ltS ssFine
theorem ssGs : ∀ g ∈ ([237] : List Nat), Am.KeysFn Tryz.prog g := by
  intro g hg
  simp only [List.mem_cons, List.not_mem_nil, or_false] at hg
  rcases hg with rfl
  exact keysFn237
theorem ssOk : Am.PrimsOk Tryz.prog (Am.keepF Tryz.prog) ssPrim :=
  Am.sortedP_ok mixed namesQ ssApp Tryz.underlying92 (by kernel_rfl) (by kernel_rfl) (by kernel_rfl) ssCol ⟨_, _, Tryz.func152, rfl⟩ ssSor ssGs ssFineOk

/-! ### slices.SortedFunc at a pair -/
noncomputable def spApp : Am.AppCodeS Tryz.prog (Am.keepF Tryz.prog) 239 190 1 (fun _ => Am.allocN Tryz.prog 185) (Am.buildSliceN Tryz.prog 190 1 [0]) :=
  ⟨Tryz.f239, _, _, _, _, _, _, _, _, Tryz.func239, rfl, rfl, by kernel_rfl, by decide, by kernel_rfl, by kernel_rfl, by kernel_rfl, rfl, by kernel_rfl, by kernel_rfl, by kernel_rfl, by kernel_rfl, by kernel_rfl⟩
theorem spCol : ∃ fn c, Tryz.prog.funcs[(172 : Nat)]? = some fn ∧ fn.body = some c ∧ Am.CollectCode 239 c ∧ fn.results = #[.tmp 2] ∧ 5 ≤ fn.ntmps :=
  ⟨Tryz.f172, _, Tryz.func172, rfl, ⟨_, _, _, _, _, _, _, rfl, ⟨rfl, rfl, rfl⟩, ⟨rfl, rfl, rfl⟩, ⟨rfl, rfl, rfl⟩, ⟨rfl, rfl, rfl⟩⟩, rfl, by decide⟩
theorem spSor : ∃ fn c, Tryz.prog.funcs[(92 : Nat)]? = some fn ∧ fn.body = some c ∧ Am.SortedFCode 172 173 c ∧ fn.results = #[.tmp 4] ∧ 12 ≤ fn.ntmps :=
  ⟨Tryz.f92, _, Tryz.func92, rfl, ⟨_, _, _, _, _, _, _, _, _, _, _, _, _, _, _, rfl, ⟨rfl, rfl, rfl⟩, ⟨rfl, rfl, rfl⟩, ⟨rfl, rfl, rfl⟩, ⟨rfl, rfl, rfl⟩, ⟨rfl, rfl, rfl⟩, ⟨rfl, rfl, rfl⟩, ⟨rfl, rfl, rfl⟩, ⟨rfl, rfl, rfl⟩, ⟨rfl, rfl, rfl⟩⟩, rfl, by decide⟩
theorem keysFn174 : Am.KeysFnS Tryz.prog 185 174 :=
  ⟨Tryz.f174, _, 51, _, _, Tryz.func174, rfl, ⟨_, _, _, _, _, _, _, _, _, _, _, _, _, _, _, _, _, _, _, _, rfl, ⟨rfl, rfl, rfl⟩, ⟨rfl, rfl, rfl⟩, ⟨rfl, rfl, rfl⟩, ⟨rfl, rfl, rfl⟩, ⟨rfl, rfl, rfl⟩, ⟨rfl, rfl, rfl⟩, ⟨rfl, rfl, rfl⟩, ⟨rfl, rfl, rfl⟩, ⟨rfl, rfl, rfl⟩, ⟨rfl, rfl, rfl⟩, ⟨rfl, rfl, rfl⟩, ⟨rfl, rfl, rfl⟩⟩, rfl, by decide, Tryz.underlying51, by kernel_rfl⟩
def spFine : Am.AV → Bool := fun k => match k with | .agg [.int .u8 _, .str _] => true | _ => false
theorem spFineOk (k : Am.AV) (hk : spFine k = true) : Am.buildSliceN Tryz.prog 190 1 [0] [k] = some (Am.rowBlk k.cells, Am.sliceTo 1) ∧ k.cells.length = 1 + 1 ∧ (∀ c ∈ k.cells, Am.plainCell c = true) ∧ k = .agg k.cells := by
  unfold spFine at hk
  split at hk
  · refine ⟨by kernel_rfl, rfl, fun c hc => ?_, rfl⟩
    rcases List.mem_cons.1 hc with rfl | hc
    · rfl
    · obtain rfl := List.mem_singleton.1 hc; rfl
  · cases hk
def spLt (x y : Am.AV) : Option Bool := match x, y with
  | .agg [.int _ a, .str s], .agg [.int _ b, .str t] => some (Am.ltI a b || (!(Am.ltI b a) && Am.strLt s t))
  | _, _ => none
noncomputable def spPrim : Am.Prims := Am.sortedPF (Am.callN Tryz.prog (Am.keepF Tryz.prog) Am.noPrims 1000 (40 + 1)) 92 173 88 [174] 2 24 spLt spFine
theorem spGs : ∀ g ∈ ([174] : List Nat), Am.KeysFnS Tryz.prog 185 g := by
  intro g hg
  simp only [List.mem_cons, List.not_mem_nil, or_false] at hg
  rcases hg with rfl
  exact keysFn174
theorem spOk : Am.PrimsOk Tryz.prog (Am.keepF Tryz.prog) spPrim :=
  Am.sortedPF_ok (t0 := Am.fillC [.int .u8 0, .str []] .leaf 0) (z0 := Am.tyMark 185 true) mixed namesQ spApp (by kernel_rfl) (by kernel_rfl) (by kernel_rfl) (by kernel_rfl) Tryz.underlying190 (by kernel_rfl) (by kernel_rfl) (by kernel_rfl) spCol ⟨_, _, Tryz.func173, rfl⟩ spSor spGs spFineOk

def prB0 : Am.Prims := ((suPrim.or ssPrim).or spPrim)
theorem prB0Ok : Am.PrimsOk Tryz.prog (Am.keepF Tryz.prog) prB0 := (Am.Prims.or_ok (Am.Prims.or_ok suOk ssOk) spOk)
def prB : Am.Prims := prB0.or (Am.repeatP 22)
theorem prBOk : Am.PrimsOk Tryz.prog (Am.keepF Tryz.prog) prB := Am.Prims.or_ok prB0Ok (Am.repeatP_ok (rl := Lib.repeatL) repeatL_eq ⟨_, _, Tryz.func22, rfl⟩ fun s c w h1 h2 => Any.strings_Repeat layRepeat layExtra s c w h1 h2)

/-! ### Short names -/
def nU8 (n : Nat) : Am.AV := .int .u8 (.ofNat n)
def nU16 (n : Nat) : Am.AV := .int .u16 (.ofNat n)
def nU32 (n : Nat) : Am.AV := .int .u32 (.ofNat n)
def nU64 (n : Nat) : Am.AV := .int .u64 (.ofNat n)
def nI8 (n : Nat) : Am.AV := .int .i8 (.ofNat n)
def nI16 (n : Nat) : Am.AV := .int .i16 (.ofNat n)
def nI32 (n : Nat) : Am.AV := .int .i32 (.ofNat n)
def nI64 (n : Nat) : Am.AV := .int .i64 (.ofNat n)
def mI64 (n : Nat) : Am.AV := .int .i64 (.negSucc n)
def mI32 (n : Nat) : Am.AV := .int .i32 (.negSucc n)
def pt (b o : Nat) : Am.AV := .ptr (some (b, o))
def sl (b o l c : Nat) (g : Option Nat) : Am.AV := .slice (some (b, o)) l c g
def bsL (l : List Nat) : List Am.AV := List.rec (motive := fun _ => List Am.AV) [] (fun x _ ih => nU8 x :: ih) l
def ups (l : List (Nat × Am.AV)) : Am.Tr Am.AV := List.rec (motive := fun _ => Am.Tr Am.AV) .leaf (fun x _ ih => ih.up (some x.2) x.1) l
def hp (l : List (Nat × Am.Blk)) : Am.Tr Am.Blk := List.rec (motive := fun _ => Am.Tr Am.Blk) .leaf (fun x _ ih => ih.up (some x.2) x.1) l
def sg (l : List (Nat × List Am.AV)) : Am.Tr Am.AV := List.rec (motive := fun _ => Am.Tr Am.AV) .leaf (fun x _ ih => Am.fillC x.2 ih x.1) l

end
end Go.Proofs.YtoifafjijgekeaaGreat

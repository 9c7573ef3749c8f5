/-
  No cell of these rows narrows 'for every input' (looked for: loops, veiled, ifaces, maps, wideKeys, modest, calm, conditions, laid).
  DERIVED. THE GIVEN ROWS OF THIS SEAT. 8 by the template 'for every input the law returns true; each argument reads behind the call as it read before'; 0 by the template 'total and deterministic' (their statements: YtlfednnfkejcjaaTotals.lean).
  GIVEN WITH THE SEED: the statements are not yours to turn. If you find one false, say at which input.
  Laid BY PROGRAM, IN A SANDBOX (cutbox-rows.mjs): the forced cells as the released guide's own fill.sh prints them over the translation 3ce1b342e8facb21… (all of the seat's roots in one cut). By AI agents, Wed Nov 11 2026. No macro, syntax, notation, axiom, sorry.
-/
import Derived.Test.YtlfednnfkejcjaaChecked
import GoSem.Claim
import GoSem.ClaimJoined
import GoSem.ClaimMapViews
import Derived.JoinedTies
import Derived.KernelRfl
namespace Go.Proofs.Ytlfednnfkejcjaa
/- THE CELL 'sum', in the pinned program and in every row, IS THE sha256 OF THE DUMP (.gsa) THAT YtlfednnfkejcjaaProg.lean LOADS. Nothing in Lean hashes anything: it is a label: what it is worth is what the hold of that sum in a sandbox is worth. -/
noncomputable def Try.pinned : Pinned := { name := "ytlfednnfkejcjaa", sum := "3ce1b342e8facb218a6e579ed25941c8b388525706e82ab9d7afb23587201760", checked := Try.checked }
namespace Rows
def none {H : Type} : Left H := { results := [], args := [] }

/-- 'revertlaw16.DedupOnce': WHATEVER THE INPUT: true; the input reads as it did. -/
def dedupOnceSpec : ChangeSpec := { name := "dedupOnce", fn := fun _ => fun
  | [d] => { results := [.lit (.bool true)], args := [d] }
  | _ => none }
def dedupOnceRow : OpenClaim := { program := "ytlfednnfkejcjaa", sum := "3ce1b342e8facb218a6e579ed25941c8b388525706e82ab9d7afb23587201760", func := "revert/revertlaw16.DedupOnce", spec := "dedupOnce", apart := false }
def DedupOnceSaid : Prop := dedupOnceRow.holds Try.pinned (OpenSpec.ofChange dedupOnceSpec)

/-- ITS FALSE NEIGHBOUR: 'it returns false'. Refute it at one input. -/
def dedupOnceWrong : ChangeSpec := { name := "dedupOnce", fn := fun _ => fun
  | [d] => { results := [.lit (.bool false)], args := [d] }
  | _ => none }
def DedupOnceWrongFalsely : Prop := dedupOnceRow.holds Try.pinned (OpenSpec.ofChange dedupOnceWrong)

/-- 'revertlaw10.QuotaPrunes': WHATEVER THE INPUT: true; the input reads as it did. -/
def quotaPrunesSpec : ChangeSpec := { name := "quotaPrunes", fn := fun _ => fun
  | [d1, d2] => { results := [.lit (.bool true)], args := [d1, d2] }
  | _ => none }
def quotaPrunesRow : OpenClaim := { program := "ytlfednnfkejcjaa", sum := "3ce1b342e8facb218a6e579ed25941c8b388525706e82ab9d7afb23587201760", func := "revert/revertlaw10.QuotaPrunes", spec := "quotaPrunes", unfollowed := true, recurses := true, apart := false }
def QuotaPrunesSaid : Prop := quotaPrunesRow.holds Try.pinned (OpenSpec.ofChange quotaPrunesSpec)

/-- ITS FALSE NEIGHBOUR: 'it returns false'. Refute it at one input. -/
def quotaPrunesWrong : ChangeSpec := { name := "quotaPrunes", fn := fun _ => fun
  | [d1, d2] => { results := [.lit (.bool false)], args := [d1, d2] }
  | _ => none }
def QuotaPrunesWrongFalsely : Prop := quotaPrunesRow.holds Try.pinned (OpenSpec.ofChange quotaPrunesWrong)

/-- 'revertlaw10.QuotaOldest': WHATEVER THE INPUT: true; the input reads as it did. -/
def quotaOldestSpec : ChangeSpec := { name := "quotaOldest", fn := fun _ => fun
  | [d1, d2] => { results := [.lit (.bool true)], args := [d1, d2] }
  | _ => none }
def quotaOldestRow : OpenClaim := { program := "ytlfednnfkejcjaa", sum := "3ce1b342e8facb218a6e579ed25941c8b388525706e82ab9d7afb23587201760", func := "revert/revertlaw10.QuotaOldest", spec := "quotaOldest", unfollowed := true, recurses := true, apart := false }
def QuotaOldestSaid : Prop := quotaOldestRow.holds Try.pinned (OpenSpec.ofChange quotaOldestSpec)

/-- ITS FALSE NEIGHBOUR: 'it returns false'. Refute it at one input. -/
def quotaOldestWrong : ChangeSpec := { name := "quotaOldest", fn := fun _ => fun
  | [d1, d2] => { results := [.lit (.bool false)], args := [d1, d2] }
  | _ => none }
def QuotaOldestWrongFalsely : Prop := quotaOldestRow.holds Try.pinned (OpenSpec.ofChange quotaOldestWrong)

/-- 'revertlaw10.QuotaMore': WHATEVER THE INPUT: true; the input reads as it did. -/
def quotaMoreSpec : ChangeSpec := { name := "quotaMore", fn := fun _ => fun
  | [d1, d2, d3] => { results := [.lit (.bool true)], args := [d1, d2, d3] }
  | _ => none }
def quotaMoreRow : OpenClaim := { program := "ytlfednnfkejcjaa", sum := "3ce1b342e8facb218a6e579ed25941c8b388525706e82ab9d7afb23587201760", func := "revert/revertlaw10.QuotaMore", spec := "quotaMore", unfollowed := true, recurses := true, apart := false }
def QuotaMoreSaid : Prop := quotaMoreRow.holds Try.pinned (OpenSpec.ofChange quotaMoreSpec)

/-- ITS FALSE NEIGHBOUR: 'it returns false'. Refute it at one input. -/
def quotaMoreWrong : ChangeSpec := { name := "quotaMore", fn := fun _ => fun
  | [d1, d2, d3] => { results := [.lit (.bool false)], args := [d1, d2, d3] }
  | _ => none }
def QuotaMoreWrongFalsely : Prop := quotaMoreRow.holds Try.pinned (OpenSpec.ofChange quotaMoreWrong)

/-- 'revertlaw10.QuotaKnown': WHATEVER THE INPUT: true; the input reads as it did. -/
def quotaKnownSpec : ChangeSpec := { name := "quotaKnown", fn := fun _ => fun
  | [] => { results := [.lit (.bool true)], args := [] }
  | _ => none }
def quotaKnownRow : OpenClaim := { program := "ytlfednnfkejcjaa", sum := "3ce1b342e8facb218a6e579ed25941c8b388525706e82ab9d7afb23587201760", func := "revert/revertlaw10.QuotaKnown", spec := "quotaKnown", unfollowed := true, recurses := true, apart := false }
def QuotaKnownSaid : Prop := quotaKnownRow.holds Try.pinned (OpenSpec.ofChange quotaKnownSpec)

/-- ITS FALSE NEIGHBOUR: 'it returns false'. Refute it at one input. -/
def quotaKnownWrong : ChangeSpec := { name := "quotaKnown", fn := fun _ => fun
  | [] => { results := [.lit (.bool false)], args := [] }
  | _ => none }
def QuotaKnownWrongFalsely : Prop := quotaKnownRow.holds Try.pinned (OpenSpec.ofChange quotaKnownWrong)

/-- 'revertlaw16.DedupLoads': WHATEVER THE INPUT: true; the input reads as it did. -/
def dedupLoadsSpec : ChangeSpec := { name := "dedupLoads", fn := fun _ => fun
  | [d1, d2, d3] => { results := [.lit (.bool true)], args := [d1, d2, d3] }
  | _ => none }
def dedupLoadsRow : OpenClaim := { program := "ytlfednnfkejcjaa", sum := "3ce1b342e8facb218a6e579ed25941c8b388525706e82ab9d7afb23587201760", func := "revert/revertlaw16.DedupLoads", spec := "dedupLoads", unfollowed := true, recurses := true, apart := false }
def DedupLoadsSaid : Prop := dedupLoadsRow.holds Try.pinned (OpenSpec.ofChange dedupLoadsSpec)

/-- ITS FALSE NEIGHBOUR: 'it returns false'. Refute it at one input. -/
def dedupLoadsWrong : ChangeSpec := { name := "dedupLoads", fn := fun _ => fun
  | [d1, d2, d3] => { results := [.lit (.bool false)], args := [d1, d2, d3] }
  | _ => none }
def DedupLoadsWrongFalsely : Prop := dedupLoadsRow.holds Try.pinned (OpenSpec.ofChange dedupLoadsWrong)

/-- 'revertlaw16.DedupPlays': WHATEVER THE INPUT: true; the input reads as it did. -/
def dedupPlaysSpec : ChangeSpec := { name := "dedupPlays", fn := fun _ => fun
  | [d] => { results := [.lit (.bool true)], args := [d] }
  | _ => none }
def dedupPlaysRow : OpenClaim := { program := "ytlfednnfkejcjaa", sum := "3ce1b342e8facb218a6e579ed25941c8b388525706e82ab9d7afb23587201760", func := "revert/revertlaw16.DedupPlays", spec := "dedupPlays", unfollowed := true, recurses := true, apart := false }
def DedupPlaysSaid : Prop := dedupPlaysRow.holds Try.pinned (OpenSpec.ofChange dedupPlaysSpec)

/-- ITS FALSE NEIGHBOUR: 'it returns false'. Refute it at one input. -/
def dedupPlaysWrong : ChangeSpec := { name := "dedupPlays", fn := fun _ => fun
  | [d] => { results := [.lit (.bool false)], args := [d] }
  | _ => none }
def DedupPlaysWrongFalsely : Prop := dedupPlaysRow.holds Try.pinned (OpenSpec.ofChange dedupPlaysWrong)

/-- 'revertlaw16.DedupKnown': WHATEVER THE INPUT: true; the input reads as it did. -/
def dedupKnownSpec : ChangeSpec := { name := "dedupKnown", fn := fun _ => fun
  | [] => { results := [.lit (.bool true)], args := [] }
  | _ => none }
def dedupKnownRow : OpenClaim := { program := "ytlfednnfkejcjaa", sum := "3ce1b342e8facb218a6e579ed25941c8b388525706e82ab9d7afb23587201760", func := "revert/revertlaw16.DedupKnown", spec := "dedupKnown", inPlace := ["internal/abi.NoEscape", "internal/bytealg.MakeNoZero"], unfollowed := true, recurses := true, apart := false }
def DedupKnownSaid : Prop := dedupKnownRow.holds Try.pinned (OpenSpec.ofChange dedupKnownSpec)

/-- ITS FALSE NEIGHBOUR: 'it returns false'. Refute it at one input. -/
def dedupKnownWrong : ChangeSpec := { name := "dedupKnown", fn := fun _ => fun
  | [] => { results := [.lit (.bool false)], args := [] }
  | _ => none }
def DedupKnownWrongFalsely : Prop := dedupKnownRow.holds Try.pinned (OpenSpec.ofChange dedupKnownWrong)

/- THE SECOND FORM. 'bulk': how many values and letters a reading holds, each counted each time it is reached (what is shared counts as often as it is met; a slice's spare places count too). A statement '..UptoSaid' is the law's where the arguments, and the package variables that the reading takes, are together of bulk at most 1048576: NARROWER than '..Said'. Prove '..Said' where nothing that the law and all that it calls make is longer than what came in: it says more and counts as full. Else prove '..UptoSaid'. A law counts once. -/
mutual
def uptoBulk {H : Type} : DataW H → Nat
  | .lit (.string bytes) => bytes.length + 1
  | .lit _ => 1
  | .nil => 1
  | .ptr d => uptoBulk d + 1
  | .slice elems spare => uptoBulkAll elems + uptoBulkAll spare + 1
  | .agg parts => uptoBulkAll parts + 1
  | .iface _ d => uptoBulk d + 1
  | .map entries => uptoBulkEntries entries + 1
  | .held _ => 1
def uptoBulkAll {H : Type} : List (DataW H) → Nat
  | [] => 0
  | d :: r => uptoBulk d + uptoBulkAll r
def uptoBulkEntries {H : Type} : List (Lit × DataW H) → Nat
  | [] => 0
  | x :: r => uptoBulkEntry x + uptoBulkEntries r
def uptoBulkEntry {H : Type} : Lit × DataW H → Nat
  | (.string bytes, d) => bytes.length + uptoBulk d + 1
  | (_, d) => uptoBulk d + 1
 end
def uptoSmall : (H : Type) → List (DataW H) → Bool := fun _ ds => decide (uptoBulkAll ds ≤ 1048576)
def OpenSpec.upto (s : _root_.Go.ChangeSpec) : _root_.Go.OpenSpec := { _root_.Go.OpenSpec.ofChange s with cond := some uptoSmall }

/-- 'revertlaw16.DedupOnce', WHERE WHAT IT READS IS OF BULK AT MOST 1048576: true; the input reads as it did. -/
def dedupOnceUptoRow : OpenClaim := { program := "ytlfednnfkejcjaa", sum := "3ce1b342e8facb218a6e579ed25941c8b388525706e82ab9d7afb23587201760", func := "revert/revertlaw16.DedupOnce", spec := "dedupOnce", apart := false, narrowed := true }
def DedupOnceUptoSaid : Prop := dedupOnceUptoRow.holds Try.pinned (OpenSpec.upto dedupOnceSpec)

/-- 'revertlaw10.QuotaPrunes', WHERE WHAT IT READS IS OF BULK AT MOST 1048576: true; the input reads as it did. -/
def quotaPrunesUptoRow : OpenClaim := { program := "ytlfednnfkejcjaa", sum := "3ce1b342e8facb218a6e579ed25941c8b388525706e82ab9d7afb23587201760", func := "revert/revertlaw10.QuotaPrunes", spec := "quotaPrunes", unfollowed := true, recurses := true, apart := false, narrowed := true }
def QuotaPrunesUptoSaid : Prop := quotaPrunesUptoRow.holds Try.pinned (OpenSpec.upto quotaPrunesSpec)

/-- 'revertlaw10.QuotaOldest', WHERE WHAT IT READS IS OF BULK AT MOST 1048576: true; the input reads as it did. -/
def quotaOldestUptoRow : OpenClaim := { program := "ytlfednnfkejcjaa", sum := "3ce1b342e8facb218a6e579ed25941c8b388525706e82ab9d7afb23587201760", func := "revert/revertlaw10.QuotaOldest", spec := "quotaOldest", unfollowed := true, recurses := true, apart := false, narrowed := true }
def QuotaOldestUptoSaid : Prop := quotaOldestUptoRow.holds Try.pinned (OpenSpec.upto quotaOldestSpec)

/-- 'revertlaw10.QuotaMore', WHERE WHAT IT READS IS OF BULK AT MOST 1048576: true; the input reads as it did. -/
def quotaMoreUptoRow : OpenClaim := { program := "ytlfednnfkejcjaa", sum := "3ce1b342e8facb218a6e579ed25941c8b388525706e82ab9d7afb23587201760", func := "revert/revertlaw10.QuotaMore", spec := "quotaMore", unfollowed := true, recurses := true, apart := false, narrowed := true }
def QuotaMoreUptoSaid : Prop := quotaMoreUptoRow.holds Try.pinned (OpenSpec.upto quotaMoreSpec)

/-- 'revertlaw10.QuotaKnown', WHERE WHAT IT READS IS OF BULK AT MOST 1048576: true; the input reads as it did. -/
def quotaKnownUptoRow : OpenClaim := { program := "ytlfednnfkejcjaa", sum := "3ce1b342e8facb218a6e579ed25941c8b388525706e82ab9d7afb23587201760", func := "revert/revertlaw10.QuotaKnown", spec := "quotaKnown", unfollowed := true, recurses := true, apart := false, narrowed := true }
def QuotaKnownUptoSaid : Prop := quotaKnownUptoRow.holds Try.pinned (OpenSpec.upto quotaKnownSpec)

/-- 'revertlaw16.DedupLoads', WHERE WHAT IT READS IS OF BULK AT MOST 1048576: true; the input reads as it did. -/
def dedupLoadsUptoRow : OpenClaim := { program := "ytlfednnfkejcjaa", sum := "3ce1b342e8facb218a6e579ed25941c8b388525706e82ab9d7afb23587201760", func := "revert/revertlaw16.DedupLoads", spec := "dedupLoads", unfollowed := true, recurses := true, apart := false, narrowed := true }
def DedupLoadsUptoSaid : Prop := dedupLoadsUptoRow.holds Try.pinned (OpenSpec.upto dedupLoadsSpec)

/-- 'revertlaw16.DedupPlays', WHERE WHAT IT READS IS OF BULK AT MOST 1048576: true; the input reads as it did. -/
def dedupPlaysUptoRow : OpenClaim := { program := "ytlfednnfkejcjaa", sum := "3ce1b342e8facb218a6e579ed25941c8b388525706e82ab9d7afb23587201760", func := "revert/revertlaw16.DedupPlays", spec := "dedupPlays", unfollowed := true, recurses := true, apart := false, narrowed := true }
def DedupPlaysUptoSaid : Prop := dedupPlaysUptoRow.holds Try.pinned (OpenSpec.upto dedupPlaysSpec)

/-- 'revertlaw16.DedupKnown', WHERE WHAT IT READS IS OF BULK AT MOST 1048576: true; the input reads as it did. -/
def dedupKnownUptoRow : OpenClaim := { program := "ytlfednnfkejcjaa", sum := "3ce1b342e8facb218a6e579ed25941c8b388525706e82ab9d7afb23587201760", func := "revert/revertlaw16.DedupKnown", spec := "dedupKnown", inPlace := ["internal/abi.NoEscape", "internal/bytealg.MakeNoZero"], unfollowed := true, recurses := true, apart := false, narrowed := true }
def DedupKnownUptoSaid : Prop := dedupKnownUptoRow.holds Try.pinned (OpenSpec.upto dedupKnownSpec)

end Rows
end Go.Proofs.Ytlfednnfkejcjaa

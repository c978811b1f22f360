/-
  No cell of these rows narrows 'for every input' (looked for: loops, veiled, ifaces, maps, wideKeys, modest, calm, conditions, laid).
  DERIVED. THE GIVEN ROWS OF THIS SEAT. 7 by the template 'for every input the law returns true; each argument reads behind the call as it read before'; 0 by the template 'total and deterministic' (their statements: YtnjijflgafghmaaTotals.lean).
  GIVEN WITH THE SEED: the statements are not yours to turn. If you find one false, say at which input.
  Laid BY PROGRAM, IN A SANDBOX (cutbox-rows.mjs): the forced cells as the released guide's own fill.sh prints them over the translation c681063f7d1c7790… (all of the seat's roots in one cut). By AI agents, Wed Nov 11 2026. No macro, syntax, notation, axiom, sorry.
-/
import Derived.Test.YtnjijflgafghmaaChecked
import GoSem.Claim
import GoSem.ClaimJoined
import GoSem.ClaimMapViews
import Derived.JoinedTies
import Derived.KernelRfl
namespace Go.Proofs.Ytnjijflgafghmaa
/- THE CELL 'sum', in the pinned program and in every row, IS THE sha256 OF THE DUMP (.gsa) THAT YtnjijflgafghmaaProg.lean LOADS. Nothing in Lean hashes anything: it is a label: what it is worth is what the hold of that sum in a sandbox is worth. -/
noncomputable def Try.pinned : Pinned := { name := "ytnjijflgafghmaa", sum := "c681063f7d1c77904c5067dfa3d2a5db2960d1833b5a8d2acfd811dea6bc9127", checked := Try.checked }
namespace Rows
def none {H : Type} : Left H := { results := [], args := [] }

/-- 'shadowboxlaw06.PointerTells': WHATEVER THE INPUT: true; the input reads as it did. -/
def pointerTellsSpec : ChangeSpec := { name := "pointerTells", fn := fun _ => fun
  | [d1, d2] => { results := [.lit (.bool true)], args := [d1, d2] }
  | _ => none }
def pointerTellsRow : OpenClaim := { program := "ytnjijflgafghmaa", sum := "c681063f7d1c77904c5067dfa3d2a5db2960d1833b5a8d2acfd811dea6bc9127", func := "shadowbox/shadowboxlaw06.PointerTells", spec := "pointerTells", unfollowed := true, recurses := true, apart := false }
def PointerTellsSaid : Prop := pointerTellsRow.holds Try.pinned (OpenSpec.ofChange pointerTellsSpec)

/-- ITS FALSE NEIGHBOUR: 'it returns false'. Refute it at one input. -/
def pointerTellsWrong : ChangeSpec := { name := "pointerTells", fn := fun _ => fun
  | [d1, d2] => { results := [.lit (.bool false)], args := [d1, d2] }
  | _ => none }
def PointerTellsWrongFalsely : Prop := pointerTellsRow.holds Try.pinned (OpenSpec.ofChange pointerTellsWrong)

/-- 'shadowboxlaw06.PointerChecks': WHATEVER THE INPUT: true; the input reads as it did. -/
def pointerChecksSpec : ChangeSpec := { name := "pointerChecks", fn := fun _ => fun
  | [d1, d2, d3] => { results := [.lit (.bool true)], args := [d1, d2, d3] }
  | _ => none }
def pointerChecksRow : OpenClaim := { program := "ytnjijflgafghmaa", sum := "c681063f7d1c77904c5067dfa3d2a5db2960d1833b5a8d2acfd811dea6bc9127", func := "shadowbox/shadowboxlaw06.PointerChecks", spec := "pointerChecks", unfollowed := true, recurses := true, apart := false }
def PointerChecksSaid : Prop := pointerChecksRow.holds Try.pinned (OpenSpec.ofChange pointerChecksSpec)

/-- ITS FALSE NEIGHBOUR: 'it returns false'. Refute it at one input. -/
def pointerChecksWrong : ChangeSpec := { name := "pointerChecks", fn := fun _ => fun
  | [d1, d2, d3] => { results := [.lit (.bool false)], args := [d1, d2, d3] }
  | _ => none }
def PointerChecksWrongFalsely : Prop := pointerChecksRow.holds Try.pinned (OpenSpec.ofChange pointerChecksWrong)

/-- 'shadowboxlaw06.PointerBack': WHATEVER THE INPUT: true; the input reads as it did. -/
def pointerBackSpec : ChangeSpec := { name := "pointerBack", fn := fun _ => fun
  | [d1, d2, d3] => { results := [.lit (.bool true)], args := [d1, d2, d3] }
  | _ => none }
def pointerBackRow : OpenClaim := { program := "ytnjijflgafghmaa", sum := "c681063f7d1c77904c5067dfa3d2a5db2960d1833b5a8d2acfd811dea6bc9127", func := "shadowbox/shadowboxlaw06.PointerBack", spec := "pointerBack", unfollowed := true, recurses := true, apart := false }
def PointerBackSaid : Prop := pointerBackRow.holds Try.pinned (OpenSpec.ofChange pointerBackSpec)

/-- ITS FALSE NEIGHBOUR: 'it returns false'. Refute it at one input. -/
def pointerBackWrong : ChangeSpec := { name := "pointerBack", fn := fun _ => fun
  | [d1, d2, d3] => { results := [.lit (.bool false)], args := [d1, d2, d3] }
  | _ => none }
def PointerBackWrongFalsely : Prop := pointerBackRow.holds Try.pinned (OpenSpec.ofChange pointerBackWrong)

/-- 'shadowboxlaw08.LabelTells': WHATEVER THE INPUT: true; the input reads as it did. -/
def labelTellsSpec : ChangeSpec := { name := "labelTells", fn := fun _ => fun
  | [d1, d2] => { results := [.lit (.bool true)], args := [d1, d2] }
  | _ => none }
def labelTellsRow : OpenClaim := { program := "ytnjijflgafghmaa", sum := "c681063f7d1c77904c5067dfa3d2a5db2960d1833b5a8d2acfd811dea6bc9127", func := "shadowbox/shadowboxlaw08.LabelTells", spec := "labelTells", unfollowed := true, recurses := true, apart := false }
def LabelTellsSaid : Prop := labelTellsRow.holds Try.pinned (OpenSpec.ofChange labelTellsSpec)

/-- ITS FALSE NEIGHBOUR: 'it returns false'. Refute it at one input. -/
def labelTellsWrong : ChangeSpec := { name := "labelTells", fn := fun _ => fun
  | [d1, d2] => { results := [.lit (.bool false)], args := [d1, d2] }
  | _ => none }
def LabelTellsWrongFalsely : Prop := labelTellsRow.holds Try.pinned (OpenSpec.ofChange labelTellsWrong)

/-- 'shadowboxlaw08.LabelBack': WHATEVER THE INPUT: true; the input reads as it did. -/
def labelBackSpec : ChangeSpec := { name := "labelBack", fn := fun _ => fun
  | [d1, d2, d3] => { results := [.lit (.bool true)], args := [d1, d2, d3] }
  | _ => none }
def labelBackRow : OpenClaim := { program := "ytnjijflgafghmaa", sum := "c681063f7d1c77904c5067dfa3d2a5db2960d1833b5a8d2acfd811dea6bc9127", func := "shadowbox/shadowboxlaw08.LabelBack", spec := "labelBack", unfollowed := true, recurses := true, apart := false }
def LabelBackSaid : Prop := labelBackRow.holds Try.pinned (OpenSpec.ofChange labelBackSpec)

/-- ITS FALSE NEIGHBOUR: 'it returns false'. Refute it at one input. -/
def labelBackWrong : ChangeSpec := { name := "labelBack", fn := fun _ => fun
  | [d1, d2, d3] => { results := [.lit (.bool false)], args := [d1, d2, d3] }
  | _ => none }
def LabelBackWrongFalsely : Prop := labelBackRow.holds Try.pinned (OpenSpec.ofChange labelBackWrong)

/-- 'shadowboxlaw08.LabelChooses': WHATEVER THE INPUT: true; the input reads as it did. -/
def labelChoosesSpec : ChangeSpec := { name := "labelChooses", fn := fun _ => fun
  | [d1, d2] => { results := [.lit (.bool true)], args := [d1, d2] }
  | _ => none }
def labelChoosesRow : OpenClaim := { program := "ytnjijflgafghmaa", sum := "c681063f7d1c77904c5067dfa3d2a5db2960d1833b5a8d2acfd811dea6bc9127", func := "shadowbox/shadowboxlaw08.LabelChooses", spec := "labelChooses", unfollowed := true, recurses := true, apart := false }
def LabelChoosesSaid : Prop := labelChoosesRow.holds Try.pinned (OpenSpec.ofChange labelChoosesSpec)

/-- ITS FALSE NEIGHBOUR: 'it returns false'. Refute it at one input. -/
def labelChoosesWrong : ChangeSpec := { name := "labelChooses", fn := fun _ => fun
  | [d1, d2] => { results := [.lit (.bool false)], args := [d1, d2] }
  | _ => none }
def LabelChoosesWrongFalsely : Prop := labelChoosesRow.holds Try.pinned (OpenSpec.ofChange labelChoosesWrong)

/-- 'shadowboxlaw08.LabelTorn': WHATEVER THE INPUT: true; the input reads as it did. -/
def labelTornSpec : ChangeSpec := { name := "labelTorn", fn := fun _ => fun
  | [d1, d2, d3] => { results := [.lit (.bool true)], args := [d1, d2, d3] }
  | _ => none }
def labelTornRow : OpenClaim := { program := "ytnjijflgafghmaa", sum := "c681063f7d1c77904c5067dfa3d2a5db2960d1833b5a8d2acfd811dea6bc9127", func := "shadowbox/shadowboxlaw08.LabelTorn", spec := "labelTorn", unfollowed := true, recurses := true, apart := false }
def LabelTornSaid : Prop := labelTornRow.holds Try.pinned (OpenSpec.ofChange labelTornSpec)

/-- ITS FALSE NEIGHBOUR: 'it returns false'. Refute it at one input. -/
def labelTornWrong : ChangeSpec := { name := "labelTorn", fn := fun _ => fun
  | [d1, d2, d3] => { results := [.lit (.bool false)], args := [d1, d2, d3] }
  | _ => none }
def LabelTornWrongFalsely : Prop := labelTornRow.holds Try.pinned (OpenSpec.ofChange labelTornWrong)

/- THE SECOND FORM. 'bulk': how many values and letters a reading holds, each counted each time it is reached (what is shared counts as often as it is met; a slice's spare places count too). A statement '..UptoSaid' is the law's where the arguments, and the package variables that the reading takes, are together of bulk at most 1048576: NARROWER than '..Said'. Prove '..Said' where nothing that the law and all that it calls make is longer than what came in: it says more and counts as full. Else prove '..UptoSaid'. A law counts once. -/
mutual
def uptoBulk {H : Type} : DataW H → Nat
  | .lit (.string bytes) => bytes.length + 1
  | .lit _ => 1
  | .nil => 1
  | .ptr d => uptoBulk d + 1
  | .slice elems spare => uptoBulkAll elems + uptoBulkAll spare + 1
  | .agg parts => uptoBulkAll parts + 1
  | .iface _ d => uptoBulk d + 1
  | .map entries => uptoBulkEntries entries + 1
  | .held _ => 1
def uptoBulkAll {H : Type} : List (DataW H) → Nat
  | [] => 0
  | d :: r => uptoBulk d + uptoBulkAll r
def uptoBulkEntries {H : Type} : List (Lit × DataW H) → Nat
  | [] => 0
  | x :: r => uptoBulkEntry x + uptoBulkEntries r
def uptoBulkEntry {H : Type} : Lit × DataW H → Nat
  | (.string bytes, d) => bytes.length + uptoBulk d + 1
  | (_, d) => uptoBulk d + 1
 end
def uptoSmall : (H : Type) → List (DataW H) → Bool := fun _ ds => decide (uptoBulkAll ds ≤ 1048576)
def OpenSpec.upto (s : _root_.Go.ChangeSpec) : _root_.Go.OpenSpec := { _root_.Go.OpenSpec.ofChange s with cond := some uptoSmall }

/-- 'shadowboxlaw06.PointerTells', WHERE WHAT IT READS IS OF BULK AT MOST 1048576: true; the input reads as it did. -/
def pointerTellsUptoRow : OpenClaim := { program := "ytnjijflgafghmaa", sum := "c681063f7d1c77904c5067dfa3d2a5db2960d1833b5a8d2acfd811dea6bc9127", func := "shadowbox/shadowboxlaw06.PointerTells", spec := "pointerTells", unfollowed := true, recurses := true, apart := false, narrowed := true }
def PointerTellsUptoSaid : Prop := pointerTellsUptoRow.holds Try.pinned (OpenSpec.upto pointerTellsSpec)

/-- 'shadowboxlaw06.PointerChecks', WHERE WHAT IT READS IS OF BULK AT MOST 1048576: true; the input reads as it did. -/
def pointerChecksUptoRow : OpenClaim := { program := "ytnjijflgafghmaa", sum := "c681063f7d1c77904c5067dfa3d2a5db2960d1833b5a8d2acfd811dea6bc9127", func := "shadowbox/shadowboxlaw06.PointerChecks", spec := "pointerChecks", unfollowed := true, recurses := true, apart := false, narrowed := true }
def PointerChecksUptoSaid : Prop := pointerChecksUptoRow.holds Try.pinned (OpenSpec.upto pointerChecksSpec)

/-- 'shadowboxlaw06.PointerBack', WHERE WHAT IT READS IS OF BULK AT MOST 1048576: true; the input reads as it did. -/
def pointerBackUptoRow : OpenClaim := { program := "ytnjijflgafghmaa", sum := "c681063f7d1c77904c5067dfa3d2a5db2960d1833b5a8d2acfd811dea6bc9127", func := "shadowbox/shadowboxlaw06.PointerBack", spec := "pointerBack", unfollowed := true, recurses := true, apart := false, narrowed := true }
def PointerBackUptoSaid : Prop := pointerBackUptoRow.holds Try.pinned (OpenSpec.upto pointerBackSpec)

/-- 'shadowboxlaw08.LabelTells', WHERE WHAT IT READS IS OF BULK AT MOST 1048576: true; the input reads as it did. -/
def labelTellsUptoRow : OpenClaim := { program := "ytnjijflgafghmaa", sum := "c681063f7d1c77904c5067dfa3d2a5db2960d1833b5a8d2acfd811dea6bc9127", func := "shadowbox/shadowboxlaw08.LabelTells", spec := "labelTells", unfollowed := true, recurses := true, apart := false, narrowed := true }
def LabelTellsUptoSaid : Prop := labelTellsUptoRow.holds Try.pinned (OpenSpec.upto labelTellsSpec)

/-- 'shadowboxlaw08.LabelBack', WHERE WHAT IT READS IS OF BULK AT MOST 1048576: true; the input reads as it did. -/
def labelBackUptoRow : OpenClaim := { program := "ytnjijflgafghmaa", sum := "c681063f7d1c77904c5067dfa3d2a5db2960d1833b5a8d2acfd811dea6bc9127", func := "shadowbox/shadowboxlaw08.LabelBack", spec := "labelBack", unfollowed := true, recurses := true, apart := false, narrowed := true }
def LabelBackUptoSaid : Prop := labelBackUptoRow.holds Try.pinned (OpenSpec.upto labelBackSpec)

/-- 'shadowboxlaw08.LabelChooses', WHERE WHAT IT READS IS OF BULK AT MOST 1048576: true; the input reads as it did. -/
def labelChoosesUptoRow : OpenClaim := { program := "ytnjijflgafghmaa", sum := "c681063f7d1c77904c5067dfa3d2a5db2960d1833b5a8d2acfd811dea6bc9127", func := "shadowbox/shadowboxlaw08.LabelChooses", spec := "labelChooses", unfollowed := true, recurses := true, apart := false, narrowed := true }
def LabelChoosesUptoSaid : Prop := labelChoosesUptoRow.holds Try.pinned (OpenSpec.upto labelChoosesSpec)

/-- 'shadowboxlaw08.LabelTorn', WHERE WHAT IT READS IS OF BULK AT MOST 1048576: true; the input reads as it did. -/
def labelTornUptoRow : OpenClaim := { program := "ytnjijflgafghmaa", sum := "c681063f7d1c77904c5067dfa3d2a5db2960d1833b5a8d2acfd811dea6bc9127", func := "shadowbox/shadowboxlaw08.LabelTorn", spec := "labelTorn", unfollowed := true, recurses := true, apart := false, narrowed := true }
def LabelTornUptoSaid : Prop := labelTornUptoRow.holds Try.pinned (OpenSpec.upto labelTornSpec)

end Rows
end Go.Proofs.Ytnjijflgafghmaa

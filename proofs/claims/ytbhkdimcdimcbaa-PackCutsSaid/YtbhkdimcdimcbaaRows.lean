/-
  No cell of these rows narrows 'for every input' (looked for: loops, veiled, ifaces, maps, wideKeys, modest, calm, conditions, laid).
  DERIVED. THE GIVEN ROWS OF THIS SEAT. 8 by the template 'for every input the law returns true; each argument reads behind the call as it read before'; 0 by the template 'total and deterministic' (their statements: YtbhkdimcdimcbaaTotals.lean).
  GIVEN WITH THE SEED: the statements are not yours to turn. If you find one false, say at which input.
  Laid BY PROGRAM, IN A SANDBOX (cutbox-rows.mjs): the forced cells as the released guide's own fill.sh prints them over the translation 8eaa4d837ea8bf92… (all of the seat's roots in one cut). By AI agents, Wed Nov 11 2026. No macro, syntax, notation, axiom, sorry.
-/
import Derived.Test.YtbhkdimcdimcbaaChecked
import GoSem.Claim
import GoSem.ClaimJoined
import GoSem.ClaimMapViews
import Derived.JoinedTies
import Derived.KernelRfl
namespace Go.Proofs.Ytbhkdimcdimcbaa
/- THE CELL 'sum', in the pinned program and in every row, IS THE sha256 OF THE DUMP (.gsa) THAT YtbhkdimcdimcbaaProg.lean LOADS. Nothing in Lean hashes anything: it is a label: what it is worth is what the hold of that sum in a sandbox is worth. -/
noncomputable def Try.pinned : Pinned := { name := "ytbhkdimcdimcbaa", sum := "8eaa4d837ea8bf92e60b4d3e511c5655581f75f21fafcf6b15470006fd4260ba", checked := Try.checked }
namespace Rows
def none {H : Type} : Left H := { results := [], args := [] }

/-- 'twinlocklaw01.PackSpells': WHATEVER THE INPUT: true; the input reads as it did. -/
def packSpellsSpec : ChangeSpec := { name := "packSpells", fn := fun _ => fun
  | [d] => { results := [.lit (.bool true)], args := [d] }
  | _ => none }
def packSpellsRow : OpenClaim := { program := "ytbhkdimcdimcbaa", sum := "8eaa4d837ea8bf92e60b4d3e511c5655581f75f21fafcf6b15470006fd4260ba", func := "twinlock/twinlocklaw01.PackSpells", spec := "packSpells", apart := false }
def PackSpellsSaid : Prop := packSpellsRow.holds Try.pinned (OpenSpec.ofChange packSpellsSpec)

/-- ITS FALSE NEIGHBOUR: 'it returns false'. Refute it at one input. -/
def packSpellsWrong : ChangeSpec := { name := "packSpells", fn := fun _ => fun
  | [d] => { results := [.lit (.bool false)], args := [d] }
  | _ => none }
def PackSpellsWrongFalsely : Prop := packSpellsRow.holds Try.pinned (OpenSpec.ofChange packSpellsWrong)

/-- 'twinlocklaw01.PackSizes': WHATEVER THE INPUT: true; the input reads as it did. -/
def packSizesSpec : ChangeSpec := { name := "packSizes", fn := fun _ => fun
  | [d1, d2, d3] => { results := [.lit (.bool true)], args := [d1, d2, d3] }
  | _ => none }
def packSizesRow : OpenClaim := { program := "ytbhkdimcdimcbaa", sum := "8eaa4d837ea8bf92e60b4d3e511c5655581f75f21fafcf6b15470006fd4260ba", func := "twinlock/twinlocklaw01.PackSizes", spec := "packSizes", apart := false }
def PackSizesSaid : Prop := packSizesRow.holds Try.pinned (OpenSpec.ofChange packSizesSpec)

/-- ITS FALSE NEIGHBOUR: 'it returns false'. Refute it at one input. -/
def packSizesWrong : ChangeSpec := { name := "packSizes", fn := fun _ => fun
  | [d1, d2, d3] => { results := [.lit (.bool false)], args := [d1, d2, d3] }
  | _ => none }
def PackSizesWrongFalsely : Prop := packSizesRow.holds Try.pinned (OpenSpec.ofChange packSizesWrong)

/-- 'twinlocklaw01.PackBounds': WHATEVER THE INPUT: true; the input reads as it did. -/
def packBoundsSpec : ChangeSpec := { name := "packBounds", fn := fun _ => fun
  | [d1, d2] => { results := [.lit (.bool true)], args := [d1, d2] }
  | _ => none }
def packBoundsRow : OpenClaim := { program := "ytbhkdimcdimcbaa", sum := "8eaa4d837ea8bf92e60b4d3e511c5655581f75f21fafcf6b15470006fd4260ba", func := "twinlock/twinlocklaw01.PackBounds", spec := "packBounds", apart := false }
def PackBoundsSaid : Prop := packBoundsRow.holds Try.pinned (OpenSpec.ofChange packBoundsSpec)

/-- ITS FALSE NEIGHBOUR: 'it returns false'. Refute it at one input. -/
def packBoundsWrong : ChangeSpec := { name := "packBounds", fn := fun _ => fun
  | [d1, d2] => { results := [.lit (.bool false)], args := [d1, d2] }
  | _ => none }
def PackBoundsWrongFalsely : Prop := packBoundsRow.holds Try.pinned (OpenSpec.ofChange packBoundsWrong)

/-- 'twinlocklaw01.PackTells': WHATEVER THE INPUT: true; the input reads as it did. -/
def packTellsSpec : ChangeSpec := { name := "packTells", fn := fun _ => fun
  | [d1, d2, d3] => { results := [.lit (.bool true)], args := [d1, d2, d3] }
  | _ => none }
def packTellsRow : OpenClaim := { program := "ytbhkdimcdimcbaa", sum := "8eaa4d837ea8bf92e60b4d3e511c5655581f75f21fafcf6b15470006fd4260ba", func := "twinlock/twinlocklaw01.PackTells", spec := "packTells", apart := false }
def PackTellsSaid : Prop := packTellsRow.holds Try.pinned (OpenSpec.ofChange packTellsSpec)

/-- ITS FALSE NEIGHBOUR: 'it returns false'. Refute it at one input. -/
def packTellsWrong : ChangeSpec := { name := "packTells", fn := fun _ => fun
  | [d1, d2, d3] => { results := [.lit (.bool false)], args := [d1, d2, d3] }
  | _ => none }
def PackTellsWrongFalsely : Prop := packTellsRow.holds Try.pinned (OpenSpec.ofChange packTellsWrong)

/-- 'twinlocklaw01.PackKnown': WHATEVER THE INPUT: true; the input reads as it did. -/
def packKnownSpec : ChangeSpec := { name := "packKnown", fn := fun _ => fun
  | [] => { results := [.lit (.bool true)], args := [] }
  | _ => none }
def packKnownRow : OpenClaim := { program := "ytbhkdimcdimcbaa", sum := "8eaa4d837ea8bf92e60b4d3e511c5655581f75f21fafcf6b15470006fd4260ba", func := "twinlock/twinlocklaw01.PackKnown", spec := "packKnown", apart := false }
def PackKnownSaid : Prop := packKnownRow.holds Try.pinned (OpenSpec.ofChange packKnownSpec)

/-- ITS FALSE NEIGHBOUR: 'it returns false'. Refute it at one input. -/
def packKnownWrong : ChangeSpec := { name := "packKnown", fn := fun _ => fun
  | [] => { results := [.lit (.bool false)], args := [] }
  | _ => none }
def PackKnownWrongFalsely : Prop := packKnownRow.holds Try.pinned (OpenSpec.ofChange packKnownWrong)

/-- 'twinlocklaw01.PackReturns': WHATEVER THE INPUT: true; the input reads as it did. -/
def packReturnsSpec : ChangeSpec := { name := "packReturns", fn := fun _ => fun
  | [d1, d2, d3] => { results := [.lit (.bool true)], args := [d1, d2, d3] }
  | _ => none }
def packReturnsRow : OpenClaim := { program := "ytbhkdimcdimcbaa", sum := "8eaa4d837ea8bf92e60b4d3e511c5655581f75f21fafcf6b15470006fd4260ba", func := "twinlock/twinlocklaw01.PackReturns", spec := "packReturns", apart := false }
def PackReturnsSaid : Prop := packReturnsRow.holds Try.pinned (OpenSpec.ofChange packReturnsSpec)

/-- ITS FALSE NEIGHBOUR: 'it returns false'. Refute it at one input. -/
def packReturnsWrong : ChangeSpec := { name := "packReturns", fn := fun _ => fun
  | [d1, d2, d3] => { results := [.lit (.bool false)], args := [d1, d2, d3] }
  | _ => none }
def PackReturnsWrongFalsely : Prop := packReturnsRow.holds Try.pinned (OpenSpec.ofChange packReturnsWrong)

/-- 'twinlocklaw01.PackCuts': WHATEVER THE INPUT: true; the input reads as it did. -/
def packCutsSpec : ChangeSpec := { name := "packCuts", fn := fun _ => fun
  | [d1, d2] => { results := [.lit (.bool true)], args := [d1, d2] }
  | _ => none }
def packCutsRow : OpenClaim := { program := "ytbhkdimcdimcbaa", sum := "8eaa4d837ea8bf92e60b4d3e511c5655581f75f21fafcf6b15470006fd4260ba", func := "twinlock/twinlocklaw01.PackCuts", spec := "packCuts", apart := false }
def PackCutsSaid : Prop := packCutsRow.holds Try.pinned (OpenSpec.ofChange packCutsSpec)

/-- ITS FALSE NEIGHBOUR: 'it returns false'. Refute it at one input. -/
def packCutsWrong : ChangeSpec := { name := "packCuts", fn := fun _ => fun
  | [d1, d2] => { results := [.lit (.bool false)], args := [d1, d2] }
  | _ => none }
def PackCutsWrongFalsely : Prop := packCutsRow.holds Try.pinned (OpenSpec.ofChange packCutsWrong)

/-- 'twinlocklaw01.PackFollows': WHATEVER THE INPUT: true; the input reads as it did. -/
def packFollowsSpec : ChangeSpec := { name := "packFollows", fn := fun _ => fun
  | [d1, d2] => { results := [.lit (.bool true)], args := [d1, d2] }
  | _ => none }
def packFollowsRow : OpenClaim := { program := "ytbhkdimcdimcbaa", sum := "8eaa4d837ea8bf92e60b4d3e511c5655581f75f21fafcf6b15470006fd4260ba", func := "twinlock/twinlocklaw01.PackFollows", spec := "packFollows", apart := false }
def PackFollowsSaid : Prop := packFollowsRow.holds Try.pinned (OpenSpec.ofChange packFollowsSpec)

/-- ITS FALSE NEIGHBOUR: 'it returns false'. Refute it at one input. -/
def packFollowsWrong : ChangeSpec := { name := "packFollows", fn := fun _ => fun
  | [d1, d2] => { results := [.lit (.bool false)], args := [d1, d2] }
  | _ => none }
def PackFollowsWrongFalsely : Prop := packFollowsRow.holds Try.pinned (OpenSpec.ofChange packFollowsWrong)

/- THE SECOND FORM. 'bulk': how many values and letters a reading holds, each counted each time it is reached (what is shared counts as often as it is met; a slice's spare places count too). A statement '..UptoSaid' is the law's where the arguments, and the package variables that the reading takes, are together of bulk at most 1048576: NARROWER than '..Said'. Prove '..Said' where nothing that the law and all that it calls make is longer than what came in: it says more and counts as full. Else prove '..UptoSaid'. A law counts once. -/
mutual
def uptoBulk {H : Type} : DataW H → Nat
  | .lit (.string bytes) => bytes.length + 1
  | .lit _ => 1
  | .nil => 1
  | .ptr d => uptoBulk d + 1
  | .slice elems spare => uptoBulkAll elems + uptoBulkAll spare + 1
  | .agg parts => uptoBulkAll parts + 1
  | .iface _ d => uptoBulk d + 1
  | .map entries => uptoBulkEntries entries + 1
  | .held _ => 1
def uptoBulkAll {H : Type} : List (DataW H) → Nat
  | [] => 0
  | d :: r => uptoBulk d + uptoBulkAll r
def uptoBulkEntries {H : Type} : List (Lit × DataW H) → Nat
  | [] => 0
  | x :: r => uptoBulkEntry x + uptoBulkEntries r
def uptoBulkEntry {H : Type} : Lit × DataW H → Nat
  | (.string bytes, d) => bytes.length + uptoBulk d + 1
  | (_, d) => uptoBulk d + 1
 end
def uptoSmall : (H : Type) → List (DataW H) → Bool := fun _ ds => decide (uptoBulkAll ds ≤ 1048576)
def OpenSpec.upto (s : _root_.Go.ChangeSpec) : _root_.Go.OpenSpec := { _root_.Go.OpenSpec.ofChange s with cond := some uptoSmall }

/-- 'twinlocklaw01.PackSpells', WHERE WHAT IT READS IS OF BULK AT MOST 1048576: true; the input reads as it did. -/
def packSpellsUptoRow : OpenClaim := { program := "ytbhkdimcdimcbaa", sum := "8eaa4d837ea8bf92e60b4d3e511c5655581f75f21fafcf6b15470006fd4260ba", func := "twinlock/twinlocklaw01.PackSpells", spec := "packSpells", apart := false, narrowed := true }
def PackSpellsUptoSaid : Prop := packSpellsUptoRow.holds Try.pinned (OpenSpec.upto packSpellsSpec)

/-- 'twinlocklaw01.PackSizes', WHERE WHAT IT READS IS OF BULK AT MOST 1048576: true; the input reads as it did. -/
def packSizesUptoRow : OpenClaim := { program := "ytbhkdimcdimcbaa", sum := "8eaa4d837ea8bf92e60b4d3e511c5655581f75f21fafcf6b15470006fd4260ba", func := "twinlock/twinlocklaw01.PackSizes", spec := "packSizes", apart := false, narrowed := true }
def PackSizesUptoSaid : Prop := packSizesUptoRow.holds Try.pinned (OpenSpec.upto packSizesSpec)

/-- 'twinlocklaw01.PackBounds', WHERE WHAT IT READS IS OF BULK AT MOST 1048576: true; the input reads as it did. -/
def packBoundsUptoRow : OpenClaim := { program := "ytbhkdimcdimcbaa", sum := "8eaa4d837ea8bf92e60b4d3e511c5655581f75f21fafcf6b15470006fd4260ba", func := "twinlock/twinlocklaw01.PackBounds", spec := "packBounds", apart := false, narrowed := true }
def PackBoundsUptoSaid : Prop := packBoundsUptoRow.holds Try.pinned (OpenSpec.upto packBoundsSpec)

/-- 'twinlocklaw01.PackTells', WHERE WHAT IT READS IS OF BULK AT MOST 1048576: true; the input reads as it did. -/
def packTellsUptoRow : OpenClaim := { program := "ytbhkdimcdimcbaa", sum := "8eaa4d837ea8bf92e60b4d3e511c5655581f75f21fafcf6b15470006fd4260ba", func := "twinlock/twinlocklaw01.PackTells", spec := "packTells", apart := false, narrowed := true }
def PackTellsUptoSaid : Prop := packTellsUptoRow.holds Try.pinned (OpenSpec.upto packTellsSpec)

/-- 'twinlocklaw01.PackKnown', WHERE WHAT IT READS IS OF BULK AT MOST 1048576: true; the input reads as it did. -/
def packKnownUptoRow : OpenClaim := { program := "ytbhkdimcdimcbaa", sum := "8eaa4d837ea8bf92e60b4d3e511c5655581f75f21fafcf6b15470006fd4260ba", func := "twinlock/twinlocklaw01.PackKnown", spec := "packKnown", apart := false, narrowed := true }
def PackKnownUptoSaid : Prop := packKnownUptoRow.holds Try.pinned (OpenSpec.upto packKnownSpec)

/-- 'twinlocklaw01.PackReturns', WHERE WHAT IT READS IS OF BULK AT MOST 1048576: true; the input reads as it did. -/
def packReturnsUptoRow : OpenClaim := { program := "ytbhkdimcdimcbaa", sum := "8eaa4d837ea8bf92e60b4d3e511c5655581f75f21fafcf6b15470006fd4260ba", func := "twinlock/twinlocklaw01.PackReturns", spec := "packReturns", apart := false, narrowed := true }
def PackReturnsUptoSaid : Prop := packReturnsUptoRow.holds Try.pinned (OpenSpec.upto packReturnsSpec)

/-- 'twinlocklaw01.PackCuts', WHERE WHAT IT READS IS OF BULK AT MOST 1048576: true; the input reads as it did. -/
def packCutsUptoRow : OpenClaim := { program := "ytbhkdimcdimcbaa", sum := "8eaa4d837ea8bf92e60b4d3e511c5655581f75f21fafcf6b15470006fd4260ba", func := "twinlock/twinlocklaw01.PackCuts", spec := "packCuts", apart := false, narrowed := true }
def PackCutsUptoSaid : Prop := packCutsUptoRow.holds Try.pinned (OpenSpec.upto packCutsSpec)

/-- 'twinlocklaw01.PackFollows', WHERE WHAT IT READS IS OF BULK AT MOST 1048576: true; the input reads as it did. -/
def packFollowsUptoRow : OpenClaim := { program := "ytbhkdimcdimcbaa", sum := "8eaa4d837ea8bf92e60b4d3e511c5655581f75f21fafcf6b15470006fd4260ba", func := "twinlock/twinlocklaw01.PackFollows", spec := "packFollows", apart := false, narrowed := true }
def PackFollowsUptoSaid : Prop := packFollowsUptoRow.holds Try.pinned (OpenSpec.upto packFollowsSpec)

end Rows
end Go.Proofs.Ytbhkdimcdimcbaa

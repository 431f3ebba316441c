/-
  No cell of these rows narrows 'for every input' (looked for: loops, veiled, ifaces, maps, wideKeys, modest, calm, conditions, laid).
  DERIVED. THE GIVEN ROWS OF THIS SEAT. 6 by the template 'for every input the law returns true; each argument reads behind the call as it read before'; 0 by the template 'total and deterministic' (their statements: YtmcgndbfoebcnaaTotals.lean).
  GIVEN WITH THE SEED: the statements are not yours to turn. If you find one false, say at which input.
  Laid BY PROGRAM, IN A SANDBOX (cutbox-rows.mjs): the forced cells as the released guide's own fill.sh prints them over the translation 93b247c3bbcc5c1c… (all of the seat's roots in one cut). By AI agents, Wed Nov 11 2026. No macro, syntax, notation, axiom, sorry.
-/
import Derived.Test.YtmcgndbfoebcnaaChecked
import GoSem.Claim
import GoSem.ClaimJoined
import GoSem.ClaimMapViews
import Derived.JoinedTies
import Derived.KernelRfl
namespace Go.Proofs.Ytmcgndbfoebcnaa
/- THE CELL 'sum', in the pinned program and in every row, IS THE sha256 OF THE DUMP (.gsa) THAT YtmcgndbfoebcnaaProg.lean LOADS. Nothing in Lean hashes anything: it is a label: what it is worth is what the hold of that sum in a sandbox is worth. -/
noncomputable def Try.pinned : Pinned := { name := "ytmcgndbfoebcnaa", sum := "93b247c3bbcc5c1c897e8e48e893e25e6ea8e63242031f561dc690b9a5074d9f", checked := Try.checked }
namespace Rows
def none {H : Type} : Left H := { results := [], args := [] }

/-- 'twinlocklaw20.ShipAnew': WHATEVER THE INPUT: true; the input reads as it did. -/
def shipAnewSpec : ChangeSpec := { name := "shipAnew", fn := fun _ => fun
  | [d1, d2, d3] => { results := [.lit (.bool true)], args := [d1, d2, d3] }
  | _ => none }
def shipAnewRow : OpenClaim := { program := "ytmcgndbfoebcnaa", sum := "93b247c3bbcc5c1c897e8e48e893e25e6ea8e63242031f561dc690b9a5074d9f", func := "twinlock/twinlocklaw20.ShipAnew", spec := "shipAnew", inPlace := ["internal/bytealg.IndexByteString", "internal/bytealg.IndexString", "internal/bytealg.abigen_runtime_cmpstring", "slices.overlaps[twinlock/api.Pair]"], unfollowed := true, recurses := true, named := ["internal/bytealg.MaxLen"], apart := false }
def ShipAnewSaid : Prop := shipAnewRow.holds Try.pinned (OpenSpec.ofChange shipAnewSpec)

/-- ITS FALSE NEIGHBOUR: 'it returns false'. Refute it at one input. -/
def shipAnewWrong : ChangeSpec := { name := "shipAnew", fn := fun _ => fun
  | [d1, d2, d3] => { results := [.lit (.bool false)], args := [d1, d2, d3] }
  | _ => none }
def ShipAnewWrongFalsely : Prop := shipAnewRow.holds Try.pinned (OpenSpec.ofChange shipAnewWrong)

/-- 'twinlocklaw20.ShipOwn': WHATEVER THE INPUT: true; the input reads as it did. -/
def shipOwnSpec : ChangeSpec := { name := "shipOwn", fn := fun _ => fun
  | [d1, d2] => { results := [.lit (.bool true)], args := [d1, d2] }
  | _ => none }
def shipOwnRow : OpenClaim := { program := "ytmcgndbfoebcnaa", sum := "93b247c3bbcc5c1c897e8e48e893e25e6ea8e63242031f561dc690b9a5074d9f", func := "twinlock/twinlocklaw20.ShipOwn", spec := "shipOwn", inPlace := ["internal/bytealg.IndexByteString", "internal/bytealg.IndexString", "internal/bytealg.abigen_runtime_cmpstring", "slices.overlaps[twinlock/api.Pair]"], unfollowed := true, recurses := true, named := ["internal/bytealg.MaxLen"], apart := false }
def ShipOwnSaid : Prop := shipOwnRow.holds Try.pinned (OpenSpec.ofChange shipOwnSpec)

/-- ITS FALSE NEIGHBOUR: 'it returns false'. Refute it at one input. -/
def shipOwnWrong : ChangeSpec := { name := "shipOwn", fn := fun _ => fun
  | [d1, d2] => { results := [.lit (.bool false)], args := [d1, d2] }
  | _ => none }
def ShipOwnWrongFalsely : Prop := shipOwnRow.holds Try.pinned (OpenSpec.ofChange shipOwnWrong)

/-- 'twinlocklaw20.ShipGoes': WHATEVER THE INPUT: true; the input reads as it did. -/
def shipGoesSpec : ChangeSpec := { name := "shipGoes", fn := fun _ => fun
  | [d1, d2] => { results := [.lit (.bool true)], args := [d1, d2] }
  | _ => none }
def shipGoesRow : OpenClaim := { program := "ytmcgndbfoebcnaa", sum := "93b247c3bbcc5c1c897e8e48e893e25e6ea8e63242031f561dc690b9a5074d9f", func := "twinlock/twinlocklaw20.ShipGoes", spec := "shipGoes", inPlace := ["internal/bytealg.IndexByteString", "internal/bytealg.IndexString", "internal/bytealg.abigen_runtime_cmpstring", "slices.overlaps[twinlock/api.Pair]"], unfollowed := true, recurses := true, named := ["internal/bytealg.MaxLen"], apart := false }
def ShipGoesSaid : Prop := shipGoesRow.holds Try.pinned (OpenSpec.ofChange shipGoesSpec)

/-- ITS FALSE NEIGHBOUR: 'it returns false'. Refute it at one input. -/
def shipGoesWrong : ChangeSpec := { name := "shipGoes", fn := fun _ => fun
  | [d1, d2] => { results := [.lit (.bool false)], args := [d1, d2] }
  | _ => none }
def ShipGoesWrongFalsely : Prop := shipGoesRow.holds Try.pinned (OpenSpec.ofChange shipGoesWrong)

/-- 'twinlocklaw20.ShipQuiet': WHATEVER THE INPUT: true; the input reads as it did. -/
def shipQuietSpec : ChangeSpec := { name := "shipQuiet", fn := fun _ => fun
  | [d1, d2, d3, d4] => { results := [.lit (.bool true)], args := [d1, d2, d3, d4] }
  | _ => none }
def shipQuietRow : OpenClaim := { program := "ytmcgndbfoebcnaa", sum := "93b247c3bbcc5c1c897e8e48e893e25e6ea8e63242031f561dc690b9a5074d9f", func := "twinlock/twinlocklaw20.ShipQuiet", spec := "shipQuiet", inPlace := ["internal/bytealg.IndexByteString", "internal/bytealg.IndexString", "internal/bytealg.abigen_runtime_cmpstring", "slices.overlaps[twinlock/api.Pair]"], unfollowed := true, recurses := true, named := ["internal/bytealg.MaxLen"], apart := false }
def ShipQuietSaid : Prop := shipQuietRow.holds Try.pinned (OpenSpec.ofChange shipQuietSpec)

/-- ITS FALSE NEIGHBOUR: 'it returns false'. Refute it at one input. -/
def shipQuietWrong : ChangeSpec := { name := "shipQuiet", fn := fun _ => fun
  | [d1, d2, d3, d4] => { results := [.lit (.bool false)], args := [d1, d2, d3, d4] }
  | _ => none }
def ShipQuietWrongFalsely : Prop := shipQuietRow.holds Try.pinned (OpenSpec.ofChange shipQuietWrong)

/-- 'twinlocklaw20.ShipKnown': WHATEVER THE INPUT: true; the input reads as it did. -/
def shipKnownSpec : ChangeSpec := { name := "shipKnown", fn := fun _ => fun
  | [] => { results := [.lit (.bool true)], args := [] }
  | _ => none }
def shipKnownRow : OpenClaim := { program := "ytmcgndbfoebcnaa", sum := "93b247c3bbcc5c1c897e8e48e893e25e6ea8e63242031f561dc690b9a5074d9f", func := "twinlock/twinlocklaw20.ShipKnown", spec := "shipKnown", inPlace := ["internal/bytealg.IndexByteString", "internal/bytealg.IndexString", "internal/bytealg.abigen_runtime_cmpstring", "slices.overlaps[twinlock/api.Pair]"], unfollowed := true, recurses := true, named := ["internal/bytealg.MaxLen"], apart := false }
def ShipKnownSaid : Prop := shipKnownRow.holds Try.pinned (OpenSpec.ofChange shipKnownSpec)

/-- ITS FALSE NEIGHBOUR: 'it returns false'. Refute it at one input. -/
def shipKnownWrong : ChangeSpec := { name := "shipKnown", fn := fun _ => fun
  | [] => { results := [.lit (.bool false)], args := [] }
  | _ => none }
def ShipKnownWrongFalsely : Prop := shipKnownRow.holds Try.pinned (OpenSpec.ofChange shipKnownWrong)

/-- 'twinlocklaw20.ShipNobody': WHATEVER THE INPUT: true; the input reads as it did. -/
def shipNobodySpec : ChangeSpec := { name := "shipNobody", fn := fun _ => fun
  | [d1, d2] => { results := [.lit (.bool true)], args := [d1, d2] }
  | _ => none }
def shipNobodyRow : OpenClaim := { program := "ytmcgndbfoebcnaa", sum := "93b247c3bbcc5c1c897e8e48e893e25e6ea8e63242031f561dc690b9a5074d9f", func := "twinlock/twinlocklaw20.ShipNobody", spec := "shipNobody", inPlace := ["internal/bytealg.IndexByteString", "internal/bytealg.IndexString", "internal/bytealg.abigen_runtime_cmpstring", "slices.overlaps[twinlock/api.Pair]"], unfollowed := true, recurses := true, named := ["internal/bytealg.MaxLen"], apart := false }
def ShipNobodySaid : Prop := shipNobodyRow.holds Try.pinned (OpenSpec.ofChange shipNobodySpec)

/-- ITS FALSE NEIGHBOUR: 'it returns false'. Refute it at one input. -/
def shipNobodyWrong : ChangeSpec := { name := "shipNobody", fn := fun _ => fun
  | [d1, d2] => { results := [.lit (.bool false)], args := [d1, d2] }
  | _ => none }
def ShipNobodyWrongFalsely : Prop := shipNobodyRow.holds Try.pinned (OpenSpec.ofChange shipNobodyWrong)

/- THE SECOND FORM. 'bulk': how many values and letters a reading holds, each counted each time it is reached (what is shared counts as often as it is met; a slice's spare places count too). A statement '..UptoSaid' is the law's where the arguments, and the package variables that the reading takes, are together of bulk at most 1048576: NARROWER than '..Said'. Prove '..Said' where nothing that the law and all that it calls make is longer than what came in: it says more and counts as full. Else prove '..UptoSaid'. A law counts once. -/
mutual
def uptoBulk {H : Type} : DataW H → Nat
  | .lit (.string bytes) => bytes.length + 1
  | .lit _ => 1
  | .nil => 1
  | .ptr d => uptoBulk d + 1
  | .slice elems spare => uptoBulkAll elems + uptoBulkAll spare + 1
  | .agg parts => uptoBulkAll parts + 1
  | .iface _ d => uptoBulk d + 1
  | .map entries => uptoBulkEntries entries + 1
  | .held _ => 1
def uptoBulkAll {H : Type} : List (DataW H) → Nat
  | [] => 0
  | d :: r => uptoBulk d + uptoBulkAll r
def uptoBulkEntries {H : Type} : List (Lit × DataW H) → Nat
  | [] => 0
  | x :: r => uptoBulkEntry x + uptoBulkEntries r
def uptoBulkEntry {H : Type} : Lit × DataW H → Nat
  | (.string bytes, d) => bytes.length + uptoBulk d + 1
  | (_, d) => uptoBulk d + 1
 end
def uptoSmall : (H : Type) → List (DataW H) → Bool := fun _ ds => decide (uptoBulkAll ds ≤ 1048576)
def OpenSpec.upto (s : _root_.Go.ChangeSpec) : _root_.Go.OpenSpec := { _root_.Go.OpenSpec.ofChange s with cond := some uptoSmall }

/-- 'twinlocklaw20.ShipAnew', WHERE WHAT IT READS IS OF BULK AT MOST 1048576: true; the input reads as it did. -/
def shipAnewUptoRow : OpenClaim := { program := "ytmcgndbfoebcnaa", sum := "93b247c3bbcc5c1c897e8e48e893e25e6ea8e63242031f561dc690b9a5074d9f", func := "twinlock/twinlocklaw20.ShipAnew", spec := "shipAnew", inPlace := ["internal/bytealg.IndexByteString", "internal/bytealg.IndexString", "internal/bytealg.abigen_runtime_cmpstring", "slices.overlaps[twinlock/api.Pair]"], unfollowed := true, recurses := true, named := ["internal/bytealg.MaxLen"], apart := false, narrowed := true }
def ShipAnewUptoSaid : Prop := shipAnewUptoRow.holds Try.pinned (OpenSpec.upto shipAnewSpec)

/-- 'twinlocklaw20.ShipOwn', WHERE WHAT IT READS IS OF BULK AT MOST 1048576: true; the input reads as it did. -/
def shipOwnUptoRow : OpenClaim := { program := "ytmcgndbfoebcnaa", sum := "93b247c3bbcc5c1c897e8e48e893e25e6ea8e63242031f561dc690b9a5074d9f", func := "twinlock/twinlocklaw20.ShipOwn", spec := "shipOwn", inPlace := ["internal/bytealg.IndexByteString", "internal/bytealg.IndexString", "internal/bytealg.abigen_runtime_cmpstring", "slices.overlaps[twinlock/api.Pair]"], unfollowed := true, recurses := true, named := ["internal/bytealg.MaxLen"], apart := false, narrowed := true }
def ShipOwnUptoSaid : Prop := shipOwnUptoRow.holds Try.pinned (OpenSpec.upto shipOwnSpec)

/-- 'twinlocklaw20.ShipGoes', WHERE WHAT IT READS IS OF BULK AT MOST 1048576: true; the input reads as it did. -/
def shipGoesUptoRow : OpenClaim := { program := "ytmcgndbfoebcnaa", sum := "93b247c3bbcc5c1c897e8e48e893e25e6ea8e63242031f561dc690b9a5074d9f", func := "twinlock/twinlocklaw20.ShipGoes", spec := "shipGoes", inPlace := ["internal/bytealg.IndexByteString", "internal/bytealg.IndexString", "internal/bytealg.abigen_runtime_cmpstring", "slices.overlaps[twinlock/api.Pair]"], unfollowed := true, recurses := true, named := ["internal/bytealg.MaxLen"], apart := false, narrowed := true }
def ShipGoesUptoSaid : Prop := shipGoesUptoRow.holds Try.pinned (OpenSpec.upto shipGoesSpec)

/-- 'twinlocklaw20.ShipQuiet', WHERE WHAT IT READS IS OF BULK AT MOST 1048576: true; the input reads as it did. -/
def shipQuietUptoRow : OpenClaim := { program := "ytmcgndbfoebcnaa", sum := "93b247c3bbcc5c1c897e8e48e893e25e6ea8e63242031f561dc690b9a5074d9f", func := "twinlock/twinlocklaw20.ShipQuiet", spec := "shipQuiet", inPlace := ["internal/bytealg.IndexByteString", "internal/bytealg.IndexString", "internal/bytealg.abigen_runtime_cmpstring", "slices.overlaps[twinlock/api.Pair]"], unfollowed := true, recurses := true, named := ["internal/bytealg.MaxLen"], apart := false, narrowed := true }
def ShipQuietUptoSaid : Prop := shipQuietUptoRow.holds Try.pinned (OpenSpec.upto shipQuietSpec)

/-- 'twinlocklaw20.ShipKnown', WHERE WHAT IT READS IS OF BULK AT MOST 1048576: true; the input reads as it did. -/
def shipKnownUptoRow : OpenClaim := { program := "ytmcgndbfoebcnaa", sum := "93b247c3bbcc5c1c897e8e48e893e25e6ea8e63242031f561dc690b9a5074d9f", func := "twinlock/twinlocklaw20.ShipKnown", spec := "shipKnown", inPlace := ["internal/bytealg.IndexByteString", "internal/bytealg.IndexString", "internal/bytealg.abigen_runtime_cmpstring", "slices.overlaps[twinlock/api.Pair]"], unfollowed := true, recurses := true, named := ["internal/bytealg.MaxLen"], apart := false, narrowed := true }
def ShipKnownUptoSaid : Prop := shipKnownUptoRow.holds Try.pinned (OpenSpec.upto shipKnownSpec)

/-- 'twinlocklaw20.ShipNobody', WHERE WHAT IT READS IS OF BULK AT MOST 1048576: true; the input reads as it did. -/
def shipNobodyUptoRow : OpenClaim := { program := "ytmcgndbfoebcnaa", sum := "93b247c3bbcc5c1c897e8e48e893e25e6ea8e63242031f561dc690b9a5074d9f", func := "twinlock/twinlocklaw20.ShipNobody", spec := "shipNobody", inPlace := ["internal/bytealg.IndexByteString", "internal/bytealg.IndexString", "internal/bytealg.abigen_runtime_cmpstring", "slices.overlaps[twinlock/api.Pair]"], unfollowed := true, recurses := true, named := ["internal/bytealg.MaxLen"], apart := false, narrowed := true }
def ShipNobodyUptoSaid : Prop := shipNobodyUptoRow.holds Try.pinned (OpenSpec.upto shipNobodySpec)

end Rows
end Go.Proofs.Ytmcgndbfoebcnaa

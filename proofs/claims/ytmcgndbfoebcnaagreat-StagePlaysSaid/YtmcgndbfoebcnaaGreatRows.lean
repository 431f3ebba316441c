/-
  No cell of these rows narrows 'for every input' (looked for: loops, veiled, ifaces, maps, wideKeys, modest, calm, conditions, laid).
  DERIVED. THE GIVEN ROWS OF THIS SEAT. 15 by the template 'for every input the law returns true; each argument reads behind the call as it read before'; 0 by the template 'total and deterministic' (their statements: YtmcgndbfoebcnaaGreatTotals.lean).
  GIVEN WITH THE SEED: the statements are not yours to turn. If you find one false, say at which input.
  Laid BY PROGRAM, IN A SANDBOX (cutbox-rows.mjs): the forced cells as the released guide's own fill.sh prints them over the translation 54e78906645b11f1… (all of the seat's roots in one cut). By AI agents, Wed Nov 11 2026. No macro, syntax, notation, axiom, sorry.
-/
import Derived.Test.YtmcgndbfoebcnaaGreatChecked
import GoSem.Claim
import GoSem.ClaimJoined
import GoSem.ClaimMapViews
import Derived.JoinedTies
import Derived.KernelRfl
namespace Go.Proofs.YtmcgndbfoebcnaaGreat
/- THE CELL 'sum', in the pinned program and in every row, IS THE sha256 OF THE DUMP (.gsa) THAT YtmcgndbfoebcnaaGreatProg.lean LOADS. Nothing in Lean hashes anything: it is a label: what it is worth is what the hold of that sum in a sandbox is worth. -/
noncomputable def Tryz.pinned : Pinned := { name := "ytmcgndbfoebcnaagreat", sum := "54e78906645b11f1d4d548c0598013844b456b5e667d29164d0f4508a783b993", checked := Tryz.checked }
namespace Rows
def none {H : Type} : Left H := { results := [], args := [] }

/-- 'twinlocklaw15.TreePlays': WHATEVER THE INPUT: true; the input reads as it did. -/
def treePlaysSpec : ChangeSpec := { name := "treePlays", fn := fun _ => fun
  | [d] => { results := [.lit (.bool true)], args := [d] }
  | _ => none }
def treePlaysRow : OpenClaim := { program := "ytmcgndbfoebcnaagreat", sum := "54e78906645b11f1d4d548c0598013844b456b5e667d29164d0f4508a783b993", func := "twinlock/twinlocklaw15.TreePlays", spec := "treePlays", inPlace := ["internal/bytealg.IndexByteString", "internal/bytealg.IndexString", "internal/bytealg.abigen_runtime_cmpstring", "slices.overlaps[twinlock/api.Pair]"], unfollowed := true, recurses := true, named := ["internal/bytealg.MaxLen"], plainKeys := false, apart := false }
def TreePlaysSaid : Prop := treePlaysRow.holds Tryz.pinned (OpenSpec.ofChange treePlaysSpec)

/-- ITS FALSE NEIGHBOUR: 'it returns false'. Refute it at one input. -/
def treePlaysWrong : ChangeSpec := { name := "treePlays", fn := fun _ => fun
  | [d] => { results := [.lit (.bool false)], args := [d] }
  | _ => none }
def TreePlaysWrongFalsely : Prop := treePlaysRow.holds Tryz.pinned (OpenSpec.ofChange treePlaysWrong)

/-- 'twinlocklaw15.TreeMakes': WHATEVER THE INPUT: true; the input reads as it did. -/
def treeMakesSpec : ChangeSpec := { name := "treeMakes", fn := fun _ => fun
  | [d1, d2, d3] => { results := [.lit (.bool true)], args := [d1, d2, d3] }
  | _ => none }
def treeMakesRow : OpenClaim := { program := "ytmcgndbfoebcnaagreat", sum := "54e78906645b11f1d4d548c0598013844b456b5e667d29164d0f4508a783b993", func := "twinlock/twinlocklaw15.TreeMakes", spec := "treeMakes", inPlace := ["internal/bytealg.IndexByteString", "internal/bytealg.IndexString", "internal/bytealg.abigen_runtime_cmpstring", "slices.overlaps[twinlock/api.Pair]"], unfollowed := true, recurses := true, named := ["internal/bytealg.MaxLen"], plainKeys := false, apart := false }
def TreeMakesSaid : Prop := treeMakesRow.holds Tryz.pinned (OpenSpec.ofChange treeMakesSpec)

/-- ITS FALSE NEIGHBOUR: 'it returns false'. Refute it at one input. -/
def treeMakesWrong : ChangeSpec := { name := "treeMakes", fn := fun _ => fun
  | [d1, d2, d3] => { results := [.lit (.bool false)], args := [d1, d2, d3] }
  | _ => none }
def TreeMakesWrongFalsely : Prop := treeMakesRow.holds Tryz.pinned (OpenSpec.ofChange treeMakesWrong)

/-- 'twinlocklaw20.ShipCopies': WHATEVER THE INPUT: true; the input reads as it did. -/
def shipCopiesSpec : ChangeSpec := { name := "shipCopies", fn := fun _ => fun
  | [d1, d2, d3] => { results := [.lit (.bool true)], args := [d1, d2, d3] }
  | _ => none }
def shipCopiesRow : OpenClaim := { program := "ytmcgndbfoebcnaagreat", sum := "54e78906645b11f1d4d548c0598013844b456b5e667d29164d0f4508a783b993", func := "twinlock/twinlocklaw20.ShipCopies", spec := "shipCopies", inPlace := ["internal/bytealg.IndexByteString", "internal/bytealg.IndexString", "internal/bytealg.abigen_runtime_cmpstring", "slices.overlaps[twinlock/api.Pair]"], unfollowed := true, recurses := true, named := ["internal/bytealg.MaxLen"], plainKeys := false, apart := false }
def ShipCopiesSaid : Prop := shipCopiesRow.holds Tryz.pinned (OpenSpec.ofChange shipCopiesSpec)

/-- ITS FALSE NEIGHBOUR: 'it returns false'. Refute it at one input. -/
def shipCopiesWrong : ChangeSpec := { name := "shipCopies", fn := fun _ => fun
  | [d1, d2, d3] => { results := [.lit (.bool false)], args := [d1, d2, d3] }
  | _ => none }
def ShipCopiesWrongFalsely : Prop := shipCopiesRow.holds Tryz.pinned (OpenSpec.ofChange shipCopiesWrong)

/-- 'twinlocklaw16.WalkNobody': WHATEVER THE INPUT: true; the input reads as it did. -/
def walkNobodySpec : ChangeSpec := { name := "walkNobody", fn := fun _ => fun
  | [d1, d2, d3, d4, d5] => { results := [.lit (.bool true)], args := [d1, d2, d3, d4, d5] }
  | _ => none }
def walkNobodyRow : OpenClaim := { program := "ytmcgndbfoebcnaagreat", sum := "54e78906645b11f1d4d548c0598013844b456b5e667d29164d0f4508a783b993", func := "twinlock/twinlocklaw16.WalkNobody", spec := "walkNobody", inPlace := ["internal/bytealg.IndexByteString", "internal/bytealg.IndexString", "internal/bytealg.abigen_runtime_cmpstring", "slices.overlaps[twinlock/api.Pair]"], unfollowed := true, recurses := true, named := ["internal/bytealg.MaxLen"], plainKeys := false, apart := false }
def WalkNobodySaid : Prop := walkNobodyRow.holds Tryz.pinned (OpenSpec.ofChange walkNobodySpec)

/-- ITS FALSE NEIGHBOUR: 'it returns false'. Refute it at one input. -/
def walkNobodyWrong : ChangeSpec := { name := "walkNobody", fn := fun _ => fun
  | [d1, d2, d3, d4, d5] => { results := [.lit (.bool false)], args := [d1, d2, d3, d4, d5] }
  | _ => none }
def WalkNobodyWrongFalsely : Prop := walkNobodyRow.holds Tryz.pinned (OpenSpec.ofChange walkNobodyWrong)

/-- 'twinlocklaw16.WalkQuiet': WHATEVER THE INPUT: true; the input reads as it did. -/
def walkQuietSpec : ChangeSpec := { name := "walkQuiet", fn := fun _ => fun
  | [d1, d2, d3] => { results := [.lit (.bool true)], args := [d1, d2, d3] }
  | _ => none }
def walkQuietRow : OpenClaim := { program := "ytmcgndbfoebcnaagreat", sum := "54e78906645b11f1d4d548c0598013844b456b5e667d29164d0f4508a783b993", func := "twinlock/twinlocklaw16.WalkQuiet", spec := "walkQuiet", inPlace := ["internal/bytealg.IndexByteString", "internal/bytealg.IndexString", "internal/bytealg.abigen_runtime_cmpstring", "slices.overlaps[twinlock/api.Pair]"], unfollowed := true, recurses := true, named := ["internal/bytealg.MaxLen"], plainKeys := false, apart := false }
def WalkQuietSaid : Prop := walkQuietRow.holds Tryz.pinned (OpenSpec.ofChange walkQuietSpec)

/-- ITS FALSE NEIGHBOUR: 'it returns false'. Refute it at one input. -/
def walkQuietWrong : ChangeSpec := { name := "walkQuiet", fn := fun _ => fun
  | [d1, d2, d3] => { results := [.lit (.bool false)], args := [d1, d2, d3] }
  | _ => none }
def WalkQuietWrongFalsely : Prop := walkQuietRow.holds Tryz.pinned (OpenSpec.ofChange walkQuietWrong)

/-- 'twinlocklaw16.WalkKnown': WHATEVER THE INPUT: true; the input reads as it did. -/
def walkKnownSpec : ChangeSpec := { name := "walkKnown", fn := fun _ => fun
  | [] => { results := [.lit (.bool true)], args := [] }
  | _ => none }
def walkKnownRow : OpenClaim := { program := "ytmcgndbfoebcnaagreat", sum := "54e78906645b11f1d4d548c0598013844b456b5e667d29164d0f4508a783b993", func := "twinlock/twinlocklaw16.WalkKnown", spec := "walkKnown", inPlace := ["internal/bytealg.IndexByteString", "internal/bytealg.IndexString", "internal/bytealg.abigen_runtime_cmpstring", "slices.overlaps[twinlock/api.Pair]"], unfollowed := true, recurses := true, named := ["internal/bytealg.MaxLen"], plainKeys := false, apart := false }
def WalkKnownSaid : Prop := walkKnownRow.holds Tryz.pinned (OpenSpec.ofChange walkKnownSpec)

/-- ITS FALSE NEIGHBOUR: 'it returns false'. Refute it at one input. -/
def walkKnownWrong : ChangeSpec := { name := "walkKnown", fn := fun _ => fun
  | [] => { results := [.lit (.bool false)], args := [] }
  | _ => none }
def WalkKnownWrongFalsely : Prop := walkKnownRow.holds Tryz.pinned (OpenSpec.ofChange walkKnownWrong)

/-- 'twinlocklaw16.WalkPlays': WHATEVER THE INPUT: true; the input reads as it did. -/
def walkPlaysSpec : ChangeSpec := { name := "walkPlays", fn := fun _ => fun
  | [d1, d2, d3, d4] => { results := [.lit (.bool true)], args := [d1, d2, d3, d4] }
  | _ => none }
def walkPlaysRow : OpenClaim := { program := "ytmcgndbfoebcnaagreat", sum := "54e78906645b11f1d4d548c0598013844b456b5e667d29164d0f4508a783b993", func := "twinlock/twinlocklaw16.WalkPlays", spec := "walkPlays", inPlace := ["internal/bytealg.IndexByteString", "internal/bytealg.IndexString", "internal/bytealg.abigen_runtime_cmpstring", "slices.overlaps[twinlock/api.Pair]"], unfollowed := true, recurses := true, named := ["internal/bytealg.MaxLen"], plainKeys := false, apart := false }
def WalkPlaysSaid : Prop := walkPlaysRow.holds Tryz.pinned (OpenSpec.ofChange walkPlaysSpec)

/-- ITS FALSE NEIGHBOUR: 'it returns false'. Refute it at one input. -/
def walkPlaysWrong : ChangeSpec := { name := "walkPlays", fn := fun _ => fun
  | [d1, d2, d3, d4] => { results := [.lit (.bool false)], args := [d1, d2, d3, d4] }
  | _ => none }
def WalkPlaysWrongFalsely : Prop := walkPlaysRow.holds Tryz.pinned (OpenSpec.ofChange walkPlaysWrong)

/-- 'twinlocklaw16.WalkFew': WHATEVER THE INPUT: true; the input reads as it did. -/
def walkFewSpec : ChangeSpec := { name := "walkFew", fn := fun _ => fun
  | [d1, d2] => { results := [.lit (.bool true)], args := [d1, d2] }
  | _ => none }
def walkFewRow : OpenClaim := { program := "ytmcgndbfoebcnaagreat", sum := "54e78906645b11f1d4d548c0598013844b456b5e667d29164d0f4508a783b993", func := "twinlock/twinlocklaw16.WalkFew", spec := "walkFew", inPlace := ["internal/bytealg.IndexByteString", "internal/bytealg.IndexString", "internal/bytealg.abigen_runtime_cmpstring", "slices.overlaps[twinlock/api.Pair]"], unfollowed := true, recurses := true, named := ["internal/bytealg.MaxLen"], plainKeys := false, apart := false }
def WalkFewSaid : Prop := walkFewRow.holds Tryz.pinned (OpenSpec.ofChange walkFewSpec)

/-- ITS FALSE NEIGHBOUR: 'it returns false'. Refute it at one input. -/
def walkFewWrong : ChangeSpec := { name := "walkFew", fn := fun _ => fun
  | [d1, d2] => { results := [.lit (.bool false)], args := [d1, d2] }
  | _ => none }
def WalkFewWrongFalsely : Prop := walkFewRow.holds Tryz.pinned (OpenSpec.ofChange walkFewWrong)

/-- 'twinlocklaw16.WalkLevel': WHATEVER THE INPUT: true; the input reads as it did. -/
def walkLevelSpec : ChangeSpec := { name := "walkLevel", fn := fun _ => fun
  | [d1, d2, d3] => { results := [.lit (.bool true)], args := [d1, d2, d3] }
  | _ => none }
def walkLevelRow : OpenClaim := { program := "ytmcgndbfoebcnaagreat", sum := "54e78906645b11f1d4d548c0598013844b456b5e667d29164d0f4508a783b993", func := "twinlock/twinlocklaw16.WalkLevel", spec := "walkLevel", inPlace := ["internal/bytealg.IndexByteString", "internal/bytealg.IndexString", "internal/bytealg.abigen_runtime_cmpstring", "slices.overlaps[twinlock/api.Pair]"], unfollowed := true, recurses := true, named := ["internal/bytealg.MaxLen"], plainKeys := false, apart := false }
def WalkLevelSaid : Prop := walkLevelRow.holds Tryz.pinned (OpenSpec.ofChange walkLevelSpec)

/-- ITS FALSE NEIGHBOUR: 'it returns false'. Refute it at one input. -/
def walkLevelWrong : ChangeSpec := { name := "walkLevel", fn := fun _ => fun
  | [d1, d2, d3] => { results := [.lit (.bool false)], args := [d1, d2, d3] }
  | _ => none }
def WalkLevelWrongFalsely : Prop := walkLevelRow.holds Tryz.pinned (OpenSpec.ofChange walkLevelWrong)

/-- 'twinlocklaw22.StageOthers': WHATEVER THE INPUT: true; the input reads as it did. -/
def stageOthersSpec : ChangeSpec := { name := "stageOthers", fn := fun _ => fun
  | [d1, d2, d3] => { results := [.lit (.bool true)], args := [d1, d2, d3] }
  | _ => none }
def stageOthersRow : OpenClaim := { program := "ytmcgndbfoebcnaagreat", sum := "54e78906645b11f1d4d548c0598013844b456b5e667d29164d0f4508a783b993", func := "twinlock/twinlocklaw22.StageOthers", spec := "stageOthers", inPlace := ["internal/bytealg.IndexByteString", "internal/bytealg.IndexString", "internal/bytealg.abigen_runtime_cmpstring", "slices.overlaps[twinlock/api.Pair]"], unfollowed := true, recurses := true, named := ["internal/bytealg.MaxLen"], plainKeys := false, apart := false }
def StageOthersSaid : Prop := stageOthersRow.holds Tryz.pinned (OpenSpec.ofChange stageOthersSpec)

/-- ITS FALSE NEIGHBOUR: 'it returns false'. Refute it at one input. -/
def stageOthersWrong : ChangeSpec := { name := "stageOthers", fn := fun _ => fun
  | [d1, d2, d3] => { results := [.lit (.bool false)], args := [d1, d2, d3] }
  | _ => none }
def StageOthersWrongFalsely : Prop := stageOthersRow.holds Tryz.pinned (OpenSpec.ofChange stageOthersWrong)

/-- 'twinlocklaw22.StageNobody': WHATEVER THE INPUT: true; the input reads as it did. -/
def stageNobodySpec : ChangeSpec := { name := "stageNobody", fn := fun _ => fun
  | [d1, d2, d3, d4] => { results := [.lit (.bool true)], args := [d1, d2, d3, d4] }
  | _ => none }
def stageNobodyRow : OpenClaim := { program := "ytmcgndbfoebcnaagreat", sum := "54e78906645b11f1d4d548c0598013844b456b5e667d29164d0f4508a783b993", func := "twinlock/twinlocklaw22.StageNobody", spec := "stageNobody", inPlace := ["internal/bytealg.IndexByteString", "internal/bytealg.IndexString", "internal/bytealg.abigen_runtime_cmpstring", "slices.overlaps[twinlock/api.Pair]"], unfollowed := true, recurses := true, named := ["internal/bytealg.MaxLen"], plainKeys := false, apart := false }
def StageNobodySaid : Prop := stageNobodyRow.holds Tryz.pinned (OpenSpec.ofChange stageNobodySpec)

/-- ITS FALSE NEIGHBOUR: 'it returns false'. Refute it at one input. -/
def stageNobodyWrong : ChangeSpec := { name := "stageNobody", fn := fun _ => fun
  | [d1, d2, d3, d4] => { results := [.lit (.bool false)], args := [d1, d2, d3, d4] }
  | _ => none }
def StageNobodyWrongFalsely : Prop := stageNobodyRow.holds Tryz.pinned (OpenSpec.ofChange stageNobodyWrong)

/-- 'twinlocklaw22.StageAnew': WHATEVER THE INPUT: true; the input reads as it did. -/
def stageAnewSpec : ChangeSpec := { name := "stageAnew", fn := fun _ => fun
  | [d1, d2, d3] => { results := [.lit (.bool true)], args := [d1, d2, d3] }
  | _ => none }
def stageAnewRow : OpenClaim := { program := "ytmcgndbfoebcnaagreat", sum := "54e78906645b11f1d4d548c0598013844b456b5e667d29164d0f4508a783b993", func := "twinlock/twinlocklaw22.StageAnew", spec := "stageAnew", inPlace := ["internal/bytealg.IndexByteString", "internal/bytealg.IndexString", "internal/bytealg.abigen_runtime_cmpstring", "slices.overlaps[twinlock/api.Pair]"], unfollowed := true, recurses := true, named := ["internal/bytealg.MaxLen"], plainKeys := false, apart := false }
def StageAnewSaid : Prop := stageAnewRow.holds Tryz.pinned (OpenSpec.ofChange stageAnewSpec)

/-- ITS FALSE NEIGHBOUR: 'it returns false'. Refute it at one input. -/
def stageAnewWrong : ChangeSpec := { name := "stageAnew", fn := fun _ => fun
  | [d1, d2, d3] => { results := [.lit (.bool false)], args := [d1, d2, d3] }
  | _ => none }
def StageAnewWrongFalsely : Prop := stageAnewRow.holds Tryz.pinned (OpenSpec.ofChange stageAnewWrong)

/-- 'twinlocklaw22.StageKnown': WHATEVER THE INPUT: true; the input reads as it did. -/
def stageKnownSpec : ChangeSpec := { name := "stageKnown", fn := fun _ => fun
  | [] => { results := [.lit (.bool true)], args := [] }
  | _ => none }
def stageKnownRow : OpenClaim := { program := "ytmcgndbfoebcnaagreat", sum := "54e78906645b11f1d4d548c0598013844b456b5e667d29164d0f4508a783b993", func := "twinlock/twinlocklaw22.StageKnown", spec := "stageKnown", inPlace := ["internal/bytealg.IndexByteString", "internal/bytealg.IndexString", "internal/bytealg.abigen_runtime_cmpstring", "slices.overlaps[twinlock/api.Pair]"], unfollowed := true, recurses := true, named := ["internal/bytealg.MaxLen"], plainKeys := false, apart := false }
def StageKnownSaid : Prop := stageKnownRow.holds Tryz.pinned (OpenSpec.ofChange stageKnownSpec)

/-- ITS FALSE NEIGHBOUR: 'it returns false'. Refute it at one input. -/
def stageKnownWrong : ChangeSpec := { name := "stageKnown", fn := fun _ => fun
  | [] => { results := [.lit (.bool false)], args := [] }
  | _ => none }
def StageKnownWrongFalsely : Prop := stageKnownRow.holds Tryz.pinned (OpenSpec.ofChange stageKnownWrong)

/-- 'twinlocklaw22.StagePlays': WHATEVER THE INPUT: true; the input reads as it did. -/
def stagePlaysSpec : ChangeSpec := { name := "stagePlays", fn := fun _ => fun
  | [d1, d2, d3, d4] => { results := [.lit (.bool true)], args := [d1, d2, d3, d4] }
  | _ => none }
def stagePlaysRow : OpenClaim := { program := "ytmcgndbfoebcnaagreat", sum := "54e78906645b11f1d4d548c0598013844b456b5e667d29164d0f4508a783b993", func := "twinlock/twinlocklaw22.StagePlays", spec := "stagePlays", inPlace := ["internal/bytealg.IndexByteString", "internal/bytealg.IndexString", "internal/bytealg.abigen_runtime_cmpstring", "slices.overlaps[twinlock/api.Pair]"], unfollowed := true, recurses := true, named := ["internal/bytealg.MaxLen"], plainKeys := false, apart := false }
def StagePlaysSaid : Prop := stagePlaysRow.holds Tryz.pinned (OpenSpec.ofChange stagePlaysSpec)

/-- ITS FALSE NEIGHBOUR: 'it returns false'. Refute it at one input. -/
def stagePlaysWrong : ChangeSpec := { name := "stagePlays", fn := fun _ => fun
  | [d1, d2, d3, d4] => { results := [.lit (.bool false)], args := [d1, d2, d3, d4] }
  | _ => none }
def StagePlaysWrongFalsely : Prop := stagePlaysRow.holds Tryz.pinned (OpenSpec.ofChange stagePlaysWrong)

/-- 'twinlocklaw22.StageShips': WHATEVER THE INPUT: true; the input reads as it did. -/
def stageShipsSpec : ChangeSpec := { name := "stageShips", fn := fun _ => fun
  | [d1, d2, d3] => { results := [.lit (.bool true)], args := [d1, d2, d3] }
  | _ => none }
def stageShipsRow : OpenClaim := { program := "ytmcgndbfoebcnaagreat", sum := "54e78906645b11f1d4d548c0598013844b456b5e667d29164d0f4508a783b993", func := "twinlock/twinlocklaw22.StageShips", spec := "stageShips", inPlace := ["internal/bytealg.IndexByteString", "internal/bytealg.IndexString", "internal/bytealg.abigen_runtime_cmpstring", "slices.overlaps[twinlock/api.Pair]"], unfollowed := true, recurses := true, named := ["internal/bytealg.MaxLen"], plainKeys := false, apart := false }
def StageShipsSaid : Prop := stageShipsRow.holds Tryz.pinned (OpenSpec.ofChange stageShipsSpec)

/-- ITS FALSE NEIGHBOUR: 'it returns false'. Refute it at one input. -/
def stageShipsWrong : ChangeSpec := { name := "stageShips", fn := fun _ => fun
  | [d1, d2, d3] => { results := [.lit (.bool false)], args := [d1, d2, d3] }
  | _ => none }
def StageShipsWrongFalsely : Prop := stageShipsRow.holds Tryz.pinned (OpenSpec.ofChange stageShipsWrong)

/- THE SECOND FORM. 'bulk': how many values and letters a reading holds, each counted each time it is reached (what is shared counts as often as it is met; a slice's spare places count too). A statement '..UptoSaid' is the law's where the arguments, and the package variables that the reading takes, are together of bulk at most 1048576: NARROWER than '..Said'. Prove '..Said' where nothing that the law and all that it calls make is longer than what came in: it says more and counts as full. Else prove '..UptoSaid'. A law counts once. -/
mutual
def uptoBulk {H : Type} : DataW H → Nat
  | .lit (.string bytes) => bytes.length + 1
  | .lit _ => 1
  | .nil => 1
  | .ptr d => uptoBulk d + 1
  | .slice elems spare => uptoBulkAll elems + uptoBulkAll spare + 1
  | .agg parts => uptoBulkAll parts + 1
  | .iface _ d => uptoBulk d + 1
  | .map entries => uptoBulkEntries entries + 1
  | .held _ => 1
def uptoBulkAll {H : Type} : List (DataW H) → Nat
  | [] => 0
  | d :: r => uptoBulk d + uptoBulkAll r
def uptoBulkEntries {H : Type} : List (Lit × DataW H) → Nat
  | [] => 0
  | x :: r => uptoBulkEntry x + uptoBulkEntries r
def uptoBulkEntry {H : Type} : Lit × DataW H → Nat
  | (.string bytes, d) => bytes.length + uptoBulk d + 1
  | (_, d) => uptoBulk d + 1
 end
def uptoSmall : (H : Type) → List (DataW H) → Bool := fun _ ds => decide (uptoBulkAll ds ≤ 1048576)
def OpenSpec.upto (s : _root_.Go.ChangeSpec) : _root_.Go.OpenSpec := { _root_.Go.OpenSpec.ofChange s with cond := some uptoSmall }

/-- 'twinlocklaw15.TreePlays', WHERE WHAT IT READS IS OF BULK AT MOST 1048576: true; the input reads as it did. -/
def treePlaysUptoRow : OpenClaim := { program := "ytmcgndbfoebcnaagreat", sum := "54e78906645b11f1d4d548c0598013844b456b5e667d29164d0f4508a783b993", func := "twinlock/twinlocklaw15.TreePlays", spec := "treePlays", inPlace := ["internal/bytealg.IndexByteString", "internal/bytealg.IndexString", "internal/bytealg.abigen_runtime_cmpstring", "slices.overlaps[twinlock/api.Pair]"], unfollowed := true, recurses := true, named := ["internal/bytealg.MaxLen"], plainKeys := false, apart := false, narrowed := true }
def TreePlaysUptoSaid : Prop := treePlaysUptoRow.holds Tryz.pinned (OpenSpec.upto treePlaysSpec)

/-- 'twinlocklaw15.TreeMakes', WHERE WHAT IT READS IS OF BULK AT MOST 1048576: true; the input reads as it did. -/
def treeMakesUptoRow : OpenClaim := { program := "ytmcgndbfoebcnaagreat", sum := "54e78906645b11f1d4d548c0598013844b456b5e667d29164d0f4508a783b993", func := "twinlock/twinlocklaw15.TreeMakes", spec := "treeMakes", inPlace := ["internal/bytealg.IndexByteString", "internal/bytealg.IndexString", "internal/bytealg.abigen_runtime_cmpstring", "slices.overlaps[twinlock/api.Pair]"], unfollowed := true, recurses := true, named := ["internal/bytealg.MaxLen"], plainKeys := false, apart := false, narrowed := true }
def TreeMakesUptoSaid : Prop := treeMakesUptoRow.holds Tryz.pinned (OpenSpec.upto treeMakesSpec)

/-- 'twinlocklaw20.ShipCopies', WHERE WHAT IT READS IS OF BULK AT MOST 1048576: true; the input reads as it did. -/
def shipCopiesUptoRow : OpenClaim := { program := "ytmcgndbfoebcnaagreat", sum := "54e78906645b11f1d4d548c0598013844b456b5e667d29164d0f4508a783b993", func := "twinlock/twinlocklaw20.ShipCopies", spec := "shipCopies", inPlace := ["internal/bytealg.IndexByteString", "internal/bytealg.IndexString", "internal/bytealg.abigen_runtime_cmpstring", "slices.overlaps[twinlock/api.Pair]"], unfollowed := true, recurses := true, named := ["internal/bytealg.MaxLen"], plainKeys := false, apart := false, narrowed := true }
def ShipCopiesUptoSaid : Prop := shipCopiesUptoRow.holds Tryz.pinned (OpenSpec.upto shipCopiesSpec)

/-- 'twinlocklaw16.WalkNobody', WHERE WHAT IT READS IS OF BULK AT MOST 1048576: true; the input reads as it did. -/
def walkNobodyUptoRow : OpenClaim := { program := "ytmcgndbfoebcnaagreat", sum := "54e78906645b11f1d4d548c0598013844b456b5e667d29164d0f4508a783b993", func := "twinlock/twinlocklaw16.WalkNobody", spec := "walkNobody", inPlace := ["internal/bytealg.IndexByteString", "internal/bytealg.IndexString", "internal/bytealg.abigen_runtime_cmpstring", "slices.overlaps[twinlock/api.Pair]"], unfollowed := true, recurses := true, named := ["internal/bytealg.MaxLen"], plainKeys := false, apart := false, narrowed := true }
def WalkNobodyUptoSaid : Prop := walkNobodyUptoRow.holds Tryz.pinned (OpenSpec.upto walkNobodySpec)

/-- 'twinlocklaw16.WalkQuiet', WHERE WHAT IT READS IS OF BULK AT MOST 1048576: true; the input reads as it did. -/
def walkQuietUptoRow : OpenClaim := { program := "ytmcgndbfoebcnaagreat", sum := "54e78906645b11f1d4d548c0598013844b456b5e667d29164d0f4508a783b993", func := "twinlock/twinlocklaw16.WalkQuiet", spec := "walkQuiet", inPlace := ["internal/bytealg.IndexByteString", "internal/bytealg.IndexString", "internal/bytealg.abigen_runtime_cmpstring", "slices.overlaps[twinlock/api.Pair]"], unfollowed := true, recurses := true, named := ["internal/bytealg.MaxLen"], plainKeys := false, apart := false, narrowed := true }
def WalkQuietUptoSaid : Prop := walkQuietUptoRow.holds Tryz.pinned (OpenSpec.upto walkQuietSpec)

/-- 'twinlocklaw16.WalkKnown', WHERE WHAT IT READS IS OF BULK AT MOST 1048576: true; the input reads as it did. -/
def walkKnownUptoRow : OpenClaim := { program := "ytmcgndbfoebcnaagreat", sum := "54e78906645b11f1d4d548c0598013844b456b5e667d29164d0f4508a783b993", func := "twinlock/twinlocklaw16.WalkKnown", spec := "walkKnown", inPlace := ["internal/bytealg.IndexByteString", "internal/bytealg.IndexString", "internal/bytealg.abigen_runtime_cmpstring", "slices.overlaps[twinlock/api.Pair]"], unfollowed := true, recurses := true, named := ["internal/bytealg.MaxLen"], plainKeys := false, apart := false, narrowed := true }
def WalkKnownUptoSaid : Prop := walkKnownUptoRow.holds Tryz.pinned (OpenSpec.upto walkKnownSpec)

/-- 'twinlocklaw16.WalkPlays', WHERE WHAT IT READS IS OF BULK AT MOST 1048576: true; the input reads as it did. -/
def walkPlaysUptoRow : OpenClaim := { program := "ytmcgndbfoebcnaagreat", sum := "54e78906645b11f1d4d548c0598013844b456b5e667d29164d0f4508a783b993", func := "twinlock/twinlocklaw16.WalkPlays", spec := "walkPlays", inPlace := ["internal/bytealg.IndexByteString", "internal/bytealg.IndexString", "internal/bytealg.abigen_runtime_cmpstring", "slices.overlaps[twinlock/api.Pair]"], unfollowed := true, recurses := true, named := ["internal/bytealg.MaxLen"], plainKeys := false, apart := false, narrowed := true }
def WalkPlaysUptoSaid : Prop := walkPlaysUptoRow.holds Tryz.pinned (OpenSpec.upto walkPlaysSpec)

/-- 'twinlocklaw16.WalkFew', WHERE WHAT IT READS IS OF BULK AT MOST 1048576: true; the input reads as it did. -/
def walkFewUptoRow : OpenClaim := { program := "ytmcgndbfoebcnaagreat", sum := "54e78906645b11f1d4d548c0598013844b456b5e667d29164d0f4508a783b993", func := "twinlock/twinlocklaw16.WalkFew", spec := "walkFew", inPlace := ["internal/bytealg.IndexByteString", "internal/bytealg.IndexString", "internal/bytealg.abigen_runtime_cmpstring", "slices.overlaps[twinlock/api.Pair]"], unfollowed := true, recurses := true, named := ["internal/bytealg.MaxLen"], plainKeys := false, apart := false, narrowed := true }
def WalkFewUptoSaid : Prop := walkFewUptoRow.holds Tryz.pinned (OpenSpec.upto walkFewSpec)

/-- 'twinlocklaw16.WalkLevel', WHERE WHAT IT READS IS OF BULK AT MOST 1048576: true; the input reads as it did. -/
def walkLevelUptoRow : OpenClaim := { program := "ytmcgndbfoebcnaagreat", sum := "54e78906645b11f1d4d548c0598013844b456b5e667d29164d0f4508a783b993", func := "twinlock/twinlocklaw16.WalkLevel", spec := "walkLevel", inPlace := ["internal/bytealg.IndexByteString", "internal/bytealg.IndexString", "internal/bytealg.abigen_runtime_cmpstring", "slices.overlaps[twinlock/api.Pair]"], unfollowed := true, recurses := true, named := ["internal/bytealg.MaxLen"], plainKeys := false, apart := false, narrowed := true }
def WalkLevelUptoSaid : Prop := walkLevelUptoRow.holds Tryz.pinned (OpenSpec.upto walkLevelSpec)

/-- 'twinlocklaw22.StageOthers', WHERE WHAT IT READS IS OF BULK AT MOST 1048576: true; the input reads as it did. -/
def stageOthersUptoRow : OpenClaim := { program := "ytmcgndbfoebcnaagreat", sum := "54e78906645b11f1d4d548c0598013844b456b5e667d29164d0f4508a783b993", func := "twinlock/twinlocklaw22.StageOthers", spec := "stageOthers", inPlace := ["internal/bytealg.IndexByteString", "internal/bytealg.IndexString", "internal/bytealg.abigen_runtime_cmpstring", "slices.overlaps[twinlock/api.Pair]"], unfollowed := true, recurses := true, named := ["internal/bytealg.MaxLen"], plainKeys := false, apart := false, narrowed := true }
def StageOthersUptoSaid : Prop := stageOthersUptoRow.holds Tryz.pinned (OpenSpec.upto stageOthersSpec)

/-- 'twinlocklaw22.StageNobody', WHERE WHAT IT READS IS OF BULK AT MOST 1048576: true; the input reads as it did. -/
def stageNobodyUptoRow : OpenClaim := { program := "ytmcgndbfoebcnaagreat", sum := "54e78906645b11f1d4d548c0598013844b456b5e667d29164d0f4508a783b993", func := "twinlock/twinlocklaw22.StageNobody", spec := "stageNobody", inPlace := ["internal/bytealg.IndexByteString", "internal/bytealg.IndexString", "internal/bytealg.abigen_runtime_cmpstring", "slices.overlaps[twinlock/api.Pair]"], unfollowed := true, recurses := true, named := ["internal/bytealg.MaxLen"], plainKeys := false, apart := false, narrowed := true }
def StageNobodyUptoSaid : Prop := stageNobodyUptoRow.holds Tryz.pinned (OpenSpec.upto stageNobodySpec)

/-- 'twinlocklaw22.StageAnew', WHERE WHAT IT READS IS OF BULK AT MOST 1048576: true; the input reads as it did. -/
def stageAnewUptoRow : OpenClaim := { program := "ytmcgndbfoebcnaagreat", sum := "54e78906645b11f1d4d548c0598013844b456b5e667d29164d0f4508a783b993", func := "twinlock/twinlocklaw22.StageAnew", spec := "stageAnew", inPlace := ["internal/bytealg.IndexByteString", "internal/bytealg.IndexString", "internal/bytealg.abigen_runtime_cmpstring", "slices.overlaps[twinlock/api.Pair]"], unfollowed := true, recurses := true, named := ["internal/bytealg.MaxLen"], plainKeys := false, apart := false, narrowed := true }
def StageAnewUptoSaid : Prop := stageAnewUptoRow.holds Tryz.pinned (OpenSpec.upto stageAnewSpec)

/-- 'twinlocklaw22.StageKnown', WHERE WHAT IT READS IS OF BULK AT MOST 1048576: true; the input reads as it did. -/
def stageKnownUptoRow : OpenClaim := { program := "ytmcgndbfoebcnaagreat", sum := "54e78906645b11f1d4d548c0598013844b456b5e667d29164d0f4508a783b993", func := "twinlock/twinlocklaw22.StageKnown", spec := "stageKnown", inPlace := ["internal/bytealg.IndexByteString", "internal/bytealg.IndexString", "internal/bytealg.abigen_runtime_cmpstring", "slices.overlaps[twinlock/api.Pair]"], unfollowed := true, recurses := true, named := ["internal/bytealg.MaxLen"], plainKeys := false, apart := false, narrowed := true }
def StageKnownUptoSaid : Prop := stageKnownUptoRow.holds Tryz.pinned (OpenSpec.upto stageKnownSpec)

/-- 'twinlocklaw22.StagePlays', WHERE WHAT IT READS IS OF BULK AT MOST 1048576: true; the input reads as it did. -/
def stagePlaysUptoRow : OpenClaim := { program := "ytmcgndbfoebcnaagreat", sum := "54e78906645b11f1d4d548c0598013844b456b5e667d29164d0f4508a783b993", func := "twinlock/twinlocklaw22.StagePlays", spec := "stagePlays", inPlace := ["internal/bytealg.IndexByteString", "internal/bytealg.IndexString", "internal/bytealg.abigen_runtime_cmpstring", "slices.overlaps[twinlock/api.Pair]"], unfollowed := true, recurses := true, named := ["internal/bytealg.MaxLen"], plainKeys := false, apart := false, narrowed := true }
def StagePlaysUptoSaid : Prop := stagePlaysUptoRow.holds Tryz.pinned (OpenSpec.upto stagePlaysSpec)

/-- 'twinlocklaw22.StageShips', WHERE WHAT IT READS IS OF BULK AT MOST 1048576: true; the input reads as it did. -/
def stageShipsUptoRow : OpenClaim := { program := "ytmcgndbfoebcnaagreat", sum := "54e78906645b11f1d4d548c0598013844b456b5e667d29164d0f4508a783b993", func := "twinlock/twinlocklaw22.StageShips", spec := "stageShips", inPlace := ["internal/bytealg.IndexByteString", "internal/bytealg.IndexString", "internal/bytealg.abigen_runtime_cmpstring", "slices.overlaps[twinlock/api.Pair]"], unfollowed := true, recurses := true, named := ["internal/bytealg.MaxLen"], plainKeys := false, apart := false, narrowed := true }
def StageShipsUptoSaid : Prop := stageShipsUptoRow.holds Tryz.pinned (OpenSpec.upto stageShipsSpec)

end Rows
end Go.Proofs.YtmcgndbfoebcnaaGreat

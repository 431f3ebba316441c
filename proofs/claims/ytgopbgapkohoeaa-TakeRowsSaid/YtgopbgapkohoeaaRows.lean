/-
  No cell of these rows narrows 'for every input' (looked for: loops, veiled, ifaces, maps, wideKeys, modest, calm, conditions, laid).
  DERIVED. THE GIVEN ROWS OF THIS SEAT. 4 by the template 'for every input the law returns true; each argument reads behind the call as it read before'; 0 by the template 'total and deterministic' (their statements: YtgopbgapkohoeaaTotals.lean).
  GIVEN WITH THE SEED: the statements are not yours to turn. If you find one false, say at which input.
  Laid BY PROGRAM, IN A SANDBOX (cutbox-rows.mjs): the forced cells as the released guide's own fill.sh prints them over the translation 9a26f87a5d9087b1… (all of the seat's roots in one cut). By AI agents, Wed Nov 11 2026. No macro, syntax, notation, axiom, sorry.
-/
import Derived.Test.YtgopbgapkohoeaaChecked
import GoSem.Claim
import GoSem.ClaimJoined
import GoSem.ClaimMapViews
import Derived.JoinedTies
import Derived.KernelRfl
namespace Go.Proofs.Ytgopbgapkohoeaa
/- THE CELL 'sum', in the pinned program and in every row, IS THE sha256 OF THE DUMP (.gsa) THAT YtgopbgapkohoeaaProg.lean LOADS. Nothing in Lean hashes anything: it is a label: what it is worth is what the hold of that sum in a sandbox is worth. -/
noncomputable def Try.pinned : Pinned := { name := "ytgopbgapkohoeaa", sum := "9a26f87a5d9087b18da68b415cf590a3d997c5980a2f88c05f192bf3451cce2f", checked := Try.checked }
namespace Rows
def none {H : Type} : Left H := { results := [], args := [] }

/-- 'twinlocklaw21.TakeQuiet': WHATEVER THE INPUT: true; the input reads as it did. -/
def takeQuietSpec : ChangeSpec := { name := "takeQuiet", fn := fun _ => fun
  | [d1, d2, d3, d4] => { results := [.lit (.bool true)], args := [d1, d2, d3, d4] }
  | _ => none }
def takeQuietRow : OpenClaim := { program := "ytgopbgapkohoeaa", sum := "9a26f87a5d9087b18da68b415cf590a3d997c5980a2f88c05f192bf3451cce2f", func := "twinlock/twinlocklaw21.TakeQuiet", spec := "takeQuiet", inPlace := ["internal/bytealg.IndexByteString", "internal/bytealg.IndexString"], unfollowed := true, recurses := true, named := ["internal/bytealg.MaxLen"], apart := false }
def TakeQuietSaid : Prop := takeQuietRow.holds Try.pinned (OpenSpec.ofChange takeQuietSpec)

/-- ITS FALSE NEIGHBOUR: 'it returns false'. Refute it at one input. -/
def takeQuietWrong : ChangeSpec := { name := "takeQuiet", fn := fun _ => fun
  | [d1, d2, d3, d4] => { results := [.lit (.bool false)], args := [d1, d2, d3, d4] }
  | _ => none }
def TakeQuietWrongFalsely : Prop := takeQuietRow.holds Try.pinned (OpenSpec.ofChange takeQuietWrong)

/-- 'twinlocklaw21.TakeKnown': WHATEVER THE INPUT: true; the input reads as it did. -/
def takeKnownSpec : ChangeSpec := { name := "takeKnown", fn := fun _ => fun
  | [] => { results := [.lit (.bool true)], args := [] }
  | _ => none }
def takeKnownRow : OpenClaim := { program := "ytgopbgapkohoeaa", sum := "9a26f87a5d9087b18da68b415cf590a3d997c5980a2f88c05f192bf3451cce2f", func := "twinlock/twinlocklaw21.TakeKnown", spec := "takeKnown", inPlace := ["internal/bytealg.IndexByteString", "internal/bytealg.IndexString"], unfollowed := true, recurses := true, named := ["internal/bytealg.MaxLen"], apart := false }
def TakeKnownSaid : Prop := takeKnownRow.holds Try.pinned (OpenSpec.ofChange takeKnownSpec)

/-- ITS FALSE NEIGHBOUR: 'it returns false'. Refute it at one input. -/
def takeKnownWrong : ChangeSpec := { name := "takeKnown", fn := fun _ => fun
  | [] => { results := [.lit (.bool false)], args := [] }
  | _ => none }
def TakeKnownWrongFalsely : Prop := takeKnownRow.holds Try.pinned (OpenSpec.ofChange takeKnownWrong)

/-- 'twinlocklaw21.TakeRows': WHATEVER THE INPUT: true; the input reads as it did. -/
def takeRowsSpec : ChangeSpec := { name := "takeRows", fn := fun _ => fun
  | [d1, d2] => { results := [.lit (.bool true)], args := [d1, d2] }
  | _ => none }
def takeRowsRow : OpenClaim := { program := "ytgopbgapkohoeaa", sum := "9a26f87a5d9087b18da68b415cf590a3d997c5980a2f88c05f192bf3451cce2f", func := "twinlock/twinlocklaw21.TakeRows", spec := "takeRows", inPlace := ["internal/bytealg.IndexByteString", "internal/bytealg.IndexString"], unfollowed := true, recurses := true, named := ["internal/bytealg.MaxLen"], apart := false }
def TakeRowsSaid : Prop := takeRowsRow.holds Try.pinned (OpenSpec.ofChange takeRowsSpec)

/-- ITS FALSE NEIGHBOUR: 'it returns false'. Refute it at one input. -/
def takeRowsWrong : ChangeSpec := { name := "takeRows", fn := fun _ => fun
  | [d1, d2] => { results := [.lit (.bool false)], args := [d1, d2] }
  | _ => none }
def TakeRowsWrongFalsely : Prop := takeRowsRow.holds Try.pinned (OpenSpec.ofChange takeRowsWrong)

/-- 'twinlocklaw21.TakeOwn': WHATEVER THE INPUT: true; the input reads as it did. -/
def takeOwnSpec : ChangeSpec := { name := "takeOwn", fn := fun _ => fun
  | [d] => { results := [.lit (.bool true)], args := [d] }
  | _ => none }
def takeOwnRow : OpenClaim := { program := "ytgopbgapkohoeaa", sum := "9a26f87a5d9087b18da68b415cf590a3d997c5980a2f88c05f192bf3451cce2f", func := "twinlock/twinlocklaw21.TakeOwn", spec := "takeOwn", inPlace := ["internal/bytealg.IndexByteString", "internal/bytealg.IndexString"], unfollowed := true, recurses := true, named := ["internal/bytealg.MaxLen"], apart := false }
def TakeOwnSaid : Prop := takeOwnRow.holds Try.pinned (OpenSpec.ofChange takeOwnSpec)

/-- ITS FALSE NEIGHBOUR: 'it returns false'. Refute it at one input. -/
def takeOwnWrong : ChangeSpec := { name := "takeOwn", fn := fun _ => fun
  | [d] => { results := [.lit (.bool false)], args := [d] }
  | _ => none }
def TakeOwnWrongFalsely : Prop := takeOwnRow.holds Try.pinned (OpenSpec.ofChange takeOwnWrong)

/- THE SECOND FORM. 'bulk': how many values and letters a reading holds, each counted each time it is reached (what is shared counts as often as it is met; a slice's spare places count too). A statement '..UptoSaid' is the law's where the arguments, and the package variables that the reading takes, are together of bulk at most 1048576: NARROWER than '..Said'. Prove '..Said' where nothing that the law and all that it calls make is longer than what came in: it says more and counts as full. Else prove '..UptoSaid'. A law counts once. -/
mutual
def uptoBulk {H : Type} : DataW H → Nat
  | .lit (.string bytes) => bytes.length + 1
  | .lit _ => 1
  | .nil => 1
  | .ptr d => uptoBulk d + 1
  | .slice elems spare => uptoBulkAll elems + uptoBulkAll spare + 1
  | .agg parts => uptoBulkAll parts + 1
  | .iface _ d => uptoBulk d + 1
  | .map entries => uptoBulkEntries entries + 1
  | .held _ => 1
def uptoBulkAll {H : Type} : List (DataW H) → Nat
  | [] => 0
  | d :: r => uptoBulk d + uptoBulkAll r
def uptoBulkEntries {H : Type} : List (Lit × DataW H) → Nat
  | [] => 0
  | x :: r => uptoBulkEntry x + uptoBulkEntries r
def uptoBulkEntry {H : Type} : Lit × DataW H → Nat
  | (.string bytes, d) => bytes.length + uptoBulk d + 1
  | (_, d) => uptoBulk d + 1
 end
def uptoSmall : (H : Type) → List (DataW H) → Bool := fun _ ds => decide (uptoBulkAll ds ≤ 1048576)
def OpenSpec.upto (s : _root_.Go.ChangeSpec) : _root_.Go.OpenSpec := { _root_.Go.OpenSpec.ofChange s with cond := some uptoSmall }

/-- 'twinlocklaw21.TakeQuiet', WHERE WHAT IT READS IS OF BULK AT MOST 1048576: true; the input reads as it did. -/
def takeQuietUptoRow : OpenClaim := { program := "ytgopbgapkohoeaa", sum := "9a26f87a5d9087b18da68b415cf590a3d997c5980a2f88c05f192bf3451cce2f", func := "twinlock/twinlocklaw21.TakeQuiet", spec := "takeQuiet", inPlace := ["internal/bytealg.IndexByteString", "internal/bytealg.IndexString"], unfollowed := true, recurses := true, named := ["internal/bytealg.MaxLen"], apart := false, narrowed := true }
def TakeQuietUptoSaid : Prop := takeQuietUptoRow.holds Try.pinned (OpenSpec.upto takeQuietSpec)

/-- 'twinlocklaw21.TakeKnown', WHERE WHAT IT READS IS OF BULK AT MOST 1048576: true; the input reads as it did. -/
def takeKnownUptoRow : OpenClaim := { program := "ytgopbgapkohoeaa", sum := "9a26f87a5d9087b18da68b415cf590a3d997c5980a2f88c05f192bf3451cce2f", func := "twinlock/twinlocklaw21.TakeKnown", spec := "takeKnown", inPlace := ["internal/bytealg.IndexByteString", "internal/bytealg.IndexString"], unfollowed := true, recurses := true, named := ["internal/bytealg.MaxLen"], apart := false, narrowed := true }
def TakeKnownUptoSaid : Prop := takeKnownUptoRow.holds Try.pinned (OpenSpec.upto takeKnownSpec)

/-- 'twinlocklaw21.TakeRows', WHERE WHAT IT READS IS OF BULK AT MOST 1048576: true; the input reads as it did. -/
def takeRowsUptoRow : OpenClaim := { program := "ytgopbgapkohoeaa", sum := "9a26f87a5d9087b18da68b415cf590a3d997c5980a2f88c05f192bf3451cce2f", func := "twinlock/twinlocklaw21.TakeRows", spec := "takeRows", inPlace := ["internal/bytealg.IndexByteString", "internal/bytealg.IndexString"], unfollowed := true, recurses := true, named := ["internal/bytealg.MaxLen"], apart := false, narrowed := true }
def TakeRowsUptoSaid : Prop := takeRowsUptoRow.holds Try.pinned (OpenSpec.upto takeRowsSpec)

/-- 'twinlocklaw21.TakeOwn', WHERE WHAT IT READS IS OF BULK AT MOST 1048576: true; the input reads as it did. -/
def takeOwnUptoRow : OpenClaim := { program := "ytgopbgapkohoeaa", sum := "9a26f87a5d9087b18da68b415cf590a3d997c5980a2f88c05f192bf3451cce2f", func := "twinlock/twinlocklaw21.TakeOwn", spec := "takeOwn", inPlace := ["internal/bytealg.IndexByteString", "internal/bytealg.IndexString"], unfollowed := true, recurses := true, named := ["internal/bytealg.MaxLen"], apart := false, narrowed := true }
def TakeOwnUptoSaid : Prop := takeOwnUptoRow.holds Try.pinned (OpenSpec.upto takeOwnSpec)

end Rows
end Go.Proofs.Ytgopbgapkohoeaa

/-
  No cell of these rows narrows 'for every input' (looked for: loops, veiled, ifaces, maps, wideKeys, modest, calm, conditions, laid).
  DERIVED. THE GIVEN ROWS OF THIS SEAT. 8 by the template 'for every input the law returns true; each argument reads behind the call as it read before'; 0 by the template 'total and deterministic' (their statements: YtemofmopncjipaaTotals.lean).
  GIVEN WITH THE SEED: the statements are not yours to turn. If you find one false, say at which input.
  Laid BY PROGRAM, IN A SANDBOX (cutbox-rows.mjs): the forced cells as the released guide's own fill.sh prints them over the translation 8c0a29555801ba8f… (all of the seat's roots in one cut). By AI agents, Wed Nov 11 2026. No macro, syntax, notation, axiom, sorry.
-/
import Derived.Test.YtemofmopncjipaaChecked
import GoSem.Claim
import GoSem.ClaimJoined
import GoSem.ClaimMapViews
import Derived.JoinedTies
import Derived.KernelRfl
namespace Go.Proofs.Ytemofmopncjipaa
/- THE CELL 'sum', in the pinned program and in every row, IS THE sha256 OF THE DUMP (.gsa) THAT YtemofmopncjipaaProg.lean LOADS. Nothing in Lean hashes anything: it is a label: what it is worth is what the hold of that sum in a sandbox is worth. -/
noncomputable def Try.pinned : Pinned := { name := "ytemofmopncjipaa", sum := "8c0a29555801ba8fa835e0adbafc80999eda042cc974c941cad1e0d493e9f9d4", checked := Try.checked }
namespace Rows
def none {H : Type} : Left H := { results := [], args := [] }

/-- 'topiarylaw11.MovesLast': WHATEVER THE INPUT: true; the input reads as it did. -/
def movesLastSpec : ChangeSpec := { name := "movesLast", fn := fun _ => fun
  | [d] => { results := [.lit (.bool true)], args := [d] }
  | _ => none }
def movesLastRow : OpenClaim := { program := "ytemofmopncjipaa", sum := "8c0a29555801ba8fa835e0adbafc80999eda042cc974c941cad1e0d493e9f9d4", func := "topiary/topiarylaw11.MovesLast", spec := "movesLast", inPlace := ["slices.overlaps[topiary/moves.move]"], unfollowed := true, recurses := true, plainKeys := false, apart := false }
def MovesLastSaid : Prop := movesLastRow.holds Try.pinned (OpenSpec.ofChange movesLastSpec)

/-- ITS FALSE NEIGHBOUR: 'it returns false'. Refute it at one input. -/
def movesLastWrong : ChangeSpec := { name := "movesLast", fn := fun _ => fun
  | [d] => { results := [.lit (.bool false)], args := [d] }
  | _ => none }
def MovesLastWrongFalsely : Prop := movesLastRow.holds Try.pinned (OpenSpec.ofChange movesLastWrong)

/-- 'topiarylaw11.MovesAny': WHATEVER THE INPUT: true; the input reads as it did. -/
def movesAnySpec : ChangeSpec := { name := "movesAny", fn := fun _ => fun
  | [d1, d2] => { results := [.lit (.bool true)], args := [d1, d2] }
  | _ => none }
def movesAnyRow : OpenClaim := { program := "ytemofmopncjipaa", sum := "8c0a29555801ba8fa835e0adbafc80999eda042cc974c941cad1e0d493e9f9d4", func := "topiary/topiarylaw11.MovesAny", spec := "movesAny", inPlace := ["slices.overlaps[topiary/moves.move]"], unfollowed := true, recurses := true, plainKeys := false, apart := false }
def MovesAnySaid : Prop := movesAnyRow.holds Try.pinned (OpenSpec.ofChange movesAnySpec)

/-- ITS FALSE NEIGHBOUR: 'it returns false'. Refute it at one input. -/
def movesAnyWrong : ChangeSpec := { name := "movesAny", fn := fun _ => fun
  | [d1, d2] => { results := [.lit (.bool false)], args := [d1, d2] }
  | _ => none }
def MovesAnyWrongFalsely : Prop := movesAnyRow.holds Try.pinned (OpenSpec.ofChange movesAnyWrong)

/-- 'topiarylaw11.MovesNoRing': WHATEVER THE INPUT: true; the input reads as it did. -/
def movesNoRingSpec : ChangeSpec := { name := "movesNoRing", fn := fun _ => fun
  | [d] => { results := [.lit (.bool true)], args := [d] }
  | _ => none }
def movesNoRingRow : OpenClaim := { program := "ytemofmopncjipaa", sum := "8c0a29555801ba8fa835e0adbafc80999eda042cc974c941cad1e0d493e9f9d4", func := "topiary/topiarylaw11.MovesNoRing", spec := "movesNoRing", inPlace := ["slices.overlaps[topiary/moves.move]"], unfollowed := true, recurses := true, plainKeys := false, apart := false }
def MovesNoRingSaid : Prop := movesNoRingRow.holds Try.pinned (OpenSpec.ofChange movesNoRingSpec)

/-- ITS FALSE NEIGHBOUR: 'it returns false'. Refute it at one input. -/
def movesNoRingWrong : ChangeSpec := { name := "movesNoRing", fn := fun _ => fun
  | [d] => { results := [.lit (.bool false)], args := [d] }
  | _ => none }
def MovesNoRingWrongFalsely : Prop := movesNoRingRow.holds Try.pinned (OpenSpec.ofChange movesNoRingWrong)

/-- 'topiarylaw11.MovesNewest': WHATEVER THE INPUT: true; the input reads as it did. -/
def movesNewestSpec : ChangeSpec := { name := "movesNewest", fn := fun _ => fun
  | [d1, d2, d3] => { results := [.lit (.bool true)], args := [d1, d2, d3] }
  | _ => none }
def movesNewestRow : OpenClaim := { program := "ytemofmopncjipaa", sum := "8c0a29555801ba8fa835e0adbafc80999eda042cc974c941cad1e0d493e9f9d4", func := "topiary/topiarylaw11.MovesNewest", spec := "movesNewest", inPlace := ["slices.overlaps[topiary/moves.move]"], unfollowed := true, recurses := true, plainKeys := false, apart := false }
def MovesNewestSaid : Prop := movesNewestRow.holds Try.pinned (OpenSpec.ofChange movesNewestSpec)

/-- ITS FALSE NEIGHBOUR: 'it returns false'. Refute it at one input. -/
def movesNewestWrong : ChangeSpec := { name := "movesNewest", fn := fun _ => fun
  | [d1, d2, d3] => { results := [.lit (.bool false)], args := [d1, d2, d3] }
  | _ => none }
def MovesNewestWrongFalsely : Prop := movesNewestRow.holds Try.pinned (OpenSpec.ofChange movesNewestWrong)

/-- 'topiarylaw11.MovesAsks': WHATEVER THE INPUT: true; the input reads as it did. -/
def movesAsksSpec : ChangeSpec := { name := "movesAsks", fn := fun _ => fun
  | [d1, d2] => { results := [.lit (.bool true)], args := [d1, d2] }
  | _ => none }
def movesAsksRow : OpenClaim := { program := "ytemofmopncjipaa", sum := "8c0a29555801ba8fa835e0adbafc80999eda042cc974c941cad1e0d493e9f9d4", func := "topiary/topiarylaw11.MovesAsks", spec := "movesAsks", inPlace := ["slices.overlaps[topiary/moves.move]"], unfollowed := true, recurses := true, plainKeys := false, apart := false }
def MovesAsksSaid : Prop := movesAsksRow.holds Try.pinned (OpenSpec.ofChange movesAsksSpec)

/-- ITS FALSE NEIGHBOUR: 'it returns false'. Refute it at one input. -/
def movesAsksWrong : ChangeSpec := { name := "movesAsks", fn := fun _ => fun
  | [d1, d2] => { results := [.lit (.bool false)], args := [d1, d2] }
  | _ => none }
def MovesAsksWrongFalsely : Prop := movesAsksRow.holds Try.pinned (OpenSpec.ofChange movesAsksWrong)

/-- 'topiarylaw11.MovesBack': WHATEVER THE INPUT: true; the input reads as it did. -/
def movesBackSpec : ChangeSpec := { name := "movesBack", fn := fun _ => fun
  | [d1, d2] => { results := [.lit (.bool true)], args := [d1, d2] }
  | _ => none }
def movesBackRow : OpenClaim := { program := "ytemofmopncjipaa", sum := "8c0a29555801ba8fa835e0adbafc80999eda042cc974c941cad1e0d493e9f9d4", func := "topiary/topiarylaw11.MovesBack", spec := "movesBack", inPlace := ["slices.overlaps[topiary/moves.move]"], unfollowed := true, recurses := true, plainKeys := false, apart := false }
def MovesBackSaid : Prop := movesBackRow.holds Try.pinned (OpenSpec.ofChange movesBackSpec)

/-- ITS FALSE NEIGHBOUR: 'it returns false'. Refute it at one input. -/
def movesBackWrong : ChangeSpec := { name := "movesBack", fn := fun _ => fun
  | [d1, d2] => { results := [.lit (.bool false)], args := [d1, d2] }
  | _ => none }
def MovesBackWrongFalsely : Prop := movesBackRow.holds Try.pinned (OpenSpec.ofChange movesBackWrong)

/-- 'topiarylaw11.MovesPlays': WHATEVER THE INPUT: true; the input reads as it did. -/
def movesPlaysSpec : ChangeSpec := { name := "movesPlays", fn := fun _ => fun
  | [d] => { results := [.lit (.bool true)], args := [d] }
  | _ => none }
def movesPlaysRow : OpenClaim := { program := "ytemofmopncjipaa", sum := "8c0a29555801ba8fa835e0adbafc80999eda042cc974c941cad1e0d493e9f9d4", func := "topiary/topiarylaw11.MovesPlays", spec := "movesPlays", inPlace := ["slices.overlaps[topiary/moves.move]"], unfollowed := true, recurses := true, plainKeys := false, apart := false }
def MovesPlaysSaid : Prop := movesPlaysRow.holds Try.pinned (OpenSpec.ofChange movesPlaysSpec)

/-- ITS FALSE NEIGHBOUR: 'it returns false'. Refute it at one input. -/
def movesPlaysWrong : ChangeSpec := { name := "movesPlays", fn := fun _ => fun
  | [d] => { results := [.lit (.bool false)], args := [d] }
  | _ => none }
def MovesPlaysWrongFalsely : Prop := movesPlaysRow.holds Try.pinned (OpenSpec.ofChange movesPlaysWrong)

/-- 'topiarylaw11.MovesNil': WHATEVER THE INPUT: true; the input reads as it did. -/
def movesNilSpec : ChangeSpec := { name := "movesNil", fn := fun _ => fun
  | [d] => { results := [.lit (.bool true)], args := [d] }
  | _ => none }
def movesNilRow : OpenClaim := { program := "ytemofmopncjipaa", sum := "8c0a29555801ba8fa835e0adbafc80999eda042cc974c941cad1e0d493e9f9d4", func := "topiary/topiarylaw11.MovesNil", spec := "movesNil", inPlace := ["slices.overlaps[topiary/moves.move]"], unfollowed := true, recurses := true, plainKeys := false, apart := false }
def MovesNilSaid : Prop := movesNilRow.holds Try.pinned (OpenSpec.ofChange movesNilSpec)

/-- ITS FALSE NEIGHBOUR: 'it returns false'. Refute it at one input. -/
def movesNilWrong : ChangeSpec := { name := "movesNil", fn := fun _ => fun
  | [d] => { results := [.lit (.bool false)], args := [d] }
  | _ => none }
def MovesNilWrongFalsely : Prop := movesNilRow.holds Try.pinned (OpenSpec.ofChange movesNilWrong)

/- THE SECOND FORM. 'bulk': how many values and letters a reading holds, each counted each time it is reached (what is shared counts as often as it is met; a slice's spare places count too). A statement '..UptoSaid' is the law's where the arguments, and the package variables that the reading takes, are together of bulk at most 1048576: NARROWER than '..Said'. Prove '..Said' where nothing that the law and all that it calls make is longer than what came in: it says more and counts as full. Else prove '..UptoSaid'. A law counts once. -/
mutual
def uptoBulk {H : Type} : DataW H → Nat
  | .lit (.string bytes) => bytes.length + 1
  | .lit _ => 1
  | .nil => 1
  | .ptr d => uptoBulk d + 1
  | .slice elems spare => uptoBulkAll elems + uptoBulkAll spare + 1
  | .agg parts => uptoBulkAll parts + 1
  | .iface _ d => uptoBulk d + 1
  | .map entries => uptoBulkEntries entries + 1
  | .held _ => 1
def uptoBulkAll {H : Type} : List (DataW H) → Nat
  | [] => 0
  | d :: r => uptoBulk d + uptoBulkAll r
def uptoBulkEntries {H : Type} : List (Lit × DataW H) → Nat
  | [] => 0
  | x :: r => uptoBulkEntry x + uptoBulkEntries r
def uptoBulkEntry {H : Type} : Lit × DataW H → Nat
  | (.string bytes, d) => bytes.length + uptoBulk d + 1
  | (_, d) => uptoBulk d + 1
 end
def uptoSmall : (H : Type) → List (DataW H) → Bool := fun _ ds => decide (uptoBulkAll ds ≤ 1048576)
def OpenSpec.upto (s : _root_.Go.ChangeSpec) : _root_.Go.OpenSpec := { _root_.Go.OpenSpec.ofChange s with cond := some uptoSmall }

/-- 'topiarylaw11.MovesLast', WHERE WHAT IT READS IS OF BULK AT MOST 1048576: true; the input reads as it did. -/
def movesLastUptoRow : OpenClaim := { program := "ytemofmopncjipaa", sum := "8c0a29555801ba8fa835e0adbafc80999eda042cc974c941cad1e0d493e9f9d4", func := "topiary/topiarylaw11.MovesLast", spec := "movesLast", inPlace := ["slices.overlaps[topiary/moves.move]"], unfollowed := true, recurses := true, plainKeys := false, apart := false, narrowed := true }
def MovesLastUptoSaid : Prop := movesLastUptoRow.holds Try.pinned (OpenSpec.upto movesLastSpec)

/-- 'topiarylaw11.MovesAny', WHERE WHAT IT READS IS OF BULK AT MOST 1048576: true; the input reads as it did. -/
def movesAnyUptoRow : OpenClaim := { program := "ytemofmopncjipaa", sum := "8c0a29555801ba8fa835e0adbafc80999eda042cc974c941cad1e0d493e9f9d4", func := "topiary/topiarylaw11.MovesAny", spec := "movesAny", inPlace := ["slices.overlaps[topiary/moves.move]"], unfollowed := true, recurses := true, plainKeys := false, apart := false, narrowed := true }
def MovesAnyUptoSaid : Prop := movesAnyUptoRow.holds Try.pinned (OpenSpec.upto movesAnySpec)

/-- 'topiarylaw11.MovesNoRing', WHERE WHAT IT READS IS OF BULK AT MOST 1048576: true; the input reads as it did. -/
def movesNoRingUptoRow : OpenClaim := { program := "ytemofmopncjipaa", sum := "8c0a29555801ba8fa835e0adbafc80999eda042cc974c941cad1e0d493e9f9d4", func := "topiary/topiarylaw11.MovesNoRing", spec := "movesNoRing", inPlace := ["slices.overlaps[topiary/moves.move]"], unfollowed := true, recurses := true, plainKeys := false, apart := false, narrowed := true }
def MovesNoRingUptoSaid : Prop := movesNoRingUptoRow.holds Try.pinned (OpenSpec.upto movesNoRingSpec)

/-- 'topiarylaw11.MovesNewest', WHERE WHAT IT READS IS OF BULK AT MOST 1048576: true; the input reads as it did. -/
def movesNewestUptoRow : OpenClaim := { program := "ytemofmopncjipaa", sum := "8c0a29555801ba8fa835e0adbafc80999eda042cc974c941cad1e0d493e9f9d4", func := "topiary/topiarylaw11.MovesNewest", spec := "movesNewest", inPlace := ["slices.overlaps[topiary/moves.move]"], unfollowed := true, recurses := true, plainKeys := false, apart := false, narrowed := true }
def MovesNewestUptoSaid : Prop := movesNewestUptoRow.holds Try.pinned (OpenSpec.upto movesNewestSpec)

/-- 'topiarylaw11.MovesAsks', WHERE WHAT IT READS IS OF BULK AT MOST 1048576: true; the input reads as it did. -/
def movesAsksUptoRow : OpenClaim := { program := "ytemofmopncjipaa", sum := "8c0a29555801ba8fa835e0adbafc80999eda042cc974c941cad1e0d493e9f9d4", func := "topiary/topiarylaw11.MovesAsks", spec := "movesAsks", inPlace := ["slices.overlaps[topiary/moves.move]"], unfollowed := true, recurses := true, plainKeys := false, apart := false, narrowed := true }
def MovesAsksUptoSaid : Prop := movesAsksUptoRow.holds Try.pinned (OpenSpec.upto movesAsksSpec)

/-- 'topiarylaw11.MovesBack', WHERE WHAT IT READS IS OF BULK AT MOST 1048576: true; the input reads as it did. -/
def movesBackUptoRow : OpenClaim := { program := "ytemofmopncjipaa", sum := "8c0a29555801ba8fa835e0adbafc80999eda042cc974c941cad1e0d493e9f9d4", func := "topiary/topiarylaw11.MovesBack", spec := "movesBack", inPlace := ["slices.overlaps[topiary/moves.move]"], unfollowed := true, recurses := true, plainKeys := false, apart := false, narrowed := true }
def MovesBackUptoSaid : Prop := movesBackUptoRow.holds Try.pinned (OpenSpec.upto movesBackSpec)

/-- 'topiarylaw11.MovesPlays', WHERE WHAT IT READS IS OF BULK AT MOST 1048576: true; the input reads as it did. -/
def movesPlaysUptoRow : OpenClaim := { program := "ytemofmopncjipaa", sum := "8c0a29555801ba8fa835e0adbafc80999eda042cc974c941cad1e0d493e9f9d4", func := "topiary/topiarylaw11.MovesPlays", spec := "movesPlays", inPlace := ["slices.overlaps[topiary/moves.move]"], unfollowed := true, recurses := true, plainKeys := false, apart := false, narrowed := true }
def MovesPlaysUptoSaid : Prop := movesPlaysUptoRow.holds Try.pinned (OpenSpec.upto movesPlaysSpec)

/-- 'topiarylaw11.MovesNil', WHERE WHAT IT READS IS OF BULK AT MOST 1048576: true; the input reads as it did. -/
def movesNilUptoRow : OpenClaim := { program := "ytemofmopncjipaa", sum := "8c0a29555801ba8fa835e0adbafc80999eda042cc974c941cad1e0d493e9f9d4", func := "topiary/topiarylaw11.MovesNil", spec := "movesNil", inPlace := ["slices.overlaps[topiary/moves.move]"], unfollowed := true, recurses := true, plainKeys := false, apart := false, narrowed := true }
def MovesNilUptoSaid : Prop := movesNilUptoRow.holds Try.pinned (OpenSpec.upto movesNilSpec)

end Rows
end Go.Proofs.Ytemofmopncjipaa

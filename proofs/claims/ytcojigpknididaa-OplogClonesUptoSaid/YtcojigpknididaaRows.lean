/-
  No cell of these rows narrows 'for every input' (looked for: loops, veiled, ifaces, maps, wideKeys, modest, calm, conditions, laid).
  DERIVED. THE GIVEN ROWS OF THIS SEAT. 9 by the template 'for every input the law returns true; each argument reads behind the call as it read before'; 0 by the template 'total and deterministic' (their statements: YtcojigpknididaaTotals.lean).
  GIVEN WITH THE SEED: the statements are not yours to turn. If you find one false, say at which input.
  Laid BY PROGRAM, IN A SANDBOX (cutbox-rows.mjs): the forced cells as the released guide's own fill.sh prints them over the translation 86fe470261081782… (all of the seat's roots in one cut). By AI agents, Wed Nov 11 2026. No macro, syntax, notation, axiom, sorry.
-/
import Derived.Test.YtcojigpknididaaChecked
import GoSem.Claim
import GoSem.ClaimJoined
import GoSem.ClaimMapViews
import Derived.JoinedTies
import Derived.KernelRfl
namespace Go.Proofs.Ytcojigpknididaa
/- THE CELL 'sum', in the pinned program and in every row, IS THE sha256 OF THE DUMP (.gsa) THAT YtcojigpknididaaProg.lean LOADS. Nothing in Lean hashes anything: it is a label: what it is worth is what the hold of that sum in a sandbox is worth. -/
noncomputable def Try.pinned : Pinned := { name := "ytcojigpknididaa", sum := "86fe47026108178200d00d95834057de3bfe28c503f048640bd52215274ec9a7", checked := Try.checked }
namespace Rows
def none {H : Type} : Left H := { results := [], args := [] }

/-- 'topiarylaw07.OplogGoes': WHATEVER THE INPUT: true; the input reads as it did. -/
def oplogGoesSpec : ChangeSpec := { name := "oplogGoes", fn := fun _ => fun
  | [d1, d2, d3] => { results := [.lit (.bool true)], args := [d1, d2, d3] }
  | _ => none }
def oplogGoesRow : OpenClaim := { program := "ytcojigpknididaa", sum := "86fe47026108178200d00d95834057de3bfe28c503f048640bd52215274ec9a7", func := "topiary/topiarylaw07.OplogGoes", spec := "oplogGoes", inPlace := ["slices.overlaps[topiary/api.Change]"], unfollowed := true, recurses := true, plainKeys := false, apart := false }
def OplogGoesSaid : Prop := oplogGoesRow.holds Try.pinned (OpenSpec.ofChange oplogGoesSpec)

/-- ITS FALSE NEIGHBOUR: 'it returns false'. Refute it at one input. -/
def oplogGoesWrong : ChangeSpec := { name := "oplogGoes", fn := fun _ => fun
  | [d1, d2, d3] => { results := [.lit (.bool false)], args := [d1, d2, d3] }
  | _ => none }
def OplogGoesWrongFalsely : Prop := oplogGoesRow.holds Try.pinned (OpenSpec.ofChange oplogGoesWrong)

/-- 'topiarylaw07.OplogFinds': WHATEVER THE INPUT: true; the input reads as it did. -/
def oplogFindsSpec : ChangeSpec := { name := "oplogFinds", fn := fun _ => fun
  | [d1, d2] => { results := [.lit (.bool true)], args := [d1, d2] }
  | _ => none }
def oplogFindsRow : OpenClaim := { program := "ytcojigpknididaa", sum := "86fe47026108178200d00d95834057de3bfe28c503f048640bd52215274ec9a7", func := "topiary/topiarylaw07.OplogFinds", spec := "oplogFinds", inPlace := ["slices.overlaps[topiary/api.Change]"], unfollowed := true, recurses := true, plainKeys := false, apart := false }
def OplogFindsSaid : Prop := oplogFindsRow.holds Try.pinned (OpenSpec.ofChange oplogFindsSpec)

/-- ITS FALSE NEIGHBOUR: 'it returns false'. Refute it at one input. -/
def oplogFindsWrong : ChangeSpec := { name := "oplogFinds", fn := fun _ => fun
  | [d1, d2] => { results := [.lit (.bool false)], args := [d1, d2] }
  | _ => none }
def OplogFindsWrongFalsely : Prop := oplogFindsRow.holds Try.pinned (OpenSpec.ofChange oplogFindsWrong)

/-- 'topiarylaw07.OplogClosed': WHATEVER THE INPUT: true; the input reads as it did. -/
def oplogClosedSpec : ChangeSpec := { name := "oplogClosed", fn := fun _ => fun
  | [d1, d2] => { results := [.lit (.bool true)], args := [d1, d2] }
  | _ => none }
def oplogClosedRow : OpenClaim := { program := "ytcojigpknididaa", sum := "86fe47026108178200d00d95834057de3bfe28c503f048640bd52215274ec9a7", func := "topiary/topiarylaw07.OplogClosed", spec := "oplogClosed", inPlace := ["slices.overlaps[topiary/api.Change]"], unfollowed := true, recurses := true, plainKeys := false, apart := false }
def OplogClosedSaid : Prop := oplogClosedRow.holds Try.pinned (OpenSpec.ofChange oplogClosedSpec)

/-- ITS FALSE NEIGHBOUR: 'it returns false'. Refute it at one input. -/
def oplogClosedWrong : ChangeSpec := { name := "oplogClosed", fn := fun _ => fun
  | [d1, d2] => { results := [.lit (.bool false)], args := [d1, d2] }
  | _ => none }
def OplogClosedWrongFalsely : Prop := oplogClosedRow.holds Try.pinned (OpenSpec.ofChange oplogClosedWrong)

/-- 'topiarylaw07.OplogSince': WHATEVER THE INPUT: true; the input reads as it did. -/
def oplogSinceSpec : ChangeSpec := { name := "oplogSince", fn := fun _ => fun
  | [d1, d2, d3] => { results := [.lit (.bool true)], args := [d1, d2, d3] }
  | _ => none }
def oplogSinceRow : OpenClaim := { program := "ytcojigpknididaa", sum := "86fe47026108178200d00d95834057de3bfe28c503f048640bd52215274ec9a7", func := "topiary/topiarylaw07.OplogSince", spec := "oplogSince", inPlace := ["slices.overlaps[topiary/api.Change]"], unfollowed := true, recurses := true, plainKeys := false, apart := false }
def OplogSinceSaid : Prop := oplogSinceRow.holds Try.pinned (OpenSpec.ofChange oplogSinceSpec)

/-- ITS FALSE NEIGHBOUR: 'it returns false'. Refute it at one input. -/
def oplogSinceWrong : ChangeSpec := { name := "oplogSince", fn := fun _ => fun
  | [d1, d2, d3] => { results := [.lit (.bool false)], args := [d1, d2, d3] }
  | _ => none }
def OplogSinceWrongFalsely : Prop := oplogSinceRow.holds Try.pinned (OpenSpec.ofChange oplogSinceWrong)

/-- 'topiarylaw07.OplogAdds': WHATEVER THE INPUT: true; the input reads as it did. -/
def oplogAddsSpec : ChangeSpec := { name := "oplogAdds", fn := fun _ => fun
  | [d1, d2] => { results := [.lit (.bool true)], args := [d1, d2] }
  | _ => none }
def oplogAddsRow : OpenClaim := { program := "ytcojigpknididaa", sum := "86fe47026108178200d00d95834057de3bfe28c503f048640bd52215274ec9a7", func := "topiary/topiarylaw07.OplogAdds", spec := "oplogAdds", inPlace := ["slices.overlaps[topiary/api.Change]"], unfollowed := true, recurses := true, plainKeys := false, apart := false }
def OplogAddsSaid : Prop := oplogAddsRow.holds Try.pinned (OpenSpec.ofChange oplogAddsSpec)

/-- ITS FALSE NEIGHBOUR: 'it returns false'. Refute it at one input. -/
def oplogAddsWrong : ChangeSpec := { name := "oplogAdds", fn := fun _ => fun
  | [d1, d2] => { results := [.lit (.bool false)], args := [d1, d2] }
  | _ => none }
def OplogAddsWrongFalsely : Prop := oplogAddsRow.holds Try.pinned (OpenSpec.ofChange oplogAddsWrong)

/-- 'topiarylaw07.OplogAny': WHATEVER THE INPUT: true; the input reads as it did. -/
def oplogAnySpec : ChangeSpec := { name := "oplogAny", fn := fun _ => fun
  | [d1, d2] => { results := [.lit (.bool true)], args := [d1, d2] }
  | _ => none }
def oplogAnyRow : OpenClaim := { program := "ytcojigpknididaa", sum := "86fe47026108178200d00d95834057de3bfe28c503f048640bd52215274ec9a7", func := "topiary/topiarylaw07.OplogAny", spec := "oplogAny", inPlace := ["slices.overlaps[topiary/api.Change]"], unfollowed := true, recurses := true, plainKeys := false, apart := false }
def OplogAnySaid : Prop := oplogAnyRow.holds Try.pinned (OpenSpec.ofChange oplogAnySpec)

/-- ITS FALSE NEIGHBOUR: 'it returns false'. Refute it at one input. -/
def oplogAnyWrong : ChangeSpec := { name := "oplogAny", fn := fun _ => fun
  | [d1, d2] => { results := [.lit (.bool false)], args := [d1, d2] }
  | _ => none }
def OplogAnyWrongFalsely : Prop := oplogAnyRow.holds Try.pinned (OpenSpec.ofChange oplogAnyWrong)

/-- 'topiarylaw07.OplogUnion': WHATEVER THE INPUT: true; the input reads as it did. -/
def oplogUnionSpec : ChangeSpec := { name := "oplogUnion", fn := fun _ => fun
  | [d1, d2] => { results := [.lit (.bool true)], args := [d1, d2] }
  | _ => none }
def oplogUnionRow : OpenClaim := { program := "ytcojigpknididaa", sum := "86fe47026108178200d00d95834057de3bfe28c503f048640bd52215274ec9a7", func := "topiary/topiarylaw07.OplogUnion", spec := "oplogUnion", inPlace := ["slices.overlaps[topiary/api.Change]"], unfollowed := true, recurses := true, plainKeys := false, apart := false }
def OplogUnionSaid : Prop := oplogUnionRow.holds Try.pinned (OpenSpec.ofChange oplogUnionSpec)

/-- ITS FALSE NEIGHBOUR: 'it returns false'. Refute it at one input. -/
def oplogUnionWrong : ChangeSpec := { name := "oplogUnion", fn := fun _ => fun
  | [d1, d2] => { results := [.lit (.bool false)], args := [d1, d2] }
  | _ => none }
def OplogUnionWrongFalsely : Prop := oplogUnionRow.holds Try.pinned (OpenSpec.ofChange oplogUnionWrong)

/-- 'topiarylaw07.OplogClones': WHATEVER THE INPUT: true; the input reads as it did. -/
def oplogClonesSpec : ChangeSpec := { name := "oplogClones", fn := fun _ => fun
  | [d1, d2] => { results := [.lit (.bool true)], args := [d1, d2] }
  | _ => none }
def oplogClonesRow : OpenClaim := { program := "ytcojigpknididaa", sum := "86fe47026108178200d00d95834057de3bfe28c503f048640bd52215274ec9a7", func := "topiary/topiarylaw07.OplogClones", spec := "oplogClones", inPlace := ["slices.overlaps[topiary/api.Change]"], unfollowed := true, recurses := true, plainKeys := false, apart := false }
def OplogClonesSaid : Prop := oplogClonesRow.holds Try.pinned (OpenSpec.ofChange oplogClonesSpec)

/-- ITS FALSE NEIGHBOUR: 'it returns false'. Refute it at one input. -/
def oplogClonesWrong : ChangeSpec := { name := "oplogClones", fn := fun _ => fun
  | [d1, d2] => { results := [.lit (.bool false)], args := [d1, d2] }
  | _ => none }
def OplogClonesWrongFalsely : Prop := oplogClonesRow.holds Try.pinned (OpenSpec.ofChange oplogClonesWrong)

/-- 'topiarylaw07.OplogNil': WHATEVER THE INPUT: true; the input reads as it did. -/
def oplogNilSpec : ChangeSpec := { name := "oplogNil", fn := fun _ => fun
  | [d1, d2] => { results := [.lit (.bool true)], args := [d1, d2] }
  | _ => none }
def oplogNilRow : OpenClaim := { program := "ytcojigpknididaa", sum := "86fe47026108178200d00d95834057de3bfe28c503f048640bd52215274ec9a7", func := "topiary/topiarylaw07.OplogNil", spec := "oplogNil", inPlace := ["slices.overlaps[topiary/api.Change]"], unfollowed := true, recurses := true, plainKeys := false, apart := false }
def OplogNilSaid : Prop := oplogNilRow.holds Try.pinned (OpenSpec.ofChange oplogNilSpec)

/-- ITS FALSE NEIGHBOUR: 'it returns false'. Refute it at one input. -/
def oplogNilWrong : ChangeSpec := { name := "oplogNil", fn := fun _ => fun
  | [d1, d2] => { results := [.lit (.bool false)], args := [d1, d2] }
  | _ => none }
def OplogNilWrongFalsely : Prop := oplogNilRow.holds Try.pinned (OpenSpec.ofChange oplogNilWrong)

/- THE SECOND FORM. 'bulk': how many values and letters a reading holds, each counted each time it is reached (what is shared counts as often as it is met; a slice's spare places count too). A statement '..UptoSaid' is the law's where the arguments, and the package variables that the reading takes, are together of bulk at most 1048576: NARROWER than '..Said'. Prove '..Said' where nothing that the law and all that it calls make is longer than what came in: it says more and counts as full. Else prove '..UptoSaid'. A law counts once. -/
mutual
def uptoBulk {H : Type} : DataW H → Nat
  | .lit (.string bytes) => bytes.length + 1
  | .lit _ => 1
  | .nil => 1
  | .ptr d => uptoBulk d + 1
  | .slice elems spare => uptoBulkAll elems + uptoBulkAll spare + 1
  | .agg parts => uptoBulkAll parts + 1
  | .iface _ d => uptoBulk d + 1
  | .map entries => uptoBulkEntries entries + 1
  | .held _ => 1
def uptoBulkAll {H : Type} : List (DataW H) → Nat
  | [] => 0
  | d :: r => uptoBulk d + uptoBulkAll r
def uptoBulkEntries {H : Type} : List (Lit × DataW H) → Nat
  | [] => 0
  | x :: r => uptoBulkEntry x + uptoBulkEntries r
def uptoBulkEntry {H : Type} : Lit × DataW H → Nat
  | (.string bytes, d) => bytes.length + uptoBulk d + 1
  | (_, d) => uptoBulk d + 1
 end
def uptoSmall : (H : Type) → List (DataW H) → Bool := fun _ ds => decide (uptoBulkAll ds ≤ 1048576)
def OpenSpec.upto (s : _root_.Go.ChangeSpec) : _root_.Go.OpenSpec := { _root_.Go.OpenSpec.ofChange s with cond := some uptoSmall }

/-- 'topiarylaw07.OplogGoes', WHERE WHAT IT READS IS OF BULK AT MOST 1048576: true; the input reads as it did. -/
def oplogGoesUptoRow : OpenClaim := { program := "ytcojigpknididaa", sum := "86fe47026108178200d00d95834057de3bfe28c503f048640bd52215274ec9a7", func := "topiary/topiarylaw07.OplogGoes", spec := "oplogGoes", inPlace := ["slices.overlaps[topiary/api.Change]"], unfollowed := true, recurses := true, plainKeys := false, apart := false, narrowed := true }
def OplogGoesUptoSaid : Prop := oplogGoesUptoRow.holds Try.pinned (OpenSpec.upto oplogGoesSpec)

/-- 'topiarylaw07.OplogFinds', WHERE WHAT IT READS IS OF BULK AT MOST 1048576: true; the input reads as it did. -/
def oplogFindsUptoRow : OpenClaim := { program := "ytcojigpknididaa", sum := "86fe47026108178200d00d95834057de3bfe28c503f048640bd52215274ec9a7", func := "topiary/topiarylaw07.OplogFinds", spec := "oplogFinds", inPlace := ["slices.overlaps[topiary/api.Change]"], unfollowed := true, recurses := true, plainKeys := false, apart := false, narrowed := true }
def OplogFindsUptoSaid : Prop := oplogFindsUptoRow.holds Try.pinned (OpenSpec.upto oplogFindsSpec)

/-- 'topiarylaw07.OplogClosed', WHERE WHAT IT READS IS OF BULK AT MOST 1048576: true; the input reads as it did. -/
def oplogClosedUptoRow : OpenClaim := { program := "ytcojigpknididaa", sum := "86fe47026108178200d00d95834057de3bfe28c503f048640bd52215274ec9a7", func := "topiary/topiarylaw07.OplogClosed", spec := "oplogClosed", inPlace := ["slices.overlaps[topiary/api.Change]"], unfollowed := true, recurses := true, plainKeys := false, apart := false, narrowed := true }
def OplogClosedUptoSaid : Prop := oplogClosedUptoRow.holds Try.pinned (OpenSpec.upto oplogClosedSpec)

/-- 'topiarylaw07.OplogSince', WHERE WHAT IT READS IS OF BULK AT MOST 1048576: true; the input reads as it did. -/
def oplogSinceUptoRow : OpenClaim := { program := "ytcojigpknididaa", sum := "86fe47026108178200d00d95834057de3bfe28c503f048640bd52215274ec9a7", func := "topiary/topiarylaw07.OplogSince", spec := "oplogSince", inPlace := ["slices.overlaps[topiary/api.Change]"], unfollowed := true, recurses := true, plainKeys := false, apart := false, narrowed := true }
def OplogSinceUptoSaid : Prop := oplogSinceUptoRow.holds Try.pinned (OpenSpec.upto oplogSinceSpec)

/-- 'topiarylaw07.OplogAdds', WHERE WHAT IT READS IS OF BULK AT MOST 1048576: true; the input reads as it did. -/
def oplogAddsUptoRow : OpenClaim := { program := "ytcojigpknididaa", sum := "86fe47026108178200d00d95834057de3bfe28c503f048640bd52215274ec9a7", func := "topiary/topiarylaw07.OplogAdds", spec := "oplogAdds", inPlace := ["slices.overlaps[topiary/api.Change]"], unfollowed := true, recurses := true, plainKeys := false, apart := false, narrowed := true }
def OplogAddsUptoSaid : Prop := oplogAddsUptoRow.holds Try.pinned (OpenSpec.upto oplogAddsSpec)

/-- 'topiarylaw07.OplogAny', WHERE WHAT IT READS IS OF BULK AT MOST 1048576: true; the input reads as it did. -/
def oplogAnyUptoRow : OpenClaim := { program := "ytcojigpknididaa", sum := "86fe47026108178200d00d95834057de3bfe28c503f048640bd52215274ec9a7", func := "topiary/topiarylaw07.OplogAny", spec := "oplogAny", inPlace := ["slices.overlaps[topiary/api.Change]"], unfollowed := true, recurses := true, plainKeys := false, apart := false, narrowed := true }
def OplogAnyUptoSaid : Prop := oplogAnyUptoRow.holds Try.pinned (OpenSpec.upto oplogAnySpec)

/-- 'topiarylaw07.OplogUnion', WHERE WHAT IT READS IS OF BULK AT MOST 1048576: true; the input reads as it did. -/
def oplogUnionUptoRow : OpenClaim := { program := "ytcojigpknididaa", sum := "86fe47026108178200d00d95834057de3bfe28c503f048640bd52215274ec9a7", func := "topiary/topiarylaw07.OplogUnion", spec := "oplogUnion", inPlace := ["slices.overlaps[topiary/api.Change]"], unfollowed := true, recurses := true, plainKeys := false, apart := false, narrowed := true }
def OplogUnionUptoSaid : Prop := oplogUnionUptoRow.holds Try.pinned (OpenSpec.upto oplogUnionSpec)

/-- 'topiarylaw07.OplogClones', WHERE WHAT IT READS IS OF BULK AT MOST 1048576: true; the input reads as it did. -/
def oplogClonesUptoRow : OpenClaim := { program := "ytcojigpknididaa", sum := "86fe47026108178200d00d95834057de3bfe28c503f048640bd52215274ec9a7", func := "topiary/topiarylaw07.OplogClones", spec := "oplogClones", inPlace := ["slices.overlaps[topiary/api.Change]"], unfollowed := true, recurses := true, plainKeys := false, apart := false, narrowed := true }
def OplogClonesUptoSaid : Prop := oplogClonesUptoRow.holds Try.pinned (OpenSpec.upto oplogClonesSpec)

/-- 'topiarylaw07.OplogNil', WHERE WHAT IT READS IS OF BULK AT MOST 1048576: true; the input reads as it did. -/
def oplogNilUptoRow : OpenClaim := { program := "ytcojigpknididaa", sum := "86fe47026108178200d00d95834057de3bfe28c503f048640bd52215274ec9a7", func := "topiary/topiarylaw07.OplogNil", spec := "oplogNil", inPlace := ["slices.overlaps[topiary/api.Change]"], unfollowed := true, recurses := true, plainKeys := false, apart := false, narrowed := true }
def OplogNilUptoSaid : Prop := oplogNilUptoRow.holds Try.pinned (OpenSpec.upto oplogNilSpec)

end Rows
end Go.Proofs.Ytcojigpknididaa

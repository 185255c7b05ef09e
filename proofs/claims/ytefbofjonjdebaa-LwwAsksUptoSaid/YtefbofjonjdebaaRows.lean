/-
  No cell of these rows narrows 'for every input' (looked for: loops, veiled, ifaces, maps, wideKeys, modest, calm, conditions, laid).
  DERIVED. THE GIVEN ROWS OF THIS SEAT. 8 by the template 'for every input the law returns true; each argument reads behind the call as it read before'; 0 by the template 'total and deterministic' (their statements: YtefbofjonjdebaaTotals.lean).
  GIVEN WITH THE SEED: the statements are not yours to turn. If you find one false, say at which input.
  Laid BY PROGRAM, IN A SANDBOX (cutbox-rows.mjs): the forced cells as the released guide's own fill.sh prints them over the translation a6b229b1ab403ec7… (all of the seat's roots in one cut). By AI agents, Wed Nov 11 2026. No macro, syntax, notation, axiom, sorry.
-/
import Derived.Test.YtefbofjonjdebaaChecked
import GoSem.Claim
import GoSem.ClaimJoined
import GoSem.ClaimMapViews
import Derived.JoinedTies
import Derived.KernelRfl
namespace Go.Proofs.Ytefbofjonjdebaa
/- THE CELL 'sum', in the pinned program and in every row, IS THE sha256 OF THE DUMP (.gsa) THAT YtefbofjonjdebaaProg.lean LOADS. Nothing in Lean hashes anything: it is a label: what it is worth is what the hold of that sum in a sandbox is worth. -/
noncomputable def Try.pinned : Pinned := { name := "ytefbofjonjdebaa", sum := "a6b229b1ab403ec7e8fbcf199b03c3ce3deb8ab4d44a58f411002a9f664b5c11", checked := Try.checked }
namespace Rows
def none {H : Type} : Left H := { results := [], args := [] }

/-- 'topiarylaw13.LwwChecks': WHATEVER THE INPUT: true; the input reads as it did. -/
def lwwChecksSpec : ChangeSpec := { name := "lwwChecks", fn := fun _ => fun
  | [d1, d2] => { results := [.lit (.bool true)], args := [d1, d2] }
  | _ => none }
def lwwChecksRow : OpenClaim := { program := "ytefbofjonjdebaa", sum := "a6b229b1ab403ec7e8fbcf199b03c3ce3deb8ab4d44a58f411002a9f664b5c11", func := "topiary/topiarylaw13.LwwChecks", spec := "lwwChecks", plainKeys := false, apart := false }
def LwwChecksSaid : Prop := lwwChecksRow.holds Try.pinned (OpenSpec.ofChange lwwChecksSpec)

/-- ITS FALSE NEIGHBOUR: 'it returns false'. Refute it at one input. -/
def lwwChecksWrong : ChangeSpec := { name := "lwwChecks", fn := fun _ => fun
  | [d1, d2] => { results := [.lit (.bool false)], args := [d1, d2] }
  | _ => none }
def LwwChecksWrongFalsely : Prop := lwwChecksRow.holds Try.pinned (OpenSpec.ofChange lwwChecksWrong)

/-- 'topiarylaw13.LwwLatest': WHATEVER THE INPUT: true; the input reads as it did. -/
def lwwLatestSpec : ChangeSpec := { name := "lwwLatest", fn := fun _ => fun
  | [d] => { results := [.lit (.bool true)], args := [d] }
  | _ => none }
def lwwLatestRow : OpenClaim := { program := "ytefbofjonjdebaa", sum := "a6b229b1ab403ec7e8fbcf199b03c3ce3deb8ab4d44a58f411002a9f664b5c11", func := "topiary/topiarylaw13.LwwLatest", spec := "lwwLatest", plainKeys := false, apart := false }
def LwwLatestSaid : Prop := lwwLatestRow.holds Try.pinned (OpenSpec.ofChange lwwLatestSpec)

/-- ITS FALSE NEIGHBOUR: 'it returns false'. Refute it at one input. -/
def lwwLatestWrong : ChangeSpec := { name := "lwwLatest", fn := fun _ => fun
  | [d] => { results := [.lit (.bool false)], args := [d] }
  | _ => none }
def LwwLatestWrongFalsely : Prop := lwwLatestRow.holds Try.pinned (OpenSpec.ofChange lwwLatestWrong)

/-- 'topiarylaw13.LwwPuts': WHATEVER THE INPUT: true; the input reads as it did. -/
def lwwPutsSpec : ChangeSpec := { name := "lwwPuts", fn := fun _ => fun
  | [d] => { results := [.lit (.bool true)], args := [d] }
  | _ => none }
def lwwPutsRow : OpenClaim := { program := "ytefbofjonjdebaa", sum := "a6b229b1ab403ec7e8fbcf199b03c3ce3deb8ab4d44a58f411002a9f664b5c11", func := "topiary/topiarylaw13.LwwPuts", spec := "lwwPuts", inPlace := ["internal/bytealg.abigen_runtime_cmpstring"], unfollowed := true, recurses := true, plainKeys := false, apart := false }
def LwwPutsSaid : Prop := lwwPutsRow.holds Try.pinned (OpenSpec.ofChange lwwPutsSpec)

/-- ITS FALSE NEIGHBOUR: 'it returns false'. Refute it at one input. -/
def lwwPutsWrong : ChangeSpec := { name := "lwwPuts", fn := fun _ => fun
  | [d] => { results := [.lit (.bool false)], args := [d] }
  | _ => none }
def LwwPutsWrongFalsely : Prop := lwwPutsRow.holds Try.pinned (OpenSpec.ofChange lwwPutsWrong)

/-- 'topiarylaw13.LwwAny': WHATEVER THE INPUT: true; the input reads as it did. -/
def lwwAnySpec : ChangeSpec := { name := "lwwAny", fn := fun _ => fun
  | [d1, d2] => { results := [.lit (.bool true)], args := [d1, d2] }
  | _ => none }
def lwwAnyRow : OpenClaim := { program := "ytefbofjonjdebaa", sum := "a6b229b1ab403ec7e8fbcf199b03c3ce3deb8ab4d44a58f411002a9f664b5c11", func := "topiary/topiarylaw13.LwwAny", spec := "lwwAny", inPlace := ["internal/bytealg.abigen_runtime_cmpstring"], unfollowed := true, recurses := true, plainKeys := false, apart := false }
def LwwAnySaid : Prop := lwwAnyRow.holds Try.pinned (OpenSpec.ofChange lwwAnySpec)

/-- ITS FALSE NEIGHBOUR: 'it returns false'. Refute it at one input. -/
def lwwAnyWrong : ChangeSpec := { name := "lwwAny", fn := fun _ => fun
  | [d1, d2] => { results := [.lit (.bool false)], args := [d1, d2] }
  | _ => none }
def LwwAnyWrongFalsely : Prop := lwwAnyRow.holds Try.pinned (OpenSpec.ofChange lwwAnyWrong)

/-- 'topiarylaw13.LwwApart': WHATEVER THE INPUT: true; the input reads as it did. -/
def lwwApartSpec : ChangeSpec := { name := "lwwApart", fn := fun _ => fun
  | [d1, d2] => { results := [.lit (.bool true)], args := [d1, d2] }
  | _ => none }
def lwwApartRow : OpenClaim := { program := "ytefbofjonjdebaa", sum := "a6b229b1ab403ec7e8fbcf199b03c3ce3deb8ab4d44a58f411002a9f664b5c11", func := "topiary/topiarylaw13.LwwApart", spec := "lwwApart", inPlace := ["internal/bytealg.abigen_runtime_cmpstring"], unfollowed := true, recurses := true, plainKeys := false, apart := false }
def LwwApartSaid : Prop := lwwApartRow.holds Try.pinned (OpenSpec.ofChange lwwApartSpec)

/-- ITS FALSE NEIGHBOUR: 'it returns false'. Refute it at one input. -/
def lwwApartWrong : ChangeSpec := { name := "lwwApart", fn := fun _ => fun
  | [d1, d2] => { results := [.lit (.bool false)], args := [d1, d2] }
  | _ => none }
def LwwApartWrongFalsely : Prop := lwwApartRow.holds Try.pinned (OpenSpec.ofChange lwwApartWrong)

/-- 'topiarylaw13.LwwAsks': WHATEVER THE INPUT: true; the input reads as it did. -/
def lwwAsksSpec : ChangeSpec := { name := "lwwAsks", fn := fun _ => fun
  | [d1, d2, d3] => { results := [.lit (.bool true)], args := [d1, d2, d3] }
  | _ => none }
def lwwAsksRow : OpenClaim := { program := "ytefbofjonjdebaa", sum := "a6b229b1ab403ec7e8fbcf199b03c3ce3deb8ab4d44a58f411002a9f664b5c11", func := "topiary/topiarylaw13.LwwAsks", spec := "lwwAsks", inPlace := ["internal/bytealg.abigen_runtime_cmpstring"], unfollowed := true, recurses := true, plainKeys := false, apart := false }
def LwwAsksSaid : Prop := lwwAsksRow.holds Try.pinned (OpenSpec.ofChange lwwAsksSpec)

/-- ITS FALSE NEIGHBOUR: 'it returns false'. Refute it at one input. -/
def lwwAsksWrong : ChangeSpec := { name := "lwwAsks", fn := fun _ => fun
  | [d1, d2, d3] => { results := [.lit (.bool false)], args := [d1, d2, d3] }
  | _ => none }
def LwwAsksWrongFalsely : Prop := lwwAsksRow.holds Try.pinned (OpenSpec.ofChange lwwAsksWrong)

/-- 'topiarylaw13.LwwMerges': WHATEVER THE INPUT: true; the input reads as it did. -/
def lwwMergesSpec : ChangeSpec := { name := "lwwMerges", fn := fun _ => fun
  | [d1, d2, d3] => { results := [.lit (.bool true)], args := [d1, d2, d3] }
  | _ => none }
def lwwMergesRow : OpenClaim := { program := "ytefbofjonjdebaa", sum := "a6b229b1ab403ec7e8fbcf199b03c3ce3deb8ab4d44a58f411002a9f664b5c11", func := "topiary/topiarylaw13.LwwMerges", spec := "lwwMerges", inPlace := ["internal/bytealg.abigen_runtime_cmpstring"], unfollowed := true, recurses := true, plainKeys := false, apart := false }
def LwwMergesSaid : Prop := lwwMergesRow.holds Try.pinned (OpenSpec.ofChange lwwMergesSpec)

/-- ITS FALSE NEIGHBOUR: 'it returns false'. Refute it at one input. -/
def lwwMergesWrong : ChangeSpec := { name := "lwwMerges", fn := fun _ => fun
  | [d1, d2, d3] => { results := [.lit (.bool false)], args := [d1, d2, d3] }
  | _ => none }
def LwwMergesWrongFalsely : Prop := lwwMergesRow.holds Try.pinned (OpenSpec.ofChange lwwMergesWrong)

/-- 'topiarylaw13.LwwNil': WHATEVER THE INPUT: true; the input reads as it did. -/
def lwwNilSpec : ChangeSpec := { name := "lwwNil", fn := fun _ => fun
  | [d] => { results := [.lit (.bool true)], args := [d] }
  | _ => none }
def lwwNilRow : OpenClaim := { program := "ytefbofjonjdebaa", sum := "a6b229b1ab403ec7e8fbcf199b03c3ce3deb8ab4d44a58f411002a9f664b5c11", func := "topiary/topiarylaw13.LwwNil", spec := "lwwNil", inPlace := ["internal/bytealg.abigen_runtime_cmpstring"], unfollowed := true, recurses := true, plainKeys := false, apart := false }
def LwwNilSaid : Prop := lwwNilRow.holds Try.pinned (OpenSpec.ofChange lwwNilSpec)

/-- ITS FALSE NEIGHBOUR: 'it returns false'. Refute it at one input. -/
def lwwNilWrong : ChangeSpec := { name := "lwwNil", fn := fun _ => fun
  | [d] => { results := [.lit (.bool false)], args := [d] }
  | _ => none }
def LwwNilWrongFalsely : Prop := lwwNilRow.holds Try.pinned (OpenSpec.ofChange lwwNilWrong)

/- THE SECOND FORM. 'bulk': how many values and letters a reading holds, each counted each time it is reached (what is shared counts as often as it is met; a slice's spare places count too). A statement '..UptoSaid' is the law's where the arguments, and the package variables that the reading takes, are together of bulk at most 1048576: NARROWER than '..Said'. Prove '..Said' where nothing that the law and all that it calls make is longer than what came in: it says more and counts as full. Else prove '..UptoSaid'. A law counts once. -/
mutual
def uptoBulk {H : Type} : DataW H → Nat
  | .lit (.string bytes) => bytes.length + 1
  | .lit _ => 1
  | .nil => 1
  | .ptr d => uptoBulk d + 1
  | .slice elems spare => uptoBulkAll elems + uptoBulkAll spare + 1
  | .agg parts => uptoBulkAll parts + 1
  | .iface _ d => uptoBulk d + 1
  | .map entries => uptoBulkEntries entries + 1
  | .held _ => 1
def uptoBulkAll {H : Type} : List (DataW H) → Nat
  | [] => 0
  | d :: r => uptoBulk d + uptoBulkAll r
def uptoBulkEntries {H : Type} : List (Lit × DataW H) → Nat
  | [] => 0
  | x :: r => uptoBulkEntry x + uptoBulkEntries r
def uptoBulkEntry {H : Type} : Lit × DataW H → Nat
  | (.string bytes, d) => bytes.length + uptoBulk d + 1
  | (_, d) => uptoBulk d + 1
 end
def uptoSmall : (H : Type) → List (DataW H) → Bool := fun _ ds => decide (uptoBulkAll ds ≤ 1048576)
def OpenSpec.upto (s : _root_.Go.ChangeSpec) : _root_.Go.OpenSpec := { _root_.Go.OpenSpec.ofChange s with cond := some uptoSmall }

/-- 'topiarylaw13.LwwChecks', WHERE WHAT IT READS IS OF BULK AT MOST 1048576: true; the input reads as it did. -/
def lwwChecksUptoRow : OpenClaim := { program := "ytefbofjonjdebaa", sum := "a6b229b1ab403ec7e8fbcf199b03c3ce3deb8ab4d44a58f411002a9f664b5c11", func := "topiary/topiarylaw13.LwwChecks", spec := "lwwChecks", plainKeys := false, apart := false, narrowed := true }
def LwwChecksUptoSaid : Prop := lwwChecksUptoRow.holds Try.pinned (OpenSpec.upto lwwChecksSpec)

/-- 'topiarylaw13.LwwLatest', WHERE WHAT IT READS IS OF BULK AT MOST 1048576: true; the input reads as it did. -/
def lwwLatestUptoRow : OpenClaim := { program := "ytefbofjonjdebaa", sum := "a6b229b1ab403ec7e8fbcf199b03c3ce3deb8ab4d44a58f411002a9f664b5c11", func := "topiary/topiarylaw13.LwwLatest", spec := "lwwLatest", plainKeys := false, apart := false, narrowed := true }
def LwwLatestUptoSaid : Prop := lwwLatestUptoRow.holds Try.pinned (OpenSpec.upto lwwLatestSpec)

/-- 'topiarylaw13.LwwPuts', WHERE WHAT IT READS IS OF BULK AT MOST 1048576: true; the input reads as it did. -/
def lwwPutsUptoRow : OpenClaim := { program := "ytefbofjonjdebaa", sum := "a6b229b1ab403ec7e8fbcf199b03c3ce3deb8ab4d44a58f411002a9f664b5c11", func := "topiary/topiarylaw13.LwwPuts", spec := "lwwPuts", inPlace := ["internal/bytealg.abigen_runtime_cmpstring"], unfollowed := true, recurses := true, plainKeys := false, apart := false, narrowed := true }
def LwwPutsUptoSaid : Prop := lwwPutsUptoRow.holds Try.pinned (OpenSpec.upto lwwPutsSpec)

/-- 'topiarylaw13.LwwAny', WHERE WHAT IT READS IS OF BULK AT MOST 1048576: true; the input reads as it did. -/
def lwwAnyUptoRow : OpenClaim := { program := "ytefbofjonjdebaa", sum := "a6b229b1ab403ec7e8fbcf199b03c3ce3deb8ab4d44a58f411002a9f664b5c11", func := "topiary/topiarylaw13.LwwAny", spec := "lwwAny", inPlace := ["internal/bytealg.abigen_runtime_cmpstring"], unfollowed := true, recurses := true, plainKeys := false, apart := false, narrowed := true }
def LwwAnyUptoSaid : Prop := lwwAnyUptoRow.holds Try.pinned (OpenSpec.upto lwwAnySpec)

/-- 'topiarylaw13.LwwApart', WHERE WHAT IT READS IS OF BULK AT MOST 1048576: true; the input reads as it did. -/
def lwwApartUptoRow : OpenClaim := { program := "ytefbofjonjdebaa", sum := "a6b229b1ab403ec7e8fbcf199b03c3ce3deb8ab4d44a58f411002a9f664b5c11", func := "topiary/topiarylaw13.LwwApart", spec := "lwwApart", inPlace := ["internal/bytealg.abigen_runtime_cmpstring"], unfollowed := true, recurses := true, plainKeys := false, apart := false, narrowed := true }
def LwwApartUptoSaid : Prop := lwwApartUptoRow.holds Try.pinned (OpenSpec.upto lwwApartSpec)

/-- 'topiarylaw13.LwwAsks', WHERE WHAT IT READS IS OF BULK AT MOST 1048576: true; the input reads as it did. -/
def lwwAsksUptoRow : OpenClaim := { program := "ytefbofjonjdebaa", sum := "a6b229b1ab403ec7e8fbcf199b03c3ce3deb8ab4d44a58f411002a9f664b5c11", func := "topiary/topiarylaw13.LwwAsks", spec := "lwwAsks", inPlace := ["internal/bytealg.abigen_runtime_cmpstring"], unfollowed := true, recurses := true, plainKeys := false, apart := false, narrowed := true }
def LwwAsksUptoSaid : Prop := lwwAsksUptoRow.holds Try.pinned (OpenSpec.upto lwwAsksSpec)

/-- 'topiarylaw13.LwwMerges', WHERE WHAT IT READS IS OF BULK AT MOST 1048576: true; the input reads as it did. -/
def lwwMergesUptoRow : OpenClaim := { program := "ytefbofjonjdebaa", sum := "a6b229b1ab403ec7e8fbcf199b03c3ce3deb8ab4d44a58f411002a9f664b5c11", func := "topiary/topiarylaw13.LwwMerges", spec := "lwwMerges", inPlace := ["internal/bytealg.abigen_runtime_cmpstring"], unfollowed := true, recurses := true, plainKeys := false, apart := false, narrowed := true }
def LwwMergesUptoSaid : Prop := lwwMergesUptoRow.holds Try.pinned (OpenSpec.upto lwwMergesSpec)

/-- 'topiarylaw13.LwwNil', WHERE WHAT IT READS IS OF BULK AT MOST 1048576: true; the input reads as it did. -/
def lwwNilUptoRow : OpenClaim := { program := "ytefbofjonjdebaa", sum := "a6b229b1ab403ec7e8fbcf199b03c3ce3deb8ab4d44a58f411002a9f664b5c11", func := "topiary/topiarylaw13.LwwNil", spec := "lwwNil", inPlace := ["internal/bytealg.abigen_runtime_cmpstring"], unfollowed := true, recurses := true, plainKeys := false, apart := false, narrowed := true }
def LwwNilUptoSaid : Prop := lwwNilUptoRow.holds Try.pinned (OpenSpec.upto lwwNilSpec)

end Rows
end Go.Proofs.Ytefbofjonjdebaa

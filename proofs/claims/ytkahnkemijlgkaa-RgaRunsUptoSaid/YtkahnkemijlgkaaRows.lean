/-
  No cell of these rows narrows 'for every input' (looked for: loops, veiled, ifaces, maps, wideKeys, modest, calm, conditions, laid).
  DERIVED. THE GIVEN ROWS OF THIS SEAT. 9 by the template 'for every input the law returns true; each argument reads behind the call as it read before'; 0 by the template 'total and deterministic' (their statements: YtkahnkemijlgkaaTotals.lean).
  GIVEN WITH THE SEED: the statements are not yours to turn. If you find one false, say at which input.
  Laid BY PROGRAM, IN A SANDBOX (cutbox-rows.mjs): the forced cells as the released guide's own fill.sh prints them over the translation cee5dfb38d2d24e0… (all of the seat's roots in one cut). By AI agents, Wed Nov 11 2026. No macro, syntax, notation, axiom, sorry.
-/
import Derived.Test.YtkahnkemijlgkaaChecked
import GoSem.Claim
import GoSem.ClaimJoined
import GoSem.ClaimMapViews
import Derived.JoinedTies
import Derived.KernelRfl
namespace Go.Proofs.Ytkahnkemijlgkaa
/- THE CELL 'sum', in the pinned program and in every row, IS THE sha256 OF THE DUMP (.gsa) THAT YtkahnkemijlgkaaProg.lean LOADS. Nothing in Lean hashes anything: it is a label: what it is worth is what the hold of that sum in a sandbox is worth. -/
noncomputable def Try.pinned : Pinned := { name := "ytkahnkemijlgkaa", sum := "cee5dfb38d2d24e031bd3c66d02dfcd5b02afe9e23caeb3fb78102079f156e49", checked := Try.checked }
namespace Rows
def none {H : Type} : Left H := { results := [], args := [] }

/-- 'topiarylaw12.RgaKeeps': WHATEVER THE INPUT: true; the input reads as it did. -/
def rgaKeepsSpec : ChangeSpec := { name := "rgaKeeps", fn := fun _ => fun
  | [d1, d2] => { results := [.lit (.bool true)], args := [d1, d2] }
  | _ => none }
def rgaKeepsRow : OpenClaim := { program := "ytkahnkemijlgkaa", sum := "cee5dfb38d2d24e031bd3c66d02dfcd5b02afe9e23caeb3fb78102079f156e49", func := "topiary/topiarylaw12.RgaKeeps", spec := "rgaKeeps", inPlace := ["slices.overlaps[topiary/api.Slot]"], unfollowed := true, recurses := true, plainKeys := false, apart := false }
def RgaKeepsSaid : Prop := rgaKeepsRow.holds Try.pinned (OpenSpec.ofChange rgaKeepsSpec)

/-- ITS FALSE NEIGHBOUR: 'it returns false'. Refute it at one input. -/
def rgaKeepsWrong : ChangeSpec := { name := "rgaKeeps", fn := fun _ => fun
  | [d1, d2] => { results := [.lit (.bool false)], args := [d1, d2] }
  | _ => none }
def RgaKeepsWrongFalsely : Prop := rgaKeepsRow.holds Try.pinned (OpenSpec.ofChange rgaKeepsWrong)

/-- 'topiarylaw12.RgaBehind': WHATEVER THE INPUT: true; the input reads as it did. -/
def rgaBehindSpec : ChangeSpec := { name := "rgaBehind", fn := fun _ => fun
  | [d] => { results := [.lit (.bool true)], args := [d] }
  | _ => none }
def rgaBehindRow : OpenClaim := { program := "ytkahnkemijlgkaa", sum := "cee5dfb38d2d24e031bd3c66d02dfcd5b02afe9e23caeb3fb78102079f156e49", func := "topiary/topiarylaw12.RgaBehind", spec := "rgaBehind", inPlace := ["slices.overlaps[topiary/api.Slot]"], unfollowed := true, recurses := true, plainKeys := false, apart := false }
def RgaBehindSaid : Prop := rgaBehindRow.holds Try.pinned (OpenSpec.ofChange rgaBehindSpec)

/-- ITS FALSE NEIGHBOUR: 'it returns false'. Refute it at one input. -/
def rgaBehindWrong : ChangeSpec := { name := "rgaBehind", fn := fun _ => fun
  | [d] => { results := [.lit (.bool false)], args := [d] }
  | _ => none }
def RgaBehindWrongFalsely : Prop := rgaBehindRow.holds Try.pinned (OpenSpec.ofChange rgaBehindWrong)

/-- 'topiarylaw12.RgaRuns': WHATEVER THE INPUT: true; the input reads as it did. -/
def rgaRunsSpec : ChangeSpec := { name := "rgaRuns", fn := fun _ => fun
  | [d1, d2, d3] => { results := [.lit (.bool true)], args := [d1, d2, d3] }
  | _ => none }
def rgaRunsRow : OpenClaim := { program := "ytkahnkemijlgkaa", sum := "cee5dfb38d2d24e031bd3c66d02dfcd5b02afe9e23caeb3fb78102079f156e49", func := "topiary/topiarylaw12.RgaRuns", spec := "rgaRuns", inPlace := ["slices.overlaps[topiary/api.Slot]"], unfollowed := true, recurses := true, plainKeys := false, apart := false }
def RgaRunsSaid : Prop := rgaRunsRow.holds Try.pinned (OpenSpec.ofChange rgaRunsSpec)

/-- ITS FALSE NEIGHBOUR: 'it returns false'. Refute it at one input. -/
def rgaRunsWrong : ChangeSpec := { name := "rgaRuns", fn := fun _ => fun
  | [d1, d2, d3] => { results := [.lit (.bool false)], args := [d1, d2, d3] }
  | _ => none }
def RgaRunsWrongFalsely : Prop := rgaRunsRow.holds Try.pinned (OpenSpec.ofChange rgaRunsWrong)

/-- 'topiarylaw12.RgaAdds': WHATEVER THE INPUT: true; the input reads as it did. -/
def rgaAddsSpec : ChangeSpec := { name := "rgaAdds", fn := fun _ => fun
  | [d] => { results := [.lit (.bool true)], args := [d] }
  | _ => none }
def rgaAddsRow : OpenClaim := { program := "ytkahnkemijlgkaa", sum := "cee5dfb38d2d24e031bd3c66d02dfcd5b02afe9e23caeb3fb78102079f156e49", func := "topiary/topiarylaw12.RgaAdds", spec := "rgaAdds", inPlace := ["slices.overlaps[topiary/api.Slot]"], unfollowed := true, recurses := true, plainKeys := false, apart := false }
def RgaAddsSaid : Prop := rgaAddsRow.holds Try.pinned (OpenSpec.ofChange rgaAddsSpec)

/-- ITS FALSE NEIGHBOUR: 'it returns false'. Refute it at one input. -/
def rgaAddsWrong : ChangeSpec := { name := "rgaAdds", fn := fun _ => fun
  | [d] => { results := [.lit (.bool false)], args := [d] }
  | _ => none }
def RgaAddsWrongFalsely : Prop := rgaAddsRow.holds Try.pinned (OpenSpec.ofChange rgaAddsWrong)

/-- 'topiarylaw12.RgaAny': WHATEVER THE INPUT: true; the input reads as it did. -/
def rgaAnySpec : ChangeSpec := { name := "rgaAny", fn := fun _ => fun
  | [d1, d2] => { results := [.lit (.bool true)], args := [d1, d2] }
  | _ => none }
def rgaAnyRow : OpenClaim := { program := "ytkahnkemijlgkaa", sum := "cee5dfb38d2d24e031bd3c66d02dfcd5b02afe9e23caeb3fb78102079f156e49", func := "topiary/topiarylaw12.RgaAny", spec := "rgaAny", inPlace := ["slices.overlaps[topiary/api.Slot]"], unfollowed := true, recurses := true, plainKeys := false, apart := false }
def RgaAnySaid : Prop := rgaAnyRow.holds Try.pinned (OpenSpec.ofChange rgaAnySpec)

/-- ITS FALSE NEIGHBOUR: 'it returns false'. Refute it at one input. -/
def rgaAnyWrong : ChangeSpec := { name := "rgaAny", fn := fun _ => fun
  | [d1, d2] => { results := [.lit (.bool false)], args := [d1, d2] }
  | _ => none }
def RgaAnyWrongFalsely : Prop := rgaAnyRow.holds Try.pinned (OpenSpec.ofChange rgaAnyWrong)

/-- 'topiarylaw12.RgaAsks': WHATEVER THE INPUT: true; the input reads as it did. -/
def rgaAsksSpec : ChangeSpec := { name := "rgaAsks", fn := fun _ => fun
  | [d1, d2] => { results := [.lit (.bool true)], args := [d1, d2] }
  | _ => none }
def rgaAsksRow : OpenClaim := { program := "ytkahnkemijlgkaa", sum := "cee5dfb38d2d24e031bd3c66d02dfcd5b02afe9e23caeb3fb78102079f156e49", func := "topiary/topiarylaw12.RgaAsks", spec := "rgaAsks", inPlace := ["slices.overlaps[topiary/api.Slot]"], unfollowed := true, recurses := true, plainKeys := false, apart := false }
def RgaAsksSaid : Prop := rgaAsksRow.holds Try.pinned (OpenSpec.ofChange rgaAsksSpec)

/-- ITS FALSE NEIGHBOUR: 'it returns false'. Refute it at one input. -/
def rgaAsksWrong : ChangeSpec := { name := "rgaAsks", fn := fun _ => fun
  | [d1, d2] => { results := [.lit (.bool false)], args := [d1, d2] }
  | _ => none }
def RgaAsksWrongFalsely : Prop := rgaAsksRow.holds Try.pinned (OpenSpec.ofChange rgaAsksWrong)

/-- 'topiarylaw12.RgaLatest': WHATEVER THE INPUT: true; the input reads as it did. -/
def rgaLatestSpec : ChangeSpec := { name := "rgaLatest", fn := fun _ => fun
  | [d1, d2] => { results := [.lit (.bool true)], args := [d1, d2] }
  | _ => none }
def rgaLatestRow : OpenClaim := { program := "ytkahnkemijlgkaa", sum := "cee5dfb38d2d24e031bd3c66d02dfcd5b02afe9e23caeb3fb78102079f156e49", func := "topiary/topiarylaw12.RgaLatest", spec := "rgaLatest", inPlace := ["slices.overlaps[topiary/api.Slot]"], unfollowed := true, recurses := true, plainKeys := false, apart := false }
def RgaLatestSaid : Prop := rgaLatestRow.holds Try.pinned (OpenSpec.ofChange rgaLatestSpec)

/-- ITS FALSE NEIGHBOUR: 'it returns false'. Refute it at one input. -/
def rgaLatestWrong : ChangeSpec := { name := "rgaLatest", fn := fun _ => fun
  | [d1, d2] => { results := [.lit (.bool false)], args := [d1, d2] }
  | _ => none }
def RgaLatestWrongFalsely : Prop := rgaLatestRow.holds Try.pinned (OpenSpec.ofChange rgaLatestWrong)

/-- 'topiarylaw12.RgaGoes': WHATEVER THE INPUT: true; the input reads as it did. -/
def rgaGoesSpec : ChangeSpec := { name := "rgaGoes", fn := fun _ => fun
  | [d1, d2] => { results := [.lit (.bool true)], args := [d1, d2] }
  | _ => none }
def rgaGoesRow : OpenClaim := { program := "ytkahnkemijlgkaa", sum := "cee5dfb38d2d24e031bd3c66d02dfcd5b02afe9e23caeb3fb78102079f156e49", func := "topiary/topiarylaw12.RgaGoes", spec := "rgaGoes", inPlace := ["slices.overlaps[topiary/api.Slot]"], unfollowed := true, recurses := true, plainKeys := false, apart := false }
def RgaGoesSaid : Prop := rgaGoesRow.holds Try.pinned (OpenSpec.ofChange rgaGoesSpec)

/-- ITS FALSE NEIGHBOUR: 'it returns false'. Refute it at one input. -/
def rgaGoesWrong : ChangeSpec := { name := "rgaGoes", fn := fun _ => fun
  | [d1, d2] => { results := [.lit (.bool false)], args := [d1, d2] }
  | _ => none }
def RgaGoesWrongFalsely : Prop := rgaGoesRow.holds Try.pinned (OpenSpec.ofChange rgaGoesWrong)

/-- 'topiarylaw12.RgaNil': WHATEVER THE INPUT: true; the input reads as it did. -/
def rgaNilSpec : ChangeSpec := { name := "rgaNil", fn := fun _ => fun
  | [d] => { results := [.lit (.bool true)], args := [d] }
  | _ => none }
def rgaNilRow : OpenClaim := { program := "ytkahnkemijlgkaa", sum := "cee5dfb38d2d24e031bd3c66d02dfcd5b02afe9e23caeb3fb78102079f156e49", func := "topiary/topiarylaw12.RgaNil", spec := "rgaNil", inPlace := ["slices.overlaps[topiary/api.Slot]"], unfollowed := true, recurses := true, plainKeys := false, apart := false }
def RgaNilSaid : Prop := rgaNilRow.holds Try.pinned (OpenSpec.ofChange rgaNilSpec)

/-- ITS FALSE NEIGHBOUR: 'it returns false'. Refute it at one input. -/
def rgaNilWrong : ChangeSpec := { name := "rgaNil", fn := fun _ => fun
  | [d] => { results := [.lit (.bool false)], args := [d] }
  | _ => none }
def RgaNilWrongFalsely : Prop := rgaNilRow.holds Try.pinned (OpenSpec.ofChange rgaNilWrong)

/- THE SECOND FORM. 'bulk': how many values and letters a reading holds, each counted each time it is reached (what is shared counts as often as it is met; a slice's spare places count too). A statement '..UptoSaid' is the law's where the arguments, and the package variables that the reading takes, are together of bulk at most 1048576: NARROWER than '..Said'. Prove '..Said' where nothing that the law and all that it calls make is longer than what came in: it says more and counts as full. Else prove '..UptoSaid'. A law counts once. -/
mutual
def uptoBulk {H : Type} : DataW H → Nat
  | .lit (.string bytes) => bytes.length + 1
  | .lit _ => 1
  | .nil => 1
  | .ptr d => uptoBulk d + 1
  | .slice elems spare => uptoBulkAll elems + uptoBulkAll spare + 1
  | .agg parts => uptoBulkAll parts + 1
  | .iface _ d => uptoBulk d + 1
  | .map entries => uptoBulkEntries entries + 1
  | .held _ => 1
def uptoBulkAll {H : Type} : List (DataW H) → Nat
  | [] => 0
  | d :: r => uptoBulk d + uptoBulkAll r
def uptoBulkEntries {H : Type} : List (Lit × DataW H) → Nat
  | [] => 0
  | x :: r => uptoBulkEntry x + uptoBulkEntries r
def uptoBulkEntry {H : Type} : Lit × DataW H → Nat
  | (.string bytes, d) => bytes.length + uptoBulk d + 1
  | (_, d) => uptoBulk d + 1
 end
def uptoSmall : (H : Type) → List (DataW H) → Bool := fun _ ds => decide (uptoBulkAll ds ≤ 1048576)
def OpenSpec.upto (s : _root_.Go.ChangeSpec) : _root_.Go.OpenSpec := { _root_.Go.OpenSpec.ofChange s with cond := some uptoSmall }

/-- 'topiarylaw12.RgaKeeps', WHERE WHAT IT READS IS OF BULK AT MOST 1048576: true; the input reads as it did. -/
def rgaKeepsUptoRow : OpenClaim := { program := "ytkahnkemijlgkaa", sum := "cee5dfb38d2d24e031bd3c66d02dfcd5b02afe9e23caeb3fb78102079f156e49", func := "topiary/topiarylaw12.RgaKeeps", spec := "rgaKeeps", inPlace := ["slices.overlaps[topiary/api.Slot]"], unfollowed := true, recurses := true, plainKeys := false, apart := false, narrowed := true }
def RgaKeepsUptoSaid : Prop := rgaKeepsUptoRow.holds Try.pinned (OpenSpec.upto rgaKeepsSpec)

/-- 'topiarylaw12.RgaBehind', WHERE WHAT IT READS IS OF BULK AT MOST 1048576: true; the input reads as it did. -/
def rgaBehindUptoRow : OpenClaim := { program := "ytkahnkemijlgkaa", sum := "cee5dfb38d2d24e031bd3c66d02dfcd5b02afe9e23caeb3fb78102079f156e49", func := "topiary/topiarylaw12.RgaBehind", spec := "rgaBehind", inPlace := ["slices.overlaps[topiary/api.Slot]"], unfollowed := true, recurses := true, plainKeys := false, apart := false, narrowed := true }
def RgaBehindUptoSaid : Prop := rgaBehindUptoRow.holds Try.pinned (OpenSpec.upto rgaBehindSpec)

/-- 'topiarylaw12.RgaRuns', WHERE WHAT IT READS IS OF BULK AT MOST 1048576: true; the input reads as it did. -/
def rgaRunsUptoRow : OpenClaim := { program := "ytkahnkemijlgkaa", sum := "cee5dfb38d2d24e031bd3c66d02dfcd5b02afe9e23caeb3fb78102079f156e49", func := "topiary/topiarylaw12.RgaRuns", spec := "rgaRuns", inPlace := ["slices.overlaps[topiary/api.Slot]"], unfollowed := true, recurses := true, plainKeys := false, apart := false, narrowed := true }
def RgaRunsUptoSaid : Prop := rgaRunsUptoRow.holds Try.pinned (OpenSpec.upto rgaRunsSpec)

/-- 'topiarylaw12.RgaAdds', WHERE WHAT IT READS IS OF BULK AT MOST 1048576: true; the input reads as it did. -/
def rgaAddsUptoRow : OpenClaim := { program := "ytkahnkemijlgkaa", sum := "cee5dfb38d2d24e031bd3c66d02dfcd5b02afe9e23caeb3fb78102079f156e49", func := "topiary/topiarylaw12.RgaAdds", spec := "rgaAdds", inPlace := ["slices.overlaps[topiary/api.Slot]"], unfollowed := true, recurses := true, plainKeys := false, apart := false, narrowed := true }
def RgaAddsUptoSaid : Prop := rgaAddsUptoRow.holds Try.pinned (OpenSpec.upto rgaAddsSpec)

/-- 'topiarylaw12.RgaAny', WHERE WHAT IT READS IS OF BULK AT MOST 1048576: true; the input reads as it did. -/
def rgaAnyUptoRow : OpenClaim := { program := "ytkahnkemijlgkaa", sum := "cee5dfb38d2d24e031bd3c66d02dfcd5b02afe9e23caeb3fb78102079f156e49", func := "topiary/topiarylaw12.RgaAny", spec := "rgaAny", inPlace := ["slices.overlaps[topiary/api.Slot]"], unfollowed := true, recurses := true, plainKeys := false, apart := false, narrowed := true }
def RgaAnyUptoSaid : Prop := rgaAnyUptoRow.holds Try.pinned (OpenSpec.upto rgaAnySpec)

/-- 'topiarylaw12.RgaAsks', WHERE WHAT IT READS IS OF BULK AT MOST 1048576: true; the input reads as it did. -/
def rgaAsksUptoRow : OpenClaim := { program := "ytkahnkemijlgkaa", sum := "cee5dfb38d2d24e031bd3c66d02dfcd5b02afe9e23caeb3fb78102079f156e49", func := "topiary/topiarylaw12.RgaAsks", spec := "rgaAsks", inPlace := ["slices.overlaps[topiary/api.Slot]"], unfollowed := true, recurses := true, plainKeys := false, apart := false, narrowed := true }
def RgaAsksUptoSaid : Prop := rgaAsksUptoRow.holds Try.pinned (OpenSpec.upto rgaAsksSpec)

/-- 'topiarylaw12.RgaLatest', WHERE WHAT IT READS IS OF BULK AT MOST 1048576: true; the input reads as it did. -/
def rgaLatestUptoRow : OpenClaim := { program := "ytkahnkemijlgkaa", sum := "cee5dfb38d2d24e031bd3c66d02dfcd5b02afe9e23caeb3fb78102079f156e49", func := "topiary/topiarylaw12.RgaLatest", spec := "rgaLatest", inPlace := ["slices.overlaps[topiary/api.Slot]"], unfollowed := true, recurses := true, plainKeys := false, apart := false, narrowed := true }
def RgaLatestUptoSaid : Prop := rgaLatestUptoRow.holds Try.pinned (OpenSpec.upto rgaLatestSpec)

/-- 'topiarylaw12.RgaGoes', WHERE WHAT IT READS IS OF BULK AT MOST 1048576: true; the input reads as it did. -/
def rgaGoesUptoRow : OpenClaim := { program := "ytkahnkemijlgkaa", sum := "cee5dfb38d2d24e031bd3c66d02dfcd5b02afe9e23caeb3fb78102079f156e49", func := "topiary/topiarylaw12.RgaGoes", spec := "rgaGoes", inPlace := ["slices.overlaps[topiary/api.Slot]"], unfollowed := true, recurses := true, plainKeys := false, apart := false, narrowed := true }
def RgaGoesUptoSaid : Prop := rgaGoesUptoRow.holds Try.pinned (OpenSpec.upto rgaGoesSpec)

/-- 'topiarylaw12.RgaNil', WHERE WHAT IT READS IS OF BULK AT MOST 1048576: true; the input reads as it did. -/
def rgaNilUptoRow : OpenClaim := { program := "ytkahnkemijlgkaa", sum := "cee5dfb38d2d24e031bd3c66d02dfcd5b02afe9e23caeb3fb78102079f156e49", func := "topiary/topiarylaw12.RgaNil", spec := "rgaNil", inPlace := ["slices.overlaps[topiary/api.Slot]"], unfollowed := true, recurses := true, plainKeys := false, apart := false, narrowed := true }
def RgaNilUptoSaid : Prop := rgaNilUptoRow.holds Try.pinned (OpenSpec.upto rgaNilSpec)

end Rows
end Go.Proofs.Ytkahnkemijlgkaa

/- octet: what a reader tells. -/
import Derived.Test.YtbhlnbffdhojcaaOctE
set_option linter.unusedVariables false
set_option linter.unusedSimpArgs false
namespace Go.VL
open Go Go.Proofs Go.IntWalk

section
variable {σ : St} {i at_ : Nat} {e bad : Int} {bs : List UInt8} {s : V}
set_option maxRecDepth 100000 in
theorem at_ok (h : σ.objs[i]? = some (.cells (cellsR s at_ e bad))) : CallA Try.prog 25 [.ptr (some (i, 0))] σ fun v σ' => σ' = σ ∧ v = .int .i64 at_ := by
  simp only [cellsR] at h
  refine fn_at Try.func25 (by decide) comp25 rfl fun Q q1 q2 => ?_
  simp -implicitDefEqProofs only [c25, go_sem, Nat.reduceBEq, Nat.reduceAdd, h]
  refine q2 _ _ ?_
  simp -implicitDefEqProofs only [go_sem, Nat.reduceBEq, Nat.reduceAdd]
  exact ⟨trivial, trivial⟩
set_option maxRecDepth 100000 in
theorem why_ok (h : σ.objs[i]? = some (.cells (cellsR s at_ e bad))) : CallA Try.prog 24 [.ptr (some (i, 0))] σ fun v σ' => σ' = σ ∧ v = .tup [.int .i64 e, .int .i64 bad] := by
  simp only [cellsR] at h
  refine fn_at Try.func24 (by decide) comp24 rfl fun Q q1 q2 => ?_
  simp -implicitDefEqProofs only [c24, go_sem, Nat.reduceBEq, Nat.reduceAdd, h]
  refine q2 _ _ ?_
  simp -implicitDefEqProofs only [go_sem, Nat.reduceBEq, Nat.reduceAdd]
  exact ⟨trivial, trivial⟩
set_option maxRecDepth 100000 in
theorem left_ok (h : σ.objs[i]? = some (.cells (cellsR s at_ e bad))) (hs : RdS σ s 1 (bytesV bs)) (ha : at_ ≤ bs.length) (hlen : bs.length ≤ 1073741824) :
    CallA Try.prog 19 [.ptr (some (i, 0))] σ fun v σ' => σ' = σ ∧ v = .int .i64 ((bs.length - at_ : Nat) : Int) := by
  obtain ⟨b, r, s', rfl, hb1, hb2⟩ := hs
  simp only [cellsR] at h
  refine fn_at Try.func19 (by decide) comp19 rfl fun Q q1 q2 => ?_
  have hw : IntKind.i64.wrap (((bytesV bs).length : Int) - (at_ : Int)) = ((bs.length - at_ : Nat) : Int) := by
    rw [bytesV_length, i64_in _ (by omega)]; omega
  simp -implicitDefEqProofs only [c19, go_sem, Nat.reduceBEq, Nat.reduceAdd, h, hw]
  refine q2 _ _ ?_
  simp -implicitDefEqProofs only [go_sem, Nat.reduceBEq, Nat.reduceAdd]
  exact ⟨trivial, trivial⟩
end
end Go.VL

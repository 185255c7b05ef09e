/- octet: no reader. -/
import Derived.Test.YtbhlnbffdhojcaaOctD
set_option linter.unusedVariables false
set_option linter.unusedSimpArgs false
namespace Go.VL
open Go Go.Proofs Go.IntWalk

set_option maxRecDepth 100000 in
theorem done_nil {σ : St} : CallA Try.prog 18 [.ptr none] σ fun v σ' => σ' = σ ∧ v = .int .i64 0 := by
  refine fn_at Try.func18 (by decide) comp18 rfl fun Q q1 q2 => ?_
  simp -implicitDefEqProofs only [c18, go_sem, Nat.reduceBEq, Nat.reduceAdd]
  refine q2 _ _ ?_
  simp -implicitDefEqProofs only [go_sem, Nat.reduceBEq, Nat.reduceAdd]
  exact ⟨trivial, trivial⟩
set_option maxRecDepth 100000 in
theorem count_nil {σ : St} {m : Int} : CallA Try.prog 22 [.ptr none, .int .i64 m] σ fun v σ' => σ' = σ ∧ v = .int .i64 0 := by
  refine fn_at Try.func22 (by decide) comp22 rfl fun Q q1 q2 => ?_
  simp -implicitDefEqProofs only [c22, go_sem, Nat.reduceBEq, Nat.reduceAdd]
  refine q2 _ _ ?_
  simp -implicitDefEqProofs only [go_sem, Nat.reduceBEq, Nat.reduceAdd]
  exact ⟨trivial, trivial⟩
set_option maxRecDepth 100000 in
theorem text_nil {σ : St} {m : Int} : CallA Try.prog 17 [.ptr none, .int .i64 m] σ fun v σ' => σ' = σ ∧ v = .str [] := by
  refine fn_at Try.func17 (by decide) comp17 rfl fun Q q1 q2 => ?_
  simp -implicitDefEqProofs only [c17, go_sem, Nat.reduceBEq, Nat.reduceAdd]
  refine q2 _ _ ?_
  simp -implicitDefEqProofs only [go_sem, Nat.reduceBEq, Nat.reduceAdd]
  exact ⟨trivial, trivial⟩
set_option maxRecDepth 100000 in
theorem left_nil {σ : St} : CallA Try.prog 19 [.ptr none] σ fun v σ' => σ' = σ ∧ v = .int .i64 0 := by
  refine fn_at Try.func19 (by decide) comp19 rfl fun Q q1 q2 => ?_
  simp -implicitDefEqProofs only [c19, go_sem, Nat.reduceBEq, Nat.reduceAdd]
  refine q2 _ _ ?_
  simp -implicitDefEqProofs only [go_sem, Nat.reduceBEq, Nat.reduceAdd]
  exact ⟨trivial, trivial⟩
set_option maxRecDepth 100000 in
theorem at_nil {σ : St} : CallA Try.prog 25 [.ptr none] σ fun v σ' => σ' = σ ∧ v = .int .i64 0 := by
  refine fn_at Try.func25 (by decide) comp25 rfl fun Q q1 q2 => ?_
  simp -implicitDefEqProofs only [c25, go_sem, Nat.reduceBEq, Nat.reduceAdd]
  refine q2 _ _ ?_
  simp -implicitDefEqProofs only [go_sem, Nat.reduceBEq, Nat.reduceAdd]
  exact ⟨trivial, trivial⟩
set_option maxRecDepth 100000 in
theorem why_nil {σ : St} : CallA Try.prog 24 [.ptr none] σ fun v σ' => σ' = σ ∧ v = .tup [.int .i64 0, .int .i64 0] := by
  refine fn_at Try.func24 (by decide) comp24 rfl fun Q q1 q2 => ?_
  simp -implicitDefEqProofs only [c24, go_sem, Nat.reduceBEq, Nat.reduceAdd]
  refine q2 _ _ ?_
  simp -implicitDefEqProofs only [go_sem, Nat.reduceBEq, Nat.reduceAdd]
  exact ⟨trivial, trivial⟩

set_option maxRecDepth 100000 in
/-- OctetNil. -/
theorem nil_ok {σ : St} {m : Int} : CallA Try.prog 7 [.int .i64 m] σ fun v _ => v = .bool true := by
  refine fn_at Try.func7 (by decide) comp7 rfl fun Q q1 q2 => ?_
  have d0 : decide ((0 : Int) = 0) = true := by decide
  have d1 : decide (([] : List UInt8) = []) = true := by decide
  simp -implicitDefEqProofs only [c7, go_sem, Nat.reduceBEq, Nat.reduceAdd]
  refine call_at why_nil ?_
  rintro v τ ⟨rfl, rfl⟩
  refine ⟨kept_none, ?_⟩
  simp -implicitDefEqProofs only [go_sem, Nat.reduceBEq, Nat.reduceAdd, List.getElem?_cons_zero, List.getElem?_cons_succ]
  refine call_at num_nil ?_
  rintro v τ ⟨rfl, rfl⟩
  refine ⟨kept_none, ?_⟩
  simp -implicitDefEqProofs only [go_sem, Nat.reduceBEq, Nat.reduceAdd, d0]
  refine call_at count_nil ?_
  rintro v τ ⟨rfl, rfl⟩
  refine ⟨kept_none, ?_⟩
  simp -implicitDefEqProofs only [go_sem, Nat.reduceBEq, Nat.reduceAdd, d0]
  refine call_at text_nil ?_
  rintro v τ ⟨rfl, rfl⟩
  refine ⟨kept_none, ?_⟩
  simp -implicitDefEqProofs only [go_sem, Nat.reduceBEq, Nat.reduceAdd, d0, d1]
  refine call_at left_nil ?_
  rintro v τ ⟨rfl, rfl⟩
  refine ⟨kept_none, ?_⟩
  simp -implicitDefEqProofs only [go_sem, Nat.reduceBEq, Nat.reduceAdd, d0]
  refine call_at at_nil ?_
  rintro v τ ⟨rfl, rfl⟩
  refine ⟨kept_none, ?_⟩
  simp -implicitDefEqProofs only [go_sem, Nat.reduceBEq, Nat.reduceAdd, d0]
  refine call_at done_nil ?_
  rintro v τ ⟨rfl, rfl⟩
  refine ⟨kept_none, ?_⟩
  simp -implicitDefEqProofs only [go_sem, Nat.reduceBEq, Nat.reduceAdd, d0]
  refine call_at awake_ok ?_
  rintro v τ ⟨he, rfl⟩
  refine ⟨he.kept, ?_⟩
  simp -implicitDefEqProofs only [go_sem, Nat.reduceBEq, Nat.reduceAdd]
  refine q2 _ _ ?_
  simp -implicitDefEqProofs only [go_sem, Nat.reduceBEq, Nat.reduceAdd]
end Go.VL

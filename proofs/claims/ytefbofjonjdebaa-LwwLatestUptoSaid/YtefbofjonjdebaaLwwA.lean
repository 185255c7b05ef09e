/- lww: stamps, names. -/
import Derived.Test.YtefbofjonjdebaaLwwC
import Derived.Test.YtefbofjonjdebaaVza
set_option linter.unusedVariables false
set_option linter.unusedSimpArgs false
namespace Go.VL.lww
open Go Go.VL Go.Proofs Go.IntWalk

def right (c r : Int) : Bool := decide (1 ≤ c) && (decide (c ≤ 1099511627776) && (decide (0 ≤ r) && decide (r < 64)))
def stV (c r : Int) : V := .agg [.int .i64 c, .int .i64 r]

section
variable {σ : St} {c r a1 a2 b1 b2 : Int}
set_option maxRecDepth 100000 in
theorem replica_ok : CallA Try.prog 42 [.int .i64 r] σ fun v σ' => σ' = σ ∧ v = .bool (decide (0 ≤ r) && decide (r < 64)) := by
  refine fn_at Try.func42 (by decide) comp42 rfl fun Q q1 q2 => ?_
  cases h1 : decide (0 ≤ r) <;> cases h2 : decide (r < 64)
  all_goals
    rw [h1, h2] at q2
    simp -implicitDefEqProofs only [go_sem, Nat.reduceBEq, Nat.reduceAdd, eq_self, true_and, and_self, c42, h1, h2]
    refine q2 _ _ ?_
    simp -implicitDefEqProofs only [go_sem, Nat.reduceBEq, Nat.reduceAdd]
    first | exact ⟨trivial, trivial⟩ | exact ⟨trivial, rfl⟩ | exact ⟨rfl, rfl⟩ | exact ⟨rfl, trivial⟩ | trivial
set_option maxRecDepth 100000 in
theorem right_ok : CallA Try.prog 30 [stV c r] σ fun v σ' => σ' = σ ∧ v = .bool (right c r) := by
  refine fn_at Try.func30 (by decide) comp30 rfl fun Q q1 q2 => ?_
  simp only [right] at q2
  cases h1 : decide (1 ≤ c) <;> cases h2 : decide (c ≤ 1099511627776)
  case true.true =>
    rw [h1, h2] at q2
    simp -implicitDefEqProofs only [go_sem, Nat.reduceBEq, Nat.reduceAdd, eq_self, true_and, and_self, c30, stV, h1, h2]
    refine call_at replica_ok ?_
    rintro v σ' ⟨rfl, rfl⟩
    refine ⟨kept_none, ?_⟩
    simp -implicitDefEqProofs only [go_sem, Nat.reduceBEq, Nat.reduceAdd]
    refine q2 _ _ ?_
    simp -implicitDefEqProofs only [go_sem, Nat.reduceBEq, Nat.reduceAdd]
    first | exact ⟨trivial, trivial⟩ | exact ⟨trivial, rfl⟩ | exact ⟨rfl, rfl⟩ | exact ⟨rfl, trivial⟩ | trivial
  all_goals
    rw [h1, h2] at q2
    simp -implicitDefEqProofs only [go_sem, Nat.reduceBEq, Nat.reduceAdd, eq_self, true_and, and_self, c30, stV, h1, h2]
    refine q2 _ _ ?_
    simp -implicitDefEqProofs only [go_sem, Nat.reduceBEq, Nat.reduceAdd]
    first | exact ⟨trivial, trivial⟩ | exact ⟨trivial, rfl⟩ | exact ⟨rfl, rfl⟩ | exact ⟨rfl, trivial⟩ | trivial
set_option maxRecDepth 100000 in
theorem rright_ok : CallA Try.prog 32 [stV c r] σ fun v σ' => σ' = σ ∧ v = .bool (right c r) := by
  refine fn_at Try.func32 (by decide) comp32 rfl fun Q q1 q2 => ?_
  simp only [right] at q2
  cases h1 : decide (1 ≤ c) <;> cases h2 : decide (c ≤ 1099511627776) <;> cases h3 : decide (0 ≤ r) <;> cases h4 : decide (r < 64)
  all_goals
    rw [h1, h2, h3, h4] at q2
    simp -implicitDefEqProofs only [go_sem, Nat.reduceBEq, Nat.reduceAdd, eq_self, true_and, and_self, c32, stV, h1, h2, h3, h4]
    refine q2 _ _ ?_
    simp -implicitDefEqProofs only [go_sem, Nat.reduceBEq, Nat.reduceAdd]
    first | exact ⟨trivial, trivial⟩ | exact ⟨trivial, rfl⟩ | exact ⟨rfl, rfl⟩ | exact ⟨rfl, trivial⟩ | trivial

def less (a1 a2 b1 b2 : Int) : Bool := decide (a1 < b1) || (decide (a1 = b1) && decide (a2 < b2))
def cmp (a1 a2 b1 b2 : Int) : Int := bif decide (a1 = b1) && decide (a2 = b2) then 0 else bif less a1 a2 b1 b2 then -1 else 1

set_option maxRecDepth 100000 in
theorem compare_ok : CallA Try.prog 34 [stV a1 a2, stV b1 b2] σ fun v σ' => σ' = σ ∧ v = .int .i64 (cmp a1 a2 b1 b2) := by
  refine fn_at Try.func34 (by decide) comp34 rfl fun Q q1 q2 => ?_
  simp only [cmp, less] at q2
  cases h1 : decide (a1 = b1) <;> cases h2 : decide (a2 = b2) <;> cases h3 : decide (a1 < b1) <;> cases h4 : decide (a2 < b2)
  all_goals
    rw [h1, h2, h3, h4] at q2
    simp -implicitDefEqProofs only [go_sem, Nat.reduceBEq, Nat.reduceAdd, eq_self, true_and, and_self, c34, stV, h1, h2, h3, h4, V.eqs, V.eq]
    refine q2 _ _ ?_
    simp -implicitDefEqProofs only [go_sem, Nat.reduceBEq, Nat.reduceAdd]
    first | exact ⟨trivial, trivial⟩ | exact ⟨trivial, rfl⟩ | exact ⟨rfl, rfl⟩ | exact ⟨rfl, trivial⟩ | trivial
set_option maxRecDepth 100000 in
theorem less_ok : CallA Try.prog 35 [stV a1 a2, stV b1 b2] σ fun v σ' => σ' = σ ∧ v = .bool (less a1 a2 b1 b2) := by
  refine fn_at Try.func35 (by decide) comp35 rfl fun Q q1 q2 => ?_
  simp only [less] at q2
  cases h1 : decide (a1 = b1) <;> cases h3 : decide (a1 < b1) <;> cases h4 : decide (a2 < b2)
  all_goals
    rw [h1, h3, h4] at q2
    simp -implicitDefEqProofs only [go_sem, Nat.reduceBEq, Nat.reduceAdd, eq_self, true_and, and_self, c35, stV, h1, h3, h4]
    refine q2 _ _ ?_
    simp -implicitDefEqProofs only [go_sem, Nat.reduceBEq, Nat.reduceAdd]
    first | exact ⟨trivial, trivial⟩ | exact ⟨trivial, rfl⟩ | exact ⟨rfl, rfl⟩ | exact ⟨rfl, trivial⟩ | trivial
end
end Go.VL.lww

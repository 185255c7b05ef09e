/- lww: registers as arguments. -/
import Derived.Test.YtefbofjonjdebaaLwwJ
import Derived.Test.YtefbofjonjdebaaVty
set_option linter.unusedVariables false
set_option linter.unusedSimpArgs false
set_option linter.unusedSimpArgs false
namespace Go.VL.lww
open Go Go.VL
theorem regs_of : ∀ {es : List (List V)}, (∀ y ∈ es, (T.agg RgT).has y) → ∃ l, es = regsV l ∧ l.length ≤ vbe es ∧ ∀ r ∈ l, r.name.length + r.val.length < vbe es
  | [], _ => ⟨[], rfl, by simp, by simp⟩
  | y :: es, h => by
    obtain ⟨l, rfl, h2, h3⟩ := regs_of (es := es) fun y hy => h y (by simp [hy])
    obtain ⟨r, rfl, hr⟩ := has_reg (h y (by simp))
    refine ⟨r :: l, rfl, by simp only [List.length_cons, vbe]; omega, fun q hq => ?_⟩
    simp only [vbe]
    rcases List.mem_cons.1 hq with rfl | hq
    · omega
    · have := h3 q hq; omega
theorem arg_regs {x : V} (h : (T.sl 7 (.agg RgT)).arg x) : ∃ l, RdS ⟨[], []⟩ x 7 (regsV l) ∧ l.length < vba x ∧ ∀ r ∈ l, r.name.length + r.val.length < vba x := by
  obtain ⟨es, h1, h2, h3⟩ := arg_rd h
  obtain ⟨l, rfl, h4, h5⟩ := regs_of h2
  exact ⟨l, h1, by omega, fun r hr => by have := h5 r hr; omega⟩
end Go.VL.lww

/- octet: Count. -/
import Derived.Test.YtbhlnbffdhojcaaOctR
set_option linter.unusedVariables false
set_option linter.unusedSimpArgs false
namespace Go.VL
open Go Go.Proofs Go.IntWalk

/-- A count, the place, the error, its place. -/
def cntR (bs : List UInt8) (at_ : Nat) (e bad most : Int) : Nat × Nat × Int × Int :=
  if e = 0 ∧ (numR bs at_ e bad).2.2.1 = 0 ∧ most < (numR bs at_ e bad).1 then (0, at_, 3, at_) else numR bs at_ e bad

section
variable {σ : St} {i at_ : Nat} {e bad most : Int} {bs : List UInt8} {s : V}
set_option maxRecDepth 100000 in
theorem count_ok (h : σ.objs[i]? = some (.cells (cellsR s at_ e bad))) (hs : RdS σ s 1 (bytesV bs)) (ha : at_ ≤ bs.length) (hlen : bs.length ≤ 1073741824) :
    CallA Try.prog 22 [.ptr (some (i, 0)), .int .i64 most] σ fun v σ' => v = .int .i64 (cntR bs at_ e bad most).1 ∧
      σ' = σ.setC i (cellsR s (cntR bs at_ e bad most).2.1 (cntR bs at_ e bad most).2.2.1 (cntR bs at_ e bad most).2.2.2) := by
  have hlt : i < σ.objs.length := (List.getElem?_eq_some_iff.1 h).1
  refine fn_at Try.func22 (by decide) comp22 rfl fun Q q1 q2 => ?_
  have hnum := num_ok h hs ha hlen
  by_cases he : e = 0
  · have hd : (!decide (e = 0)) = false := by simp [he]
    simp only [cellsR] at h
    simp -implicitDefEqProofs only [c22, go_sem, Nat.reduceBEq, Nat.reduceAdd, h, hd]
    refine call_at hnum ?_
    rintro v σ' ⟨rfl, rfl⟩
    refine ⟨kept_none, ?_⟩
    have hc : ∀ x, numR bs at_ e bad = x → cntR bs at_ e bad most = if x.2.2.1 = 0 ∧ most < x.1 then (0, at_, 3, (at_ : Int)) else x := by
      intro x hx
      subst hx
      simp only [cntR, he, true_and]
    generalize hx : numR bs at_ e bad = x at hc
    have hc := hc x rfl
    obtain ⟨n, at', e', bad'⟩ := x
    simp only at hc
    have hg := setC_get (cs := cellsR s at' e' bad') hlt
    simp only [cellsR] at hg
    by_cases h1 : e' = 0
    · have d1 : decide (e' = 0) = true := by simp [h1]
      by_cases h2 : most < (n : Int)
      · have d2 : decide (most < (n : Int)) = true := by simp [h2]
        rw [if_pos ⟨h1, h2⟩] at hc
        simp -implicitDefEqProofs only [cellsR, go_sem, Nat.reduceBEq, Nat.reduceAdd, hg, d1, d2]
        refine call_at (fail_ok hg) ?_
        rintro v σ' rfl
        refine ⟨kept_none, ?_⟩
        simp -implicitDefEqProofs only [go_sem, Nat.reduceBEq, Nat.reduceAdd]
        refine q2 _ _ ?_
        simp -implicitDefEqProofs only [go_sem, Nat.reduceBEq, Nat.reduceAdd]
        rw [hc]
        refine ⟨rfl, ?_⟩
        simp [St.setC, cellsR]
      · have d2 : decide (most < (n : Int)) = false := by simp; omega
        rw [if_neg (fun x => h2 x.2)] at hc
        simp -implicitDefEqProofs only [cellsR, go_sem, Nat.reduceBEq, Nat.reduceAdd, hg, d1, d2]
        refine q2 _ _ ?_
        simp -implicitDefEqProofs only [go_sem, Nat.reduceBEq, Nat.reduceAdd]
        rw [hc]
        exact ⟨rfl, rfl⟩
    · have d1 : decide (e' = 0) = false := by simp [h1]
      rw [if_neg (fun x => h1 x.1)] at hc
      simp -implicitDefEqProofs only [cellsR, go_sem, Nat.reduceBEq, Nat.reduceAdd, hg, d1]
      refine q2 _ _ ?_
      simp -implicitDefEqProofs only [go_sem, Nat.reduceBEq, Nat.reduceAdd]
      rw [hc]
      exact ⟨rfl, rfl⟩
  · have hd : (!decide (e = 0)) = true := by simp [he]
    simp only [cellsR] at h
    simp -implicitDefEqProofs only [c22, go_sem, Nat.reduceBEq, Nat.reduceAdd, h, hd]
    refine q2 _ _ ?_
    simp -implicitDefEqProofs only [go_sem, Nat.reduceBEq, Nat.reduceAdd]
    have : cntR bs at_ e bad most = (0, at_, e, bad) := by simp only [cntR, if_neg (fun x : e = 0 ∧ _ => he x.1), numR, if_neg he]
    rw [this]
    exact ⟨rfl, (setC_self h).symm⟩
end
end Go.VL

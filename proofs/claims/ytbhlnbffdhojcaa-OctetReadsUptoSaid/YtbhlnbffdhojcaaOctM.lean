import Derived.Test.YtbhlnbffdhojcaaOctN
set_option linter.unusedVariables false
set_option linter.unusedSimpArgs false
namespace Go.VL
open Go Go.Proofs Go.IntWalk
attribute [go_sem] Option.isNone_some Option.isNone_none Bool.not_true Bool.not_false

theorem setC_self {σ : St} {i : Nat} {cs : List V} (h : σ.objs[i]? = some (.cells cs)) : σ.setC i cs = σ := by
  obtain ⟨h1, h2⟩ := List.getElem?_eq_some_iff.1 h
  simp only [St.setC]
  rw [← h2, List.set_getElem_self]

def cellsR (s : V) (at_ : Nat) (e bad : Int) : List V := [s, .int .i64 at_, .int .i64 e, .int .i64 bad]
/-- A number, the place, the error, its place. -/
def numR (bs : List UInt8) (at_ : Nat) (e bad : Int) : Nat × Nat × Int × Int :=
  if e = 0 then match dec 0 0 (bs.drop at_) with
    | some (n, c, true) => (n, at_ + c, 0, bad)
    | _ => (0, at_, 2, at_)
  else (0, at_, e, bad)

set_option maxRecDepth 100000 in
/-- Num of no reader. -/
theorem num_nil {σ : St} : CallA Try.prog 16 [.ptr none] σ fun v σ' => σ' = σ ∧ v = .int .i64 0 := by
  refine fn_at Try.func16 (by decide) comp16 rfl fun Q q1 q2 => ?_
  simp -implicitDefEqProofs only [c16, go_sem, Nat.reduceBEq, Nat.reduceAdd]
  refine q2 _ _ ?_
  simp -implicitDefEqProofs only [go_sem, Nat.reduceBEq, Nat.reduceAdd]
  exact ⟨trivial, trivial⟩

set_option maxRecDepth 100000 in
/-- Num. -/
theorem num_ok {σ : St} {i at_ : Nat} {e bad : Int} {bs : List UInt8} {s : V} (h : σ.objs[i]? = some (.cells (cellsR s at_ e bad))) (hs : RdS σ s 1 (bytesV bs)) (ha : at_ ≤ bs.length) (hlen : bs.length ≤ 1073741824) :
    CallA Try.prog 16 [.ptr (some (i, 0))] σ fun v σ' => v = .int .i64 (numR bs at_ e bad).1 ∧ σ' = σ.setC i (cellsR s (numR bs at_ e bad).2.1 (numR bs at_ e bad).2.2.1 (numR bs at_ e bad).2.2.2) := by
  have hlt : i < σ.objs.length := (List.getElem?_eq_some_iff.1 h).1
  refine fn_at Try.func16 (by decide) comp16 rfl fun Q q1 q2 => ?_
  by_cases he : e = 0
  · have hd : (!decide (e = 0)) = false := by simp [he]
    simp only [cellsR] at h
    simp -implicitDefEqProofs only [c16, go_sem, Nat.reduceBEq, Nat.reduceAdd, h, hd]
    refine call_at (number_ok ⟨s, h, hs⟩ ha hlen) ?_
    rintro v σ' ⟨rfl, rfl⟩
    refine ⟨kept_none, ?_⟩
    have bad_ : ∀ x, (∀ n c, x ≠ some (n, c, true)) → dec 0 0 (bs.drop at_) = x → numR bs at_ e bad = (0, at_, 2, (at_ : Int)) := by
      intro x hx hd
      simp only [numR, if_pos he, hd]
    obtain ⟨n0, m0, ok, hV, hB, hG⟩ : ∃ (n0 m0 : Nat) (ok : Bool), numV at_ (dec 0 0 (bs.drop at_)) = .tup [.int .i64 n0, .int .i64 m0, .bool ok] ∧ (ok = false → numR bs at_ e bad = (0, at_, 2, (at_ : Int))) ∧
        (ok = true → numR bs at_ e bad = (n0, m0, 0, bad)) := by
      cases hdec : dec 0 0 (bs.drop at_) with
      | none => exact ⟨0, 0, false, rfl, fun _ => bad_ none (by simp) hdec, fun h => by cases h⟩
      | some x =>
        obtain ⟨n, c, ok⟩ := x
        refine ⟨n, at_ + c, ok, rfl, fun h => bad_ _ (by simp [h]) hdec, fun h => ?_⟩
        subst h
        simp only [numR, if_pos he, hdec]
    simp -implicitDefEqProofs only [hV, go_sem, Nat.reduceBEq, Nat.reduceAdd, List.getElem?_cons_zero, List.getElem?_cons_succ]
    cases ok with
    | false =>
      simp -implicitDefEqProofs only [go_sem, Nat.reduceBEq, Nat.reduceAdd, h]
      refine call_at (fail_ok h) ?_
      rintro v σ' rfl
      refine ⟨kept_none, ?_⟩
      simp -implicitDefEqProofs only [go_sem, Nat.reduceBEq, Nat.reduceAdd, h]
      refine q2 _ _ ?_
      simp -implicitDefEqProofs only [go_sem, Nat.reduceBEq, Nat.reduceAdd]
      rw [hB rfl]
      exact ⟨rfl, rfl⟩
    | true =>
      simp -implicitDefEqProofs only [go_sem, Nat.reduceBEq, Nat.reduceAdd, h]
      refine ⟨⟨⟨trivial, trivial⟩, by decide⟩, q2 _ _ ?_⟩
      simp -implicitDefEqProofs only [go_sem, Nat.reduceBEq, Nat.reduceAdd]
      rw [hG rfl]
      simp only [he, cellsR, true_and]
  · have hd : (!decide (e = 0)) = true := by simp [he]
    simp only [cellsR] at h
    simp -implicitDefEqProofs only [c16, go_sem, Nat.reduceBEq, Nat.reduceAdd, h, hd]
    refine q2 _ _ ?_
    simp -implicitDefEqProofs only [go_sem, Nat.reduceBEq, Nat.reduceAdd]
    simp only [numR, if_neg he]
    exact ⟨rfl, (setC_self h).symm⟩
end Go.VL

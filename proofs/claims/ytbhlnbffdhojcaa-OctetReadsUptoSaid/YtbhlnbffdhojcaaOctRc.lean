/- octet: the answer's readers, further. -/
import Derived.Test.YtbhlnbffdhojcaaOctRb
set_option linter.unusedVariables false
set_option linter.unusedSimpArgs false
namespace Go.VL
open Go Go.Proofs Go.IntWalk

theorem numR_bad {p : List UInt8} {at_ : Nat} {e bad : Int} (h0 : e = 0 → bad = 0) : (numR p at_ e bad).2.2.1 = 0 → (numR p at_ e bad).2.2.2 = 0 := by
  unfold numR
  split
  · rename_i he
    split
    · intro _; exact h0 he
    · intro h; simp at h
  · intro h; exact h0 h
theorem cntR_bad {p : List UInt8} {at_ : Nat} {e bad most : Int} (h0 : e = 0 → bad = 0) : (cntR p at_ e bad most).2.2.1 = 0 → (cntR p at_ e bad most).2.2.2 = 0 := by
  unfold cntR
  split
  · intro h; simp at h
  · exact numR_bad h0
theorem txtR_bad {p : List UInt8} {at_ : Nat} {e bad most : Int} (h0 : e = 0 → bad = 0) : (txtR p at_ e bad most).2.2.1 = 0 → (txtR p at_ e bad most).2.2.2 = 0 := by
  unfold txtR
  split
  · split
    · split
      · intro h; simp at h
      · rename_i h _; intro _; exact cntR_bad h0 h
    · exact cntR_bad h0
  · intro h; exact h0 h
theorem txtR_bound (bs : List UInt8) {at_ : Nat} (e bad most : Int) (ha : at_ ≤ bs.length) : (txtR bs at_ e bad most).2.1 ≤ bs.length := by
  have hb := cntR_bound bs e bad most ha
  unfold txtR
  split
  · split
    · split
      · exact ha
      · dsimp only; omega
    · exact hb.1
  · exact ha

set_option maxRecDepth 100000 in
set_option maxHeartbeats 1600000 in
theorem refCount_ok {σ : St} {s : V} {p : List UInt8} {at_ : Nat} {e bad most : Int} (hs : RdS σ s 1 (bytesV p)) (ha : at_ ≤ p.length) (hlen : p.length ≤ 1073741824) (h0 : e = 0 → bad = 0) :
    CallA Try.prog 21 [rdr s at_ e bad, .int .i64 most] σ fun v σ' => σ' = σ ∧ v = .tup [rdr s (cntR p at_ e bad most).2.1 (cntR p at_ e bad most).2.2.1 (cntR p at_ e bad most).2.2.2, .int .i64 (cntR p at_ e bad most).1] := by
  obtain ⟨b, r, z, rfl, -, -⟩ := id hs
  refine fn_at Try.func21 (by decide) comp21 rfl fun Q q1 q2 => ?_
  have hnx := refNext_ok (e := e) (bad := bad) hs ha hlen h0
  have hc : ∀ x, numR p at_ e bad = x → cntR p at_ e bad most = if e = 0 ∧ x.2.2.1 = 0 ∧ most < x.1 then (0, at_, 3, (at_ : Int)) else x := by
    intro x hx
    subst hx
    rfl
  generalize hx : numR p at_ e bad = x at hnx
  have hc := hc x hx
  obtain ⟨n, a, e', bad'⟩ := x
  simp only at hc
  simp -implicitDefEqProofs only [go_sem, Nat.reduceBEq, Nat.reduceAdd, c21, rdr, cellsR]
  refine ⟨trivial, call_at hnx ?_⟩
  rintro v τ ⟨rfl, rfl⟩
  refine ⟨kept_none, ?_⟩
  have fin1 : (e = 0 ∧ e' = 0 ∧ most < n) ∨ ¬ (e = 0 ∧ e' = 0 ∧ most < n) := Classical.em _
  rcases fin1 with hy | hy
  · obtain ⟨y1, y2, y3⟩ := hy
    rw [if_pos ⟨y1, y2, y3⟩] at hc
    rw [hc] at q2
    have d1 : decide (e = 0) = true := by simp [y1]
    have d2 : decide (e' = 0) = true := by simp [y2]
    have d3 : decide (most < (n : Int)) = true := by simp [y3]
    simp -implicitDefEqProofs only [go_sem, Nat.reduceBEq, Nat.reduceAdd, rdr, cellsR, List.getElem?_cons_zero, List.getElem?_cons_succ, Nat.reduceLeDiff, Nat.zero_add, d1, d2, d3]
    refine ⟨⟨⟨trivial, trivial⟩, by decide⟩, trivial, call_at (refFail_ok hs.isSl) ?_⟩
    rintro v τ' ⟨rfl, rfl⟩
    refine ⟨kept_none, ?_⟩
    simp -implicitDefEqProofs only [go_sem, Nat.reduceBEq, Nat.reduceAdd]
    refine ⟨⟨⟨trivial, trivial⟩, by decide⟩, q2 _ _ ?_⟩
    simp -implicitDefEqProofs only [go_sem, Nat.reduceBEq, Nat.reduceAdd]
    exact ⟨trivial, trivial, rfl⟩
  · rw [if_neg hy] at hc
    rw [hc] at q2
    have hnoret : ∀ (F : Fr), F.l = [(2, [V.sl b r z (bytesV p), V.int IntKind.i64 at_, V.int IntKind.i64 e, V.int IntKind.i64 bad]), (4, [V.sl true R.pub 0 [], V.int IntKind.i64 0, V.int IntKind.i64 0, V.int IntKind.i64 0]), (6, cellsR (V.sl b r z (bytesV p)) a e' bad')] → True := fun _ _ => trivial
    by_cases y1 : e = 0
    · have d1 : decide (e = 0) = true := by simp [y1]
      by_cases y2 : e' = 0
      · have d2 : decide (e' = 0) = true := by simp [y2]
        have d3 : decide (most < (n : Int)) = false := by
          have := fun h => hy ⟨y1, y2, h⟩
          simpa using this
        simp -implicitDefEqProofs only [go_sem, Nat.reduceBEq, Nat.reduceAdd, rdr, cellsR, List.getElem?_cons_zero, List.getElem?_cons_succ, Nat.reduceLeDiff, Nat.zero_add, d1, d2, d3]
        refine ⟨⟨⟨trivial, trivial⟩, by decide⟩, trivial, ⟨⟨trivial, trivial⟩, by decide⟩, q2 _ _ ?_⟩
        simp -implicitDefEqProofs only [go_sem, Nat.reduceBEq, Nat.reduceAdd]
        exact ⟨trivial, trivial, rfl⟩
      · have d2 : decide (e' = 0) = false := by simp [y2]
        simp -implicitDefEqProofs only [go_sem, Nat.reduceBEq, Nat.reduceAdd, rdr, cellsR, List.getElem?_cons_zero, List.getElem?_cons_succ, Nat.reduceLeDiff, Nat.zero_add, d1, d2]
        refine ⟨⟨⟨trivial, trivial⟩, by decide⟩, trivial, ⟨⟨trivial, trivial⟩, by decide⟩, q2 _ _ ?_⟩
        simp -implicitDefEqProofs only [go_sem, Nat.reduceBEq, Nat.reduceAdd]
        exact ⟨trivial, trivial, rfl⟩
    · have d1 : decide (e = 0) = false := by simp [y1]
      simp -implicitDefEqProofs only [go_sem, Nat.reduceBEq, Nat.reduceAdd, rdr, cellsR, List.getElem?_cons_zero, List.getElem?_cons_succ, Nat.reduceLeDiff, Nat.zero_add, d1]
      refine ⟨⟨⟨trivial, trivial⟩, by decide⟩, trivial, ⟨⟨trivial, trivial⟩, by decide⟩, q2 _ _ ?_⟩
      simp -implicitDefEqProofs only [go_sem, Nat.reduceBEq, Nat.reduceAdd]
      exact ⟨trivial, trivial, rfl⟩

set_option maxRecDepth 100000 in
set_option maxHeartbeats 1600000 in
theorem refText_ok {σ : St} {s : V} {p : List UInt8} {at_ : Nat} {e bad most : Int} (hs : RdS σ s 1 (bytesV p)) (ha : at_ ≤ p.length) (hlen : p.length ≤ 1073741824) (h0 : e = 0 → bad = 0) :
    CallA Try.prog 23 [rdr s at_ e bad, .int .i64 most] σ fun v σ' => σ' = σ ∧ v = .tup [rdr s (txtR p at_ e bad most).2.1 (txtR p at_ e bad most).2.2.1 (txtR p at_ e bad most).2.2.2, .str (txtR p at_ e bad most).1] := by
  obtain ⟨b, r, z, rfl, -, -⟩ := id hs
  refine fn_at Try.func23 (by decide) comp23 rfl fun Q q1 q2 => ?_
  have hbl := bytesV_length p
  have hcx := refCount_ok (e := e) (bad := bad) (most := most) hs ha hlen h0
  have hcb := cntR_bound p e bad most ha
  have hbad := cntR_bad (p := p) (at_ := at_) (most := most) h0
  have hc : ∀ x, cntR p at_ e bad most = x → txtR p at_ e bad most = if x.2.2.1 = 0 then (if p.length - x.2.1 < x.1 then ([], at_, 2, (at_ : Int)) else ((p.drop x.2.1).take x.1, x.2.1 + x.1, 0, x.2.2.2)) else ([], x.2) := by
    intro x hx
    by_cases he : e = 0
    · subst hx
      simp only [txtR, if_pos he]
    · have : cntR p at_ e bad most = (0, at_, e, bad) := by simp only [cntR, if_neg (fun x : e = 0 ∧ _ => he x.1), numR, if_neg he]
      rw [this] at hx
      subst hx
      simp only [txtR, if_neg he]
  generalize hx : cntR p at_ e bad most = x at hcx hcb hbad
  have hc := hc x hx
  obtain ⟨n, a, e', bad'⟩ := x
  simp only at hc hcb hbad
  simp -implicitDefEqProofs only [go_sem, Nat.reduceBEq, Nat.reduceAdd, c23, rdr, cellsR]
  refine ⟨trivial, call_at hcx ?_⟩
  rintro v τ ⟨rfl, rfl⟩
  refine ⟨kept_none, ?_⟩
  by_cases he : e' = 0
  · rw [if_pos he] at hc
    have d1 : (!decide (e' = 0)) = false := by simp [he]
    have hw : IntKind.i64.wrap ((p.length : Int) - (a : Int)) = ((p.length - a : Nat) : Int) := by rw [i64_in _ (by omega)]; omega
    by_cases h2 : p.length - a < n
    · have d2 : decide (((p.length - a : Nat) : Int) < (n : Int)) = true := by simp; omega
      rw [if_pos h2] at hc
      rw [hc] at q2
      simp -implicitDefEqProofs only [go_sem, Nat.reduceBEq, Nat.reduceAdd, rdr, cellsR, List.getElem?_cons_zero, List.getElem?_cons_succ, Nat.reduceLeDiff, Nat.zero_add, d1, hbl, hw, d2]
      refine ⟨⟨⟨trivial, trivial⟩, by decide⟩, trivial, call_at (refFail_ok hs.isSl) ?_⟩
      rintro v τ' ⟨rfl, rfl⟩
      refine ⟨kept_none, ?_⟩
      simp -implicitDefEqProofs only [go_sem, Nat.reduceBEq, Nat.reduceAdd]
      refine ⟨⟨⟨trivial, trivial⟩, by decide⟩, q2 _ _ ?_⟩
      simp -implicitDefEqProofs only [go_sem, Nat.reduceBEq, Nat.reduceAdd]
      exact ⟨trivial, trivial, rfl⟩
    · have d2 : decide (((p.length - a : Nat) : Int) < (n : Int)) = false := by simp; omega
      rw [if_neg h2] at hc
      rw [hc] at q2
      have hw2 : IntKind.i64.wrap ((a : Int) + (n : Int)) = ((a + n : Nat) : Int) := by rw [i64_in _ (by omega)]; omega
      have hT : List.drop ((a : Nat) : Int).toNat (List.take ((a + n : Nat) : Int).toNat (bytesV p)) = bytesV ((p.drop a).take n) := by
        simp only [Int.toNat_natCast, bytesV, ← List.map_take, ← List.map_drop]
        rw [List.drop_take, show a + n - a = n from by omega]
      simp -implicitDefEqProofs only [go_sem, Nat.reduceBEq, Nat.reduceAdd, rdr, cellsR, List.getElem?_cons_zero, List.getElem?_cons_succ, Nat.reduceLeDiff, Nat.zero_add, d1, hbl, hw, d2, hw2, hT, bytes_back, Nat.reduceSub]
      have hr2 : b = true ∨ rd τ.live r.toView ∧ z = 1 := by
        obtain ⟨_, _, _, e, _, h⟩ := hs
        cases e
        exact h.imp_right fun x => ⟨rd_toView x.1, x.2⟩
      refine ⟨⟨⟨trivial, trivial⟩, by decide⟩, ⟨rd_z hs, by omega, by omega, by omega, by omega⟩, ⟨hr2, trivial⟩, ⟨⟨trivial, trivial⟩, by decide⟩, trivial, ⟨⟨trivial, trivial⟩, by decide⟩, q2 _ _ ?_⟩
      simp -implicitDefEqProofs only [go_sem, Nat.reduceBEq, Nat.reduceAdd]
      exact ⟨trivial, trivial, by rw [he]; rfl⟩
  · rw [if_neg he] at hc
    rw [hc] at q2
    have d1 : (!decide (e' = 0)) = true := by simp [he]
    simp -implicitDefEqProofs only [go_sem, Nat.reduceBEq, Nat.reduceAdd, rdr, cellsR, List.getElem?_cons_zero, List.getElem?_cons_succ, Nat.reduceLeDiff, Nat.zero_add, d1]
    refine ⟨⟨⟨trivial, trivial⟩, by decide⟩, trivial, ⟨⟨trivial, trivial⟩, by decide⟩, q2 _ _ ?_⟩
    simp -implicitDefEqProofs only [go_sem, Nat.reduceBEq, Nat.reduceAdd]
    exact ⟨trivial, trivial, rfl⟩

set_option maxRecDepth 100000 in
theorem refDone_ok {σ : St} {s : V} {p : List UInt8} {at_ : Nat} {e bad : Int} (hs : RdS σ s 1 (bytesV p)) :
    CallA Try.prog 26 [rdr s at_ e bad] σ fun v σ' => σ' = σ ∧ v = .int .i64 (doneR p at_ e) := by
  obtain ⟨b, r, z, rfl, -, -⟩ := id hs
  refine fn_at Try.func26 (by decide) comp26 rfl fun Q q1 q2 => ?_
  have hbl := bytesV_length p
  by_cases he : e = 0
  · have d1 : decide (e = 0) = true := by simp [he]
    by_cases h2 : at_ < p.length
    · have d2 : decide ((at_ : Int) < (p.length : Int)) = true := by simp; omega
      simp -implicitDefEqProofs only [go_sem, Nat.reduceBEq, Nat.reduceAdd, c26, rdr, cellsR, d1, hbl, d2]
      refine q2 _ _ ?_
      simp -implicitDefEqProofs only [go_sem, Nat.reduceBEq, Nat.reduceAdd]
      exact ⟨trivial, by rw [doneR, if_pos ⟨he, h2⟩]⟩
    · have d2 : decide ((at_ : Int) < (p.length : Int)) = false := by simp; omega
      simp -implicitDefEqProofs only [go_sem, Nat.reduceBEq, Nat.reduceAdd, c26, rdr, cellsR, d1, hbl, d2]
      refine q2 _ _ ?_
      simp -implicitDefEqProofs only [go_sem, Nat.reduceBEq, Nat.reduceAdd]
      exact ⟨trivial, by rw [doneR, if_neg (fun h => h2 h.2)]⟩
  · have d1 : decide (e = 0) = false := by simp [he]
    simp -implicitDefEqProofs only [go_sem, Nat.reduceBEq, Nat.reduceAdd, c26, rdr, cellsR, d1]
    refine q2 _ _ ?_
    simp -implicitDefEqProofs only [go_sem, Nat.reduceBEq, Nat.reduceAdd]
    exact ⟨trivial, by rw [doneR, if_neg (fun h => he h.1)]⟩
end Go.VL

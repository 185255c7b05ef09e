/- octet: Text. -/
import Derived.Test.YtbhlnbffdhojcaaOctS
set_option linter.unusedVariables false
set_option linter.unusedSimpArgs false
namespace Go.VL
open Go Go.Proofs Go.IntWalk

theorem dec_bound : ∀ (l : List UInt8) (k a : Nat) {n c : Nat} {ok : Bool}, k ≤ 9 → a < 128 ^ k → dec k a l = some (n, c, ok) → c ≤ k + l.length ∧ n < 9223372036854775808
  | [], k, a, n, c, ok, _, _, h => by simp [dec] at h
  | x :: r, k, a, n, c, ok, hk, ha, h => by
    simp only [dec] at h
    split at h
    · cases h
    · rename_i hk9
      have hpow : a + x.toNat % 128 * 128 ^ k < 128 ^ (k + 1) := by
        have : x.toNat % 128 * 128 ^ k ≤ 127 * 128 ^ k := Nat.mul_le_mul_right _ (by omega)
        rw [Nat.pow_succ]; omega
      split at h
      · simp only [Option.some.injEq, Prod.mk.injEq] at h
        have h9 : 128 ^ (k + 1) ≤ 128 ^ 9 := Nat.pow_le_pow_right (by decide) (by omega)
        have e9 : (128 : Nat) ^ 9 = 9223372036854775808 := by decide
        simp only [List.length_cons]
        omega
      · have := dec_bound r (k + 1) _ (by omega) hpow h
        simp only [List.length_cons]
        omega

theorem numR_bound (bs : List UInt8) {at_ : Nat} (e bad : Int) (ha : at_ ≤ bs.length) : (numR bs at_ e bad).2.1 ≤ bs.length ∧ (numR bs at_ e bad).1 < 9223372036854775808 := by
  unfold numR
  split
  · split
    · rename_i n c h
      have := dec_bound _ 0 0 (by decide) (by decide) h
      simp only [List.length_drop] at this
      exact ⟨by dsimp only; omega, this.2⟩
    · exact ⟨ha, by dsimp only; omega⟩
  · exact ⟨ha, by dsimp only; omega⟩
theorem cntR_bound (bs : List UInt8) {at_ : Nat} (e bad most : Int) (ha : at_ ≤ bs.length) : (cntR bs at_ e bad most).2.1 ≤ bs.length ∧ (cntR bs at_ e bad most).1 < 9223372036854775808 := by
  unfold cntR
  split
  · exact ⟨ha, by dsimp only; omega⟩
  · exact numR_bound bs e bad ha

/-- A text, the place, the error, its place. -/
def txtR (bs : List UInt8) (at_ : Nat) (e bad most : Int) : List UInt8 × Nat × Int × Int :=
  if e = 0 then
    if (cntR bs at_ e bad most).2.2.1 = 0 then
      if bs.length - (cntR bs at_ e bad most).2.1 < (cntR bs at_ e bad most).1 then ([], at_, 2, at_)
      else ((bs.drop (cntR bs at_ e bad most).2.1).take (cntR bs at_ e bad most).1, (cntR bs at_ e bad most).2.1 + (cntR bs at_ e bad most).1, 0, (cntR bs at_ e bad most).2.2.2)
    else ([], (cntR bs at_ e bad most).2)
  else ([], at_, e, bad)

section
variable {σ : St} {i at_ : Nat} {e bad most : Int} {bs : List UInt8} {s : V}
set_option maxRecDepth 100000 in
theorem text_ok (h : σ.objs[i]? = some (.cells (cellsR s at_ e bad))) (hs : RdS σ s 1 (bytesV bs)) (ha : at_ ≤ bs.length) (hlen : bs.length ≤ 1073741824) :
    CallA Try.prog 17 [.ptr (some (i, 0)), .int .i64 most] σ fun v σ' => v = .str (txtR bs at_ e bad most).1 ∧
      σ' = σ.setC i (cellsR s (txtR bs at_ e bad most).2.1 (txtR bs at_ e bad most).2.2.1 (txtR bs at_ e bad most).2.2.2) := by
  have hlt : i < σ.objs.length := (List.getElem?_eq_some_iff.1 h).1
  refine fn_at Try.func17 (by decide) comp17 rfl fun Q q1 q2 => ?_
  have hcnt := count_ok (most := most) h hs ha hlen
  have hb := cntR_bound bs e bad most ha
  by_cases he : e = 0
  · have hd : (!decide (e = 0)) = false := by simp [he]
    simp only [cellsR] at h
    simp -implicitDefEqProofs only [c17, go_sem, Nat.reduceBEq, Nat.reduceAdd, h, hd]
    refine call_at hcnt ?_
    rintro v σ' ⟨rfl, rfl⟩
    refine ⟨kept_none, ?_⟩
    have ht : ∀ x, cntR bs at_ e bad most = x → txtR bs at_ e bad most = if x.2.2.1 = 0 then (if bs.length - x.2.1 < x.1 then ([], at_, 2, (at_ : Int)) else ((bs.drop x.2.1).take x.1, x.2.1 + x.1, 0, x.2.2.2)) else ([], x.2) := by
      intro x hx
      subst hx
      simp only [txtR, if_pos he]
    generalize hx : cntR bs at_ e bad most = x at hb
    have ht := ht x hx
    obtain ⟨n, at', e', bad'⟩ := x
    simp only at hb ht
    obtain ⟨b, r, s', rfl, hb1, hb2⟩ := hs
    have hg := setC_get (cs := cellsR (.sl b r s' (bytesV bs)) at' e' bad') hlt
    simp only [cellsR] at hg
    by_cases h1 : e' = 0
    · have d1 : (!decide (e' = 0)) = false := by simp [h1]
      have hw : IntKind.i64.wrap (((bytesV bs).length : Int) - (at' : Int)) = ((bs.length - at' : Nat) : Int) := by
        rw [bytesV_length, i64_in _ (by omega)]; omega
      rw [if_pos h1] at ht
      by_cases h2 : bs.length - at' < n
      · have d2 : decide (((bs.length - at' : Nat) : Int) < (n : Int)) = true := by simp; omega
        rw [if_pos h2] at ht
        simp -implicitDefEqProofs only [cellsR, go_sem, Nat.reduceBEq, Nat.reduceAdd, hg, d1, hw, d2]
        refine call_at (fail_ok hg) ?_
        rintro v σ' rfl
        refine ⟨kept_none, ?_⟩
        simp -implicitDefEqProofs only [go_sem, Nat.reduceBEq, Nat.reduceAdd]
        refine q2 _ _ ?_
        simp -implicitDefEqProofs only [go_sem, Nat.reduceBEq, Nat.reduceAdd]
        rw [ht]
        refine ⟨rfl, ?_⟩
        simp [St.setC, cellsR]
      · have d2 : decide (((bs.length - at' : Nat) : Int) < (n : Int)) = false := by simp; omega
        rw [if_neg h2] at ht
        have hw2 : IntKind.i64.wrap ((at' : Int) + (n : Int)) = ((at' + n : Nat) : Int) := by rw [i64_in _ (by omega)]; omega
        have hT : List.drop ((at' : Nat) : Int).toNat (List.take ((at' + n : Nat) : Int).toNat (bytesV bs)) = bytesV ((bs.drop at').take n) := by
          simp only [Int.toNat_natCast, bytesV, ← List.map_take, ← List.map_drop]
          rw [List.drop_take, show at' + n - at' = n from by omega]
        simp -implicitDefEqProofs only [cellsR, go_sem, Nat.reduceBEq, Nat.reduceAdd, hg, d1, hw, d2, hw2, hT, bytes_back]
        have hv : b = true ∨ rd (σ.setC i [V.sl b r s' (bytesV bs), V.int IntKind.i64 ↑at', V.int IntKind.i64 e', V.int IntKind.i64 bad']).live r.toView ∧ s' = 1 := by
          rcases hb2 with x | x
          · exact .inl x
          · refine .inr ⟨?_, x.2⟩
            have := x.1
            cases r <;> exact this
        refine ⟨⟨hb2.imp_right (·.2), by omega, by omega, by omega, by rw [bytesV_length]; omega⟩, ⟨hv, trivial⟩, ⟨⟨trivial, trivial⟩, by decide⟩, q2 _ _ ?_⟩
        simp -implicitDefEqProofs only [go_sem, Nat.reduceBEq, Nat.reduceAdd]
        rw [ht]
        exact ⟨rfl, by simp only [cellsR, h1]⟩
    · have d1 : (!decide (e' = 0)) = true := by simp [h1]
      rw [if_neg h1] at ht
      simp -implicitDefEqProofs only [cellsR, go_sem, Nat.reduceBEq, Nat.reduceAdd, hg, d1]
      refine q2 _ _ ?_
      simp -implicitDefEqProofs only [go_sem, Nat.reduceBEq, Nat.reduceAdd]
      rw [ht]
      exact ⟨rfl, rfl⟩
  · have hd : (!decide (e = 0)) = true := by simp [he]
    simp only [cellsR] at h
    simp -implicitDefEqProofs only [c17, go_sem, Nat.reduceBEq, Nat.reduceAdd, h, hd]
    refine q2 _ _ ?_
    simp -implicitDefEqProofs only [go_sem, Nat.reduceBEq, Nat.reduceAdd]
    have ht : txtR bs at_ e bad most = ([], at_, e, bad) := by simp only [txtR, if_neg he]
    rw [ht]
    exact ⟨rfl, (setC_self h).symm⟩
end
end Go.VL

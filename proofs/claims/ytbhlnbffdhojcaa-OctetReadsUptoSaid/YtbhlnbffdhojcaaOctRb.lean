/- octet: the answer's readers. -/
import Derived.Test.YtbhlnbffdhojcaaOctPa
set_option linter.unusedVariables false
set_option linter.unusedSimpArgs false
namespace Go.VL
open Go Go.Proofs Go.IntWalk

/-- What the answer's Num tells. -/
def rnum (l : List UInt8) : Nat × Nat × Bool := (dec 0 0 l).getD (0, 0, false)

set_option maxRecDepth 100000 in
set_option maxHeartbeats 1600000 in
theorem refNum_ok {σ : St} {b : V} {p : List UInt8} (hb : RdS σ b 1 (bytesV p)) (hlen : p.length ≤ 1073741824) :
    CallA Try.prog 29 [b] σ fun v σ' => σ' = σ ∧ v = .tup [.int .i64 (rnum p).1, .int .i64 (rnum p).2.1, .bool (rnum p).2.2] := by
  obtain ⟨bb, br, bz, rfl, -, -⟩ := id hb
  refine fn_at Try.func29 (by decide) comp29 rfl fun Q q1 q2 => ?_
  simp -implicitDefEqProofs only [go_sem, Nat.reduceBEq, Nat.reduceAdd, c29]
  have hl : (bytesV p).length = p.length := bytesV_length _
  refine loop_at (fun (x : Nat × Nat) => ⟨[(0, .v (.sl bb br bz (bytesV p))), (5, .v (.int .i64 x.2)), (6, .v (.int .i64 ((if x.1 < 9 then 128 ^ x.1 else 128 ^ 8 : Nat) : Int))), (7, .v (.int .i64 x.1))], []⟩)
    (fun x τ => τ = σ ∧ x.1 ≤ 9 ∧ x.1 ≤ p.length ∧ x.2 < 128 ^ x.1 ∧ dec 0 0 p = dec x.1 x.2 (p.drop x.1)) (fun x => 10 - x.1) (0, 0) ?_ ?_ ?_
  · exact .inr (by simp [go_sem])
  · exact ⟨rfl, by simp, Nat.zero_le _, by simp, rfl⟩
  rintro ⟨k, n⟩ τ ⟨rfl, h1, h2, h3, h4⟩ Z z1 z2 z3
  simp only at h1 h2 h3 h4
  by_cases hne : k < p.length
  · have hd1 : decide ((k : Int) < (p.length : Int)) = true := by simp; omega
    by_cases hk9 : k = 9
    · have hd2 : decide ((k : Int) < 9) = false := by simp; omega
      have hdn : dec 0 0 p = none := by
        rw [h4, List.drop_eq_getElem_cons hne, dec, if_pos hk9]
      simp -implicitDefEqProofs only [go_sem, Nat.reduceBEq, Nat.reduceAdd, hl, hd1, hd2]
      refine z2 _ _ _ ?_
      simp -implicitDefEqProofs only [go_sem, Nat.reduceBEq, Nat.reduceAdd]
      refine q2 _ _ ?_
      simp -implicitDefEqProofs only [go_sem, Nat.reduceBEq, Nat.reduceAdd, rnum, hdn, Option.getD_none]
      exact ⟨trivial, rfl⟩
    · have hd2 : decide ((k : Int) < 9) = true := by simp; omega
      obtain ⟨k1, k2⟩ := rdl hb (by cases p <;> simp [bytesV] at hne ⊢)
      have hc := (p[k]).toNat_lt
      rw [List.drop_eq_getElem_cons hne, dec, if_neg hk9] at h4
      have hp := pow_le (k := k) (by omega)
      have hpow : n + (p[k]).toNat % 128 * 128 ^ k < 128 ^ (k + 1) := by
        have : (p[k]).toNat % 128 * 128 ^ k ≤ 127 * 128 ^ k := Nat.mul_le_mul_right _ (by omega)
        rw [Nat.pow_succ]; omega
      have t1 : (((p[k]).toNat : Nat) : Int).tmod 128 = (((p[k]).toNat % 128 : Nat) : Int) := tmod_nat _ 128
      have hmul : (p[k]).toNat % 128 * 128 ^ k ≤ 127 * 72057594037927936 := Nat.mul_le_mul (by omega) hp
      have t2 : IntKind.i64.wrap (((p[k]).toNat % 128 : Nat) : Int) = (((p[k]).toNat % 128 : Nat) : Int) := i64_in _ (by omega)
      have hby : ((if k < 9 then 128 ^ k else 128 ^ 8 : Nat) : Int) = ((128 ^ k : Nat) : Int) := by rw [if_pos (by omega)]
      have t3 : IntKind.i64.wrap ((((p[k]).toNat % 128 : Nat) : Int) * ((128 ^ k : Nat) : Int)) = (((p[k]).toNat % 128 * 128 ^ k : Nat) : Int) := by
        rw [← Int.natCast_mul, i64_in _ (by omega)]
      have h9 : 128 ^ (k + 1) ≤ 128 ^ 9 := Nat.pow_le_pow_right (by decide) (by omega)
      have e9 : (128 : Nat) ^ 9 = 9223372036854775808 := by decide
      have t4 : IntKind.i64.wrap ((n : Int) + (((p[k]).toNat % 128 * 128 ^ k : Nat) : Int)) = ((n + (p[k]).toNat % 128 * 128 ^ k : Nat) : Int) := by
        rw [← Int.natCast_add, i64_in _ (by omega)]
      have t5 : IntKind.i64.wrap ((k : Int) + 1) = ((k + 1 : Nat) : Int) := by rw [i64_in _ (by omega)]; omega
      simp -implicitDefEqProofs only [go_sem, Nat.reduceBEq, Nat.reduceAdd, hl, hd1, hd2, hby, bytesV_get hne]
      refine cut_at (fun G τ' => τ' = τ ∧ ¬ (p[k]).toNat < 128 ∧ G = ⟨[(0, .v (.sl bb br bz (bytesV p))), (5, .v (.int .i64 ((n + (p[k]).toNat % 128 * 128 ^ k : Nat) : Int))), (6, .v (.int .i64 ((if k + 1 < 9 then 128 ^ (k + 1) else 128 ^ 8 : Nat) : Int))), (7, .v (.int .i64 k))], []⟩) ?_ ?_
      · intro Y y1 y2 y3
        simp -implicitDefEqProofs only [go_sem, Nat.reduceBEq, Nat.reduceAdd, bytesV_get hne, hl, t1, t2, t3, t4]
        refine ⟨⟨by omega, by omega, k2⟩, k1, by decide, ⟨by omega, by omega, k2⟩, k1, ?_⟩
        refine CondW_b (fun hcc => ?_) (fun hcc => ?_)
        · have hlt : (p[k]).toNat < 128 := by have := of_decide_eq_true hcc; omega
          rw [if_pos hlt] at h4
          have hr : rnum p = (n + (p[k]).toNat % 128 * 128 ^ k, k + 1, decide ((p[k]).toNat ≠ 0) || decide (k = 0)) := by rw [rnum, h4]; rfl
          by_cases h0 : (p[k]).toNat = 0
          · have d1 : (!decide ((((p[k]).toNat : Nat) : Int) = 0)) = false := by simp [h0]
            have d2 : decide ((k : Int) = 0) = (decide ((p[k]).toNat ≠ 0) || decide (k = 0)) := by simp [h0]
            simp -implicitDefEqProofs only [go_sem, Nat.reduceBEq, Nat.reduceAdd, bytesV_get hne, hl, t5, d1, d2]
            refine ⟨⟨by omega, by omega, k2⟩, k1, y3 _ _ (z3 _ _ ?_)⟩
            simp -implicitDefEqProofs only [go_sem, Nat.reduceBEq, Nat.reduceAdd]
            refine q2 _ _ ?_
            simp -implicitDefEqProofs only [go_sem, Nat.reduceBEq, Nat.reduceAdd, hr]
            exact ⟨trivial, trivial⟩
          · have d1 : (!decide ((((p[k]).toNat : Nat) : Int) = 0)) = true := by simp; omega
            have d2 : (decide ((p[k]).toNat ≠ 0) || decide (k = 0)) = true := by simp [h0]
            simp -implicitDefEqProofs only [go_sem, Nat.reduceBEq, Nat.reduceAdd, bytesV_get hne, hl, t5, d1]
            refine ⟨⟨by omega, by omega, k2⟩, k1, y3 _ _ (z3 _ _ ?_)⟩
            simp -implicitDefEqProofs only [go_sem, Nat.reduceBEq, Nat.reduceAdd]
            refine q2 _ _ ?_
            rw [d2] at hr
            simp -implicitDefEqProofs only [go_sem, Nat.reduceBEq, Nat.reduceAdd, hr]
            exact ⟨trivial, trivial⟩
        · have hlt : ¬ (p[k]).toNat < 128 := by have := of_decide_eq_false hcc; omega
          simp -implicitDefEqProofs only [go_sem, Nat.reduceBEq, Nat.reduceAdd]
          refine CondW_b (fun h8 => ?_) (fun h8 => ?_)
          · have h8 : k < 8 := by have := of_decide_eq_true h8; omega
            have hp7 : 128 ^ k ≤ 128 ^ 7 := Nat.pow_le_pow_right (by decide) (by omega)
            have e7 : (128 : Nat) ^ 7 = 562949953421312 := by decide
            have t6 : IntKind.i64.wrap (((128 ^ k : Nat) : Int) * 128) = ((128 ^ (k + 1) : Nat) : Int) := by
              rw [Nat.pow_succ, i64_in _ (by omega)]; omega
            simp -implicitDefEqProofs only [go_sem, Nat.reduceBEq, Nat.reduceAdd, t6]
            refine y1 _ _ _ (.inr ?_) ⟨rfl, hlt, rfl⟩
            rw [if_pos (by omega)]
            simp -implicitDefEqProofs only [go_sem, Nat.reduceBEq, Nat.reduceAdd, and_true]
          · have h8 : k = 8 := by have := of_decide_eq_false h8; omega
            simp -implicitDefEqProofs only [go_sem, Nat.reduceBEq, Nat.reduceAdd]
            refine y1 _ _ _ (.inr ?_) ⟨rfl, hlt, rfl⟩
            subst h8
            simp -implicitDefEqProofs only [go_sem, Nat.reduceBEq, Nat.reduceAdd, and_true]
            exact ⟨trivial, trivial, rfl⟩
      · rintro G τ' ⟨rfl, hlt, rfl⟩
        simp -implicitDefEqProofs only [go_sem, Nat.reduceBEq, Nat.reduceAdd, t5]
        rw [if_neg hlt] at h4
        refine z1 (k + 1, n + (p[k]).toNat % 128 * 128 ^ k) _ _ (.inr ?_) ?_ ?_
        · simp -implicitDefEqProofs only [go_sem, Nat.reduceBEq, Nat.reduceAdd, and_true]
        · simp only; omega
        · exact ⟨rfl, by simp only; omega, by simp only; omega, hpow, h4⟩
  · have hd1 : decide ((k : Int) < (p.length : Int)) = false := by simp; omega
    have hdn : dec 0 0 p = none := by
      rw [h4, List.drop_eq_nil_of_le (by omega), dec]
    simp -implicitDefEqProofs only [go_sem, Nat.reduceBEq, Nat.reduceAdd, hl, hd1]
    refine z2 _ _ _ ?_
    simp -implicitDefEqProofs only [go_sem, Nat.reduceBEq, Nat.reduceAdd]
    refine q2 _ _ ?_
    simp -implicitDefEqProofs only [go_sem, Nat.reduceBEq, Nat.reduceAdd, rnum, hdn, Option.getD_none]
    exact ⟨trivial, rfl⟩

/-- A reader of the answer's. -/
def rdr (s : V) (at_ : Nat) (e bad : Int) : V := .agg (cellsR s at_ e bad)

/-- A value that is a slice. -/
def IsSl (s : V) : Prop := ∃ b r z es, s = .sl b r z es
theorem RdS.isSl {σ : St} {s : V} {n : Nat} {es : List (List V)} (h : RdS σ s n es) : IsSl s := by
  obtain ⟨b, r, z, h, _⟩ := h
  exact ⟨b, r, z, es, h⟩

set_option maxRecDepth 100000 in
theorem refFail_ok {σ : St} {s : V} {at_ : Nat} {e bad e' at' : Int} (hs : IsSl s) : CallA Try.prog 30 [rdr s at_ e bad, .int .i64 e', .int .i64 at'] σ fun v σ' => σ' = σ ∧ v = .agg [s, .int .i64 at', .int .i64 e', .int .i64 at'] := by
  obtain ⟨b, r, z, es, rfl⟩ := hs
  refine fn_at Try.func30 (by decide) comp30 rfl fun Q q1 q2 => ?_
  simp -implicitDefEqProofs only [go_sem, Nat.reduceBEq, Nat.reduceAdd, c30, rdr, cellsR, Nat.reduceLeDiff, Nat.zero_add]
  refine ⟨⟨⟨trivial, trivial⟩, by decide⟩, q2 _ _ ?_⟩
  simp -implicitDefEqProofs only [go_sem, Nat.reduceBEq, Nat.reduceAdd]
  exact ⟨trivial, trivial, trivial⟩

theorem rd_z {σ : St} {b : Bool} {r : R} {z n : Nat} {es : List (List V)} (h : RdS σ (.sl b r z es) n es) : b = true ∨ z = n := by
  obtain ⟨_, _, _, e, _, h2⟩ := h
  cases e
  exact h2.imp_right (·.2)
theorem rd_toView {l : List Bool} {r : R} (h : rd l r) : rd l r.toView := by cases r <;> exact h
theorem rdS_drop {σ : St} {b : Bool} {r : R} {z : Nat} {p : List UInt8} (h : RdS σ (.sl b r z (bytesV p)) 1 (bytesV p)) (k : Nat) : RdS σ (.sl b r.toView z (bytesV (p.drop k))) 1 (bytesV (p.drop k)) := by
  obtain ⟨_, _, _, e, h1, h2⟩ := h
  cases e
  refine ⟨_, _, _, rfl, fun hb => ?_, h2.imp_right fun x => ⟨rd_toView x.1, x.2⟩⟩
  have := h1 hb
  simp only [bytesV, List.map_eq_nil_iff] at this
  subst this
  simp [bytesV]
theorem numR_rnum (p : List UInt8) (at_ : Nat) (bad : Int) : numR p at_ 0 bad = if (rnum (p.drop at_)).2.2 = true then ((rnum (p.drop at_)).1, at_ + (rnum (p.drop at_)).2.1, 0, bad) else (0, at_, 2, (at_ : Int)) := by
  rcases hd : dec 0 0 (p.drop at_) with _ | ⟨n, c, _ | _⟩ <;> simp [numR, rnum, hd]

set_option maxRecDepth 100000 in
theorem refNext_ok {σ : St} {s : V} {p : List UInt8} {at_ : Nat} {e bad : Int} (hs : RdS σ s 1 (bytesV p)) (ha : at_ ≤ p.length) (hlen : p.length ≤ 1073741824) (h0 : e = 0 → bad = 0) :
    CallA Try.prog 20 [rdr s at_ e bad] σ fun v σ' => σ' = σ ∧ v = .tup [rdr s (numR p at_ e bad).2.1 (numR p at_ e bad).2.2.1 (numR p at_ e bad).2.2.2, .int .i64 (numR p at_ e bad).1] := by
  obtain ⟨b, r, z, rfl, -, -⟩ := id hs
  have hr := rd_src hs
  refine fn_at Try.func20 (by decide) comp20 rfl fun Q q1 q2 => ?_
  have hbl := bytesV_length p
  by_cases he : e = 0
  · have hd : (!decide (e = 0)) = false := by simp [he]
    have hD : List.drop ((at_ : Nat) : Int).toNat (bytesV p) = bytesV (p.drop at_) := by simp [bytesV, List.map_drop]
    have hT : List.take (bytesV p).length (bytesV p) = bytesV p := List.take_of_length_le (Nat.le_refl _)
    simp -implicitDefEqProofs only [go_sem, Nat.reduceBEq, Nat.reduceAdd, c20, rdr, cellsR, hd, hT, hD]
    refine ⟨⟨rd_z hs, by omega, trivial, by omega, Nat.le_refl _⟩, ?_⟩
    have hsub := rdS_drop hs at_
    refine call_at (refNum_ok hsub (by simp only [List.length_drop]; omega)) ?_
    rintro v τ ⟨rfl, rfl⟩
    refine ⟨kept_none, ?_⟩
    have hnr := numR_rnum p at_ bad
    have hnb := numR_bound p 0 bad ha
    subst he
    simp only [hnr] at hnb q2
    clear hnr
    generalize rnum (p.drop at_) = x at hnb q2 ⊢
    obtain ⟨n, c, ok⟩ := x
    cases ok with
    | true =>
      simp only [if_true] at hnb
      have hw : IntKind.i64.wrap ((at_ : Int) + (c : Int)) = ((at_ + c : Nat) : Int) := by rw [i64_in _ (by omega)]; omega
      simp -implicitDefEqProofs only [go_sem, Nat.reduceBEq, Nat.reduceAdd, cellsR, List.getElem?_cons_zero, List.getElem?_cons_succ, Bool.not_true, Nat.reduceLeDiff, Nat.zero_add, hw, Nat.reduceSub]
      refine ⟨⟨⟨trivial, trivial⟩, by decide⟩, q2 _ _ ?_⟩
      simp -implicitDefEqProofs only [go_sem, Nat.reduceBEq, Nat.reduceAdd]
      refine ⟨trivial, trivial, ?_⟩
      rw [h0 rfl]; rfl
    | false =>
      simp -implicitDefEqProofs only [go_sem, Nat.reduceBEq, Nat.reduceAdd, cellsR, List.getElem?_cons_zero, List.getElem?_cons_succ, Bool.not_false]
      refine ⟨trivial, call_at (refFail_ok hs.isSl) ?_⟩
      rintro v τ' ⟨rfl, rfl⟩
      refine ⟨kept_none, ?_⟩
      simp -implicitDefEqProofs only [go_sem, Nat.reduceBEq, Nat.reduceAdd]
      refine ⟨⟨⟨trivial, trivial⟩, by decide⟩, q2 _ _ ?_⟩
      simp -implicitDefEqProofs only [go_sem, Nat.reduceBEq, Nat.reduceAdd]
      refine ⟨trivial, trivial, ?_⟩
      rfl
  · have hd : (!decide (e = 0)) = true := by simp [he]
    simp -implicitDefEqProofs only [go_sem, Nat.reduceBEq, Nat.reduceAdd, c20, rdr, cellsR, hd]
    refine ⟨trivial, ⟨⟨trivial, trivial⟩, by decide⟩, q2 _ _ ?_⟩
    simp -implicitDefEqProofs only [go_sem, Nat.reduceBEq, Nat.reduceAdd]
    have hn : numR p at_ e bad = (0, at_, e, bad) := by simp only [numR, if_neg he]
    rw [hn]
    exact ⟨trivial, trivial, rfl⟩
end Go.VL

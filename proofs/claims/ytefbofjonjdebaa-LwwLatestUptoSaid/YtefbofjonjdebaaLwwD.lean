/- lww: what a register may have; who wins. -/
import Derived.Test.YtefbofjonjdebaaLwwB
set_option linter.unusedVariables false
set_option linter.unusedSimpArgs false
namespace Go.VL.lww
open Go Go.VL Go.Proofs Go.IntWalk

structure Rg where
  nc : Int
  nr : Int
  name : List UInt8
  ac : Int
  ar : Int
  val : List UInt8
  gone : Bool
def regC (r : Rg) : List V := [.int .i64 r.nc, .int .i64 r.nr, .str r.name, .int .i64 r.ac, .int .i64 r.ar, .str r.val, .bool r.gone]
def regV (r : Rg) : V := .agg (regC r)
def root (r : Rg) : Bool := decide (r.nc = 0) && decide (r.nr = 0)
def chk (r : Rg) : Int :=
  bif !root r && !right r.nc r.nr then 2 else bif !right r.ac r.ar then 2 else
  bif !decide (r.name = []) && !nameB r.name then 8 else bif decide ((256 : Int) < r.val.length) then 3 else bif r.gone && !decide (r.val = []) then 2 else 0
def wins (a b : Rg) : Bool :=
  bif decide (a.ac = b.ac) && decide (a.ar = b.ar) then (bif a.gone || b.gone then b.gone && !a.gone else strLess b.val a.val) else less b.ac b.ar a.ac a.ar

section
variable {σ : St} {r a b : Rg}
theorem strlen (s : List UInt8) : decide (s = []) = decide ((s.length : Int) = 0) := by cases s <;> simp; omega
set_option maxRecDepth 100000 in
set_option maxHeartbeats 1600000 in
theorem check_ok (hlen : r.name.length < 4611686018427387904) : CallA Try.prog 11 [regV r] σ fun v σ' => σ' = σ ∧ v = .int .i64 (chk r) := by
  refine fn_at Try.func11 (by decide) comp11 rfl fun Q q1 q2 => ?_
  have hroot : root r = (decide (r.nc = 0) && decide (r.nr = 0)) := rfl
  unfold chk at q1 q2
  simp -implicitDefEqProofs only [go_sem, Nat.reduceBEq, Nat.reduceAdd, c11, regV, regC]
  refine cut_at (fun G τ => τ = σ ∧ G = ⟨[(1, .loc 1 0), (3, .v (.bool ((!root r && !right r.nc r.nr) || !right r.ac r.ar)))], [(1, regC r)]⟩) ?_ ?_
  · intro Z z1 z2 z3
    have second : ∀ (F : Fr), sget 1 F.s = .loc 1 0 → lget 1 F.l = some (regC r) → True := fun _ _ _ => trivial
    cases hr : root r <;> rw [hr] at hroot z1
    case' false =>
      simp -implicitDefEqProofs only [go_sem, Nat.reduceBEq, Nat.reduceAdd, eq_self, true_and, and_self, V.eqs, V.eq, Bool.and_true, ← hroot]
      refine call_at right_ok ?_
      rintro v τ ⟨rfl, rfl⟩
      refine ⟨kept_none, ?_⟩
      cases hn : right r.nc r.nr <;> rw [hn] at z1
      case' false =>
        simp -implicitDefEqProofs only [go_sem, Nat.reduceBEq, Nat.reduceAdd, eq_self, true_and, and_self, hn]
        refine z1 _ _ _ (.inr ?_) ⟨rfl, rfl⟩
        simp -implicitDefEqProofs only [go_sem, Nat.reduceBEq, Nat.reduceAdd, eq_self, true_and, and_self, regC, and_true, Bool.true_or]
      case' true =>
        simp -implicitDefEqProofs only [go_sem, Nat.reduceBEq, Nat.reduceAdd, eq_self, true_and, and_self, hn]
    case' true =>
      simp -implicitDefEqProofs only [go_sem, Nat.reduceBEq, Nat.reduceAdd, eq_self, true_and, and_self, V.eqs, V.eq, Bool.and_true, ← hroot]
    all_goals
      refine call_at right_ok ?_
      rintro v τ ⟨rfl, rfl⟩
      refine ⟨kept_none, ?_⟩
      simp -implicitDefEqProofs only [go_sem, Nat.reduceBEq, Nat.reduceAdd]
      refine z1 _ _ _ (.inr ?_) ⟨rfl, rfl⟩
      simp -implicitDefEqProofs only [go_sem, Nat.reduceBEq, Nat.reduceAdd, eq_self, true_and, and_self, regC, and_true, Bool.false_or]
  · rintro G τ ⟨rfl, rfl⟩
    cases ht : (!root r && !right r.nc r.nr) || !right r.ac r.ar
    case true =>
      simp -implicitDefEqProofs only [go_sem, Nat.reduceBEq, Nat.reduceAdd, eq_self, true_and, and_self, ht]
      have : (bif !root r && !right r.nc r.nr then (2 : Int) else bif !right r.ac r.ar then 2 else
        bif !decide (r.name = []) && !nameB r.name then 8 else bif decide ((256 : Int) < r.val.length) then 3 else bif r.gone && !decide (r.val = []) then 2 else 0) = 2 := by
        cases h1 : (!root r && !right r.nc r.nr) <;> rw [h1] at ht
        · rw [Bool.false_or] at ht; rw [ht]; rfl
        · rfl
      rw [this] at q2
      refine q2 _ _ ?_
      simp -implicitDefEqProofs only [go_sem, Nat.reduceBEq, Nat.reduceAdd]
      first | exact ⟨trivial, trivial⟩ | exact ⟨trivial, rfl⟩ | exact ⟨rfl, rfl⟩ | exact ⟨rfl, trivial⟩ | trivial
    case false =>
      rw [Bool.or_eq_false_iff] at ht
      rw [ht.1, ht.2] at q1 q2
      simp only [cond_false] at q1 q2
      cases hn : decide (r.name = []) <;> rw [hn] at q1 q2
      case' false =>
        simp -implicitDefEqProofs only [go_sem, Nat.reduceBEq, Nat.reduceAdd, eq_self, true_and, and_self, ht.1, ht.2, Bool.or_self, regC, hn]
        refine call_at (name_ok hlen) ?_
        rintro v τ ⟨rfl, rfl⟩
        refine ⟨kept_none, ?_⟩
        cases hm : nameB r.name <;> rw [hm] at q1 q2
        case' false =>
          simp -implicitDefEqProofs only [go_sem, Nat.reduceBEq, Nat.reduceAdd, eq_self, true_and, and_self, hm]
          refine q2 _ _ ?_
          simp -implicitDefEqProofs only [go_sem, Nat.reduceBEq, Nat.reduceAdd]
          first | exact ⟨trivial, trivial⟩ | exact ⟨trivial, rfl⟩ | exact ⟨rfl, rfl⟩ | exact ⟨rfl, trivial⟩ | trivial
        case' true =>
          simp -implicitDefEqProofs only [go_sem, Nat.reduceBEq, Nat.reduceAdd, eq_self, true_and, and_self, hm]
      case' true =>
        simp -implicitDefEqProofs only [go_sem, Nat.reduceBEq, Nat.reduceAdd, eq_self, true_and, and_self, ht.1, ht.2, Bool.or_self, regC, hn]
      all_goals
        cases h3 : decide ((256 : Int) < r.val.length) <;> rw [h3] at q2
        case true =>
          simp -implicitDefEqProofs only [go_sem, Nat.reduceBEq, Nat.reduceAdd, eq_self, true_and, and_self, h3]
          refine q2 _ _ ?_
          simp -implicitDefEqProofs only [go_sem, Nat.reduceBEq, Nat.reduceAdd]
          first | exact ⟨trivial, trivial⟩ | exact ⟨trivial, rfl⟩ | exact ⟨rfl, rfl⟩ | exact ⟨rfl, trivial⟩ | trivial
        cases hg : r.gone <;> rw [hg] at q2
        case false =>
          simp -implicitDefEqProofs only [go_sem, Nat.reduceBEq, Nat.reduceAdd, eq_self, true_and, and_self, h3, hg]
          refine q2 _ _ ?_
          simp -implicitDefEqProofs only [go_sem, Nat.reduceBEq, Nat.reduceAdd]
          first | exact ⟨trivial, trivial⟩ | exact ⟨trivial, rfl⟩ | exact ⟨rfl, rfl⟩ | exact ⟨rfl, trivial⟩ | trivial
        cases hv : decide (r.val = []) <;> rw [hv] at q2
        all_goals
          simp -implicitDefEqProofs only [go_sem, Nat.reduceBEq, Nat.reduceAdd, eq_self, true_and, and_self, h3, hg, hv]
          refine q2 _ _ ?_
          simp -implicitDefEqProofs only [go_sem, Nat.reduceBEq, Nat.reduceAdd]
          first | exact ⟨trivial, trivial⟩ | exact ⟨trivial, rfl⟩ | exact ⟨rfl, rfl⟩ | exact ⟨rfl, trivial⟩ | trivial

set_option maxRecDepth 100000 in
set_option maxHeartbeats 1600000 in
theorem rcheck_ok (hlen : r.name.length < 4611686018427387904) : CallA Try.prog 12 [regV r] σ fun v σ' => σ' = σ ∧ v = .int .i64 (chk r) := by
  refine fn_at Try.func12 (by decide) comp12 rfl fun Q q1 q2 => ?_
  have hroot : root r = (decide (r.nc = 0) && decide (r.nr = 0)) := rfl
  unfold chk at q1 q2
  cases h1 : decide (r.nc = 0) <;> cases h2 : decide (r.nr = 0) <;> rw [h1, h2] at hroot <;> rw [hroot] at q1 q2
  case' true.true => simp -implicitDefEqProofs only [go_sem, Nat.reduceBEq, Nat.reduceAdd, eq_self, true_and, and_self, c12, regV, regC, h1, h2]
  case' false.false | false.true | true.false =>
    simp -implicitDefEqProofs only [go_sem, Nat.reduceBEq, Nat.reduceAdd, eq_self, true_and, and_self, c12, regV, regC, h1, h2]
    refine call_at rright_ok ?_
    rintro v τ ⟨rfl, rfl⟩
    refine ⟨kept_none, ?_⟩
    cases hn : right r.nc r.nr <;> rw [hn] at q1 q2
    case' false =>
      simp -implicitDefEqProofs only [go_sem, Nat.reduceBEq, Nat.reduceAdd, eq_self, true_and, and_self, hn]
      refine q2 _ _ ?_
      simp -implicitDefEqProofs only [go_sem, Nat.reduceBEq, Nat.reduceAdd]
      first | exact ⟨trivial, trivial⟩ | exact ⟨trivial, rfl⟩ | exact ⟨rfl, rfl⟩ | exact ⟨rfl, trivial⟩ | trivial
    simp -implicitDefEqProofs only [go_sem, Nat.reduceBEq, Nat.reduceAdd, eq_self, true_and, and_self, hn]
  all_goals
    refine call_at rright_ok ?_
    rintro v τ ⟨rfl, rfl⟩
    refine ⟨kept_none, ?_⟩
    cases ha : right r.ac r.ar <;> rw [ha] at q1 q2
    case' false =>
      simp -implicitDefEqProofs only [go_sem, Nat.reduceBEq, Nat.reduceAdd, eq_self, true_and, and_self, ha]
      refine q2 _ _ ?_
      simp -implicitDefEqProofs only [go_sem, Nat.reduceBEq, Nat.reduceAdd]
      first | exact ⟨trivial, trivial⟩ | exact ⟨trivial, rfl⟩ | exact ⟨rfl, rfl⟩ | exact ⟨rfl, trivial⟩ | trivial
    cases hn : decide (r.name = []) <;> rw [hn] at q1 q2
    case' false =>
      simp -implicitDefEqProofs only [go_sem, Nat.reduceBEq, Nat.reduceAdd, eq_self, true_and, and_self, ha, hn]
      refine call_at (rname_ok hlen) ?_
      rintro v τ ⟨rfl, rfl⟩
      refine ⟨kept_none, ?_⟩
      cases hm : nameB r.name <;> rw [hm] at q1 q2
      case' false =>
        simp -implicitDefEqProofs only [go_sem, Nat.reduceBEq, Nat.reduceAdd, eq_self, true_and, and_self, hm]
        refine q2 _ _ ?_
        simp -implicitDefEqProofs only [go_sem, Nat.reduceBEq, Nat.reduceAdd]
        first | exact ⟨trivial, trivial⟩ | exact ⟨trivial, rfl⟩ | exact ⟨rfl, rfl⟩ | exact ⟨rfl, trivial⟩ | trivial
      simp -implicitDefEqProofs only [go_sem, Nat.reduceBEq, Nat.reduceAdd, eq_self, true_and, and_self, hm]
    case' true => simp -implicitDefEqProofs only [go_sem, Nat.reduceBEq, Nat.reduceAdd, eq_self, true_and, and_self, ha, hn]
    all_goals
      cases h3 : decide ((256 : Int) < r.val.length) <;> rw [h3] at q2
      case true =>
        simp -implicitDefEqProofs only [go_sem, Nat.reduceBEq, Nat.reduceAdd, eq_self, true_and, and_self, h3]
        refine q2 _ _ ?_
        simp -implicitDefEqProofs only [go_sem, Nat.reduceBEq, Nat.reduceAdd]
        first | exact ⟨trivial, trivial⟩ | exact ⟨trivial, rfl⟩ | exact ⟨rfl, rfl⟩ | exact ⟨rfl, trivial⟩ | trivial
      cases hg : r.gone <;> rw [hg] at q2
      case false =>
        simp -implicitDefEqProofs only [go_sem, Nat.reduceBEq, Nat.reduceAdd, eq_self, true_and, and_self, h3, hg]
        refine q2 _ _ ?_
        simp -implicitDefEqProofs only [go_sem, Nat.reduceBEq, Nat.reduceAdd]
        first | exact ⟨trivial, trivial⟩ | exact ⟨trivial, rfl⟩ | exact ⟨rfl, rfl⟩ | exact ⟨rfl, trivial⟩ | trivial
      cases hv : decide (r.val = []) <;> rw [hv] at q2
      all_goals
        simp -implicitDefEqProofs only [go_sem, Nat.reduceBEq, Nat.reduceAdd, eq_self, true_and, and_self, h3, hg, hv]
        refine q2 _ _ ?_
        simp -implicitDefEqProofs only [go_sem, Nat.reduceBEq, Nat.reduceAdd]
        first | exact ⟨trivial, trivial⟩ | exact ⟨trivial, rfl⟩ | exact ⟨rfl, rfl⟩ | exact ⟨rfl, trivial⟩ | trivial

theorem strLess_flip : ∀ (a b : List UInt8), (!(strLess a b || decide (a = b))) = strLess b a
  | [], [] => by simp [strLess]
  | [], _ :: _ => by simp [strLess]
  | _ :: _, [] => by simp [strLess]
  | x :: a, y :: b => by
    have ih := strLess_flip a b
    simp only [strLess]
    by_cases h1 : x < y
    · have h2 : ¬ y < x := by rw [UInt8.lt_iff_toNat_lt] at h1 ⊢; omega
      have h3 : ¬ y = x := by intro e; rw [e] at h1; exact absurd h1 (by rw [UInt8.lt_iff_toNat_lt]; omega)
      simp [h1, h2, h3]
    · by_cases h2 : x = y
      · subst h2
        simp [h1, ih.symm]
      · have h3 : y < x := by
          rw [UInt8.lt_iff_toNat_lt] at h1 ⊢
          have : x.toNat ≠ y.toNat := fun e => h2 (UInt8.toNat_inj.1 e)
          omega
        have h4 : ¬ y = x := fun e => h2 e.symm
        simp [h1, h2, h3]
theorem cmp_zero {a1 a2 b1 b2 : Int} : decide (cmp a1 a2 b1 b2 = 0) = (decide (a1 = b1) && decide (a2 = b2)) := by
  unfold cmp
  cases (decide (a1 = b1) && decide (a2 = b2)) with
  | true => rfl
  | false => cases less a1 a2 b1 b2 <;> rfl
theorem cmp_pos {a1 a2 b1 b2 : Int} (h : (decide (a1 = b1) && decide (a2 = b2)) = false) : decide (0 < cmp a1 a2 b1 b2) = less b1 b2 a1 a2 := by
  unfold cmp
  rw [h]
  simp only [Bool.and_eq_false_iff, decide_eq_false_iff_not] at h
  have hl : less b1 b2 a1 a2 = !less a1 a2 b1 b2 := by
    unfold less
    rw [Bool.eq_iff_iff]
    simp only [Bool.or_eq_true, Bool.and_eq_true, decide_eq_true_eq, Bool.not_eq_true', Bool.or_eq_false_iff, Bool.and_eq_false_iff, decide_eq_false_iff_not]
    omega
  rw [hl]
  cases less a1 a2 b1 b2 <;> rfl

set_option maxRecDepth 100000 in
set_option maxHeartbeats 1600000 in
theorem wins_ok : CallA Try.prog 13 [regV a, regV b] σ fun v σ' => σ' = σ ∧ v = .bool (wins a b) := by
  refine fn_at Try.func13 (by decide) comp13 rfl fun Q q1 q2 => ?_
  unfold wins at q1 q2
  simp -implicitDefEqProofs only [go_sem, Nat.reduceBEq, Nat.reduceAdd, eq_self, true_and, and_self, c13, regV, regC]
  refine call_at compare_ok ?_
  rintro v τ ⟨rfl, rfl⟩
  refine ⟨kept_none, ?_⟩
  cases he : (decide (a.ac = b.ac) && decide (a.ar = b.ar)) <;> rw [he] at q2
  · have hp := cmp_pos he
    simp -implicitDefEqProofs only [go_sem, Nat.reduceBEq, Nat.reduceAdd, eq_self, true_and, and_self, cmp_zero, he, hp]
    refine q2 _ _ ?_
    simp -implicitDefEqProofs only [go_sem, Nat.reduceBEq, Nat.reduceAdd]
    first | exact ⟨trivial, trivial⟩ | exact ⟨trivial, rfl⟩ | exact ⟨rfl, rfl⟩ | exact ⟨rfl, trivial⟩ | trivial
  · cases ha : a.gone <;> cases hb : b.gone <;> rw [ha, hb] at q2
    all_goals
      simp -implicitDefEqProofs only [go_sem, Nat.reduceBEq, Nat.reduceAdd, eq_self, true_and, and_self, cmp_zero, he, ha, hb]
      refine q2 _ _ ?_
      simp -implicitDefEqProofs only [go_sem, Nat.reduceBEq, Nat.reduceAdd, strLess_flip]
      first | exact ⟨trivial, trivial⟩ | exact ⟨trivial, rfl⟩ | exact ⟨rfl, rfl⟩ | exact ⟨rfl, trivial⟩ | trivial

set_option maxRecDepth 100000 in
set_option maxHeartbeats 1600000 in
theorem rwins_ok : CallA Try.prog 14 [regV a, regV b] σ fun v σ' => σ' = σ ∧ v = .bool (wins a b) := by
  refine fn_at Try.func14 (by decide) comp14 rfl fun Q q1 q2 => ?_
  unfold wins at q1 q2
  cases he : (decide (a.ac = b.ac) && decide (a.ar = b.ar)) <;> rw [he] at q2
  · simp -implicitDefEqProofs only [go_sem, Nat.reduceBEq, Nat.reduceAdd, eq_self, true_and, and_self, c14, regV, regC, V.eqs, V.eq, Bool.and_true, he]
    refine call_at less_ok ?_
    rintro v τ ⟨rfl, rfl⟩
    refine ⟨kept_none, ?_⟩
    simp -implicitDefEqProofs only [go_sem, Nat.reduceBEq, Nat.reduceAdd]
    refine q2 _ _ ?_
    simp -implicitDefEqProofs only [go_sem, Nat.reduceBEq, Nat.reduceAdd]
    first | exact ⟨trivial, trivial⟩ | exact ⟨trivial, rfl⟩ | exact ⟨rfl, rfl⟩ | exact ⟨rfl, trivial⟩ | trivial
  · cases ha : a.gone <;> cases hb : b.gone <;> rw [ha, hb] at q2
    all_goals
      have t1 : (true == true) = true := rfl
      have t2 : (false == false) = true := rfl
      have t3 : (true == false) = false := rfl
      have t4 : (false == true) = false := rfl
      simp -implicitDefEqProofs only [go_sem, Nat.reduceBEq, Nat.reduceAdd, eq_self, true_and, and_self, c14, regV, regC, V.eqs, V.eq, Bool.and_true, he, ha, hb, t1, t2, t3, t4]
      refine q2 _ _ ?_
      simp -implicitDefEqProofs only [go_sem, Nat.reduceBEq, Nat.reduceAdd, strLess_flip]
      first | exact ⟨trivial, trivial⟩ | exact ⟨trivial, rfl⟩ | exact ⟨rfl, rfl⟩ | exact ⟨rfl, trivial⟩ | trivial

theorem strLess_self : ∀ s, strLess s s = false
  | [] => rfl
  | x :: s => by simp [strLess, strLess_self s, UInt8.lt_iff_toNat_lt]
theorem wins_self (a : Rg) : wins a a = false := by
  unfold wins
  simp only [decide_true, Bool.and_true, cond_true]
  cases a.gone <;> simp [strLess_self]
theorem less_asym {a1 a2 b1 b2 : Int} (h : less a1 a2 b1 b2 = true) : less b1 b2 a1 a2 = false := by
  unfold less at *
  simp only [Bool.or_eq_true, Bool.and_eq_true, decide_eq_true_eq, Bool.or_eq_false_iff, Bool.and_eq_false_iff, decide_eq_false_iff_not] at *
  omega
theorem strLess_asym {a b : List UInt8} (h : strLess a b = true) : strLess b a = false := by
  have := strLess_flip a b
  rw [h] at this
  simpa using this.symm
theorem wins_asym {a b : Rg} (h : wins a b = true) : wins b a = false := by
  have he : (decide (b.ac = a.ac) && decide (b.ar = a.ar)) = (decide (a.ac = b.ac) && decide (a.ar = b.ar)) := by
    rw [Bool.eq_iff_iff]; simp only [Bool.and_eq_true, decide_eq_true_eq]; omega
  unfold wins at *
  rw [he]
  cases h1 : (decide (a.ac = b.ac) && decide (a.ar = b.ar)) <;> rw [h1] at h
  · exact less_asym h
  · simp only [cond_true] at *
    cases ha : a.gone <;> cases hb : b.gone <;> rw [ha, hb] at h <;> simp at h ⊢
    exact strLess_asym h
def ahead (a b : Rg) : Bool := less a.nc a.nr b.nc b.nr || ((decide (a.nc = b.nc) && decide (a.nr = b.nr)) && strLess a.name b.name)
set_option maxRecDepth 100000 in
set_option maxHeartbeats 1600000 in
theorem ahead_ok : CallA Try.prog 36 [regV a, regV b] σ fun v σ' => σ' = σ ∧ v = .bool (ahead a b) := by
  refine fn_at Try.func36 (by decide) comp36 rfl fun Q q1 q2 => ?_
  unfold ahead at q1 q2
  simp -implicitDefEqProofs only [go_sem, Nat.reduceBEq, Nat.reduceAdd, eq_self, true_and, and_self, c36, regV, regC]
  refine call_at less_ok ?_
  rintro v τ ⟨rfl, rfl⟩
  refine ⟨kept_none, ?_⟩
  cases hl : less a.nc a.nr b.nc b.nr <;> cases he : (decide (a.nc = b.nc) && decide (a.nr = b.nr)) <;> rw [hl, he] at q2
  all_goals
    simp -implicitDefEqProofs only [go_sem, Nat.reduceBEq, Nat.reduceAdd, eq_self, true_and, and_self, hl, V.eqs, V.eq, Bool.and_true, he]
    refine q2 _ _ ?_
    simp -implicitDefEqProofs only [go_sem, Nat.reduceBEq, Nat.reduceAdd]
    first | exact ⟨trivial, trivial⟩ | exact ⟨trivial, rfl⟩ | exact ⟨rfl, rfl⟩ | exact ⟨rfl, trivial⟩ | trivial
end
end Go.VL.lww

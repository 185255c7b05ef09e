/- lww: names. -/
import Derived.Test.YtefbofjonjdebaaLwwA
set_option linter.unusedVariables false
set_option linter.unusedSimpArgs false
namespace Go.VL.lww
open Go Go.VL Go.Proofs Go.IntWalk

def letter (c : UInt8) : Bool := !(decide ((c.toNat : Int) < 97) || decide ((122 : Int) < c.toNat))
def okc (c : UInt8) : Bool := !((decide ((c.toNat : Int) < 97) || decide ((122 : Int) < c.toNat)) && ((decide ((c.toNat : Int) < 48) || decide ((57 : Int) < c.toNat)) && !decide ((c.toNat : Int) = 45)))
def nameB : List UInt8 → Bool
  | [] => false
  | c :: r => decide (((c :: r).length : Int) ≤ 32) && (letter c && (c :: r).all okc)
theorem letter_okc {c : UInt8} (h : letter c = true) : okc c = true := by
  unfold letter at h
  simp only [Bool.not_eq_true'] at h
  simp [okc, h]
theorem all_take {s : List UInt8} {f : UInt8 → Bool} {i : Nat} (hi : i < s.length) : (s.take (i + 1)).all f = ((s.take i).all f && f s[i]) := by
  rw [List.take_succ_eq_append_getElem hi, List.all_append]; simp
theorem all_bad {s : List UInt8} {f : UInt8 → Bool} {i : Nat} (hi : i < s.length) (h : f s[i] = false) : s.all f = false := by
  rw [List.all_eq_false]
  exact ⟨s[i], List.getElem_mem hi, by simp [h]⟩

section
variable {σ : St} {s : List UInt8}
set_option maxRecDepth 100000 in
set_option maxHeartbeats 1600000 in
theorem name_ok (hlen : s.length < 4611686018427387904) : CallA Try.prog 31 [.str s] σ fun v σ' => σ' = σ ∧ v = .bool (nameB s) := by
  refine fn_at Try.func31 (by decide) comp31 rfl fun Q q1 q2 => ?_
  cases s with
  | nil =>
    have h0 : decide (((0 : Nat) : Int) = 0) = true := by decide
    simp -implicitDefEqProofs only [go_sem, Nat.reduceBEq, Nat.reduceAdd, eq_self, true_and, and_self, c31, h0]
    refine q2 _ _ ?_
    simp -implicitDefEqProofs only [go_sem, Nat.reduceBEq, Nat.reduceAdd]
    first | exact ⟨trivial, trivial⟩ | exact ⟨trivial, rfl⟩ | exact ⟨rfl, rfl⟩ | exact ⟨rfl, trivial⟩ | trivial
  | cons c r =>
    have h0 : decide (((c :: r).length : Int) = 0) = false := by simp; omega
    have hg : ((c :: r)[Int.toNat 0]?.getD 0) = c := rfl
    have hl : ((c :: r).length : Int) = ((r.length + 1 : Nat) : Int) := rfl
    generalize hs : c :: r = s at h0 hg hl hlen q1 q2 ⊢
    have hn : nameB s = (decide ((s.length : Int) ≤ 32) && (letter c && s.all okc)) := by rw [← hs]; rfl
    have d1 : decide ((32 : Int) < s.length) = !decide ((s.length : Int) ≤ 32) := by
      by_cases h : (s.length : Int) ≤ 32 <;> simp [h] <;> omega
    have hpos : (0 : Int) ≤ 0 ∧ (0 : Int) < s.length := by omega
    rw [hn] at q2
    cases h1 : decide ((s.length : Int) ≤ 32)
    · rw [h1] at q2
      simp -implicitDefEqProofs only [go_sem, Nat.reduceBEq, Nat.reduceAdd, eq_self, true_and, and_self, c31, h0, d1, h1]
      refine q2 _ _ ?_
      simp -implicitDefEqProofs only [go_sem, Nat.reduceBEq, Nat.reduceAdd]
      first | exact ⟨trivial, trivial⟩ | exact ⟨trivial, rfl⟩ | exact ⟨rfl, rfl⟩ | exact ⟨rfl, trivial⟩ | trivial
    unfold letter at q2
    cases h2 : decide ((c.toNat : Int) < 97) <;> cases h3 : decide ((122 : Int) < c.toNat)
    case true.true | true.false | false.true =>
      rw [h1, h2, h3] at q2
      simp -implicitDefEqProofs only [go_sem, Nat.reduceBEq, Nat.reduceAdd, eq_self, true_and, and_self, c31, h0, d1, h1, hg, h2, h3]
      refine ⟨hpos, ?_⟩
      try refine ⟨hpos, ?_⟩
      refine q2 _ _ ?_
      simp -implicitDefEqProofs only [go_sem, Nat.reduceBEq, Nat.reduceAdd]
      first | exact ⟨trivial, trivial⟩ | exact ⟨trivial, rfl⟩ | exact ⟨rfl, rfl⟩ | exact ⟨rfl, trivial⟩ | trivial
    rw [h1, h2, h3] at q2
    simp -implicitDefEqProofs only [go_sem, Nat.reduceBEq, Nat.reduceAdd, eq_self, true_and, and_self, c31, h0, d1, h1, hg, h2, h3]
    refine ⟨hpos, hpos, ?_⟩
    refine loop_at (fun (i : Nat) => ⟨[(0, .v (.str s)), (24, .v (.int .i64 s.length)), (25, .v (.int .i64 i))], []⟩) (fun i τ => τ = σ ∧ i ≤ s.length ∧ (s.take i).all okc = true) (fun i => s.length - i) 0 ?_ ?_ ?_
    · exact .inr (by simp [go_sem])
    · exact ⟨rfl, Nat.zero_le _, by simp⟩
    rintro i τ ⟨rfl, g1, g2⟩ Z z1 z2 z3
    simp -implicitDefEqProofs only [go_sem, Nat.reduceBEq, Nat.reduceAdd]
    refine CondW_b (fun hc => ?_) (fun hc => ?_)
    · have hi : i < s.length := by simpa using hc
      have hget : (s[((i : Nat) : Int).toNat]?.getD 0) = s[i] := by simp [hi]
      have hb : (0 : Int) ≤ i ∧ (i : Int) < s.length := by omega
      have hbad := fun h => all_bad (f := okc) hi h
      have hall := all_take (f := okc) hi
      rw [g2, Bool.true_and] at hall
      generalize s[i] = x at hget hbad hall
      have hx : okc x = !((decide ((x.toNat : Int) < 97) || decide ((122 : Int) < x.toNat)) && ((decide ((x.toNat : Int) < 48) || decide ((57 : Int) < x.toNat)) && !decide ((x.toNat : Int) = 45))) := rfl
      cases e1 : decide ((x.toNat : Int) < 97) <;> cases e2 : decide ((122 : Int) < x.toNat) <;> cases e3 : decide ((x.toNat : Int) < 48) <;> cases e4 : decide ((57 : Int) < x.toNat) <;> cases e5 : decide ((x.toNat : Int) = 45)
      all_goals
        rw [e1, e2, e3, e4, e5] at hx
        simp -implicitDefEqProofs only [go_sem, Nat.reduceBEq, Nat.reduceAdd, eq_self, true_and, and_self, hget, e1, e2, e3, e4, e5]
        refine ⟨hb, ?_⟩
        first
        | (rw [hbad hx] at q2
           refine z3 _ _ ?_
           simp -implicitDefEqProofs only [go_sem, Nat.reduceBEq, Nat.reduceAdd]
           refine q2 _ _ ?_
           simp -implicitDefEqProofs only [go_sem, Nat.reduceBEq, Nat.reduceAdd]
           first | exact ⟨trivial, trivial⟩ | exact ⟨trivial, rfl⟩ | exact ⟨rfl, rfl⟩ | exact ⟨rfl, trivial⟩ | trivial)
        | (refine z1 (i + 1) _ _ (.inr ?_) (by omega) ⟨rfl, by omega, by rw [hall]; exact hx⟩
           simp -implicitDefEqProofs only [go_sem, Nat.reduceBEq, Nat.reduceAdd, and_true]
           rw [i64_in _ (by omega)]; simp)
    · have hi : ¬ (i < s.length) := by simpa using hc
      simp -implicitDefEqProofs only [go_sem, Nat.reduceBEq, Nat.reduceAdd]
      refine z2 _ _ _ ?_
      simp -implicitDefEqProofs only [go_sem, Nat.reduceBEq, Nat.reduceAdd]
      rw [List.take_of_length_le (by omega)] at g2
      rw [g2] at q2
      refine q2 _ _ ?_
      simp -implicitDefEqProofs only [go_sem, Nat.reduceBEq, Nat.reduceAdd]
      first | exact ⟨trivial, trivial⟩ | exact ⟨trivial, rfl⟩ | exact ⟨rfl, rfl⟩ | exact ⟨rfl, trivial⟩ | trivial

set_option maxRecDepth 100000 in
set_option maxHeartbeats 3200000 in
theorem rname_ok (hlen : s.length < 4611686018427387904) : CallA Try.prog 33 [.str s] σ fun v σ' => σ' = σ ∧ v = .bool (nameB s) := by
  refine fn_at Try.func33 (by decide) comp33 rfl fun Q q1 q2 => ?_
  simp -implicitDefEqProofs only [go_sem, Nat.reduceBEq, Nat.reduceAdd, c33]
  refine loop_at (fun (i : Nat) => ⟨[(0, .v (.str s)), (3, .v (.int .i64 i))], []⟩) (fun i τ => τ = σ ∧ i ≤ s.length ∧ (0 < i → (s.take i).all okc = true ∧ nameB s = (decide ((s.length : Int) ≤ 32) && s.all okc))) (fun i => s.length - i) 0 ?_ ?_ ?_
  · exact .inr (by simp [go_sem])
  · exact ⟨rfl, Nat.zero_le _, fun h => absurd h (Nat.lt_irrefl 0)⟩
  rintro i τ ⟨rfl, g1, g2⟩ Z z1 z2 z3
  simp -implicitDefEqProofs only [go_sem, Nat.reduceBEq, Nat.reduceAdd]
  refine CondW_b (fun hc => ?_) (fun hc => ?_)
  · have hi : i < s.length := by simpa using hc
    have hget : (s[((i : Nat) : Int).toNat]?.getD 0) = s[i] := by simp [hi]
    have hb : (0 : Int) ≤ i ∧ (i : Int) < s.length := by omega
    have hbad := fun h => all_bad (f := okc) hi h
    have hall := all_take (f := okc) hi
    have hfirst : i = 0 → nameB s = (decide ((s.length : Int) ≤ 32) && (letter s[i] && s.all okc)) := by
      intro e
      subst e
      cases s with
      | nil => simp at hi
      | cons c r => rfl
    generalize s[i] = x at hget hbad hall hfirst
    have hx : okc x = !((decide ((x.toNat : Int) < 97) || decide ((122 : Int) < x.toNat)) && ((decide ((x.toNat : Int) < 48) || decide ((57 : Int) < x.toNat)) && !decide ((x.toNat : Int) = 45))) := rfl
    have hy : letter x = !(decide ((x.toNat : Int) < 97) || decide ((122 : Int) < x.toNat)) := rfl
    have f1 : decide ((97 : Int) ≤ x.toNat) = !decide ((x.toNat : Int) < 97) := by by_cases h : (x.toNat : Int) < 97 <;> simp [h] <;> omega
    have f2 : decide ((x.toNat : Int) ≤ 122) = !decide ((122 : Int) < x.toNat) := by by_cases h : (122 : Int) < x.toNat <;> simp [h] <;> omega
    have next : okc x = true → (i = 0 → letter x = true) → Z .normal ⟨[(0, .v (.str s)), (3, .v (.int .i64 ((i + 1 : Nat) : Int)))], []⟩ τ := by
      intro h1 h2
      refine z1 (i + 1) _ _ (.inl rfl) (by omega) ⟨rfl, by omega, fun _ => ⟨?_, ?_⟩⟩
      · rw [hall, h1, Bool.and_true]
        by_cases e : i = 0
        · subst e; simp
        · exact (g2 (by omega)).1
      · by_cases e : i = 0
        · rw [hfirst e, h2 e, Bool.true_and]
        · exact (g2 (by omega)).2
    by_cases hi0 : i = 0
    · have e0 : decide ((i : Int) = 0) = true := by simp [hi0]
      have hf := hfirst hi0
      cases e1 : decide ((x.toNat : Int) < 97) <;> cases e2 : decide ((122 : Int) < x.toNat)
      all_goals
        rw [e1, e2] at hy
        simp -implicitDefEqProofs only [go_sem, Nat.reduceBEq, Nat.reduceAdd, eq_self, true_and, and_self, hget, f1, f2, e1, e2, e0]
        first
        | (refine ⟨hb, ?_⟩
           try refine ⟨hb, ?_⟩
           rw [hf, hy] at q2
           refine z3 _ _ ?_
           simp -implicitDefEqProofs only [go_sem, Nat.reduceBEq, Nat.reduceAdd]
           refine q2 _ _ ?_
           simp -implicitDefEqProofs only [go_sem, Nat.reduceBEq, Nat.reduceAdd, Bool.not_true, Bool.or_true, Bool.true_or, Bool.and_false, Bool.false_and]
           first | exact ⟨trivial, trivial⟩ | exact ⟨trivial, rfl⟩ | exact ⟨rfl, rfl⟩ | exact ⟨rfl, trivial⟩ | trivial)
        | (refine ⟨hb, hb, ?_⟩
           refine z1 (i + 1) _ _ (.inr ?_) (by omega) ⟨rfl, by omega, fun _ => ⟨?_, ?_⟩⟩
           · simp -implicitDefEqProofs only [go_sem, Nat.reduceBEq, Nat.reduceAdd, and_true]
             rw [i64_in _ (by omega)]; simp
           · rw [hall, letter_okc hy, Bool.and_true, hi0]; simp
           · rw [hf, hy]; simp)
    · have e0 : decide ((i : Int) = 0) = false := by simp [hi0]
      obtain ⟨g3, g4⟩ := g2 (by omega)
      rw [g3, Bool.true_and] at hall
      cases e1 : decide ((x.toNat : Int) < 97) <;> cases e2 : decide ((122 : Int) < x.toNat) <;> cases e3 : decide ((x.toNat : Int) < 48) <;> cases e4 : decide ((57 : Int) < x.toNat) <;> cases e5 : decide ((x.toNat : Int) = 45)
      all_goals
        rw [e1, e2, e3, e4, e5] at hx
        simp -implicitDefEqProofs only [go_sem, Nat.reduceBEq, Nat.reduceAdd, eq_self, true_and, and_self, hget, f1, f2, e1, e2, e3, e4, e5, e0]
        refine ⟨hb, ?_⟩
        try refine ⟨hb, ?_⟩
        try refine ⟨hb, ?_⟩
        try refine ⟨hb, ?_⟩
        try refine ⟨hb, ?_⟩
        first
        | (rw [g4, hbad hx, Bool.and_false] at q2
           refine z3 _ _ ?_
           simp -implicitDefEqProofs only [go_sem, Nat.reduceBEq, Nat.reduceAdd]
           refine q2 _ _ ?_
           simp -implicitDefEqProofs only [go_sem, Nat.reduceBEq, Nat.reduceAdd]
           first | exact ⟨trivial, trivial⟩ | exact ⟨trivial, rfl⟩ | exact ⟨rfl, rfl⟩ | exact ⟨rfl, trivial⟩ | trivial)
        | (refine z1 (i + 1) _ _ (.inr ?_) (by omega) ⟨rfl, by omega, fun _ => ⟨by rw [hall]; exact hx, g4⟩⟩
           simp -implicitDefEqProofs only [go_sem, Nat.reduceBEq, Nat.reduceAdd, and_true]
           rw [i64_in _ (by omega)]; simp)
  · have hi : ¬ (i < s.length) := by simpa using hc
    simp -implicitDefEqProofs only [go_sem, Nat.reduceBEq, Nat.reduceAdd]
    refine z2 _ _ _ ?_
    by_cases hs : s = []
    · subst hs
      have h0 : decide ((1 : Int) ≤ ((0 : Nat) : Int)) = false := by decide
      simp -implicitDefEqProofs only [go_sem, Nat.reduceBEq, Nat.reduceAdd, eq_self, true_and, and_self, h0]
      refine q2 _ _ ?_
      simp -implicitDefEqProofs only [go_sem, Nat.reduceBEq, Nat.reduceAdd]
      first | exact ⟨trivial, trivial⟩ | exact ⟨trivial, rfl⟩ | exact ⟨rfl, rfl⟩ | exact ⟨rfl, trivial⟩ | trivial
    · have hpos : 0 < s.length := by cases s <;> simp at hs ⊢
      obtain ⟨g3, g4⟩ := g2 (by omega)
      rw [List.take_of_length_le (by omega)] at g3
      rw [g4, g3, Bool.and_true] at q2
      have h0 : decide ((1 : Int) ≤ s.length) = true := by simp; omega
      cases h1 : decide ((s.length : Int) ≤ 32)
      all_goals
        rw [h1] at q2
        simp -implicitDefEqProofs only [go_sem, Nat.reduceBEq, Nat.reduceAdd, eq_self, true_and, and_self, h0, h1]
        refine q2 _ _ ?_
        simp -implicitDefEqProofs only [go_sem, Nat.reduceBEq, Nat.reduceAdd]
        first | exact ⟨trivial, trivial⟩ | exact ⟨trivial, rfl⟩ | exact ⟨rfl, rfl⟩ | exact ⟨rfl, trivial⟩ | trivial
end
end Go.VL.lww

import Derived.Test.YtfaipokjiallmaaB2
set_option linter.unusedVariables false
set_option linter.unusedSimpArgs false
namespace Go.VL.wire
open Go Go.VL Go.Proofs Go.IntWalk

def letter (c : UInt8) : Bool := !(decide ((c.toNat : Int) < 97) || decide ((122 : Int) < c.toNat))
def okc (c : UInt8) : Bool := !((decide ((c.toNat : Int) < 97) || decide ((122 : Int) < c.toNat)) && ((decide ((c.toNat : Int) < 48) || decide ((57 : Int) < c.toNat)) && !decide ((c.toNat : Int) = 45)))
def nameB : List UInt8 → Bool
  | [] => false
  | c :: r => decide (((c :: r).length : Int) ≤ 32) && (letter c && (c :: r).all okc)
theorem letter_okc {c : UInt8} (h : letter c = true) : okc c = true := by
  unfold letter at h
  simp only [Bool.not_eq_true'] at h
  simp [okc, h]
theorem all_take {s : List UInt8} {f : UInt8 → Bool} {i : Nat} (hi : i < s.length) : (s.take (i + 1)).all f = ((s.take i).all f && f s[i]) := by
  rw [List.take_succ_eq_append_getElem hi, List.all_append]; simp
theorem all_bad {s : List UInt8} {f : UInt8 → Bool} {i : Nat} (hi : i < s.length) (h : f s[i] = false) : s.all f = false := by
  rw [List.all_eq_false]
  exact ⟨s[i], List.getElem_mem hi, by simp [h]⟩

section
variable {σ : St} {s : List UInt8}
set_option maxRecDepth 100000 in
set_option maxHeartbeats 1600000 in
theorem name_ok (hlen : s.length < 4611686018427387904) : CallA Try.prog 82 [.str s] σ fun v σ' => σ' = σ ∧ v = .bool (nameB s) := by
  refine fn_at Try.func82 (by decide) comp82 rfl fun Q q1 q2 => ?_
  cases s with
  | nil =>
    have h0 : decide (((0 : Nat) : Int) = 0) = true := by decide
    simp -implicitDefEqProofs only [go_sem, Nat.reduceBEq, Nat.reduceAdd, eq_self, true_and, and_self, c82, h0]
    refine q2 _ _ ?_
    simp -implicitDefEqProofs only [go_sem, Nat.reduceBEq, Nat.reduceAdd]
    first | exact ⟨trivial, trivial⟩ | exact ⟨trivial, rfl⟩ | exact ⟨rfl, rfl⟩ | exact ⟨rfl, trivial⟩ | trivial
  | cons c r =>
    have h0 : decide (((c :: r).length : Int) = 0) = false := by simp; omega
    have hg : ((c :: r)[Int.toNat 0]?.getD 0) = c := rfl
    have hl : ((c :: r).length : Int) = ((r.length + 1 : Nat) : Int) := rfl
    generalize hs : c :: r = s at h0 hg hl hlen q1 q2 ⊢
    have hn : nameB s = (decide ((s.length : Int) ≤ 32) && (letter c && s.all okc)) := by rw [← hs]; rfl
    have d1 : decide ((32 : Int) < s.length) = !decide ((s.length : Int) ≤ 32) := by
      by_cases h : (s.length : Int) ≤ 32 <;> simp [h] <;> omega
    have hpos : (0 : Int) ≤ 0 ∧ (0 : Int) < s.length := by omega
    rw [hn] at q2
    cases h1 : decide ((s.length : Int) ≤ 32)
    · rw [h1] at q2
      simp -implicitDefEqProofs only [go_sem, Nat.reduceBEq, Nat.reduceAdd, eq_self, true_and, and_self, c82, h0, d1, h1]
      refine q2 _ _ ?_
      simp -implicitDefEqProofs only [go_sem, Nat.reduceBEq, Nat.reduceAdd]
      first | exact ⟨trivial, trivial⟩ | exact ⟨trivial, rfl⟩ | exact ⟨rfl, rfl⟩ | exact ⟨rfl, trivial⟩ | trivial
    unfold letter at q2
    cases h2 : decide ((c.toNat : Int) < 97) <;> cases h3 : decide ((122 : Int) < c.toNat)
    case true.true | true.false | false.true =>
      rw [h1, h2, h3] at q2
      simp -implicitDefEqProofs only [go_sem, Nat.reduceBEq, Nat.reduceAdd, eq_self, true_and, and_self, c82, h0, d1, h1, hg, h2, h3]
      refine ⟨hpos, ?_⟩
      try refine ⟨hpos, ?_⟩
      refine q2 _ _ ?_
      simp -implicitDefEqProofs only [go_sem, Nat.reduceBEq, Nat.reduceAdd]
      first | exact ⟨trivial, trivial⟩ | exact ⟨trivial, rfl⟩ | exact ⟨rfl, rfl⟩ | exact ⟨rfl, trivial⟩ | trivial
    rw [h1, h2, h3] at q2
    simp -implicitDefEqProofs only [go_sem, Nat.reduceBEq, Nat.reduceAdd, eq_self, true_and, and_self, c82, h0, d1, h1, hg, h2, h3]
    refine ⟨hpos, hpos, ?_⟩
    refine loop_at (fun (i : Nat) => ⟨[(0, .v (.str s)), (24, .v (.int .i64 s.length)), (25, .v (.int .i64 i))], []⟩) (fun i τ => τ = σ ∧ i ≤ s.length ∧ (s.take i).all okc = true) (fun i => s.length - i) 0 ?_ ?_ ?_
    · exact .inr (by simp [go_sem])
    · exact ⟨rfl, Nat.zero_le _, by simp⟩
    rintro i τ ⟨rfl, g1, g2⟩ Z z1 z2 z3
    simp -implicitDefEqProofs only [go_sem, Nat.reduceBEq, Nat.reduceAdd]
    refine CondW_b (fun hc => ?_) (fun hc => ?_)
    · have hi : i < s.length := by simpa using hc
      have hget : (s[((i : Nat) : Int).toNat]?.getD 0) = s[i] := by simp [hi]
      have hb : (0 : Int) ≤ i ∧ (i : Int) < s.length := by omega
      have hbad := fun h => all_bad (f := okc) hi h
      have hall := all_take (f := okc) hi
      rw [g2, Bool.true_and] at hall
      generalize s[i] = x at hget hbad hall
      have hx : okc x = !((decide ((x.toNat : Int) < 97) || decide ((122 : Int) < x.toNat)) && ((decide ((x.toNat : Int) < 48) || decide ((57 : Int) < x.toNat)) && !decide ((x.toNat : Int) = 45))) := rfl
      cases e1 : decide ((x.toNat : Int) < 97) <;> cases e2 : decide ((122 : Int) < x.toNat) <;> cases e3 : decide ((x.toNat : Int) < 48) <;> cases e4 : decide ((57 : Int) < x.toNat) <;> cases e5 : decide ((x.toNat : Int) = 45)
      all_goals
        rw [e1, e2, e3, e4, e5] at hx
        simp -implicitDefEqProofs only [go_sem, Nat.reduceBEq, Nat.reduceAdd, eq_self, true_and, and_self, hget, e1, e2, e3, e4, e5]
        refine ⟨hb, ?_⟩
        first
        | (rw [hbad hx] at q2
           refine z3 _ _ ?_
           simp -implicitDefEqProofs only [go_sem, Nat.reduceBEq, Nat.reduceAdd]
           refine q2 _ _ ?_
           simp -implicitDefEqProofs only [go_sem, Nat.reduceBEq, Nat.reduceAdd]
           first | exact ⟨trivial, trivial⟩ | exact ⟨trivial, rfl⟩ | exact ⟨rfl, rfl⟩ | exact ⟨rfl, trivial⟩ | trivial)
        | (refine z1 (i + 1) _ _ (.inr ?_) (by omega) ⟨rfl, by omega, by rw [hall]; exact hx⟩
           simp -implicitDefEqProofs only [go_sem, Nat.reduceBEq, Nat.reduceAdd, and_true]
           rw [i64_in _ (by omega)]; simp)
    · have hi : ¬ (i < s.length) := by simpa using hc
      simp -implicitDefEqProofs only [go_sem, Nat.reduceBEq, Nat.reduceAdd]
      refine z2 _ _ _ ?_
      simp -implicitDefEqProofs only [go_sem, Nat.reduceBEq, Nat.reduceAdd]
      rw [List.take_of_length_le (by omega)] at g2
      rw [g2] at q2
      refine q2 _ _ ?_
      simp -implicitDefEqProofs only [go_sem, Nat.reduceBEq, Nat.reduceAdd]
      first | exact ⟨trivial, trivial⟩ | exact ⟨trivial, rfl⟩ | exact ⟨rfl, rfl⟩ | exact ⟨rfl, trivial⟩ | trivial

set_option maxRecDepth 100000 in
set_option maxHeartbeats 3200000 in
theorem rname_ok (hlen : s.length < 4611686018427387904) : CallA Try.prog 66 [.str s] σ fun v σ' => σ' = σ ∧ v = .bool (nameB s) := by
  refine fn_at Try.func66 (by decide) comp66 rfl fun Q q1 q2 => ?_
  simp -implicitDefEqProofs only [go_sem, Nat.reduceBEq, Nat.reduceAdd, c66]
  refine loop_at (fun (i : Nat) => ⟨[(0, .v (.str s)), (3, .v (.int .i64 i))], []⟩) (fun i τ => τ = σ ∧ i ≤ s.length ∧ (0 < i → (s.take i).all okc = true ∧ nameB s = (decide ((s.length : Int) ≤ 32) && s.all okc))) (fun i => s.length - i) 0 ?_ ?_ ?_
  · exact .inr (by simp [go_sem])
  · exact ⟨rfl, Nat.zero_le _, fun h => absurd h (Nat.lt_irrefl 0)⟩
  rintro i τ ⟨rfl, g1, g2⟩ Z z1 z2 z3
  simp -implicitDefEqProofs only [go_sem, Nat.reduceBEq, Nat.reduceAdd]
  refine CondW_b (fun hc => ?_) (fun hc => ?_)
  · have hi : i < s.length := by simpa using hc
    have hget : (s[((i : Nat) : Int).toNat]?.getD 0) = s[i] := by simp [hi]
    have hb : (0 : Int) ≤ i ∧ (i : Int) < s.length := by omega
    have hbad := fun h => all_bad (f := okc) hi h
    have hall := all_take (f := okc) hi
    have hfirst : i = 0 → nameB s = (decide ((s.length : Int) ≤ 32) && (letter s[i] && s.all okc)) := by
      intro e
      subst e
      cases s with
      | nil => simp at hi
      | cons c r => rfl
    generalize s[i] = x at hget hbad hall hfirst
    have hx : okc x = !((decide ((x.toNat : Int) < 97) || decide ((122 : Int) < x.toNat)) && ((decide ((x.toNat : Int) < 48) || decide ((57 : Int) < x.toNat)) && !decide ((x.toNat : Int) = 45))) := rfl
    have hy : letter x = !(decide ((x.toNat : Int) < 97) || decide ((122 : Int) < x.toNat)) := rfl
    have f1 : decide ((97 : Int) ≤ x.toNat) = !decide ((x.toNat : Int) < 97) := by by_cases h : (x.toNat : Int) < 97 <;> simp [h] <;> omega
    have f2 : decide ((x.toNat : Int) ≤ 122) = !decide ((122 : Int) < x.toNat) := by by_cases h : (122 : Int) < x.toNat <;> simp [h] <;> omega
    have next : okc x = true → (i = 0 → letter x = true) → Z .normal ⟨[(0, .v (.str s)), (3, .v (.int .i64 ((i + 1 : Nat) : Int)))], []⟩ τ := by
      intro h1 h2
      refine z1 (i + 1) _ _ (.inl rfl) (by omega) ⟨rfl, by omega, fun _ => ⟨?_, ?_⟩⟩
      · rw [hall, h1, Bool.and_true]
        by_cases e : i = 0
        · subst e; simp
        · exact (g2 (by omega)).1
      · by_cases e : i = 0
        · rw [hfirst e, h2 e, Bool.true_and]
        · exact (g2 (by omega)).2
    by_cases hi0 : i = 0
    · have e0 : decide ((i : Int) = 0) = true := by simp [hi0]
      have hf := hfirst hi0
      cases e1 : decide ((x.toNat : Int) < 97) <;> cases e2 : decide ((122 : Int) < x.toNat)
      all_goals
        rw [e1, e2] at hy
        simp -implicitDefEqProofs only [go_sem, Nat.reduceBEq, Nat.reduceAdd, eq_self, true_and, and_self, hget, f1, f2, e1, e2, e0]
        first
        | (refine ⟨hb, ?_⟩
           try refine ⟨hb, ?_⟩
           rw [hf, hy] at q2
           refine z3 _ _ ?_
           simp -implicitDefEqProofs only [go_sem, Nat.reduceBEq, Nat.reduceAdd]
           refine q2 _ _ ?_
           simp -implicitDefEqProofs only [go_sem, Nat.reduceBEq, Nat.reduceAdd, Bool.not_true, Bool.or_true, Bool.true_or, Bool.and_false, Bool.false_and]
           first | exact ⟨trivial, trivial⟩ | exact ⟨trivial, rfl⟩ | exact ⟨rfl, rfl⟩ | exact ⟨rfl, trivial⟩ | trivial)
        | (refine ⟨hb, hb, ?_⟩
           refine z1 (i + 1) _ _ (.inr ?_) (by omega) ⟨rfl, by omega, fun _ => ⟨?_, ?_⟩⟩
           · simp -implicitDefEqProofs only [go_sem, Nat.reduceBEq, Nat.reduceAdd, and_true]
             rw [i64_in _ (by omega)]; simp
           · rw [hall, letter_okc hy, Bool.and_true, hi0]; simp
           · rw [hf, hy]; simp)
    · have e0 : decide ((i : Int) = 0) = false := by simp [hi0]
      obtain ⟨g3, g4⟩ := g2 (by omega)
      rw [g3, Bool.true_and] at hall
      cases e1 : decide ((x.toNat : Int) < 97) <;> cases e2 : decide ((122 : Int) < x.toNat) <;> cases e3 : decide ((x.toNat : Int) < 48) <;> cases e4 : decide ((57 : Int) < x.toNat) <;> cases e5 : decide ((x.toNat : Int) = 45)
      all_goals
        rw [e1, e2, e3, e4, e5] at hx
        simp -implicitDefEqProofs only [go_sem, Nat.reduceBEq, Nat.reduceAdd, eq_self, true_and, and_self, hget, f1, f2, e1, e2, e3, e4, e5, e0]
        refine ⟨hb, ?_⟩
        try refine ⟨hb, ?_⟩
        try refine ⟨hb, ?_⟩
        try refine ⟨hb, ?_⟩
        try refine ⟨hb, ?_⟩
        first
        | (rw [g4, hbad hx, Bool.and_false] at q2
           refine z3 _ _ ?_
           simp -implicitDefEqProofs only [go_sem, Nat.reduceBEq, Nat.reduceAdd]
           refine q2 _ _ ?_
           simp -implicitDefEqProofs only [go_sem, Nat.reduceBEq, Nat.reduceAdd]
           first | exact ⟨trivial, trivial⟩ | exact ⟨trivial, rfl⟩ | exact ⟨rfl, rfl⟩ | exact ⟨rfl, trivial⟩ | trivial)
        | (refine z1 (i + 1) _ _ (.inr ?_) (by omega) ⟨rfl, by omega, fun _ => ⟨by rw [hall]; exact hx, g4⟩⟩
           simp -implicitDefEqProofs only [go_sem, Nat.reduceBEq, Nat.reduceAdd, and_true]
           rw [i64_in _ (by omega)]; simp)
  · have hi : ¬ (i < s.length) := by simpa using hc
    simp -implicitDefEqProofs only [go_sem, Nat.reduceBEq, Nat.reduceAdd]
    refine z2 _ _ _ ?_
    by_cases hs : s = []
    · subst hs
      have h0 : decide ((1 : Int) ≤ ((0 : Nat) : Int)) = false := by decide
      simp -implicitDefEqProofs only [go_sem, Nat.reduceBEq, Nat.reduceAdd, eq_self, true_and, and_self, h0]
      refine q2 _ _ ?_
      simp -implicitDefEqProofs only [go_sem, Nat.reduceBEq, Nat.reduceAdd]
      first | exact ⟨trivial, trivial⟩ | exact ⟨trivial, rfl⟩ | exact ⟨rfl, rfl⟩ | exact ⟨rfl, trivial⟩ | trivial
    · have hpos : 0 < s.length := by cases s <;> simp at hs ⊢
      obtain ⟨g3, g4⟩ := g2 (by omega)
      rw [List.take_of_length_le (by omega)] at g3
      rw [g4, g3, Bool.and_true] at q2
      have h0 : decide ((1 : Int) ≤ s.length) = true := by simp; omega
      cases h1 : decide ((s.length : Int) ≤ 32)
      all_goals
        rw [h1] at q2
        simp -implicitDefEqProofs only [go_sem, Nat.reduceBEq, Nat.reduceAdd, eq_self, true_and, and_self, h0, h1]
        refine q2 _ _ ?_
        simp -implicitDefEqProofs only [go_sem, Nat.reduceBEq, Nat.reduceAdd]
        first | exact ⟨trivial, trivial⟩ | exact ⟨trivial, rfl⟩ | exact ⟨rfl, rfl⟩ | exact ⟨rfl, trivial⟩ | trivial
end
end Go.VL.wire

namespace Go.VL.wire
open Go Go.VL Go.Proofs Go.IntWalk

theorem cmp_neg {a1 a2 b1 b2 : Int} : decide (cmp a1 a2 b1 b2 < 0) = less a1 a2 b1 b2 := by
  unfold cmp
  cases h : (decide (a1 = b1) && decide (a2 = b2)) with
  | true =>
    simp only [Bool.and_eq_true, decide_eq_true_eq] at h
    simp [less, h.1, h.2]
  | false => cases less a1 a2 b1 b2 <;> rfl
def zeroS (c r : Int) : Bool := decide (c = 0) && decide (r = 0)
def nodeS (c r : Int) : Bool := right c r || (zeroS c r || (decide (c = 0) && decide (r = 1)))
def aheadS (a1 a2 b1 b2 : Int) : Bool := right a1 a2 && less a1 a2 b1 b2

/-- A change. -/
structure Cg where
  ac : Int
  ar : Int
  seq : Int
  deps : List Int
  kind : Int
  nc : Int
  nr : Int
  pc : Int
  pr : Int
  fc : Int
  fr : Int
  name : List UInt8
  val : List UInt8
  deriving DecidableEq
def cgC (d : V) (c : Cg) : List V := [.int .i64 c.ac, .int .i64 c.ar, .int .i64 c.seq, d, .int .i64 c.kind, .int .i64 c.nc, .int .i64 c.nr, .int .i64 c.pc, .int .i64 c.pr, .int .i64 c.fc, .int .i64 c.fr, .str c.name, .str c.val]
def cgV (d : V) (c : Cg) : V := .agg (cgC d c)

def nodeB (c : Cg) : Bool := bif decide (c.kind = 1) then decide (c.nc = c.ac) && decide (c.nr = c.ar) else bif decide (c.kind = 2) then aheadS c.nc c.nr c.ac c.ar else zeroS c.nc c.nr || aheadS c.nc c.nr c.ac c.ar
def placeB (c : Cg) : Bool := bif !decide (c.kind = 1) && !decide (c.kind = 2) then zeroS c.pc c.pr && zeroS c.fc c.fr else
  bif !nodeS c.pc c.pr || (!less c.pc c.pr c.ac c.ar || (decide (c.pc = c.nc) && decide (c.pr = c.nr))) then false else zeroS c.fc c.fr || aheadS c.fc c.fr c.ac c.ar
def namedB (c : Cg) : Bool := decide (c.kind = 1) || (decide (c.kind = 3) || decide (c.kind = 4))
def valuedB (c : Cg) : Bool := decide (c.kind = 3) || decide (c.kind = 5)
def wordsI (c : Cg) : Int := bif (bif namedB c then !nameB c.name else !decide (c.name = [])) then 8 else bif decide ((256 : Int) < c.val.length) then 3 else bif !valuedB c && !decide (c.val = []) then 2 else 0

section
variable {σ : St} {c r a1 a2 b1 b2 : Int}
set_option maxRecDepth 100000 in
theorem iless_ok : CallA Try.prog 80 [stV a1 a2, stV b1 b2] σ fun v σ' => σ' = σ ∧ v = .bool (less a1 a2 b1 b2) := by
  refine fn_at Try.func80 (by decide) comp80 rfl fun Q q1 q2 => ?_
  simp -implicitDefEqProofs only [go_sem, Nat.reduceBEq, Nat.reduceAdd, eq_self, true_and, and_true, and_self, List.getElem?_cons_zero, List.getElem?_cons_succ, Nat.reduceLeDiff, Nat.zero_add, Nat.reduceSub, Nat.le_refl, c80, stV]
  repeat' first
    | (refine GW_c (fun h => ?_) (fun h => ?_) <;> (try simp only [Bool.not_eq_true', Bool.not_eq_false'] at h) <;> (try simp only [h]) <;> (try simp -implicitDefEqProofs only [go_sem, Nat.reduceBEq, Nat.reduceAdd, eq_self, true_and, and_true, and_self, List.getElem?_cons_zero, List.getElem?_cons_succ, Nat.reduceLeDiff, Nat.zero_add, Nat.reduceSub, Nat.le_refl, stV]))
    | (refine CondW_b (fun h => ?_) (fun h => ?_) <;> (try simp only [Bool.not_eq_true', Bool.not_eq_false'] at h) <;> (try simp only [h]) <;> (try simp -implicitDefEqProofs only [go_sem, Nat.reduceBEq, Nat.reduceAdd, eq_self, true_and, and_true, and_self, List.getElem?_cons_zero, List.getElem?_cons_succ, Nat.reduceLeDiff, Nat.zero_add, Nat.reduceSub, Nat.le_refl, stV]))
    | (refine call_at compare_ok ?_; rintro v τ ⟨rfl, rfl⟩; refine ⟨by first | exact kept_none | exact (Ext.refl _).kept, ?_⟩; (try simp -implicitDefEqProofs only [go_sem, Nat.reduceBEq, Nat.reduceAdd, eq_self, true_and, and_true, and_self, List.getElem?_cons_zero, List.getElem?_cons_succ, Nat.reduceLeDiff, Nat.zero_add, Nat.reduceSub, Nat.le_refl, stV]))
    | (refine cut_dup ?_; (try simp -implicitDefEqProofs only [go_sem, Nat.reduceBEq, Nat.reduceAdd, eq_self, true_and, and_true, and_self, List.getElem?_cons_zero, List.getElem?_cons_succ, Nat.reduceLeDiff, Nat.zero_add, Nat.reduceSub, Nat.le_refl, stV]))
    | (refine q2 _ _ ?_; (try simp -implicitDefEqProofs only [go_sem, Nat.reduceBEq, Nat.reduceAdd, eq_self, true_and, and_true, and_self, List.getElem?_cons_zero, List.getElem?_cons_succ, Nat.reduceLeDiff, Nat.zero_add, Nat.reduceSub, Nat.le_refl, stV]))
  exact cmp_neg ▸ rfl
set_option maxRecDepth 100000 in
theorem inode_ok : CallA Try.prog 81 [stV c r] σ fun v σ' => σ' = σ ∧ v = .bool (nodeS c r) := by
  refine fn_at Try.func81 (by decide) comp81 rfl fun Q q1 q2 => ?_
  simp -implicitDefEqProofs only [go_sem, Nat.reduceBEq, Nat.reduceAdd, eq_self, true_and, and_true, and_self, List.getElem?_cons_zero, List.getElem?_cons_succ, Nat.reduceLeDiff, Nat.zero_add, Nat.reduceSub, Nat.le_refl, c81, stV, V.eqs, V.eq, Bool.and_true]
  repeat' first
    | (refine GW_c (fun h => ?_) (fun h => ?_) <;> (try simp only [Bool.not_eq_true', Bool.not_eq_false'] at h) <;> (try simp only [h]) <;> (try simp -implicitDefEqProofs only [go_sem, Nat.reduceBEq, Nat.reduceAdd, eq_self, true_and, and_true, and_self, List.getElem?_cons_zero, List.getElem?_cons_succ, Nat.reduceLeDiff, Nat.zero_add, Nat.reduceSub, Nat.le_refl, stV, V.eqs, V.eq, Bool.and_true]))
    | (refine CondW_b (fun h => ?_) (fun h => ?_) <;> (try simp only [Bool.not_eq_true', Bool.not_eq_false'] at h) <;> (try simp only [h]) <;> (try simp -implicitDefEqProofs only [go_sem, Nat.reduceBEq, Nat.reduceAdd, eq_self, true_and, and_true, and_self, List.getElem?_cons_zero, List.getElem?_cons_succ, Nat.reduceLeDiff, Nat.zero_add, Nat.reduceSub, Nat.le_refl, stV, V.eqs, V.eq, Bool.and_true]))
    | (refine call_at right_ok ?_; rintro v τ ⟨rfl, rfl⟩; refine ⟨by first | exact kept_none | exact (Ext.refl _).kept, ?_⟩; (try simp -implicitDefEqProofs only [go_sem, Nat.reduceBEq, Nat.reduceAdd, eq_self, true_and, and_true, and_self, List.getElem?_cons_zero, List.getElem?_cons_succ, Nat.reduceLeDiff, Nat.zero_add, Nat.reduceSub, Nat.le_refl, stV, V.eqs, V.eq, Bool.and_true]))
    | (refine cut_dup ?_; (try simp -implicitDefEqProofs only [go_sem, Nat.reduceBEq, Nat.reduceAdd, eq_self, true_and, and_true, and_self, List.getElem?_cons_zero, List.getElem?_cons_succ, Nat.reduceLeDiff, Nat.zero_add, Nat.reduceSub, Nat.le_refl, stV, V.eqs, V.eq, Bool.and_true]))
    | (refine q2 _ _ ?_; (try simp -implicitDefEqProofs only [go_sem, Nat.reduceBEq, Nat.reduceAdd, eq_self, true_and, and_true, and_self, List.getElem?_cons_zero, List.getElem?_cons_succ, Nat.reduceLeDiff, Nat.zero_add, Nat.reduceSub, Nat.le_refl, stV, V.eqs, V.eq, Bool.and_true]))
  all_goals (clear q1 q2; first | (simp_all [nodeS, zeroS]; done) | grind [nodeS, zeroS])
set_option maxRecDepth 100000 in
theorem rnode_ok : CallA Try.prog 84 [stV c r] σ fun v σ' => σ' = σ ∧ v = .bool (nodeS c r) := by
  refine fn_at Try.func84 (by decide) comp84 rfl fun Q q1 q2 => ?_
  simp -implicitDefEqProofs only [go_sem, Nat.reduceBEq, Nat.reduceAdd, eq_self, true_and, and_true, and_self, List.getElem?_cons_zero, List.getElem?_cons_succ, Nat.reduceLeDiff, Nat.zero_add, Nat.reduceSub, Nat.le_refl, c84, stV, V.eqs, V.eq, Bool.and_true]
  repeat' first
    | (refine GW_c (fun h => ?_) (fun h => ?_) <;> (try simp only [Bool.not_eq_true', Bool.not_eq_false'] at h) <;> (try simp only [h]) <;> (try simp -implicitDefEqProofs only [go_sem, Nat.reduceBEq, Nat.reduceAdd, eq_self, true_and, and_true, and_self, List.getElem?_cons_zero, List.getElem?_cons_succ, Nat.reduceLeDiff, Nat.zero_add, Nat.reduceSub, Nat.le_refl, stV, V.eqs, V.eq, Bool.and_true]))
    | (refine CondW_b (fun h => ?_) (fun h => ?_) <;> (try simp only [Bool.not_eq_true', Bool.not_eq_false'] at h) <;> (try simp only [h]) <;> (try simp -implicitDefEqProofs only [go_sem, Nat.reduceBEq, Nat.reduceAdd, eq_self, true_and, and_true, and_self, List.getElem?_cons_zero, List.getElem?_cons_succ, Nat.reduceLeDiff, Nat.zero_add, Nat.reduceSub, Nat.le_refl, stV, V.eqs, V.eq, Bool.and_true]))
    | (refine call_at rright_ok ?_; rintro v τ ⟨rfl, rfl⟩; refine ⟨by first | exact kept_none | exact (Ext.refl _).kept, ?_⟩; (try simp -implicitDefEqProofs only [go_sem, Nat.reduceBEq, Nat.reduceAdd, eq_self, true_and, and_true, and_self, List.getElem?_cons_zero, List.getElem?_cons_succ, Nat.reduceLeDiff, Nat.zero_add, Nat.reduceSub, Nat.le_refl, stV, V.eqs, V.eq, Bool.and_true]))
    | (refine cut_dup ?_; (try simp -implicitDefEqProofs only [go_sem, Nat.reduceBEq, Nat.reduceAdd, eq_self, true_and, and_true, and_self, List.getElem?_cons_zero, List.getElem?_cons_succ, Nat.reduceLeDiff, Nat.zero_add, Nat.reduceSub, Nat.le_refl, stV, V.eqs, V.eq, Bool.and_true]))
    | (refine q2 _ _ ?_; (try simp -implicitDefEqProofs only [go_sem, Nat.reduceBEq, Nat.reduceAdd, eq_self, true_and, and_true, and_self, List.getElem?_cons_zero, List.getElem?_cons_succ, Nat.reduceLeDiff, Nat.zero_add, Nat.reduceSub, Nat.le_refl, stV, V.eqs, V.eq, Bool.and_true]))
  all_goals (clear q1 q2; first | (simp_all [nodeS, zeroS]; done) | grind [nodeS, zeroS])
set_option maxRecDepth 100000 in
theorem ahead_ok : CallA Try.prog 83 [stV a1 a2, stV b1 b2] σ fun v σ' => σ' = σ ∧ v = .bool (aheadS a1 a2 b1 b2) := by
  refine fn_at Try.func83 (by decide) comp83 rfl fun Q q1 q2 => ?_
  simp -implicitDefEqProofs only [go_sem, Nat.reduceBEq, Nat.reduceAdd, eq_self, true_and, and_true, and_self, List.getElem?_cons_zero, List.getElem?_cons_succ, Nat.reduceLeDiff, Nat.zero_add, Nat.reduceSub, Nat.le_refl, c83, stV]
  repeat' first
    | (refine GW_c (fun h => ?_) (fun h => ?_) <;> (try simp only [Bool.not_eq_true', Bool.not_eq_false'] at h) <;> (try simp only [h]) <;> (try simp -implicitDefEqProofs only [go_sem, Nat.reduceBEq, Nat.reduceAdd, eq_self, true_and, and_true, and_self, List.getElem?_cons_zero, List.getElem?_cons_succ, Nat.reduceLeDiff, Nat.zero_add, Nat.reduceSub, Nat.le_refl, stV]))
    | (refine CondW_b (fun h => ?_) (fun h => ?_) <;> (try simp only [Bool.not_eq_true', Bool.not_eq_false'] at h) <;> (try simp only [h]) <;> (try simp -implicitDefEqProofs only [go_sem, Nat.reduceBEq, Nat.reduceAdd, eq_self, true_and, and_true, and_self, List.getElem?_cons_zero, List.getElem?_cons_succ, Nat.reduceLeDiff, Nat.zero_add, Nat.reduceSub, Nat.le_refl, stV]))
    | (refine call_at rright_ok ?_; rintro v τ ⟨rfl, rfl⟩; refine ⟨by first | exact kept_none | exact (Ext.refl _).kept, ?_⟩; (try simp -implicitDefEqProofs only [go_sem, Nat.reduceBEq, Nat.reduceAdd, eq_self, true_and, and_true, and_self, List.getElem?_cons_zero, List.getElem?_cons_succ, Nat.reduceLeDiff, Nat.zero_add, Nat.reduceSub, Nat.le_refl, stV]))
    | (refine call_at less_ok ?_; rintro v τ ⟨rfl, rfl⟩; refine ⟨by first | exact kept_none | exact (Ext.refl _).kept, ?_⟩; (try simp -implicitDefEqProofs only [go_sem, Nat.reduceBEq, Nat.reduceAdd, eq_self, true_and, and_true, and_self, List.getElem?_cons_zero, List.getElem?_cons_succ, Nat.reduceLeDiff, Nat.zero_add, Nat.reduceSub, Nat.le_refl, stV]))
    | (refine cut_dup ?_; (try simp -implicitDefEqProofs only [go_sem, Nat.reduceBEq, Nat.reduceAdd, eq_self, true_and, and_true, and_self, List.getElem?_cons_zero, List.getElem?_cons_succ, Nat.reduceLeDiff, Nat.zero_add, Nat.reduceSub, Nat.le_refl, stV]))
    | (refine q2 _ _ ?_; (try simp -implicitDefEqProofs only [go_sem, Nat.reduceBEq, Nat.reduceAdd, eq_self, true_and, and_true, and_self, List.getElem?_cons_zero, List.getElem?_cons_succ, Nat.reduceLeDiff, Nat.zero_add, Nat.reduceSub, Nat.le_refl, stV]))
  all_goals (clear q1 q2; first | (simp_all [aheadS]; done) | grind [aheadS])

variable {d : V} {g : Cg}
set_option maxRecDepth 100000 in
set_option maxHeartbeats 1000000 in
theorem node_ok : CallA Try.prog 60 [cgV d g] σ fun v σ' => σ' = σ ∧ v = .bool (nodeB g) := by
  refine fn_at Try.func60 (by decide) comp60 rfl fun Q q1 q2 => ?_
  simp -implicitDefEqProofs only [go_sem, Nat.reduceBEq, Nat.reduceAdd, eq_self, true_and, and_true, and_self, List.getElem?_cons_zero, List.getElem?_cons_succ, Nat.reduceLeDiff, Nat.zero_add, Nat.reduceSub, Nat.le_refl, c60, cgV, cgC, V.eqs, V.eq, Bool.and_true]
  repeat' first
    | (refine GW_c (fun h => ?_) (fun h => ?_) <;> (try simp only [Bool.not_eq_true', Bool.not_eq_false'] at h) <;> (try simp only [h]) <;> (try simp -implicitDefEqProofs only [go_sem, Nat.reduceBEq, Nat.reduceAdd, eq_self, true_and, and_true, and_self, List.getElem?_cons_zero, List.getElem?_cons_succ, Nat.reduceLeDiff, Nat.zero_add, Nat.reduceSub, Nat.le_refl, cgV, cgC, V.eqs, V.eq, Bool.and_true]))
    | (refine CondW_b (fun h => ?_) (fun h => ?_) <;> (try simp only [Bool.not_eq_true', Bool.not_eq_false'] at h) <;> (try simp only [h]) <;> (try simp -implicitDefEqProofs only [go_sem, Nat.reduceBEq, Nat.reduceAdd, eq_self, true_and, and_true, and_self, List.getElem?_cons_zero, List.getElem?_cons_succ, Nat.reduceLeDiff, Nat.zero_add, Nat.reduceSub, Nat.le_refl, cgV, cgC, V.eqs, V.eq, Bool.and_true]))
    | (refine call_at right_ok ?_; rintro v τ ⟨rfl, rfl⟩; refine ⟨by first | exact kept_none | exact (Ext.refl _).kept, ?_⟩; (try simp -implicitDefEqProofs only [go_sem, Nat.reduceBEq, Nat.reduceAdd, eq_self, true_and, and_true, and_self, List.getElem?_cons_zero, List.getElem?_cons_succ, Nat.reduceLeDiff, Nat.zero_add, Nat.reduceSub, Nat.le_refl, cgV, cgC, V.eqs, V.eq, Bool.and_true]))
    | (refine call_at iless_ok ?_; rintro v τ ⟨rfl, rfl⟩; refine ⟨by first | exact kept_none | exact (Ext.refl _).kept, ?_⟩; (try simp -implicitDefEqProofs only [go_sem, Nat.reduceBEq, Nat.reduceAdd, eq_self, true_and, and_true, and_self, List.getElem?_cons_zero, List.getElem?_cons_succ, Nat.reduceLeDiff, Nat.zero_add, Nat.reduceSub, Nat.le_refl, cgV, cgC, V.eqs, V.eq, Bool.and_true]))
    | (refine cut_dup ?_; (try simp -implicitDefEqProofs only [go_sem, Nat.reduceBEq, Nat.reduceAdd, eq_self, true_and, and_true, and_self, List.getElem?_cons_zero, List.getElem?_cons_succ, Nat.reduceLeDiff, Nat.zero_add, Nat.reduceSub, Nat.le_refl, cgV, cgC, V.eqs, V.eq, Bool.and_true]))
    | (refine q2 _ _ ?_; (try simp -implicitDefEqProofs only [go_sem, Nat.reduceBEq, Nat.reduceAdd, eq_self, true_and, and_true, and_self, List.getElem?_cons_zero, List.getElem?_cons_succ, Nat.reduceLeDiff, Nat.zero_add, Nat.reduceSub, Nat.le_refl, cgV, cgC, V.eqs, V.eq, Bool.and_true]))
  all_goals (clear q1 q2; first | (simp_all [nodeB, zeroS, aheadS]; done) | grind [nodeB, zeroS, aheadS])
set_option maxRecDepth 100000 in
set_option maxHeartbeats 1000000 in
theorem place_ok : CallA Try.prog 61 [cgV d g] σ fun v σ' => σ' = σ ∧ v = .bool (placeB g) := by
  refine fn_at Try.func61 (by decide) comp61 rfl fun Q q1 q2 => ?_
  simp -implicitDefEqProofs only [go_sem, Nat.reduceBEq, Nat.reduceAdd, eq_self, true_and, and_true, and_self, List.getElem?_cons_zero, List.getElem?_cons_succ, Nat.reduceLeDiff, Nat.zero_add, Nat.reduceSub, Nat.le_refl, c61, cgV, cgC, V.eqs, V.eq, Bool.and_true]
  repeat' first
    | (refine GW_c (fun h => ?_) (fun h => ?_) <;> (try simp only [Bool.not_eq_true', Bool.not_eq_false'] at h) <;> (try simp only [h]) <;> (try simp -implicitDefEqProofs only [go_sem, Nat.reduceBEq, Nat.reduceAdd, eq_self, true_and, and_true, and_self, List.getElem?_cons_zero, List.getElem?_cons_succ, Nat.reduceLeDiff, Nat.zero_add, Nat.reduceSub, Nat.le_refl, cgV, cgC, V.eqs, V.eq, Bool.and_true]))
    | (refine CondW_b (fun h => ?_) (fun h => ?_) <;> (try simp only [Bool.not_eq_true', Bool.not_eq_false'] at h) <;> (try simp only [h]) <;> (try simp -implicitDefEqProofs only [go_sem, Nat.reduceBEq, Nat.reduceAdd, eq_self, true_and, and_true, and_self, List.getElem?_cons_zero, List.getElem?_cons_succ, Nat.reduceLeDiff, Nat.zero_add, Nat.reduceSub, Nat.le_refl, cgV, cgC, V.eqs, V.eq, Bool.and_true]))
    | (refine call_at inode_ok ?_; rintro v τ ⟨rfl, rfl⟩; refine ⟨by first | exact kept_none | exact (Ext.refl _).kept, ?_⟩; (try simp -implicitDefEqProofs only [go_sem, Nat.reduceBEq, Nat.reduceAdd, eq_self, true_and, and_true, and_self, List.getElem?_cons_zero, List.getElem?_cons_succ, Nat.reduceLeDiff, Nat.zero_add, Nat.reduceSub, Nat.le_refl, cgV, cgC, V.eqs, V.eq, Bool.and_true]))
    | (refine call_at right_ok ?_; rintro v τ ⟨rfl, rfl⟩; refine ⟨by first | exact kept_none | exact (Ext.refl _).kept, ?_⟩; (try simp -implicitDefEqProofs only [go_sem, Nat.reduceBEq, Nat.reduceAdd, eq_self, true_and, and_true, and_self, List.getElem?_cons_zero, List.getElem?_cons_succ, Nat.reduceLeDiff, Nat.zero_add, Nat.reduceSub, Nat.le_refl, cgV, cgC, V.eqs, V.eq, Bool.and_true]))
    | (refine call_at iless_ok ?_; rintro v τ ⟨rfl, rfl⟩; refine ⟨by first | exact kept_none | exact (Ext.refl _).kept, ?_⟩; (try simp -implicitDefEqProofs only [go_sem, Nat.reduceBEq, Nat.reduceAdd, eq_self, true_and, and_true, and_self, List.getElem?_cons_zero, List.getElem?_cons_succ, Nat.reduceLeDiff, Nat.zero_add, Nat.reduceSub, Nat.le_refl, cgV, cgC, V.eqs, V.eq, Bool.and_true]))
    | (refine cut_dup ?_; (try simp -implicitDefEqProofs only [go_sem, Nat.reduceBEq, Nat.reduceAdd, eq_self, true_and, and_true, and_self, List.getElem?_cons_zero, List.getElem?_cons_succ, Nat.reduceLeDiff, Nat.zero_add, Nat.reduceSub, Nat.le_refl, cgV, cgC, V.eqs, V.eq, Bool.and_true]))
    | (refine q2 _ _ ?_; (try simp -implicitDefEqProofs only [go_sem, Nat.reduceBEq, Nat.reduceAdd, eq_self, true_and, and_true, and_self, List.getElem?_cons_zero, List.getElem?_cons_succ, Nat.reduceLeDiff, Nat.zero_add, Nat.reduceSub, Nat.le_refl, cgV, cgC, V.eqs, V.eq, Bool.and_true]))
  all_goals (clear q1 q2; first | (simp_all [placeB, zeroS, aheadS]; done) | grind [placeB, zeroS, aheadS])
end
end Go.VL.wire

namespace Go.VL.wire
open Go Go.VL Go.Proofs Go.IntWalk

def badN (n : Int) : Bool := decide (n < 0) || decide ((1099511627776 : Int) < n)
def clockI (l : List Int) : Int := bif decide ((64 : Int) < l.length) then 3 else bif l.any badN then 1 else 0
def atD (l : List Int) (r : Int) : Int := bif decide (0 ≤ r) && decide (r < l.length) then l[r.toNat]?.getD 0 else 0
theorem any_take {α : Type} {s : List α} {f : α → Bool} {i : Nat} (hi : i < s.length) : (s.take (i + 1)).any f = ((s.take i).any f || f s[i]) := by
  rw [List.take_succ_eq_append_getElem hi, List.any_append]; simp
theorem any_bad {α : Type} {s : List α} {f : α → Bool} {i : Nat} (hi : i < s.length) (h : f s[i] = true) : s.any f = true := List.any_eq_true.2 ⟨s[i], List.getElem_mem hi, h⟩
theorem intsV_get {l : List Int} {i : Nat} (h : i < l.length) : (intsV .i64 l)[((i : Nat) : Int).toNat]?.getD [] = [V.int .i64 l[i]] := by simp [intsV, h]
theorem intsV_len (l : List Int) : (intsV .i64 l).length = l.length := by simp [intsV]
theorem intsV_ne {l : List Int} {i : Nat} (h : i < l.length) : intsV .i64 l ≠ [] := by cases l <;> simp [intsV] at h ⊢

section
variable {σ : St} {l : List Int} {v : V} {r : Int} {d : V} {g : Cg}
set_option maxRecDepth 100000 in
set_option maxHeartbeats 1000000 in
theorem words_ok (hlen : g.name.length < 4611686018427387904) : CallA Try.prog 62 [cgV d g] σ fun v σ' => σ' = σ ∧ v = .int .i64 (wordsI g) := by
  refine fn_at Try.func62 (by decide) comp62 rfl fun Q q1 q2 => ?_
  simp -implicitDefEqProofs only [go_sem, Nat.reduceBEq, Nat.reduceAdd, eq_self, true_and, and_true, and_self, List.getElem?_cons_zero, List.getElem?_cons_succ, Nat.reduceLeDiff, Nat.zero_add, Nat.reduceSub, Nat.le_refl, c62, cgV, cgC]
  repeat' first
    | (refine GW_c (fun h => ?_) (fun h => ?_) <;> (try simp only [Bool.not_eq_true', Bool.not_eq_false'] at h) <;> (try simp only [h]) <;> (try simp -implicitDefEqProofs only [go_sem, Nat.reduceBEq, Nat.reduceAdd, eq_self, true_and, and_true, and_self, List.getElem?_cons_zero, List.getElem?_cons_succ, Nat.reduceLeDiff, Nat.zero_add, Nat.reduceSub, Nat.le_refl, cgC]))
    | (refine CondW_b (fun h => ?_) (fun h => ?_) <;> (try simp only [Bool.not_eq_true', Bool.not_eq_false'] at h) <;> (try simp only [h]) <;> (try simp -implicitDefEqProofs only [go_sem, Nat.reduceBEq, Nat.reduceAdd, eq_self, true_and, and_true, and_self, List.getElem?_cons_zero, List.getElem?_cons_succ, Nat.reduceLeDiff, Nat.zero_add, Nat.reduceSub, Nat.le_refl, cgC]))
    | (refine call_at (name_ok hlen) ?_; rintro v τ ⟨rfl, rfl⟩; refine ⟨by first | exact kept_none | exact (Ext.refl _).kept, ?_⟩; (try simp -implicitDefEqProofs only [go_sem, Nat.reduceBEq, Nat.reduceAdd, eq_self, true_and, and_true, and_self, List.getElem?_cons_zero, List.getElem?_cons_succ, Nat.reduceLeDiff, Nat.zero_add, Nat.reduceSub, Nat.le_refl, cgC]))
    | (refine cut_dup ?_; (try simp -implicitDefEqProofs only [go_sem, Nat.reduceBEq, Nat.reduceAdd, eq_self, true_and, and_true, and_self, List.getElem?_cons_zero, List.getElem?_cons_succ, Nat.reduceLeDiff, Nat.zero_add, Nat.reduceSub, Nat.le_refl, cgC]))
    | (refine q2 _ _ ?_; (try simp -implicitDefEqProofs only [go_sem, Nat.reduceBEq, Nat.reduceAdd, eq_self, true_and, and_true, and_self, List.getElem?_cons_zero, List.getElem?_cons_succ, Nat.reduceLeDiff, Nat.zero_add, Nat.reduceSub, Nat.le_refl, cgC]))
  all_goals (clear q1 q2; first | (simp_all [wordsI, namedB, valuedB]; done) | grind [wordsI, namedB, valuedB])

set_option maxRecDepth 100000 in
set_option maxHeartbeats 1000000 in
theorem clock_ok (hv : RdS σ v 1 (intsV .i64 l)) : CallA Try.prog 46 [v] σ fun w σ' => σ' = σ ∧ w = .int .i64 (clockI l) := by
  obtain ⟨b, R, z, rfl, -, -⟩ := id hv
  refine fn_at Try.func46 (by decide) comp46 rfl fun Q q1 q2 => ?_
  have hl := intsV_len l
  simp -implicitDefEqProofs only [go_sem, Nat.reduceBEq, Nat.reduceAdd, eq_self, true_and, and_true, and_self, List.getElem?_cons_zero, List.getElem?_cons_succ, Nat.reduceLeDiff, Nat.zero_add, Nat.reduceSub, Nat.le_refl, c46, hl]
  refine CondW_b (fun h => ?_) (fun h0 => ?_)
  · simp -implicitDefEqProofs only [go_sem, Nat.reduceBEq, Nat.reduceAdd, eq_self, true_and, and_true, and_self, List.getElem?_cons_zero, List.getElem?_cons_succ, Nat.reduceLeDiff, Nat.zero_add, Nat.reduceSub, Nat.le_refl, Nat.lt_irrefl]
    refine q2 _ _ ?_
    simp -implicitDefEqProofs only [go_sem, Nat.reduceBEq, Nat.reduceAdd, eq_self, true_and, and_true, and_self, List.getElem?_cons_zero, List.getElem?_cons_succ, Nat.reduceLeDiff, Nat.zero_add, Nat.reduceSub, Nat.le_refl, Nat.lt_irrefl]
    rw [clockI, h]; rfl
  have h64 := of_decide_eq_false h0
  simp -implicitDefEqProofs only [go_sem, Nat.reduceBEq, Nat.reduceAdd, eq_self, true_and, and_true, and_self, List.getElem?_cons_zero, List.getElem?_cons_succ, Nat.reduceLeDiff, Nat.zero_add, Nat.reduceSub, Nat.le_refl, hl]
  refine loop_at (fun (i : Nat) => ⟨[(8, .v (.sl b R z (intsV .i64 l))), (9, .v (.int .i64 l.length)), (10, .v (.int .i64 i))], []⟩) (fun i τ => τ = σ ∧ i ≤ l.length ∧ (l.take i).any badN = false) (fun i => l.length - i) 0 ?_ ?_ ?_
  · exact .inr (by simp -implicitDefEqProofs only [go_sem, Nat.reduceBEq, Nat.reduceAdd, eq_self, true_and, and_true, and_self, List.getElem?_cons_zero, List.getElem?_cons_succ, Nat.reduceLeDiff, Nat.zero_add, Nat.reduceSub, Nat.le_refl, Nat.lt_irrefl]; trivial)
  · exact ⟨rfl, Nat.zero_le _, by simp⟩
  rintro i τ ⟨rfl, g1, g2⟩ Z z1 z2 z3
  simp -implicitDefEqProofs only [go_sem, Nat.reduceBEq, Nat.reduceAdd, eq_self, true_and, and_true, and_self, List.getElem?_cons_zero, List.getElem?_cons_succ, Nat.reduceLeDiff, Nat.zero_add, Nat.reduceSub, Nat.le_refl, Nat.lt_irrefl]
  refine CondW_b (fun hc => ?_) (fun hc => ?_)
  · have hi : i < l.length := by simpa using hc
    have hget := intsV_get hi
    obtain ⟨k1, k2⟩ := rdl hv (intsV_ne hi)
    have hb : (i : Int) < (intsV .i64 l).length := by rw [hl]; omega
    have hbad := fun h => any_bad (f := badN) hi h
    have hall := any_take (f := badN) hi
    rw [g2, Bool.false_or] at hall
    generalize l[i] = x at hget hbad hall
    simp -implicitDefEqProofs only [go_sem, Nat.reduceBEq, Nat.reduceAdd, eq_self, true_and, and_true, and_self, List.getElem?_cons_zero, List.getElem?_cons_succ, Nat.reduceLeDiff, Nat.zero_add, Nat.reduceSub, Nat.le_refl, hget]
    refine ⟨⟨by omega, hb, k2⟩, k1, ?_⟩
    have hx : badN x = (decide (x < 0) || decide ((1099511627776 : Int) < x)) := rfl
    cases e1 : decide (x < 0) <;> cases e2 : decide ((1099511627776 : Int) < x) <;> rw [e1, e2] at hx
    all_goals
      simp -implicitDefEqProofs only [go_sem, Nat.reduceBEq, Nat.reduceAdd, eq_self, true_and, and_true, and_self, List.getElem?_cons_zero, List.getElem?_cons_succ, Nat.reduceLeDiff, Nat.zero_add, Nat.reduceSub, Nat.le_refl, e1, e2]
      first
      | (refine z3 _ _ ?_
         simp -implicitDefEqProofs only [go_sem, Nat.reduceBEq, Nat.reduceAdd, eq_self, true_and, and_true, and_self, List.getElem?_cons_zero, List.getElem?_cons_succ, Nat.reduceLeDiff, Nat.zero_add, Nat.reduceSub, Nat.le_refl, Nat.lt_irrefl]
         refine q2 _ _ ?_
         simp -implicitDefEqProofs only [go_sem, Nat.reduceBEq, Nat.reduceAdd, eq_self, true_and, and_true, and_self, List.getElem?_cons_zero, List.getElem?_cons_succ, Nat.reduceLeDiff, Nat.zero_add, Nat.reduceSub, Nat.le_refl, Nat.lt_irrefl]
         rw [clockI, h0, hbad hx]; rfl)
      | (refine z1 (i + 1) _ _ (.inr ?_) (by omega) ⟨rfl, by omega, by rw [hall]; exact hx⟩
         simp -implicitDefEqProofs only [go_sem, Nat.reduceBEq, Nat.reduceAdd, eq_self, true_and, and_true, and_self, List.getElem?_cons_zero, List.getElem?_cons_succ, Nat.reduceLeDiff, Nat.zero_add, Nat.reduceSub, Nat.le_refl, Nat.lt_irrefl]
         rw [i64_in _ (by omega)]; simp)
  · have hi : ¬ i < l.length := by simpa using hc
    rw [List.take_of_length_le (by omega)] at g2
    simp -implicitDefEqProofs only [go_sem, Nat.reduceBEq, Nat.reduceAdd, eq_self, true_and, and_true, and_self, List.getElem?_cons_zero, List.getElem?_cons_succ, Nat.reduceLeDiff, Nat.zero_add, Nat.reduceSub, Nat.le_refl, Nat.lt_irrefl]
    refine z2 _ _ _ ?_
    simp -implicitDefEqProofs only [go_sem, Nat.reduceBEq, Nat.reduceAdd, eq_self, true_and, and_true, and_self, List.getElem?_cons_zero, List.getElem?_cons_succ, Nat.reduceLeDiff, Nat.zero_add, Nat.reduceSub, Nat.le_refl, Nat.lt_irrefl]
    refine q2 _ _ ?_
    simp -implicitDefEqProofs only [go_sem, Nat.reduceBEq, Nat.reduceAdd, eq_self, true_and, and_true, and_self, List.getElem?_cons_zero, List.getElem?_cons_succ, Nat.reduceLeDiff, Nat.zero_add, Nat.reduceSub, Nat.le_refl, Nat.lt_irrefl]
    rw [clockI, h0, g2]; rfl

set_option maxRecDepth 100000 in
set_option maxHeartbeats 1000000 in
theorem rclock_ok (hv : RdS σ v 1 (intsV .i64 l)) : CallA Try.prog 48 [v] σ fun w σ' => σ' = σ ∧ w = .int .i64 (clockI l) := by
  obtain ⟨b, R, z, rfl, -, -⟩ := id hv
  refine fn_at Try.func48 (by decide) comp48 rfl fun Q q1 q2 => ?_
  have hl := intsV_len l
  simp -implicitDefEqProofs only [go_sem, Nat.reduceBEq, Nat.reduceAdd, eq_self, true_and, and_true, and_self, List.getElem?_cons_zero, List.getElem?_cons_succ, Nat.reduceLeDiff, Nat.zero_add, Nat.reduceSub, Nat.le_refl, c48, hl]
  refine CondW_b (fun h => ?_) (fun h0 => ?_)
  · simp -implicitDefEqProofs only [go_sem, Nat.reduceBEq, Nat.reduceAdd, eq_self, true_and, and_true, and_self, List.getElem?_cons_zero, List.getElem?_cons_succ, Nat.reduceLeDiff, Nat.zero_add, Nat.reduceSub, Nat.le_refl, Nat.lt_irrefl]
    refine q2 _ _ ?_
    simp -implicitDefEqProofs only [go_sem, Nat.reduceBEq, Nat.reduceAdd, eq_self, true_and, and_true, and_self, List.getElem?_cons_zero, List.getElem?_cons_succ, Nat.reduceLeDiff, Nat.zero_add, Nat.reduceSub, Nat.le_refl, Nat.lt_irrefl]
    rw [clockI, h]; rfl
  have h64 := of_decide_eq_false h0
  simp -implicitDefEqProofs only [go_sem, Nat.reduceBEq, Nat.reduceAdd, eq_self, true_and, and_true, and_self, List.getElem?_cons_zero, List.getElem?_cons_succ, Nat.reduceLeDiff, Nat.zero_add, Nat.reduceSub, Nat.le_refl, hl]
  refine loop_at (fun (i : Nat) => ⟨[(0, .v (.sl b R z (intsV .i64 l))), (3, .v (.int .i64 i))], []⟩) (fun i τ => τ = σ ∧ i ≤ l.length ∧ (l.take i).any badN = false) (fun i => l.length - i) 0 ?_ ?_ ?_
  · exact .inr (by simp -implicitDefEqProofs only [go_sem, Nat.reduceBEq, Nat.reduceAdd, eq_self, true_and, and_true, and_self, List.getElem?_cons_zero, List.getElem?_cons_succ, Nat.reduceLeDiff, Nat.zero_add, Nat.reduceSub, Nat.le_refl, Nat.lt_irrefl]; trivial)
  · exact ⟨rfl, Nat.zero_le _, by simp⟩
  rintro i τ ⟨rfl, g1, g2⟩ Z z1 z2 z3
  simp -implicitDefEqProofs only [go_sem, Nat.reduceBEq, Nat.reduceAdd, eq_self, true_and, and_true, and_self, List.getElem?_cons_zero, List.getElem?_cons_succ, Nat.reduceLeDiff, Nat.zero_add, Nat.reduceSub, Nat.le_refl, hl]
  refine CondW_b (fun hc => ?_) (fun hc => ?_)
  · have hi : i < l.length := by simpa using hc
    have hget := intsV_get hi
    obtain ⟨k1, k2⟩ := rdl hv (intsV_ne hi)
    have hb : (i : Int) < l.length := by omega
    have hbad := fun h => any_bad (f := badN) hi h
    have hall := any_take (f := badN) hi
    rw [g2, Bool.false_or] at hall
    generalize l[i] = x at hget hbad hall
    simp -implicitDefEqProofs only [go_sem, Nat.reduceBEq, Nat.reduceAdd, eq_self, true_and, and_true, and_self, List.getElem?_cons_zero, List.getElem?_cons_succ, Nat.reduceLeDiff, Nat.zero_add, Nat.reduceSub, Nat.le_refl, hget]
    rw [hl]
    refine ⟨⟨by omega, hb, k2⟩, k1, ?_⟩
    have hx : badN x = (decide (x < 0) || decide ((1099511627776 : Int) < x)) := rfl
    cases e1 : decide (x < 0) <;> cases e2 : decide ((1099511627776 : Int) < x) <;> rw [e1, e2] at hx
    all_goals
      simp -implicitDefEqProofs only [go_sem, Nat.reduceBEq, Nat.reduceAdd, eq_self, true_and, and_true, and_self, List.getElem?_cons_zero, List.getElem?_cons_succ, Nat.reduceLeDiff, Nat.zero_add, Nat.reduceSub, Nat.le_refl, e1, e2, hget, hl]
      try refine ⟨⟨by omega, hb, k2⟩, k1, ?_⟩
      first
      | (refine z3 _ _ ?_
         simp -implicitDefEqProofs only [go_sem, Nat.reduceBEq, Nat.reduceAdd, eq_self, true_and, and_true, and_self, List.getElem?_cons_zero, List.getElem?_cons_succ, Nat.reduceLeDiff, Nat.zero_add, Nat.reduceSub, Nat.le_refl, Nat.lt_irrefl]
         refine q2 _ _ ?_
         simp -implicitDefEqProofs only [go_sem, Nat.reduceBEq, Nat.reduceAdd, eq_self, true_and, and_true, and_self, List.getElem?_cons_zero, List.getElem?_cons_succ, Nat.reduceLeDiff, Nat.zero_add, Nat.reduceSub, Nat.le_refl, Nat.lt_irrefl]
         rw [clockI, h0, hbad hx]; rfl)
      | (refine z1 (i + 1) _ _ (.inr ?_) (by omega) ⟨rfl, by omega, by rw [hall]; exact hx⟩
         simp -implicitDefEqProofs only [go_sem, Nat.reduceBEq, Nat.reduceAdd, eq_self, true_and, and_true, and_self, List.getElem?_cons_zero, List.getElem?_cons_succ, Nat.reduceLeDiff, Nat.zero_add, Nat.reduceSub, Nat.le_refl, Nat.lt_irrefl]
         rw [i64_in _ (by omega)]; simp)
  · have hi : ¬ i < l.length := by simpa using hc
    rw [List.take_of_length_le (by omega)] at g2
    simp -implicitDefEqProofs only [go_sem, Nat.reduceBEq, Nat.reduceAdd, eq_self, true_and, and_true, and_self, List.getElem?_cons_zero, List.getElem?_cons_succ, Nat.reduceLeDiff, Nat.zero_add, Nat.reduceSub, Nat.le_refl, Nat.lt_irrefl]
    refine z2 _ _ _ ?_
    simp -implicitDefEqProofs only [go_sem, Nat.reduceBEq, Nat.reduceAdd, eq_self, true_and, and_true, and_self, List.getElem?_cons_zero, List.getElem?_cons_succ, Nat.reduceLeDiff, Nat.zero_add, Nat.reduceSub, Nat.le_refl, Nat.lt_irrefl]
    refine q2 _ _ ?_
    simp -implicitDefEqProofs only [go_sem, Nat.reduceBEq, Nat.reduceAdd, eq_self, true_and, and_true, and_self, List.getElem?_cons_zero, List.getElem?_cons_succ, Nat.reduceLeDiff, Nat.zero_add, Nat.reduceSub, Nat.le_refl, Nat.lt_irrefl]
    rw [clockI, h0, g2]; rfl

set_option maxRecDepth 100000 in
set_option maxHeartbeats 1000000 in
theorem at_ok (hv : RdS σ v 1 (intsV .i64 l)) : CallA Try.prog 79 [v, .int .i64 r] σ fun w σ' => σ' = σ ∧ w = .int .i64 (atD l r) := by
  obtain ⟨b, R, z, rfl, -, -⟩ := id hv
  refine fn_at Try.func79 (by decide) comp79 rfl fun Q q1 q2 => ?_
  have hl := intsV_len l
  have e0 : decide (r < 0) = !decide (0 ≤ r) := by by_cases h : 0 ≤ r <;> simp [h] <;> omega
  have e1 : decide ((l.length : Int) ≤ r) = !decide (r < l.length) := by by_cases h : r < l.length <;> simp [h] <;> omega
  unfold atD at q1 q2
  cases h0 : decide (0 ≤ r) <;> cases h1 : decide (r < l.length) <;> rw [h0, h1] at q2
  case true.true =>
    have h0' := of_decide_eq_true h0
    have h1' := of_decide_eq_true h1
    have hi : r.toNat < l.length := by omega
    have hget := intsV_get hi
    rw [show ((r.toNat : Nat) : Int) = r from by omega] at hget
    obtain ⟨k1, k2⟩ := rdl hv (intsV_ne hi)
    have hg : l[r.toNat]?.getD 0 = l[r.toNat] := by simp [hi]
    rw [hg] at q2
    generalize l[r.toNat] = x at hget q2
    simp -implicitDefEqProofs only [go_sem, Nat.reduceBEq, Nat.reduceAdd, eq_self, true_and, and_true, and_self, List.getElem?_cons_zero, List.getElem?_cons_succ, Nat.reduceLeDiff, Nat.zero_add, Nat.reduceSub, Nat.le_refl, c79, hl, e0, e1, h0, h1, hget]
    refine ⟨⟨by omega, by omega, k2⟩, k1, ?_⟩
    refine q2 _ _ ?_
    simp -implicitDefEqProofs only [go_sem, Nat.reduceBEq, Nat.reduceAdd, eq_self, true_and, and_true, and_self, List.getElem?_cons_zero, List.getElem?_cons_succ, Nat.reduceLeDiff, Nat.zero_add, Nat.reduceSub, Nat.le_refl, Nat.lt_irrefl]
  all_goals
    simp -implicitDefEqProofs only [go_sem, Nat.reduceBEq, Nat.reduceAdd, eq_self, true_and, and_true, and_self, List.getElem?_cons_zero, List.getElem?_cons_succ, Nat.reduceLeDiff, Nat.zero_add, Nat.reduceSub, Nat.le_refl, c79, hl, e0, e1, h0, h1]
    refine q2 _ _ ?_
    simp -implicitDefEqProofs only [go_sem, Nat.reduceBEq, Nat.reduceAdd, eq_self, true_and, and_true, and_self, List.getElem?_cons_zero, List.getElem?_cons_succ, Nat.reduceLeDiff, Nat.zero_add, Nat.reduceSub, Nat.le_refl, Nat.lt_irrefl]
set_option maxRecDepth 100000 in
set_option maxHeartbeats 1000000 in
theorem rat_ok (hv : RdS σ v 1 (intsV .i64 l)) : CallA Try.prog 64 [v, .int .i64 r] σ fun w σ' => σ' = σ ∧ w = .int .i64 (atD l r) := by
  obtain ⟨b, R, z, rfl, -, -⟩ := id hv
  refine fn_at Try.func64 (by decide) comp64 rfl fun Q q1 q2 => ?_
  have hl := intsV_len l
  unfold atD at q1 q2
  cases h0 : decide (0 ≤ r) <;> cases h1 : decide (r < l.length) <;> rw [h0, h1] at q2
  case true.true =>
    have h0' := of_decide_eq_true h0
    have h1' := of_decide_eq_true h1
    have hi : r.toNat < l.length := by omega
    have hget := intsV_get hi
    rw [show ((r.toNat : Nat) : Int) = r from by omega] at hget
    obtain ⟨k1, k2⟩ := rdl hv (intsV_ne hi)
    have hg : l[r.toNat]?.getD 0 = l[r.toNat] := by simp [hi]
    rw [hg] at q2
    generalize l[r.toNat] = x at hget q2
    simp -implicitDefEqProofs only [go_sem, Nat.reduceBEq, Nat.reduceAdd, eq_self, true_and, and_true, and_self, List.getElem?_cons_zero, List.getElem?_cons_succ, Nat.reduceLeDiff, Nat.zero_add, Nat.reduceSub, Nat.le_refl, c64, hl, h0, h1, hget]
    refine ⟨⟨by omega, by omega, k2⟩, k1, ?_⟩
    refine q2 _ _ ?_
    simp -implicitDefEqProofs only [go_sem, Nat.reduceBEq, Nat.reduceAdd, eq_self, true_and, and_true, and_self, List.getElem?_cons_zero, List.getElem?_cons_succ, Nat.reduceLeDiff, Nat.zero_add, Nat.reduceSub, Nat.le_refl, Nat.lt_irrefl]
  all_goals
    simp -implicitDefEqProofs only [go_sem, Nat.reduceBEq, Nat.reduceAdd, eq_self, true_and, and_true, and_self, List.getElem?_cons_zero, List.getElem?_cons_succ, Nat.reduceLeDiff, Nat.zero_add, Nat.reduceSub, Nat.le_refl, c64, hl, h0, h1]
    refine q2 _ _ ?_
    simp -implicitDefEqProofs only [go_sem, Nat.reduceBEq, Nat.reduceAdd, eq_self, true_and, and_true, and_self, List.getElem?_cons_zero, List.getElem?_cons_succ, Nat.reduceLeDiff, Nat.zero_add, Nat.reduceSub, Nat.le_refl, Nat.lt_irrefl]

set_option maxRecDepth 100000 in
set_option maxHeartbeats 1000000 in
theorem rsame_ok {u : V} {m : List Int} (hv : RdS σ v 1 (intsV .i64 l)) (hu : RdS σ u 1 (intsV .i64 m)) (hlen : l.length < 4611686018427387904) : CallA Try.prog 45 [v, u] σ fun w σ' => σ' = σ ∧ w = .bool (decide (l = m)) := by
  obtain ⟨b, R, z, rfl, -, -⟩ := id hv
  obtain ⟨b2, R2, z2, rfl, -, -⟩ := id hu
  refine fn_at Try.func45 (by decide) comp45 rfl fun Q q1 q2 => ?_
  have hl := intsV_len l
  have hm := intsV_len m
  simp -implicitDefEqProofs only [go_sem, Nat.reduceBEq, Nat.reduceAdd, eq_self, true_and, and_true, and_self, List.getElem?_cons_zero, List.getElem?_cons_succ, Nat.reduceLeDiff, Nat.zero_add, Nat.reduceSub, Nat.le_refl, c45, hl, hm]
  refine CondW_b (fun h => ?_) (fun h0 => ?_)
  · have : ¬ l = m := by rintro rfl; simp at h
    simp -implicitDefEqProofs only [go_sem, Nat.reduceBEq, Nat.reduceAdd, eq_self, true_and, and_true, and_self, List.getElem?_cons_zero, List.getElem?_cons_succ, Nat.reduceLeDiff, Nat.zero_add, Nat.reduceSub, Nat.le_refl, Nat.lt_irrefl]
    refine q2 _ _ ?_
    simp -implicitDefEqProofs only [go_sem, Nat.reduceBEq, Nat.reduceAdd, eq_self, true_and, and_true, and_self, List.getElem?_cons_zero, List.getElem?_cons_succ, Nat.reduceLeDiff, Nat.zero_add, Nat.reduceSub, Nat.le_refl, this, decide_false]
  have hlm : l.length = m.length := by have := h0; simp at this; omega
  simp -implicitDefEqProofs only [go_sem, Nat.reduceBEq, Nat.reduceAdd, eq_self, true_and, and_true, and_self, List.getElem?_cons_zero, List.getElem?_cons_succ, Nat.reduceLeDiff, Nat.zero_add, Nat.reduceSub, Nat.le_refl, hl, hm]
  refine loop_at (fun (i : Nat) => ⟨[(0, .v (.sl b R z (intsV .i64 l))), (1, .v (.sl b2 R2 z2 (intsV .i64 m))), (5, .v (.int .i64 i))], []⟩) (fun i τ => τ = σ ∧ i ≤ l.length ∧ l.take i = m.take i) (fun i => l.length - i) 0 ?_ ?_ ?_
  · exact .inr (by simp -implicitDefEqProofs only [go_sem, Nat.reduceBEq, Nat.reduceAdd, eq_self, true_and, and_true, and_self, List.getElem?_cons_zero, List.getElem?_cons_succ, Nat.reduceLeDiff, Nat.zero_add, Nat.reduceSub, Nat.le_refl, Nat.lt_irrefl]; trivial)
  · exact ⟨rfl, Nat.zero_le _, by simp⟩
  rintro i τ ⟨rfl, g1, g2⟩ Z z1 z2 z3
  simp -implicitDefEqProofs only [go_sem, Nat.reduceBEq, Nat.reduceAdd, eq_self, true_and, and_true, and_self, List.getElem?_cons_zero, List.getElem?_cons_succ, Nat.reduceLeDiff, Nat.zero_add, Nat.reduceSub, Nat.le_refl, hl]
  refine CondW_b (fun hc => ?_) (fun hc => ?_)
  · have hi : i < l.length := by simpa using hc
    have hi2 : i < m.length := by omega
    have hget := intsV_get hi
    have hget2 := intsV_get hi2
    obtain ⟨k1, k2⟩ := rdl hv (intsV_ne hi)
    obtain ⟨k3, k4⟩ := rdl hu (intsV_ne hi2)
    have hb : (i : Int) < l.length := by omega
    have hb2 : (i : Int) < m.length := by omega
    have ht : ∀ x, l[i] = x → m[i] = x → l.take (i + 1) = m.take (i + 1) := fun x h1 h2 => by
      rw [List.take_succ_eq_append_getElem hi, List.take_succ_eq_append_getElem hi2, g2, h1, h2]
    have hne : l[i] ≠ m[i] → ¬ l = m := by rintro h rfl; exact h rfl
    generalize l[i] = x at hget ht hne
    generalize m[i] = y at hget2 ht hne
    simp -implicitDefEqProofs only [go_sem, Nat.reduceBEq, Nat.reduceAdd, eq_self, true_and, and_true, and_self, List.getElem?_cons_zero, List.getElem?_cons_succ, Nat.reduceLeDiff, Nat.zero_add, Nat.reduceSub, Nat.le_refl, hget, hget2]
    rw [hl, hm]
    refine ⟨⟨by omega, hb, k2⟩, k1, ⟨by omega, hb2, k4⟩, k3, ?_⟩
    refine CondW_b (fun he => ?_) (fun he => ?_)
    · have := hne (by simpa using he)
      simp -implicitDefEqProofs only [go_sem, Nat.reduceBEq, Nat.reduceAdd, eq_self, true_and, and_true, and_self, List.getElem?_cons_zero, List.getElem?_cons_succ, Nat.reduceLeDiff, Nat.zero_add, Nat.reduceSub, Nat.le_refl, Nat.lt_irrefl]
      refine z3 _ _ ?_
      simp -implicitDefEqProofs only [go_sem, Nat.reduceBEq, Nat.reduceAdd, eq_self, true_and, and_true, and_self, List.getElem?_cons_zero, List.getElem?_cons_succ, Nat.reduceLeDiff, Nat.zero_add, Nat.reduceSub, Nat.le_refl, Nat.lt_irrefl]
      refine q2 _ _ ?_
      simp -implicitDefEqProofs only [go_sem, Nat.reduceBEq, Nat.reduceAdd, eq_self, true_and, and_true, and_self, List.getElem?_cons_zero, List.getElem?_cons_succ, Nat.reduceLeDiff, Nat.zero_add, Nat.reduceSub, Nat.le_refl, this, decide_false]
    · have he : x = y := by simpa using he
      simp -implicitDefEqProofs only [go_sem, Nat.reduceBEq, Nat.reduceAdd, eq_self, true_and, and_true, and_self, List.getElem?_cons_zero, List.getElem?_cons_succ, Nat.reduceLeDiff, Nat.zero_add, Nat.reduceSub, Nat.le_refl, Nat.lt_irrefl]
      refine z1 (i + 1) _ _ (.inr ?_) (by omega) ⟨rfl, by omega, ht y he rfl⟩
      simp -implicitDefEqProofs only [go_sem, Nat.reduceBEq, Nat.reduceAdd, eq_self, true_and, and_true, and_self, List.getElem?_cons_zero, List.getElem?_cons_succ, Nat.reduceLeDiff, Nat.zero_add, Nat.reduceSub, Nat.le_refl, Nat.lt_irrefl]
      rw [i64_in _ (by omega)]; simp
  · have hi : ¬ i < l.length := by simpa using hc
    rw [List.take_of_length_le (by omega), List.take_of_length_le (by omega)] at g2
    simp -implicitDefEqProofs only [go_sem, Nat.reduceBEq, Nat.reduceAdd, eq_self, true_and, and_true, and_self, List.getElem?_cons_zero, List.getElem?_cons_succ, Nat.reduceLeDiff, Nat.zero_add, Nat.reduceSub, Nat.le_refl, Nat.lt_irrefl]
    refine z2 _ _ _ ?_
    simp -implicitDefEqProofs only [go_sem, Nat.reduceBEq, Nat.reduceAdd, eq_self, true_and, and_true, and_self, List.getElem?_cons_zero, List.getElem?_cons_succ, Nat.reduceLeDiff, Nat.zero_add, Nat.reduceSub, Nat.le_refl, Nat.lt_irrefl]
    refine q2 _ _ ?_
    simp -implicitDefEqProofs only [go_sem, Nat.reduceBEq, Nat.reduceAdd, eq_self, true_and, and_true, and_self, List.getElem?_cons_zero, List.getElem?_cons_succ, Nat.reduceLeDiff, Nat.zero_add, Nat.reduceSub, Nat.le_refl, g2, decide_true]
end
end Go.VL.wire

namespace Go.VL.wire
open Go Go.VL Go.Proofs Go.IntWalk

def lastZ (l : List Int) : Bool := decide ((0 : Int) < l.length) && decide (l[((l.length : Int) - 1).toNat]?.getD 0 = 0)
def depsI (g : Cg) : Int := bif !decide (clockI g.deps = 0) then clockI g.deps else bif lastZ g.deps || !decide (atD g.deps g.ar = g.seq - 1) then 2 else 0
def chkI (g : Cg) : Int := bif decide (g.kind < 1) || decide (5 < g.kind) then 1 else bif !right g.ac g.ar then 2 else bif decide (g.seq < 1) || decide (g.ac < g.seq) then 1 else
  bif !decide (depsI g = 0) then depsI g else bif !nodeB g || !placeB g then 2 else wordsI g

section
variable {σ : St} {d : V} {g : Cg}
set_option maxRecDepth 100000 in
set_option maxHeartbeats 1000000 in
theorem deps_ok (hd : RdS σ d 1 (intsV .i64 g.deps)) (hs : 1 ≤ g.seq ∧ g.seq < 9223372036854775808) : CallA Try.prog 59 [cgV d g] σ fun w σ' => σ' = σ ∧ w = .int .i64 (depsI g) := by
  obtain ⟨b, R, z, rfl, -, -⟩ := id hd
  refine fn_at Try.func59 (by decide) comp59 rfl fun Q q1 q2 => ?_
  have hl := intsV_len g.deps
  have hw : IntKind.i64.wrap (g.seq - 1) = g.seq - 1 := i64_in _ (by omega)
  unfold depsI at q1 q2
  simp -implicitDefEqProofs only [go_sem, Nat.reduceBEq, Nat.reduceAdd, eq_self, true_and, and_true, and_self, List.getElem?_cons_zero, List.getElem?_cons_succ, Nat.reduceLeDiff, Nat.zero_add, Nat.reduceSub, Nat.le_refl, c59, cgV, cgC]
  refine call_at (clock_ok hd) ?_
  rintro v τ ⟨rfl, rfl⟩
  refine ⟨kept_none, ?_⟩
  cases hc : decide (clockI g.deps = 0) <;> rw [hc] at q2
  · simp -implicitDefEqProofs only [go_sem, Nat.reduceBEq, Nat.reduceAdd, eq_self, true_and, and_true, and_self, List.getElem?_cons_zero, List.getElem?_cons_succ, Nat.reduceLeDiff, Nat.zero_add, Nat.reduceSub, Nat.le_refl, hc]
    refine q2 _ _ ?_
    simp -implicitDefEqProofs only [go_sem, Nat.reduceBEq, Nat.reduceAdd, eq_self, true_and, and_true, and_self, List.getElem?_cons_zero, List.getElem?_cons_succ, Nat.reduceLeDiff, Nat.zero_add, Nat.reduceSub, Nat.le_refl, Nat.lt_irrefl]
  have h64 : g.deps.length ≤ 64 := by
    have := of_decide_eq_true hc
    unfold clockI at this
    cases h : decide ((64 : Int) < g.deps.length) with
    | true => rw [h] at this; simp at this
    | false => have := of_decide_eq_false h; omega
  cases h0 : decide ((0 : Int) < g.deps.length)
  case' false =>
    have hz : lastZ g.deps = false := by unfold lastZ; rw [h0]; rfl
    simp -implicitDefEqProofs only [go_sem, Nat.reduceBEq, Nat.reduceAdd, eq_self, true_and, and_true, and_self, List.getElem?_cons_zero, List.getElem?_cons_succ, Nat.reduceLeDiff, Nat.zero_add, Nat.reduceSub, Nat.le_refl, hc, hl, h0]
  case' true =>
    have h0' := of_decide_eq_true h0
    have hi : g.deps.length - 1 < g.deps.length := by omega
    have hget := intsV_get hi
    have hw1 : IntKind.i64.wrap ((g.deps.length : Int) - 1) = ((g.deps.length - 1 : Nat) : Int) := by rw [i64_in _ (by omega)]; omega
    have hz : lastZ g.deps = decide (g.deps[g.deps.length - 1] = 0) := by
      unfold lastZ
      rw [h0, show ((g.deps.length : Int) - 1).toNat = g.deps.length - 1 from by omega]
      simp [hi]
    obtain ⟨k1, k2⟩ := rdl hd (intsV_ne hi)
    generalize g.deps[g.deps.length - 1] = x at hget hz
    have hb : (0 : Int) ≤ ((g.deps.length - 1 : Nat) : Int) ∧ ((g.deps.length - 1 : Nat) : Int) < g.deps.length ∧ z = 1 := ⟨by omega, by omega, k2⟩
    simp -implicitDefEqProofs only [go_sem, Nat.reduceBEq, Nat.reduceAdd, eq_self, true_and, and_true, and_self, List.getElem?_cons_zero, List.getElem?_cons_succ, Nat.reduceLeDiff, Nat.zero_add, Nat.reduceSub, Nat.le_refl, hc, hl, h0, hw1, hget]
    refine ⟨hb, k1, ?_⟩
    cases hx : decide (x = 0) <;> rw [hx] at hz
    case true =>
      simp -implicitDefEqProofs only [go_sem, Nat.reduceBEq, Nat.reduceAdd, eq_self, true_and, and_true, and_self, List.getElem?_cons_zero, List.getElem?_cons_succ, Nat.reduceLeDiff, Nat.zero_add, Nat.reduceSub, Nat.le_refl, hx]
      rw [hz] at q2
      refine q2 _ _ ?_
      simp -implicitDefEqProofs only [go_sem, Nat.reduceBEq, Nat.reduceAdd, eq_self, true_and, and_true, and_self, List.getElem?_cons_zero, List.getElem?_cons_succ, Nat.reduceLeDiff, Nat.zero_add, Nat.reduceSub, Nat.le_refl, cond_true, cond_false, Bool.true_or, Bool.false_or, Bool.or_true, Bool.or_false, Bool.and_true, Bool.and_false, Bool.true_and, Bool.false_and, Bool.or_self, Bool.and_self]
    simp -implicitDefEqProofs only [go_sem, Nat.reduceBEq, Nat.reduceAdd, eq_self, true_and, and_true, and_self, List.getElem?_cons_zero, List.getElem?_cons_succ, Nat.reduceLeDiff, Nat.zero_add, Nat.reduceSub, Nat.le_refl, hx]
  all_goals
    rw [hz] at q2
    refine call_at (at_ok hd) ?_
    rintro v τ ⟨rfl, rfl⟩
    refine ⟨(Ext.refl _).kept, ?_⟩
    simp -implicitDefEqProofs only [go_sem, Nat.reduceBEq, Nat.reduceAdd, eq_self, true_and, and_true, and_self, List.getElem?_cons_zero, List.getElem?_cons_succ, Nat.reduceLeDiff, Nat.zero_add, Nat.reduceSub, Nat.le_refl, hw]
    cases ha : decide (atD g.deps g.ar = g.seq - 1) <;> rw [ha] at q2
    all_goals
      simp -implicitDefEqProofs only [go_sem, Nat.reduceBEq, Nat.reduceAdd, eq_self, true_and, and_true, and_self, List.getElem?_cons_zero, List.getElem?_cons_succ, Nat.reduceLeDiff, Nat.zero_add, Nat.reduceSub, Nat.le_refl, ha]
      refine q2 _ _ ?_
      simp -implicitDefEqProofs only [go_sem, Nat.reduceBEq, Nat.reduceAdd, eq_self, true_and, and_true, and_self, List.getElem?_cons_zero, List.getElem?_cons_succ, Nat.reduceLeDiff, Nat.zero_add, Nat.reduceSub, Nat.le_refl, cond_true, cond_false, Bool.true_or, Bool.false_or, Bool.or_true, Bool.or_false, Bool.and_true, Bool.and_false, Bool.true_and, Bool.false_and, Bool.or_self, Bool.and_self]
set_option maxRecDepth 100000 in
set_option maxHeartbeats 2000000 in
theorem chk_ok (hd : RdS σ d 1 (intsV .i64 g.deps)) (hlen : g.name.length < 4611686018427387904) : CallA Try.prog 27 [cgV d g] σ fun w σ' => σ' = σ ∧ w = .int .i64 (chkI g) := by
  refine fn_at Try.func27 (by decide) comp27 rfl fun Q q1 q2 => ?_
  unfold chkI at q1 q2
  have hseq : right g.ac g.ar = true → decide (g.seq < 1) = false → decide (g.ac < g.seq) = false → 1 ≤ g.seq ∧ g.seq < 9223372036854775808 := by
    intro h1 h2 h3
    simp only [right, Bool.and_eq_true, decide_eq_true_eq, decide_eq_false_iff_not] at h1 h2 h3
    omega
  simp -implicitDefEqProofs only [go_sem, Nat.reduceBEq, Nat.reduceAdd, eq_self, true_and, and_true, and_self, List.getElem?_cons_zero, List.getElem?_cons_succ, Nat.reduceLeDiff, Nat.zero_add, Nat.reduceSub, Nat.le_refl, c27, cgV, cgC]
  repeat' first
    | (refine GW_c (fun h => ?_) (fun h => ?_) <;> (try simp only [Bool.not_eq_true', Bool.not_eq_false'] at h) <;> (try simp only [h]) <;> (try simp -implicitDefEqProofs only [go_sem, Nat.reduceBEq, Nat.reduceAdd, eq_self, true_and, and_true, and_self, List.getElem?_cons_zero, List.getElem?_cons_succ, Nat.reduceLeDiff, Nat.zero_add, Nat.reduceSub, Nat.le_refl, cgC, cgV]))
    | (refine CondW_b (fun h => ?_) (fun h => ?_) <;> (try simp only [Bool.not_eq_true', Bool.not_eq_false'] at h) <;> (try simp only [h]) <;> (try simp -implicitDefEqProofs only [go_sem, Nat.reduceBEq, Nat.reduceAdd, eq_self, true_and, and_true, and_self, List.getElem?_cons_zero, List.getElem?_cons_succ, Nat.reduceLeDiff, Nat.zero_add, Nat.reduceSub, Nat.le_refl, cgC, cgV]))
    | (refine call_at right_ok ?_; rintro v τ ⟨rfl, rfl⟩; refine ⟨by first | exact kept_none | exact (Ext.refl _).kept, ?_⟩; (try simp -implicitDefEqProofs only [go_sem, Nat.reduceBEq, Nat.reduceAdd, eq_self, true_and, and_true, and_self, List.getElem?_cons_zero, List.getElem?_cons_succ, Nat.reduceLeDiff, Nat.zero_add, Nat.reduceSub, Nat.le_refl, cgC, cgV]))
    | (refine call_at (node_ok (d := d) (g := g)) ?_; rintro v τ ⟨rfl, rfl⟩; refine ⟨by first | exact kept_none | exact (Ext.refl _).kept, ?_⟩; (try simp -implicitDefEqProofs only [go_sem, Nat.reduceBEq, Nat.reduceAdd, eq_self, true_and, and_true, and_self, List.getElem?_cons_zero, List.getElem?_cons_succ, Nat.reduceLeDiff, Nat.zero_add, Nat.reduceSub, Nat.le_refl, cgC, cgV]))
    | (refine call_at (place_ok (d := d) (g := g)) ?_; rintro v τ ⟨rfl, rfl⟩; refine ⟨by first | exact kept_none | exact (Ext.refl _).kept, ?_⟩; (try simp -implicitDefEqProofs only [go_sem, Nat.reduceBEq, Nat.reduceAdd, eq_self, true_and, and_true, and_self, List.getElem?_cons_zero, List.getElem?_cons_succ, Nat.reduceLeDiff, Nat.zero_add, Nat.reduceSub, Nat.le_refl, cgC, cgV]))
    | (refine call_at (words_ok (d := d) (g := g) hlen) ?_; rintro v τ ⟨rfl, rfl⟩; refine ⟨by first | exact kept_none | exact (Ext.refl _).kept, ?_⟩; (try simp -implicitDefEqProofs only [go_sem, Nat.reduceBEq, Nat.reduceAdd, eq_self, true_and, and_true, and_self, List.getElem?_cons_zero, List.getElem?_cons_succ, Nat.reduceLeDiff, Nat.zero_add, Nat.reduceSub, Nat.le_refl, cgC, cgV]))
    | (refine call_at (deps_ok (d := d) (g := g) hd (hseq (by assumption) (by assumption) (by assumption))) ?_; rintro v τ ⟨rfl, rfl⟩; refine ⟨by first | exact kept_none | exact (Ext.refl _).kept, ?_⟩; (try simp -implicitDefEqProofs only [go_sem, Nat.reduceBEq, Nat.reduceAdd, eq_self, true_and, and_true, and_self, List.getElem?_cons_zero, List.getElem?_cons_succ, Nat.reduceLeDiff, Nat.zero_add, Nat.reduceSub, Nat.le_refl, cgC, cgV]))
    | (refine cut_dup ?_; (try simp -implicitDefEqProofs only [go_sem, Nat.reduceBEq, Nat.reduceAdd, eq_self, true_and, and_true, and_self, List.getElem?_cons_zero, List.getElem?_cons_succ, Nat.reduceLeDiff, Nat.zero_add, Nat.reduceSub, Nat.le_refl, cgC, cgV]))
    | (refine q2 _ _ ?_; (try simp -implicitDefEqProofs only [go_sem, Nat.reduceBEq, Nat.reduceAdd, eq_self, true_and, and_true, and_self, List.getElem?_cons_zero, List.getElem?_cons_succ, Nat.reduceLeDiff, Nat.zero_add, Nat.reduceSub, Nat.le_refl, cgC, cgV]))
  all_goals (clear q1 q2; first | (simp_all [chkI]; done) | grind [chkI])
end
end Go.VL.wire

namespace Go.VL.wire
open Go Go.VL Go.Proofs Go.IntWalk

def Trims (l out : List Int) (z : Nat) : Prop := l = out ++ List.replicate z 0 ∧ (out = [] ∨ ∃ a x, out = a ++ [x] ∧ x ≠ 0)
theorem Trims.len {l out : List Int} {z : Nat} (h : Trims l out z) : decide ((out.length : Int) = l.length) = !lastZ l := by
  obtain ⟨rfl, h2⟩ := h
  unfold lastZ
  cases z with
  | zero =>
    rcases h2 with rfl | ⟨a, x, rfl, hx⟩
    · simp
    · have e : ((a ++ [x] ++ List.replicate 0 (0 : Int)).length : Int) = a.length + 1 := by simp
      rw [e]
      have e2 : ((a.length : Int) + 1 - 1).toNat = a.length := by omega
      rw [e2]
      simp [hx]
  | succ z =>
    have e : ((out ++ List.replicate (z + 1) (0 : Int)).length : Int) = out.length + z + 1 := by simp; omega
    rw [e]
    have e2 : ((out.length : Int) + z + 1 - 1).toNat = out.length + z := by omega
    have e3 : (out ++ List.replicate (z + 1) (0 : Int))[out.length + z]?.getD 0 = 0 := by
      rw [List.getElem?_append_right (by omega)]
      simp
    rw [e2, e3]
    have e4 : decide ((out.length : Int) = out.length + z + 1) = false := by simp; omega
    have e5 : decide ((0 : Int) < out.length + z + 1) = true := by simp; omega
    rw [e4, e5]; rfl

section
variable {σ : St} {l : List Int} {v d : V} {g : Cg}
set_option maxRecDepth 100000 in
set_option maxHeartbeats 1000000 in
theorem trim_ok (hv : RdS σ v 1 (intsV .i64 l)) (hlen : l.length ≤ 1000000) :
    CallA Try.prog 49 [v] σ fun w σ' => (∃ out z, Trims l out z ∧ RdS σ' w 1 (intsV .i64 out)) ∧ Ext σ σ' ∧ σ'.objs = σ.objs := by
  obtain ⟨b, R, z, rfl, -, -⟩ := id hv
  refine fn_at Try.func49 (by decide) comp49 rfl fun Q q1 q2 => ?_
  have hl := intsV_len l
  simp -implicitDefEqProofs only [go_sem, Nat.reduceBEq, Nat.reduceAdd, eq_self, true_and, and_true, and_self, List.getElem?_cons_zero, List.getElem?_cons_succ, Nat.reduceLeDiff, Nat.zero_add, Nat.reduceSub, Nat.le_refl, c49]
  refine loop_at (fun (x : Nat × List Int × Nat × Nat) => ⟨[(0, .v (.sl b R z (intsV .i64 l))), (3, .v (.sl false (.own x.2.2.2) 1 (intsV .i64 x.2.1))), (4, .v (.int .i64 x.2.2.1)), (5, .v (.int .i64 x.1))], []⟩)
    (fun x τ => x.1 ≤ l.length ∧ Trims (l.take x.1) x.2.1 x.2.2.1 ∧ Ext σ τ ∧ τ.objs = σ.objs ∧ τ.live[x.2.2.2]? = some true ∧ σ.live.length ≤ x.2.2.2) (fun x => l.length - x.1) (0, [], 0, σ.live.length) ?_ ?_ ?_
  · exact .inr (by simp -implicitDefEqProofs only [go_sem, Nat.reduceBEq, Nat.reduceAdd, eq_self, true_and, and_true, and_self, List.getElem?_cons_zero, List.getElem?_cons_succ, Nat.reduceLeDiff, Nat.zero_add, Nat.reduceSub, Nat.le_refl, Nat.lt_irrefl]; exact ⟨rfl, rfl⟩)
  · exact ⟨Nat.zero_le _, ⟨by simp, .inl rfl⟩, ext_live σ true, rfl, live_last _ _, Nat.le_refl _⟩
  rintro ⟨i, out, k, q⟩ τ ⟨g1, g2, g3, g4, g5, g6⟩ Z z1 z2 z3
  simp only at g1 g2 g5 g6
  have hlo : out.length + k = i := by
    have := congrArg List.length g2.1
    simp only [List.length_take, List.length_append, List.length_replicate] at this
    omega
  simp -implicitDefEqProofs only [go_sem, Nat.reduceBEq, Nat.reduceAdd, eq_self, true_and, and_true, and_self, List.getElem?_cons_zero, List.getElem?_cons_succ, Nat.reduceLeDiff, Nat.zero_add, Nat.reduceSub, Nat.le_refl, hl]
  refine CondW_b (fun hc => ?_) (fun hc => ?_)
  · have hi : i < l.length := by simpa using hc
    have hget := intsV_get hi
    obtain ⟨k1, k2⟩ := rdl (hv.ext g3) (intsV_ne hi)
    have hb : (i : Int) < l.length := by omega
    have htk : l.take (i + 1) = l.take i ++ [l[i]] := List.take_succ_eq_append_getElem hi
    generalize l[i] = x at hget htk
    have hw : ∀ n : Nat, n ≤ 1000000 → IntKind.i64.wrap ((n : Int) + 1) = ((n + 1 : Nat) : Int) := fun n h => by rw [i64_in _ (by omega)]; omega
    refine cut_at (fun G τ2 => ∃ out2 k2 q2, G = ⟨[(0, .v (.sl b R z (intsV .i64 l))), (3, .v (.sl false (.own q2) 1 (intsV .i64 out2))), (4, .v (.int .i64 (k2 : Nat))), (5, .v (.int .i64 i))], []⟩ ∧ Trims (l.take (i + 1)) out2 k2 ∧ Ext σ τ2 ∧ τ2.objs = σ.objs ∧ τ2.live[q2]? = some true ∧ σ.live.length ≤ q2) ?_ ?_
    case refine_2 =>
      rintro G τ2 ⟨out2, k2, q2', rfl, t1, t2, t3, t4, t5⟩
      simp -implicitDefEqProofs only [go_sem, Nat.reduceBEq, Nat.reduceAdd, eq_self, true_and, and_true, and_self, List.getElem?_cons_zero, List.getElem?_cons_succ, Nat.reduceLeDiff, Nat.zero_add, Nat.reduceSub, Nat.le_refl, Nat.lt_irrefl]
      refine z1 (i + 1, out2, k2, q2') _ _ (.inr ?_) (by simp only; omega) ⟨by simp only; omega, t1, t2, t3, t4, t5⟩
      simp -implicitDefEqProofs only [go_sem, Nat.reduceBEq, Nat.reduceAdd, eq_self, true_and, and_true, and_self, List.getElem?_cons_zero, List.getElem?_cons_succ, Nat.reduceLeDiff, Nat.zero_add, Nat.reduceSub, Nat.le_refl, hw i (by omega)]
    intro Y y1 y2 y3
    simp -implicitDefEqProofs only [go_sem, Nat.reduceBEq, Nat.reduceAdd, eq_self, true_and, and_true, and_self, List.getElem?_cons_zero, List.getElem?_cons_succ, Nat.reduceLeDiff, Nat.zero_add, Nat.reduceSub, Nat.le_refl, hl, hget]
    refine ⟨⟨by omega, hb, k2⟩, k1, ?_⟩
    refine CondW_b (fun hx => ?_) (fun hx => ?_)
    · have hx : x = 0 := of_decide_eq_true hx
      subst hx
      simp -implicitDefEqProofs only [go_sem, Nat.reduceBEq, Nat.reduceAdd, eq_self, true_and, and_true, and_self, List.getElem?_cons_zero, List.getElem?_cons_succ, Nat.reduceLeDiff, Nat.zero_add, Nat.reduceSub, Nat.le_refl, Nat.lt_irrefl]
      refine y1 _ _ _ (.inr ?_) ⟨out, k + 1, q, rfl, ⟨?_, g2.2⟩, g3, g4, g5, g6⟩
      · simp -implicitDefEqProofs only [go_sem, Nat.reduceBEq, Nat.reduceAdd, eq_self, true_and, and_true, and_self, List.getElem?_cons_zero, List.getElem?_cons_succ, Nat.reduceLeDiff, Nat.zero_add, Nat.reduceSub, Nat.le_refl, hw k (by omega)]
      · rw [htk, g2.1, List.replicate_succ', List.append_assoc]
    · have hx : x ≠ 0 := by simpa using hx
      simp -implicitDefEqProofs only [go_sem, Nat.reduceBEq, Nat.reduceAdd, eq_self, true_and, and_true, and_self, List.getElem?_cons_zero, List.getElem?_cons_succ, Nat.reduceLeDiff, Nat.zero_add, Nat.reduceSub, Nat.le_refl, Nat.lt_irrefl]
      refine loop_at (fun (y : Nat × Nat) => ⟨[(0, .v (.sl b R z (intsV .i64 l))), (3, .v (.sl false (.own y.2) 1 (intsV .i64 (out ++ List.replicate (k - y.1) 0)))), (4, .v (.int .i64 y.1)), (5, .v (.int .i64 i))], []⟩)
        (fun y τ => y.1 ≤ k ∧ Ext σ τ ∧ τ.objs = σ.objs ∧ τ.live[y.2]? = some true ∧ σ.live.length ≤ y.2) (fun y => y.1) (k, q) ?_ ?_ ?_
      · exact .inr (by simp -implicitDefEqProofs only [go_sem, Nat.reduceBEq, Nat.reduceAdd, eq_self, true_and, and_true, and_self, List.getElem?_cons_zero, List.getElem?_cons_succ, Nat.reduceLeDiff, Nat.zero_add, Nat.reduceSub, Nat.le_refl, Nat.sub_self, List.replicate_zero, List.append_nil])
      · exact ⟨Nat.le_refl _, g3, g4, g5, g6⟩
      rintro ⟨m, p⟩ τ1 ⟨m1, m2, m3, m4, m5⟩ X x1 x2 x3
      simp only at m1 m4 m5
      simp -implicitDefEqProofs only [go_sem, Nat.reduceBEq, Nat.reduceAdd, eq_self, true_and, and_true, and_self, List.getElem?_cons_zero, List.getElem?_cons_succ, Nat.reduceLeDiff, Nat.zero_add, Nat.reduceSub, Nat.le_refl, Nat.lt_irrefl]
      refine CondW_b (fun hm => ?_) (fun hm => ?_)
      · have hm : 0 < m := by simpa using hm
        have hsz : (intsV .i64 (out ++ List.replicate (k - m) 0)).length ≤ 1073741823 := by simp [intsV]; omega
        have hap : intsV .i64 (out ++ List.replicate (k - m) 0) ++ [[V.int .i64 0]] = intsV .i64 (out ++ List.replicate (k - (m - 1)) 0) := by
          rw [show k - (m - 1) = k - m + 1 from by omega, List.replicate_succ']
          simp [intsV]
        simp -implicitDefEqProofs only [go_sem, Nat.reduceBEq, Nat.reduceAdd, eq_self, true_and, and_true, and_self, List.getElem?_cons_zero, List.getElem?_cons_succ, Nat.reduceLeDiff, Nat.zero_add, Nat.reduceSub, Nat.le_refl, Nat.lt_irrefl]
        refine ⟨⟨.inr trivial, .inr ((ext_live _ _).live _ m4), ⟨.inr (live_last _ _), .inl trivial⟩, hsz⟩, ?_⟩
        refine x1 (m - 1, _) _ _ (.inr ?_) (by simp only; omega) ⟨by simp only; omega, ext_kill (ext_push m2) m5, m3, live_last' _ _ _, by have := m2.llen; simp only [List.length_append, List.length_cons, List.length_nil]; omega⟩
        simp -implicitDefEqProofs only [go_sem, Nat.reduceBEq, Nat.reduceAdd, eq_self, true_and, and_true, and_self, List.getElem?_cons_zero, List.getElem?_cons_succ, Nat.reduceLeDiff, Nat.zero_add, Nat.reduceSub, Nat.le_refl, hap]
        rw [i64_in _ (by omega)]
        have : ((m : Int) - 1) = ((m - 1 : Nat) : Int) := by omega
        rw [this]
      · have hm : m = 0 := by simp at hm; omega
        subst hm
        simp -implicitDefEqProofs only [go_sem, Nat.reduceBEq, Nat.reduceAdd, eq_self, true_and, and_true, and_self, List.getElem?_cons_zero, List.getElem?_cons_succ, Nat.reduceLeDiff, Nat.zero_add, Nat.reduceSub, Nat.le_refl, Nat.sub_zero]
        refine x2 _ _ _ ?_
        have k3 := rdl (hv.ext m2) (intsV_ne hi)
        have hsz : (intsV .i64 (out ++ List.replicate k 0)).length ≤ 1073741823 := by simp [intsV]; omega
        have hap : intsV .i64 (out ++ List.replicate k 0) ++ [[V.int .i64 x]] = intsV .i64 (out ++ List.replicate k 0 ++ [x]) := by simp [intsV]
        simp -implicitDefEqProofs only [go_sem, Nat.reduceBEq, Nat.reduceAdd, eq_self, true_and, and_true, and_self, List.getElem?_cons_zero, List.getElem?_cons_succ, Nat.reduceLeDiff, Nat.zero_add, Nat.reduceSub, Nat.le_refl, hl, hget]
        refine ⟨⟨by omega, hb, k2⟩, k3.1, ⟨⟨.inr trivial, .inr ((ext_live _ _).live _ m4), ⟨.inr (live_last _ _), .inl trivial⟩, hsz⟩, ?_⟩⟩
        refine y1 _ _ _ (.inr ?_) ⟨out ++ List.replicate k 0 ++ [x], 0, _, rfl, ⟨?_, .inr ⟨_, x, rfl, hx⟩⟩, ext_kill (ext_push m2) m5, m3, live_last' _ _ _, by have := m2.llen; simp only [List.length_append, List.length_cons, List.length_nil]; omega⟩
        · simp -implicitDefEqProofs only [go_sem, Nat.reduceBEq, Nat.reduceAdd, eq_self, true_and, and_true, and_self, List.getElem?_cons_zero, List.getElem?_cons_succ, Nat.reduceLeDiff, Nat.zero_add, Nat.reduceSub, Nat.le_refl, hap]
        · rw [htk, g2.1]; simp
  · have hi : ¬ i < l.length := by simpa using hc
    rw [List.take_of_length_le (by omega)] at g2
    simp -implicitDefEqProofs only [go_sem, Nat.reduceBEq, Nat.reduceAdd, eq_self, true_and, and_true, and_self, List.getElem?_cons_zero, List.getElem?_cons_succ, Nat.reduceLeDiff, Nat.zero_add, Nat.reduceSub, Nat.le_refl, Nat.lt_irrefl]
    refine z2 _ _ _ ?_
    simp -implicitDefEqProofs only [go_sem, Nat.reduceBEq, Nat.reduceAdd, eq_self, true_and, and_true, and_self, List.getElem?_cons_zero, List.getElem?_cons_succ, Nat.reduceLeDiff, Nat.zero_add, Nat.reduceSub, Nat.le_refl, Nat.lt_irrefl]
    refine q2 _ _ ?_
    simp -implicitDefEqProofs only [go_sem, Nat.reduceBEq, Nat.reduceAdd, eq_self, true_and, and_true, and_self, List.getElem?_cons_zero, List.getElem?_cons_succ, Nat.reduceLeDiff, Nat.zero_add, Nat.reduceSub, Nat.le_refl, Nat.lt_irrefl]
    exact ⟨⟨out, k, g2, _, _, _, rfl, by simp, .inr ⟨g5, rfl⟩⟩, g3, g4⟩

set_option maxRecDepth 100000 in
set_option maxHeartbeats 2000000 in
theorem rplaced_ok (hk : 1 ≤ g.kind) : CallA Try.prog 65 [cgV d g] σ fun w σ' => σ' = σ ∧ w = .bool (nodeB g && placeB g) := by
  refine fn_at Try.func65 (by decide) comp65 rfl fun Q q1 q2 => ?_
  rcases (by omega : g.kind = 1 ∨ g.kind = 2 ∨ 2 < g.kind) with k | k | k
  case' inl =>
    have e1 : decide (g.kind = 1) = true := by simp [k]
    have e2 : decide (g.kind = 2) = false := by simp [k]
    have e3 : decide (2 < g.kind) = false := by simp [k]
  case' inr.inl =>
    have e1 : decide (g.kind = 1) = false := by simp [k]
    have e2 : decide (g.kind = 2) = true := by simp [k]
    have e3 : decide (2 < g.kind) = false := by simp [k]
  case' inr.inr =>
    have e1 : decide (g.kind = 1) = false := by simp; omega
    have e2 : decide (g.kind = 2) = false := by simp; omega
    have e3 : decide (2 < g.kind) = true := by simp; omega
  all_goals
    simp -implicitDefEqProofs only [go_sem, Nat.reduceBEq, Nat.reduceAdd, eq_self, true_and, and_true, and_self, List.getElem?_cons_zero, List.getElem?_cons_succ, Nat.reduceLeDiff, Nat.zero_add, Nat.reduceSub, Nat.le_refl, c65, cgV, cgC, V.eqs, V.eq, Bool.and_true, e1, e2, e3]
    repeat' first
      | (refine GW_c (fun h => ?_) (fun h => ?_) <;> (try simp only [Bool.not_eq_true', Bool.not_eq_false'] at h) <;> (try simp only [h]) <;> (try simp -implicitDefEqProofs only [go_sem, Nat.reduceBEq, Nat.reduceAdd, eq_self, true_and, and_true, and_self, List.getElem?_cons_zero, List.getElem?_cons_succ, Nat.reduceLeDiff, Nat.zero_add, Nat.reduceSub, Nat.le_refl, cgC, cgV, V.eqs, V.eq, Bool.and_true, e1, e2, e3]))
      | (refine CondW_b (fun h => ?_) (fun h => ?_) <;> (try simp only [Bool.not_eq_true', Bool.not_eq_false'] at h) <;> (try simp only [h]) <;> (try simp -implicitDefEqProofs only [go_sem, Nat.reduceBEq, Nat.reduceAdd, eq_self, true_and, and_true, and_self, List.getElem?_cons_zero, List.getElem?_cons_succ, Nat.reduceLeDiff, Nat.zero_add, Nat.reduceSub, Nat.le_refl, cgC, cgV, V.eqs, V.eq, Bool.and_true, e1, e2, e3]))
      | (refine call_at ahead_ok ?_; rintro v τ ⟨rfl, rfl⟩; refine ⟨by first | exact kept_none | exact (Ext.refl _).kept, ?_⟩; (try simp -implicitDefEqProofs only [go_sem, Nat.reduceBEq, Nat.reduceAdd, eq_self, true_and, and_true, and_self, List.getElem?_cons_zero, List.getElem?_cons_succ, Nat.reduceLeDiff, Nat.zero_add, Nat.reduceSub, Nat.le_refl, cgC, cgV, V.eqs, V.eq, Bool.and_true, e1, e2, e3]))
      | (refine call_at rnode_ok ?_; rintro v τ ⟨rfl, rfl⟩; refine ⟨by first | exact kept_none | exact (Ext.refl _).kept, ?_⟩; (try simp -implicitDefEqProofs only [go_sem, Nat.reduceBEq, Nat.reduceAdd, eq_self, true_and, and_true, and_self, List.getElem?_cons_zero, List.getElem?_cons_succ, Nat.reduceLeDiff, Nat.zero_add, Nat.reduceSub, Nat.le_refl, cgC, cgV, V.eqs, V.eq, Bool.and_true, e1, e2, e3]))
      | (refine call_at less_ok ?_; rintro v τ ⟨rfl, rfl⟩; refine ⟨by first | exact kept_none | exact (Ext.refl _).kept, ?_⟩; (try simp -implicitDefEqProofs only [go_sem, Nat.reduceBEq, Nat.reduceAdd, eq_self, true_and, and_true, and_self, List.getElem?_cons_zero, List.getElem?_cons_succ, Nat.reduceLeDiff, Nat.zero_add, Nat.reduceSub, Nat.le_refl, cgC, cgV, V.eqs, V.eq, Bool.and_true, e1, e2, e3]))
      | (refine cut_dup ?_; (try simp -implicitDefEqProofs only [go_sem, Nat.reduceBEq, Nat.reduceAdd, eq_self, true_and, and_true, and_self, List.getElem?_cons_zero, List.getElem?_cons_succ, Nat.reduceLeDiff, Nat.zero_add, Nat.reduceSub, Nat.le_refl, cgC, cgV, V.eqs, V.eq, Bool.and_true, e1, e2, e3]))
      | (refine q2 _ _ ?_; (try simp -implicitDefEqProofs only [go_sem, Nat.reduceBEq, Nat.reduceAdd, eq_self, true_and, and_true, and_self, List.getElem?_cons_zero, List.getElem?_cons_succ, Nat.reduceLeDiff, Nat.zero_add, Nat.reduceSub, Nat.le_refl, cgC, cgV, V.eqs, V.eq, Bool.and_true, e1, e2, e3]))
    all_goals (clear q1 q2 k; first | (simp_all [nodeB, placeB, zeroS]; done) | grind [nodeB, placeB, zeroS])
end
end Go.VL.wire

namespace Go.VL.wire
open Go Go.VL Go.Proofs Go.IntWalk
section
variable {σ : St} {l : List Int} {v d : V} {g : Cg}
set_option maxRecDepth 100000 in
set_option maxHeartbeats 2000000 in
theorem rchk_ok (hd : RdS σ d 1 (intsV .i64 g.deps)) (hlen : g.name.length < 4611686018427387904) : CallA Try.prog 30 [cgV d g] σ fun w σ' => (Ext σ σ' ∧ σ'.objs = σ.objs) ∧ w = .int .i64 (chkI g) := by
  obtain ⟨b, R, z, rfl, -, -⟩ := id hd
  refine fn_at Try.func30 (by decide) comp30 rfl fun Q q1 q2 => ?_
  unfold chkI at q1 q2
  have hx : ∀ {τ : St}, τ = σ → (Ext σ τ ∧ τ.objs = σ.objs) := by rintro τ rfl; exact ⟨Ext.refl _, rfl⟩
  cases h1 : decide (g.kind < 1)
  case true =>
    simp -implicitDefEqProofs only [go_sem, Nat.reduceBEq, Nat.reduceAdd, eq_self, true_and, and_true, and_self, List.getElem?_cons_zero, List.getElem?_cons_succ, Nat.reduceLeDiff, Nat.zero_add, Nat.reduceSub, Nat.le_refl, c30, cgV, cgC, h1]
    refine q2 _ _ ?_
    rw [h1]
    simp -implicitDefEqProofs only [go_sem, Nat.reduceBEq, Nat.reduceAdd, eq_self, true_and, and_true, and_self, List.getElem?_cons_zero, List.getElem?_cons_succ, Nat.reduceLeDiff, Nat.zero_add, Nat.reduceSub, Nat.le_refl, cond_true, cond_false, Bool.true_or, Bool.false_or, Bool.or_true, Bool.or_false, Bool.and_true, Bool.and_false, Bool.true_and, Bool.false_and, Bool.or_self, Bool.and_self]
    exact Ext.refl _
  cases h2 : decide (5 < g.kind)
  case true =>
    simp -implicitDefEqProofs only [go_sem, Nat.reduceBEq, Nat.reduceAdd, eq_self, true_and, and_true, and_self, List.getElem?_cons_zero, List.getElem?_cons_succ, Nat.reduceLeDiff, Nat.zero_add, Nat.reduceSub, Nat.le_refl, c30, cgV, cgC, h1, h2]
    refine q2 _ _ ?_
    rw [h1, h2]
    simp -implicitDefEqProofs only [go_sem, Nat.reduceBEq, Nat.reduceAdd, eq_self, true_and, and_true, and_self, List.getElem?_cons_zero, List.getElem?_cons_succ, Nat.reduceLeDiff, Nat.zero_add, Nat.reduceSub, Nat.le_refl, cond_true, cond_false, Bool.true_or, Bool.false_or, Bool.or_true, Bool.or_false, Bool.and_true, Bool.and_false, Bool.true_and, Bool.false_and, Bool.or_self, Bool.and_self]
    exact Ext.refl _
  rw [h1, h2] at q1 q2
  cases h3 : right g.ac g.ar <;> rw [h3] at q1 q2
  case false =>
    simp -implicitDefEqProofs only [go_sem, Nat.reduceBEq, Nat.reduceAdd, eq_self, true_and, and_true, and_self, List.getElem?_cons_zero, List.getElem?_cons_succ, Nat.reduceLeDiff, Nat.zero_add, Nat.reduceSub, Nat.le_refl, c30, cgV, cgC, h1, h2]
    refine call_at (rright_ok (c := g.ac) (r := g.ar)) ?_
    rintro v τ ⟨rfl, rfl⟩
    refine ⟨kept_none, ?_⟩
    simp -implicitDefEqProofs only [go_sem, Nat.reduceBEq, Nat.reduceAdd, eq_self, true_and, and_true, and_self, List.getElem?_cons_zero, List.getElem?_cons_succ, Nat.reduceLeDiff, Nat.zero_add, Nat.reduceSub, Nat.le_refl, h3]
    refine q2 _ _ ?_
    simp -implicitDefEqProofs only [go_sem, Nat.reduceBEq, Nat.reduceAdd, eq_self, true_and, and_true, and_self, List.getElem?_cons_zero, List.getElem?_cons_succ, Nat.reduceLeDiff, Nat.zero_add, Nat.reduceSub, Nat.le_refl, cond_true, cond_false, Bool.true_or, Bool.false_or, Bool.or_true, Bool.or_false, Bool.and_true, Bool.and_false, Bool.true_and, Bool.false_and, Bool.or_self, Bool.and_self]
    exact Ext.refl _
  have h3' := h3
  simp only [right, Bool.and_eq_true, decide_eq_true_eq] at h3'
  cases h4 : decide (g.seq < 1)
  case true =>
    rw [h4] at q2
    simp -implicitDefEqProofs only [go_sem, Nat.reduceBEq, Nat.reduceAdd, eq_self, true_and, and_true, and_self, List.getElem?_cons_zero, List.getElem?_cons_succ, Nat.reduceLeDiff, Nat.zero_add, Nat.reduceSub, Nat.le_refl, c30, cgV, cgC, h1, h2]
    refine call_at (rright_ok (c := g.ac) (r := g.ar)) ?_
    rintro v τ ⟨rfl, rfl⟩
    refine ⟨kept_none, ?_⟩
    simp -implicitDefEqProofs only [go_sem, Nat.reduceBEq, Nat.reduceAdd, eq_self, true_and, and_true, and_self, List.getElem?_cons_zero, List.getElem?_cons_succ, Nat.reduceLeDiff, Nat.zero_add, Nat.reduceSub, Nat.le_refl, h3, h4]
    refine q2 _ _ ?_
    simp -implicitDefEqProofs only [go_sem, Nat.reduceBEq, Nat.reduceAdd, eq_self, true_and, and_true, and_self, List.getElem?_cons_zero, List.getElem?_cons_succ, Nat.reduceLeDiff, Nat.zero_add, Nat.reduceSub, Nat.le_refl, cond_true, cond_false, Bool.true_or, Bool.false_or, Bool.or_true, Bool.or_false, Bool.and_true, Bool.and_false, Bool.true_and, Bool.false_and, Bool.or_self, Bool.and_self]
    exact Ext.refl _
  cases h5 : decide (g.ac < g.seq) <;> rw [h4, h5] at q1 q2
  case true =>
    simp -implicitDefEqProofs only [go_sem, Nat.reduceBEq, Nat.reduceAdd, eq_self, true_and, and_true, and_self, List.getElem?_cons_zero, List.getElem?_cons_succ, Nat.reduceLeDiff, Nat.zero_add, Nat.reduceSub, Nat.le_refl, c30, cgV, cgC, h1, h2]
    refine call_at (rright_ok (c := g.ac) (r := g.ar)) ?_
    rintro v τ ⟨rfl, rfl⟩
    refine ⟨kept_none, ?_⟩
    simp -implicitDefEqProofs only [go_sem, Nat.reduceBEq, Nat.reduceAdd, eq_self, true_and, and_true, and_self, List.getElem?_cons_zero, List.getElem?_cons_succ, Nat.reduceLeDiff, Nat.zero_add, Nat.reduceSub, Nat.le_refl, h3, h4, h5]
    refine q2 _ _ ?_
    simp -implicitDefEqProofs only [go_sem, Nat.reduceBEq, Nat.reduceAdd, eq_self, true_and, and_true, and_self, List.getElem?_cons_zero, List.getElem?_cons_succ, Nat.reduceLeDiff, Nat.zero_add, Nat.reduceSub, Nat.le_refl, cond_true, cond_false, Bool.true_or, Bool.false_or, Bool.or_true, Bool.or_false, Bool.and_true, Bool.and_false, Bool.true_and, Bool.false_and, Bool.or_self, Bool.and_self]
    exact Ext.refl _
  have h4' := of_decide_eq_false h4
  have h5' := of_decide_eq_false h5
  have h1' := of_decide_eq_false h1
  have hw : IntKind.i64.wrap (g.seq - 1) = g.seq - 1 := i64_in _ (by omega)
  simp only [Bool.or_self, cond_false, Bool.not_true] at q1 q2
  have hdp : depsI g = bif !decide (clockI g.deps = 0) then clockI g.deps else bif lastZ g.deps || !decide (atD g.deps g.ar = g.seq - 1) then 2 else 0 := rfl
  cases h6 : decide (clockI g.deps = 0) <;> rw [h6] at hdp
  case false =>
    rw [hdp] at q2
    simp only [Bool.not_false, cond_true, h6] at q2
    simp -implicitDefEqProofs only [go_sem, Nat.reduceBEq, Nat.reduceAdd, eq_self, true_and, and_true, and_self, List.getElem?_cons_zero, List.getElem?_cons_succ, Nat.reduceLeDiff, Nat.zero_add, Nat.reduceSub, Nat.le_refl, c30, cgV, cgC, h1, h2]
    refine call_at (rright_ok (c := g.ac) (r := g.ar)) ?_
    rintro v τ ⟨rfl, rfl⟩
    refine ⟨kept_none, ?_⟩
    simp -implicitDefEqProofs only [go_sem, Nat.reduceBEq, Nat.reduceAdd, eq_self, true_and, and_true, and_self, List.getElem?_cons_zero, List.getElem?_cons_succ, Nat.reduceLeDiff, Nat.zero_add, Nat.reduceSub, Nat.le_refl, h3, h4, h5]
    refine call_at (rclock_ok hd) ?_
    rintro v τ ⟨rfl, rfl⟩
    refine ⟨kept_none, ?_⟩
    simp -implicitDefEqProofs only [go_sem, Nat.reduceBEq, Nat.reduceAdd, eq_self, true_and, and_true, and_self, List.getElem?_cons_zero, List.getElem?_cons_succ, Nat.reduceLeDiff, Nat.zero_add, Nat.reduceSub, Nat.le_refl, h6]
    refine call_at (rclock_ok hd) ?_
    rintro v τ ⟨rfl, rfl⟩
    refine ⟨kept_none, ?_⟩
    simp -implicitDefEqProofs only [go_sem, Nat.reduceBEq, Nat.reduceAdd, eq_self, true_and, and_true, and_self, List.getElem?_cons_zero, List.getElem?_cons_succ, Nat.reduceLeDiff, Nat.zero_add, Nat.reduceSub, Nat.le_refl, Nat.lt_irrefl]
    refine q2 _ _ ?_
    simp -implicitDefEqProofs only [go_sem, Nat.reduceBEq, Nat.reduceAdd, eq_self, true_and, and_true, and_self, List.getElem?_cons_zero, List.getElem?_cons_succ, Nat.reduceLeDiff, Nat.zero_add, Nat.reduceSub, Nat.le_refl, cond_true, cond_false, Bool.true_or, Bool.false_or, Bool.or_true, Bool.or_false, Bool.and_true, Bool.and_false, Bool.true_and, Bool.false_and, Bool.or_self, Bool.and_self]
    exact Ext.refl _
  have h64 : g.deps.length ≤ 64 := by
    have := of_decide_eq_true h6
    unfold clockI at this
    cases h : decide ((64 : Int) < g.deps.length) with
    | true => rw [h] at this; simp at this
    | false => have := of_decide_eq_false h; omega
  simp only [Bool.not_true, cond_false] at hdp
  simp -implicitDefEqProofs only [go_sem, Nat.reduceBEq, Nat.reduceAdd, eq_self, true_and, and_true, and_self, List.getElem?_cons_zero, List.getElem?_cons_succ, Nat.reduceLeDiff, Nat.zero_add, Nat.reduceSub, Nat.le_refl, c30, cgV, cgC, h1, h2]
  refine call_at (rright_ok (c := g.ac) (r := g.ar)) ?_
  rintro v τ ⟨rfl, rfl⟩
  refine ⟨kept_none, ?_⟩
  simp -implicitDefEqProofs only [go_sem, Nat.reduceBEq, Nat.reduceAdd, eq_self, true_and, and_true, and_self, List.getElem?_cons_zero, List.getElem?_cons_succ, Nat.reduceLeDiff, Nat.zero_add, Nat.reduceSub, Nat.le_refl, h3, h4, h5]
  refine call_at (rclock_ok hd) ?_
  rintro v τ ⟨rfl, rfl⟩
  refine ⟨kept_none, ?_⟩
  simp -implicitDefEqProofs only [go_sem, Nat.reduceBEq, Nat.reduceAdd, eq_self, true_and, and_true, and_self, List.getElem?_cons_zero, List.getElem?_cons_succ, Nat.reduceLeDiff, Nat.zero_add, Nat.reduceSub, Nat.le_refl, h6]
  refine call_at (trim_ok hd (by omega)) ?_
  rintro v τ1 ⟨⟨out, zz, ht, ⟨b2, R2, z2, rfl, -, -⟩⟩, he, ho⟩
  refine ⟨he.kept, ?_⟩
  have hl := intsV_len g.deps
  have hl2 := intsV_len out
  have hlen2 := ht.len
  simp -implicitDefEqProofs only [go_sem, Nat.reduceBEq, Nat.reduceAdd, eq_self, true_and, and_true, and_self, List.getElem?_cons_zero, List.getElem?_cons_succ, Nat.reduceLeDiff, Nat.zero_add, Nat.reduceSub, Nat.le_refl, hl, hl2, hlen2]
  have hd1 := hd.ext he
  have h2' := of_decide_eq_false h2
  rw [hdp] at q2
  clear q1 hdp ht hl hl2 hlen2 hx h1 h2
  cases hz : lastZ g.deps <;> rw [hz] at q2
  case true =>
    simp -implicitDefEqProofs only [go_sem, Nat.reduceBEq, Nat.reduceAdd, eq_self, true_and, and_true, and_self, List.getElem?_cons_zero, List.getElem?_cons_succ, Nat.reduceLeDiff, Nat.zero_add, Nat.reduceSub, Nat.le_refl, hz]
    refine q2 _ _ ?_
    simp -implicitDefEqProofs only [go_sem, Nat.reduceBEq, Nat.reduceAdd, eq_self, true_and, and_true, and_self, List.getElem?_cons_zero, List.getElem?_cons_succ, Nat.reduceLeDiff, Nat.zero_add, Nat.reduceSub, Nat.le_refl, cond_true, cond_false, Bool.true_or, Bool.false_or, Bool.or_true, Bool.or_false, Bool.and_true, Bool.and_false, Bool.true_and, Bool.false_and, Bool.or_self, Bool.and_self]
    first | exact ⟨⟨he, ho⟩, by simp⟩ | exact ⟨he, ho⟩
  simp -implicitDefEqProofs only [go_sem, Nat.reduceBEq, Nat.reduceAdd, eq_self, true_and, and_true, and_self, List.getElem?_cons_zero, List.getElem?_cons_succ, Nat.reduceLeDiff, Nat.zero_add, Nat.reduceSub, Nat.le_refl, hz]
  refine call_at (rat_ok hd1) ?_
  rintro v τ ⟨rfl, rfl⟩
  refine ⟨(Ext.refl _).kept, ?_⟩
  simp -implicitDefEqProofs only [go_sem, Nat.reduceBEq, Nat.reduceAdd, eq_self, true_and, and_true, and_self, List.getElem?_cons_zero, List.getElem?_cons_succ, Nat.reduceLeDiff, Nat.zero_add, Nat.reduceSub, Nat.le_refl, hw]
  cases ha : decide (atD g.deps g.ar = g.seq - 1) <;> rw [ha] at q2
  case false =>
    simp -implicitDefEqProofs only [go_sem, Nat.reduceBEq, Nat.reduceAdd, eq_self, true_and, and_true, and_self, List.getElem?_cons_zero, List.getElem?_cons_succ, Nat.reduceLeDiff, Nat.zero_add, Nat.reduceSub, Nat.le_refl, ha]
    refine q2 _ _ ?_
    simp -implicitDefEqProofs only [go_sem, Nat.reduceBEq, Nat.reduceAdd, eq_self, true_and, and_true, and_self, List.getElem?_cons_zero, List.getElem?_cons_succ, Nat.reduceLeDiff, Nat.zero_add, Nat.reduceSub, Nat.le_refl, cond_true, cond_false, Bool.true_or, Bool.false_or, Bool.or_true, Bool.or_false, Bool.and_true, Bool.and_false, Bool.true_and, Bool.false_and, Bool.or_self, Bool.and_self]
    first | exact ⟨⟨he, ho⟩, by simp⟩ | exact ⟨he, ho⟩
  simp -implicitDefEqProofs only [go_sem, Nat.reduceBEq, Nat.reduceAdd, eq_self, true_and, and_true, and_self, List.getElem?_cons_zero, List.getElem?_cons_succ, Nat.reduceLeDiff, Nat.zero_add, Nat.reduceSub, Nat.le_refl, ha]
  refine call_at (rplaced_ok (d := .sl b R z (intsV .i64 g.deps)) (g := g) (by omega)) ?_
  rintro v τ ⟨rfl, rfl⟩
  refine ⟨(Ext.refl _).kept, ?_⟩
  have hnp : (!nodeB g || !placeB g) = !(nodeB g && placeB g) := by cases nodeB g <;> rfl
  rw [hnp] at q2
  cases hp : nodeB g && placeB g <;> rw [hp] at q2
  case false =>
    simp -implicitDefEqProofs only [go_sem, Nat.reduceBEq, Nat.reduceAdd, eq_self, true_and, and_true, and_self, List.getElem?_cons_zero, List.getElem?_cons_succ, Nat.reduceLeDiff, Nat.zero_add, Nat.reduceSub, Nat.le_refl, Nat.lt_irrefl]
    refine q2 _ _ ?_
    simp -implicitDefEqProofs only [go_sem, Nat.reduceBEq, Nat.reduceAdd, eq_self, true_and, and_true, and_self, List.getElem?_cons_zero, List.getElem?_cons_succ, Nat.reduceLeDiff, Nat.zero_add, Nat.reduceSub, Nat.le_refl, cond_true, cond_false, Bool.true_or, Bool.false_or, Bool.or_true, Bool.or_false, Bool.and_true, Bool.and_false, Bool.true_and, Bool.false_and, Bool.or_self, Bool.and_self]
    first | exact ⟨⟨he, ho⟩, by simp⟩ | exact ⟨he, ho⟩
  simp only [Bool.or_self, Bool.not_true, Bool.not_false, cond_false, Bool.or_false, cond_true, Int.reduceEq, decide_true] at q2
  clear hnp hp ha hz hw h3 h3' h4 h5 h4' h5' h6 h64 hd hd1
  have e : ∀ n : Int, g.kind = n → decide (g.kind = 1) = decide (n = 1) ∧ decide (g.kind = 3) = decide (n = 3) ∧ decide (g.kind = 4) = decide (n = 4) ∧ decide (g.kind = 5) = decide (n = 5) ∧ decide (n = 1) = (n == 1) ∧ decide (n = 3) = (n == 3) := by
    rintro n rfl; exact ⟨rfl, rfl, rfl, rfl, by simp [BEq.beq], by simp [BEq.beq]⟩
  rcases (by omega : g.kind = 1 ∨ g.kind = 2 ∨ g.kind = 3 ∨ g.kind = 4 ∨ g.kind = 5) with k | k | k | k | k
  all_goals
    obtain ⟨e1, e3, e4, e5, -, -⟩ := e _ k
    simp only [Int.reduceEq, decide_true, decide_false] at e1 e3 e4 e5
    simp -implicitDefEqProofs only [go_sem, Nat.reduceBEq, Nat.reduceAdd, eq_self, true_and, and_true, and_self, List.getElem?_cons_zero, List.getElem?_cons_succ, Nat.reduceLeDiff, Nat.zero_add, Nat.reduceSub, Nat.le_refl, e1, e3, e4, e5]
    have q1 := q2
    repeat' first
      | (refine GW_c (fun h => ?_) (fun h => ?_) <;> (try simp only [Bool.not_eq_true', Bool.not_eq_false'] at h) <;> (try simp only [h]) <;> (try simp -implicitDefEqProofs only [go_sem, Nat.reduceBEq, Nat.reduceAdd, eq_self, true_and, and_true, and_self, List.getElem?_cons_zero, List.getElem?_cons_succ, Nat.reduceLeDiff, Nat.zero_add, Nat.reduceSub, Nat.le_refl, e1, e3, e4, e5]))
      | (refine CondW_b (fun h => ?_) (fun h => ?_) <;> (try simp only [Bool.not_eq_true', Bool.not_eq_false'] at h) <;> (try simp only [h]) <;> (try simp -implicitDefEqProofs only [go_sem, Nat.reduceBEq, Nat.reduceAdd, eq_self, true_and, and_true, and_self, List.getElem?_cons_zero, List.getElem?_cons_succ, Nat.reduceLeDiff, Nat.zero_add, Nat.reduceSub, Nat.le_refl, e1, e3, e4, e5]))
      | (refine call_at (rname_ok hlen) ?_; rintro v τ ⟨rfl, rfl⟩; refine ⟨by first | exact kept_none | exact (Ext.refl _).kept, ?_⟩; (try simp -implicitDefEqProofs only [go_sem, Nat.reduceBEq, Nat.reduceAdd, eq_self, true_and, and_true, and_self, List.getElem?_cons_zero, List.getElem?_cons_succ, Nat.reduceLeDiff, Nat.zero_add, Nat.reduceSub, Nat.le_refl, e1, e3, e4, e5]))
      | (refine cut_dup ?_; (try simp -implicitDefEqProofs only [go_sem, Nat.reduceBEq, Nat.reduceAdd, eq_self, true_and, and_true, and_self, List.getElem?_cons_zero, List.getElem?_cons_succ, Nat.reduceLeDiff, Nat.zero_add, Nat.reduceSub, Nat.le_refl, e1, e3, e4, e5]))
      | (refine q2 _ _ ?_; (try simp -implicitDefEqProofs only [go_sem, Nat.reduceBEq, Nat.reduceAdd, eq_self, true_and, and_true, and_self, List.getElem?_cons_zero, List.getElem?_cons_succ, Nat.reduceLeDiff, Nat.zero_add, Nat.reduceSub, Nat.le_refl, e1, e3, e4, e5]))
    all_goals (refine ⟨⟨he, ho⟩, ?_⟩; clear q1 q2 e he ho; first | (simp_all [wordsI, namedB, valuedB]; done) | grind [wordsI, namedB, valuedB])
end
end Go.VL.wire

namespace Go.VL.wire
open Go Go.VL Go.Proofs Go.IntWalk

theorem newS_rd {σ σ' : St} {v : V} {s : Nat} {es : List (List V)} (h : NewS σ σ' v s es) : RdS σ' v s es := by
  obtain ⟨r, rfl, h1, -⟩ := h
  exact ⟨_, _, _, rfl, by simp, .inr ⟨h1, rfl⟩⟩
def dirB (g : Cg) : List UInt8 :=
  encs [g.kind, g.ac, g.ar, g.seq, g.deps.length] ++ encs g.deps ++ ((bif decide (g.kind = 1) then [] else encs [g.nc, g.nr]) ++ ((bif decide (g.kind = 1) || decide (g.kind = 2) then encs [g.pc, g.pr, g.fc, g.fr] else []) ++
    ((bif decide (g.name = []) then [] else encTs [g.name]) ++ (bif decide (g.kind = 3) || decide (g.kind = 5) then encTs [g.val] else []))))
def putO (g : Cg) : List UInt8 := bif decide (chkI g = 0) then dirB g else []

section
variable {σ : St} {l : List Int} {b v d : V} {s : List UInt8} {g : Cg} {c r : Int}
theorem put_lit (hb : RdS σ b 1 (bytesV s)) (ns : List Int) (hn : ∀ n ∈ ns, I64 n) (hlen : s.length + 10 * ns.length ≤ 536870912) :
    CallA Try.prog 28 [b, .sl false (.own σ.live.length) 1 (intsV .i64 ns)] ⟨σ.objs, σ.live ++ [true]⟩ fun v σ' => Ext σ σ' ∧ σ'.objs = σ.objs ∧ RdS σ' v 1 (bytesV (s ++ encs ns)) :=
  (put_ok (hb.ext (ext_live σ true)) (lit_rd (l := [])) hn hlen).mono fun v σ' ⟨h1, h2, h3⟩ => ⟨(ext_live σ true).trans h1, h2, newS_rd h3⟩
theorem put_sl (hb : RdS σ b 1 (bytesV s)) (hv : RdS σ v 1 (intsV .i64 l)) (hn : ∀ n ∈ l, I64 n) (hlen : s.length + 10 * l.length ≤ 536870912) :
    CallA Try.prog 28 [b, v] σ fun v σ' => Ext σ σ' ∧ σ'.objs = σ.objs ∧ RdS σ' v 1 (bytesV (s ++ encs l)) :=
  (put_ok hb hv hn hlen).mono fun v σ' ⟨h1, h2, h3⟩ => ⟨h1, h2, newS_rd h3⟩
theorem putText_lit (hb : RdS σ b 1 (bytesV s)) (t : List UInt8) (hlen : s.length + t.length + 10 ≤ 268435456) :
    CallA Try.prog 29 [b, .sl false (.own σ.live.length) 1 [[.str t]]] ⟨σ.objs, σ.live ++ [true]⟩ fun v σ' => Ext σ σ' ∧ σ'.objs = σ.objs ∧ RdS σ' v 1 (bytesV (s ++ encTs [t])) :=
  (putText_ok (ts := [t]) (hb.ext (ext_live σ true)) (lit_rd (l := [])) (by simp [sizes]; omega)).mono fun v σ' ⟨h1, h2, h3⟩ => ⟨(ext_live σ true).trans h1, h2, newS_rd h3⟩
theorem rput (hb : RdS σ b 1 (bytesV s)) (n : Int) (hn : I64 n) (hlen : s.length ≤ 536870912) :
    CallA Try.prog 32 [b, .int .i64 n] σ fun v σ' => Ext σ σ' ∧ σ'.objs = σ.objs ∧ RdS σ' v 1 (bytesV (s ++ encs [n])) :=
  (refPut_ok hb hn hlen).mono fun v σ' ⟨h1, h2, h3⟩ => ⟨h1, h2, by simpa [encs] using newS_rd h3⟩
theorem rputText (hb : RdS σ b 1 (bytesV s)) (t : List UInt8) (hlen : s.length + t.length ≤ 268435456) :
    CallA Try.prog 34 [b, .str t] σ fun v σ' => Ext σ σ' ∧ σ'.objs = σ.objs ∧ RdS σ' v 1 (bytesV (s ++ encTs [t])) :=
  (refPutText_ok hb hlen).mono fun v σ' ⟨h1, h2, h3⟩ => ⟨h1, h2, by simpa [encTs] using newS_rd h3⟩
theorem encs_app (a b : List Int) : encs a ++ encs b = encs (a ++ b) := by simp [encs]
theorem encs_len' {l : List Int} (h : ∀ n ∈ l, I64 n) {k : Nat} (hk : l.length ≤ k) : (encs l).length ≤ 10 * k := by
  have := encs_len h
  omega
set_option maxRecDepth 100000 in
theorem rstamp_ok (hb : RdS σ b 1 (bytesV s)) (hc : I64 c) (hr : I64 r) (hlen : s.length ≤ 268435456) :
    CallA Try.prog 31 [b, stV c r] σ fun v σ' => Ext σ σ' ∧ σ'.objs = σ.objs ∧ RdS σ' v 1 (bytesV (s ++ encs [c, r])) := by
  refine fn_at Try.func31 (by decide) comp31 rfl fun Q q1 q2 => ?_
  simp -implicitDefEqProofs only [go_sem, Nat.reduceBEq, Nat.reduceAdd, eq_self, true_and, and_true, and_self, List.getElem?_cons_zero, List.getElem?_cons_succ, Nat.reduceLeDiff, Nat.zero_add, Nat.reduceSub, Nat.le_refl, c31, stV]
  refine call_at (rput hb c hc (by omega)) ?_
  rintro v τ ⟨h1, h2, h3⟩
  refine ⟨h1.kept, ?_⟩
  simp -implicitDefEqProofs only [go_sem, Nat.reduceBEq, Nat.reduceAdd, eq_self, true_and, and_true, and_self, List.getElem?_cons_zero, List.getElem?_cons_succ, Nat.reduceLeDiff, Nat.zero_add, Nat.reduceSub, Nat.le_refl, Nat.lt_irrefl]
  have := encs_len' (l := [c]) (k := 1) (by simpa using hc) (by simp)
  refine call_at (rput h3 r hr (by simp only [List.length_append]; omega)) ?_
  rintro v τ2 ⟨h4, h5, h6⟩
  refine ⟨h4.kept, ?_⟩
  simp -implicitDefEqProofs only [go_sem, Nat.reduceBEq, Nat.reduceAdd, eq_self, true_and, and_true, and_self, List.getElem?_cons_zero, List.getElem?_cons_succ, Nat.reduceLeDiff, Nat.zero_add, Nat.reduceSub, Nat.le_refl, Nat.lt_irrefl]
  refine q2 _ _ ?_
  simp -implicitDefEqProofs only [go_sem, Nat.reduceBEq, Nat.reduceAdd, eq_self, true_and, and_true, and_self, List.getElem?_cons_zero, List.getElem?_cons_succ, Nat.reduceLeDiff, Nat.zero_add, Nat.reduceSub, Nat.le_refl, Nat.lt_irrefl]
  exact ⟨h1.trans h4, h5.trans h2, by rw [List.append_assoc, encs_app] at h6; exact h6⟩
set_option maxRecDepth 100000 in
theorem rlist_ok (hb : RdS σ b 1 (bytesV s)) (hv : RdS σ v 1 (intsV .i64 l)) (hn : ∀ n ∈ l, I64 n) (hlen : s.length + 10 * l.length ≤ 134217728) :
    CallA Try.prog 33 [b, v] σ fun v σ' => Ext σ σ' ∧ σ'.objs = σ.objs ∧ RdS σ' v 1 (bytesV (s ++ encs (l.length :: l))) := by
  obtain ⟨bb, R, z, rfl, -, -⟩ := id hv
  refine fn_at Try.func33 (by decide) comp33 rfl fun Q q1 q2 => ?_
  have hl := intsV_len l
  simp -implicitDefEqProofs only [go_sem, Nat.reduceBEq, Nat.reduceAdd, eq_self, true_and, and_true, and_self, List.getElem?_cons_zero, List.getElem?_cons_succ, Nat.reduceLeDiff, Nat.zero_add, Nat.reduceSub, Nat.le_refl, c33, hl]
  refine call_at (rput hb l.length ⟨by omega, by omega⟩ (by omega)) ?_
  rintro v τ ⟨h1, h2, h3⟩
  refine ⟨kept_none, ?_⟩
  simp -implicitDefEqProofs only [go_sem, Nat.reduceBEq, Nat.reduceAdd, eq_self, true_and, and_true, and_self, List.getElem?_cons_zero, List.getElem?_cons_succ, Nat.reduceLeDiff, Nat.zero_add, Nat.reduceSub, Nat.le_refl, Nat.lt_irrefl]
  refine loop_at (fun (x : Nat × V) => ⟨[(1, .v (.sl bb R z (intsV .i64 l))), (5, .v x.2), (6, .v (.int .i64 x.1))], []⟩)
    (fun x τ => x.1 ≤ l.length ∧ Ext σ τ ∧ τ.objs = σ.objs ∧ RdS τ x.2 1 (bytesV (s ++ encs (l.length :: l.take x.1)))) (fun x => l.length - x.1) (0, v) ?_ ?_ ?_
  · exact .inr (by simp -implicitDefEqProofs only [go_sem, Nat.reduceBEq, Nat.reduceAdd, eq_self, true_and, and_true, and_self, List.getElem?_cons_zero, List.getElem?_cons_succ, Nat.reduceLeDiff, Nat.zero_add, Nat.reduceSub, Nat.le_refl, Nat.lt_irrefl]; trivial)
  · exact ⟨Nat.zero_le _, h1, h2, by simpa using h3⟩
  clear h1 h2 h3
  rintro ⟨i, w⟩ τ1 ⟨g1, g2, g3, g4⟩ Z z1 z2 z3
  simp only at g1 g4
  simp -implicitDefEqProofs only [go_sem, Nat.reduceBEq, Nat.reduceAdd, eq_self, true_and, and_true, and_self, List.getElem?_cons_zero, List.getElem?_cons_succ, Nat.reduceLeDiff, Nat.zero_add, Nat.reduceSub, Nat.le_refl, hl]
  refine CondW_b (fun hc => ?_) (fun hc => ?_)
  · have hi : i < l.length := by simpa using hc
    have hget := intsV_get hi
    obtain ⟨k1, k2⟩ := rdl (hv.ext g2) (intsV_ne hi)
    have htk : l.take (i + 1) = l.take i ++ [l[i]] := List.take_succ_eq_append_getElem hi
    have hx := hn _ (List.getElem_mem hi)
    generalize l[i] = x at hget htk hx
    have hll := encs_len' (l := l.length :: l.take i) (k := l.length + 1) (by
      intro n hm
      rcases List.mem_cons.1 hm with rfl | hm
      · exact ⟨by omega, by omega⟩
      · exact hn n (List.mem_of_mem_take hm)) (by simp; omega)
    simp -implicitDefEqProofs only [go_sem, Nat.reduceBEq, Nat.reduceAdd, eq_self, true_and, and_true, and_self, List.getElem?_cons_zero, List.getElem?_cons_succ, Nat.reduceLeDiff, Nat.zero_add, Nat.reduceSub, Nat.le_refl, hget]
    rw [hl]
    refine ⟨⟨by omega, by omega, k2⟩, k1, call_at (rput g4 x hx (by simp only [List.length_append]; omega)) ?_⟩
    rintro v τ2 ⟨h4, h5, h6⟩
    refine ⟨kept_none, ?_⟩
    simp -implicitDefEqProofs only [go_sem, Nat.reduceBEq, Nat.reduceAdd, eq_self, true_and, and_true, and_self, List.getElem?_cons_zero, List.getElem?_cons_succ, Nat.reduceLeDiff, Nat.zero_add, Nat.reduceSub, Nat.le_refl, Nat.lt_irrefl]
    refine z1 (i + 1, v) _ _ (.inr ?_) (by simp only; omega) ⟨by simp only; omega, g2.trans h4, h5.trans g3, ?_⟩
    · simp -implicitDefEqProofs only [go_sem, Nat.reduceBEq, Nat.reduceAdd, eq_self, true_and, and_true, and_self, List.getElem?_cons_zero, List.getElem?_cons_succ, Nat.reduceLeDiff, Nat.zero_add, Nat.reduceSub, Nat.le_refl, Nat.lt_irrefl]
      rw [i64_in _ (by omega)]; simp
    · simp only
      rw [htk]
      rw [List.append_assoc, encs_app] at h6
      exact h6
  · have hi : ¬ i < l.length := by simpa using hc
    rw [List.take_of_length_le (by omega)] at g4
    simp -implicitDefEqProofs only [go_sem, Nat.reduceBEq, Nat.reduceAdd, eq_self, true_and, and_true, and_self, List.getElem?_cons_zero, List.getElem?_cons_succ, Nat.reduceLeDiff, Nat.zero_add, Nat.reduceSub, Nat.le_refl, Nat.lt_irrefl]
    refine z2 _ _ _ ?_
    simp -implicitDefEqProofs only [go_sem, Nat.reduceBEq, Nat.reduceAdd, eq_self, true_and, and_true, and_self, List.getElem?_cons_zero, List.getElem?_cons_succ, Nat.reduceLeDiff, Nat.zero_add, Nat.reduceSub, Nat.le_refl, Nat.lt_irrefl]
    refine q2 _ _ ?_
    simp -implicitDefEqProofs only [go_sem, Nat.reduceBEq, Nat.reduceAdd, eq_self, true_and, and_true, and_self, List.getElem?_cons_zero, List.getElem?_cons_succ, Nat.reduceLeDiff, Nat.zero_add, Nat.reduceSub, Nat.le_refl, Nat.lt_irrefl]
    exact ⟨g2, g3, g4⟩
end
end Go.VL.wire

namespace Go.VL.wire
open Go Go.VL Go.Proofs Go.IntWalk

/-- A right change. -/
structure Ok (g : Cg) : Prop where
  k1 : 1 ≤ g.kind
  k5 : g.kind ≤ 5
  at_ : right g.ac g.ar = true
  s1 : 1 ≤ g.seq
  s2 : g.seq ≤ g.ac
  clk : clockI g.deps = 0
  last : lastZ g.deps = false
  own : atD g.deps g.ar = g.seq - 1
  node : nodeB g = true
  place : placeB g = true
  nm1 : namedB g = true → nameB g.name = true
  nm2 : namedB g = false → g.name = []
  v1 : g.val.length ≤ 256
  v2 : valuedB g = false → g.val = []
theorem bif_zero {c : Bool} {a b : Int} (h : (bif c then a else b) = 0) (ha : a ≠ 0) : c = false ∧ b = 0 := by cases c <;> simp_all
theorem ok_iff {g : Cg} : chkI g = 0 ↔ Ok g := by
  constructor
  · intro h
    unfold chkI at h
    obtain ⟨h1, h⟩ := bif_zero h (by decide)
    obtain ⟨h2, h⟩ := bif_zero h (by decide)
    obtain ⟨h3, h⟩ := bif_zero h (by decide)
    have h4 : depsI g = 0 := by
      cases hd : decide (depsI g = 0) with
      | true => exact of_decide_eq_true hd
      | false => rw [hd] at h; simpa using h
    rw [h4] at h
    simp only [decide_true, Bool.not_true, cond_false] at h
    obtain ⟨h5, h⟩ := bif_zero h (by decide)
    unfold wordsI at h
    obtain ⟨h6, h⟩ := bif_zero h (by decide)
    obtain ⟨h7, h⟩ := bif_zero h (by decide)
    obtain ⟨h8, -⟩ := bif_zero h (by decide)
    unfold depsI at h4
    have h9 : clockI g.deps = 0 := by
      cases hd : decide (clockI g.deps = 0) with
      | true => exact of_decide_eq_true hd
      | false => rw [hd] at h4; simpa using h4
    rw [h9] at h4
    simp only [decide_true, Bool.not_true, cond_false] at h4
    obtain ⟨h10, -⟩ := bif_zero h4 (by decide)
    simp only [Bool.or_eq_false_iff, Bool.not_eq_false', decide_eq_false_iff_not, decide_eq_true_eq, Bool.and_eq_false_iff] at h1 h2 h3 h5 h7 h8 h10
    refine ⟨by omega, by omega, h2, by omega, by omega, h9, h10.1, h10.2, h5.1, h5.2, fun e => ?_, fun e => ?_, by omega, fun e => ?_⟩
    · rw [e] at h6; simpa using h6
    · rw [e] at h6; simpa using h6
    · rcases h8 with h8 | h8
      · rw [e] at h8; simp at h8
      · exact h8
  · intro h
    have d1 : decide (g.kind < 1) = false := by have := h.k1; simp; omega
    have d2 : decide (5 < g.kind) = false := by have := h.k5; simp; omega
    have d3 : decide (g.seq < 1) = false := by have := h.s1; simp; omega
    have d4 : decide (g.ac < g.seq) = false := by have := h.s2; simp; omega
    have d5 : decide ((256 : Int) < g.val.length) = false := by have := h.v1; simp; omega
    have d6 : depsI g = 0 := by unfold depsI; rw [h.clk, h.last, h.own]; simp
    have d7 : wordsI g = 0 := by
      unfold wordsI
      rw [d5]
      cases hn : namedB g <;> cases hv : valuedB g
      · simp [h.nm2 hn, h.v2 hv]
      · simp [h.nm2 hn]
      · simp [h.nm1 hn, h.v2 hv]
      · simp [h.nm1 hn]
    unfold chkI
    rw [d1, d2, h.at_, d3, d4, d6, h.node, h.place, d7]; rfl
theorem Ok.deps64 {g : Cg} (h : Ok g) : g.deps.length ≤ 64 := by
  have := h.clk
  unfold clockI at this
  cases h : decide ((64 : Int) < g.deps.length) with
  | true => rw [h] at this; simp at this
  | false => have := of_decide_eq_false h; omega
theorem nameB_len {s : List UInt8} (h : nameB s = true) : 0 < s.length ∧ s.length ≤ 32 := by
  cases s with
  | nil => simp [nameB] at h
  | cons c r =>
    simp only [nameB, Bool.and_eq_true, decide_eq_true_eq] at h
    exact ⟨by simp, by omega⟩
theorem Ok.name32 {g : Cg} (h : Ok g) : g.name.length ≤ 32 := by
  cases hn : namedB g with
  | true => exact (nameB_len (h.nm1 hn)).2
  | false => rw [h.nm2 hn]; simp
/-- All its numbers are numbers. -/
structure CgI (g : Cg) : Prop where
  kind : I64 g.kind
  ac : I64 g.ac
  ar : I64 g.ar
  seq : I64 g.seq
  deps : ∀ n ∈ g.deps, I64 n
  nc : I64 g.nc
  nr : I64 g.nr
  pc : I64 g.pc
  pr : I64 g.pr
  fc : I64 g.fc
  fr : I64 g.fr

section
variable {σ : St} {d : V} {g : Cg}
set_option maxRecDepth 100000 in
set_option maxHeartbeats 4000000 in
theorem wput_ok (hd : RdS σ d 1 (intsV .i64 g.deps)) (hI : CgI g) (hlen : g.name.length < 4611686018427387904) :
    CallA Try.prog 11 [cgV d g] σ fun w σ' => Ext σ σ' ∧ σ'.objs = σ.objs ∧ ∃ x, w = .tup [x, .int .i64 (chkI g)] ∧ RdS σ' x 1 (bytesV (putO g)) := by
  obtain ⟨db, dR, dz, rfl, -, -⟩ := id hd
  refine fn_at Try.func11 (by decide) comp11 rfl fun Q q1 q2 => ?_
  clear q1
  simp -implicitDefEqProofs only [go_sem, Nat.reduceBEq, Nat.reduceAdd, eq_self, true_and, and_true, and_self, List.getElem?_cons_zero, List.getElem?_cons_succ, Nat.reduceLeDiff, Nat.zero_add, Nat.reduceSub, Nat.le_refl, c11, cgV, cgC]
  refine call_at (chk_ok (d := .sl db dR dz (intsV .i64 g.deps)) (g := g) hd hlen) ?_
  rintro v τ ⟨rfl, rfl⟩
  refine ⟨kept_none, ?_⟩
  unfold putO at q2
  cases hc : decide (chkI g = 0) <;> rw [hc] at q2
  case false =>
    simp -implicitDefEqProofs only [go_sem, Nat.reduceBEq, Nat.reduceAdd, eq_self, true_and, and_true, and_self, List.getElem?_cons_zero, List.getElem?_cons_succ, Nat.reduceLeDiff, Nat.zero_add, Nat.reduceSub, Nat.le_refl, hc]
    refine q2 _ _ ?_
    simp -implicitDefEqProofs only [go_sem, Nat.reduceBEq, Nat.reduceAdd, eq_self, true_and, and_true, and_self, List.getElem?_cons_zero, List.getElem?_cons_succ, Nat.reduceLeDiff, Nat.zero_add, Nat.reduceSub, Nat.le_refl, Nat.lt_irrefl]
    exact ⟨Ext.refl _, _, rfl, true, .pub, 1, rfl, by simp [bytesV], .inl rfl⟩
  have hz := of_decide_eq_true hc
  have ok := ok_iff.1 hz
  rw [hz] at q2
  simp only [cond_true] at q2
  have hl := intsV_len g.deps
  have h64 := ok.deps64
  have e : ∀ n : Int, g.kind = n → decide (g.kind = 1) = decide (n = 1) ∧ decide (g.kind = 2) = decide (n = 2) ∧ decide (g.kind = 3) = decide (n = 3) ∧ decide (g.kind = 5) = decide (n = 5) := by
    rintro n rfl; exact ⟨rfl, rfl, rfl, rfl⟩
  have hk1 := ok.k1
  have hk5 := ok.k5
  have hn32 := ok.name32
  have hv256 := ok.v1
  simp -implicitDefEqProofs only [go_sem, Nat.reduceBEq, Nat.reduceAdd, eq_self, true_and, and_true, and_self, List.getElem?_cons_zero, List.getElem?_cons_succ, Nat.reduceLeDiff, Nat.zero_add, Nat.reduceSub, Nat.le_refl, hc, hl]
  refine call_at (put_lit (b := .sl true .pub 0 []) (s := []) ⟨true, .pub, 0, rfl, by simp [bytesV], .inl rfl⟩ [g.kind, g.ac, g.ar, g.seq, g.deps.length] (by
    intro n hn
    simp only [List.mem_cons, List.not_mem_nil, or_false] at hn
    rcases hn with rfl | rfl | rfl | rfl | rfl
    · exact hI.kind
    · exact hI.ac
    · exact hI.ar
    · exact hI.seq
    · exact ⟨by omega, by omega⟩) (by simp)) ?_
  rintro v1 τ1 ⟨p1, p2, p3⟩
  refine ⟨kept_none, ?_⟩
  have hs1 : (([] : List UInt8) ++ encs [g.kind, g.ac, g.ar, g.seq, g.deps.length]).length ≤ 50 := by
    have := encs_len' (l := [g.kind, g.ac, g.ar, g.seq, (g.deps.length : Int)]) (k := 5) (by
      intro n hn
      simp only [List.mem_cons, List.not_mem_nil, or_false] at hn
      rcases hn with rfl | rfl | rfl | rfl | rfl
      · exact hI.kind
      · exact hI.ac
      · exact hI.ar
      · exact hI.seq
      · exact ⟨by omega, by omega⟩) (by simp)
    simpa using this
  simp -implicitDefEqProofs only [go_sem, Nat.reduceBEq, Nat.reduceAdd, eq_self, true_and, and_true, and_self, List.getElem?_cons_zero, List.getElem?_cons_succ, Nat.reduceLeDiff, Nat.zero_add, Nat.reduceSub, Nat.le_refl, Nat.lt_irrefl]
  refine call_at (put_sl p3 (hd.ext p1) hI.deps (by omega)) ?_
  rintro v2 τ2 ⟨p4, p5, p6⟩
  refine ⟨kept_none, ?_⟩
  have hs2 : (([] : List UInt8) ++ encs [g.kind, g.ac, g.ar, g.seq, g.deps.length] ++ encs g.deps).length ≤ 1000 := by
    have := encs_len' hI.deps (k := 64) h64
    rw [List.length_append]; omega
  have q3 : ∀ σ' x, Ext τ2 σ' → σ'.objs = τ2.objs → RdS σ' x 1 (bytesV (dirB g)) → Q .ret ⟨[(2, .v x), (3, .v (.int .i64 0))], []⟩ σ' → True := fun _ _ _ _ _ _ => trivial
  have hdir : dirB g = ([] : List UInt8) ++ encs [g.kind, g.ac, g.ar, g.seq, g.deps.length] ++ encs g.deps ++ ((bif decide (g.kind = 1) then [] else encs [g.nc, g.nr]) ++ ((bif decide (g.kind = 1) || decide (g.kind = 2) then encs [g.pc, g.pr, g.fc, g.fr] else []) ++
    ((bif decide (g.name = []) then [] else encTs [g.name]) ++ (bif decide (g.kind = 3) || decide (g.kind = 5) then encTs [g.val] else [])))) := by
    unfold dirB; simp
  rw [hdir] at q2
  have p7 := p1.trans p4
  have p8 := p5.trans p2
  generalize ([] : List UInt8) ++ encs [g.kind, g.ac, g.ar, g.seq, g.deps.length] ++ encs g.deps = s at p6 hs2 q2
  clear hdir q3 p1 p2 p3 p4 p5 hs1
  have hnn : ∀ {a b : Int}, I64 a → I64 b → ∀ n ∈ [a, b], I64 n := fun ha hb n hn => by
    simp only [List.mem_cons, List.not_mem_nil, or_false] at hn
    rcases hn with rfl | rfl
    · exact ha
    · exact hb
  have hnn4 : ∀ n ∈ [g.pc, g.pr, g.fc, g.fr], I64 n := fun n hn => by
    simp only [List.mem_cons, List.not_mem_nil, or_false] at hn
    rcases hn with rfl | rfl | rfl | rfl
    · exact hI.pc
    · exact hI.pr
    · exact hI.fc
    · exact hI.fr
  -- the pieces, one by one
  refine cut_at (fun G τ3 => ∃ s3 v3, G = ⟨[(1, .loc 1 0), (5, .v v3)], [(1, cgC (.sl db dR dz (intsV .i64 g.deps)) g)]⟩ ∧ Ext τ τ3 ∧ τ3.objs = τ.objs ∧ RdS τ3 v3 1 (bytesV s3) ∧ s3 = s ++ (bif decide (g.kind = 1) then [] else encs [g.nc, g.nr]) ∧ s3.length ≤ 2000) ?_ ?_
  · intro Z z1 z2 z3
    simp -implicitDefEqProofs only [go_sem, Nat.reduceBEq, Nat.reduceAdd, eq_self, true_and, and_true, and_self, List.getElem?_cons_zero, List.getElem?_cons_succ, Nat.reduceLeDiff, Nat.zero_add, Nat.reduceSub, Nat.le_refl, Nat.lt_irrefl]
    cases hk : decide (g.kind = 1) <;> rw [hk] at z1
    · simp -implicitDefEqProofs only [go_sem, Nat.reduceBEq, Nat.reduceAdd, eq_self, true_and, and_true, and_self, List.getElem?_cons_zero, List.getElem?_cons_succ, Nat.reduceLeDiff, Nat.zero_add, Nat.reduceSub, Nat.le_refl, hk]
      refine call_at (put_lit p6 [g.nc, g.nr] (hnn hI.nc hI.nr) (by simp; omega)) ?_
      rintro v3 τ3 ⟨a1, a2, a3⟩
      refine ⟨kept_none, ?_⟩
      simp -implicitDefEqProofs only [go_sem, Nat.reduceBEq, Nat.reduceAdd, eq_self, true_and, and_true, and_self, List.getElem?_cons_zero, List.getElem?_cons_succ, Nat.reduceLeDiff, Nat.zero_add, Nat.reduceSub, Nat.le_refl, Nat.lt_irrefl]
      have := encs_len' (hnn hI.nc hI.nr) (k := 2) (by simp)
      refine z1 _ _ _ (.inr ?_) ⟨_, v3, rfl, p7.trans a1, a2.trans p8, a3, rfl, by rw [List.length_append]; omega⟩
      simp -implicitDefEqProofs only [go_sem, Nat.reduceBEq, Nat.reduceAdd, eq_self, true_and, and_true, and_self, List.getElem?_cons_zero, List.getElem?_cons_succ, Nat.reduceLeDiff, Nat.zero_add, Nat.reduceSub, Nat.le_refl, cgC]
    · simp -implicitDefEqProofs only [go_sem, Nat.reduceBEq, Nat.reduceAdd, eq_self, true_and, and_true, and_self, List.getElem?_cons_zero, List.getElem?_cons_succ, Nat.reduceLeDiff, Nat.zero_add, Nat.reduceSub, Nat.le_refl, hk]
      refine z1 _ _ _ (.inr ?_) ⟨s, v2, rfl, p7, p8, p6, by simp, by omega⟩
      simp -implicitDefEqProofs only [go_sem, Nat.reduceBEq, Nat.reduceAdd, eq_self, true_and, and_true, and_self, List.getElem?_cons_zero, List.getElem?_cons_succ, Nat.reduceLeDiff, Nat.zero_add, Nat.reduceSub, Nat.le_refl, cgC]
  rintro G τ3 ⟨s3, v3, rfl, p7, p8, p6, hs3, hs2⟩
  rw [← List.append_assoc, ← hs3] at q2
  clear hs3
  refine cut_at (fun G τ3 => ∃ s3' v3, G = ⟨[(1, .loc 1 0), (5, .v v3)], [(1, cgC (.sl db dR dz (intsV .i64 g.deps)) g)]⟩ ∧ Ext τ τ3 ∧ τ3.objs = τ.objs ∧ RdS τ3 v3 1 (bytesV s3') ∧ s3' = s3 ++ (bif decide (g.kind = 1) || decide (g.kind = 2) then encs [g.pc, g.pr, g.fc, g.fr] else []) ∧ s3'.length ≤ 3000) ?_ ?_
  · intro Z z1 z2 z3
    have main : ∀ {b : Bool}, (bif b then encs [g.pc, g.pr, g.fc, g.fr] else []).length ≤ 40 := fun {b} => by
      cases b
      · simp
      · exact encs_len' hnn4 (k := 4) (by simp)
    simp -implicitDefEqProofs only [go_sem, Nat.reduceBEq, Nat.reduceAdd, eq_self, true_and, and_true, and_self, List.getElem?_cons_zero, List.getElem?_cons_succ, Nat.reduceLeDiff, Nat.zero_add, Nat.reduceSub, Nat.le_refl, cgC]
    cases hk : decide (g.kind = 1) <;> rw [hk] at z1
    case' false =>
      simp -implicitDefEqProofs only [go_sem, Nat.reduceBEq, Nat.reduceAdd, eq_self, true_and, and_true, and_self, List.getElem?_cons_zero, List.getElem?_cons_succ, Nat.reduceLeDiff, Nat.zero_add, Nat.reduceSub, Nat.le_refl, hk]
      cases hk2 : decide (g.kind = 2) <;> rw [hk2] at z1
      case false =>
        simp -implicitDefEqProofs only [go_sem, Nat.reduceBEq, Nat.reduceAdd, eq_self, true_and, and_true, and_self, List.getElem?_cons_zero, List.getElem?_cons_succ, Nat.reduceLeDiff, Nat.zero_add, Nat.reduceSub, Nat.le_refl, hk2]
        refine z1 _ _ _ (.inr ?_) ⟨s3, v3, rfl, p7, p8, p6, by simp, by omega⟩
        simp -implicitDefEqProofs only [go_sem, Nat.reduceBEq, Nat.reduceAdd, eq_self, true_and, and_true, and_self, List.getElem?_cons_zero, List.getElem?_cons_succ, Nat.reduceLeDiff, Nat.zero_add, Nat.reduceSub, Nat.le_refl, cgC]
      simp -implicitDefEqProofs only [go_sem, Nat.reduceBEq, Nat.reduceAdd, eq_self, true_and, and_true, and_self, List.getElem?_cons_zero, List.getElem?_cons_succ, Nat.reduceLeDiff, Nat.zero_add, Nat.reduceSub, Nat.le_refl, hk2]
    case' true =>
      simp -implicitDefEqProofs only [go_sem, Nat.reduceBEq, Nat.reduceAdd, eq_self, true_and, and_true, and_self, List.getElem?_cons_zero, List.getElem?_cons_succ, Nat.reduceLeDiff, Nat.zero_add, Nat.reduceSub, Nat.le_refl, hk]
    all_goals
      refine call_at (put_lit p6 [g.pc, g.pr, g.fc, g.fr] hnn4 (by simp; omega)) ?_
      rintro v4 τ4 ⟨a1, a2, a3⟩
      refine ⟨kept_none, ?_⟩
      simp -implicitDefEqProofs only [go_sem, Nat.reduceBEq, Nat.reduceAdd, eq_self, true_and, and_true, and_self, List.getElem?_cons_zero, List.getElem?_cons_succ, Nat.reduceLeDiff, Nat.zero_add, Nat.reduceSub, Nat.le_refl, Nat.lt_irrefl]
      have := encs_len' hnn4 (k := 4) (by simp)
      refine z1 _ _ _ (.inr ?_) ⟨_, v4, rfl, p7.trans a1, a2.trans p8, a3, rfl, by rw [List.length_append]; omega⟩
      simp -implicitDefEqProofs only [go_sem, Nat.reduceBEq, Nat.reduceAdd, eq_self, true_and, and_true, and_self, List.getElem?_cons_zero, List.getElem?_cons_succ, Nat.reduceLeDiff, Nat.zero_add, Nat.reduceSub, Nat.le_refl, cgC]
  rintro G τ3 ⟨s4, v4, rfl, p7, p8, p6, hs3, hs2⟩
  rw [← List.append_assoc, ← hs3] at q2
  clear hs3
  refine cut_at (fun G τ3 => ∃ s3' v3, G = ⟨[(1, .loc 1 0), (5, .v v3)], [(1, cgC (.sl db dR dz (intsV .i64 g.deps)) g)]⟩ ∧ Ext τ τ3 ∧ τ3.objs = τ.objs ∧ RdS τ3 v3 1 (bytesV s3') ∧ s3' = s4 ++ (bif decide (g.name = []) then [] else encTs [g.name]) ∧ s3'.length ≤ 4000) ?_ ?_
  · intro Z z1 z2 z3
    simp -implicitDefEqProofs only [go_sem, Nat.reduceBEq, Nat.reduceAdd, eq_self, true_and, and_true, and_self, List.getElem?_cons_zero, List.getElem?_cons_succ, Nat.reduceLeDiff, Nat.zero_add, Nat.reduceSub, Nat.le_refl, cgC]
    cases hk : decide (g.name = []) <;> rw [hk] at z1
    · simp -implicitDefEqProofs only [go_sem, Nat.reduceBEq, Nat.reduceAdd, eq_self, true_and, and_true, and_self, List.getElem?_cons_zero, List.getElem?_cons_succ, Nat.reduceLeDiff, Nat.zero_add, Nat.reduceSub, Nat.le_refl, hk]
      refine call_at (putText_lit p6 g.name (by omega)) ?_
      rintro v5 τ5 ⟨a1, a2, a3⟩
      refine ⟨kept_none, ?_⟩
      simp -implicitDefEqProofs only [go_sem, Nat.reduceBEq, Nat.reduceAdd, eq_self, true_and, and_true, and_self, List.getElem?_cons_zero, List.getElem?_cons_succ, Nat.reduceLeDiff, Nat.zero_add, Nat.reduceSub, Nat.le_refl, Nat.lt_irrefl]
      have := encTs_len [g.name] (by simp [sizes]; omega)
      simp only [sizes, List.map_cons, List.map_nil, List.sum_cons, List.sum_nil] at this
      refine z1 _ _ _ (.inr ?_) ⟨_, v5, rfl, p7.trans a1, a2.trans p8, a3, rfl, by rw [List.length_append]; omega⟩
      simp -implicitDefEqProofs only [go_sem, Nat.reduceBEq, Nat.reduceAdd, eq_self, true_and, and_true, and_self, List.getElem?_cons_zero, List.getElem?_cons_succ, Nat.reduceLeDiff, Nat.zero_add, Nat.reduceSub, Nat.le_refl, cgC]
    · simp -implicitDefEqProofs only [go_sem, Nat.reduceBEq, Nat.reduceAdd, eq_self, true_and, and_true, and_self, List.getElem?_cons_zero, List.getElem?_cons_succ, Nat.reduceLeDiff, Nat.zero_add, Nat.reduceSub, Nat.le_refl, hk]
      refine z1 _ _ _ (.inr ?_) ⟨s4, v4, rfl, p7, p8, p6, by simp, by omega⟩
      simp -implicitDefEqProofs only [go_sem, Nat.reduceBEq, Nat.reduceAdd, eq_self, true_and, and_true, and_self, List.getElem?_cons_zero, List.getElem?_cons_succ, Nat.reduceLeDiff, Nat.zero_add, Nat.reduceSub, Nat.le_refl, cgC]
  rintro G τ3 ⟨s5, v5, rfl, p7, p8, p6, hs3, hs2⟩
  rw [← List.append_assoc, ← hs3] at q2
  clear hs3
  refine cut_at (fun G τ3 => ∃ s3' v3, G = ⟨[(5, .v v3)], []⟩ ∧ Ext τ τ3 ∧ τ3.objs = τ.objs ∧ RdS τ3 v3 1 (bytesV s3') ∧ s3' = s5 ++ (bif decide (g.kind = 3) || decide (g.kind = 5) then encTs [g.val] else [])) ?_ ?_
  · intro Z z1 z2 z3
    simp -implicitDefEqProofs only [go_sem, Nat.reduceBEq, Nat.reduceAdd, eq_self, true_and, and_true, and_self, List.getElem?_cons_zero, List.getElem?_cons_succ, Nat.reduceLeDiff, Nat.zero_add, Nat.reduceSub, Nat.le_refl, cgC]
    cases hk : decide (g.kind = 3) <;> rw [hk] at z1
    case' false =>
      simp -implicitDefEqProofs only [go_sem, Nat.reduceBEq, Nat.reduceAdd, eq_self, true_and, and_true, and_self, List.getElem?_cons_zero, List.getElem?_cons_succ, Nat.reduceLeDiff, Nat.zero_add, Nat.reduceSub, Nat.le_refl, hk]
      cases hk2 : decide (g.kind = 5) <;> rw [hk2] at z1
      case false =>
        simp -implicitDefEqProofs only [go_sem, Nat.reduceBEq, Nat.reduceAdd, eq_self, true_and, and_true, and_self, List.getElem?_cons_zero, List.getElem?_cons_succ, Nat.reduceLeDiff, Nat.zero_add, Nat.reduceSub, Nat.le_refl, hk2]
        refine z1 _ _ _ (.inr ?_) ⟨s5, v5, rfl, p7, p8, p6, by simp⟩
        simp -implicitDefEqProofs only [go_sem, Nat.reduceBEq, Nat.reduceAdd, eq_self, true_and, and_true, and_self, List.getElem?_cons_zero, List.getElem?_cons_succ, Nat.reduceLeDiff, Nat.zero_add, Nat.reduceSub, Nat.le_refl, Nat.lt_irrefl]
      simp -implicitDefEqProofs only [go_sem, Nat.reduceBEq, Nat.reduceAdd, eq_self, true_and, and_true, and_self, List.getElem?_cons_zero, List.getElem?_cons_succ, Nat.reduceLeDiff, Nat.zero_add, Nat.reduceSub, Nat.le_refl, hk2]
    case' true =>
      simp -implicitDefEqProofs only [go_sem, Nat.reduceBEq, Nat.reduceAdd, eq_self, true_and, and_true, and_self, List.getElem?_cons_zero, List.getElem?_cons_succ, Nat.reduceLeDiff, Nat.zero_add, Nat.reduceSub, Nat.le_refl, hk]
    all_goals
      refine call_at (putText_lit p6 g.val (by omega)) ?_
      rintro v6 τ6 ⟨a1, a2, a3⟩
      refine ⟨kept_none, ?_⟩
      simp -implicitDefEqProofs only [go_sem, Nat.reduceBEq, Nat.reduceAdd, eq_self, true_and, and_true, and_self, List.getElem?_cons_zero, List.getElem?_cons_succ, Nat.reduceLeDiff, Nat.zero_add, Nat.reduceSub, Nat.le_refl, Nat.lt_irrefl]
      refine z1 _ _ _ (.inr ?_) ⟨_, v6, rfl, p7.trans a1, a2.trans p8, a3, rfl⟩
      simp -implicitDefEqProofs only [go_sem, Nat.reduceBEq, Nat.reduceAdd, eq_self, true_and, and_true, and_self, List.getElem?_cons_zero, List.getElem?_cons_succ, Nat.reduceLeDiff, Nat.zero_add, Nat.reduceSub, Nat.le_refl, Nat.lt_irrefl]
  rintro G τ3 ⟨s6, v6, rfl, p7, p8, p6, hs3⟩
  rw [← hs3] at q2
  simp -implicitDefEqProofs only [go_sem, Nat.reduceBEq, Nat.reduceAdd, eq_self, true_and, and_true, and_self, List.getElem?_cons_zero, List.getElem?_cons_succ, Nat.reduceLeDiff, Nat.zero_add, Nat.reduceSub, Nat.le_refl, Nat.lt_irrefl]
  refine q2 _ _ ?_
  simp -implicitDefEqProofs only [go_sem, Nat.reduceBEq, Nat.reduceAdd, eq_self, true_and, and_true, and_self, List.getElem?_cons_zero, List.getElem?_cons_succ, Nat.reduceLeDiff, Nat.zero_add, Nat.reduceSub, Nat.le_refl, Nat.lt_irrefl]
  exact ⟨p7, p8, v6, rfl, p6⟩
end
end Go.VL.wire

namespace Go.VL.wire
open Go Go.VL Go.Proofs Go.IntWalk

section
variable {σ : St} {d : V} {g : Cg}
theorem encs_pair (a b : Int) : (encs [a, b]).length = (enc a.toNat).length + (enc b.toNat).length := by simp [encs]
theorem pair_le {a b : Int} (ha : I64 a) (hb : I64 b) : (encs [a, b]).length ≤ 20 := encs_len' (l := [a, b]) (k := 2) (by
  intro n hn
  simp only [List.mem_cons, List.not_mem_nil, or_false] at hn
  rcases hn with rfl | rfl
  · exact ha
  · exact hb) (by simp)
theorem encT_le {t : List UInt8} (h : t.length ≤ 1000000) : (encTs [t]).length ≤ t.length + 10 := by
  have := encTs_len [t] (by simp [sizes]; omega)
  simpa [sizes] using this
set_option maxRecDepth 100000 in
set_option maxHeartbeats 4000000 in
theorem rput_ok (hd : RdS σ d 1 (intsV .i64 g.deps)) (hI : CgI g) (hlen : g.name.length < 4611686018427387904) :
    CallA Try.prog 13 [cgV d g] σ fun w σ' => Ext σ σ' ∧ σ'.objs = σ.objs ∧ ∃ x, w = .tup [x, .int .i64 (chkI g)] ∧ RdS σ' x 1 (bytesV (putO g)) := by
  obtain ⟨db, dR, dz, rfl, -, -⟩ := id hd
  refine fn_at Try.func13 (by decide) comp13 rfl fun Q q1 q2 => ?_
  clear q1
  simp -implicitDefEqProofs only [go_sem, Nat.reduceBEq, Nat.reduceAdd, eq_self, true_and, and_true, and_self, List.getElem?_cons_zero, List.getElem?_cons_succ, Nat.reduceLeDiff, Nat.zero_add, Nat.reduceSub, Nat.le_refl, c13, cgV, cgC]
  refine call_at (rchk_ok (d := .sl db dR dz (intsV .i64 g.deps)) (g := g) hd hlen) ?_
  rintro v τ ⟨⟨a1, a2⟩, rfl⟩
  refine ⟨kept_none, ?_⟩
  unfold putO at q2
  cases hc : decide (chkI g = 0) <;> rw [hc] at q2
  case false =>
    simp -implicitDefEqProofs only [go_sem, Nat.reduceBEq, Nat.reduceAdd, eq_self, true_and, and_true, and_self, List.getElem?_cons_zero, List.getElem?_cons_succ, Nat.reduceLeDiff, Nat.zero_add, Nat.reduceSub, Nat.le_refl, hc]
    refine call_at (rchk_ok (d := .sl db dR dz (intsV .i64 g.deps)) (g := g) (hd.ext a1) hlen) ?_
    rintro v τ2 ⟨⟨a3, a4⟩, rfl⟩
    refine ⟨kept_none, ?_⟩
    simp -implicitDefEqProofs only [go_sem, Nat.reduceBEq, Nat.reduceAdd, eq_self, true_and, and_true, and_self, List.getElem?_cons_zero, List.getElem?_cons_succ, Nat.reduceLeDiff, Nat.zero_add, Nat.reduceSub, Nat.le_refl, Nat.lt_irrefl]
    refine q2 _ _ ?_
    simp -implicitDefEqProofs only [go_sem, Nat.reduceBEq, Nat.reduceAdd, eq_self, true_and, and_true, and_self, List.getElem?_cons_zero, List.getElem?_cons_succ, Nat.reduceLeDiff, Nat.zero_add, Nat.reduceSub, Nat.le_refl, Nat.lt_irrefl]
    exact ⟨a1.trans a3, a4.trans a2, _, rfl, true, .pub, 1, rfl, by simp [bytesV], .inl rfl⟩
  have hz := of_decide_eq_true hc
  have ok := ok_iff.1 hz
  rw [hz] at q2
  simp only [cond_true] at q2
  have hl := intsV_len g.deps
  have h64 := ok.deps64
  have hk1 := ok.k1
  have hk5 := ok.k5
  have hn32 := ok.name32
  have hv256 := ok.v1
  have hd1 := hd.ext a1
  simp -implicitDefEqProofs only [go_sem, Nat.reduceBEq, Nat.reduceAdd, eq_self, true_and, and_true, and_self, List.getElem?_cons_zero, List.getElem?_cons_succ, Nat.reduceLeDiff, Nat.zero_add, Nat.reduceSub, Nat.le_refl, hc]
  refine call_at (rput (b := .sl true .pub 0 []) (s := []) ⟨true, .pub, 0, rfl, by simp [bytesV], .inl rfl⟩ g.kind hI.kind (by simp)) ?_
  rintro v1 τ1 ⟨p1, p2, p3⟩
  refine ⟨p1.kept, ?_⟩
  simp -implicitDefEqProofs only [go_sem, Nat.reduceBEq, Nat.reduceAdd, eq_self, true_and, and_true, and_self, List.getElem?_cons_zero, List.getElem?_cons_succ, Nat.reduceLeDiff, Nat.zero_add, Nat.reduceSub, Nat.le_refl, Nat.lt_irrefl]
  refine call_at (rstamp_ok (c := g.ac) (r := g.ar) p3 hI.ac hI.ar ?_) ?_
  · have := encs_len' (l := [g.kind]) (k := 1) (by simpa using hI.kind) (by simp)
    simp only [List.nil_append]; omega
  rintro v2 τ2 ⟨p4, p5, p6⟩
  refine ⟨p4.kept, ?_⟩
  simp -implicitDefEqProofs only [go_sem, Nat.reduceBEq, Nat.reduceAdd, eq_self, true_and, and_true, and_self, List.getElem?_cons_zero, List.getElem?_cons_succ, Nat.reduceLeDiff, Nat.zero_add, Nat.reduceSub, Nat.le_refl, Nat.lt_irrefl]
  have l1 := encs_len' (l := [g.kind]) (k := 1) (by simpa using hI.kind) (by simp)
  have l2 := pair_le hI.ac hI.ar
  refine call_at (rput p6 g.seq hI.seq (by simp only [List.length_append, List.length_nil]; omega)) ?_
  rintro v3 τ3 ⟨p7, p8, p9⟩
  refine ⟨p7.kept, ?_⟩
  simp -implicitDefEqProofs only [go_sem, Nat.reduceBEq, Nat.reduceAdd, eq_self, true_and, and_true, and_self, List.getElem?_cons_zero, List.getElem?_cons_succ, Nat.reduceLeDiff, Nat.zero_add, Nat.reduceSub, Nat.le_refl, Nat.lt_irrefl]
  have l3 := encs_len' (l := [g.seq]) (k := 1) (by simpa using hI.seq) (by simp)
  refine call_at (rlist_ok p9 (((hd1.ext p1).ext p4).ext p7) hI.deps (by simp only [List.length_append, List.length_nil]; omega)) ?_
  rintro v4 τ4 ⟨p10, p11, p12⟩
  refine ⟨p10.kept, ?_⟩
  have l4 := encs_len' (l := (g.deps.length : Int) :: g.deps) (k := 65) (by
    intro n hm
    rcases List.mem_cons.1 hm with rfl | hm
    · exact ⟨by omega, by omega⟩
    · exact hI.deps n hm) (by simp; omega)
  have hhd : ([] : List UInt8) ++ encs [g.kind] ++ encs [g.ac, g.ar] ++ encs [g.seq] ++ encs (g.deps.length :: g.deps) = encs [g.kind, g.ac, g.ar, g.seq, g.deps.length] ++ encs g.deps := by simp [encs]
  have hs : (encs [g.kind, g.ac, g.ar, g.seq, (g.deps.length : Int)] ++ encs g.deps).length ≤ 1000 := by
    rw [← hhd]; simp only [List.length_append, List.length_nil]; omega
  rw [hhd] at p12
  have e1 := a1.trans (p1.trans (p4.trans (p7.trans p10)))
  have e2 := p11.trans (p8.trans (p5.trans (p2.trans a2)))
  unfold dirB at q2
  generalize encs [g.kind, g.ac, g.ar, g.seq, (g.deps.length : Int)] ++ encs g.deps = s at p12 hs q2
  clear hhd p1 p2 p3 p4 p5 p6 p7 p8 p9 p10 p11 a1 a2 l1 l2 l3 l4 hd1
  have fin : ∀ σ' x F, sget 2 F.s = .v x → sget 3 F.s = .v (.int .i64 0) → Ext σ σ' → σ'.objs = σ.objs → RdS σ' x 1 (bytesV (s ++ ((bif decide (g.kind = 1) then [] else encs [g.nc, g.nr]) ++ ((bif decide (g.kind = 1) || decide (g.kind = 2) then encs [g.pc, g.pr, g.fc, g.fr] else []) ++
    ((bif decide (g.name = []) then [] else encTs [g.name]) ++ (bif decide (g.kind = 3) || decide (g.kind = 5) then encTs [g.val] else [])))))) → Q .ret F σ' := by
    intro σ' x F h1 h2 h3 h4 h5
    refine q2 _ _ ?_
    simp only [retW, Fr.va, Fr.ev, h1, h2, S.val, List.nil_append, List.cons_append, retV]
    exact ⟨h3, h4, x, rfl, h5⟩
  have nB := fun e => ok.nm1 e
  have hnm : ∀ {b : Bool}, namedB g = b → decide (g.name = []) = !b := by
    intro b hb
    cases b with
    | false => simp [ok.nm2 hb]
    | true =>
      have := (nameB_len (ok.nm1 hb)).1
      have hne : g.name ≠ [] := by intro e; rw [e] at this; simp at this
      simp [hne]
  have e : ∀ n : Int, g.kind = n → decide (g.kind = 1) = decide (n = 1) ∧ decide (g.kind = 2) = decide (n = 2) ∧ decide (g.kind = 3) = decide (n = 3) ∧ decide (g.kind = 4) = decide (n = 4) ∧ decide (g.kind = 5) = decide (n = 5) := by
    rintro n rfl; exact ⟨rfl, rfl, rfl, rfl, rfl⟩
  have lp := pair_le hI.pc hI.pr
  have ln := pair_le hI.nc hI.nr
  have lf := pair_le hI.fc hI.fr
  have lt := encT_le (t := g.name) (by omega)
  rcases (by omega : g.kind = 1 ∨ g.kind = 2 ∨ g.kind = 3 ∨ g.kind = 4 ∨ g.kind = 5) with k | k | k | k | k
  all_goals
    obtain ⟨e1', e2', e3', e4', e5'⟩ := e _ k
    simp only [Int.reduceEq, decide_true, decide_false] at e1' e2' e3' e4' e5'
    have hm : namedB g = (decide (g.kind = 1) || (decide (g.kind = 3) || decide (g.kind = 4))) := rfl
    rw [e1', e3', e4'] at hm
    have hm2 := hnm hm
    rw [e1', e2', e3', e5', hm2] at fin
    simp only [Bool.or_self, Bool.or_true, Bool.true_or, Bool.or_false, Bool.false_or, Bool.not_true, Bool.not_false, cond_true, cond_false, List.nil_append, List.append_nil] at fin
    simp -implicitDefEqProofs only [go_sem, Nat.reduceBEq, Nat.reduceAdd, eq_self, true_and, and_true, and_self, List.getElem?_cons_zero, List.getElem?_cons_succ, Nat.reduceLeDiff, Nat.zero_add, Nat.reduceSub, Nat.le_refl, e1', e2', e3', e4', e5']
  case inl =>
    refine call_at (rstamp_ok (c := g.pc) (r := g.pr) p12 hI.pc hI.pr (by omega)) ?_
    rintro w1 τ5 ⟨a1, a2, a3⟩
    refine ⟨a1.kept, ?_⟩
    simp -implicitDefEqProofs only [go_sem, Nat.reduceBEq, Nat.reduceAdd, eq_self, true_and, and_true, and_self, List.getElem?_cons_zero, List.getElem?_cons_succ, Nat.reduceLeDiff, Nat.zero_add, Nat.reduceSub, Nat.le_refl, Nat.lt_irrefl]
    refine call_at (rstamp_ok (c := g.fc) (r := g.fr) a3 hI.fc hI.fr (by simp only [List.length_append]; omega)) ?_
    rintro w2 τ6 ⟨a4, a5, a6⟩
    refine ⟨a4.kept, ?_⟩
    simp -implicitDefEqProofs only [go_sem, Nat.reduceBEq, Nat.reduceAdd, eq_self, true_and, and_true, and_self, List.getElem?_cons_zero, List.getElem?_cons_succ, Nat.reduceLeDiff, Nat.zero_add, Nat.reduceSub, Nat.le_refl, Nat.lt_irrefl]
    refine call_at (rputText a6 g.name (by simp only [List.length_append]; omega)) ?_
    rintro w3 τ7 ⟨a7, a8, a9⟩
    refine ⟨a7.kept, ?_⟩
    simp -implicitDefEqProofs only [go_sem, Nat.reduceBEq, Nat.reduceAdd, eq_self, true_and, and_true, and_self, List.getElem?_cons_zero, List.getElem?_cons_succ, Nat.reduceLeDiff, Nat.zero_add, Nat.reduceSub, Nat.le_refl, Nat.lt_irrefl]
    refine fin _ w3 _ rfl rfl (e1.trans (a1.trans (a4.trans a7))) (a8.trans (a5.trans (a2.trans e2))) ?_
    have : encs [g.pc, g.pr] ++ encs [g.fc, g.fr] = encs [g.pc, g.pr, g.fc, g.fr] := by simp [encs]
    rw [← this]; simpa using a9
  case inr.inl =>
    refine call_at (rstamp_ok (c := g.nc) (r := g.nr) p12 hI.nc hI.nr (by omega)) ?_
    rintro w1 τ5 ⟨a1, a2, a3⟩
    refine ⟨a1.kept, ?_⟩
    simp -implicitDefEqProofs only [go_sem, Nat.reduceBEq, Nat.reduceAdd, eq_self, true_and, and_true, and_self, List.getElem?_cons_zero, List.getElem?_cons_succ, Nat.reduceLeDiff, Nat.zero_add, Nat.reduceSub, Nat.le_refl, Nat.lt_irrefl]
    refine call_at (rstamp_ok (c := g.pc) (r := g.pr) a3 hI.pc hI.pr (by simp only [List.length_append]; omega)) ?_
    rintro w2 τ6 ⟨a4, a5, a6⟩
    refine ⟨a4.kept, ?_⟩
    simp -implicitDefEqProofs only [go_sem, Nat.reduceBEq, Nat.reduceAdd, eq_self, true_and, and_true, and_self, List.getElem?_cons_zero, List.getElem?_cons_succ, Nat.reduceLeDiff, Nat.zero_add, Nat.reduceSub, Nat.le_refl, Nat.lt_irrefl]
    refine call_at (rstamp_ok (c := g.fc) (r := g.fr) a6 hI.fc hI.fr (by simp only [List.length_append]; omega)) ?_
    rintro w3 τ7 ⟨a7, a8, a9⟩
    refine ⟨a7.kept, ?_⟩
    simp -implicitDefEqProofs only [go_sem, Nat.reduceBEq, Nat.reduceAdd, eq_self, true_and, and_true, and_self, List.getElem?_cons_zero, List.getElem?_cons_succ, Nat.reduceLeDiff, Nat.zero_add, Nat.reduceSub, Nat.le_refl, Nat.lt_irrefl]
    refine fin _ w3 _ rfl rfl (e1.trans (a1.trans (a4.trans a7))) (a8.trans (a5.trans (a2.trans e2))) ?_
    have : encs [g.pc, g.pr] ++ encs [g.fc, g.fr] = encs [g.pc, g.pr, g.fc, g.fr] := by simp [encs]
    rw [← this]; simpa using a9
  case inr.inr.inl =>
    refine call_at (rstamp_ok (c := g.nc) (r := g.nr) p12 hI.nc hI.nr (by omega)) ?_
    rintro w1 τ5 ⟨a1, a2, a3⟩
    refine ⟨a1.kept, ?_⟩
    simp -implicitDefEqProofs only [go_sem, Nat.reduceBEq, Nat.reduceAdd, eq_self, true_and, and_true, and_self, List.getElem?_cons_zero, List.getElem?_cons_succ, Nat.reduceLeDiff, Nat.zero_add, Nat.reduceSub, Nat.le_refl, Nat.lt_irrefl]
    refine call_at (rputText a3 g.name (by simp only [List.length_append]; omega)) ?_
    rintro w2 τ6 ⟨a4, a5, a6⟩
    refine ⟨a4.kept, ?_⟩
    simp -implicitDefEqProofs only [go_sem, Nat.reduceBEq, Nat.reduceAdd, eq_self, true_and, and_true, and_self, List.getElem?_cons_zero, List.getElem?_cons_succ, Nat.reduceLeDiff, Nat.zero_add, Nat.reduceSub, Nat.le_refl, Nat.lt_irrefl]
    refine call_at (rputText a6 g.val (by simp only [List.length_append]; omega)) ?_
    rintro w3 τ7 ⟨a7, a8, a9⟩
    refine ⟨a7.kept, ?_⟩
    simp -implicitDefEqProofs only [go_sem, Nat.reduceBEq, Nat.reduceAdd, eq_self, true_and, and_true, and_self, List.getElem?_cons_zero, List.getElem?_cons_succ, Nat.reduceLeDiff, Nat.zero_add, Nat.reduceSub, Nat.le_refl, Nat.lt_irrefl]
    exact fin _ w3 _ rfl rfl (e1.trans (a1.trans (a4.trans a7))) (a8.trans (a5.trans (a2.trans e2))) (by simpa using a9)
  case inr.inr.inr.inl =>
    refine call_at (rstamp_ok (c := g.nc) (r := g.nr) p12 hI.nc hI.nr (by omega)) ?_
    rintro w1 τ5 ⟨a1, a2, a3⟩
    refine ⟨a1.kept, ?_⟩
    simp -implicitDefEqProofs only [go_sem, Nat.reduceBEq, Nat.reduceAdd, eq_self, true_and, and_true, and_self, List.getElem?_cons_zero, List.getElem?_cons_succ, Nat.reduceLeDiff, Nat.zero_add, Nat.reduceSub, Nat.le_refl, Nat.lt_irrefl]
    refine call_at (rputText a3 g.name (by simp only [List.length_append]; omega)) ?_
    rintro w2 τ6 ⟨a4, a5, a6⟩
    refine ⟨a4.kept, ?_⟩
    simp -implicitDefEqProofs only [go_sem, Nat.reduceBEq, Nat.reduceAdd, eq_self, true_and, and_true, and_self, List.getElem?_cons_zero, List.getElem?_cons_succ, Nat.reduceLeDiff, Nat.zero_add, Nat.reduceSub, Nat.le_refl, Nat.lt_irrefl]
    exact fin _ w2 _ rfl rfl (e1.trans (a1.trans a4)) (a5.trans (a2.trans e2)) (by simpa using a6)
  case inr.inr.inr.inr =>
    refine call_at (rstamp_ok (c := g.nc) (r := g.nr) p12 hI.nc hI.nr (by omega)) ?_
    rintro w1 τ5 ⟨a1, a2, a3⟩
    refine ⟨a1.kept, ?_⟩
    simp -implicitDefEqProofs only [go_sem, Nat.reduceBEq, Nat.reduceAdd, eq_self, true_and, and_true, and_self, List.getElem?_cons_zero, List.getElem?_cons_succ, Nat.reduceLeDiff, Nat.zero_add, Nat.reduceSub, Nat.le_refl, Nat.lt_irrefl]
    refine call_at (rputText a3 g.val (by simp only [List.length_append]; omega)) ?_
    rintro w2 τ6 ⟨a4, a5, a6⟩
    refine ⟨a4.kept, ?_⟩
    simp -implicitDefEqProofs only [go_sem, Nat.reduceBEq, Nat.reduceAdd, eq_self, true_and, and_true, and_self, List.getElem?_cons_zero, List.getElem?_cons_succ, Nat.reduceLeDiff, Nat.zero_add, Nat.reduceSub, Nat.le_refl, Nat.lt_irrefl]
    exact fin _ w2 _ rfl rfl (e1.trans (a1.trans a4)) (a5.trans (a2.trans e2)) (by simpa using a6)
end
end Go.VL.wire

namespace Go.VL.wire
open Go Go.VL Go.Proofs Go.IntWalk

def sameC (g h : Cg) : Bool := (decide (g.ac = h.ac) && decide (g.ar = h.ar)) && (decide (g.seq = h.seq) && (decide (g.deps = h.deps) && (decide (g.kind = h.kind) && ((decide (g.nc = h.nc) && decide (g.nr = h.nr)) && ((decide (g.pc = h.pc) && decide (g.pr = h.pr)) &&
  ((decide (g.fc = h.fc) && decide (g.fr = h.fr)) && (decide (g.name = h.name) && decide (g.val = h.val))))))))
theorem sameC_iff {g h : Cg} : sameC g h = true ↔ g = h := by
  obtain ⟨a1, a2, a3, a4, a5, a6, a7, a8, a9, a10, a11, a12, a13⟩ := g
  obtain ⟨b1, b2, b3, b4, b5, b6, b7, b8, b9, b10, b11, b12, b13⟩ := h
  simp only [sameC, Bool.and_eq_true, decide_eq_true_eq, Cg.mk.injEq]
  constructor
  · rintro ⟨⟨rfl, rfl⟩, rfl, rfl, rfl, ⟨rfl, rfl⟩, ⟨rfl, rfl⟩, ⟨rfl, rfl⟩, rfl, rfl⟩
    exact ⟨rfl, rfl, rfl, rfl, rfl, rfl, rfl, rfl, rfl, rfl, rfl, rfl, rfl⟩
  · rintro ⟨rfl, rfl, rfl, rfl, rfl, rfl, rfl, rfl, rfl, rfl, rfl, rfl, rfl⟩
    exact ⟨⟨rfl, rfl⟩, rfl, rfl, rfl, ⟨rfl, rfl⟩, ⟨rfl, rfl⟩, ⟨rfl, rfl⟩, rfl, rfl⟩
theorem sameC_dec (g h : Cg) : sameC g h = decide (g = h) := by
  rw [Bool.eq_iff_iff, sameC_iff, decide_eq_true_eq]
theorem sameC_self (g : Cg) : sameC g g = true := sameC_iff.2 rfl

section
variable {σ : St} {d f : V} {g h : Cg}
set_option maxRecDepth 100000 in
set_option maxHeartbeats 1000000 in
theorem copy_ok (hd : RdS σ d 1 (intsV .i64 g.deps)) (hlen : g.deps.length ≤ 1073741823) :
    CallA Try.prog 12 [cgV d g] σ fun w σ' => Ext σ σ' ∧ σ'.objs = σ.objs ∧ ∃ x, w = cgV x g ∧ NewS σ σ' x 1 (intsV .i64 g.deps) := by
  obtain ⟨b, R, z, rfl, -, -⟩ := id hd
  refine fn_at Try.func12 (by decide) comp12 rfl fun Q q1 q2 => ?_
  have hl := intsV_len g.deps
  have hr := rd_src (hd.ext (ext_live σ true))
  simp -implicitDefEqProofs only [go_sem, Nat.reduceBEq, Nat.reduceAdd, eq_self, true_and, and_true, and_self, List.getElem?_cons_zero, List.getElem?_cons_succ, Nat.reduceLeDiff, Nat.zero_add, Nat.reduceSub, Nat.le_refl, c12, cgV, cgC]
  refine ⟨⟨.inr trivial, .inr (live_last _ _), hr, by rw [hl]; omega⟩, ?_⟩
  refine q2 _ _ ?_
  simp -implicitDefEqProofs only [go_sem, Nat.reduceBEq, Nat.reduceAdd, eq_self, true_and, and_true, and_self, List.getElem?_cons_zero, List.getElem?_cons_succ, Nat.reduceLeDiff, Nat.zero_add, Nat.reduceSub, Nat.le_refl, Nat.lt_irrefl]
  refine ⟨ext_kill (ext_push (Ext.refl σ)) (Nat.le_refl _), _, rfl, ?_⟩
  refine ⟨_, rfl, live_last' _ _ _, by simp⟩
set_option maxRecDepth 100000 in
set_option maxHeartbeats 4000000 in
theorem same_ok (hd : RdS σ d 1 (intsV .i64 g.deps)) (hf : RdS σ f 1 (intsV .i64 h.deps)) (hlen : g.deps.length < 4611686018427387904) :
    CallA Try.prog 17 [cgV d g, cgV f h] σ fun w σ' => σ' = σ ∧ w = .bool (sameC g h) := by
  refine fn_at Try.func17 (by decide) comp17 rfl fun Q q1 q2 => ?_
  simp -implicitDefEqProofs only [go_sem, Nat.reduceBEq, Nat.reduceAdd, eq_self, true_and, and_true, and_self, List.getElem?_cons_zero, List.getElem?_cons_succ, Nat.reduceLeDiff, Nat.zero_add, Nat.reduceSub, Nat.le_refl, c17, cgV, cgC, V.eqs, V.eq, Bool.and_true]
  repeat' first
    | (refine GW_c (fun h => ?_) (fun h => ?_) <;> (try simp only [Bool.not_eq_true', Bool.not_eq_false'] at h) <;> (try simp only [h]) <;> (try simp -implicitDefEqProofs only [go_sem, Nat.reduceBEq, Nat.reduceAdd, eq_self, true_and, and_true, and_self, List.getElem?_cons_zero, List.getElem?_cons_succ, Nat.reduceLeDiff, Nat.zero_add, Nat.reduceSub, Nat.le_refl, cgC, cgV, V.eqs, V.eq, Bool.and_true]))
    | (refine CondW_b (fun h => ?_) (fun h => ?_) <;> (try simp only [Bool.not_eq_true', Bool.not_eq_false'] at h) <;> (try simp only [h]) <;> (try simp -implicitDefEqProofs only [go_sem, Nat.reduceBEq, Nat.reduceAdd, eq_self, true_and, and_true, and_self, List.getElem?_cons_zero, List.getElem?_cons_succ, Nat.reduceLeDiff, Nat.zero_add, Nat.reduceSub, Nat.le_refl, cgC, cgV, V.eqs, V.eq, Bool.and_true]))
    | (refine call_at (rsame_ok hd hf hlen) ?_; rintro v τ ⟨rfl, rfl⟩; refine ⟨by first | exact kept_none | exact (Ext.refl _).kept, ?_⟩; (try simp -implicitDefEqProofs only [go_sem, Nat.reduceBEq, Nat.reduceAdd, eq_self, true_and, and_true, and_self, List.getElem?_cons_zero, List.getElem?_cons_succ, Nat.reduceLeDiff, Nat.zero_add, Nat.reduceSub, Nat.le_refl, cgC, cgV, V.eqs, V.eq, Bool.and_true]))
    | (refine cut_dup ?_; (try simp -implicitDefEqProofs only [go_sem, Nat.reduceBEq, Nat.reduceAdd, eq_self, true_and, and_true, and_self, List.getElem?_cons_zero, List.getElem?_cons_succ, Nat.reduceLeDiff, Nat.zero_add, Nat.reduceSub, Nat.le_refl, cgC, cgV, V.eqs, V.eq, Bool.and_true]))
    | (refine q2 _ _ ?_; (try simp -implicitDefEqProofs only [go_sem, Nat.reduceBEq, Nat.reduceAdd, eq_self, true_and, and_true, and_self, List.getElem?_cons_zero, List.getElem?_cons_succ, Nat.reduceLeDiff, Nat.zero_add, Nat.reduceSub, Nat.le_refl, cgC, cgV, V.eqs, V.eq, Bool.and_true]))
  all_goals (clear q1 q2; first | (simp_all [sameC]; done) | grind [sameC])
end
end Go.VL.wire

namespace Go.VL.wire
open Go Go.VL Go.Proofs Go.IntWalk

def cgsV (l : List (V × Cg)) : List (List V) := l.map fun p => cgC p.1 p.2
theorem cgsV_len (l : List (V × Cg)) : (cgsV l).length = l.length := by simp [cgsV]
theorem cgsV_get {l : List (V × Cg)} {i : Nat} (h : i < l.length) : (cgsV l)[((i : Nat) : Int).toNat]?.getD [] = cgC l[i].1 l[i].2 := by simp [cgsV, h]
theorem cgsV_ne {l : List (V × Cg)} {i : Nat} (h : i < l.length) : cgsV l ≠ [] := by cases l <;> simp [cgsV] at h ⊢
theorem cgsV_app (a b : List (V × Cg)) : cgsV a ++ cgsV b = cgsV (a ++ b) := by simp [cgsV]
/-- All their clocks may be read. -/
def Rds (σ : St) (l : List (V × Cg)) : Prop := ∀ p ∈ l, RdS σ p.1 1 (intsV .i64 p.2.deps)
theorem Rds.ext {σ σ' : St} {l : List (V × Cg)} (h : Rds σ l) (he : Ext σ σ') : Rds σ' l := fun p hp => (h p hp).ext he
def RdC (σ : St) (v : V) (gs : List Cg) : Prop := ∃ l : List (V × Cg), l.map (·.2) = gs ∧ RdS σ v 13 (cgsV l) ∧ Rds σ l
theorem RdC.ext {σ σ' : St} {v : V} {gs : List Cg} (h : RdC σ v gs) (he : Ext σ σ') : RdC σ' v gs := by
  obtain ⟨l, h1, h2, h3⟩ := h
  exact ⟨l, h1, h2.ext he, h3.ext he⟩

/-- But for one right. -/
def St.but (σ : St) (q : Nat) : St := ⟨σ.objs, σ.live.set q false⟩
theorem live_but {l : List Bool} {q r : Nat} (h : (l.set q false)[r]? = some true) : r ≠ q ∧ l[r]? = some true := by
  have hlt : r < l.length := by have := (List.getElem?_eq_some_iff.1 h).1; simpa using this
  by_cases e : r = q
  · subst e; rw [List.getElem?_set_self hlt] at h; cases h
  · rw [List.getElem?_set_ne (Ne.symm e)] at h; exact ⟨e, h⟩
theorem but_ext (σ : St) (q : Nat) : Ext (St.but σ q) σ := ⟨fun _ _ h => h, fun _ h => (live_but h).2, Nat.le_refl _, by simp [St.but]⟩
theorem but_app {τ τ2 : St} {q : Nat} (he : Ext τ τ2) : Ext (St.but τ q) (St.but ⟨τ2.objs, kill (τ2.live ++ [true]) (.own q) ++ [true]⟩ (τ2.live ++ [true]).length) := by
  refine ⟨he.objs, fun r hr => ?_, he.olen, ?_⟩
  · obtain ⟨h1, h2⟩ := live_but hr
    have h3 := he.live _ h2
    have hlt := (List.getElem?_eq_some_iff.1 h3).1
    show ((((τ2.live ++ [true]).set q false) ++ [true]).set (τ2.live ++ [true]).length false)[r]? = _
    rw [List.getElem?_set_ne (by simp; omega), List.getElem?_append_left (by simp; omega), List.getElem?_set_ne (Ne.symm h1), List.getElem?_append_left hlt]
    exact h3
  · have := he.llen
    simp [St.but, kill]; omega
theorem live_app {τ2 : St} {q r : Nat} (h : τ2.live[r]? = some true) (hr : r ≠ q) : (St.but ⟨τ2.objs, kill (τ2.live ++ [true]) (.own q) ++ [true]⟩ (τ2.live ++ [true]).length).live[r]? = some true := by
  have hlt := (List.getElem?_eq_some_iff.1 h).1
  show ((((τ2.live ++ [true]).set q false) ++ [true]).set (τ2.live ++ [true]).length false)[r]? = _
  rw [List.getElem?_set_ne (by simp; omega), List.getElem?_append_left (by simp; omega), List.getElem?_set_ne (Ne.symm hr), List.getElem?_append_left hlt]
  exact h

section
variable {σ : St} {v u : V} {gs hs : List Cg}
set_option maxRecDepth 100000 in
set_option maxHeartbeats 1000000 in
theorem copyAll_ok (hv : RdC σ v gs) (hlen : gs.length ≤ 2000000) (hd : ∀ g ∈ gs, g.deps.length ≤ 1073741823) :
    CallA Try.prog 47 [v] σ fun w σ' => Ext σ σ' ∧ σ'.objs = σ.objs ∧ RdC σ' w gs := by
  obtain ⟨l, rfl, hv, hds⟩ := hv
  obtain ⟨b, R, z, rfl, -, -⟩ := id hv
  refine fn_at Try.func47 (by decide) comp47 rfl fun Q q1 q2 => ?_
  have hl := cgsV_len l
  rw [List.length_map] at hlen
  simp -implicitDefEqProofs only [go_sem, Nat.reduceBEq, Nat.reduceAdd, eq_self, true_and, and_true, and_self, List.getElem?_cons_zero, List.getElem?_cons_succ, Nat.reduceLeDiff, Nat.zero_add, Nat.reduceSub, Nat.le_refl, c47]
  refine loop_at (fun (x : Nat × List (V × Cg) × Nat) => ⟨[(0, .v (.sl b R z (cgsV l))), (3, .v (.sl false (.own x.2.2) 13 (cgsV x.2.1))), (4, .v (.int .i64 x.1))], []⟩)
    (fun x τ => x.1 ≤ l.length ∧ x.2.1.map (·.2) = (l.take x.1).map (·.2) ∧ Rds (St.but τ x.2.2) x.2.1 ∧ Ext σ τ ∧ τ.objs = σ.objs ∧ τ.live[x.2.2]? = some true ∧ σ.live.length ≤ x.2.2) (fun x => l.length - x.1) (0, [], σ.live.length) ?_ ?_ ?_
  · exact .inr (by simp -implicitDefEqProofs only [go_sem, Nat.reduceBEq, Nat.reduceAdd, eq_self, true_and, and_true, and_self, List.getElem?_cons_zero, List.getElem?_cons_succ, Nat.reduceLeDiff, Nat.zero_add, Nat.reduceSub, Nat.le_refl, Nat.lt_irrefl]; exact ⟨rfl, rfl⟩)
  · exact ⟨Nat.zero_le _, by simp, by intro p hp; simp at hp, ext_live σ true, rfl, live_last _ _, Nat.le_refl _⟩
  rintro ⟨i, out, q⟩ τ ⟨g1, g2, g3, g4, g5, g6, g7⟩ Z z1 z2 z3
  simp only at g1 g2 g3 g6 g7
  simp -implicitDefEqProofs only [go_sem, Nat.reduceBEq, Nat.reduceAdd, eq_self, true_and, and_true, and_self, List.getElem?_cons_zero, List.getElem?_cons_succ, Nat.reduceLeDiff, Nat.zero_add, Nat.reduceSub, Nat.le_refl, hl]
  refine CondW_b (fun hc => ?_) (fun hc => ?_)
  · have hi : i < l.length := by simpa using hc
    have hget := cgsV_get hi
    obtain ⟨k1, k2⟩ := rdl (hv.ext g4) (cgsV_ne hi)
    have htk : l.take (i + 1) = l.take i ++ [l[i]] := List.take_succ_eq_append_getElem hi
    have hdi := (hds _ (List.getElem_mem hi)).ext g4
    have hdl := hd l[i].2 (List.mem_map.2 ⟨_, List.getElem_mem hi, rfl⟩)
    generalize l[i] = x at hget htk hdi hdl
    obtain ⟨d, g⟩ := x
    simp only at hget hdi hdl
    have hlo : out.length = i := by
      have := congrArg List.length g2
      simp only [List.length_map, List.length_take] at this
      omega
    simp -implicitDefEqProofs only [go_sem, Nat.reduceBEq, Nat.reduceAdd, eq_self, true_and, and_true, and_self, List.getElem?_cons_zero, List.getElem?_cons_succ, Nat.reduceLeDiff, Nat.zero_add, Nat.reduceSub, Nat.le_refl, hget, cgC]
    rw [hl]
    refine ⟨⟨by omega, by omega, k2⟩, k1, call_at (copy_ok (d := d) (g := g) hdi hdl) ?_⟩
    rintro w τ2 ⟨a1, a2, x, rfl, r', rfl, a3, a4⟩
    refine ⟨kept_none, ?_⟩
    have hsz : (cgsV out).length ≤ 1073741823 := by rw [cgsV_len]; omega
    have hap : cgsV out ++ [cgC (.sl false (.own r') 1 (intsV .i64 g.deps)) g] = cgsV (out ++ [(.sl false (.own r') 1 (intsV .i64 g.deps), g)]) := by simp [cgsV]
    simp -implicitDefEqProofs only [go_sem, Nat.reduceBEq, Nat.reduceAdd, eq_self, true_and, and_true, and_self, List.getElem?_cons_zero, List.getElem?_cons_succ, Nat.reduceLeDiff, Nat.zero_add, Nat.reduceSub, Nat.le_refl, cgV, cgC]
    have g6' := a1.live _ g6
    have e2 := g4.trans a1
    refine ⟨⟨.inr trivial, .inr ((ext_live _ _).live _ g6'), ⟨.inr (live_last _ _), .inl trivial⟩, hsz⟩, ?_⟩
    refine z1 (i + 1, out ++ [(.sl false (.own r') 1 (intsV .i64 g.deps), g)], _) _ _ (.inr ?_) (by simp only; omega) ⟨by simp only; omega, ?_, ?_, ext_kill (ext_push e2) g7, a2.trans g5, live_last' _ _ _, by have := e2.llen; simp only [List.length_append, List.length_cons, List.length_nil]; omega⟩
    · have hw : IntKind.i64.wrap ((i : Int) + 1) = ((i + 1 : Nat) : Int) := by rw [i64_in _ (by omega)]; omega
      rw [← hap]
      simp -implicitDefEqProofs only [go_sem, Nat.reduceBEq, Nat.reduceAdd, eq_self, true_and, and_true, and_self, List.getElem?_cons_zero, List.getElem?_cons_succ, Nat.reduceLeDiff, Nat.zero_add, Nat.reduceSub, Nat.le_refl, hw, cgC]
    · simp only
      rw [htk, List.map_append, List.map_append, g2]; rfl
    · intro p hp
      rcases List.mem_append.1 hp with hp | hp
      · exact (g3 p hp).ext (but_app a1)
      · simp only [List.mem_singleton] at hp
        subst hp
        have hq := (List.getElem?_eq_some_iff.1 g6).1
        exact ⟨_, _, _, rfl, by simp, .inr ⟨live_app a3 (by omega), rfl⟩⟩
  · have hi : ¬ i < l.length := by simpa using hc
    rw [List.take_of_length_le (by omega)] at g2
    simp -implicitDefEqProofs only [go_sem, Nat.reduceBEq, Nat.reduceAdd, eq_self, true_and, and_true, and_self, List.getElem?_cons_zero, List.getElem?_cons_succ, Nat.reduceLeDiff, Nat.zero_add, Nat.reduceSub, Nat.le_refl, Nat.lt_irrefl]
    refine z2 _ _ _ ?_
    simp -implicitDefEqProofs only [go_sem, Nat.reduceBEq, Nat.reduceAdd, eq_self, true_and, and_true, and_self, List.getElem?_cons_zero, List.getElem?_cons_succ, Nat.reduceLeDiff, Nat.zero_add, Nat.reduceSub, Nat.le_refl, Nat.lt_irrefl]
    refine q2 _ _ ?_
    simp -implicitDefEqProofs only [go_sem, Nat.reduceBEq, Nat.reduceAdd, eq_self, true_and, and_true, and_self, List.getElem?_cons_zero, List.getElem?_cons_succ, Nat.reduceLeDiff, Nat.zero_add, Nat.reduceSub, Nat.le_refl, Nat.lt_irrefl]
    exact ⟨g4, g5, out, g2, ⟨_, _, _, rfl, by simp, .inr ⟨g6, rfl⟩⟩, g3.ext (but_ext _ _)⟩
set_option maxRecDepth 100000 in
set_option maxHeartbeats 1000000 in
theorem sameAll_ok (hv : RdC σ v gs) (hu : RdC σ u hs) (hlen : gs.length ≤ 2000000) (hd : ∀ g ∈ gs, g.deps.length ≤ 1073741823) :
    CallA Try.prog 52 [v, u] σ fun w σ' => σ' = σ ∧ w = .bool (decide (gs = hs)) := by
  obtain ⟨l, rfl, hv, hds⟩ := hv
  obtain ⟨m, rfl, hu, hdm⟩ := hu
  obtain ⟨b, R, z, rfl, -, -⟩ := id hv
  obtain ⟨b2, R2, z2, rfl, -, -⟩ := id hu
  refine fn_at Try.func52 (by decide) comp52 rfl fun Q q1 q2 => ?_
  have hl := cgsV_len l
  have hm := cgsV_len m
  rw [List.length_map] at hlen
  simp -implicitDefEqProofs only [go_sem, Nat.reduceBEq, Nat.reduceAdd, eq_self, true_and, and_true, and_self, List.getElem?_cons_zero, List.getElem?_cons_succ, Nat.reduceLeDiff, Nat.zero_add, Nat.reduceSub, Nat.le_refl, c52, hl, hm]
  refine CondW_b (fun h => ?_) (fun h0 => ?_)
  · have : ¬ l.map (·.2) = m.map (·.2) := by
      intro e
      have := congrArg List.length e
      simp only [List.length_map] at this
      simp [this] at h
    simp -implicitDefEqProofs only [go_sem, Nat.reduceBEq, Nat.reduceAdd, eq_self, true_and, and_true, and_self, List.getElem?_cons_zero, List.getElem?_cons_succ, Nat.reduceLeDiff, Nat.zero_add, Nat.reduceSub, Nat.le_refl, Nat.lt_irrefl]
    refine q2 _ _ ?_
    simp -implicitDefEqProofs only [go_sem, Nat.reduceBEq, Nat.reduceAdd, eq_self, true_and, and_true, and_self, List.getElem?_cons_zero, List.getElem?_cons_succ, Nat.reduceLeDiff, Nat.zero_add, Nat.reduceSub, Nat.le_refl, this, decide_false]
  have hlm : l.length = m.length := by have := h0; simp at this; omega
  simp -implicitDefEqProofs only [go_sem, Nat.reduceBEq, Nat.reduceAdd, eq_self, true_and, and_true, and_self, List.getElem?_cons_zero, List.getElem?_cons_succ, Nat.reduceLeDiff, Nat.zero_add, Nat.reduceSub, Nat.le_refl, hl, hm]
  refine loop_at (fun (i : Nat) => ⟨[(0, .v (.sl b R z (cgsV l))), (1, .v (.sl b2 R2 z2 (cgsV m))), (5, .v (.int .i64 i))], []⟩) (fun i τ => τ = σ ∧ i ≤ l.length ∧ (l.take i).map (·.2) = (m.take i).map (·.2)) (fun i => l.length - i) 0 ?_ ?_ ?_
  · exact .inr (by simp -implicitDefEqProofs only [go_sem, Nat.reduceBEq, Nat.reduceAdd, eq_self, true_and, and_true, and_self, List.getElem?_cons_zero, List.getElem?_cons_succ, Nat.reduceLeDiff, Nat.zero_add, Nat.reduceSub, Nat.le_refl, Nat.lt_irrefl]; trivial)
  · exact ⟨rfl, Nat.zero_le _, by simp⟩
  rintro i τ ⟨rfl, g1, g2⟩ Z z1 z2 z3
  simp -implicitDefEqProofs only [go_sem, Nat.reduceBEq, Nat.reduceAdd, eq_self, true_and, and_true, and_self, List.getElem?_cons_zero, List.getElem?_cons_succ, Nat.reduceLeDiff, Nat.zero_add, Nat.reduceSub, Nat.le_refl, hl]
  refine CondW_b (fun hc => ?_) (fun hc => ?_)
  · have hi : i < l.length := by simpa using hc
    have hi2 : i < m.length := by omega
    have hget := cgsV_get hi
    have hget2 := cgsV_get hi2
    obtain ⟨k1, k2⟩ := rdl hv (cgsV_ne hi)
    obtain ⟨k3, k4⟩ := rdl hu (cgsV_ne hi2)
    have hb : (i : Int) < l.length := by omega
    have hb2 : (i : Int) < m.length := by omega
    have htk : l.take (i + 1) = l.take i ++ [l[i]] := List.take_succ_eq_append_getElem hi
    have htk2 : m.take (i + 1) = m.take i ++ [m[i]] := List.take_succ_eq_append_getElem hi2
    have hne : l[i].2 ≠ m[i].2 → ¬ l.map (·.2) = m.map (·.2) := by
      intro h e
      have h1 : (l.map (·.2))[i]'(by simpa using hi) = (m.map (·.2))[i]'(by simpa using hi2) := by simp only [e]
      simp only [List.getElem_map] at h1
      exact h h1
    have hdi := hds _ (List.getElem_mem hi)
    have hdi2 := hdm _ (List.getElem_mem hi2)
    have hdl := hd l[i].2 (List.mem_map.2 ⟨_, List.getElem_mem hi, rfl⟩)
    generalize l[i] = x at hget htk hne hdi hdl
    generalize m[i] = y at hget2 htk2 hne hdi2
    obtain ⟨d, g⟩ := x
    obtain ⟨f, h⟩ := y
    simp only at hget hget2 hdi hdi2 hdl hne
    simp -implicitDefEqProofs only [go_sem, Nat.reduceBEq, Nat.reduceAdd, eq_self, true_and, and_true, and_self, List.getElem?_cons_zero, List.getElem?_cons_succ, Nat.reduceLeDiff, Nat.zero_add, Nat.reduceSub, Nat.le_refl, hget, hget2, cgC]
    rw [hl, hm]
    refine ⟨⟨by omega, hb, k2⟩, k1, ⟨by omega, hb2, k4⟩, k3, call_at (same_ok (d := d) (f := f) (g := g) (h := h) hdi hdi2 (by omega)) ?_⟩
    rintro v τ2 ⟨rfl, rfl⟩
    refine ⟨(Ext.refl _).kept, ?_⟩
    cases he : sameC g h
    · have := hne (by intro e; rw [e, sameC_self] at he; cases he)
      simp -implicitDefEqProofs only [go_sem, Nat.reduceBEq, Nat.reduceAdd, eq_self, true_and, and_true, and_self, List.getElem?_cons_zero, List.getElem?_cons_succ, Nat.reduceLeDiff, Nat.zero_add, Nat.reduceSub, Nat.le_refl, he]
      refine z3 _ _ ?_
      simp -implicitDefEqProofs only [go_sem, Nat.reduceBEq, Nat.reduceAdd, eq_self, true_and, and_true, and_self, List.getElem?_cons_zero, List.getElem?_cons_succ, Nat.reduceLeDiff, Nat.zero_add, Nat.reduceSub, Nat.le_refl, Nat.lt_irrefl]
      refine q2 _ _ ?_
      simp -implicitDefEqProofs only [go_sem, Nat.reduceBEq, Nat.reduceAdd, eq_self, true_and, and_true, and_self, List.getElem?_cons_zero, List.getElem?_cons_succ, Nat.reduceLeDiff, Nat.zero_add, Nat.reduceSub, Nat.le_refl, this, decide_false]
    · have he := sameC_iff.1 he
      subst he
      simp -implicitDefEqProofs only [go_sem, Nat.reduceBEq, Nat.reduceAdd, eq_self, true_and, and_true, and_self, List.getElem?_cons_zero, List.getElem?_cons_succ, Nat.reduceLeDiff, Nat.zero_add, Nat.reduceSub, Nat.le_refl, sameC_self]
      refine z1 (i + 1) _ _ (.inr ?_) (by omega) ⟨rfl, by omega, by rw [htk, htk2, List.map_append, List.map_append, g2]; rfl⟩
      simp -implicitDefEqProofs only [go_sem, Nat.reduceBEq, Nat.reduceAdd, eq_self, true_and, and_true, and_self, List.getElem?_cons_zero, List.getElem?_cons_succ, Nat.reduceLeDiff, Nat.zero_add, Nat.reduceSub, Nat.le_refl, Nat.lt_irrefl]
      rw [i64_in _ (by omega)]; simp
  · have hi : ¬ i < l.length := by simpa using hc
    rw [List.take_of_length_le (by omega), List.take_of_length_le (by omega)] at g2
    simp -implicitDefEqProofs only [go_sem, Nat.reduceBEq, Nat.reduceAdd, eq_self, true_and, and_true, and_self, List.getElem?_cons_zero, List.getElem?_cons_succ, Nat.reduceLeDiff, Nat.zero_add, Nat.reduceSub, Nat.le_refl, Nat.lt_irrefl]
    refine z2 _ _ _ ?_
    simp -implicitDefEqProofs only [go_sem, Nat.reduceBEq, Nat.reduceAdd, eq_self, true_and, and_true, and_self, List.getElem?_cons_zero, List.getElem?_cons_succ, Nat.reduceLeDiff, Nat.zero_add, Nat.reduceSub, Nat.le_refl, Nat.lt_irrefl]
    refine q2 _ _ ?_
    simp -implicitDefEqProofs only [go_sem, Nat.reduceBEq, Nat.reduceAdd, eq_self, true_and, and_true, and_self, List.getElem?_cons_zero, List.getElem?_cons_succ, Nat.reduceLeDiff, Nat.zero_add, Nat.reduceSub, Nat.le_refl, g2, decide_true]
end
end Go.VL.wire

namespace Go.VL.wire
open Go Go.VL Go.Proofs Go.IntWalk

/-- A frame. -/
structure Fm where
  kind : Int
  src : Int
  clock : List Int
  more : Bool
  cs : List Cg
  deriving DecidableEq
def fmC (c v : V) (f : Fm) : List V := [.int .i64 f.kind, .int .i64 f.src, c, .bool f.more, v]
def fmV (c v : V) (f : Fm) : V := .agg (fmC c v f)
/-- It may be read. -/
def RdF (σ : St) (c v : V) (f : Fm) : Prop := RdS σ c 1 (intsV .i64 f.clock) ∧ RdC σ v f.cs
theorem RdF.ext {σ σ' : St} {c v : V} {f : Fm} (h : RdF σ c v f) (he : Ext σ σ') : RdF σ' c v f := ⟨h.1.ext he, h.2.ext he⟩
/-- It is of a size. -/
structure FmZ (f : Fm) : Prop where
  clock : f.clock.length ≤ 2000000
  cs : f.cs.length ≤ 2000000
  deps : ∀ g ∈ f.cs, g.deps.length ≤ 2000000
  name : ∀ g ∈ f.cs, g.name.length ≤ 1000000000

def errL : List Cg → Int
  | [] => 0
  | g :: r => bif decide (chkI g = 0) then errL r else chkI g
def badK (f : Fm) : Bool := (!decide (f.kind = 3) && f.more) || ((decide (f.kind = 1) && (decide ((0 : Int) < f.clock.length) || decide ((f.cs.length : Int) = 0))) || (decide (f.kind = 2) && decide ((0 : Int) < f.cs.length)))
def fchkI (f : Fm) : Int := bif decide (f.kind < 1) || (decide (3 < f.kind) || (decide (f.src < 0) || decide (64 ≤ f.src))) then 1 else bif !decide (clockI f.clock = 0) then clockI f.clock else bif lastZ f.clock then 2 else
  bif decide ((64 : Int) < f.cs.length) then 3 else bif badK f then 2 else errL f.cs
theorem errL_all {l : List Cg} : errL l = 0 ↔ ∀ g ∈ l, chkI g = 0 := by
  induction l with
  | nil => simp [errL]
  | cons g l ih =>
    simp only [errL, List.mem_cons, forall_eq_or_imp]
    cases h : decide (chkI g = 0) with
    | true => have := of_decide_eq_true h; simp [this, ih]
    | false => have := of_decide_eq_false h; simp [this]

section
variable {σ : St} {c v c2 v2 : V} {f g : Fm}
set_option maxRecDepth 100000 in
set_option maxHeartbeats 1000000 in
theorem fcopy_ok (hf : RdF σ c v f) (hz : FmZ f) :
    CallA Try.prog 19 [fmV c v f] σ fun w σ' => Ext σ σ' ∧ σ'.objs = σ.objs ∧ ∃ x y, w = fmV x y f ∧ RdF σ' x y f := by
  obtain ⟨b, R, z, rfl, -, -⟩ := id hf.1
  obtain ⟨l, hlm, ⟨b2, R2, z2, rfl, h1, h2⟩, hds⟩ := id hf.2
  refine fn_at Try.func19 (by decide) comp19 rfl fun Q q1 q2 => ?_
  have hl := intsV_len f.clock
  have hr := rd_src (hf.1.ext (ext_live σ true))
  have := hz.clock
  simp -implicitDefEqProofs only [go_sem, Nat.reduceBEq, Nat.reduceAdd, eq_self, true_and, and_true, and_self, List.getElem?_cons_zero, List.getElem?_cons_succ, Nat.reduceLeDiff, Nat.zero_add, Nat.reduceSub, Nat.le_refl, c19, fmV, fmC]
  refine ⟨⟨.inr trivial, .inr (live_last _ _), hr, by rw [hl]; omega⟩, ?_⟩
  have e1 : Ext σ ⟨σ.objs, kill (σ.live ++ [true]) (.own σ.live.length) ++ [true]⟩ := ext_kill (ext_push (Ext.refl σ)) (Nat.le_refl _)
  refine call_at (copyAll_ok (hf.2.ext e1) hz.cs (fun g hg => by have := hz.deps g hg; omega)) ?_
  rintro w τ ⟨a1, a2, l2, hl2, ⟨b3, R3, z3, rfl, h3, h4⟩, hds2⟩
  refine ⟨kept_none, ?_⟩
  simp -implicitDefEqProofs only [go_sem, Nat.reduceBEq, Nat.reduceAdd, eq_self, true_and, and_true, and_self, List.getElem?_cons_zero, List.getElem?_cons_succ, Nat.reduceLeDiff, Nat.zero_add, Nat.reduceSub, Nat.le_refl, Nat.lt_irrefl]
  refine q2 _ _ ?_
  simp -implicitDefEqProofs only [go_sem, Nat.reduceBEq, Nat.reduceAdd, eq_self, true_and, and_true, and_self, List.getElem?_cons_zero, List.getElem?_cons_succ, Nat.reduceLeDiff, Nat.zero_add, Nat.reduceSub, Nat.le_refl, Nat.lt_irrefl]
  have hn : RdS ⟨σ.objs, kill (σ.live ++ [true]) (.own σ.live.length) ++ [true]⟩ (.sl false (.own (σ.live ++ [true]).length) 1 (intsV .i64 f.clock)) 1 (intsV .i64 f.clock) := ⟨_, _, _, rfl, by simp, .inr ⟨live_last' _ _ _, rfl⟩⟩
  exact ⟨e1.trans a1, a2, _, _, rfl, hn.ext a1, l2, hl2, ⟨_, _, _, rfl, h3, h4⟩, hds2⟩
set_option maxRecDepth 100000 in
set_option maxHeartbeats 1000000 in
theorem fsame_ok (hf : RdF σ c v f) (hg : RdF σ c2 v2 g) (hz : FmZ f) :
    CallA Try.prog 23 [fmV c v f, fmV c2 v2 g] σ fun w σ' => σ' = σ ∧ w = .bool (decide (f = g)) := by
  refine fn_at Try.func23 (by decide) comp23 rfl fun Q q1 q2 => ?_
  have hcl := hz.clock
  have hd : ∀ g ∈ f.cs, g.deps.length ≤ 1073741823 := fun g hg => by have := hz.deps g hg; omega
  have hdec : decide (f = g) = (decide (f.kind = g.kind) && (decide (f.src = g.src) && (decide (f.clock = g.clock) && ((f.more == g.more) && decide (f.cs = g.cs))))) := by
    obtain ⟨a1, a2, a3, a4, a5⟩ := f
    obtain ⟨b1, b2, b3, b4, b5⟩ := g
    rw [Bool.eq_iff_iff]
    simp
  rw [hdec] at q1 q2
  simp -implicitDefEqProofs only [go_sem, Nat.reduceBEq, Nat.reduceAdd, eq_self, true_and, and_true, and_self, List.getElem?_cons_zero, List.getElem?_cons_succ, Nat.reduceLeDiff, Nat.zero_add, Nat.reduceSub, Nat.le_refl, c23, fmV, fmC]
  repeat' first
    | (refine GW_c (fun h => ?_) (fun h => ?_) <;> (try simp only [Bool.not_eq_true', Bool.not_eq_false'] at h) <;> (try simp only [h]) <;> (try simp -implicitDefEqProofs only [go_sem, Nat.reduceBEq, Nat.reduceAdd, eq_self, true_and, and_true, and_self, List.getElem?_cons_zero, List.getElem?_cons_succ, Nat.reduceLeDiff, Nat.zero_add, Nat.reduceSub, Nat.le_refl, fmC, fmV]))
    | (refine CondW_b (fun h => ?_) (fun h => ?_) <;> (try simp only [Bool.not_eq_true', Bool.not_eq_false'] at h) <;> (try simp only [h]) <;> (try simp -implicitDefEqProofs only [go_sem, Nat.reduceBEq, Nat.reduceAdd, eq_self, true_and, and_true, and_self, List.getElem?_cons_zero, List.getElem?_cons_succ, Nat.reduceLeDiff, Nat.zero_add, Nat.reduceSub, Nat.le_refl, fmC, fmV]))
    | (refine call_at (rsame_ok hf.1 hg.1 (by omega)) ?_; rintro v τ ⟨rfl, rfl⟩; refine ⟨by first | exact kept_none | exact (Ext.refl _).kept, ?_⟩; (try simp -implicitDefEqProofs only [go_sem, Nat.reduceBEq, Nat.reduceAdd, eq_self, true_and, and_true, and_self, List.getElem?_cons_zero, List.getElem?_cons_succ, Nat.reduceLeDiff, Nat.zero_add, Nat.reduceSub, Nat.le_refl, fmC, fmV]))
    | (refine call_at (sameAll_ok hf.2 hg.2 hz.cs hd) ?_; rintro v τ ⟨rfl, rfl⟩; refine ⟨by first | exact kept_none | exact (Ext.refl _).kept, ?_⟩; (try simp -implicitDefEqProofs only [go_sem, Nat.reduceBEq, Nat.reduceAdd, eq_self, true_and, and_true, and_self, List.getElem?_cons_zero, List.getElem?_cons_succ, Nat.reduceLeDiff, Nat.zero_add, Nat.reduceSub, Nat.le_refl, fmC, fmV]))
    | (refine cut_dup ?_; (try simp -implicitDefEqProofs only [go_sem, Nat.reduceBEq, Nat.reduceAdd, eq_self, true_and, and_true, and_self, List.getElem?_cons_zero, List.getElem?_cons_succ, Nat.reduceLeDiff, Nat.zero_add, Nat.reduceSub, Nat.le_refl, fmC, fmV]))
    | (refine q2 _ _ ?_; (try simp -implicitDefEqProofs only [go_sem, Nat.reduceBEq, Nat.reduceAdd, eq_self, true_and, and_true, and_self, List.getElem?_cons_zero, List.getElem?_cons_succ, Nat.reduceLeDiff, Nat.zero_add, Nat.reduceSub, Nat.le_refl, fmC, fmV]))
  all_goals (clear q1 q2 hdec; first | (simp_all; done) | grind)
end
end Go.VL.wire

namespace Go.VL.wire
open Go Go.VL Go.Proofs Go.IntWalk

section
variable {σ : St} {c v : V} {f : Fm}
theorem pos_zero (n : Nat) : decide ((0 : Int) < n) = !decide ((n : Int) = 0) := by
  cases n with
  | zero => rfl
  | succ n =>
    have h1 : decide ((0 : Int) < ((n + 1 : Nat) : Int)) = true := by rw [decide_eq_true_eq]; omega
    have h2 : decide (((n + 1 : Nat) : Int) = 0) = false := by rw [decide_eq_false_iff_not]; omega
    rw [h1, h2]; rfl
theorem kinds {k : Int} (h1 : decide (k < 1) = false) (h3 : decide (3 < k) = false) :
    (decide (k = 1) = true ∧ decide (k = 2) = false ∧ decide (k = 3) = false) ∨ (decide (k = 1) = false ∧ decide (k = 2) = true ∧ decide (k = 3) = false) ∨ (decide (k = 1) = false ∧ decide (k = 2) = false ∧ decide (k = 3) = true) := by
  have := of_decide_eq_false h1
  have := of_decide_eq_false h3
  rcases (by omega : k = 1 ∨ k = 2 ∨ k = 3) with rfl | rfl | rfl
  · exact .inl ⟨rfl, rfl, rfl⟩
  · exact .inr (.inl ⟨rfl, rfl, rfl⟩)
  · exact .inr (.inr ⟨rfl, rfl, rfl⟩)
set_option maxRecDepth 100000 in
set_option maxHeartbeats 4000000 in
theorem fchk_ok (hf : RdF σ c v f) (hz : FmZ f) : CallA Try.prog 18 [fmV c v f] σ fun w σ' => σ' = σ ∧ w = .int .i64 (fchkI f) := by
  obtain ⟨b, R, z, rfl, -, -⟩ := id hf.1
  obtain ⟨l, hlm, hvl, hds⟩ := id hf.2
  obtain ⟨b2, R2, z2, rfl, -, -⟩ := id hvl
  refine fn_at Try.func18 (by decide) comp18 rfl fun Q q1 q2 => ?_
  clear q1
  have hl := intsV_len f.clock
  have hl2 := cgsV_len l
  have hcs : f.cs.length = l.length := by rw [← hlm]; simp
  unfold fchkI at q2
  cases h1 : decide (f.kind < 1)
  case true =>
    simp -implicitDefEqProofs only [go_sem, Nat.reduceBEq, Nat.reduceAdd, eq_self, true_and, and_true, and_self, List.getElem?_cons_zero, List.getElem?_cons_succ, Nat.reduceLeDiff, Nat.zero_add, Nat.reduceSub, Nat.le_refl, c18, fmV, fmC, h1]
    refine q2 _ _ ?_
    rw [h1]
    simp -implicitDefEqProofs only [go_sem, Nat.reduceBEq, Nat.reduceAdd, eq_self, true_and, and_true, and_self, List.getElem?_cons_zero, List.getElem?_cons_succ, Nat.reduceLeDiff, Nat.zero_add, Nat.reduceSub, Nat.le_refl, cond_true, cond_false, Bool.true_or, Bool.false_or, Bool.or_true, Bool.or_false, Bool.and_true, Bool.and_false, Bool.true_and, Bool.false_and, Bool.or_self, Bool.and_self]
  cases h2 : decide (3 < f.kind)
  case true =>
    simp -implicitDefEqProofs only [go_sem, Nat.reduceBEq, Nat.reduceAdd, eq_self, true_and, and_true, and_self, List.getElem?_cons_zero, List.getElem?_cons_succ, Nat.reduceLeDiff, Nat.zero_add, Nat.reduceSub, Nat.le_refl, c18, fmV, fmC, h1, h2]
    refine q2 _ _ ?_
    rw [h1, h2]
    simp -implicitDefEqProofs only [go_sem, Nat.reduceBEq, Nat.reduceAdd, eq_self, true_and, and_true, and_self, List.getElem?_cons_zero, List.getElem?_cons_succ, Nat.reduceLeDiff, Nat.zero_add, Nat.reduceSub, Nat.le_refl, cond_true, cond_false, Bool.true_or, Bool.false_or, Bool.or_true, Bool.or_false, Bool.and_true, Bool.and_false, Bool.true_and, Bool.false_and, Bool.or_self, Bool.and_self]
  cases h3 : decide (f.src < 0)
  case true =>
    simp -implicitDefEqProofs only [go_sem, Nat.reduceBEq, Nat.reduceAdd, eq_self, true_and, and_true, and_self, List.getElem?_cons_zero, List.getElem?_cons_succ, Nat.reduceLeDiff, Nat.zero_add, Nat.reduceSub, Nat.le_refl, c18, fmV, fmC, h1, h2, h3]
    refine q2 _ _ ?_
    rw [h1, h2, h3]
    simp -implicitDefEqProofs only [go_sem, Nat.reduceBEq, Nat.reduceAdd, eq_self, true_and, and_true, and_self, List.getElem?_cons_zero, List.getElem?_cons_succ, Nat.reduceLeDiff, Nat.zero_add, Nat.reduceSub, Nat.le_refl, cond_true, cond_false, Bool.true_or, Bool.false_or, Bool.or_true, Bool.or_false, Bool.and_true, Bool.and_false, Bool.true_and, Bool.false_and, Bool.or_self, Bool.and_self]
  cases h4 : decide (64 ≤ f.src)
  case true =>
    simp -implicitDefEqProofs only [go_sem, Nat.reduceBEq, Nat.reduceAdd, eq_self, true_and, and_true, and_self, List.getElem?_cons_zero, List.getElem?_cons_succ, Nat.reduceLeDiff, Nat.zero_add, Nat.reduceSub, Nat.le_refl, c18, fmV, fmC, h1, h2, h3, h4]
    refine q2 _ _ ?_
    rw [h1, h2, h3, h4]
    simp -implicitDefEqProofs only [go_sem, Nat.reduceBEq, Nat.reduceAdd, eq_self, true_and, and_true, and_self, List.getElem?_cons_zero, List.getElem?_cons_succ, Nat.reduceLeDiff, Nat.zero_add, Nat.reduceSub, Nat.le_refl, cond_true, cond_false, Bool.true_or, Bool.false_or, Bool.or_true, Bool.or_false, Bool.and_true, Bool.and_false, Bool.true_and, Bool.false_and, Bool.or_self, Bool.and_self]
  rw [h1, h2, h3, h4] at q2
  simp only [Bool.or_self, cond_false] at q2
  simp -implicitDefEqProofs only [go_sem, Nat.reduceBEq, Nat.reduceAdd, eq_self, true_and, and_true, and_self, List.getElem?_cons_zero, List.getElem?_cons_succ, Nat.reduceLeDiff, Nat.zero_add, Nat.reduceSub, Nat.le_refl, c18, fmV, fmC, h1, h2, h3, h4]
  refine call_at (clock_ok hf.1) ?_
  rintro v τ ⟨rfl, rfl⟩
  refine ⟨kept_none, ?_⟩
  cases h6 : decide (clockI f.clock = 0) <;> rw [h6] at q2
  case false =>
    simp -implicitDefEqProofs only [go_sem, Nat.reduceBEq, Nat.reduceAdd, eq_self, true_and, and_true, and_self, List.getElem?_cons_zero, List.getElem?_cons_succ, Nat.reduceLeDiff, Nat.zero_add, Nat.reduceSub, Nat.le_refl, h6]
    refine q2 _ _ ?_
    simp -implicitDefEqProofs only [go_sem, Nat.reduceBEq, Nat.reduceAdd, eq_self, true_and, and_true, and_self, List.getElem?_cons_zero, List.getElem?_cons_succ, Nat.reduceLeDiff, Nat.zero_add, Nat.reduceSub, Nat.le_refl, cond_true, cond_false, Bool.true_or, Bool.false_or, Bool.or_true, Bool.or_false, Bool.and_true, Bool.and_false, Bool.true_and, Bool.false_and, Bool.or_self, Bool.and_self]
  have h64 : f.clock.length ≤ 64 := by
    have := of_decide_eq_true h6
    unfold clockI at this
    cases h : decide ((64 : Int) < f.clock.length) with
    | true => rw [h] at this; simp at this
    | false => have := of_decide_eq_false h; omega
  simp only [Bool.not_true, cond_false] at q2
  cases h0 : decide ((0 : Int) < f.clock.length)
  case' false =>
    have hlz : lastZ f.clock = false := by unfold lastZ; rw [h0]; rfl
    simp -implicitDefEqProofs only [go_sem, Nat.reduceBEq, Nat.reduceAdd, eq_self, true_and, and_true, and_self, List.getElem?_cons_zero, List.getElem?_cons_succ, Nat.reduceLeDiff, Nat.zero_add, Nat.reduceSub, Nat.le_refl, h6, hl, h0]
  case' true =>
    have h0' := of_decide_eq_true h0
    have hi : f.clock.length - 1 < f.clock.length := by omega
    have hget := intsV_get hi
    have hw1 : IntKind.i64.wrap ((f.clock.length : Int) - 1) = ((f.clock.length - 1 : Nat) : Int) := by rw [i64_in _ (by omega)]; omega
    have hlz : lastZ f.clock = decide (f.clock[f.clock.length - 1] = 0) := by
      unfold lastZ
      rw [h0, show ((f.clock.length : Int) - 1).toNat = f.clock.length - 1 from by omega]
      simp [hi]
    obtain ⟨k1, k2⟩ := rdl hf.1 (intsV_ne hi)
    generalize f.clock[f.clock.length - 1] = x at hget hlz
    have hb : (0 : Int) ≤ ((f.clock.length - 1 : Nat) : Int) ∧ ((f.clock.length - 1 : Nat) : Int) < f.clock.length ∧ z = 1 := ⟨by omega, by omega, k2⟩
    simp -implicitDefEqProofs only [go_sem, Nat.reduceBEq, Nat.reduceAdd, eq_self, true_and, and_true, and_self, List.getElem?_cons_zero, List.getElem?_cons_succ, Nat.reduceLeDiff, Nat.zero_add, Nat.reduceSub, Nat.le_refl, h6, hl, h0, hw1, hget]
    refine ⟨hb, k1, ?_⟩
    cases hx : decide (x = 0) <;> rw [hx] at hlz
    case true =>
      simp -implicitDefEqProofs only [go_sem, Nat.reduceBEq, Nat.reduceAdd, eq_self, true_and, and_true, and_self, List.getElem?_cons_zero, List.getElem?_cons_succ, Nat.reduceLeDiff, Nat.zero_add, Nat.reduceSub, Nat.le_refl, hx]
      rw [hlz] at q2
      refine q2 _ _ ?_
      simp -implicitDefEqProofs only [go_sem, Nat.reduceBEq, Nat.reduceAdd, eq_self, true_and, and_true, and_self, List.getElem?_cons_zero, List.getElem?_cons_succ, Nat.reduceLeDiff, Nat.zero_add, Nat.reduceSub, Nat.le_refl, cond_true, cond_false, Bool.true_or, Bool.false_or, Bool.or_true, Bool.or_false, Bool.and_true, Bool.and_false, Bool.true_and, Bool.false_and, Bool.or_self, Bool.and_self]
    simp -implicitDefEqProofs only [go_sem, Nat.reduceBEq, Nat.reduceAdd, eq_self, true_and, and_true, and_self, List.getElem?_cons_zero, List.getElem?_cons_succ, Nat.reduceLeDiff, Nat.zero_add, Nat.reduceSub, Nat.le_refl, hx]
  all_goals
    rw [hlz, hcs] at q2
    simp only [cond_false] at q2
    rw [hl2]
    cases h7 : decide ((64 : Int) < l.length) <;> rw [h7] at q2
    case true =>
      simp -implicitDefEqProofs only [go_sem, Nat.reduceBEq, Nat.reduceAdd, eq_self, true_and, and_true, and_self, List.getElem?_cons_zero, List.getElem?_cons_succ, Nat.reduceLeDiff, Nat.zero_add, Nat.reduceSub, Nat.le_refl, h7]
      refine q2 _ _ ?_
      simp -implicitDefEqProofs only [go_sem, Nat.reduceBEq, Nat.reduceAdd, eq_self, true_and, and_true, and_self, List.getElem?_cons_zero, List.getElem?_cons_succ, Nat.reduceLeDiff, Nat.zero_add, Nat.reduceSub, Nat.le_refl, cond_true, cond_false, Bool.true_or, Bool.false_or, Bool.or_true, Bool.or_false, Bool.and_true, Bool.and_false, Bool.true_and, Bool.false_and, Bool.or_self, Bool.and_self]
    simp only [cond_false] at q2
    have h7' := of_decide_eq_false h7
    have hbk : badK f = ((!decide (f.kind = 3) && f.more) || ((decide (f.kind = 1) && (decide ((0 : Int) < f.clock.length) || decide ((l.length : Int) = 0))) || (decide (f.kind = 2) && decide ((0 : Int) < l.length)))) := by
      unfold badK; rw [hcs]
    rw [h0] at hbk
    have h9 := pos_zero l.length
    rcases kinds h1 h2 with ⟨e1, e2, e3⟩ | ⟨e1, e2, e3⟩ | ⟨e1, e2, e3⟩ <;> cases hm : f.more <;> cases h8 : decide ((l.length : Int) = 0) <;> rw [e1, e2, e3, hm, h9, h8] at hbk <;> rw [hbk] at q2 <;> rw [h8] at h9
    all_goals
      simp only [Bool.not_true, Bool.not_false, Bool.and_true, Bool.and_false, Bool.true_and, Bool.false_and, Bool.or_true, Bool.true_or, Bool.or_false, Bool.false_or, cond_true, cond_false] at q2 h9
      simp -implicitDefEqProofs only [go_sem, Nat.reduceBEq, Nat.reduceAdd, eq_self, true_and, and_true, and_self, List.getElem?_cons_zero, List.getElem?_cons_succ, Nat.reduceLeDiff, Nat.zero_add, Nat.reduceSub, Nat.le_refl, h7, e1, e2, e3, hl, hl2, h0, h8, h9, hm]
      first
      | (refine q2 _ _ ?_
         simp -implicitDefEqProofs only [go_sem, Nat.reduceBEq, Nat.reduceAdd, eq_self, true_and, and_true, and_self, List.getElem?_cons_zero, List.getElem?_cons_succ, Nat.reduceLeDiff, Nat.zero_add, Nat.reduceSub, Nat.le_refl, cond_true, cond_false, Bool.true_or, Bool.false_or, Bool.or_true, Bool.or_false, Bool.and_true, Bool.and_false, Bool.true_and, Bool.false_and, Bool.or_self, Bool.and_self]
         done)
      | skip
    all_goals
      refine loop_at (fun (i : Nat) => ⟨[(86, .v (.sl b2 R2 z2 (cgsV l))), (87, .v (.int .i64 l.length)), (88, .v (.int .i64 i))], []⟩) (fun i τ' => τ' = τ ∧ i ≤ l.length ∧ errL f.cs = errL (f.cs.drop i)) (fun i => l.length - i) 0 ?_ ?_ ?_
      · exact .inr (by simp -implicitDefEqProofs only [go_sem, Nat.reduceBEq, Nat.reduceAdd, eq_self, true_and, and_true, and_self, List.getElem?_cons_zero, List.getElem?_cons_succ, Nat.reduceLeDiff, Nat.zero_add, Nat.reduceSub, Nat.le_refl, hl2]; trivial)
      · exact ⟨rfl, Nat.zero_le _, by simp⟩
      rintro i τ' ⟨rfl, g1, g2⟩ Z z1 z2 z3
      simp -implicitDefEqProofs only [go_sem, Nat.reduceBEq, Nat.reduceAdd, eq_self, true_and, and_true, and_self, List.getElem?_cons_zero, List.getElem?_cons_succ, Nat.reduceLeDiff, Nat.zero_add, Nat.reduceSub, Nat.le_refl, Nat.lt_irrefl]
      refine CondW_b (fun hc => ?_) (fun hc => ?_)
      · have hi : i < l.length := by simpa using hc
        have hget := cgsV_get hi
        obtain ⟨k1, k2⟩ := rdl hvl (cgsV_ne hi)
        have hdi := hds _ (List.getElem_mem hi)
        have hcg : f.cs.drop i = l[i].2 :: f.cs.drop (i + 1) := by
          rw [← hlm, List.drop_eq_getElem_cons (by simpa using hi)]; simp
        have hnm := hz.name l[i].2 (by rw [← hlm]; exact List.mem_map.2 ⟨_, List.getElem_mem hi, rfl⟩)
        generalize l[i] = x at hget hdi hcg hnm
        obtain ⟨d, g⟩ := x
        simp only at hget hdi hcg hnm
        rw [hcg, errL] at g2
        obtain ⟨db, dR, dz, rfl, -, -⟩ := id hdi
        simp -implicitDefEqProofs only [go_sem, Nat.reduceBEq, Nat.reduceAdd, eq_self, true_and, and_true, and_self, List.getElem?_cons_zero, List.getElem?_cons_succ, Nat.reduceLeDiff, Nat.zero_add, Nat.reduceSub, Nat.le_refl, hget, cgC]
        rw [hl2]
        refine ⟨⟨by omega, by omega, k2⟩, k1, call_at (chk_ok (d := .sl db dR dz (intsV .i64 g.deps)) (g := g) hdi (by omega)) ?_⟩
        rintro v τ2 ⟨rfl, rfl⟩
        refine ⟨kept_none, ?_⟩
        cases he : decide (chkI g = 0) <;> rw [he] at g2
        · simp -implicitDefEqProofs only [go_sem, Nat.reduceBEq, Nat.reduceAdd, eq_self, true_and, and_true, and_self, List.getElem?_cons_zero, List.getElem?_cons_succ, Nat.reduceLeDiff, Nat.zero_add, Nat.reduceSub, Nat.le_refl, he]
          refine z3 _ _ ?_
          simp -implicitDefEqProofs only [go_sem, Nat.reduceBEq, Nat.reduceAdd, eq_self, true_and, and_true, and_self, List.getElem?_cons_zero, List.getElem?_cons_succ, Nat.reduceLeDiff, Nat.zero_add, Nat.reduceSub, Nat.le_refl, Nat.lt_irrefl]
          refine q2 _ _ ?_
          simp -implicitDefEqProofs only [go_sem, Nat.reduceBEq, Nat.reduceAdd, eq_self, true_and, and_true, and_self, List.getElem?_cons_zero, List.getElem?_cons_succ, Nat.reduceLeDiff, Nat.zero_add, Nat.reduceSub, Nat.le_refl, g2, cond_false]
        · simp -implicitDefEqProofs only [go_sem, Nat.reduceBEq, Nat.reduceAdd, eq_self, true_and, and_true, and_self, List.getElem?_cons_zero, List.getElem?_cons_succ, Nat.reduceLeDiff, Nat.zero_add, Nat.reduceSub, Nat.le_refl, he]
          refine z1 (i + 1) _ _ (.inr ?_) (by omega) ⟨rfl, by omega, g2⟩
          simp -implicitDefEqProofs only [go_sem, Nat.reduceBEq, Nat.reduceAdd, eq_self, true_and, and_true, and_self, List.getElem?_cons_zero, List.getElem?_cons_succ, Nat.reduceLeDiff, Nat.zero_add, Nat.reduceSub, Nat.le_refl, Nat.lt_irrefl]
          rw [i64_in _ (by omega)]; simp
      · have hi : ¬ i < l.length := by simpa using hc
        rw [List.drop_of_length_le (by omega)] at g2
        simp -implicitDefEqProofs only [go_sem, Nat.reduceBEq, Nat.reduceAdd, eq_self, true_and, and_true, and_self, List.getElem?_cons_zero, List.getElem?_cons_succ, Nat.reduceLeDiff, Nat.zero_add, Nat.reduceSub, Nat.le_refl, Nat.lt_irrefl]
        refine z2 _ _ _ ?_
        simp -implicitDefEqProofs only [go_sem, Nat.reduceBEq, Nat.reduceAdd, eq_self, true_and, and_true, and_self, List.getElem?_cons_zero, List.getElem?_cons_succ, Nat.reduceLeDiff, Nat.zero_add, Nat.reduceSub, Nat.le_refl, Nat.lt_irrefl]
        refine q2 _ _ ?_
        simp -implicitDefEqProofs only [go_sem, Nat.reduceBEq, Nat.reduceAdd, eq_self, true_and, and_true, and_self, List.getElem?_cons_zero, List.getElem?_cons_succ, Nat.reduceLeDiff, Nat.zero_add, Nat.reduceSub, Nat.le_refl, g2, errL]
end
end Go.VL.wire

namespace Go.VL.wire
open Go Go.VL Go.Proofs Go.IntWalk

section
variable {σ : St} {c v : V} {f : Fm}
set_option maxRecDepth 100000 in
set_option maxHeartbeats 4000000 in
theorem rfchk_ok (hf : RdF σ c v f) (hz : FmZ f) : CallA Try.prog 20 [fmV c v f] σ fun w σ' => (Ext σ σ' ∧ σ'.objs = σ.objs) ∧ w = .int .i64 (fchkI f) := by
  obtain ⟨b, R, z, rfl, -, -⟩ := id hf.1
  obtain ⟨l, hlm, hvl, hds⟩ := id hf.2
  obtain ⟨b2, R2, z2, rfl, -, -⟩ := id hvl
  refine fn_at Try.func20 (by decide) comp20 rfl fun Q q1 q2 => ?_
  clear q1
  have hl := intsV_len f.clock
  have hl2 := cgsV_len l
  have hcs : f.cs.length = l.length := by rw [← hlm]; simp
  unfold fchkI at q2
  cases h1 : decide (f.kind < 1)
  case true =>
    simp -implicitDefEqProofs only [go_sem, Nat.reduceBEq, Nat.reduceAdd, eq_self, true_and, and_true, and_self, List.getElem?_cons_zero, List.getElem?_cons_succ, Nat.reduceLeDiff, Nat.zero_add, Nat.reduceSub, Nat.le_refl, c20, fmV, fmC, h1]
    refine q2 _ _ ?_
    rw [h1]
    simp -implicitDefEqProofs only [go_sem, Nat.reduceBEq, Nat.reduceAdd, eq_self, true_and, and_true, and_self, List.getElem?_cons_zero, List.getElem?_cons_succ, Nat.reduceLeDiff, Nat.zero_add, Nat.reduceSub, Nat.le_refl, cond_true, cond_false, Bool.true_or, Bool.false_or, Bool.or_true, Bool.or_false, Bool.and_true, Bool.and_false, Bool.true_and, Bool.false_and, Bool.or_self, Bool.and_self]
    exact Ext.refl _
  cases h2 : decide (3 < f.kind)
  case true =>
    simp -implicitDefEqProofs only [go_sem, Nat.reduceBEq, Nat.reduceAdd, eq_self, true_and, and_true, and_self, List.getElem?_cons_zero, List.getElem?_cons_succ, Nat.reduceLeDiff, Nat.zero_add, Nat.reduceSub, Nat.le_refl, c20, fmV, fmC, h1, h2]
    refine q2 _ _ ?_
    rw [h1, h2]
    simp -implicitDefEqProofs only [go_sem, Nat.reduceBEq, Nat.reduceAdd, eq_self, true_and, and_true, and_self, List.getElem?_cons_zero, List.getElem?_cons_succ, Nat.reduceLeDiff, Nat.zero_add, Nat.reduceSub, Nat.le_refl, cond_true, cond_false, Bool.true_or, Bool.false_or, Bool.or_true, Bool.or_false, Bool.and_true, Bool.and_false, Bool.true_and, Bool.false_and, Bool.or_self, Bool.and_self]
    exact Ext.refl _
  cases h3 : decide (f.src < 0)
  case true =>
    simp -implicitDefEqProofs only [go_sem, Nat.reduceBEq, Nat.reduceAdd, eq_self, true_and, and_true, and_self, List.getElem?_cons_zero, List.getElem?_cons_succ, Nat.reduceLeDiff, Nat.zero_add, Nat.reduceSub, Nat.le_refl, c20, fmV, fmC, h1, h2, h3]
    refine q2 _ _ ?_
    rw [h1, h2, h3]
    simp -implicitDefEqProofs only [go_sem, Nat.reduceBEq, Nat.reduceAdd, eq_self, true_and, and_true, and_self, List.getElem?_cons_zero, List.getElem?_cons_succ, Nat.reduceLeDiff, Nat.zero_add, Nat.reduceSub, Nat.le_refl, cond_true, cond_false, Bool.true_or, Bool.false_or, Bool.or_true, Bool.or_false, Bool.and_true, Bool.and_false, Bool.true_and, Bool.false_and, Bool.or_self, Bool.and_self]
    exact Ext.refl _
  cases h4 : decide (64 ≤ f.src)
  case true =>
    simp -implicitDefEqProofs only [go_sem, Nat.reduceBEq, Nat.reduceAdd, eq_self, true_and, and_true, and_self, List.getElem?_cons_zero, List.getElem?_cons_succ, Nat.reduceLeDiff, Nat.zero_add, Nat.reduceSub, Nat.le_refl, c20, fmV, fmC, h1, h2, h3, h4]
    refine q2 _ _ ?_
    rw [h1, h2, h3, h4]
    simp -implicitDefEqProofs only [go_sem, Nat.reduceBEq, Nat.reduceAdd, eq_self, true_and, and_true, and_self, List.getElem?_cons_zero, List.getElem?_cons_succ, Nat.reduceLeDiff, Nat.zero_add, Nat.reduceSub, Nat.le_refl, cond_true, cond_false, Bool.true_or, Bool.false_or, Bool.or_true, Bool.or_false, Bool.and_true, Bool.and_false, Bool.true_and, Bool.false_and, Bool.or_self, Bool.and_self]
    exact Ext.refl _
  rw [h1, h2, h3, h4] at q2
  simp only [Bool.or_self, cond_false] at q2
  simp -implicitDefEqProofs only [go_sem, Nat.reduceBEq, Nat.reduceAdd, eq_self, true_and, and_true, and_self, List.getElem?_cons_zero, List.getElem?_cons_succ, Nat.reduceLeDiff, Nat.zero_add, Nat.reduceSub, Nat.le_refl, c20, fmV, fmC, h1, h2, h3, h4]
  refine call_at (rclock_ok hf.1) ?_
  rintro v τ ⟨rfl, rfl⟩
  refine ⟨kept_none, ?_⟩
  cases h6 : decide (clockI f.clock = 0) <;> rw [h6] at q2
  case false =>
    simp -implicitDefEqProofs only [go_sem, Nat.reduceBEq, Nat.reduceAdd, eq_self, true_and, and_true, and_self, List.getElem?_cons_zero, List.getElem?_cons_succ, Nat.reduceLeDiff, Nat.zero_add, Nat.reduceSub, Nat.le_refl, h6]
    refine call_at (rclock_ok hf.1) ?_
    rintro v τ ⟨rfl, rfl⟩
    refine ⟨kept_none, ?_⟩
    simp -implicitDefEqProofs only [go_sem, Nat.reduceBEq, Nat.reduceAdd, eq_self, true_and, and_true, and_self, List.getElem?_cons_zero, List.getElem?_cons_succ, Nat.reduceLeDiff, Nat.zero_add, Nat.reduceSub, Nat.le_refl, Nat.lt_irrefl]
    refine q2 _ _ ?_
    simp -implicitDefEqProofs only [go_sem, Nat.reduceBEq, Nat.reduceAdd, eq_self, true_and, and_true, and_self, List.getElem?_cons_zero, List.getElem?_cons_succ, Nat.reduceLeDiff, Nat.zero_add, Nat.reduceSub, Nat.le_refl, cond_true, cond_false, Bool.true_or, Bool.false_or, Bool.or_true, Bool.or_false, Bool.and_true, Bool.and_false, Bool.true_and, Bool.false_and, Bool.or_self, Bool.and_self]
    exact Ext.refl _
  have h64 : f.clock.length ≤ 64 := by
    have := of_decide_eq_true h6
    unfold clockI at this
    cases h : decide ((64 : Int) < f.clock.length) with
    | true => rw [h] at this; simp at this
    | false => have := of_decide_eq_false h; omega
  simp only [Bool.not_true, cond_false] at q2
  simp -implicitDefEqProofs only [go_sem, Nat.reduceBEq, Nat.reduceAdd, eq_self, true_and, and_true, and_self, List.getElem?_cons_zero, List.getElem?_cons_succ, Nat.reduceLeDiff, Nat.zero_add, Nat.reduceSub, Nat.le_refl, h6]
  refine call_at (trim_ok hf.1 (by omega)) ?_
  rintro v τ1 ⟨⟨out, zz, ht, ⟨b3, R3, z3, rfl, -, -⟩⟩, he, ho⟩
  refine ⟨he.kept, ?_⟩
  have hl3 := intsV_len out
  have hlen2 := ht.len
  simp -implicitDefEqProofs only [go_sem, Nat.reduceBEq, Nat.reduceAdd, eq_self, true_and, and_true, and_self, List.getElem?_cons_zero, List.getElem?_cons_succ, Nat.reduceLeDiff, Nat.zero_add, Nat.reduceSub, Nat.le_refl, hl, hl3, hlen2]
  cases hlz : lastZ f.clock <;> rw [hlz] at q2
  case true =>
    simp -implicitDefEqProofs only [go_sem, Nat.reduceBEq, Nat.reduceAdd, eq_self, true_and, and_true, and_self, List.getElem?_cons_zero, List.getElem?_cons_succ, Nat.reduceLeDiff, Nat.zero_add, Nat.reduceSub, Nat.le_refl, Nat.lt_irrefl]
    refine q2 _ _ ?_
    simp -implicitDefEqProofs only [go_sem, Nat.reduceBEq, Nat.reduceAdd, eq_self, true_and, and_true, and_self, List.getElem?_cons_zero, List.getElem?_cons_succ, Nat.reduceLeDiff, Nat.zero_add, Nat.reduceSub, Nat.le_refl, cond_true, cond_false, Bool.true_or, Bool.false_or, Bool.or_true, Bool.or_false, Bool.and_true, Bool.and_false, Bool.true_and, Bool.false_and, Bool.or_self, Bool.and_self]
    exact ⟨he, ho⟩
  rw [hcs] at q2
  simp only [cond_false] at q2
  simp -implicitDefEqProofs only [go_sem, Nat.reduceBEq, Nat.reduceAdd, eq_self, true_and, and_true, and_self, List.getElem?_cons_zero, List.getElem?_cons_succ, Nat.reduceLeDiff, Nat.zero_add, Nat.reduceSub, Nat.le_refl, hl2]
  cases h7 : decide ((64 : Int) < l.length) <;> rw [h7] at q2
  case true =>
    simp -implicitDefEqProofs only [go_sem, Nat.reduceBEq, Nat.reduceAdd, eq_self, true_and, and_true, and_self, List.getElem?_cons_zero, List.getElem?_cons_succ, Nat.reduceLeDiff, Nat.zero_add, Nat.reduceSub, Nat.le_refl, h7]
    refine q2 _ _ ?_
    simp -implicitDefEqProofs only [go_sem, Nat.reduceBEq, Nat.reduceAdd, eq_self, true_and, and_true, and_self, List.getElem?_cons_zero, List.getElem?_cons_succ, Nat.reduceLeDiff, Nat.zero_add, Nat.reduceSub, Nat.le_refl, cond_true, cond_false, Bool.true_or, Bool.false_or, Bool.or_true, Bool.or_false, Bool.and_true, Bool.and_false, Bool.true_and, Bool.false_and, Bool.or_self, Bool.and_self]
    exact ⟨he, ho⟩
  simp only [cond_false] at q2
  have h7' := of_decide_eq_false h7
  have hbk : badK f = ((!decide (f.kind = 3) && f.more) || ((decide (f.kind = 1) && (decide ((0 : Int) < f.clock.length) || decide ((l.length : Int) = 0))) || (decide (f.kind = 2) && decide ((0 : Int) < l.length)))) := by
    unfold badK; rw [hcs]
  have h9 := pos_zero l.length
  have q3 : ∀ (F : Fr) (σ' : St) (n : Int), sget 2 F.s = .v (.int .i64 n) → (Ext τ σ' ∧ σ'.objs = τ.objs) → n = (bif badK f then 2 else errL f.cs) → Q .ret F σ' := by
    intro F σ' n h1 h2 h3
    refine q2 _ _ ?_
    simp only [retW, Fr.va, Fr.ev, h1, S.val, List.nil_append, retV]
    exact ⟨h2, by rw [h3]⟩
  clear q2
  clear ht hl3 hlen2 hlz h6 h64 h3 h4 hf
  have he0 : Ext τ τ1 ∧ τ1.objs = τ.objs := ⟨he, ho⟩
  simp -implicitDefEqProofs only [go_sem, Nat.reduceBEq, Nat.reduceAdd, eq_self, true_and, and_true, and_self, List.getElem?_cons_zero, List.getElem?_cons_succ, Nat.reduceLeDiff, Nat.zero_add, Nat.reduceSub, Nat.le_refl, h7]
  rcases kinds h1 h2 with ⟨e1, e2, e3⟩ | ⟨e1, e2, e3⟩ | ⟨e1, e2, e3⟩ <;> rw [e1, e2, e3] at hbk <;> simp only [Bool.not_true, Bool.not_false, Bool.true_and, Bool.false_and, Bool.or_false, Bool.false_or] at hbk
  case' inl =>
    cases h0 : decide ((0 : Int) < f.clock.length) <;> cases hm : f.more <;> cases h8 : decide ((l.length : Int) = 0) <;> rw [h0, hm, h8] at hbk
    all_goals simp -implicitDefEqProofs only [go_sem, Nat.reduceBEq, Nat.reduceAdd, eq_self, true_and, and_true, and_self, List.getElem?_cons_zero, List.getElem?_cons_succ, Nat.reduceLeDiff, Nat.zero_add, Nat.reduceSub, Nat.le_refl, e1, e2, hl, hl2, h0, h8, hm]
  case' inr.inl =>
    cases hm : f.more <;> cases h8 : decide ((l.length : Int) = 0) <;> rw [h8] at h9 <;> rw [hm, h9] at hbk <;> simp only [Bool.not_true, Bool.not_false] at h9
    all_goals simp -implicitDefEqProofs only [go_sem, Nat.reduceBEq, Nat.reduceAdd, eq_self, true_and, and_true, and_self, List.getElem?_cons_zero, List.getElem?_cons_succ, Nat.reduceLeDiff, Nat.zero_add, Nat.reduceSub, Nat.le_refl, e1, e2, hl, hl2, h9, hm]
  case' inr.inr =>
    simp -implicitDefEqProofs only [go_sem, Nat.reduceBEq, Nat.reduceAdd, eq_self, true_and, and_true, and_self, List.getElem?_cons_zero, List.getElem?_cons_succ, Nat.reduceLeDiff, Nat.zero_add, Nat.reduceSub, Nat.le_refl, e1, e2]
  all_goals
    try simp only [Bool.or_self, Bool.true_or, Bool.or_true, Bool.false_or, Bool.or_false, Bool.not_true, Bool.not_false] at hbk
  all_goals first
    | (refine q3 _ _ 2 rfl he0 ?_
       rw [hbk]; rfl)
    | skip
  all_goals
    rw [hbk] at q3
    simp only [cond_false] at q3
    refine loop_at (fun (i : Nat) => ⟨[(1, .loc 1 0), (3, .v (.int .i64 i))], [(1, fmC (.sl b R z (intsV .i64 f.clock)) (.sl b2 R2 z2 (cgsV l)) f)]⟩) (fun i τ' => Ext τ τ' ∧ τ'.objs = τ.objs ∧ i ≤ l.length ∧ errL f.cs = errL (f.cs.drop i)) (fun i => l.length - i) 0 ?_ ?_ ?_
    · first
      | exact .inr (by simp -implicitDefEqProofs only [go_sem, Nat.reduceBEq, Nat.reduceAdd, eq_self, true_and, and_true, and_self, List.getElem?_cons_zero, List.getElem?_cons_succ, Nat.reduceLeDiff, Nat.zero_add, Nat.reduceSub, Nat.le_refl, fmC]; trivial)
      | exact .inr (by simp -implicitDefEqProofs only [go_sem, Nat.reduceBEq, Nat.reduceAdd, eq_self, true_and, and_true, and_self, List.getElem?_cons_zero, List.getElem?_cons_succ, Nat.reduceLeDiff, Nat.zero_add, Nat.reduceSub, Nat.le_refl, fmC, hm]; trivial)
    · exact ⟨he, ho, Nat.zero_le _, by simp⟩
    rintro i τ' ⟨g0, g0', g1, g2⟩ Z z1 z2' z3'
    simp -implicitDefEqProofs only [go_sem, Nat.reduceBEq, Nat.reduceAdd, eq_self, true_and, and_true, and_self, List.getElem?_cons_zero, List.getElem?_cons_succ, Nat.reduceLeDiff, Nat.zero_add, Nat.reduceSub, Nat.le_refl, fmC, hl2]
    refine CondW_b (fun hc => ?_) (fun hc => ?_)
    · have hi : i < l.length := by simpa using hc
      have hget := cgsV_get hi
      obtain ⟨k1, k2⟩ := rdl (hvl.ext g0) (cgsV_ne hi)
      have hdi := (hds _ (List.getElem_mem hi)).ext g0
      have hcg : f.cs.drop i = l[i].2 :: f.cs.drop (i + 1) := by
        rw [← hlm, List.drop_eq_getElem_cons (by simpa using hi)]; simp
      have hnm := hz.name l[i].2 (by rw [← hlm]; exact List.mem_map.2 ⟨_, List.getElem_mem hi, rfl⟩)
      generalize l[i] = x at hget hdi hcg hnm
      obtain ⟨d, g⟩ := x
      simp only at hget hdi hcg hnm
      rw [hcg, errL] at g2
      simp -implicitDefEqProofs only [go_sem, Nat.reduceBEq, Nat.reduceAdd, eq_self, true_and, and_true, and_self, List.getElem?_cons_zero, List.getElem?_cons_succ, Nat.reduceLeDiff, Nat.zero_add, Nat.reduceSub, Nat.le_refl, hget, cgC]
      rw [hl2]
      refine ⟨⟨by omega, by omega, k2⟩, k1, call_at (rchk_ok (d := d) (g := g) hdi (by omega)) ?_⟩
      rintro v τ2 ⟨⟨a1, a2⟩, rfl⟩
      refine ⟨kept_none, ?_⟩
      have k3 := rdl ((hvl.ext g0).ext a1) (cgsV_ne hi)
      cases he : decide (chkI g = 0) <;> rw [he] at g2
      · simp -implicitDefEqProofs only [go_sem, Nat.reduceBEq, Nat.reduceAdd, eq_self, true_and, and_true, and_self, List.getElem?_cons_zero, List.getElem?_cons_succ, Nat.reduceLeDiff, Nat.zero_add, Nat.reduceSub, Nat.le_refl, he, hget, cgC]
        rw [hl2]
        refine ⟨⟨by omega, by omega, k2⟩, k3.1, call_at (rchk_ok (d := d) (g := g) (hdi.ext a1) (by omega)) ?_⟩
        rintro v τ3 ⟨⟨a3, a4⟩, rfl⟩
        refine ⟨kept_none, ?_⟩
        simp -implicitDefEqProofs only [go_sem, Nat.reduceBEq, Nat.reduceAdd, eq_self, true_and, and_true, and_self, List.getElem?_cons_zero, List.getElem?_cons_succ, Nat.reduceLeDiff, Nat.zero_add, Nat.reduceSub, Nat.le_refl, Nat.lt_irrefl]
        refine z3' _ _ ?_
        simp -implicitDefEqProofs only [go_sem, Nat.reduceBEq, Nat.reduceAdd, eq_self, true_and, and_true, and_self, List.getElem?_cons_zero, List.getElem?_cons_succ, Nat.reduceLeDiff, Nat.zero_add, Nat.reduceSub, Nat.le_refl, Nat.lt_irrefl]
        refine q3 _ _ _ rfl ⟨g0.trans (a1.trans a3), a4.trans (a2.trans g0')⟩ ?_
        rw [g2]; rfl
      · simp -implicitDefEqProofs only [go_sem, Nat.reduceBEq, Nat.reduceAdd, eq_self, true_and, and_true, and_self, List.getElem?_cons_zero, List.getElem?_cons_succ, Nat.reduceLeDiff, Nat.zero_add, Nat.reduceSub, Nat.le_refl, he]
        refine z1 (i + 1) _ _ (.inr ?_) (by omega) ⟨g0.trans a1, a2.trans g0', by omega, g2⟩
        simp -implicitDefEqProofs only [go_sem, Nat.reduceBEq, Nat.reduceAdd, eq_self, true_and, and_true, and_self, List.getElem?_cons_zero, List.getElem?_cons_succ, Nat.reduceLeDiff, Nat.zero_add, Nat.reduceSub, Nat.le_refl, fmC]
        rw [i64_in _ (by omega)]; simp
    · have hi : ¬ i < l.length := by simpa using hc
      rw [List.drop_of_length_le (by omega)] at g2
      simp -implicitDefEqProofs only [go_sem, Nat.reduceBEq, Nat.reduceAdd, eq_self, true_and, and_true, and_self, List.getElem?_cons_zero, List.getElem?_cons_succ, Nat.reduceLeDiff, Nat.zero_add, Nat.reduceSub, Nat.le_refl, Nat.lt_irrefl]
      refine z2' _ _ _ ?_
      simp -implicitDefEqProofs only [go_sem, Nat.reduceBEq, Nat.reduceAdd, eq_self, true_and, and_true, and_self, List.getElem?_cons_zero, List.getElem?_cons_succ, Nat.reduceLeDiff, Nat.zero_add, Nat.reduceSub, Nat.le_refl, Nat.lt_irrefl]
      refine q3 _ _ 0 rfl ⟨g0, g0'⟩ ?_
      rw [g2]; rfl
end
end Go.VL.wire

namespace Go.VL.wire
open Go Go.VL Go.Proofs Go.IntWalk

def four (n : Nat) : List UInt8 := [UInt8.ofNat n, UInt8.ofNat (n / 256), UInt8.ofNat (n / 65536), UInt8.ofNat (n / 16777216)]
def num4 (l : List UInt8) : Nat := (l[0]?.getD 0).toNat + 256 * (l[1]?.getD 0).toNat + 65536 * (l[2]?.getD 0).toNat + 16777216 * (l[3]?.getD 0).toNat
def crcBit (c : Nat) : Nat := if c % 2 = 1 then (c / 2) ^^^ 3988292384 else c / 2
def crcN : Nat → Nat → Nat
  | 0, c => c
  | n + 1, c => crcN n (crcBit c)
def crc (c : Nat) (l : List UInt8) : Nat := l.foldl (fun c b => crcN 8 (c ^^^ b.toNat)) c
def sumN (l : List UInt8) : Nat := crc 4294967295 l ^^^ 4294967295

theorem crcBit_lt {c : Nat} (h : c < 4294967296) : crcBit c < 4294967296 := by
  unfold crcBit
  split
  · exact Nat.xor_lt_two_pow (n := 32) (by omega) (by decide)
  · omega
theorem crcN_lt : ∀ (n : Nat) {c : Nat}, c < 4294967296 → crcN n c < 4294967296
  | 0, _, h => h
  | n + 1, _, h => crcN_lt n (crcBit_lt h)
theorem xor_byte {c : Nat} (h : c < 4294967296) (b : UInt8) : c ^^^ b.toNat < 4294967296 := Nat.xor_lt_two_pow (n := 32) h (by have := b.toNat_lt; omega)
theorem crc_lt : ∀ (l : List UInt8) {c : Nat}, c < 4294967296 → crc c l < 4294967296
  | [], _, h => h
  | b :: l, _, h => crc_lt l (crcN_lt 8 (xor_byte h b))
theorem sumN_lt (l : List UInt8) : sumN l < 4294967296 := Nat.xor_lt_two_pow (n := 32) (crc_lt l (by decide)) (by decide)
theorem crc_app (c : Nat) (a b : List UInt8) : crc c (a ++ b) = crc (crc c a) b := by simp [crc]

theorem u8_wrap (n : Nat) : IntKind.u8.wrap (n : Int) = ((UInt8.ofNat n).toNat : Int) := by
  rw [UInt8.toNat_ofNat', IntKind.wrap_u8]; omega
theorem shr32 (n k m : Nat) (h : 2 ^ k = m) (hk : k ≤ 32) : (n : Int).fdiv (2 ^ min (Int.toNat (k : Int)) 32) = ((n / m : Nat) : Int) := by
  have : min (Int.toNat (k : Int)) 32 = k := by omega
  rw [this, ← h, Int.fdiv_eq_ediv_of_nonneg _ (by exact Int.pow_nonneg (by decide))]
  simp
theorem bv32 {n : Nat} (h : n < 4294967296) : (BitVec.ofInt IntKind.u32.bits (n : Int)).toNat = n := by
  rw [BitVec.ofInt_natCast, BitVec.toNat_ofNat, show IntKind.u32.bits = 32 from rfl]; omega
theorem xor32 {a b : Nat} (ha : a < 4294967296) (hb : b < 4294967296) : ibits .xor .u32 a b = ((a ^^^ b : Nat) : Int) := by
  have h : a ^^^ b < 4294967296 := Nat.xor_lt_two_pow (n := 32) ha hb
  simp only [ibits, BitVec.toNat_xor, bv32 ha, bv32 hb]
  exact u32_in _ (by omega)
theorem and32 {a : Nat} (ha : a < 4294967296) : ibits .and .u32 a 1 = ((a % 2 : Nat) : Int) := by
  have h2 : (BitVec.ofInt IntKind.u32.bits 1).toNat = 1 := rfl
  simp only [ibits, BitVec.toNat_and, bv32 ha, h2]
  rw [show a &&& 1 = a % 2 from Nat.and_two_pow_sub_one_eq_mod a 1]
  exact u32_in _ (by omega)
theorem or32 {n m : Nat} (k : Nat) (hn : n < 2 ^ k) (hm : n + m * 2 ^ k < 4294967296) : ibits .or .u32 n ((m * 2 ^ k : Nat) : Int) = ((n + m * 2 ^ k : Nat) : Int) := by
  simp only [ibits, BitVec.toNat_or, bv32 (n := n) (by omega), bv32 (n := m * 2 ^ k) (by omega)]
  have : n ||| m * 2 ^ k = n + m * 2 ^ k := by
    have := Nat.two_pow_add_eq_or_of_lt hn m
    rw [Nat.or_comm, Nat.mul_comm m, ← this, Nat.add_comm]
  rw [this]
  exact u32_in _ (by omega)
theorem shl32 {m : Nat} (k : Nat) (hk : k ≤ 32) (hm : m * 2 ^ k < 4294967296) : IntKind.u32.wrap ((m : Int) * 2 ^ min (Int.toNat (k : Int)) 32) = ((m * 2 ^ k : Nat) : Int) := by
  have h1 : min (Int.toNat (k : Int)) 32 = k := by omega
  have h2 : (m : Int) * 2 ^ k = ((m * 2 ^ k : Nat) : Int) := by simp
  rw [h1, h2]
  exact u32_in _ (by omega)

section
variable {σ : St} {n : Nat} {v : V} {p : List UInt8}
theorem four_new {l : List UInt8} : NewS σ ⟨σ.objs, σ.live ++ [true]⟩ (.sl false (.own σ.live.length) 1 (bytesV l)) 1 (bytesV l) := ⟨_, rfl, live_last _ _, Nat.le_refl _⟩
set_option maxRecDepth 100000 in
theorem four_ok (hn : n < 4294967296) : CallA Try.prog 71 [.int .u32 n] σ fun w σ' => Ext σ σ' ∧ σ'.objs = σ.objs ∧ NewS σ σ' w 1 (bytesV (four n)) := by
  refine fn_at Try.func71 (by decide) comp71 rfl fun Q q1 q2 => ?_
  have w0 := u8_wrap n
  have s1 : (n : Int).fdiv (2 ^ min (Int.toNat 8) 32) = ((n / 256 : Nat) : Int) := shr32 n 8 256 rfl (by decide)
  have s2 : (n : Int).fdiv (2 ^ min (Int.toNat 16) 32) = ((n / 65536 : Nat) : Int) := shr32 n 16 65536 rfl (by decide)
  have s3 : (n : Int).fdiv (2 ^ min (Int.toNat 24) 32) = ((n / 16777216 : Nat) : Int) := shr32 n 24 16777216 rfl (by decide)
  have w1 := u8_wrap (n / 256)
  have w2 := u8_wrap (n / 65536)
  have w3 := u8_wrap (n / 16777216)
  simp -implicitDefEqProofs only [go_sem, Nat.reduceBEq, Nat.reduceAdd, eq_self, true_and, and_true, and_self, List.getElem?_cons_zero, List.getElem?_cons_succ, Nat.reduceLeDiff, Nat.zero_add, Nat.reduceSub, Nat.le_refl, c71, w0, s1, s2, s3, w1, w2, w3]
  refine ⟨by decide, by decide, by decide, q2 _ _ ?_⟩
  simp -implicitDefEqProofs only [go_sem, Nat.reduceBEq, Nat.reduceAdd, eq_self, true_and, and_true, and_self, List.getElem?_cons_zero, List.getElem?_cons_succ, Nat.reduceLeDiff, Nat.zero_add, Nat.reduceSub, Nat.le_refl, Nat.lt_irrefl]
  exact ⟨ext_live _ _, four_new (l := four n)⟩
set_option maxRecDepth 100000 in
theorem rfour_ok (hn : n < 4294967296) : CallA Try.prog 73 [.int .u32 n] σ fun w σ' => Ext σ σ' ∧ σ'.objs = σ.objs ∧ NewS σ σ' w 1 (bytesV (four n)) := by
  refine fn_at Try.func73 (by decide) comp73 rfl fun Q q1 q2 => ?_
  have d1 : (n : Int).tdiv 256 = ((n / 256 : Nat) : Int) := tdiv_nat n 256
  have d2 : (n : Int).tdiv 65536 = ((n / 65536 : Nat) : Int) := tdiv_nat n 65536
  have d3 : (n : Int).tdiv 16777216 = ((n / 16777216 : Nat) : Int) := tdiv_nat n 16777216
  have k1 : IntKind.u32.wrap ((n / 256 : Nat) : Int) = ((n / 256 : Nat) : Int) := u32_in _ (by omega)
  have k2 : IntKind.u32.wrap ((n / 65536 : Nat) : Int) = ((n / 65536 : Nat) : Int) := u32_in _ (by omega)
  have k3 : IntKind.u32.wrap ((n / 16777216 : Nat) : Int) = ((n / 16777216 : Nat) : Int) := u32_in _ (by omega)
  have m : ∀ x : Nat, IntKind.u8.wrap ((x : Int).tmod 256) = ((UInt8.ofNat x).toNat : Int) := fun x => by
    have : (x : Int).tmod 256 = ((x % 256 : Nat) : Int) := tmod_nat x 256
    rw [this, u8_wrap, UInt8.toNat_ofNat', UInt8.toNat_ofNat']; omega
  have w3 := u8_wrap (n / 16777216)
  simp -implicitDefEqProofs only [go_sem, Nat.reduceBEq, Nat.reduceAdd, eq_self, true_and, and_true, and_self, List.getElem?_cons_zero, List.getElem?_cons_succ, Nat.reduceLeDiff, Nat.zero_add, Nat.reduceSub, Nat.le_refl, c73, d1, d2, d3, k1, k2, k3, m, w3]
  refine ⟨by decide, by decide, by decide, by decide, by decide, by decide, q2 _ _ ?_⟩
  simp -implicitDefEqProofs only [go_sem, Nat.reduceBEq, Nat.reduceAdd, eq_self, true_and, and_true, and_self, List.getElem?_cons_zero, List.getElem?_cons_succ, Nat.reduceLeDiff, Nat.zero_add, Nat.reduceSub, Nat.le_refl, Nat.lt_irrefl]
  exact ⟨ext_live _ _, four_new (l := four n)⟩

theorem lift4 (hv : RdS σ v 1 (bytesV p)) (hl : 4 ≤ p.length) : ∃ a b c d r, p = a :: b :: c :: d :: r := by
  match p, hl with
  | a :: b :: c :: d :: r, _ => exact ⟨a, b, c, d, r, rfl⟩
set_option maxRecDepth 100000 in
theorem number_ok4 (hv : RdS σ v 1 (bytesV p)) (hl : 4 ≤ p.length) : CallA Try.prog 75 [v] σ fun w σ' => σ' = σ ∧ w = .int .u32 (num4 p) := by
  obtain ⟨bb, R, z, rfl, -, -⟩ := id hv
  obtain ⟨a, b, c, d, r, rfl⟩ := lift4 hv hl
  obtain ⟨k1, k2⟩ := rdl hv (by simp [bytesV])
  refine fn_at Try.func75 (by decide) comp75 rfl fun Q q1 q2 => ?_
  have hn : num4 (a :: b :: c :: d :: r) = a.toNat + 256 * b.toNat + 65536 * c.toNat + 16777216 * d.toNat := rfl
  have ha := a.toNat_lt
  have hb := b.toNat_lt
  have hc := c.toNat_lt
  have hd := d.toNat_lt
  have g0 : (bytesV (a :: b :: c :: d :: r))[Int.toNat 0]?.getD [] = [V.int .u8 a.toNat] := rfl
  have g1 : (bytesV (a :: b :: c :: d :: r))[Int.toNat 1]?.getD [] = [V.int .u8 b.toNat] := rfl
  have g2 : (bytesV (a :: b :: c :: d :: r))[Int.toNat 2]?.getD [] = [V.int .u8 c.toNat] := rfl
  have g3 : (bytesV (a :: b :: c :: d :: r))[Int.toNat 3]?.getD [] = [V.int .u8 d.toNat] := rfl
  have hll : ((bytesV (a :: b :: c :: d :: r)).length : Int) = r.length + 4 := by simp [bytesV]; omega
  have u : ∀ x : UInt8, IntKind.u32.wrap (x.toNat : Int) = (x.toNat : Int) := fun x => by have := x.toNat_lt; exact u32_in _ (by omega)
  have t1 : IntKind.u32.wrap ((b.toNat : Int) * 2 ^ min (Int.toNat 8) 32) = ((b.toNat * 2 ^ 8 : Nat) : Int) := shl32 (m := b.toNat) 8 (by decide) (by omega)
  have t2 : IntKind.u32.wrap ((c.toNat : Int) * 2 ^ min (Int.toNat 16) 32) = ((c.toNat * 2 ^ 16 : Nat) : Int) := shl32 (m := c.toNat) 16 (by decide) (by omega)
  have t3 : IntKind.u32.wrap ((d.toNat : Int) * 2 ^ min (Int.toNat 24) 32) = ((d.toNat * 2 ^ 24 : Nat) : Int) := shl32 (m := d.toNat) 24 (by decide) (by omega)
  have o1 := or32 (n := a.toNat) (m := b.toNat) 8 (by omega) (by omega)
  have o2 := or32 (n := a.toNat + b.toNat * 2 ^ 8) (m := c.toNat) 16 (by omega) (by omega)
  have o3 := or32 (n := a.toNat + b.toNat * 2 ^ 8 + c.toNat * 2 ^ 16) (m := d.toNat) 24 (by omega) (by omega)
  simp -implicitDefEqProofs only [go_sem, Nat.reduceBEq, Nat.reduceAdd, eq_self, true_and, and_true, and_self, List.getElem?_cons_zero, List.getElem?_cons_succ, Nat.reduceLeDiff, Nat.zero_add, Nat.reduceSub, Nat.le_refl, c75, g0, g1, g2, g3, u, t1, t2, t3, o1, o2, o3]
  rw [hll]
  repeat first
    | refine ⟨⟨by omega, by omega, k2⟩, k1, ?_⟩
    | refine ⟨by decide, ?_⟩
  refine q2 _ _ ?_
  simp -implicitDefEqProofs only [go_sem, Nat.reduceBEq, Nat.reduceAdd, eq_self, true_and, and_true, and_self, List.getElem?_cons_zero, List.getElem?_cons_succ, Nat.reduceLeDiff, Nat.zero_add, Nat.reduceSub, Nat.le_refl, Nat.lt_irrefl]
  rw [hn]
  have : a.toNat + b.toNat * 2 ^ 8 + c.toNat * 2 ^ 16 + d.toNat * 2 ^ 24 = a.toNat + 256 * b.toNat + 65536 * c.toNat + 16777216 * d.toNat := by omega
  rw [this]
set_option maxRecDepth 100000 in
theorem rnumber_ok4 (hv : RdS σ v 1 (bytesV p)) (hl : 4 ≤ p.length) : CallA Try.prog 77 [v] σ fun w σ' => σ' = σ ∧ w = .int .i64 (num4 p) := by
  obtain ⟨bb, R, z, rfl, -, -⟩ := id hv
  obtain ⟨a, b, c, d, r, rfl⟩ := lift4 hv hl
  obtain ⟨k1, k2⟩ := rdl hv (by simp [bytesV])
  refine fn_at Try.func77 (by decide) comp77 rfl fun Q q1 q2 => ?_
  have hn : num4 (a :: b :: c :: d :: r) = a.toNat + 256 * b.toNat + 65536 * c.toNat + 16777216 * d.toNat := rfl
  have ha := a.toNat_lt
  have hb := b.toNat_lt
  have hc := c.toNat_lt
  have hd := d.toNat_lt
  have g0 : (bytesV (a :: b :: c :: d :: r))[Int.toNat 0]?.getD [] = [V.int .u8 a.toNat] := rfl
  have g1 : (bytesV (a :: b :: c :: d :: r))[Int.toNat 1]?.getD [] = [V.int .u8 b.toNat] := rfl
  have g2 : (bytesV (a :: b :: c :: d :: r))[Int.toNat 2]?.getD [] = [V.int .u8 c.toNat] := rfl
  have g3 : (bytesV (a :: b :: c :: d :: r))[Int.toNat 3]?.getD [] = [V.int .u8 d.toNat] := rfl
  have hll : ((bytesV (a :: b :: c :: d :: r)).length : Int) = r.length + 4 := by simp [bytesV]; omega
  simp -implicitDefEqProofs only [go_sem, Nat.reduceBEq, Nat.reduceAdd, eq_self, true_and, and_true, and_self, List.getElem?_cons_zero, List.getElem?_cons_succ, Nat.reduceLeDiff, Nat.zero_add, Nat.reduceSub, Nat.le_refl, c77, g0, g1, g2, g3]
  rw [hll]
  repeat refine ⟨⟨by omega, by omega, k2⟩, k1, ?_⟩
  refine q2 _ _ ?_
  simp -implicitDefEqProofs only [go_sem, Nat.reduceBEq, Nat.reduceAdd, eq_self, true_and, and_true, and_self, List.getElem?_cons_zero, List.getElem?_cons_succ, Nat.reduceLeDiff, Nat.zero_add, Nat.reduceSub, Nat.le_refl, Nat.lt_irrefl]
  rw [hn]
  have w : ∀ x : Int, 0 ≤ x ∧ x < 9223372036854775808 → IntKind.i64.wrap x = x := fun x h => i64_in _ (by omega)
  rw [w a.toNat (by omega), w b.toNat (by omega), w c.toNat (by omega), w d.toNat (by omega), w (256 * b.toNat) (by omega), w (65536 * c.toNat) (by omega), w (16777216 * d.toNat) (by omega), w (a.toNat + 256 * b.toNat) (by omega), w (a.toNat + 256 * b.toNat + 65536 * c.toNat) (by omega), w _ (by omega)]
  simp
end
end Go.VL.wire

namespace Go.VL.wire
open Go Go.VL Go.Proofs Go.IntWalk

theorem crc_snoc (c : Nat) (l : List UInt8) (b : UInt8) : crc c (l ++ [b]) = crcN 8 (crc c l ^^^ b.toNat) := by simp [crc]
theorem crcN_bit (n c : Nat) : crcN n (crcBit c) = crcN (n + 1) c := rfl
theorem u32_byte (x : UInt8) : IntKind.u32.wrap (x.toNat : Int) = (x.toNat : Int) := by have := x.toNat_lt; exact u32_in _ (by omega)
theorem bytesV_ne {l : List UInt8} {i : Nat} (h : i < l.length) : bytesV l ≠ [] := by cases l <;> simp [bytesV] at h ⊢
theorem inc64 {i n : Nat} (h : i < n) (hn : n ≤ 1073741824) : IntKind.i64.wrap ((i : Int) + 1) = ((i + 1 : Nat) : Int) := by rw [i64_in _ (by omega)]; omega

section
variable {σ : St} {v s : V} {p : List UInt8}
set_option maxRecDepth 100000 in
set_option maxHeartbeats 1000000 in
theorem rsum_ok (hv : RdS σ v 1 (bytesV p)) (hlen : p.length ≤ 1073741824) : CallA Try.prog 74 [v] σ fun w σ' => σ' = σ ∧ w = .int .u32 (sumN p) := by
  obtain ⟨b, R, z, rfl, -, -⟩ := id hv
  refine fn_at Try.func74 (by decide) comp74 rfl fun Q q1 q2 => ?_
  have hl := bytesV_length p
  simp -implicitDefEqProofs only [go_sem, Nat.reduceBEq, Nat.reduceAdd, eq_self, true_and, and_true, and_self, List.getElem?_cons_zero, List.getElem?_cons_succ, Nat.reduceLeDiff, Nat.zero_add, Nat.reduceSub, Nat.le_refl, c74]
  refine loop_at (fun (i : Nat) => ⟨[(0, .v (.sl b R z (bytesV p))), (3, .v (.int .u32 (crc 4294967295 (p.take i)))), (4, .v (.int .i64 i))], []⟩) (fun i τ => τ = σ ∧ i ≤ p.length) (fun i => p.length - i) 0 ?_ ?_ ?_
  · exact .inr (by simp -implicitDefEqProofs only [go_sem, Nat.reduceBEq, Nat.reduceAdd, eq_self, true_and, and_true, and_self, List.getElem?_cons_zero, List.getElem?_cons_succ, Nat.reduceLeDiff, Nat.zero_add, Nat.reduceSub, Nat.le_refl, Nat.lt_irrefl]; trivial)
  · exact ⟨rfl, Nat.zero_le _⟩
  rintro i τ ⟨rfl, g1⟩ Z z1 z2 z3
  simp -implicitDefEqProofs only [go_sem, Nat.reduceBEq, Nat.reduceAdd, eq_self, true_and, and_true, and_self, List.getElem?_cons_zero, List.getElem?_cons_succ, Nat.reduceLeDiff, Nat.zero_add, Nat.reduceSub, Nat.le_refl, hl]
  refine CondW_b (fun hc => ?_) (fun hc => ?_)
  · have hi : i < p.length := by simpa using hc
    have hget := bytesV_get hi
    obtain ⟨k1, k2⟩ := rdl hv (bytesV_ne hi)
    have htk : p.take (i + 1) = p.take i ++ [p[i]] := List.take_succ_eq_append_getElem hi
    have hlt := crc_lt (p.take i) (c := 4294967295) (by decide)
    have hcs := crc_snoc 4294967295 (p.take i) p[i]
    rw [← htk] at hcs
    generalize p[i] = x at hget hcs
    generalize crc 4294967295 (p.take i) = c at hlt hcs
    have hx := xor32 hlt (b := x.toNat) (by have := x.toNat_lt; omega)
    have hxl := xor_byte hlt x
    simp -implicitDefEqProofs only [go_sem, Nat.reduceBEq, Nat.reduceAdd, eq_self, true_and, and_true, and_self, List.getElem?_cons_zero, List.getElem?_cons_succ, Nat.reduceLeDiff, Nat.zero_add, Nat.reduceSub, Nat.le_refl, hget, u32_byte, hx]
    rw [hl]
    refine ⟨⟨by omega, by omega, k2⟩, k1, ?_⟩
    generalize c ^^^ x.toNat = c0 at hcs hxl
    refine loop_at (fun (y : Nat × Nat) => ⟨[(0, .v (.sl b R z (bytesV p))), (3, .v (.int .u32 y.2)), (4, .v (.int .i64 i)), (5, .v (.int .i64 y.1))], []⟩) (fun y τ' => τ' = τ ∧ y.1 ≤ 8 ∧ y.2 < 4294967296 ∧ crcN (8 - y.1) y.2 = crcN 8 c0) (fun y => 8 - y.1) (0, c0) ?_ ?_ ?_
    · exact .inr (by simp -implicitDefEqProofs only [go_sem, Nat.reduceBEq, Nat.reduceAdd, eq_self, true_and, and_true, and_self, List.getElem?_cons_zero, List.getElem?_cons_succ, Nat.reduceLeDiff, Nat.zero_add, Nat.reduceSub, Nat.le_refl, Nat.lt_irrefl]; trivial)
    · exact ⟨rfl, Nat.zero_le _, hxl, rfl⟩
    rintro ⟨k, c⟩ τ' ⟨rfl, m1, m2, m3⟩ X x1 x2 x3
    simp only at m1 m2 m3
    simp -implicitDefEqProofs only [go_sem, Nat.reduceBEq, Nat.reduceAdd, eq_self, true_and, and_true, and_self, List.getElem?_cons_zero, List.getElem?_cons_succ, Nat.reduceLeDiff, Nat.zero_add, Nat.reduceSub, Nat.le_refl, Nat.lt_irrefl]
    refine CondW_b (fun hk => ?_) (fun hk => ?_)
    · have hk : k < 8 := by have := of_decide_eq_true hk; omega
      have e2 : (c : Int).tmod 2 = ((c % 2 : Nat) : Int) := tmod_nat c 2
      have e3 : (c : Int).tdiv 2 = ((c / 2 : Nat) : Int) := tdiv_nat c 2
      have e4 : IntKind.u32.wrap ((c / 2 : Nat) : Int) = ((c / 2 : Nat) : Int) := u32_in _ (by omega)
      have e5 : ibits .xor .u32 ((c / 2 : Nat) : Int) 3988292384 = ((c / 2 ^^^ 3988292384 : Nat) : Int) := xor32 (a := c / 2) (b := 3988292384) (by omega) (by decide)
      have h8 : 8 - k = (8 - (k + 1)) + 1 := by omega
      rw [h8, ← crcN_bit] at m3
      refine cut_dup ?_
      simp -implicitDefEqProofs only [go_sem, Nat.reduceBEq, Nat.reduceAdd, eq_self, true_and, and_true, and_self, List.getElem?_cons_zero, List.getElem?_cons_succ, Nat.reduceLeDiff, Nat.zero_add, Nat.reduceSub, Nat.le_refl, e2]
      refine ⟨by decide, ?_⟩
      have hb : crcBit c = if c % 2 = 1 then (c / 2) ^^^ 3988292384 else c / 2 := rfl
      refine CondW_b (fun ho => ?_) (fun ho => ?_)
      · have ho : c % 2 = 1 := by have := of_decide_eq_true ho; omega
        rw [if_pos ho] at hb
        simp -implicitDefEqProofs only [go_sem, Nat.reduceBEq, Nat.reduceAdd, eq_self, true_and, and_true, and_self, List.getElem?_cons_zero, List.getElem?_cons_succ, Nat.reduceLeDiff, Nat.zero_add, Nat.reduceSub, Nat.le_refl, e3, e4, e5]
        refine ⟨by decide, ?_⟩
        refine x1 (k + 1, crcBit c) _ _ (.inr ?_) (by simp only; omega) ⟨rfl, by simp only; omega, crcBit_lt m2, m3⟩
        simp -implicitDefEqProofs only [go_sem, Nat.reduceBEq, Nat.reduceAdd, eq_self, true_and, and_true, and_self, List.getElem?_cons_zero, List.getElem?_cons_succ, Nat.reduceLeDiff, Nat.zero_add, Nat.reduceSub, Nat.le_refl, hb, inc64 hk (by decide)]
      · have ho : ¬ c % 2 = 1 := by have := of_decide_eq_false ho; omega
        rw [if_neg ho] at hb
        simp -implicitDefEqProofs only [go_sem, Nat.reduceBEq, Nat.reduceAdd, eq_self, true_and, and_true, and_self, List.getElem?_cons_zero, List.getElem?_cons_succ, Nat.reduceLeDiff, Nat.zero_add, Nat.reduceSub, Nat.le_refl, e3, e4]
        refine ⟨by decide, ?_⟩
        refine x1 (k + 1, crcBit c) _ _ (.inr ?_) (by simp only; omega) ⟨rfl, by simp only; omega, crcBit_lt m2, m3⟩
        simp -implicitDefEqProofs only [go_sem, Nat.reduceBEq, Nat.reduceAdd, eq_self, true_and, and_true, and_self, List.getElem?_cons_zero, List.getElem?_cons_succ, Nat.reduceLeDiff, Nat.zero_add, Nat.reduceSub, Nat.le_refl, hb, inc64 hk (by decide)]
    · have hk : k = 8 := by have := of_decide_eq_false hk; omega
      subst hk
      simp -implicitDefEqProofs only [go_sem, Nat.reduceBEq, Nat.reduceAdd, eq_self, true_and, and_true, and_self, List.getElem?_cons_zero, List.getElem?_cons_succ, Nat.reduceLeDiff, Nat.zero_add, Nat.reduceSub, Nat.le_refl, Nat.lt_irrefl]
      refine x2 _ _ _ ?_
      simp -implicitDefEqProofs only [go_sem, Nat.reduceBEq, Nat.reduceAdd, eq_self, true_and, and_true, and_self, List.getElem?_cons_zero, List.getElem?_cons_succ, Nat.reduceLeDiff, Nat.zero_add, Nat.reduceSub, Nat.le_refl, Nat.lt_irrefl]
      refine z1 (i + 1) _ _ (.inr ?_) (by omega) ⟨rfl, by omega⟩
      have m3 : c = crcN 8 c0 := m3
      rw [hcs, ← m3]
      simp -implicitDefEqProofs only [go_sem, Nat.reduceBEq, Nat.reduceAdd, eq_self, true_and, and_true, and_self, List.getElem?_cons_zero, List.getElem?_cons_succ, Nat.reduceLeDiff, Nat.zero_add, Nat.reduceSub, Nat.le_refl, inc64 hi hlen]
  · have hi : ¬ i < p.length := by simpa using hc
    rw [List.take_of_length_le (by omega)]
    have hx : ibits .xor .u32 (crc 4294967295 p : Nat) 4294967295 = ((sumN p : Nat) : Int) := xor32 (a := crc 4294967295 p) (b := 4294967295) (crc_lt p (by decide)) (by decide)
    simp -implicitDefEqProofs only [go_sem, Nat.reduceBEq, Nat.reduceAdd, eq_self, true_and, and_true, and_self, List.getElem?_cons_zero, List.getElem?_cons_succ, Nat.reduceLeDiff, Nat.zero_add, Nat.reduceSub, Nat.le_refl, Nat.lt_irrefl]
    refine z2 _ _ _ ?_
    simp -implicitDefEqProofs only [go_sem, Nat.reduceBEq, Nat.reduceAdd, eq_self, true_and, and_true, and_self, List.getElem?_cons_zero, List.getElem?_cons_succ, Nat.reduceLeDiff, Nat.zero_add, Nat.reduceSub, Nat.le_refl, hx]
    refine q2 _ _ ?_
    simp -implicitDefEqProofs only [go_sem, Nat.reduceBEq, Nat.reduceAdd, eq_self, true_and, and_true, and_self, List.getElem?_cons_zero, List.getElem?_cons_succ, Nat.reduceLeDiff, Nat.zero_add, Nat.reduceSub, Nat.le_refl, Nat.lt_irrefl]

set_option maxRecDepth 100000 in
set_option maxHeartbeats 1000000 in
theorem sum_ok (hv : RdS σ v 1 [[s]]) (hs : RdS σ s 1 (bytesV p)) (hlen : p.length ≤ 1073741824) : CallA Try.prog 72 [v] σ fun w σ' => σ' = σ ∧ w = .int .u32 (sumN p) := by
  obtain ⟨b2, R2, z2, rfl, -, -⟩ := id hv
  obtain ⟨b, R, z, rfl, -, -⟩ := id hs
  refine fn_at Try.func72 (by decide) comp72 rfl fun Q q1 q2 => ?_
  have hl := bytesV_length p
  have kk := rdl hv (by simp)
  simp -implicitDefEqProofs only [go_sem, Nat.reduceBEq, Nat.reduceAdd, eq_self, true_and, and_true, and_self, List.getElem?_cons_zero, List.getElem?_cons_succ, Nat.reduceLeDiff, Nat.zero_add, Nat.reduceSub, Nat.le_refl, c72, List.length_cons, List.length_nil]
  refine loop_at (fun (x : Nat × Nat) => ⟨[(3, .v (.int .u32 x.2)), (9, .v (.sl b2 R2 z2 [[.sl b R z (bytesV p)]])), (10, .v (.int .i64 1)), (11, .v (.int .i64 x.1))], []⟩) (fun x τ => τ = σ ∧ (x.1 = 0 ∧ x.2 = 4294967295 ∨ x.1 = 1 ∧ x.2 = crc 4294967295 p)) (fun x => 1 - x.1) (0, 4294967295) ?_ ?_ ?_
  · exact .inr (by simp -implicitDefEqProofs only [go_sem, Nat.reduceBEq, Nat.reduceAdd, eq_self, true_and, and_true, and_self, List.getElem?_cons_zero, List.getElem?_cons_succ, Nat.reduceLeDiff, Nat.zero_add, Nat.reduceSub, Nat.le_refl, Nat.lt_irrefl]; exact ⟨rfl, rfl, rfl⟩)
  · exact ⟨rfl, .inl ⟨rfl, rfl⟩⟩
  rintro ⟨n, c9⟩ τ ⟨rfl, ⟨e1, e2⟩ | ⟨e1, e2⟩⟩ Z z1 z2' z3
  case inr =>
    simp only at e1 e2
    subst e1 e2
    have d0 : decide (((1 : Nat) : Int) < 1) = false := by decide
    have hx : ibits .xor .u32 (4294967295 : Int) (crc 4294967295 p : Nat) = ((sumN p : Nat) : Int) := by
      have := xor32 (a := 4294967295) (b := crc 4294967295 p) (by decide) (crc_lt p (by decide))
      rw [Nat.xor_comm] at this
      exact this
    simp -implicitDefEqProofs only [go_sem, Nat.reduceBEq, Nat.reduceAdd, eq_self, true_and, and_true, and_self, List.getElem?_cons_zero, List.getElem?_cons_succ, Nat.reduceLeDiff, Nat.zero_add, Nat.reduceSub, Nat.le_refl, d0]
    refine z2' _ _ _ ?_
    simp -implicitDefEqProofs only [go_sem, Nat.reduceBEq, Nat.reduceAdd, eq_self, true_and, and_true, and_self, List.getElem?_cons_zero, List.getElem?_cons_succ, Nat.reduceLeDiff, Nat.zero_add, Nat.reduceSub, Nat.le_refl, Nat.lt_irrefl]
    refine q2 _ _ ?_
    simp -implicitDefEqProofs only [go_sem, Nat.reduceBEq, Nat.reduceAdd, eq_self, true_and, and_true, and_self, List.getElem?_cons_zero, List.getElem?_cons_succ, Nat.reduceLeDiff, Nat.zero_add, Nat.reduceSub, Nat.le_refl, Nat.lt_irrefl]
    have hm : (if IntKind.u32.signed = true then (-1 : Int) else IntKind.u32.max) = 4294967295 := rfl
    rw [hm, hx]
  simp only at e1 e2
  subst e1 e2
  have d0 : decide (((0 : Nat) : Int) < 1) = true := by decide
  have g0 : ([[V.sl b R z (bytesV p)]] : List (List V))[Int.toNat ((0 : Nat) : Int)]?.getD [] = [V.sl b R z (bytesV p)] := rfl
  simp -implicitDefEqProofs only [go_sem, Nat.reduceBEq, Nat.reduceAdd, eq_self, true_and, and_true, and_self, List.getElem?_cons_zero, List.getElem?_cons_succ, Nat.reduceLeDiff, Nat.zero_add, Nat.reduceSub, Nat.le_refl, d0, g0, hl, List.length_cons, List.length_nil]
  refine ⟨⟨by decide, by decide, kk.2⟩, kk.1, ?_⟩
  refine loop_at (fun (i : Nat) => ⟨[(3, .v (.int .u32 (crc 4294967295 (p.take i)))), (9, .v (.sl b2 R2 z2 [[.sl b R z (bytesV p)]])), (10, .v (.int .i64 1)), (11, .v (.int .i64 0)), (15, .v (.sl b R z (bytesV p))), (16, .v (.int .i64 p.length)), (17, .v (.int .i64 i))], []⟩) (fun i τ' => τ' = τ ∧ i ≤ p.length) (fun i => p.length - i) 0 ?_ ?_ ?_
  · exact .inr (by simp -implicitDefEqProofs only [go_sem, Nat.reduceBEq, Nat.reduceAdd, eq_self, true_and, and_true, and_self, List.getElem?_cons_zero, List.getElem?_cons_succ, Nat.reduceLeDiff, Nat.zero_add, Nat.reduceSub, Nat.le_refl, Nat.lt_irrefl]; trivial)
  · exact ⟨rfl, Nat.zero_le _⟩
  rintro i τ' ⟨rfl, g1⟩ Y y1 y2 y3
  simp -implicitDefEqProofs only [go_sem, Nat.reduceBEq, Nat.reduceAdd, eq_self, true_and, and_true, and_self, List.getElem?_cons_zero, List.getElem?_cons_succ, Nat.reduceLeDiff, Nat.zero_add, Nat.reduceSub, Nat.le_refl, Nat.lt_irrefl]
  refine CondW_b (fun hc => ?_) (fun hc => ?_)
  · have hi : i < p.length := by simpa using hc
    have hget := bytesV_get hi
    obtain ⟨k1, k2⟩ := rdl hs (bytesV_ne hi)
    have htk : p.take (i + 1) = p.take i ++ [p[i]] := List.take_succ_eq_append_getElem hi
    have hlt := crc_lt (p.take i) (c := 4294967295) (by decide)
    have hcs := crc_snoc 4294967295 (p.take i) p[i]
    rw [← htk] at hcs
    generalize p[i] = x at hget hcs
    generalize crc 4294967295 (p.take i) = c at hlt hcs
    have hx := xor32 hlt (b := x.toNat) (by have := x.toNat_lt; omega)
    have hxl := xor_byte hlt x
    simp -implicitDefEqProofs only [go_sem, Nat.reduceBEq, Nat.reduceAdd, eq_self, true_and, and_true, and_self, List.getElem?_cons_zero, List.getElem?_cons_succ, Nat.reduceLeDiff, Nat.zero_add, Nat.reduceSub, Nat.le_refl, hget, u32_byte, hx]
    rw [hl]
    refine ⟨⟨by omega, by omega, k2⟩, k1, ?_⟩
    generalize c ^^^ x.toNat = c0 at hcs hxl
    refine loop_at (fun (y : Nat × Nat) => ⟨[(3, .v (.int .u32 y.2)), (9, .v (.sl b2 R2 z2 [[.sl b R z (bytesV p)]])), (10, .v (.int .i64 1)), (11, .v (.int .i64 0)), (15, .v (.sl b R z (bytesV p))), (16, .v (.int .i64 p.length)), (17, .v (.int .i64 i)), (25, .v (.int .i64 y.1))], []⟩) (fun y τ2 => τ2 = τ' ∧ y.1 ≤ 8 ∧ y.2 < 4294967296 ∧ crcN (8 - y.1) y.2 = crcN 8 c0) (fun y => 8 - y.1) (0, c0) ?_ ?_ ?_
    · exact .inr (by simp -implicitDefEqProofs only [go_sem, Nat.reduceBEq, Nat.reduceAdd, eq_self, true_and, and_true, and_self, List.getElem?_cons_zero, List.getElem?_cons_succ, Nat.reduceLeDiff, Nat.zero_add, Nat.reduceSub, Nat.le_refl, Nat.lt_irrefl]; trivial)
    · exact ⟨rfl, Nat.zero_le _, hxl, rfl⟩
    rintro ⟨k, c⟩ τ2 ⟨rfl, m1, m2, m3⟩ X x1 x2 x3
    simp only at m1 m2 m3
    simp -implicitDefEqProofs only [go_sem, Nat.reduceBEq, Nat.reduceAdd, eq_self, true_and, and_true, and_self, List.getElem?_cons_zero, List.getElem?_cons_succ, Nat.reduceLeDiff, Nat.zero_add, Nat.reduceSub, Nat.le_refl, Nat.lt_irrefl]
    refine CondW_b (fun hk => ?_) (fun hk => ?_)
    · have hk : k < 8 := by have := of_decide_eq_true hk; omega
      have e2 : ibits .and .u32 (c : Int) 1 = ((c % 2 : Nat) : Int) := and32 m2
      have e3 : (c : Int).fdiv (2 ^ min (Int.toNat 1) 32) = ((c / 2 : Nat) : Int) := shr32 c 1 2 rfl (by decide)
      have e5 : ibits .xor .u32 ((c / 2 : Nat) : Int) 3988292384 = ((c / 2 ^^^ 3988292384 : Nat) : Int) := xor32 (a := c / 2) (b := 3988292384) (by omega) (by decide)
      have h8 : 8 - k = (8 - (k + 1)) + 1 := by omega
      rw [h8, ← crcN_bit] at m3
      refine cut_dup ?_
      simp -implicitDefEqProofs only [go_sem, Nat.reduceBEq, Nat.reduceAdd, eq_self, true_and, and_true, and_self, List.getElem?_cons_zero, List.getElem?_cons_succ, Nat.reduceLeDiff, Nat.zero_add, Nat.reduceSub, Nat.le_refl, e2, e3]
      refine ⟨by decide, ?_⟩
      have hb : crcBit c = if c % 2 = 1 then (c / 2) ^^^ 3988292384 else c / 2 := rfl
      refine CondW_b (fun ho => ?_) (fun ho => ?_)
      · have ho : c % 2 = 1 := by have := of_decide_eq_true ho; omega
        rw [if_pos ho] at hb
        simp -implicitDefEqProofs only [go_sem, Nat.reduceBEq, Nat.reduceAdd, eq_self, true_and, and_true, and_self, List.getElem?_cons_zero, List.getElem?_cons_succ, Nat.reduceLeDiff, Nat.zero_add, Nat.reduceSub, Nat.le_refl, e5]
        refine x1 (k + 1, crcBit c) _ _ (.inr ?_) (by simp only; omega) ⟨rfl, by simp only; omega, crcBit_lt m2, m3⟩
        simp -implicitDefEqProofs only [go_sem, Nat.reduceBEq, Nat.reduceAdd, eq_self, true_and, and_true, and_self, List.getElem?_cons_zero, List.getElem?_cons_succ, Nat.reduceLeDiff, Nat.zero_add, Nat.reduceSub, Nat.le_refl, hb, inc64 hk (by decide)]
      · have ho : ¬ c % 2 = 1 := by have := of_decide_eq_false ho; omega
        rw [if_neg ho] at hb
        simp -implicitDefEqProofs only [go_sem, Nat.reduceBEq, Nat.reduceAdd, eq_self, true_and, and_true, and_self, List.getElem?_cons_zero, List.getElem?_cons_succ, Nat.reduceLeDiff, Nat.zero_add, Nat.reduceSub, Nat.le_refl, Nat.lt_irrefl]
        refine x1 (k + 1, crcBit c) _ _ (.inr ?_) (by simp only; omega) ⟨rfl, by simp only; omega, crcBit_lt m2, m3⟩
        simp -implicitDefEqProofs only [go_sem, Nat.reduceBEq, Nat.reduceAdd, eq_self, true_and, and_true, and_self, List.getElem?_cons_zero, List.getElem?_cons_succ, Nat.reduceLeDiff, Nat.zero_add, Nat.reduceSub, Nat.le_refl, hb, inc64 hk (by decide)]
    · have hk : k = 8 := by have := of_decide_eq_false hk; omega
      subst hk
      simp -implicitDefEqProofs only [go_sem, Nat.reduceBEq, Nat.reduceAdd, eq_self, true_and, and_true, and_self, List.getElem?_cons_zero, List.getElem?_cons_succ, Nat.reduceLeDiff, Nat.zero_add, Nat.reduceSub, Nat.le_refl, Nat.lt_irrefl]
      refine x2 _ _ _ ?_
      simp -implicitDefEqProofs only [go_sem, Nat.reduceBEq, Nat.reduceAdd, eq_self, true_and, and_true, and_self, List.getElem?_cons_zero, List.getElem?_cons_succ, Nat.reduceLeDiff, Nat.zero_add, Nat.reduceSub, Nat.le_refl, Nat.lt_irrefl]
      refine y1 (i + 1) _ _ (.inr ?_) (by omega) ⟨rfl, by omega⟩
      have m3 : c = crcN 8 c0 := m3
      rw [hcs, ← m3]
      simp -implicitDefEqProofs only [go_sem, Nat.reduceBEq, Nat.reduceAdd, eq_self, true_and, and_true, and_self, List.getElem?_cons_zero, List.getElem?_cons_succ, Nat.reduceLeDiff, Nat.zero_add, Nat.reduceSub, Nat.le_refl, inc64 hi hlen]
  · have hi : ¬ i < p.length := by simpa using hc
    rw [List.take_of_length_le (by omega)]
    simp -implicitDefEqProofs only [go_sem, Nat.reduceBEq, Nat.reduceAdd, eq_self, true_and, and_true, and_self, List.getElem?_cons_zero, List.getElem?_cons_succ, Nat.reduceLeDiff, Nat.zero_add, Nat.reduceSub, Nat.le_refl, Nat.lt_irrefl]
    refine y2 _ _ _ ?_
    simp -implicitDefEqProofs only [go_sem, Nat.reduceBEq, Nat.reduceAdd, eq_self, true_and, and_true, and_self, List.getElem?_cons_zero, List.getElem?_cons_succ, Nat.reduceLeDiff, Nat.zero_add, Nat.reduceSub, Nat.le_refl, Nat.lt_irrefl]
    refine z1 (1, crc 4294967295 p) _ _ (.inr ?_) (by simp only; omega) ⟨rfl, .inr ⟨rfl, rfl⟩⟩
    have : IntKind.i64.wrap (0 + 1) = 1 := by decide
    simp -implicitDefEqProofs only [go_sem, Nat.reduceBEq, Nat.reduceAdd, eq_self, true_and, and_true, and_self, List.getElem?_cons_zero, List.getElem?_cons_succ, Nat.reduceLeDiff, Nat.zero_add, Nat.reduceSub, Nat.le_refl, this]
    trivial
end
end Go.VL.wire

namespace Go.VL.wire
open Go Go.VL Go.Proofs Go.IntWalk

def headB (k : Int) (load : List UInt8) : List UInt8 := UInt8.ofNat k.toNat :: (four load.length ++ load)
def sealB (k : Int) (load : List UInt8) : List UInt8 := headB k load ++ four (sumN (headB k load))
def sealI (k : Int) (load : List UInt8) : Int := bif decide (k < 1) || decide (15 < k) then 1 else bif decide ((65536 : Int) < load.length) then 3 else 0
def sealO (k : Int) (load : List UInt8) : List UInt8 := bif decide (sealI k load = 0) then sealB k load else []
theorem four_len (n : Nat) : (four n).length = 4 := rfl

section
variable {σ : St} {v : V} {p : List UInt8} {k : Int}
theorem nil_rd {σ : St} {z : Nat} : RdS σ (.sl true .pub z []) 1 (bytesV []) := ⟨true, .pub, z, rfl, by simp [bytesV], .inl rfl⟩
set_option maxRecDepth 100000 in
set_option maxHeartbeats 1000000 in
theorem seal_ok (hv : RdS σ v 1 (bytesV p)) (hlen : p.length ≤ 100000000) :
    CallA Try.prog 50 [.int .i64 k, v] σ fun w σ' => Ext σ σ' ∧ σ'.objs = σ.objs ∧ ∃ x, w = .tup [x, .int .i64 (sealI k p)] ∧ RdS σ' x 1 (bytesV (sealO k p)) := by
  obtain ⟨b, R, z, rfl, -, -⟩ := id hv
  refine fn_at Try.func50 (by decide) comp50 rfl fun Q q1 q2 => ?_
  clear q1
  have hl := bytesV_length p
  unfold sealO sealI at q2
  cases h1 : decide (k < 1)
  case true =>
    simp -implicitDefEqProofs only [go_sem, Nat.reduceBEq, Nat.reduceAdd, eq_self, true_and, and_true, and_self, List.getElem?_cons_zero, List.getElem?_cons_succ, Nat.reduceLeDiff, Nat.zero_add, Nat.reduceSub, Nat.le_refl, c50, h1]
    refine q2 _ _ ?_
    rw [h1]
    simp -implicitDefEqProofs only [go_sem, Nat.reduceBEq, Nat.reduceAdd, eq_self, true_and, and_true, and_self, List.getElem?_cons_zero, List.getElem?_cons_succ, Nat.reduceLeDiff, Nat.zero_add, Nat.reduceSub, Nat.le_refl, cond_true, cond_false, Bool.true_or, Bool.false_or, Bool.or_true, Bool.or_false, Bool.and_true, Bool.and_false, Bool.true_and, Bool.false_and, Bool.or_self, Bool.and_self]
    exact ⟨Ext.refl _, _, rfl, nil_rd⟩
  cases h2 : decide (15 < k)
  case true =>
    simp -implicitDefEqProofs only [go_sem, Nat.reduceBEq, Nat.reduceAdd, eq_self, true_and, and_true, and_self, List.getElem?_cons_zero, List.getElem?_cons_succ, Nat.reduceLeDiff, Nat.zero_add, Nat.reduceSub, Nat.le_refl, c50, h1, h2]
    refine q2 _ _ ?_
    rw [h1, h2]
    simp -implicitDefEqProofs only [go_sem, Nat.reduceBEq, Nat.reduceAdd, eq_self, true_and, and_true, and_self, List.getElem?_cons_zero, List.getElem?_cons_succ, Nat.reduceLeDiff, Nat.zero_add, Nat.reduceSub, Nat.le_refl, cond_true, cond_false, Bool.true_or, Bool.false_or, Bool.or_true, Bool.or_false, Bool.and_true, Bool.and_false, Bool.true_and, Bool.false_and, Bool.or_self, Bool.and_self]
    exact ⟨Ext.refl _, _, rfl, nil_rd⟩
  rw [h1, h2] at q2
  cases h3 : decide ((65536 : Int) < p.length) <;> rw [h3] at q2
  case true =>
    simp -implicitDefEqProofs only [go_sem, Nat.reduceBEq, Nat.reduceAdd, eq_self, true_and, and_true, and_self, List.getElem?_cons_zero, List.getElem?_cons_succ, Nat.reduceLeDiff, Nat.zero_add, Nat.reduceSub, Nat.le_refl, c50, h1, h2, hl, h3]
    refine q2 _ _ ?_
    simp -implicitDefEqProofs only [go_sem, Nat.reduceBEq, Nat.reduceAdd, eq_self, true_and, and_true, and_self, List.getElem?_cons_zero, List.getElem?_cons_succ, Nat.reduceLeDiff, Nat.zero_add, Nat.reduceSub, Nat.le_refl, cond_true, cond_false, Bool.true_or, Bool.false_or, Bool.or_true, Bool.or_false, Bool.and_true, Bool.and_false, Bool.true_and, Bool.false_and, Bool.or_self, Bool.and_self]
    exact ⟨Ext.refl _, _, rfl, nil_rd⟩
  simp only [Bool.or_self, cond_false, decide_true, cond_true] at q2
  have h1' := of_decide_eq_false h1
  have h2' := of_decide_eq_false h2
  have h3' := of_decide_eq_false h3
  have hk : k = (k.toNat : Int) := by omega
  have w1 : IntKind.u8.wrap k = ((UInt8.ofNat k.toNat).toNat : Int) := by
    have := u8_wrap k.toNat
    rw [← hk] at this; exact this
  have w2 : IntKind.u32.wrap (p.length : Int) = (p.length : Int) := u32_in _ (by omega)
  simp -implicitDefEqProofs only [go_sem, Nat.reduceBEq, Nat.reduceAdd, eq_self, true_and, and_true, and_self, List.getElem?_cons_zero, List.getElem?_cons_succ, Nat.reduceLeDiff, Nat.zero_add, Nat.reduceSub, Nat.le_refl, c50, h1, h2, hl, h3, w1, w2]
  have e1 := ext_live σ true
  refine call_at (four_ok (n := p.length) (by omega)) ?_
  rintro w τ ⟨a1, a2, r1, rfl, a3, a4⟩
  refine ⟨kept_none, ?_⟩
  have hr0 := a1.live _ (live_last σ.live true)
  have e2 := e1.trans a1
  simp -implicitDefEqProofs only [go_sem, Nat.reduceBEq, Nat.reduceAdd, eq_self, true_and, and_true, and_self, List.getElem?_cons_zero, List.getElem?_cons_succ, Nat.reduceLeDiff, Nat.zero_add, Nat.reduceSub, Nat.le_refl, Nat.lt_irrefl]
  have e3 : Ext σ ⟨τ.objs, kill τ.live (.own σ.live.length) ++ [true]⟩ := ext_kill e2 (Nat.le_refl _)
  have hv3 := rd_src (hv.ext e3)
  have b2 : [V.int .u8 ((UInt8.ofNat k.toNat).toNat : Int)] :: (bytesV (four p.length) ++ bytesV p) = bytesV (headB k p) := by simp [bytesV, headB]
  have hkl : (kill τ.live (.own σ.live.length)).length = τ.live.length := by simp [kill]
  have hlt := (List.getElem?_eq_some_iff.1 hr0).1
  have e4 : Ext σ ⟨τ.objs, kill (kill τ.live (.own σ.live.length) ++ [true]) (.own τ.live.length) ++ [true]⟩ := ext_kill e3 (by omega)
  rw [b2]
  refine ⟨⟨.inr trivial, .inr hr0, ⟨.inr a3, .inl trivial⟩, by simp only [bytesV_length, four_len]; decide⟩, ⟨.inr trivial, .inr ?_, hv3, by simp only [bytesV_length, four_len]; omega⟩, ?_⟩
  · rw [← hkl]; exact live_last _ _
  generalize hL : kill (kill τ.live (.own σ.live.length) ++ [true]) (.own τ.live.length) = L at e4
  have hLl : L.length = (kill τ.live (.own σ.live.length) ++ [true]).length := by rw [← hL]; simp [kill]
  rw [← hLl]
  have hs : RdS ⟨τ.objs, L ++ [true] ++ [true]⟩ (.sl false (.own L.length) 1 (bytesV (headB k p))) 1 (bytesV (headB k p)) :=
    ⟨_, _, _, rfl, by simp, .inr ⟨by show (L ++ [true] ++ [true])[L.length]? = _; rw [List.getElem?_append_left (by simp), List.getElem?_append_right (Nat.le_refl _)]; simp, rfl⟩⟩
  have hv4 : RdS ⟨τ.objs, L ++ [true] ++ [true]⟩ (.sl false (.own (L ++ [true]).length) 1 [[.sl false (.own L.length) 1 (bytesV (headB k p))]]) 1 [[.sl false (.own L.length) 1 (bytesV (headB k p))]] := ⟨_, _, _, rfl, by simp, .inr ⟨live_last _ _, rfl⟩⟩
  have e5 : Ext σ ⟨τ.objs, L ++ [true] ++ [true]⟩ := ext_push e4
  have hhl : (headB k p).length = p.length + 5 := by simp [headB, four_len]; omega
  refine call_at (sum_ok hv4 hs (by omega)) ?_
  rintro w2 τ2 ⟨rfl, rfl⟩
  refine ⟨kept_none, ?_⟩
  simp -implicitDefEqProofs only [go_sem, Nat.reduceBEq, Nat.reduceAdd, eq_self, true_and, and_true, and_self, List.getElem?_cons_zero, List.getElem?_cons_succ, Nat.reduceLeDiff, Nat.zero_add, Nat.reduceSub, Nat.le_refl, Nat.lt_irrefl]
  refine call_at (four_ok (sumN_lt _)) ?_
  rintro w3 τ3 ⟨c1, c2, r3, rfl, c3, c4⟩
  refine ⟨kept_none, ?_⟩
  have hLlive := c1.live L.length (by show (L ++ [true] ++ [true])[L.length]? = _; rw [List.getElem?_append_left (by simp), List.getElem?_append_right (Nat.le_refl _)]; simp)
  have e6 := e5.trans c1
  simp -implicitDefEqProofs only [go_sem, Nat.reduceBEq, Nat.reduceAdd, eq_self, true_and, and_true, and_self, List.getElem?_cons_zero, List.getElem?_cons_succ, Nat.reduceLeDiff, Nat.zero_add, Nat.reduceSub, Nat.le_refl, Nat.lt_irrefl]
  refine ⟨⟨.inr trivial, .inr hLlive, ⟨.inr c3, .inl trivial⟩, by simp only [bytesV_length, four_len]; omega⟩, q2 _ _ ?_⟩
  simp -implicitDefEqProofs only [go_sem, Nat.reduceBEq, Nat.reduceAdd, eq_self, true_and, and_true, and_self, List.getElem?_cons_zero, List.getElem?_cons_succ, Nat.reduceLeDiff, Nat.zero_add, Nat.reduceSub, Nat.le_refl, Nat.lt_irrefl]
  refine ⟨ext_kill e6 (by rw [hLl, List.length_append, hkl]; omega), c2.trans a2, _, rfl, ?_⟩
  rw [bytesV_append]
  have hk3 : (kill τ3.live (.own L.length)).length = τ3.live.length := by simp [kill]
  exact ⟨false, .own τ3.live.length, 1, rfl, by simp, .inr ⟨by show (kill τ3.live (.own L.length) ++ [true])[τ3.live.length]? = _; rw [← hk3]; exact live_last _ _, rfl⟩⟩

set_option maxRecDepth 100000 in
set_option maxHeartbeats 1000000 in
theorem rseal_ok (hv : RdS σ v 1 (bytesV p)) (hlen : p.length ≤ 100000000) :
    CallA Try.prog 51 [.int .i64 k, v] σ fun w σ' => Ext σ σ' ∧ σ'.objs = σ.objs ∧ ∃ x, w = .tup [x, .int .i64 (sealI k p)] ∧ RdS σ' x 1 (bytesV (sealO k p)) := by
  obtain ⟨b, R, z, rfl, -, -⟩ := id hv
  refine fn_at Try.func51 (by decide) comp51 rfl fun Q q1 q2 => ?_
  clear q1
  have hl := bytesV_length p
  unfold sealO sealI at q2
  cases h1 : decide (k < 1)
  case true =>
    simp -implicitDefEqProofs only [go_sem, Nat.reduceBEq, Nat.reduceAdd, eq_self, true_and, and_true, and_self, List.getElem?_cons_zero, List.getElem?_cons_succ, Nat.reduceLeDiff, Nat.zero_add, Nat.reduceSub, Nat.le_refl, c51, h1]
    refine q2 _ _ ?_
    rw [h1]
    simp -implicitDefEqProofs only [go_sem, Nat.reduceBEq, Nat.reduceAdd, eq_self, true_and, and_true, and_self, List.getElem?_cons_zero, List.getElem?_cons_succ, Nat.reduceLeDiff, Nat.zero_add, Nat.reduceSub, Nat.le_refl, cond_true, cond_false, Bool.true_or, Bool.false_or, Bool.or_true, Bool.or_false, Bool.and_true, Bool.and_false, Bool.true_and, Bool.false_and, Bool.or_self, Bool.and_self]
    exact ⟨Ext.refl _, _, rfl, nil_rd⟩
  cases h2 : decide (15 < k)
  case true =>
    simp -implicitDefEqProofs only [go_sem, Nat.reduceBEq, Nat.reduceAdd, eq_self, true_and, and_true, and_self, List.getElem?_cons_zero, List.getElem?_cons_succ, Nat.reduceLeDiff, Nat.zero_add, Nat.reduceSub, Nat.le_refl, c51, h1, h2]
    refine q2 _ _ ?_
    rw [h1, h2]
    simp -implicitDefEqProofs only [go_sem, Nat.reduceBEq, Nat.reduceAdd, eq_self, true_and, and_true, and_self, List.getElem?_cons_zero, List.getElem?_cons_succ, Nat.reduceLeDiff, Nat.zero_add, Nat.reduceSub, Nat.le_refl, cond_true, cond_false, Bool.true_or, Bool.false_or, Bool.or_true, Bool.or_false, Bool.and_true, Bool.and_false, Bool.true_and, Bool.false_and, Bool.or_self, Bool.and_self]
    exact ⟨Ext.refl _, _, rfl, nil_rd⟩
  rw [h1, h2] at q2
  cases h3 : decide ((65536 : Int) < p.length) <;> rw [h3] at q2
  case true =>
    simp -implicitDefEqProofs only [go_sem, Nat.reduceBEq, Nat.reduceAdd, eq_self, true_and, and_true, and_self, List.getElem?_cons_zero, List.getElem?_cons_succ, Nat.reduceLeDiff, Nat.zero_add, Nat.reduceSub, Nat.le_refl, c51, h1, h2, hl, h3]
    refine q2 _ _ ?_
    simp -implicitDefEqProofs only [go_sem, Nat.reduceBEq, Nat.reduceAdd, eq_self, true_and, and_true, and_self, List.getElem?_cons_zero, List.getElem?_cons_succ, Nat.reduceLeDiff, Nat.zero_add, Nat.reduceSub, Nat.le_refl, cond_true, cond_false, Bool.true_or, Bool.false_or, Bool.or_true, Bool.or_false, Bool.and_true, Bool.and_false, Bool.true_and, Bool.false_and, Bool.or_self, Bool.and_self]
    exact ⟨Ext.refl _, _, rfl, nil_rd⟩
  simp only [Bool.or_self, cond_false, decide_true, cond_true] at q2
  have h1' := of_decide_eq_false h1
  have h2' := of_decide_eq_false h2
  have h3' := of_decide_eq_false h3
  have hk : k = (k.toNat : Int) := by omega
  have w1 : IntKind.u8.wrap k = ((UInt8.ofNat k.toNat).toNat : Int) := by
    have := u8_wrap k.toNat
    rw [← hk] at this; exact this
  have w2 : IntKind.u32.wrap (p.length : Int) = (p.length : Int) := u32_in _ (by omega)
  simp -implicitDefEqProofs only [go_sem, Nat.reduceBEq, Nat.reduceAdd, eq_self, true_and, and_true, and_self, List.getElem?_cons_zero, List.getElem?_cons_succ, Nat.reduceLeDiff, Nat.zero_add, Nat.reduceSub, Nat.le_refl, c51, h1, h2, hl, h3, w1, w2]
  have e1 := ext_live σ true
  refine call_at (rfour_ok (n := p.length) (by omega)) ?_
  rintro w τ ⟨a1, a2, r1, rfl, a3, a4⟩
  refine ⟨kept_none, ?_⟩
  have hr0 := a1.live _ (live_last σ.live true)
  have e2 := e1.trans a1
  simp -implicitDefEqProofs only [go_sem, Nat.reduceBEq, Nat.reduceAdd, eq_self, true_and, and_true, and_self, List.getElem?_cons_zero, List.getElem?_cons_succ, Nat.reduceLeDiff, Nat.zero_add, Nat.reduceSub, Nat.le_refl, Nat.lt_irrefl]
  have e3 : Ext σ ⟨τ.objs, kill τ.live (.own σ.live.length) ++ [true]⟩ := ext_kill e2 (Nat.le_refl _)
  have hv3 := rd_src (hv.ext e3)
  have b2 : [V.int .u8 ((UInt8.ofNat k.toNat).toNat : Int)] :: (bytesV (four p.length) ++ bytesV p) = bytesV (headB k p) := by simp [bytesV, headB]
  have hkl : (kill τ.live (.own σ.live.length)).length = τ.live.length := by simp [kill]
  have hlt := (List.getElem?_eq_some_iff.1 hr0).1
  have e4 : Ext σ ⟨τ.objs, kill (kill τ.live (.own σ.live.length) ++ [true]) (.own τ.live.length) ++ [true]⟩ := ext_kill e3 (by omega)
  rw [b2]
  refine ⟨⟨.inr trivial, .inr hr0, ⟨.inr a3, .inl trivial⟩, by simp only [bytesV_length, four_len]; decide⟩, ⟨.inr trivial, .inr ?_, hv3, by simp only [bytesV_length, four_len]; omega⟩, ?_⟩
  · rw [← hkl]; exact live_last _ _
  generalize hL : kill (kill τ.live (.own σ.live.length) ++ [true]) (.own τ.live.length) = L at e4
  have hLl : L.length = (kill τ.live (.own σ.live.length) ++ [true]).length := by rw [← hL]; simp [kill]
  rw [← hLl]
  have hs : RdS ⟨τ.objs, L ++ [true]⟩ (.sl false (.own L.length) 1 (bytesV (headB k p))) 1 (bytesV (headB k p)) :=
    ⟨_, _, _, rfl, by simp, .inr ⟨live_last _ _, rfl⟩⟩
  have hhl : (headB k p).length = p.length + 5 := by simp [headB, four_len]; omega
  refine call_at (rsum_ok hs (by omega)) ?_
  rintro w2 τ2 ⟨rfl, rfl⟩
  refine ⟨kept_none, ?_⟩
  simp -implicitDefEqProofs only [go_sem, Nat.reduceBEq, Nat.reduceAdd, eq_self, true_and, and_true, and_self, List.getElem?_cons_zero, List.getElem?_cons_succ, Nat.reduceLeDiff, Nat.zero_add, Nat.reduceSub, Nat.le_refl, Nat.lt_irrefl]
  refine call_at (rfour_ok (sumN_lt _)) ?_
  rintro w3 τ3 ⟨c1, c2, r3, rfl, c3, c4⟩
  refine ⟨kept_none, ?_⟩
  have hLlive := c1.live L.length (live_last _ _)
  have e6 := e4.trans c1
  simp -implicitDefEqProofs only [go_sem, Nat.reduceBEq, Nat.reduceAdd, eq_self, true_and, and_true, and_self, List.getElem?_cons_zero, List.getElem?_cons_succ, Nat.reduceLeDiff, Nat.zero_add, Nat.reduceSub, Nat.le_refl, Nat.lt_irrefl]
  refine ⟨⟨.inr trivial, .inr hLlive, ⟨.inr c3, .inl trivial⟩, by simp only [bytesV_length, four_len]; omega⟩, q2 _ _ ?_⟩
  simp -implicitDefEqProofs only [go_sem, Nat.reduceBEq, Nat.reduceAdd, eq_self, true_and, and_true, and_self, List.getElem?_cons_zero, List.getElem?_cons_succ, Nat.reduceLeDiff, Nat.zero_add, Nat.reduceSub, Nat.le_refl, Nat.lt_irrefl]
  refine ⟨ext_kill e6 (by rw [hLl, List.length_append, hkl]; omega), c2.trans a2, _, rfl, ?_⟩
  rw [bytesV_append]
  have hk3 : (kill τ3.live (.own L.length)).length = τ3.live.length := by simp [kill]
  exact ⟨false, .own τ3.live.length, 1, rfl, by simp, .inr ⟨by show (kill τ3.live (.own L.length) ++ [true])[τ3.live.length]? = _; rw [← hk3]; exact live_last _ _, rfl⟩⟩
end
end Go.VL.wire

namespace Go.VL.wire
open Go Go.VL Go.Proofs Go.IntWalk

def hd0 (p : List UInt8) : Nat := (p[0]?.getD 0).toNat
def badF (p : List UInt8) : Bool := decide ((p.length : Int) < 9) || (decide ((hd0 p : Int) < 1) || (decide ((15 : Int) < hd0 p) || (decide ((65536 : Int) < num4 (p.drop 1)) || !decide ((num4 (p.drop 1) : Int) = (p.length : Int) - 9))))
def badS (p : List UInt8) : Bool := !decide (num4 (p.drop (p.length - 4)) = sumN (p.take (p.length - 4)))
def openK (p : List UInt8) : Int := bif badF p || badS p then 0 else hd0 p
def openL (p : List UInt8) : List UInt8 := bif badF p || badS p then [] else (p.drop 5).take (p.length - 9)
def openE (p : List UInt8) : Int := bif badF p then 2 else bif badS p then 9 else 0

section
variable {σ : St} {v : V} {p : List UInt8}
/-- A part of bytes. -/
theorem rd_part {b : Bool} {R : R} {z : Nat} {q : List UInt8} (hv : RdS σ (.sl b R z (bytesV p)) 1 (bytesV p)) (hp : 0 < p.length) : RdS σ (.sl b R.toView z (bytesV q)) 1 (bytesV q) := by
  obtain ⟨_, _, _, e, h1, h2⟩ := hv
  cases e
  have hne : bytesV p ≠ [] := by cases p <;> simp [bytesV] at hp ⊢
  have hb : b = false := by cases b with
    | false => rfl
    | true => exact absurd (h1 rfl) hne
  subst hb
  exact ⟨_, _, _, rfl, by simp, h2.imp_right fun x => ⟨rd_toView x.1, x.2⟩⟩
set_option maxRecDepth 100000 in
set_option maxHeartbeats 2000000 in
theorem open_ok (hv : RdS σ v 1 (bytesV p)) (hlen : p.length ≤ 100000000) :
    CallA Try.prog 53 [v] σ fun w σ' => Ext σ σ' ∧ σ'.objs = σ.objs ∧ ∃ x, w = .tup [.int .i64 (openK p), x, .int .i64 (openE p)] ∧ RdS σ' x 1 (bytesV (openL p)) := by
  obtain ⟨b, R, z, rfl, -, -⟩ := id hv
  refine fn_at Try.func53 (by decide) comp53 rfl fun Q q1 q2 => ?_
  clear q1
  have hl := bytesV_length p
  have q3 : ∀ (F : Fr) (σ' : St) (x : V), sget 2 F.s = .v (.int .i64 (openK p)) → sget 3 F.s = .v x → sget 4 F.s = .v (.int .i64 (openE p)) → Ext σ σ' → σ'.objs = σ.objs → RdS σ' x 1 (bytesV (openL p)) → Q .ret F σ' := by
    intro F σ' x h1 h2 h3 h4 h5 h6
    refine q2 _ _ ?_
    simp only [retW, Fr.va, Fr.ev, h1, h2, h3, S.val, List.nil_append, List.cons_append, retV]
    exact ⟨h4, h5, x, rfl, h6⟩
  clear q2
  have bf : badF p = true → openK p = 0 ∧ openL p = [] ∧ openE p = 2 := by
    intro h; unfold openK openL openE; rw [h]; exact ⟨rfl, rfl, rfl⟩
  cases h1 : decide ((p.length : Int) < 9)
  case true =>
    obtain ⟨b1, b2, b3⟩ := bf (by unfold badF; rw [h1]; rfl)
    simp -implicitDefEqProofs only [go_sem, Nat.reduceBEq, Nat.reduceAdd, eq_self, true_and, and_true, and_self, List.getElem?_cons_zero, List.getElem?_cons_succ, Nat.reduceLeDiff, Nat.zero_add, Nat.reduceSub, Nat.le_refl, c53, hl, h1]
    refine q3 _ _ (.sl true .pub 1 []) (by rw [b1]; rfl) rfl (by rw [b3]; rfl) (Ext.refl _) rfl (by rw [b2]; exact nil_rd)
  have h1' := of_decide_eq_false h1
  obtain ⟨k1, k2⟩ := rdl hv (bytesV_ne (i := 0) (by omega))
  have hg0 : (bytesV p)[Int.toNat 0]?.getD [] = [V.int .u8 (hd0 p)] := by
    have := bytesV_get (l := p) (i := 0) (by omega)
    have e : hd0 p = p[0].toNat := by unfold hd0; simp [List.getElem?_eq_getElem (show 0 < p.length by omega)]
    rw [e]; exact this
  cases h2 : decide ((hd0 p : Int) < 1)
  case true =>
    obtain ⟨b1, b2, b3⟩ := bf (by unfold badF; rw [h1, h2]; rfl)
    simp -implicitDefEqProofs only [go_sem, Nat.reduceBEq, Nat.reduceAdd, eq_self, true_and, and_true, and_self, List.getElem?_cons_zero, List.getElem?_cons_succ, Nat.reduceLeDiff, Nat.zero_add, Nat.reduceSub, Nat.le_refl, c53, hl, h1, hg0, h2]
    refine ⟨⟨by omega, by omega, k2⟩, k1, ?_⟩
    refine q3 _ _ (.sl true .pub 1 []) (by rw [b1]; rfl) rfl (by rw [b3]; rfl) (Ext.refl _) rfl (by rw [b2]; exact nil_rd)
  cases h3 : decide ((15 : Int) < hd0 p)
  case true =>
    obtain ⟨b1, b2, b3⟩ := bf (by unfold badF; rw [h1, h2, h3]; rfl)
    simp -implicitDefEqProofs only [go_sem, Nat.reduceBEq, Nat.reduceAdd, eq_self, true_and, and_true, and_self, List.getElem?_cons_zero, List.getElem?_cons_succ, Nat.reduceLeDiff, Nat.zero_add, Nat.reduceSub, Nat.le_refl, c53, hl, h1, hg0, h2, h3]
    refine ⟨⟨by omega, by omega, k2⟩, k1, ⟨by omega, by omega, k2⟩, k1, ?_⟩
    refine q3 _ _ (.sl true .pub 1 []) (by rw [b1]; rfl) rfl (by rw [b3]; rfl) (Ext.refl _) rfl (by rw [b2]; exact nil_rd)
  have hbz : b = false := by
    obtain ⟨_, _, _, e, h1, _⟩ := hv
    cases e
    cases b with
    | false => rfl
    | true => exact absurd (h1 rfl) (bytesV_ne (i := 0) (by omega))
  subst hbz
  have part : ∀ i j, RdS σ (.sl false R.toView z (bytesV ((p.take j).drop i))) 1 (bytesV ((p.take j).drop i)) := fun i j => rd_part hv (by omega)
  have hsub : ∀ i j, List.drop i (List.take j (bytesV p)) = bytesV ((p.take j).drop i) := fun i j => by simp [bytesV, List.map_take, List.map_drop]
  have e1 : Int.toNat 1 = 1 := rfl
  have ht : p.take p.length = p := List.take_length
  simp -implicitDefEqProofs only [go_sem, Nat.reduceBEq, Nat.reduceAdd, eq_self, true_and, and_true, and_self, List.getElem?_cons_zero, List.getElem?_cons_succ, Nat.reduceLeDiff, Nat.zero_add, Nat.reduceSub, Nat.le_refl, c53, hl, h1, hg0, h2, h3, hsub, e1, ht]
  have hd1 : RdS σ (.sl false R.toView z (bytesV (p.drop 1))) 1 (bytesV (p.drop 1)) := by
    have := part 1 p.length
    rwa [ht] at this
  refine ⟨⟨by omega, by omega, k2⟩, k1, ⟨by omega, by omega, k2⟩, k1, ⟨.inr k2, by omega, by omega⟩, call_at (number_ok4 hd1 (by rw [List.length_drop]; omega)) ?_⟩
  rintro w τ ⟨rfl, rfl⟩
  refine ⟨kept_none, ?_⟩
  have hnl : num4 (p.drop 1) < 4294967296 := by
    unfold num4
    have := (((p.drop 1)[0]?).getD 0).toNat_lt
    have := (((p.drop 1)[1]?).getD 0).toNat_lt
    have := (((p.drop 1)[2]?).getD 0).toNat_lt
    have := (((p.drop 1)[3]?).getD 0).toNat_lt
    omega
  have hw1 : IntKind.i64.wrap (IntKind.i64.wrap ((p.length : Int) - 5) - 4) = (p.length : Int) - 9 := by
    rw [i64_in ((p.length : Int) - 5) (by omega), i64_in _ (by omega)]; omega
  have hw2 : IntKind.i64.wrap (num4 (p.drop 1) : Int) = num4 (p.drop 1) := i64_in _ (by omega)
  cases h4 : decide ((65536 : Int) < num4 (p.drop 1))
  case true =>
    obtain ⟨b1, b2, b3⟩ := bf (by unfold badF; rw [h1, h2, h3, h4]; rfl)
    simp -implicitDefEqProofs only [go_sem, Nat.reduceBEq, Nat.reduceAdd, eq_self, true_and, and_true, and_self, List.getElem?_cons_zero, List.getElem?_cons_succ, Nat.reduceLeDiff, Nat.zero_add, Nat.reduceSub, Nat.le_refl, h4]
    refine q3 _ _ (.sl true .pub 1 []) (by rw [b1]; rfl) rfl (by rw [b3]; rfl) (Ext.refl _) rfl (by rw [b2]; exact nil_rd)
  cases h5 : decide ((num4 (p.drop 1) : Int) = (p.length : Int) - 9)
  case false =>
    obtain ⟨b1, b2, b3⟩ := bf (by unfold badF; rw [h1, h2, h3, h4, h5]; rfl)
    simp -implicitDefEqProofs only [go_sem, Nat.reduceBEq, Nat.reduceAdd, eq_self, true_and, and_true, and_self, List.getElem?_cons_zero, List.getElem?_cons_succ, Nat.reduceLeDiff, Nat.zero_add, Nat.reduceSub, Nat.le_refl, h4, hl, hw1, hw2, h5]
    refine q3 _ _ (.sl true .pub 1 []) (by rw [b1]; rfl) rfl (by rw [b3]; rfl) (Ext.refl _) rfl (by rw [b2]; exact nil_rd)
  have hbf : badF p = false := by unfold badF; rw [h1, h2, h3, h4, h5]; rfl
  have hw3 : IntKind.i64.wrap ((p.length : Int) - 4) = ((p.length - 4 : Nat) : Int) := by rw [i64_in _ (by omega)]; omega
  have tn : ((p.length - 4 : Nat) : Int).toNat = p.length - 4 := by omega
  have hdt : p.take (p.length - 4) = (p.take (p.length - 4)).drop 0 := by simp
  have hsub0 : ∀ j, List.take j (bytesV p) = bytesV (p.take j) := fun j => by simp [bytesV, List.map_take]
  have ht4 : RdS τ (.sl false R.toView z (bytesV (p.drop (p.length - 4)))) 1 (bytesV (p.drop (p.length - 4))) := by
    have := part (p.length - 4) p.length
    rwa [ht] at this
  have hi4 : RdS τ (.sl false R.toView z (bytesV (p.take (p.length - 4)))) 1 (bytesV (p.take (p.length - 4))) := by
    have := part 0 (p.length - 4)
    rwa [List.drop_zero] at this
  clear bf hd1 hnl
  have hlt4 : (p.take (p.length - 4)).length ≤ 1073741824 := by rw [List.length_take]; omega
  have hdr : ∀ i, List.drop i (bytesV p) = bytesV (p.drop i) := fun j => by simp [bytesV, List.map_drop]
  have hi9 : RdS τ (.sl false R.toView z (bytesV ((p.drop 5).take (p.length - 9)))) 1 (bytesV ((p.drop 5).take (p.length - 9))) := rd_part hv (by omega)
  have hcut : List.drop 5 (List.take (p.length - 4) p) = (p.drop 5).take (p.length - 9) := by
    rw [List.drop_take]; congr 1
  have hkw : IntKind.i64.wrap (hd0 p : Int) = hd0 p := by
    have : hd0 p < 256 := UInt8.toNat_lt _
    exact i64_in _ (by omega)
  have t5 : Int.toNat 5 = 5 := rfl
  simp -implicitDefEqProofs only [go_sem, Nat.reduceBEq, Nat.reduceAdd, eq_self, true_and, and_true, and_self, List.getElem?_cons_zero, List.getElem?_cons_succ, Nat.reduceLeDiff, Nat.zero_add, Nat.reduceSub, Nat.le_refl, h4, hl, hw1, hw2, h5, hw3, tn, hsub, hsub0, ht, List.drop_zero, hdr]
  refine ⟨⟨⟨.inr k2, by omega, by omega⟩, ⟨.inr k2, by omega, by omega, by omega⟩, call_at (number_ok4 ht4 (by rw [List.length_drop]; omega)) ?_⟩, ⟨⟨.inr k2, by omega, by omega⟩, ⟨.inr k2, by omega, by omega, by omega⟩, call_at (number_ok4 (ht4.ext (ext_live τ true)) (by rw [List.length_drop]; omega)) ?_⟩⟩
  all_goals
    rintro w τ2 ⟨hτ, rfl⟩
    replace hτ := hτ.symm
    subst hτ
    refine ⟨(Ext.refl _).kept, ?_⟩
    simp -implicitDefEqProofs only [go_sem, Nat.reduceBEq, Nat.reduceAdd, eq_self, true_and, and_true, and_self, List.getElem?_cons_zero, List.getElem?_cons_succ, Nat.reduceLeDiff, Nat.zero_add, Nat.reduceSub, Nat.le_refl, Nat.lt_irrefl]
    refine call_at (sum_ok (s := .sl false R.toView z (bytesV (p.take (p.length - 4)))) (lit_rd (l := [])) (hi4.ext (ext_live _ true)) hlt4) ?_
    rintro w τ3 ⟨hτ, rfl⟩
    replace hτ := hτ.symm
    subst hτ
    refine ⟨(Ext.refl _).kept, ?_⟩
    have hi10 := hi9.ext (ext_live _ true)
    have hk2 := rd_src ((hi9.ext (ext_live _ true)).ext (ext_live _ true))
    have k3 := rdl (hv.ext (ext_live _ true)) (bytesV_ne (l := p) (i := 0) (by omega))
    cases h6 : decide (num4 (p.drop (p.length - 4)) = sumN (p.take (p.length - 4)))
    case false =>
      have h6' : decide ((num4 (p.drop (p.length - 4)) : Int) = sumN (p.take (p.length - 4))) = false := by
        have := of_decide_eq_false h6
        rw [decide_eq_false_iff_not]; omega
      have hbs : badS p = true := by unfold badS; rw [h6]; rfl
      simp -implicitDefEqProofs only [go_sem, Nat.reduceBEq, Nat.reduceAdd, eq_self, true_and, and_true, and_self, List.getElem?_cons_zero, List.getElem?_cons_succ, Nat.reduceLeDiff, Nat.zero_add, Nat.reduceSub, Nat.le_refl, h6']
      refine q3 _ _ (.sl true .pub 1 []) (by unfold openK; rw [hbf, hbs]; rfl) rfl (by unfold openE; rw [hbf, hbs]; rfl) (ext_live _ true) rfl (by unfold openL; rw [hbf, hbs]; exact nil_rd)
    case true =>
      have h6' : decide ((num4 (p.drop (p.length - 4)) : Int) = sumN (p.take (p.length - 4))) = true := by
        have := of_decide_eq_true h6
        rw [decide_eq_true_eq]; omega
      have hbs : badS p = false := by unfold badS; rw [h6]; rfl
      have hcv : List.drop 5 (bytesV (p.take (p.length - 4))) = bytesV ((p.drop 5).take (p.length - 9)) := by rw [← hcut]; simp [bytesV, List.map_drop]
      have ee : Ext τ ⟨τ.objs, kill (τ.live ++ [true] ++ [true]) (.own (τ.live ++ [true]).length) ++ [true]⟩ := ext_kill (ext_push (ext_live τ true)) (by simp)
      have k4 := rdl (hv.ext ee) (bytesV_ne (l := p) (i := 0) (by omega))
      have hres : RdS ⟨τ.objs, kill (τ.live ++ [true] ++ [true]) (.own (τ.live ++ [true]).length) ++ [true]⟩ (.sl false (.own (τ.live ++ [true] ++ [true]).length) 1 (bytesV (openL p))) 1 (bytesV (openL p)) := ⟨_, _, _, rfl, by simp, .inr ⟨live_last' _ _ _, rfl⟩⟩
      have hol : openL p = (p.drop 5).take (p.length - 9) := by unfold openL; rw [hbf, hbs]; rfl
      have hok : openK p = hd0 p := by unfold openK; rw [hbf, hbs]; rfl
      have hoe : openE p = 0 := by unfold openE; rw [hbf, hbs]; rfl
      have hll : (bytesV ((p.drop 5).take (p.length - 9))).length ≤ 1073741824 := by rw [bytesV_length, List.length_take, List.length_drop]; omega
      rw [hol] at hres
      simp -implicitDefEqProofs only [go_sem, Nat.reduceBEq, Nat.reduceAdd, eq_self, true_and, and_true, and_self, List.getElem?_cons_zero, List.getElem?_cons_succ, Nat.reduceLeDiff, Nat.zero_add, Nat.reduceSub, Nat.le_refl, h6', hg0, hl, hsub0, hdr, t5, tn, hkw, hcv]
      refine ⟨⟨⟨by omega, by omega, k2⟩, k3.1, ⟨.inr k2, by omega, by omega, by omega, by omega⟩, ⟨.inr trivial, .inr (live_last _ _), hk2, hll⟩, ?_⟩, ⟨by omega, by omega, k2⟩, ⟨.inr k2, by omega, by omega, by omega, by omega⟩, ⟨.inr trivial, .inr (live_last _ _), hk2, hll⟩, k4.1, ?_⟩
      all_goals
        refine q3 _ _ _ (by rw [hok]; rfl) rfl (by rw [hoe]; rfl) ee rfl (by rw [hol]; exact hres)
end
end Go.VL.wire

namespace Go.VL.wire
open Go Go.VL Go.Proofs Go.IntWalk

theorem num4_four {n : Nat} (h : n < 4294967296) : num4 (four n) = n := by
  simp only [num4, four, List.getElem?_cons_zero, List.getElem?_cons_succ, Option.getD_some, UInt8.toNat_ofNat']
  omega
theorem four_num4 {q : List UInt8} (h : q.length = 4) : four (num4 q) = q := by
  match q, h with
  | [a, b, c, d], _ =>
    have ha := a.toNat_lt
    have hb := b.toNat_lt
    have hc := c.toNat_lt
    have hd := d.toNat_lt
    simp only [num4, four, List.getElem?_cons_zero, List.getElem?_cons_succ, Option.getD_some]
    have e : ∀ (x : UInt8) (n : Nat), n % 256 = x.toNat → UInt8.ofNat n = x := fun x n h => by
      apply UInt8.toNat_inj.1; rw [UInt8.toNat_ofNat']; exact h
    rw [e a _ (by omega), e b _ (by omega), e c _ (by omega), e d _ (by omega)]
theorem four_eq {q : List UInt8} {n : Nat} (h : q.length = 4) (hn : n < 4294967296) : decide (four n = q) = decide (num4 q = n) := by
  rw [Bool.eq_iff_iff, decide_eq_true_eq, decide_eq_true_eq]
  constructor
  · rintro rfl; exact num4_four hn
  · rintro rfl; exact four_num4 h

section
variable {σ : St} {v : V} {p : List UInt8}
set_option maxRecDepth 100000 in
set_option maxHeartbeats 2000000 in
theorem ropen_ok (hv : RdS σ v 1 (bytesV p)) (hlen : p.length ≤ 100000000) :
    CallA Try.prog 56 [v] σ fun w σ' => Ext σ σ' ∧ σ'.objs = σ.objs ∧ ∃ x, w = .tup [.int .i64 (openK p), x, .int .i64 (openE p)] ∧ RdS σ' x 1 (bytesV (openL p)) := by
  obtain ⟨b, R, z, rfl, -, -⟩ := id hv
  refine fn_at Try.func56 (by decide) comp56 rfl fun Q q1 q2 => ?_
  clear q1
  have hl := bytesV_length p
  have q3 : ∀ (F : Fr) (σ' : St) (x : V), sget 2 F.s = .v (.int .i64 (openK p)) → sget 3 F.s = .v x → sget 4 F.s = .v (.int .i64 (openE p)) → Ext σ σ' → σ'.objs = σ.objs → RdS σ' x 1 (bytesV (openL p)) → Q .ret F σ' := by
    intro F σ' x h1 h2 h3 h4 h5 h6
    refine q2 _ _ ?_
    simp only [retW, Fr.va, Fr.ev, h1, h2, h3, S.val, List.nil_append, List.cons_append, retV]
    exact ⟨h4, h5, x, rfl, h6⟩
  clear q2
  have bf : badF p = true → openK p = 0 ∧ openL p = [] ∧ openE p = 2 := by
    intro h; unfold openK openL openE; rw [h]; exact ⟨rfl, rfl, rfl⟩
  cases h1 : decide ((p.length : Int) < 9)
  case true =>
    obtain ⟨b1, b2, b3⟩ := bf (by unfold badF; rw [h1]; rfl)
    simp -implicitDefEqProofs only [go_sem, Nat.reduceBEq, Nat.reduceAdd, eq_self, true_and, and_true, and_self, List.getElem?_cons_zero, List.getElem?_cons_succ, Nat.reduceLeDiff, Nat.zero_add, Nat.reduceSub, Nat.le_refl, c56, hl, h1]
    refine q3 _ _ (.sl true .pub 1 []) (by rw [b1]; rfl) rfl (by rw [b3]; rfl) (Ext.refl _) rfl (by rw [b2]; exact nil_rd)
  have h1' := of_decide_eq_false h1
  obtain ⟨k1, k2⟩ := rdl hv (bytesV_ne (i := 0) (by omega))
  have hg0 : (bytesV p)[Int.toNat 0]?.getD [] = [V.int .u8 (hd0 p)] := by
    have := bytesV_get (l := p) (i := 0) (by omega)
    have e : hd0 p = p[0].toNat := by unfold hd0; simp [List.getElem?_eq_getElem (show 0 < p.length by omega)]
    rw [e]; exact this
  cases h2 : decide ((hd0 p : Int) < 1)
  case true =>
    obtain ⟨b1, b2, b3⟩ := bf (by unfold badF; rw [h1, h2]; rfl)
    simp -implicitDefEqProofs only [go_sem, Nat.reduceBEq, Nat.reduceAdd, eq_self, true_and, and_true, and_self, List.getElem?_cons_zero, List.getElem?_cons_succ, Nat.reduceLeDiff, Nat.zero_add, Nat.reduceSub, Nat.le_refl, c56, hl, h1, hg0, h2]
    refine ⟨⟨by omega, by omega, k2⟩, k1, ?_⟩
    refine q3 _ _ (.sl true .pub 1 []) (by rw [b1]; rfl) rfl (by rw [b3]; rfl) (Ext.refl _) rfl (by rw [b2]; exact nil_rd)
  cases h3 : decide ((15 : Int) < hd0 p)
  case true =>
    obtain ⟨b1, b2, b3⟩ := bf (by unfold badF; rw [h1, h2, h3]; rfl)
    simp -implicitDefEqProofs only [go_sem, Nat.reduceBEq, Nat.reduceAdd, eq_self, true_and, and_true, and_self, List.getElem?_cons_zero, List.getElem?_cons_succ, Nat.reduceLeDiff, Nat.zero_add, Nat.reduceSub, Nat.le_refl, c56, hl, h1, hg0, h2, h3]
    refine ⟨⟨by omega, by omega, k2⟩, k1, ⟨by omega, by omega, k2⟩, k1, ?_⟩
    refine q3 _ _ (.sl true .pub 1 []) (by rw [b1]; rfl) rfl (by rw [b3]; rfl) (Ext.refl _) rfl (by rw [b2]; exact nil_rd)
  have hbz : b = false := by
    obtain ⟨_, _, _, e, h1, _⟩ := hv
    cases e
    cases b with
    | false => rfl
    | true => exact absurd (h1 rfl) (bytesV_ne (i := 0) (by omega))
  subst hbz
  have part : ∀ q, RdS σ (.sl false R.toView z (bytesV q)) 1 (bytesV q) := fun q => rd_part hv (by omega)
  have hsub : List.drop 1 (List.take 5 (bytesV p)) = bytesV ((p.take 5).drop 1) := by simp [bytesV, List.map_take, List.map_drop]
  have e1 : Int.toNat 1 = 1 := rfl
  have e5 : Int.toNat 5 = 5 := rfl
  have hn4 : num4 ((p.take 5).drop 1) = num4 (p.drop 1) := by
    rw [List.drop_take]
    simp [num4, List.getElem?_take]
  simp -implicitDefEqProofs only [go_sem, Nat.reduceBEq, Nat.reduceAdd, eq_self, true_and, and_true, and_self, List.getElem?_cons_zero, List.getElem?_cons_succ, Nat.reduceLeDiff, Nat.zero_add, Nat.reduceSub, Nat.le_refl, c56, hl, h1, hg0, h2, h3, hsub, e1, e5]
  refine ⟨⟨by omega, by omega, k2⟩, k1, ⟨by omega, by omega, k2⟩, k1, ⟨.inr k2, by omega, by omega, by omega⟩, call_at (rnumber_ok4 (part _) (by rw [List.length_drop, List.length_take]; omega)) ?_⟩
  rintro w τ ⟨rfl, rfl⟩
  refine ⟨kept_none, ?_⟩
  rw [hn4]
  have hw1 : IntKind.i64.wrap ((p.length : Int) - 9) = (p.length : Int) - 9 := i64_in _ (by omega)
  cases h4 : decide ((65536 : Int) < num4 (p.drop 1))
  case true =>
    obtain ⟨b1, b2, b3⟩ := bf (by unfold badF; rw [h1, h2, h3, h4]; rfl)
    simp -implicitDefEqProofs only [go_sem, Nat.reduceBEq, Nat.reduceAdd, eq_self, true_and, and_true, and_self, List.getElem?_cons_zero, List.getElem?_cons_succ, Nat.reduceLeDiff, Nat.zero_add, Nat.reduceSub, Nat.le_refl, h4]
    refine q3 _ _ (.sl true .pub 1 []) (by rw [b1]; rfl) rfl (by rw [b3]; rfl) (Ext.refl _) rfl (by rw [b2]; exact nil_rd)
  simp -implicitDefEqProofs only [go_sem, Nat.reduceBEq, Nat.reduceAdd, eq_self, true_and, and_true, and_self, List.getElem?_cons_zero, List.getElem?_cons_succ, Nat.reduceLeDiff, Nat.zero_add, Nat.reduceSub, Nat.le_refl, h4, hl, hsub, e1, e5]
  refine ⟨⟨.inr k2, by omega, by omega, by omega⟩, call_at (rnumber_ok4 (part _) (by rw [List.length_drop, List.length_take]; omega)) ?_⟩
  rintro w τ ⟨rfl, rfl⟩
  refine ⟨kept_none, ?_⟩
  rw [hn4]
  cases h5 : decide ((num4 (p.drop 1) : Int) = (p.length : Int) - 9)
  case false =>
    obtain ⟨b1, b2, b3⟩ := bf (by unfold badF; rw [h1, h2, h3, h4, h5]; rfl)
    simp -implicitDefEqProofs only [go_sem, Nat.reduceBEq, Nat.reduceAdd, eq_self, true_and, and_true, and_self, List.getElem?_cons_zero, List.getElem?_cons_succ, Nat.reduceLeDiff, Nat.zero_add, Nat.reduceSub, Nat.le_refl, hl, hw1, h5]
    refine q3 _ _ (.sl true .pub 1 []) (by rw [b1]; rfl) rfl (by rw [b3]; rfl) (Ext.refl _) rfl (by rw [b2]; exact nil_rd)
  have hbf : badF p = false := by unfold badF; rw [h1, h2, h3, h4, h5]; rfl
  have hw3 : IntKind.i64.wrap ((p.length : Int) - 4) = ((p.length - 4 : Nat) : Int) := by rw [i64_in _ (by omega)]; omega
  have tn : ((p.length - 4 : Nat) : Int).toNat = p.length - 4 := by omega
  have hsub0 : List.take (p.length - 4) (bytesV p) = bytesV (p.take (p.length - 4)) := by simp [bytesV, List.map_take]
  have hdr : List.drop (p.length - 4) (List.take p.length (bytesV p)) = bytesV (p.drop (p.length - 4)) := by
    have : List.take p.length (bytesV p) = bytesV p := by rw [List.take_of_length_le (by rw [hl]; exact Nat.le_refl _)]
    rw [this]; simp [bytesV, List.map_drop]
  have hback : ∀ q, (bytesV q).map byteOfC = q := bytes_back
  have hlt4 : (p.take (p.length - 4)).length ≤ 1073741824 := by rw [List.length_take]; omega
  simp -implicitDefEqProofs only [go_sem, Nat.reduceBEq, Nat.reduceAdd, eq_self, true_and, and_true, and_self, List.getElem?_cons_zero, List.getElem?_cons_succ, Nat.reduceLeDiff, Nat.zero_add, Nat.reduceSub, Nat.le_refl, hl, hw1, h5, hw3, tn, hsub0, hdr, List.drop_zero, hback]
  refine ⟨⟨.inr k2, by omega, by omega, by omega⟩, ⟨.inr k2, by omega, by omega⟩, .inr ⟨rd_toView k1, k2⟩, call_at (rsum_ok (part _) hlt4) ?_⟩
  rintro w τ ⟨rfl, rfl⟩
  refine ⟨(Ext.refl _).kept, ?_⟩
  simp -implicitDefEqProofs only [go_sem, Nat.reduceBEq, Nat.reduceAdd, eq_self, true_and, and_true, and_self, List.getElem?_cons_zero, List.getElem?_cons_succ, Nat.reduceLeDiff, Nat.zero_add, Nat.reduceSub, Nat.le_refl, Nat.lt_irrefl]
  refine call_at (rfour_ok (sumN_lt _)) ?_
  rintro w τ2 ⟨a1, a2, r1, rfl, a3, a4⟩
  refine ⟨a1.kept, ?_⟩
  have h4l : (p.drop (p.length - 4)).length = 4 := by rw [List.length_drop]; omega
  have hfe := four_eq (q := p.drop (p.length - 4)) (n := sumN (p.take (p.length - 4))) h4l (sumN_lt _)
  have k3 := rdl (hv.ext a1) (bytesV_ne (l := p) (i := 0) (by omega))
  have hkw : IntKind.i64.wrap (hd0 p : Int) = hd0 p := by
    have : hd0 p < 256 := UInt8.toNat_lt _
    exact i64_in _ (by omega)
  have t5 : Int.toNat 5 = 5 := rfl
  have hcut : List.drop 5 (List.take (p.length - 4) p) = (p.drop 5).take (p.length - 9) := by
    rw [List.drop_take]; congr 1
  have hi9 : RdS τ (.sl false R.toView z (bytesV ((p.drop 5).take (p.length - 9)))) 1 (bytesV ((p.drop 5).take (p.length - 9))) := rd_part hv (by omega)
  simp -implicitDefEqProofs only [go_sem, Nat.reduceBEq, Nat.reduceAdd, eq_self, true_and, and_true, and_self, List.getElem?_cons_zero, List.getElem?_cons_succ, Nat.reduceLeDiff, Nat.zero_add, Nat.reduceSub, Nat.le_refl, hback, hfe]
  refine ⟨.inr a3, ?_⟩
  cases h6 : decide (num4 (p.drop (p.length - 4)) = sumN (p.take (p.length - 4)))
  case false =>
    have hbs : badS p = true := by unfold badS; rw [h6]; rfl
    simp -implicitDefEqProofs only [go_sem, Nat.reduceBEq, Nat.reduceAdd, eq_self, true_and, and_true, and_self, List.getElem?_cons_zero, List.getElem?_cons_succ, Nat.reduceLeDiff, Nat.zero_add, Nat.reduceSub, Nat.le_refl, Nat.lt_irrefl]
    refine q3 _ _ (.sl true .pub 1 []) (by unfold openK; rw [hbf, hbs]; rfl) rfl (by unfold openE; rw [hbf, hbs]; rfl) a1 a2 (by unfold openL; rw [hbf, hbs]; exact nil_rd)
  have hbs : badS p = false := by unfold badS; rw [h6]; rfl
  have hk2 := rd_src ((hi9.ext a1).ext (ext_live _ true))
  have hcv : List.drop 5 (bytesV (p.take (p.length - 4))) = bytesV ((p.drop 5).take (p.length - 9)) := by rw [← hcut]; simp [bytesV, List.map_drop]
  have ee : Ext τ ⟨τ2.objs, kill (τ2.live ++ [true]) (.own τ2.live.length) ++ [true]⟩ := ext_kill (ext_push a1) a1.llen
  have k4 := rdl (hv.ext ee) (bytesV_ne (l := p) (i := 0) (by omega))
  have hres : RdS ⟨τ2.objs, kill (τ2.live ++ [true]) (.own τ2.live.length) ++ [true]⟩ (.sl false (.own (τ2.live ++ [true]).length) 1 (bytesV (openL p))) 1 (bytesV (openL p)) := ⟨_, _, _, rfl, by simp, .inr ⟨live_last' _ _ _, rfl⟩⟩
  have hol : openL p = (p.drop 5).take (p.length - 9) := by unfold openL; rw [hbf, hbs]; rfl
  have hok : openK p = hd0 p := by unfold openK; rw [hbf, hbs]; rfl
  have hoe : openE p = 0 := by unfold openE; rw [hbf, hbs]; rfl
  have hll : (bytesV ((p.drop 5).take (p.length - 9))).length ≤ 1073741824 := by rw [bytesV_length, List.length_take, List.length_drop]; omega
  rw [hol] at hres
  simp -implicitDefEqProofs only [go_sem, Nat.reduceBEq, Nat.reduceAdd, eq_self, true_and, and_true, and_self, List.getElem?_cons_zero, List.getElem?_cons_succ, Nat.reduceLeDiff, Nat.zero_add, Nat.reduceSub, Nat.le_refl, hg0, hl, hsub0, t5, tn, hkw, hcv, hw3]
  refine ⟨⟨⟨by omega, by omega, k2⟩, k3.1, ⟨.inr k2, by omega, by omega, by omega, by omega⟩, ⟨.inr trivial, .inr (live_last _ _), hk2, hll⟩, ?_⟩, ⟨by omega, by omega, k2⟩, ⟨.inr k2, by omega, by omega, by omega, by omega⟩, ⟨.inr trivial, .inr (live_last _ _), hk2, hll⟩, k4.1, ?_⟩
  all_goals
    refine q3 _ _ _ (by rw [hok]; rfl) rfl (by rw [hoe]; rfl) ee a2 (by rw [hol]; exact hres)
end
end Go.VL.wire

namespace Go.VL.wire
open Go Go.VL Go.Proofs Go.IntWalk

/-- A reader's place, its error, the error's place. -/
abbrev RS := Nat × Int × Int
def num (bs : List UInt8) (st : RS) : Nat × RS := numR bs st.1 st.2.1 st.2.2
def cnt (bs : List UInt8) (most : Int) (st : RS) : Nat × RS := cntR bs st.1 st.2.1 st.2.2 most
def txt (bs : List UInt8) (most : Int) (st : RS) : List UInt8 × RS := txtR bs st.1 st.2.1 st.2.2 most
def stp (bs : List UInt8) (st : RS) : (Nat × Nat) × RS := (((num bs st).1, (num bs (num bs st).2).1), (num bs (num bs st).2).2)
def numsN (bs : List UInt8) : Nat → RS → List Nat × RS
  | 0, st => ([], st)
  | k + 1, st => ((num bs st).1 :: (numsN bs k (num bs st).2).1, (numsN bs k (num bs st).2).2)
def nums (bs : List UInt8) (st : RS) : List Nat × RS := numsN bs (cnt bs 64 st).1 (cnt bs 64 st).2
theorem numsN_snoc (bs : List UInt8) : ∀ (k : Nat) (st : RS), numsN bs (k + 1) st = ((numsN bs k st).1 ++ [(num bs (numsN bs k st).2).1], (num bs (numsN bs k st).2).2)
  | 0, st => rfl
  | k + 1, st => by
    rw [numsN, numsN_snoc bs k (num bs st).2, numsN]; rfl
/-- All's well with a reader. -/
def In (bs : List UInt8) (st : RS) : Prop := st.1 ≤ bs.length ∧ (st.2.1 = 0 → st.2.2 = 0)
theorem In.num {bs : List UInt8} {st : RS} (h : In bs st) : In bs (num bs st).2 := ⟨(numR_bound bs _ _ h.1).1, numR_bad h.2⟩
theorem In.cnt {bs : List UInt8} {st : RS} {m : Int} (h : In bs st) : In bs (cnt bs m st).2 := ⟨(cntR_bound bs _ _ _ h.1).1, cntR_bad h.2⟩
theorem In.txt {bs : List UInt8} {st : RS} {m : Int} (h : In bs st) : In bs (txt bs m st).2 := ⟨txtR_bound bs _ _ _ h.1, txtR_bad h.2⟩
theorem In.stp {bs : List UInt8} {st : RS} (h : In bs st) : In bs (stp bs st).2 := h.num.num
theorem In.numsN {bs : List UInt8} : ∀ (k : Nat) {st : RS}, In bs st → In bs (numsN bs k st).2
  | 0, _, h => h
  | k + 1, _, h => In.numsN k h.num
theorem num_lt {bs : List UInt8} {st : RS} (h : In bs st) : (num bs st).1 < 9223372036854775808 := (numR_bound bs _ _ h.1).2
theorem numsN_len (bs : List UInt8) : ∀ (k : Nat) (st : RS), (numsN bs k st).1.length = k
  | 0, st => rfl
  | k + 1, st => by rw [numsN, List.length_cons, numsN_len bs k]
theorem cnt_le (bs : List UInt8) (st : RS) (h : In bs st) : (cnt bs 64 st).1 ≤ 64 := by
  have h0 : (numR bs st.1 st.2.1 st.2.2).2.2.1 = 0 ∧ st.2.1 = 0 ∨ (numR bs st.1 st.2.1 st.2.2).1 = 0 := by
    unfold numR
    by_cases he : st.2.1 = 0
    · rw [if_pos he]
      split
      · exact .inl ⟨rfl, he⟩
      · exact .inr rfl
    · rw [if_neg he]; exact .inr rfl
  unfold wire.cnt cntR
  split
  · simp
  · rename_i hn
    rcases h0 with ⟨h1, h2⟩ | h1
    · have : ¬ (64 : Int) < (numR bs st.1 st.2.1 st.2.2).1 := fun h => hn ⟨h2, h1, h⟩
      omega
    · omega

/-- Only an object has changed. -/
structure Upd (i : Nat) (σ σ' : St) : Prop where
  ext : ∀ σ0, Ext σ0 σ → σ0.objs.length ≤ i → Ext σ0 σ'
  live : ∀ (r : Nat), σ.live[r]? = some true → σ'.live[r]? = some true
  objs : ∀ (j : Nat) o, j ≠ i → σ.objs[j]? = some o → σ'.objs[j]? = some o
  llen : σ.live.length ≤ σ'.live.length
theorem Upd.refl (i : Nat) (σ : St) : Upd i σ σ := ⟨fun _ h _ => h, fun _ h => h, fun _ _ _ h => h, Nat.le_refl _⟩
theorem Upd.trans {i : Nat} {a b c : St} (h : Upd i a b) (k : Upd i b c) : Upd i a c :=
  ⟨fun s h1 h2 => k.ext s (h.ext s h1 h2) h2, fun r hr => k.live r (h.live r hr), fun j o hj ho => k.objs j o hj (h.objs j o hj ho), Nat.le_trans h.llen k.llen⟩
theorem Upd.setC (σ : St) (i : Nat) (cs : List V) : Upd i σ (σ.setC i cs) :=
  ⟨fun _ h1 h2 => ext_set h1 h2, fun _ h => h, fun j o hj ho => by
    show (σ.objs.set i _)[j]? = _
    rw [List.getElem?_set_ne (Ne.symm hj)]; exact ho, Nat.le_refl _⟩
theorem Upd.of_ext {i : Nat} {σ σ' : St} (h : Ext σ σ') : Upd i σ σ' := ⟨fun _ k _ => k.trans h, h.live, fun j o _ ho => h.objs j o ho, h.llen⟩
theorem rd_lv {σ σ' : St} {v : V} {s : Nat} {es : List (List V)} (h : RdS σ v s es) (hl : ∀ (r : Nat), σ.live[r]? = some true → σ'.live[r]? = some true) : RdS σ' v s es := by
  obtain ⟨b, r, s', h1, h2, h3⟩ := h
  refine ⟨b, r, s', h1, h2, h3.imp_right fun x => ⟨?_, x.2⟩⟩
  have := x.1
  cases r
  · trivial
  · exact hl _ this
  · exact hl _ this
theorem rd_upd {i : Nat} {σ σ' : St} {v : V} {s : Nat} {es : List (List V)} (h : RdS σ v s es) (hu : Upd i σ σ') : RdS σ' v s es := rd_lv h hu.live
/-- A reader, of these bytes. -/
def RdrAt (σ : St) (i : Nat) (s : V) (bs : List UInt8) (st : RS) : Prop := σ.objs[i]? = some (.cells (cellsR s st.1 st.2.1 st.2.2)) ∧ RdS σ s 1 (bytesV bs)
theorem rdrAt_set {σ : St} {i : Nat} {s : V} {bs : List UInt8} {st0 st : RS} (h : σ.objs[i]? = some (.cells (cellsR s st0.1 st0.2.1 st0.2.2))) (hs : RdS σ s 1 (bytesV bs)) : RdrAt (σ.setC i (cellsR s st.1 st.2.1 st.2.2)) i s bs st := by
  refine ⟨?_, hs.setC⟩
  show (σ.objs.set i _)[i]? = _
  rw [List.getElem?_set_self (List.getElem?_eq_some_iff.1 h).1]
theorem RdrAt.ext {σ σ' : St} {i : Nat} {s : V} {bs : List UInt8} {st : RS} (h : RdrAt σ i s bs st) (he : Ext σ σ') : RdrAt σ' i s bs st := ⟨he.objs _ _ h.1, h.2.ext he⟩

section
variable {σ : St} {i : Nat} {bs : List UInt8} {st : RS} {m : Int} {s : V}
theorem num_at (h : RdrAt σ i s bs st) (hi : In bs st) (hlen : bs.length ≤ 1073741824) :
    CallA Try.prog 36 [.ptr (some (i, 0))] σ fun v σ' => v = .int .i64 (num bs st).1 ∧ RdrAt σ' i s bs (num bs st).2 ∧ Upd i σ σ' := by
  obtain ⟨h1, h2⟩ := h
  refine (num_ok h1 h2 hi.1 hlen).mono ?_
  rintro v σ' ⟨rfl, rfl⟩
  exact ⟨rfl, rdrAt_set (st := (num bs st).2) h1 h2, Upd.setC _ _ _⟩
theorem cnt_at (h : RdrAt σ i s bs st) (hi : In bs st) (hlen : bs.length ≤ 1073741824) :
    CallA Try.prog 54 [.ptr (some (i, 0)), .int .i64 m] σ fun v σ' => v = .int .i64 (cnt bs m st).1 ∧ RdrAt σ' i s bs (cnt bs m st).2 ∧ Upd i σ σ' := by
  obtain ⟨h1, h2⟩ := h
  refine (count_ok (most := m) h1 h2 hi.1 hlen).mono ?_
  rintro v σ' ⟨rfl, rfl⟩
  exact ⟨rfl, rdrAt_set (st := (cnt bs m st).2) h1 h2, Upd.setC _ _ _⟩
theorem txt_at (h : RdrAt σ i s bs st) (hi : In bs st) (hlen : bs.length ≤ 1073741824) :
    CallA Try.prog 39 [.ptr (some (i, 0)), .int .i64 m] σ fun v σ' => v = .str (txt bs m st).1 ∧ RdrAt σ' i s bs (txt bs m st).2 ∧ Upd i σ σ' := by
  obtain ⟨h1, h2⟩ := h
  refine (text_ok (most := m) h1 h2 hi.1 hlen).mono ?_
  rintro v σ' ⟨rfl, rfl⟩
  exact ⟨rfl, rdrAt_set (st := (txt bs m st).2) h1 h2, Upd.setC _ _ _⟩
set_option maxRecDepth 100000 in
theorem stp_at (h : RdrAt σ i s bs st) (hi : In bs st) (hlen : bs.length ≤ 1073741824) :
    CallA Try.prog 37 [.ptr (some (i, 0))] σ fun v σ' => v = stV (stp bs st).1.1 (stp bs st).1.2 ∧ RdrAt σ' i s bs (stp bs st).2 ∧ Upd i σ σ' := by
  refine fn_at Try.func37 (by decide) comp37 rfl fun Q q1 q2 => ?_
  simp -implicitDefEqProofs only [go_sem, Nat.reduceBEq, Nat.reduceAdd, eq_self, true_and, and_true, and_self, List.getElem?_cons_zero, List.getElem?_cons_succ, Nat.reduceLeDiff, Nat.zero_add, Nat.reduceSub, Nat.le_refl, c37]
  refine call_at (num_at h hi hlen) ?_
  rintro v τ ⟨rfl, h1, h2⟩
  refine ⟨kept_none, ?_⟩
  simp -implicitDefEqProofs only [go_sem, Nat.reduceBEq, Nat.reduceAdd, eq_self, true_and, and_true, and_self, List.getElem?_cons_zero, List.getElem?_cons_succ, Nat.reduceLeDiff, Nat.zero_add, Nat.reduceSub, Nat.le_refl, Nat.lt_irrefl]
  refine call_at (num_at h1 hi.num hlen) ?_
  rintro v τ2 ⟨rfl, h3, h4⟩
  refine ⟨kept_none, ?_⟩
  simp -implicitDefEqProofs only [go_sem, Nat.reduceBEq, Nat.reduceAdd, eq_self, true_and, and_true, and_self, List.getElem?_cons_zero, List.getElem?_cons_succ, Nat.reduceLeDiff, Nat.zero_add, Nat.reduceSub, Nat.le_refl, Nat.lt_irrefl]
  refine q2 _ _ ?_
  simp -implicitDefEqProofs only [go_sem, Nat.reduceBEq, Nat.reduceAdd, eq_self, true_and, and_true, and_self, List.getElem?_cons_zero, List.getElem?_cons_succ, Nat.reduceLeDiff, Nat.zero_add, Nat.reduceSub, Nat.le_refl, stV]
  exact ⟨rfl, h3, h2.trans h4⟩
/-- A slice that is none, or under a right that is not older. -/
def FreshS (n : Nat) (v : V) : Prop := (∃ z, v = .sl true .pub z []) ∨ ∃ q z es, v = .sl false (.own q) z es ∧ n ≤ q
def intsN (l : List Nat) : List Int := l.map fun (n : Nat) => (n : Int)
set_option maxRecDepth 100000 in
set_option maxHeartbeats 1000000 in
theorem nums_at (h : RdrAt σ i s bs st) (hi : In bs st) (hlen : bs.length ≤ 1073741824) :
    CallA Try.prog 38 [.ptr (some (i, 0))] σ fun v σ' => RdS σ' v 1 (intsV .i64 (intsN (nums bs st).1)) ∧ FreshS σ.live.length v ∧ RdrAt σ' i s bs (nums bs st).2 ∧ Upd i σ σ' := by
  refine fn_at Try.func38 (by decide) comp38 rfl fun Q q1 q2 => ?_
  simp -implicitDefEqProofs only [go_sem, Nat.reduceBEq, Nat.reduceAdd, eq_self, true_and, and_true, and_self, List.getElem?_cons_zero, List.getElem?_cons_succ, Nat.reduceLeDiff, Nat.zero_add, Nat.reduceSub, Nat.le_refl, c38]
  refine call_at (cnt_at h hi hlen) ?_
  rintro v τ ⟨rfl, h1, h2⟩
  refine ⟨kept_none, ?_⟩
  have hn := cnt_le bs st hi
  have hin := hi.cnt (m := 64)
  have hnums : nums bs st = numsN bs (cnt bs 64 st).1 (cnt bs 64 st).2 := rfl
  generalize (cnt bs 64 st).1 = n at hn hnums
  generalize (cnt bs 64 st).2 = s0 at hin h1 hnums
  rw [hnums] at q2
  simp -implicitDefEqProofs only [go_sem, Nat.reduceBEq, Nat.reduceAdd, eq_self, true_and, and_true, and_self, List.getElem?_cons_zero, List.getElem?_cons_succ, Nat.reduceLeDiff, Nat.zero_add, Nat.reduceSub, Nat.le_refl, Nat.lt_irrefl]
  refine loop_at (fun (x : Nat × V) => ⟨[(0, .v (.ptr (some (i, 0)))), (3, .v x.2), (5, .v (.int .i64 n)), (6, .v (.int .i64 x.1))], []⟩)
    (fun x τ' => x.1 ≤ n ∧ RdrAt τ' i s bs (numsN bs x.1 s0).2 ∧ Upd i σ τ' ∧ ((x.2 = .sl true .pub 1 [] ∧ x.1 = 0) ∨ ∃ q, x.2 = .sl false (.own q) 1 (intsV .i64 (intsN (numsN bs x.1 s0).1)) ∧ τ'.live[q]? = some true ∧ σ.live.length ≤ q)) (fun x => n - x.1) (0, .sl true .pub 1 []) ?_ ?_ ?_
  · exact .inr (by simp -implicitDefEqProofs only [go_sem, Nat.reduceBEq, Nat.reduceAdd, eq_self, true_and, and_true, and_self, List.getElem?_cons_zero, List.getElem?_cons_succ, Nat.reduceLeDiff, Nat.zero_add, Nat.reduceSub, Nat.le_refl, Nat.lt_irrefl]; trivial)
  · exact ⟨Nat.zero_le _, h1, h2, .inl ⟨rfl, rfl⟩⟩
  rintro ⟨k, w⟩ τ1 ⟨g1, g2, g3, g4⟩ Z z1 z2 z3
  simp only at g1 g2 g4
  have hw : ∃ b R, w = .sl b R 1 (intsV .i64 (intsN (numsN bs k s0).1)) ∧ (b = true ∧ R = .pub ∧ k = 0 ∨ b = false ∧ ∃ q, R = .own q ∧ τ1.live[q]? = some true ∧ σ.live.length ≤ q) := by
    rcases g4 with ⟨rfl, rfl⟩ | ⟨q, rfl, h1, h2⟩
    · exact ⟨true, .pub, by simp [numsN, intsN, intsV], .inl ⟨rfl, rfl, rfl⟩⟩
    · exact ⟨false, .own q, rfl, .inr ⟨rfl, q, rfl, h1, h2⟩⟩
  obtain ⟨b, R, rfl, hbR⟩ := hw
  simp -implicitDefEqProofs only [go_sem, Nat.reduceBEq, Nat.reduceAdd, eq_self, true_and, and_true, and_self, List.getElem?_cons_zero, List.getElem?_cons_succ, Nat.reduceLeDiff, Nat.zero_add, Nat.reduceSub, Nat.le_refl, Nat.lt_irrefl]
  refine CondW_b (fun hc => ?_) (fun hc => ?_)
  · have hk : k < n := by simpa using hc
    simp -implicitDefEqProofs only [go_sem, Nat.reduceBEq, Nat.reduceAdd, eq_self, true_and, and_true, and_self, List.getElem?_cons_zero, List.getElem?_cons_succ, Nat.reduceLeDiff, Nat.zero_add, Nat.reduceSub, Nat.le_refl, Nat.lt_irrefl]
    refine call_at (num_at g2 (In.numsN k hin) hlen) ?_
    rintro v τ2 ⟨rfl, a1, a2⟩
    refine ⟨kept_none, ?_⟩
    have hsn := numsN_snoc bs k s0
    have hll : (intsV .i64 (intsN (numsN bs k s0).1)).length ≤ 1073741823 := by simp [intsV, intsN, numsN_len]; omega
    simp -implicitDefEqProofs only [go_sem, Nat.reduceBEq, Nat.reduceAdd, eq_self, true_and, and_true, and_self, List.getElem?_cons_zero, List.getElem?_cons_succ, Nat.reduceLeDiff, Nat.zero_add, Nat.reduceSub, Nat.le_refl, Nat.lt_irrefl]
    refine ⟨⟨.inr trivial, ?_, ⟨.inr (live_last _ _), .inl trivial⟩, hll⟩, ?_⟩
    · rcases hbR with ⟨rfl, rfl, -⟩ | ⟨rfl, q, rfl, h1, h2⟩
      · rfl
      · exact .inr ((ext_live _ _).live _ (a2.live _ h1))
    have hap : intsV .i64 (intsN (numsN bs k s0).1) ++ [[V.int .i64 ((num bs (numsN bs k s0).2).1 : Int)]] = intsV .i64 (intsN (numsN bs (k + 1) s0).1) := by rw [hsn]; simp [intsV, intsN]
    have hkl : ∀ r, (τ2.live ++ [true])[r]? = some true → (∀ q, R = .own q → r ≠ q) → (kill (τ2.live ++ [true]) R ++ [true])[r]? = some true := by
      intro r hr hne
      have hlt := (List.getElem?_eq_some_iff.1 hr).1
      have hlk : (kill (τ2.live ++ [true]) R).length = (τ2.live ++ [true]).length := by cases R <;> simp [kill]
      rw [List.getElem?_append_left (by rw [hlk]; exact hlt)]
      cases R with
      | pub => exact hr
      | view _ => exact hr
      | own q => show ((τ2.live ++ [true]).set q false)[r]? = _; rw [List.getElem?_set_ne (Ne.symm (hne q rfl))]; exact hr
    have hqs : ∀ q, R = .own q → σ.live.length ≤ q := by
      intro q hq
      rcases hbR with ⟨_, rfl, _⟩ | ⟨_, q', rfl, _, h2⟩
      · cases hq
      · cases hq; exact h2
    have hlv : ∀ r, r < σ.live.length → τ2.live[r]? = some true → (kill (τ2.live ++ [true]) R ++ [true])[r]? = some true := fun r hr h => by
      refine hkl r ((ext_live _ _).live _ h) fun q hq => ?_
      have := hqs q hq; omega
    have hlk : (kill (τ2.live ++ [true]) R ++ [true]).length = τ2.live.length + 2 := by cases R <;> simp [kill]
    have hup : Upd i σ ⟨τ2.objs, kill (τ2.live ++ [true]) R ++ [true]⟩ := by
      have g := g3.trans a2
      refine ⟨fun s0 hs1 hs2 => ?_, fun r hr => hlv r (List.getElem?_eq_some_iff.1 hr).1 (g.live _ hr), g.objs, by rw [hlk]; have := g.llen; omega⟩
      have e := g.ext s0 hs1 hs2
      exact ⟨e.objs, fun r hr => hlv r (by have := (List.getElem?_eq_some_iff.1 hr).1; have := hs1.llen; omega) (e.live _ hr), e.olen, by rw [hlk]; have := e.llen; omega⟩
    have hex : (b && ([[V.int .i64 ((num bs (numsN bs k s0).2).1 : Int)]] : List (List V)).isEmpty) = false := by cases b <;> rfl
    have hl1 : (kill (τ2.live ++ [true]) R).length = (τ2.live ++ [true]).length := by cases R <;> simp [kill]
    simp only [hex, Bool.not_false]
    refine z1 (k + 1, .sl false (.own (τ2.live ++ [true]).length) 1 (intsV .i64 (intsN (numsN bs (k + 1) s0).1))) _ _ (.inr ?_) (by simp only; omega) ⟨by simp only; omega, ?_, hup, .inr ⟨_, rfl, ?_, ?_⟩⟩
    · simp -implicitDefEqProofs only [go_sem, Nat.reduceBEq, Nat.reduceAdd, eq_self, true_and, and_true, and_self, List.getElem?_cons_zero, List.getElem?_cons_succ, Nat.reduceLeDiff, Nat.zero_add, Nat.reduceSub, Nat.le_refl, hap, inc64 hk (by omega)]
    · simp only [hsn]
      exact ⟨a1.1, rd_upd h.2 hup⟩
    · rw [← hl1]; exact live_last _ _
    · have := (g3.trans a2).llen; simp; omega
  · have hk : ¬ k < n := by simpa using hc
    obtain rfl : k = n := by omega
    simp -implicitDefEqProofs only [go_sem, Nat.reduceBEq, Nat.reduceAdd, eq_self, true_and, and_true, and_self, List.getElem?_cons_zero, List.getElem?_cons_succ, Nat.reduceLeDiff, Nat.zero_add, Nat.reduceSub, Nat.le_refl, Nat.lt_irrefl]
    refine z2 _ _ _ ?_
    simp -implicitDefEqProofs only [go_sem, Nat.reduceBEq, Nat.reduceAdd, eq_self, true_and, and_true, and_self, List.getElem?_cons_zero, List.getElem?_cons_succ, Nat.reduceLeDiff, Nat.zero_add, Nat.reduceSub, Nat.le_refl, Nat.lt_irrefl]
    refine q2 _ _ ?_
    simp -implicitDefEqProofs only [go_sem, Nat.reduceBEq, Nat.reduceAdd, eq_self, true_and, and_true, and_self, List.getElem?_cons_zero, List.getElem?_cons_succ, Nat.reduceLeDiff, Nat.zero_add, Nat.reduceSub, Nat.le_refl, Nat.lt_irrefl]
    refine ⟨?_, ?_, g2, g3⟩
    · rcases hbR with ⟨rfl, rfl, rfl⟩ | ⟨rfl, q, rfl, h1, h2⟩
      · exact ⟨_, _, _, rfl, by simp [numsN, intsN, intsV], .inl rfl⟩
      · exact ⟨_, _, _, rfl, by simp, .inr ⟨h1, rfl⟩⟩
    · rcases hbR with ⟨rfl, rfl, rfl⟩ | ⟨rfl, q, rfl, h1, h2⟩
      · exact .inl ⟨1, by simp [numsN, intsN, intsV]⟩
      · exact .inr ⟨q, _, _, rfl, h2⟩
end
end Go.VL.wire

import Derived.Test.YtcojigpknididaaB1
import Derived.Shelf.SlSortCmp.NoneTotal
import Derived.Shelf.Lay
import Derived.Ground.SlsfProg
import Derived.Test.YtcojigpknididaaProg
import Derived.Shelf.Spec.SlicesInsertGrow
set_option linter.unusedVariables false
set_option linter.unusedSimpArgs false
namespace Go.VL.opl
open Go Go.VL Go.Proofs Go.IntWalk

def right (c r : Int) : Bool := decide (1 ≤ c) && (decide (c ≤ 1099511627776) && (decide (0 ≤ r) && decide (r < 64)))
def stV (c r : Int) : V := .agg [.int .i64 c, .int .i64 r]

section
variable {σ : St} {c r a1 a2 b1 b2 : Int}
set_option maxRecDepth 100000 in
theorem replica_ok : CallA Try.prog 84 [.int .i64 r] σ fun v σ' => σ' = σ ∧ v = .bool (decide (0 ≤ r) && decide (r < 64)) := by
  refine fn_at Try.func84 (by decide) comp84 rfl fun Q q1 q2 => ?_
  cases h1 : decide (0 ≤ r) <;> cases h2 : decide (r < 64)
  all_goals
    rw [h1, h2] at q2
    simp -implicitDefEqProofs only [go_sem, Nat.reduceBEq, Nat.reduceAdd, eq_self, true_and, and_self, c84, h1, h2]
    refine q2 _ _ ?_
    simp -implicitDefEqProofs only [go_sem, Nat.reduceBEq, Nat.reduceAdd]
    first | exact ⟨trivial, trivial⟩ | exact ⟨trivial, rfl⟩ | exact ⟨rfl, rfl⟩ | exact ⟨rfl, trivial⟩ | trivial
set_option maxRecDepth 100000 in
theorem right_ok : CallA Try.prog 66 [stV c r] σ fun v σ' => σ' = σ ∧ v = .bool (right c r) := by
  refine fn_at Try.func66 (by decide) comp66 rfl fun Q q1 q2 => ?_
  simp only [right] at q2
  cases h1 : decide (1 ≤ c) <;> cases h2 : decide (c ≤ 1099511627776)
  case true.true =>
    rw [h1, h2] at q2
    simp -implicitDefEqProofs only [go_sem, Nat.reduceBEq, Nat.reduceAdd, eq_self, true_and, and_self, c66, stV, h1, h2]
    refine call_at replica_ok ?_
    rintro v σ' ⟨rfl, rfl⟩
    refine ⟨kept_none, ?_⟩
    simp -implicitDefEqProofs only [go_sem, Nat.reduceBEq, Nat.reduceAdd]
    refine q2 _ _ ?_
    simp -implicitDefEqProofs only [go_sem, Nat.reduceBEq, Nat.reduceAdd]
    first | exact ⟨trivial, trivial⟩ | exact ⟨trivial, rfl⟩ | exact ⟨rfl, rfl⟩ | exact ⟨rfl, trivial⟩ | trivial
  all_goals
    rw [h1, h2] at q2
    simp -implicitDefEqProofs only [go_sem, Nat.reduceBEq, Nat.reduceAdd, eq_self, true_and, and_self, c66, stV, h1, h2]
    refine q2 _ _ ?_
    simp -implicitDefEqProofs only [go_sem, Nat.reduceBEq, Nat.reduceAdd]
    first | exact ⟨trivial, trivial⟩ | exact ⟨trivial, rfl⟩ | exact ⟨rfl, rfl⟩ | exact ⟨rfl, trivial⟩ | trivial
set_option maxRecDepth 100000 in
theorem rright_ok : CallA Try.prog 57 [stV c r] σ fun v σ' => σ' = σ ∧ v = .bool (right c r) := by
  refine fn_at Try.func57 (by decide) comp57 rfl fun Q q1 q2 => ?_
  simp only [right] at q2
  cases h1 : decide (1 ≤ c) <;> cases h2 : decide (c ≤ 1099511627776) <;> cases h3 : decide (0 ≤ r) <;> cases h4 : decide (r < 64)
  all_goals
    rw [h1, h2, h3, h4] at q2
    simp -implicitDefEqProofs only [go_sem, Nat.reduceBEq, Nat.reduceAdd, eq_self, true_and, and_self, c57, stV, h1, h2, h3, h4]
    refine q2 _ _ ?_
    simp -implicitDefEqProofs only [go_sem, Nat.reduceBEq, Nat.reduceAdd]
    first | exact ⟨trivial, trivial⟩ | exact ⟨trivial, rfl⟩ | exact ⟨rfl, rfl⟩ | exact ⟨rfl, trivial⟩ | trivial

def less (a1 a2 b1 b2 : Int) : Bool := decide (a1 < b1) || (decide (a1 = b1) && decide (a2 < b2))
def cmp (a1 a2 b1 b2 : Int) : Int := bif decide (a1 = b1) && decide (a2 = b2) then 0 else bif less a1 a2 b1 b2 then -1 else 1

set_option maxRecDepth 100000 in
theorem compare_ok : CallA Try.prog 77 [stV a1 a2, stV b1 b2] σ fun v σ' => σ' = σ ∧ v = .int .i64 (cmp a1 a2 b1 b2) := by
  refine fn_at Try.func77 (by decide) comp77 rfl fun Q q1 q2 => ?_
  simp only [cmp, less] at q2
  cases h1 : decide (a1 = b1) <;> cases h2 : decide (a2 = b2) <;> cases h3 : decide (a1 < b1) <;> cases h4 : decide (a2 < b2)
  all_goals
    rw [h1, h2, h3, h4] at q2
    simp -implicitDefEqProofs only [go_sem, Nat.reduceBEq, Nat.reduceAdd, eq_self, true_and, and_self, c77, stV, h1, h2, h3, h4, V.eqs, V.eq]
    refine q2 _ _ ?_
    simp -implicitDefEqProofs only [go_sem, Nat.reduceBEq, Nat.reduceAdd]
    first | exact ⟨trivial, trivial⟩ | exact ⟨trivial, rfl⟩ | exact ⟨rfl, rfl⟩ | exact ⟨rfl, trivial⟩ | trivial
set_option maxRecDepth 100000 in
theorem less_ok : CallA Try.prog 26 [stV a1 a2, stV b1 b2] σ fun v σ' => σ' = σ ∧ v = .bool (less a1 a2 b1 b2) := by
  refine fn_at Try.func26 (by decide) comp26 rfl fun Q q1 q2 => ?_
  simp only [less] at q2
  cases h1 : decide (a1 = b1) <;> cases h3 : decide (a1 < b1) <;> cases h4 : decide (a2 < b2)
  all_goals
    rw [h1, h3, h4] at q2
    simp -implicitDefEqProofs only [go_sem, Nat.reduceBEq, Nat.reduceAdd, eq_self, true_and, and_self, c26, stV, h1, h3, h4]
    refine q2 _ _ ?_
    simp -implicitDefEqProofs only [go_sem, Nat.reduceBEq, Nat.reduceAdd]
    first | exact ⟨trivial, trivial⟩ | exact ⟨trivial, rfl⟩ | exact ⟨rfl, rfl⟩ | exact ⟨rfl, trivial⟩ | trivial
end
end Go.VL.opl

namespace Go.VL.opl
open Go Go.VL Go.Proofs Go.IntWalk

def letter (c : UInt8) : Bool := !(decide ((c.toNat : Int) < 97) || decide ((122 : Int) < c.toNat))
def okc (c : UInt8) : Bool := !((decide ((c.toNat : Int) < 97) || decide ((122 : Int) < c.toNat)) && ((decide ((c.toNat : Int) < 48) || decide ((57 : Int) < c.toNat)) && !decide ((c.toNat : Int) = 45)))
def nameB : List UInt8 → Bool
  | [] => false
  | c :: r => decide (((c :: r).length : Int) ≤ 32) && (letter c && (c :: r).all okc)
theorem all_take {s : List UInt8} {f : UInt8 → Bool} {i : Nat} (hi : i < s.length) : (s.take (i + 1)).all f = ((s.take i).all f && f s[i]) := by
  rw [List.take_succ_eq_append_getElem hi, List.all_append]; simp
theorem all_bad {s : List UInt8} {f : UInt8 → Bool} {i : Nat} (hi : i < s.length) (h : f s[i] = false) : s.all f = false := by
  rw [List.all_eq_false]
  exact ⟨s[i], List.getElem_mem hi, by simp [h]⟩

section
variable {σ : St} {s : List UInt8}
set_option maxRecDepth 100000 in
set_option maxHeartbeats 1600000 in
theorem name_ok (hlen : s.length < 4611686018427387904) : CallA Try.prog 86 [.str s] σ fun v σ' => σ' = σ ∧ v = .bool (nameB s) := by
  refine fn_at Try.func86 (by decide) comp86 rfl fun Q q1 q2 => ?_
  cases s with
  | nil =>
    have h0 : decide (((0 : Nat) : Int) = 0) = true := by decide
    simp -implicitDefEqProofs only [go_sem, Nat.reduceBEq, Nat.reduceAdd, eq_self, true_and, and_self, c86, h0]
    refine q2 _ _ ?_
    simp -implicitDefEqProofs only [go_sem, Nat.reduceBEq, Nat.reduceAdd]
    first | exact ⟨trivial, trivial⟩ | exact ⟨trivial, rfl⟩ | exact ⟨rfl, rfl⟩ | exact ⟨rfl, trivial⟩ | trivial
  | cons c r =>
    have h0 : decide (((c :: r).length : Int) = 0) = false := by simp; omega
    have hg : ((c :: r)[Int.toNat 0]?.getD 0) = c := rfl
    have hl : ((c :: r).length : Int) = ((r.length + 1 : Nat) : Int) := rfl
    generalize hs : c :: r = s at h0 hg hl hlen q1 q2 ⊢
    have hn : nameB s = (decide ((s.length : Int) ≤ 32) && (letter c && s.all okc)) := by rw [← hs]; rfl
    have d1 : decide ((32 : Int) < s.length) = !decide ((s.length : Int) ≤ 32) := by
      by_cases h : (s.length : Int) ≤ 32 <;> simp [h] <;> omega
    have hpos : (0 : Int) ≤ 0 ∧ (0 : Int) < s.length := by omega
    rw [hn] at q2
    cases h1 : decide ((s.length : Int) ≤ 32)
    · rw [h1] at q2
      simp -implicitDefEqProofs only [go_sem, Nat.reduceBEq, Nat.reduceAdd, eq_self, true_and, and_self, c86, h0, d1, h1]
      refine q2 _ _ ?_
      simp -implicitDefEqProofs only [go_sem, Nat.reduceBEq, Nat.reduceAdd]
      first | exact ⟨trivial, trivial⟩ | exact ⟨trivial, rfl⟩ | exact ⟨rfl, rfl⟩ | exact ⟨rfl, trivial⟩ | trivial
    unfold letter at q2
    cases h2 : decide ((c.toNat : Int) < 97) <;> cases h3 : decide ((122 : Int) < c.toNat)
    case true.true | true.false | false.true =>
      rw [h1, h2, h3] at q2
      simp -implicitDefEqProofs only [go_sem, Nat.reduceBEq, Nat.reduceAdd, eq_self, true_and, and_self, c86, h0, d1, h1, hg, h2, h3]
      refine ⟨hpos, ?_⟩
      try refine ⟨hpos, ?_⟩
      refine q2 _ _ ?_
      simp -implicitDefEqProofs only [go_sem, Nat.reduceBEq, Nat.reduceAdd]
      first | exact ⟨trivial, trivial⟩ | exact ⟨trivial, rfl⟩ | exact ⟨rfl, rfl⟩ | exact ⟨rfl, trivial⟩ | trivial
    rw [h1, h2, h3] at q2
    simp -implicitDefEqProofs only [go_sem, Nat.reduceBEq, Nat.reduceAdd, eq_self, true_and, and_self, c86, h0, d1, h1, hg, h2, h3]
    refine ⟨hpos, hpos, ?_⟩
    refine loop_at (fun (i : Nat) => ⟨[(0, .v (.str s)), (24, .v (.int .i64 s.length)), (25, .v (.int .i64 i))], []⟩) (fun i τ => τ = σ ∧ i ≤ s.length ∧ (s.take i).all okc = true) (fun i => s.length - i) 0 ?_ ?_ ?_
    · exact .inr (by simp [go_sem])
    · exact ⟨rfl, Nat.zero_le _, by simp⟩
    rintro i τ ⟨rfl, g1, g2⟩ Z z1 z2 z3
    simp -implicitDefEqProofs only [go_sem, Nat.reduceBEq, Nat.reduceAdd]
    refine CondW_b (fun hc => ?_) (fun hc => ?_)
    · have hi : i < s.length := by simpa using hc
      have hget : (s[((i : Nat) : Int).toNat]?.getD 0) = s[i] := by simp [hi]
      have hb : (0 : Int) ≤ i ∧ (i : Int) < s.length := by omega
      have hbad := fun h => all_bad (f := okc) hi h
      have hall := all_take (f := okc) hi
      rw [g2, Bool.true_and] at hall
      generalize s[i] = x at hget hbad hall
      have hx : okc x = !((decide ((x.toNat : Int) < 97) || decide ((122 : Int) < x.toNat)) && ((decide ((x.toNat : Int) < 48) || decide ((57 : Int) < x.toNat)) && !decide ((x.toNat : Int) = 45))) := rfl
      cases e1 : decide ((x.toNat : Int) < 97) <;> cases e2 : decide ((122 : Int) < x.toNat) <;> cases e3 : decide ((x.toNat : Int) < 48) <;> cases e4 : decide ((57 : Int) < x.toNat) <;> cases e5 : decide ((x.toNat : Int) = 45)
      all_goals
        rw [e1, e2, e3, e4, e5] at hx
        simp -implicitDefEqProofs only [go_sem, Nat.reduceBEq, Nat.reduceAdd, eq_self, true_and, and_self, hget, e1, e2, e3, e4, e5]
        refine ⟨hb, ?_⟩
        first
        | (rw [hbad hx] at q2
           refine z3 _ _ ?_
           simp -implicitDefEqProofs only [go_sem, Nat.reduceBEq, Nat.reduceAdd]
           refine q2 _ _ ?_
           simp -implicitDefEqProofs only [go_sem, Nat.reduceBEq, Nat.reduceAdd]
           first | exact ⟨trivial, trivial⟩ | exact ⟨trivial, rfl⟩ | exact ⟨rfl, rfl⟩ | exact ⟨rfl, trivial⟩ | trivial)
        | (refine z1 (i + 1) _ _ (.inr ?_) (by omega) ⟨rfl, by omega, by rw [hall]; exact hx⟩
           simp -implicitDefEqProofs only [go_sem, Nat.reduceBEq, Nat.reduceAdd, and_true]
           rw [i64_in _ (by omega)]; simp)
    · have hi : ¬ (i < s.length) := by simpa using hc
      simp -implicitDefEqProofs only [go_sem, Nat.reduceBEq, Nat.reduceAdd]
      refine z2 _ _ _ ?_
      simp -implicitDefEqProofs only [go_sem, Nat.reduceBEq, Nat.reduceAdd]
      rw [List.take_of_length_le (by omega)] at g2
      rw [g2] at q2
      refine q2 _ _ ?_
      simp -implicitDefEqProofs only [go_sem, Nat.reduceBEq, Nat.reduceAdd]
      first | exact ⟨trivial, trivial⟩ | exact ⟨trivial, rfl⟩ | exact ⟨rfl, rfl⟩ | exact ⟨rfl, trivial⟩ | trivial

end
end Go.VL.opl

namespace Go.VL.opl
open Go Go.VL Go.Proofs Go.IntWalk

theorem cmp_neg {a1 a2 b1 b2 : Int} : decide (cmp a1 a2 b1 b2 < 0) = less a1 a2 b1 b2 := by
  unfold cmp
  cases h : (decide (a1 = b1) && decide (a2 = b2)) with
  | true =>
    simp only [Bool.and_eq_true, decide_eq_true_eq] at h
    simp [less, h.1, h.2]
  | false => cases less a1 a2 b1 b2 <;> rfl
def zeroS (c r : Int) : Bool := decide (c = 0) && decide (r = 0)
def nodeS (c r : Int) : Bool := right c r || (zeroS c r || (decide (c = 0) && decide (r = 1)))
def aheadS (a1 a2 b1 b2 : Int) : Bool := right a1 a2 && less a1 a2 b1 b2

/-- A change. -/
structure Cg where
  ac : Int
  ar : Int
  seq : Int
  deps : List Int
  kind : Int
  nc : Int
  nr : Int
  pc : Int
  pr : Int
  fc : Int
  fr : Int
  name : List UInt8
  val : List UInt8
  deriving DecidableEq
def cgC (d : V) (c : Cg) : List V := [.int .i64 c.ac, .int .i64 c.ar, .int .i64 c.seq, d, .int .i64 c.kind, .int .i64 c.nc, .int .i64 c.nr, .int .i64 c.pc, .int .i64 c.pr, .int .i64 c.fc, .int .i64 c.fr, .str c.name, .str c.val]
def cgV (d : V) (c : Cg) : V := .agg (cgC d c)

def nodeB (c : Cg) : Bool := bif decide (c.kind = 1) then decide (c.nc = c.ac) && decide (c.nr = c.ar) else bif decide (c.kind = 2) then aheadS c.nc c.nr c.ac c.ar else zeroS c.nc c.nr || aheadS c.nc c.nr c.ac c.ar
def placeB (c : Cg) : Bool := bif !decide (c.kind = 1) && !decide (c.kind = 2) then zeroS c.pc c.pr && zeroS c.fc c.fr else
  bif !nodeS c.pc c.pr || (!less c.pc c.pr c.ac c.ar || (decide (c.pc = c.nc) && decide (c.pr = c.nr))) then false else zeroS c.fc c.fr || aheadS c.fc c.fr c.ac c.ar
def namedB (c : Cg) : Bool := decide (c.kind = 1) || (decide (c.kind = 3) || decide (c.kind = 4))
def valuedB (c : Cg) : Bool := decide (c.kind = 3) || decide (c.kind = 5)
def wordsI (c : Cg) : Int := bif (bif namedB c then !nameB c.name else !decide (c.name = [])) then 8 else bif decide ((256 : Int) < c.val.length) then 3 else bif !valuedB c && !decide (c.val = []) then 2 else 0

section
variable {σ : St} {c r a1 a2 b1 b2 : Int}
set_option maxRecDepth 100000 in
theorem iless_ok : CallA Try.prog 72 [stV a1 a2, stV b1 b2] σ fun v σ' => σ' = σ ∧ v = .bool (less a1 a2 b1 b2) := by
  refine fn_at Try.func72 (by decide) comp72 rfl fun Q q1 q2 => ?_
  simp -implicitDefEqProofs only [go_sem, Nat.reduceBEq, Nat.reduceAdd, eq_self, true_and, and_true, and_self, List.getElem?_cons_zero, List.getElem?_cons_succ, Nat.reduceLeDiff, Nat.zero_add, Nat.reduceSub, Nat.le_refl, c72, stV]
  repeat' first
    | (refine GW_c (fun h => ?_) (fun h => ?_) <;> (try simp only [Bool.not_eq_true', Bool.not_eq_false'] at h) <;> (try simp only [h]) <;> (try simp -implicitDefEqProofs only [go_sem, Nat.reduceBEq, Nat.reduceAdd, eq_self, true_and, and_true, and_self, List.getElem?_cons_zero, List.getElem?_cons_succ, Nat.reduceLeDiff, Nat.zero_add, Nat.reduceSub, Nat.le_refl, stV]))
    | (refine CondW_b (fun h => ?_) (fun h => ?_) <;> (try simp only [Bool.not_eq_true', Bool.not_eq_false'] at h) <;> (try simp only [h]) <;> (try simp -implicitDefEqProofs only [go_sem, Nat.reduceBEq, Nat.reduceAdd, eq_self, true_and, and_true, and_self, List.getElem?_cons_zero, List.getElem?_cons_succ, Nat.reduceLeDiff, Nat.zero_add, Nat.reduceSub, Nat.le_refl, stV]))
    | (refine call_at compare_ok ?_; rintro v τ ⟨rfl, rfl⟩; refine ⟨by first | exact kept_none | exact (Ext.refl _).kept, ?_⟩; (try simp -implicitDefEqProofs only [go_sem, Nat.reduceBEq, Nat.reduceAdd, eq_self, true_and, and_true, and_self, List.getElem?_cons_zero, List.getElem?_cons_succ, Nat.reduceLeDiff, Nat.zero_add, Nat.reduceSub, Nat.le_refl, stV]))
    | (refine cut_dup ?_; (try simp -implicitDefEqProofs only [go_sem, Nat.reduceBEq, Nat.reduceAdd, eq_self, true_and, and_true, and_self, List.getElem?_cons_zero, List.getElem?_cons_succ, Nat.reduceLeDiff, Nat.zero_add, Nat.reduceSub, Nat.le_refl, stV]))
    | (refine q2 _ _ ?_; (try simp -implicitDefEqProofs only [go_sem, Nat.reduceBEq, Nat.reduceAdd, eq_self, true_and, and_true, and_self, List.getElem?_cons_zero, List.getElem?_cons_succ, Nat.reduceLeDiff, Nat.zero_add, Nat.reduceSub, Nat.le_refl, stV]))
  exact cmp_neg ▸ rfl
set_option maxRecDepth 100000 in
theorem inode_ok : CallA Try.prog 85 [stV c r] σ fun v σ' => σ' = σ ∧ v = .bool (nodeS c r) := by
  refine fn_at Try.func85 (by decide) comp85 rfl fun Q q1 q2 => ?_
  simp -implicitDefEqProofs only [go_sem, Nat.reduceBEq, Nat.reduceAdd, eq_self, true_and, and_true, and_self, List.getElem?_cons_zero, List.getElem?_cons_succ, Nat.reduceLeDiff, Nat.zero_add, Nat.reduceSub, Nat.le_refl, c85, stV, V.eqs, V.eq, Bool.and_true]
  repeat' first
    | (refine GW_c (fun h => ?_) (fun h => ?_) <;> (try simp only [Bool.not_eq_true', Bool.not_eq_false'] at h) <;> (try simp only [h]) <;> (try simp -implicitDefEqProofs only [go_sem, Nat.reduceBEq, Nat.reduceAdd, eq_self, true_and, and_true, and_self, List.getElem?_cons_zero, List.getElem?_cons_succ, Nat.reduceLeDiff, Nat.zero_add, Nat.reduceSub, Nat.le_refl, stV, V.eqs, V.eq, Bool.and_true]))
    | (refine CondW_b (fun h => ?_) (fun h => ?_) <;> (try simp only [Bool.not_eq_true', Bool.not_eq_false'] at h) <;> (try simp only [h]) <;> (try simp -implicitDefEqProofs only [go_sem, Nat.reduceBEq, Nat.reduceAdd, eq_self, true_and, and_true, and_self, List.getElem?_cons_zero, List.getElem?_cons_succ, Nat.reduceLeDiff, Nat.zero_add, Nat.reduceSub, Nat.le_refl, stV, V.eqs, V.eq, Bool.and_true]))
    | (refine call_at right_ok ?_; rintro v τ ⟨rfl, rfl⟩; refine ⟨by first | exact kept_none | exact (Ext.refl _).kept, ?_⟩; (try simp -implicitDefEqProofs only [go_sem, Nat.reduceBEq, Nat.reduceAdd, eq_self, true_and, and_true, and_self, List.getElem?_cons_zero, List.getElem?_cons_succ, Nat.reduceLeDiff, Nat.zero_add, Nat.reduceSub, Nat.le_refl, stV, V.eqs, V.eq, Bool.and_true]))
    | (refine cut_dup ?_; (try simp -implicitDefEqProofs only [go_sem, Nat.reduceBEq, Nat.reduceAdd, eq_self, true_and, and_true, and_self, List.getElem?_cons_zero, List.getElem?_cons_succ, Nat.reduceLeDiff, Nat.zero_add, Nat.reduceSub, Nat.le_refl, stV, V.eqs, V.eq, Bool.and_true]))
    | (refine q2 _ _ ?_; (try simp -implicitDefEqProofs only [go_sem, Nat.reduceBEq, Nat.reduceAdd, eq_self, true_and, and_true, and_self, List.getElem?_cons_zero, List.getElem?_cons_succ, Nat.reduceLeDiff, Nat.zero_add, Nat.reduceSub, Nat.le_refl, stV, V.eqs, V.eq, Bool.and_true]))
  all_goals (clear q1 q2; first | (simp_all [nodeS, zeroS]; done) | grind [nodeS, zeroS])
set_option maxRecDepth 100000 in
theorem rnode_ok : CallA Try.prog 95 [stV c r] σ fun v σ' => σ' = σ ∧ v = .bool (nodeS c r) := by
  refine fn_at Try.func95 (by decide) comp95 rfl fun Q q1 q2 => ?_
  simp -implicitDefEqProofs only [go_sem, Nat.reduceBEq, Nat.reduceAdd, eq_self, true_and, and_true, and_self, List.getElem?_cons_zero, List.getElem?_cons_succ, Nat.reduceLeDiff, Nat.zero_add, Nat.reduceSub, Nat.le_refl, c95, stV, V.eqs, V.eq, Bool.and_true]
  repeat' first
    | (refine GW_c (fun h => ?_) (fun h => ?_) <;> (try simp only [Bool.not_eq_true', Bool.not_eq_false'] at h) <;> (try simp only [h]) <;> (try simp -implicitDefEqProofs only [go_sem, Nat.reduceBEq, Nat.reduceAdd, eq_self, true_and, and_true, and_self, List.getElem?_cons_zero, List.getElem?_cons_succ, Nat.reduceLeDiff, Nat.zero_add, Nat.reduceSub, Nat.le_refl, stV, V.eqs, V.eq, Bool.and_true]))
    | (refine CondW_b (fun h => ?_) (fun h => ?_) <;> (try simp only [Bool.not_eq_true', Bool.not_eq_false'] at h) <;> (try simp only [h]) <;> (try simp -implicitDefEqProofs only [go_sem, Nat.reduceBEq, Nat.reduceAdd, eq_self, true_and, and_true, and_self, List.getElem?_cons_zero, List.getElem?_cons_succ, Nat.reduceLeDiff, Nat.zero_add, Nat.reduceSub, Nat.le_refl, stV, V.eqs, V.eq, Bool.and_true]))
    | (refine call_at rright_ok ?_; rintro v τ ⟨rfl, rfl⟩; refine ⟨by first | exact kept_none | exact (Ext.refl _).kept, ?_⟩; (try simp -implicitDefEqProofs only [go_sem, Nat.reduceBEq, Nat.reduceAdd, eq_self, true_and, and_true, and_self, List.getElem?_cons_zero, List.getElem?_cons_succ, Nat.reduceLeDiff, Nat.zero_add, Nat.reduceSub, Nat.le_refl, stV, V.eqs, V.eq, Bool.and_true]))
    | (refine cut_dup ?_; (try simp -implicitDefEqProofs only [go_sem, Nat.reduceBEq, Nat.reduceAdd, eq_self, true_and, and_true, and_self, List.getElem?_cons_zero, List.getElem?_cons_succ, Nat.reduceLeDiff, Nat.zero_add, Nat.reduceSub, Nat.le_refl, stV, V.eqs, V.eq, Bool.and_true]))
    | (refine q2 _ _ ?_; (try simp -implicitDefEqProofs only [go_sem, Nat.reduceBEq, Nat.reduceAdd, eq_self, true_and, and_true, and_self, List.getElem?_cons_zero, List.getElem?_cons_succ, Nat.reduceLeDiff, Nat.zero_add, Nat.reduceSub, Nat.le_refl, stV, V.eqs, V.eq, Bool.and_true]))
  all_goals (clear q1 q2; first | (simp_all [nodeS, zeroS]; done) | grind [nodeS, zeroS])
set_option maxRecDepth 100000 in
theorem ahead_ok : CallA Try.prog 94 [stV a1 a2, stV b1 b2] σ fun v σ' => σ' = σ ∧ v = .bool (aheadS a1 a2 b1 b2) := by
  refine fn_at Try.func94 (by decide) comp94 rfl fun Q q1 q2 => ?_
  simp -implicitDefEqProofs only [go_sem, Nat.reduceBEq, Nat.reduceAdd, eq_self, true_and, and_true, and_self, List.getElem?_cons_zero, List.getElem?_cons_succ, Nat.reduceLeDiff, Nat.zero_add, Nat.reduceSub, Nat.le_refl, c94, stV]
  repeat' first
    | (refine GW_c (fun h => ?_) (fun h => ?_) <;> (try simp only [Bool.not_eq_true', Bool.not_eq_false'] at h) <;> (try simp only [h]) <;> (try simp -implicitDefEqProofs only [go_sem, Nat.reduceBEq, Nat.reduceAdd, eq_self, true_and, and_true, and_self, List.getElem?_cons_zero, List.getElem?_cons_succ, Nat.reduceLeDiff, Nat.zero_add, Nat.reduceSub, Nat.le_refl, stV]))
    | (refine CondW_b (fun h => ?_) (fun h => ?_) <;> (try simp only [Bool.not_eq_true', Bool.not_eq_false'] at h) <;> (try simp only [h]) <;> (try simp -implicitDefEqProofs only [go_sem, Nat.reduceBEq, Nat.reduceAdd, eq_self, true_and, and_true, and_self, List.getElem?_cons_zero, List.getElem?_cons_succ, Nat.reduceLeDiff, Nat.zero_add, Nat.reduceSub, Nat.le_refl, stV]))
    | (refine call_at rright_ok ?_; rintro v τ ⟨rfl, rfl⟩; refine ⟨by first | exact kept_none | exact (Ext.refl _).kept, ?_⟩; (try simp -implicitDefEqProofs only [go_sem, Nat.reduceBEq, Nat.reduceAdd, eq_self, true_and, and_true, and_self, List.getElem?_cons_zero, List.getElem?_cons_succ, Nat.reduceLeDiff, Nat.zero_add, Nat.reduceSub, Nat.le_refl, stV]))
    | (refine call_at less_ok ?_; rintro v τ ⟨rfl, rfl⟩; refine ⟨by first | exact kept_none | exact (Ext.refl _).kept, ?_⟩; (try simp -implicitDefEqProofs only [go_sem, Nat.reduceBEq, Nat.reduceAdd, eq_self, true_and, and_true, and_self, List.getElem?_cons_zero, List.getElem?_cons_succ, Nat.reduceLeDiff, Nat.zero_add, Nat.reduceSub, Nat.le_refl, stV]))
    | (refine cut_dup ?_; (try simp -implicitDefEqProofs only [go_sem, Nat.reduceBEq, Nat.reduceAdd, eq_self, true_and, and_true, and_self, List.getElem?_cons_zero, List.getElem?_cons_succ, Nat.reduceLeDiff, Nat.zero_add, Nat.reduceSub, Nat.le_refl, stV]))
    | (refine q2 _ _ ?_; (try simp -implicitDefEqProofs only [go_sem, Nat.reduceBEq, Nat.reduceAdd, eq_self, true_and, and_true, and_self, List.getElem?_cons_zero, List.getElem?_cons_succ, Nat.reduceLeDiff, Nat.zero_add, Nat.reduceSub, Nat.le_refl, stV]))
  all_goals (clear q1 q2; first | (simp_all [aheadS]; done) | grind [aheadS])

variable {d : V} {g : Cg}
set_option maxRecDepth 100000 in
set_option maxHeartbeats 1000000 in
theorem node_ok : CallA Try.prog 68 [cgV d g] σ fun v σ' => σ' = σ ∧ v = .bool (nodeB g) := by
  refine fn_at Try.func68 (by decide) comp68 rfl fun Q q1 q2 => ?_
  simp -implicitDefEqProofs only [go_sem, Nat.reduceBEq, Nat.reduceAdd, eq_self, true_and, and_true, and_self, List.getElem?_cons_zero, List.getElem?_cons_succ, Nat.reduceLeDiff, Nat.zero_add, Nat.reduceSub, Nat.le_refl, c68, cgV, cgC, V.eqs, V.eq, Bool.and_true]
  repeat' first
    | (refine GW_c (fun h => ?_) (fun h => ?_) <;> (try simp only [Bool.not_eq_true', Bool.not_eq_false'] at h) <;> (try simp only [h]) <;> (try simp -implicitDefEqProofs only [go_sem, Nat.reduceBEq, Nat.reduceAdd, eq_self, true_and, and_true, and_self, List.getElem?_cons_zero, List.getElem?_cons_succ, Nat.reduceLeDiff, Nat.zero_add, Nat.reduceSub, Nat.le_refl, cgV, cgC, V.eqs, V.eq, Bool.and_true]))
    | (refine CondW_b (fun h => ?_) (fun h => ?_) <;> (try simp only [Bool.not_eq_true', Bool.not_eq_false'] at h) <;> (try simp only [h]) <;> (try simp -implicitDefEqProofs only [go_sem, Nat.reduceBEq, Nat.reduceAdd, eq_self, true_and, and_true, and_self, List.getElem?_cons_zero, List.getElem?_cons_succ, Nat.reduceLeDiff, Nat.zero_add, Nat.reduceSub, Nat.le_refl, cgV, cgC, V.eqs, V.eq, Bool.and_true]))
    | (refine call_at right_ok ?_; rintro v τ ⟨rfl, rfl⟩; refine ⟨by first | exact kept_none | exact (Ext.refl _).kept, ?_⟩; (try simp -implicitDefEqProofs only [go_sem, Nat.reduceBEq, Nat.reduceAdd, eq_self, true_and, and_true, and_self, List.getElem?_cons_zero, List.getElem?_cons_succ, Nat.reduceLeDiff, Nat.zero_add, Nat.reduceSub, Nat.le_refl, cgV, cgC, V.eqs, V.eq, Bool.and_true]))
    | (refine call_at iless_ok ?_; rintro v τ ⟨rfl, rfl⟩; refine ⟨by first | exact kept_none | exact (Ext.refl _).kept, ?_⟩; (try simp -implicitDefEqProofs only [go_sem, Nat.reduceBEq, Nat.reduceAdd, eq_self, true_and, and_true, and_self, List.getElem?_cons_zero, List.getElem?_cons_succ, Nat.reduceLeDiff, Nat.zero_add, Nat.reduceSub, Nat.le_refl, cgV, cgC, V.eqs, V.eq, Bool.and_true]))
    | (refine cut_dup ?_; (try simp -implicitDefEqProofs only [go_sem, Nat.reduceBEq, Nat.reduceAdd, eq_self, true_and, and_true, and_self, List.getElem?_cons_zero, List.getElem?_cons_succ, Nat.reduceLeDiff, Nat.zero_add, Nat.reduceSub, Nat.le_refl, cgV, cgC, V.eqs, V.eq, Bool.and_true]))
    | (refine q2 _ _ ?_; (try simp -implicitDefEqProofs only [go_sem, Nat.reduceBEq, Nat.reduceAdd, eq_self, true_and, and_true, and_self, List.getElem?_cons_zero, List.getElem?_cons_succ, Nat.reduceLeDiff, Nat.zero_add, Nat.reduceSub, Nat.le_refl, cgV, cgC, V.eqs, V.eq, Bool.and_true]))
  all_goals (clear q1 q2; first | (simp_all [nodeB, zeroS, aheadS]; done) | grind [nodeB, zeroS, aheadS])
set_option maxRecDepth 100000 in
set_option maxHeartbeats 1000000 in
theorem place_ok : CallA Try.prog 69 [cgV d g] σ fun v σ' => σ' = σ ∧ v = .bool (placeB g) := by
  refine fn_at Try.func69 (by decide) comp69 rfl fun Q q1 q2 => ?_
  simp -implicitDefEqProofs only [go_sem, Nat.reduceBEq, Nat.reduceAdd, eq_self, true_and, and_true, and_self, List.getElem?_cons_zero, List.getElem?_cons_succ, Nat.reduceLeDiff, Nat.zero_add, Nat.reduceSub, Nat.le_refl, c69, cgV, cgC, V.eqs, V.eq, Bool.and_true]
  repeat' first
    | (refine GW_c (fun h => ?_) (fun h => ?_) <;> (try simp only [Bool.not_eq_true', Bool.not_eq_false'] at h) <;> (try simp only [h]) <;> (try simp -implicitDefEqProofs only [go_sem, Nat.reduceBEq, Nat.reduceAdd, eq_self, true_and, and_true, and_self, List.getElem?_cons_zero, List.getElem?_cons_succ, Nat.reduceLeDiff, Nat.zero_add, Nat.reduceSub, Nat.le_refl, cgV, cgC, V.eqs, V.eq, Bool.and_true]))
    | (refine CondW_b (fun h => ?_) (fun h => ?_) <;> (try simp only [Bool.not_eq_true', Bool.not_eq_false'] at h) <;> (try simp only [h]) <;> (try simp -implicitDefEqProofs only [go_sem, Nat.reduceBEq, Nat.reduceAdd, eq_self, true_and, and_true, and_self, List.getElem?_cons_zero, List.getElem?_cons_succ, Nat.reduceLeDiff, Nat.zero_add, Nat.reduceSub, Nat.le_refl, cgV, cgC, V.eqs, V.eq, Bool.and_true]))
    | (refine call_at inode_ok ?_; rintro v τ ⟨rfl, rfl⟩; refine ⟨by first | exact kept_none | exact (Ext.refl _).kept, ?_⟩; (try simp -implicitDefEqProofs only [go_sem, Nat.reduceBEq, Nat.reduceAdd, eq_self, true_and, and_true, and_self, List.getElem?_cons_zero, List.getElem?_cons_succ, Nat.reduceLeDiff, Nat.zero_add, Nat.reduceSub, Nat.le_refl, cgV, cgC, V.eqs, V.eq, Bool.and_true]))
    | (refine call_at right_ok ?_; rintro v τ ⟨rfl, rfl⟩; refine ⟨by first | exact kept_none | exact (Ext.refl _).kept, ?_⟩; (try simp -implicitDefEqProofs only [go_sem, Nat.reduceBEq, Nat.reduceAdd, eq_self, true_and, and_true, and_self, List.getElem?_cons_zero, List.getElem?_cons_succ, Nat.reduceLeDiff, Nat.zero_add, Nat.reduceSub, Nat.le_refl, cgV, cgC, V.eqs, V.eq, Bool.and_true]))
    | (refine call_at iless_ok ?_; rintro v τ ⟨rfl, rfl⟩; refine ⟨by first | exact kept_none | exact (Ext.refl _).kept, ?_⟩; (try simp -implicitDefEqProofs only [go_sem, Nat.reduceBEq, Nat.reduceAdd, eq_self, true_and, and_true, and_self, List.getElem?_cons_zero, List.getElem?_cons_succ, Nat.reduceLeDiff, Nat.zero_add, Nat.reduceSub, Nat.le_refl, cgV, cgC, V.eqs, V.eq, Bool.and_true]))
    | (refine cut_dup ?_; (try simp -implicitDefEqProofs only [go_sem, Nat.reduceBEq, Nat.reduceAdd, eq_self, true_and, and_true, and_self, List.getElem?_cons_zero, List.getElem?_cons_succ, Nat.reduceLeDiff, Nat.zero_add, Nat.reduceSub, Nat.le_refl, cgV, cgC, V.eqs, V.eq, Bool.and_true]))
    | (refine q2 _ _ ?_; (try simp -implicitDefEqProofs only [go_sem, Nat.reduceBEq, Nat.reduceAdd, eq_self, true_and, and_true, and_self, List.getElem?_cons_zero, List.getElem?_cons_succ, Nat.reduceLeDiff, Nat.zero_add, Nat.reduceSub, Nat.le_refl, cgV, cgC, V.eqs, V.eq, Bool.and_true]))
  all_goals (clear q1 q2; first | (simp_all [placeB, zeroS, aheadS]; done) | grind [placeB, zeroS, aheadS])
end
end Go.VL.opl

namespace Go.VL.opl
open Go Go.VL Go.Proofs Go.IntWalk

def badN (n : Int) : Bool := decide (n < 0) || decide ((1099511627776 : Int) < n)
def clockI (l : List Int) : Int := bif decide ((64 : Int) < l.length) then 3 else bif l.any badN then 1 else 0
def atD (l : List Int) (r : Int) : Int := bif decide (0 ≤ r) && decide (r < l.length) then l[r.toNat]?.getD 0 else 0
theorem any_take {α : Type} {s : List α} {f : α → Bool} {i : Nat} (hi : i < s.length) : (s.take (i + 1)).any f = ((s.take i).any f || f s[i]) := by
  rw [List.take_succ_eq_append_getElem hi, List.any_append]; simp
theorem any_bad {α : Type} {s : List α} {f : α → Bool} {i : Nat} (hi : i < s.length) (h : f s[i] = true) : s.any f = true := List.any_eq_true.2 ⟨s[i], List.getElem_mem hi, h⟩
theorem intsV_get {l : List Int} {i : Nat} (h : i < l.length) : (intsV .i64 l)[((i : Nat) : Int).toNat]?.getD [] = [V.int .i64 l[i]] := by simp [intsV, h]
theorem intsV_len (l : List Int) : (intsV .i64 l).length = l.length := by simp [intsV]
theorem intsV_ne {l : List Int} {i : Nat} (h : i < l.length) : intsV .i64 l ≠ [] := by cases l <;> simp [intsV] at h ⊢

section
variable {σ : St} {l : List Int} {v : V} {r : Int} {d : V} {g : Cg}
set_option maxRecDepth 100000 in
set_option maxHeartbeats 1000000 in
theorem words_ok (hlen : g.name.length < 4611686018427387904) : CallA Try.prog 70 [cgV d g] σ fun v σ' => σ' = σ ∧ v = .int .i64 (wordsI g) := by
  refine fn_at Try.func70 (by decide) comp70 rfl fun Q q1 q2 => ?_
  simp -implicitDefEqProofs only [go_sem, Nat.reduceBEq, Nat.reduceAdd, eq_self, true_and, and_true, and_self, List.getElem?_cons_zero, List.getElem?_cons_succ, Nat.reduceLeDiff, Nat.zero_add, Nat.reduceSub, Nat.le_refl, c70, cgV, cgC]
  repeat' first
    | (refine GW_c (fun h => ?_) (fun h => ?_) <;> (try simp only [Bool.not_eq_true', Bool.not_eq_false'] at h) <;> (try simp only [h]) <;> (try simp -implicitDefEqProofs only [go_sem, Nat.reduceBEq, Nat.reduceAdd, eq_self, true_and, and_true, and_self, List.getElem?_cons_zero, List.getElem?_cons_succ, Nat.reduceLeDiff, Nat.zero_add, Nat.reduceSub, Nat.le_refl, cgC]))
    | (refine CondW_b (fun h => ?_) (fun h => ?_) <;> (try simp only [Bool.not_eq_true', Bool.not_eq_false'] at h) <;> (try simp only [h]) <;> (try simp -implicitDefEqProofs only [go_sem, Nat.reduceBEq, Nat.reduceAdd, eq_self, true_and, and_true, and_self, List.getElem?_cons_zero, List.getElem?_cons_succ, Nat.reduceLeDiff, Nat.zero_add, Nat.reduceSub, Nat.le_refl, cgC]))
    | (refine call_at (name_ok hlen) ?_; rintro v τ ⟨rfl, rfl⟩; refine ⟨by first | exact kept_none | exact (Ext.refl _).kept, ?_⟩; (try simp -implicitDefEqProofs only [go_sem, Nat.reduceBEq, Nat.reduceAdd, eq_self, true_and, and_true, and_self, List.getElem?_cons_zero, List.getElem?_cons_succ, Nat.reduceLeDiff, Nat.zero_add, Nat.reduceSub, Nat.le_refl, cgC]))
    | (refine cut_dup ?_; (try simp -implicitDefEqProofs only [go_sem, Nat.reduceBEq, Nat.reduceAdd, eq_self, true_and, and_true, and_self, List.getElem?_cons_zero, List.getElem?_cons_succ, Nat.reduceLeDiff, Nat.zero_add, Nat.reduceSub, Nat.le_refl, cgC]))
    | (refine q2 _ _ ?_; (try simp -implicitDefEqProofs only [go_sem, Nat.reduceBEq, Nat.reduceAdd, eq_self, true_and, and_true, and_self, List.getElem?_cons_zero, List.getElem?_cons_succ, Nat.reduceLeDiff, Nat.zero_add, Nat.reduceSub, Nat.le_refl, cgC]))
  all_goals (clear q1 q2; first | (simp_all [wordsI, namedB, valuedB]; done) | grind [wordsI, namedB, valuedB])

set_option maxRecDepth 100000 in
set_option maxHeartbeats 1000000 in
theorem clock_ok (hv : RdS σ v 1 (intsV .i64 l)) : CallA Try.prog 43 [v] σ fun w σ' => σ' = σ ∧ w = .int .i64 (clockI l) := by
  obtain ⟨b, R, z, rfl, -, -⟩ := id hv
  refine fn_at Try.func43 (by decide) comp43 rfl fun Q q1 q2 => ?_
  have hl := intsV_len l
  simp -implicitDefEqProofs only [go_sem, Nat.reduceBEq, Nat.reduceAdd, eq_self, true_and, and_true, and_self, List.getElem?_cons_zero, List.getElem?_cons_succ, Nat.reduceLeDiff, Nat.zero_add, Nat.reduceSub, Nat.le_refl, c43, hl]
  refine CondW_b (fun h => ?_) (fun h0 => ?_)
  · simp -implicitDefEqProofs only [go_sem, Nat.reduceBEq, Nat.reduceAdd, eq_self, true_and, and_true, and_self, List.getElem?_cons_zero, List.getElem?_cons_succ, Nat.reduceLeDiff, Nat.zero_add, Nat.reduceSub, Nat.le_refl, Nat.lt_irrefl]
    refine q2 _ _ ?_
    simp -implicitDefEqProofs only [go_sem, Nat.reduceBEq, Nat.reduceAdd, eq_self, true_and, and_true, and_self, List.getElem?_cons_zero, List.getElem?_cons_succ, Nat.reduceLeDiff, Nat.zero_add, Nat.reduceSub, Nat.le_refl, Nat.lt_irrefl]
    rw [clockI, h]; rfl
  have h64 := of_decide_eq_false h0
  simp -implicitDefEqProofs only [go_sem, Nat.reduceBEq, Nat.reduceAdd, eq_self, true_and, and_true, and_self, List.getElem?_cons_zero, List.getElem?_cons_succ, Nat.reduceLeDiff, Nat.zero_add, Nat.reduceSub, Nat.le_refl, hl]
  refine loop_at (fun (i : Nat) => ⟨[(8, .v (.sl b R z (intsV .i64 l))), (9, .v (.int .i64 l.length)), (10, .v (.int .i64 i))], []⟩) (fun i τ => τ = σ ∧ i ≤ l.length ∧ (l.take i).any badN = false) (fun i => l.length - i) 0 ?_ ?_ ?_
  · exact .inr (by simp -implicitDefEqProofs only [go_sem, Nat.reduceBEq, Nat.reduceAdd, eq_self, true_and, and_true, and_self, List.getElem?_cons_zero, List.getElem?_cons_succ, Nat.reduceLeDiff, Nat.zero_add, Nat.reduceSub, Nat.le_refl, Nat.lt_irrefl]; trivial)
  · exact ⟨rfl, Nat.zero_le _, by simp⟩
  rintro i τ ⟨rfl, g1, g2⟩ Z z1 z2 z3
  simp -implicitDefEqProofs only [go_sem, Nat.reduceBEq, Nat.reduceAdd, eq_self, true_and, and_true, and_self, List.getElem?_cons_zero, List.getElem?_cons_succ, Nat.reduceLeDiff, Nat.zero_add, Nat.reduceSub, Nat.le_refl, Nat.lt_irrefl]
  refine CondW_b (fun hc => ?_) (fun hc => ?_)
  · have hi : i < l.length := by simpa using hc
    have hget := intsV_get hi
    obtain ⟨k1, k2⟩ := rdl hv (intsV_ne hi)
    have hb : (i : Int) < (intsV .i64 l).length := by rw [hl]; omega
    have hbad := fun h => any_bad (f := badN) hi h
    have hall := any_take (f := badN) hi
    rw [g2, Bool.false_or] at hall
    generalize l[i] = x at hget hbad hall
    simp -implicitDefEqProofs only [go_sem, Nat.reduceBEq, Nat.reduceAdd, eq_self, true_and, and_true, and_self, List.getElem?_cons_zero, List.getElem?_cons_succ, Nat.reduceLeDiff, Nat.zero_add, Nat.reduceSub, Nat.le_refl, hget]
    refine ⟨⟨by omega, hb, k2⟩, k1, ?_⟩
    have hx : badN x = (decide (x < 0) || decide ((1099511627776 : Int) < x)) := rfl
    cases e1 : decide (x < 0) <;> cases e2 : decide ((1099511627776 : Int) < x) <;> rw [e1, e2] at hx
    all_goals
      simp -implicitDefEqProofs only [go_sem, Nat.reduceBEq, Nat.reduceAdd, eq_self, true_and, and_true, and_self, List.getElem?_cons_zero, List.getElem?_cons_succ, Nat.reduceLeDiff, Nat.zero_add, Nat.reduceSub, Nat.le_refl, e1, e2]
      first
      | (refine z3 _ _ ?_
         simp -implicitDefEqProofs only [go_sem, Nat.reduceBEq, Nat.reduceAdd, eq_self, true_and, and_true, and_self, List.getElem?_cons_zero, List.getElem?_cons_succ, Nat.reduceLeDiff, Nat.zero_add, Nat.reduceSub, Nat.le_refl, Nat.lt_irrefl]
         refine q2 _ _ ?_
         simp -implicitDefEqProofs only [go_sem, Nat.reduceBEq, Nat.reduceAdd, eq_self, true_and, and_true, and_self, List.getElem?_cons_zero, List.getElem?_cons_succ, Nat.reduceLeDiff, Nat.zero_add, Nat.reduceSub, Nat.le_refl, Nat.lt_irrefl]
         rw [clockI, h0, hbad hx]; rfl)
      | (refine z1 (i + 1) _ _ (.inr ?_) (by omega) ⟨rfl, by omega, by rw [hall]; exact hx⟩
         simp -implicitDefEqProofs only [go_sem, Nat.reduceBEq, Nat.reduceAdd, eq_self, true_and, and_true, and_self, List.getElem?_cons_zero, List.getElem?_cons_succ, Nat.reduceLeDiff, Nat.zero_add, Nat.reduceSub, Nat.le_refl, Nat.lt_irrefl]
         rw [i64_in _ (by omega)]; simp)
  · have hi : ¬ i < l.length := by simpa using hc
    rw [List.take_of_length_le (by omega)] at g2
    simp -implicitDefEqProofs only [go_sem, Nat.reduceBEq, Nat.reduceAdd, eq_self, true_and, and_true, and_self, List.getElem?_cons_zero, List.getElem?_cons_succ, Nat.reduceLeDiff, Nat.zero_add, Nat.reduceSub, Nat.le_refl, Nat.lt_irrefl]
    refine z2 _ _ _ ?_
    simp -implicitDefEqProofs only [go_sem, Nat.reduceBEq, Nat.reduceAdd, eq_self, true_and, and_true, and_self, List.getElem?_cons_zero, List.getElem?_cons_succ, Nat.reduceLeDiff, Nat.zero_add, Nat.reduceSub, Nat.le_refl, Nat.lt_irrefl]
    refine q2 _ _ ?_
    simp -implicitDefEqProofs only [go_sem, Nat.reduceBEq, Nat.reduceAdd, eq_self, true_and, and_true, and_self, List.getElem?_cons_zero, List.getElem?_cons_succ, Nat.reduceLeDiff, Nat.zero_add, Nat.reduceSub, Nat.le_refl, Nat.lt_irrefl]
    rw [clockI, h0, g2]; rfl

set_option maxRecDepth 100000 in
set_option maxHeartbeats 1000000 in
theorem rclock_ok (hv : RdS σ v 1 (intsV .i64 l)) : CallA Try.prog 16 [v] σ fun w σ' => σ' = σ ∧ w = .int .i64 (clockI l) := by
  obtain ⟨b, R, z, rfl, -, -⟩ := id hv
  refine fn_at Try.func16 (by decide) comp16 rfl fun Q q1 q2 => ?_
  have hl := intsV_len l
  simp -implicitDefEqProofs only [go_sem, Nat.reduceBEq, Nat.reduceAdd, eq_self, true_and, and_true, and_self, List.getElem?_cons_zero, List.getElem?_cons_succ, Nat.reduceLeDiff, Nat.zero_add, Nat.reduceSub, Nat.le_refl, c16, hl]
  refine CondW_b (fun h => ?_) (fun h0 => ?_)
  · simp -implicitDefEqProofs only [go_sem, Nat.reduceBEq, Nat.reduceAdd, eq_self, true_and, and_true, and_self, List.getElem?_cons_zero, List.getElem?_cons_succ, Nat.reduceLeDiff, Nat.zero_add, Nat.reduceSub, Nat.le_refl, Nat.lt_irrefl]
    refine q2 _ _ ?_
    simp -implicitDefEqProofs only [go_sem, Nat.reduceBEq, Nat.reduceAdd, eq_self, true_and, and_true, and_self, List.getElem?_cons_zero, List.getElem?_cons_succ, Nat.reduceLeDiff, Nat.zero_add, Nat.reduceSub, Nat.le_refl, Nat.lt_irrefl]
    rw [clockI, h]; rfl
  have h64 := of_decide_eq_false h0
  simp -implicitDefEqProofs only [go_sem, Nat.reduceBEq, Nat.reduceAdd, eq_self, true_and, and_true, and_self, List.getElem?_cons_zero, List.getElem?_cons_succ, Nat.reduceLeDiff, Nat.zero_add, Nat.reduceSub, Nat.le_refl, hl]
  refine loop_at (fun (i : Nat) => ⟨[(0, .v (.sl b R z (intsV .i64 l))), (3, .v (.int .i64 i))], []⟩) (fun i τ => τ = σ ∧ i ≤ l.length ∧ (l.take i).any badN = false) (fun i => l.length - i) 0 ?_ ?_ ?_
  · exact .inr (by simp -implicitDefEqProofs only [go_sem, Nat.reduceBEq, Nat.reduceAdd, eq_self, true_and, and_true, and_self, List.getElem?_cons_zero, List.getElem?_cons_succ, Nat.reduceLeDiff, Nat.zero_add, Nat.reduceSub, Nat.le_refl, Nat.lt_irrefl]; trivial)
  · exact ⟨rfl, Nat.zero_le _, by simp⟩
  rintro i τ ⟨rfl, g1, g2⟩ Z z1 z2 z3
  simp -implicitDefEqProofs only [go_sem, Nat.reduceBEq, Nat.reduceAdd, eq_self, true_and, and_true, and_self, List.getElem?_cons_zero, List.getElem?_cons_succ, Nat.reduceLeDiff, Nat.zero_add, Nat.reduceSub, Nat.le_refl, hl]
  refine CondW_b (fun hc => ?_) (fun hc => ?_)
  · have hi : i < l.length := by simpa using hc
    have hget := intsV_get hi
    obtain ⟨k1, k2⟩ := rdl hv (intsV_ne hi)
    have hb : (i : Int) < l.length := by omega
    have hbad := fun h => any_bad (f := badN) hi h
    have hall := any_take (f := badN) hi
    rw [g2, Bool.false_or] at hall
    generalize l[i] = x at hget hbad hall
    simp -implicitDefEqProofs only [go_sem, Nat.reduceBEq, Nat.reduceAdd, eq_self, true_and, and_true, and_self, List.getElem?_cons_zero, List.getElem?_cons_succ, Nat.reduceLeDiff, Nat.zero_add, Nat.reduceSub, Nat.le_refl, hget]
    rw [hl]
    refine ⟨⟨by omega, hb, k2⟩, k1, ?_⟩
    have hx : badN x = (decide (x < 0) || decide ((1099511627776 : Int) < x)) := rfl
    cases e1 : decide (x < 0) <;> cases e2 : decide ((1099511627776 : Int) < x) <;> rw [e1, e2] at hx
    all_goals
      simp -implicitDefEqProofs only [go_sem, Nat.reduceBEq, Nat.reduceAdd, eq_self, true_and, and_true, and_self, List.getElem?_cons_zero, List.getElem?_cons_succ, Nat.reduceLeDiff, Nat.zero_add, Nat.reduceSub, Nat.le_refl, e1, e2, hget, hl]
      try refine ⟨⟨by omega, hb, k2⟩, k1, ?_⟩
      first
      | (refine z3 _ _ ?_
         simp -implicitDefEqProofs only [go_sem, Nat.reduceBEq, Nat.reduceAdd, eq_self, true_and, and_true, and_self, List.getElem?_cons_zero, List.getElem?_cons_succ, Nat.reduceLeDiff, Nat.zero_add, Nat.reduceSub, Nat.le_refl, Nat.lt_irrefl]
         refine q2 _ _ ?_
         simp -implicitDefEqProofs only [go_sem, Nat.reduceBEq, Nat.reduceAdd, eq_self, true_and, and_true, and_self, List.getElem?_cons_zero, List.getElem?_cons_succ, Nat.reduceLeDiff, Nat.zero_add, Nat.reduceSub, Nat.le_refl, Nat.lt_irrefl]
         rw [clockI, h0, hbad hx]; rfl)
      | (refine z1 (i + 1) _ _ (.inr ?_) (by omega) ⟨rfl, by omega, by rw [hall]; exact hx⟩
         simp -implicitDefEqProofs only [go_sem, Nat.reduceBEq, Nat.reduceAdd, eq_self, true_and, and_true, and_self, List.getElem?_cons_zero, List.getElem?_cons_succ, Nat.reduceLeDiff, Nat.zero_add, Nat.reduceSub, Nat.le_refl, Nat.lt_irrefl]
         rw [i64_in _ (by omega)]; simp)
  · have hi : ¬ i < l.length := by simpa using hc
    rw [List.take_of_length_le (by omega)] at g2
    simp -implicitDefEqProofs only [go_sem, Nat.reduceBEq, Nat.reduceAdd, eq_self, true_and, and_true, and_self, List.getElem?_cons_zero, List.getElem?_cons_succ, Nat.reduceLeDiff, Nat.zero_add, Nat.reduceSub, Nat.le_refl, Nat.lt_irrefl]
    refine z2 _ _ _ ?_
    simp -implicitDefEqProofs only [go_sem, Nat.reduceBEq, Nat.reduceAdd, eq_self, true_and, and_true, and_self, List.getElem?_cons_zero, List.getElem?_cons_succ, Nat.reduceLeDiff, Nat.zero_add, Nat.reduceSub, Nat.le_refl, Nat.lt_irrefl]
    refine q2 _ _ ?_
    simp -implicitDefEqProofs only [go_sem, Nat.reduceBEq, Nat.reduceAdd, eq_self, true_and, and_true, and_self, List.getElem?_cons_zero, List.getElem?_cons_succ, Nat.reduceLeDiff, Nat.zero_add, Nat.reduceSub, Nat.le_refl, Nat.lt_irrefl]
    rw [clockI, h0, g2]; rfl

set_option maxRecDepth 100000 in
set_option maxHeartbeats 1000000 in
theorem at_ok (hv : RdS σ v 1 (intsV .i64 l)) : CallA Try.prog 44 [v, .int .i64 r] σ fun w σ' => σ' = σ ∧ w = .int .i64 (atD l r) := by
  obtain ⟨b, R, z, rfl, -, -⟩ := id hv
  refine fn_at Try.func44 (by decide) comp44 rfl fun Q q1 q2 => ?_
  have hl := intsV_len l
  have e0 : decide (r < 0) = !decide (0 ≤ r) := by by_cases h : 0 ≤ r <;> simp [h] <;> omega
  have e1 : decide ((l.length : Int) ≤ r) = !decide (r < l.length) := by by_cases h : r < l.length <;> simp [h] <;> omega
  unfold atD at q1 q2
  cases h0 : decide (0 ≤ r) <;> cases h1 : decide (r < l.length) <;> rw [h0, h1] at q2
  case true.true =>
    have h0' := of_decide_eq_true h0
    have h1' := of_decide_eq_true h1
    have hi : r.toNat < l.length := by omega
    have hget := intsV_get hi
    rw [show ((r.toNat : Nat) : Int) = r from by omega] at hget
    obtain ⟨k1, k2⟩ := rdl hv (intsV_ne hi)
    have hg : l[r.toNat]?.getD 0 = l[r.toNat] := by simp [hi]
    rw [hg] at q2
    generalize l[r.toNat] = x at hget q2
    simp -implicitDefEqProofs only [go_sem, Nat.reduceBEq, Nat.reduceAdd, eq_self, true_and, and_true, and_self, List.getElem?_cons_zero, List.getElem?_cons_succ, Nat.reduceLeDiff, Nat.zero_add, Nat.reduceSub, Nat.le_refl, c44, hl, e0, e1, h0, h1, hget]
    refine ⟨⟨by omega, by omega, k2⟩, k1, ?_⟩
    refine q2 _ _ ?_
    simp -implicitDefEqProofs only [go_sem, Nat.reduceBEq, Nat.reduceAdd, eq_self, true_and, and_true, and_self, List.getElem?_cons_zero, List.getElem?_cons_succ, Nat.reduceLeDiff, Nat.zero_add, Nat.reduceSub, Nat.le_refl, Nat.lt_irrefl]
  all_goals
    simp -implicitDefEqProofs only [go_sem, Nat.reduceBEq, Nat.reduceAdd, eq_self, true_and, and_true, and_self, List.getElem?_cons_zero, List.getElem?_cons_succ, Nat.reduceLeDiff, Nat.zero_add, Nat.reduceSub, Nat.le_refl, c44, hl, e0, e1, h0, h1]
    refine q2 _ _ ?_
    simp -implicitDefEqProofs only [go_sem, Nat.reduceBEq, Nat.reduceAdd, eq_self, true_and, and_true, and_self, List.getElem?_cons_zero, List.getElem?_cons_succ, Nat.reduceLeDiff, Nat.zero_add, Nat.reduceSub, Nat.le_refl, Nat.lt_irrefl]
set_option maxRecDepth 100000 in
set_option maxHeartbeats 1000000 in
theorem rat_ok (hv : RdS σ v 1 (intsV .i64 l)) : CallA Try.prog 29 [v, .int .i64 r] σ fun w σ' => σ' = σ ∧ w = .int .i64 (atD l r) := by
  obtain ⟨b, R, z, rfl, -, -⟩ := id hv
  refine fn_at Try.func29 (by decide) comp29 rfl fun Q q1 q2 => ?_
  have hl := intsV_len l
  unfold atD at q1 q2
  cases h0 : decide (0 ≤ r) <;> cases h1 : decide (r < l.length) <;> rw [h0, h1] at q2
  case true.true =>
    have h0' := of_decide_eq_true h0
    have h1' := of_decide_eq_true h1
    have hi : r.toNat < l.length := by omega
    have hget := intsV_get hi
    rw [show ((r.toNat : Nat) : Int) = r from by omega] at hget
    obtain ⟨k1, k2⟩ := rdl hv (intsV_ne hi)
    have hg : l[r.toNat]?.getD 0 = l[r.toNat] := by simp [hi]
    rw [hg] at q2
    generalize l[r.toNat] = x at hget q2
    simp -implicitDefEqProofs only [go_sem, Nat.reduceBEq, Nat.reduceAdd, eq_self, true_and, and_true, and_self, List.getElem?_cons_zero, List.getElem?_cons_succ, Nat.reduceLeDiff, Nat.zero_add, Nat.reduceSub, Nat.le_refl, c29, hl, h0, h1, hget]
    refine ⟨⟨by omega, by omega, k2⟩, k1, ?_⟩
    refine q2 _ _ ?_
    simp -implicitDefEqProofs only [go_sem, Nat.reduceBEq, Nat.reduceAdd, eq_self, true_and, and_true, and_self, List.getElem?_cons_zero, List.getElem?_cons_succ, Nat.reduceLeDiff, Nat.zero_add, Nat.reduceSub, Nat.le_refl, Nat.lt_irrefl]
  all_goals
    simp -implicitDefEqProofs only [go_sem, Nat.reduceBEq, Nat.reduceAdd, eq_self, true_and, and_true, and_self, List.getElem?_cons_zero, List.getElem?_cons_succ, Nat.reduceLeDiff, Nat.zero_add, Nat.reduceSub, Nat.le_refl, c29, hl, h0, h1]
    refine q2 _ _ ?_
    simp -implicitDefEqProofs only [go_sem, Nat.reduceBEq, Nat.reduceAdd, eq_self, true_and, and_true, and_self, List.getElem?_cons_zero, List.getElem?_cons_succ, Nat.reduceLeDiff, Nat.zero_add, Nat.reduceSub, Nat.le_refl, Nat.lt_irrefl]

set_option maxRecDepth 100000 in
set_option maxHeartbeats 1000000 in
theorem rsame_ok {u : V} {m : List Int} (hv : RdS σ v 1 (intsV .i64 l)) (hu : RdS σ u 1 (intsV .i64 m)) (hlen : l.length < 4611686018427387904) : CallA Try.prog 40 [v, u] σ fun w σ' => σ' = σ ∧ w = .bool (decide (l = m)) := by
  obtain ⟨b, R, z, rfl, -, -⟩ := id hv
  obtain ⟨b2, R2, z2, rfl, -, -⟩ := id hu
  refine fn_at Try.func40 (by decide) comp40 rfl fun Q q1 q2 => ?_
  have hl := intsV_len l
  have hm := intsV_len m
  simp -implicitDefEqProofs only [go_sem, Nat.reduceBEq, Nat.reduceAdd, eq_self, true_and, and_true, and_self, List.getElem?_cons_zero, List.getElem?_cons_succ, Nat.reduceLeDiff, Nat.zero_add, Nat.reduceSub, Nat.le_refl, c40, hl, hm]
  refine CondW_b (fun h => ?_) (fun h0 => ?_)
  · have : ¬ l = m := by rintro rfl; simp at h
    simp -implicitDefEqProofs only [go_sem, Nat.reduceBEq, Nat.reduceAdd, eq_self, true_and, and_true, and_self, List.getElem?_cons_zero, List.getElem?_cons_succ, Nat.reduceLeDiff, Nat.zero_add, Nat.reduceSub, Nat.le_refl, Nat.lt_irrefl]
    refine q2 _ _ ?_
    simp -implicitDefEqProofs only [go_sem, Nat.reduceBEq, Nat.reduceAdd, eq_self, true_and, and_true, and_self, List.getElem?_cons_zero, List.getElem?_cons_succ, Nat.reduceLeDiff, Nat.zero_add, Nat.reduceSub, Nat.le_refl, this, decide_false]
  have hlm : l.length = m.length := by have := h0; simp at this; omega
  simp -implicitDefEqProofs only [go_sem, Nat.reduceBEq, Nat.reduceAdd, eq_self, true_and, and_true, and_self, List.getElem?_cons_zero, List.getElem?_cons_succ, Nat.reduceLeDiff, Nat.zero_add, Nat.reduceSub, Nat.le_refl, hl, hm]
  refine loop_at (fun (i : Nat) => ⟨[(0, .v (.sl b R z (intsV .i64 l))), (1, .v (.sl b2 R2 z2 (intsV .i64 m))), (5, .v (.int .i64 i))], []⟩) (fun i τ => τ = σ ∧ i ≤ l.length ∧ l.take i = m.take i) (fun i => l.length - i) 0 ?_ ?_ ?_
  · exact .inr (by simp -implicitDefEqProofs only [go_sem, Nat.reduceBEq, Nat.reduceAdd, eq_self, true_and, and_true, and_self, List.getElem?_cons_zero, List.getElem?_cons_succ, Nat.reduceLeDiff, Nat.zero_add, Nat.reduceSub, Nat.le_refl, Nat.lt_irrefl]; trivial)
  · exact ⟨rfl, Nat.zero_le _, by simp⟩
  rintro i τ ⟨rfl, g1, g2⟩ Z z1 z2 z3
  simp -implicitDefEqProofs only [go_sem, Nat.reduceBEq, Nat.reduceAdd, eq_self, true_and, and_true, and_self, List.getElem?_cons_zero, List.getElem?_cons_succ, Nat.reduceLeDiff, Nat.zero_add, Nat.reduceSub, Nat.le_refl, hl]
  refine CondW_b (fun hc => ?_) (fun hc => ?_)
  · have hi : i < l.length := by simpa using hc
    have hi2 : i < m.length := by omega
    have hget := intsV_get hi
    have hget2 := intsV_get hi2
    obtain ⟨k1, k2⟩ := rdl hv (intsV_ne hi)
    obtain ⟨k3, k4⟩ := rdl hu (intsV_ne hi2)
    have hb : (i : Int) < l.length := by omega
    have hb2 : (i : Int) < m.length := by omega
    have ht : ∀ x, l[i] = x → m[i] = x → l.take (i + 1) = m.take (i + 1) := fun x h1 h2 => by
      rw [List.take_succ_eq_append_getElem hi, List.take_succ_eq_append_getElem hi2, g2, h1, h2]
    have hne : l[i] ≠ m[i] → ¬ l = m := by rintro h rfl; exact h rfl
    generalize l[i] = x at hget ht hne
    generalize m[i] = y at hget2 ht hne
    simp -implicitDefEqProofs only [go_sem, Nat.reduceBEq, Nat.reduceAdd, eq_self, true_and, and_true, and_self, List.getElem?_cons_zero, List.getElem?_cons_succ, Nat.reduceLeDiff, Nat.zero_add, Nat.reduceSub, Nat.le_refl, hget, hget2]
    rw [hl, hm]
    refine ⟨⟨by omega, hb, k2⟩, k1, ⟨by omega, hb2, k4⟩, k3, ?_⟩
    refine CondW_b (fun he => ?_) (fun he => ?_)
    · have := hne (by simpa using he)
      simp -implicitDefEqProofs only [go_sem, Nat.reduceBEq, Nat.reduceAdd, eq_self, true_and, and_true, and_self, List.getElem?_cons_zero, List.getElem?_cons_succ, Nat.reduceLeDiff, Nat.zero_add, Nat.reduceSub, Nat.le_refl, Nat.lt_irrefl]
      refine z3 _ _ ?_
      simp -implicitDefEqProofs only [go_sem, Nat.reduceBEq, Nat.reduceAdd, eq_self, true_and, and_true, and_self, List.getElem?_cons_zero, List.getElem?_cons_succ, Nat.reduceLeDiff, Nat.zero_add, Nat.reduceSub, Nat.le_refl, Nat.lt_irrefl]
      refine q2 _ _ ?_
      simp -implicitDefEqProofs only [go_sem, Nat.reduceBEq, Nat.reduceAdd, eq_self, true_and, and_true, and_self, List.getElem?_cons_zero, List.getElem?_cons_succ, Nat.reduceLeDiff, Nat.zero_add, Nat.reduceSub, Nat.le_refl, this, decide_false]
    · have he : x = y := by simpa using he
      simp -implicitDefEqProofs only [go_sem, Nat.reduceBEq, Nat.reduceAdd, eq_self, true_and, and_true, and_self, List.getElem?_cons_zero, List.getElem?_cons_succ, Nat.reduceLeDiff, Nat.zero_add, Nat.reduceSub, Nat.le_refl, Nat.lt_irrefl]
      refine z1 (i + 1) _ _ (.inr ?_) (by omega) ⟨rfl, by omega, ht y he rfl⟩
      simp -implicitDefEqProofs only [go_sem, Nat.reduceBEq, Nat.reduceAdd, eq_self, true_and, and_true, and_self, List.getElem?_cons_zero, List.getElem?_cons_succ, Nat.reduceLeDiff, Nat.zero_add, Nat.reduceSub, Nat.le_refl, Nat.lt_irrefl]
      rw [i64_in _ (by omega)]; simp
  · have hi : ¬ i < l.length := by simpa using hc
    rw [List.take_of_length_le (by omega), List.take_of_length_le (by omega)] at g2
    simp -implicitDefEqProofs only [go_sem, Nat.reduceBEq, Nat.reduceAdd, eq_self, true_and, and_true, and_self, List.getElem?_cons_zero, List.getElem?_cons_succ, Nat.reduceLeDiff, Nat.zero_add, Nat.reduceSub, Nat.le_refl, Nat.lt_irrefl]
    refine z2 _ _ _ ?_
    simp -implicitDefEqProofs only [go_sem, Nat.reduceBEq, Nat.reduceAdd, eq_self, true_and, and_true, and_self, List.getElem?_cons_zero, List.getElem?_cons_succ, Nat.reduceLeDiff, Nat.zero_add, Nat.reduceSub, Nat.le_refl, Nat.lt_irrefl]
    refine q2 _ _ ?_
    simp -implicitDefEqProofs only [go_sem, Nat.reduceBEq, Nat.reduceAdd, eq_self, true_and, and_true, and_self, List.getElem?_cons_zero, List.getElem?_cons_succ, Nat.reduceLeDiff, Nat.zero_add, Nat.reduceSub, Nat.le_refl, g2, decide_true]
end
end Go.VL.opl

namespace Go.VL.opl
open Go Go.VL Go.Proofs Go.IntWalk

def lastZ (l : List Int) : Bool := decide ((0 : Int) < l.length) && decide (l[((l.length : Int) - 1).toNat]?.getD 0 = 0)
def depsI (g : Cg) : Int := bif !decide (clockI g.deps = 0) then clockI g.deps else bif lastZ g.deps || !decide (atD g.deps g.ar = g.seq - 1) then 2 else 0
def chkI (g : Cg) : Int := bif decide (g.kind < 1) || decide (5 < g.kind) then 1 else bif !right g.ac g.ar then 2 else bif decide (g.seq < 1) || decide (g.ac < g.seq) then 1 else
  bif !decide (depsI g = 0) then depsI g else bif !nodeB g || !placeB g then 2 else wordsI g

section
variable {σ : St} {d : V} {g : Cg}
set_option maxRecDepth 100000 in
set_option maxHeartbeats 1000000 in
theorem deps_ok (hd : RdS σ d 1 (intsV .i64 g.deps)) (hs : 1 ≤ g.seq ∧ g.seq < 9223372036854775808) : CallA Try.prog 67 [cgV d g] σ fun w σ' => σ' = σ ∧ w = .int .i64 (depsI g) := by
  obtain ⟨b, R, z, rfl, -, -⟩ := id hd
  refine fn_at Try.func67 (by decide) comp67 rfl fun Q q1 q2 => ?_
  have hl := intsV_len g.deps
  have hw : IntKind.i64.wrap (g.seq - 1) = g.seq - 1 := i64_in _ (by omega)
  unfold depsI at q1 q2
  simp -implicitDefEqProofs only [go_sem, Nat.reduceBEq, Nat.reduceAdd, eq_self, true_and, and_true, and_self, List.getElem?_cons_zero, List.getElem?_cons_succ, Nat.reduceLeDiff, Nat.zero_add, Nat.reduceSub, Nat.le_refl, c67, cgV, cgC]
  refine call_at (clock_ok hd) ?_
  rintro v τ ⟨rfl, rfl⟩
  refine ⟨kept_none, ?_⟩
  cases hc : decide (clockI g.deps = 0) <;> rw [hc] at q2
  · simp -implicitDefEqProofs only [go_sem, Nat.reduceBEq, Nat.reduceAdd, eq_self, true_and, and_true, and_self, List.getElem?_cons_zero, List.getElem?_cons_succ, Nat.reduceLeDiff, Nat.zero_add, Nat.reduceSub, Nat.le_refl, hc]
    refine q2 _ _ ?_
    simp -implicitDefEqProofs only [go_sem, Nat.reduceBEq, Nat.reduceAdd, eq_self, true_and, and_true, and_self, List.getElem?_cons_zero, List.getElem?_cons_succ, Nat.reduceLeDiff, Nat.zero_add, Nat.reduceSub, Nat.le_refl, Nat.lt_irrefl]
  have h64 : g.deps.length ≤ 64 := by
    have := of_decide_eq_true hc
    unfold clockI at this
    cases h : decide ((64 : Int) < g.deps.length) with
    | true => rw [h] at this; simp at this
    | false => have := of_decide_eq_false h; omega
  cases h0 : decide ((0 : Int) < g.deps.length)
  case' false =>
    have hz : lastZ g.deps = false := by unfold lastZ; rw [h0]; rfl
    simp -implicitDefEqProofs only [go_sem, Nat.reduceBEq, Nat.reduceAdd, eq_self, true_and, and_true, and_self, List.getElem?_cons_zero, List.getElem?_cons_succ, Nat.reduceLeDiff, Nat.zero_add, Nat.reduceSub, Nat.le_refl, hc, hl, h0]
  case' true =>
    have h0' := of_decide_eq_true h0
    have hi : g.deps.length - 1 < g.deps.length := by omega
    have hget := intsV_get hi
    have hw1 : IntKind.i64.wrap ((g.deps.length : Int) - 1) = ((g.deps.length - 1 : Nat) : Int) := by rw [i64_in _ (by omega)]; omega
    have hz : lastZ g.deps = decide (g.deps[g.deps.length - 1] = 0) := by
      unfold lastZ
      rw [h0, show ((g.deps.length : Int) - 1).toNat = g.deps.length - 1 from by omega]
      simp [hi]
    obtain ⟨k1, k2⟩ := rdl hd (intsV_ne hi)
    generalize g.deps[g.deps.length - 1] = x at hget hz
    have hb : (0 : Int) ≤ ((g.deps.length - 1 : Nat) : Int) ∧ ((g.deps.length - 1 : Nat) : Int) < g.deps.length ∧ z = 1 := ⟨by omega, by omega, k2⟩
    simp -implicitDefEqProofs only [go_sem, Nat.reduceBEq, Nat.reduceAdd, eq_self, true_and, and_true, and_self, List.getElem?_cons_zero, List.getElem?_cons_succ, Nat.reduceLeDiff, Nat.zero_add, Nat.reduceSub, Nat.le_refl, hc, hl, h0, hw1, hget]
    refine ⟨hb, k1, ?_⟩
    cases hx : decide (x = 0) <;> rw [hx] at hz
    case true =>
      simp -implicitDefEqProofs only [go_sem, Nat.reduceBEq, Nat.reduceAdd, eq_self, true_and, and_true, and_self, List.getElem?_cons_zero, List.getElem?_cons_succ, Nat.reduceLeDiff, Nat.zero_add, Nat.reduceSub, Nat.le_refl, hx]
      rw [hz] at q2
      refine q2 _ _ ?_
      simp -implicitDefEqProofs only [go_sem, Nat.reduceBEq, Nat.reduceAdd, eq_self, true_and, and_true, and_self, List.getElem?_cons_zero, List.getElem?_cons_succ, Nat.reduceLeDiff, Nat.zero_add, Nat.reduceSub, Nat.le_refl, cond_true, cond_false, Bool.true_or, Bool.false_or, Bool.or_true, Bool.or_false, Bool.and_true, Bool.and_false, Bool.true_and, Bool.false_and, Bool.or_self, Bool.and_self]
    simp -implicitDefEqProofs only [go_sem, Nat.reduceBEq, Nat.reduceAdd, eq_self, true_and, and_true, and_self, List.getElem?_cons_zero, List.getElem?_cons_succ, Nat.reduceLeDiff, Nat.zero_add, Nat.reduceSub, Nat.le_refl, hx]
  all_goals
    rw [hz] at q2
    refine call_at (at_ok hd) ?_
    rintro v τ ⟨rfl, rfl⟩
    refine ⟨(Ext.refl _).kept, ?_⟩
    simp -implicitDefEqProofs only [go_sem, Nat.reduceBEq, Nat.reduceAdd, eq_self, true_and, and_true, and_self, List.getElem?_cons_zero, List.getElem?_cons_succ, Nat.reduceLeDiff, Nat.zero_add, Nat.reduceSub, Nat.le_refl, hw]
    cases ha : decide (atD g.deps g.ar = g.seq - 1) <;> rw [ha] at q2
    all_goals
      simp -implicitDefEqProofs only [go_sem, Nat.reduceBEq, Nat.reduceAdd, eq_self, true_and, and_true, and_self, List.getElem?_cons_zero, List.getElem?_cons_succ, Nat.reduceLeDiff, Nat.zero_add, Nat.reduceSub, Nat.le_refl, ha]
      refine q2 _ _ ?_
      simp -implicitDefEqProofs only [go_sem, Nat.reduceBEq, Nat.reduceAdd, eq_self, true_and, and_true, and_self, List.getElem?_cons_zero, List.getElem?_cons_succ, Nat.reduceLeDiff, Nat.zero_add, Nat.reduceSub, Nat.le_refl, cond_true, cond_false, Bool.true_or, Bool.false_or, Bool.or_true, Bool.or_false, Bool.and_true, Bool.and_false, Bool.true_and, Bool.false_and, Bool.or_self, Bool.and_self]
set_option maxRecDepth 100000 in
set_option maxHeartbeats 2000000 in
theorem chk_ok (hd : RdS σ d 1 (intsV .i64 g.deps)) (hlen : g.name.length < 4611686018427387904) : CallA Try.prog 47 [cgV d g] σ fun w σ' => σ' = σ ∧ w = .int .i64 (chkI g) := by
  refine fn_at Try.func47 (by decide) comp47 rfl fun Q q1 q2 => ?_
  unfold chkI at q1 q2
  have hseq : right g.ac g.ar = true → decide (g.seq < 1) = false → decide (g.ac < g.seq) = false → 1 ≤ g.seq ∧ g.seq < 9223372036854775808 := by
    intro h1 h2 h3
    simp only [right, Bool.and_eq_true, decide_eq_true_eq, decide_eq_false_iff_not] at h1 h2 h3
    omega
  simp -implicitDefEqProofs only [go_sem, Nat.reduceBEq, Nat.reduceAdd, eq_self, true_and, and_true, and_self, List.getElem?_cons_zero, List.getElem?_cons_succ, Nat.reduceLeDiff, Nat.zero_add, Nat.reduceSub, Nat.le_refl, c47, cgV, cgC]
  repeat' first
    | (refine GW_c (fun h => ?_) (fun h => ?_) <;> (try simp only [Bool.not_eq_true', Bool.not_eq_false'] at h) <;> (try simp only [h]) <;> (try simp -implicitDefEqProofs only [go_sem, Nat.reduceBEq, Nat.reduceAdd, eq_self, true_and, and_true, and_self, List.getElem?_cons_zero, List.getElem?_cons_succ, Nat.reduceLeDiff, Nat.zero_add, Nat.reduceSub, Nat.le_refl, cgC, cgV]))
    | (refine CondW_b (fun h => ?_) (fun h => ?_) <;> (try simp only [Bool.not_eq_true', Bool.not_eq_false'] at h) <;> (try simp only [h]) <;> (try simp -implicitDefEqProofs only [go_sem, Nat.reduceBEq, Nat.reduceAdd, eq_self, true_and, and_true, and_self, List.getElem?_cons_zero, List.getElem?_cons_succ, Nat.reduceLeDiff, Nat.zero_add, Nat.reduceSub, Nat.le_refl, cgC, cgV]))
    | (refine call_at right_ok ?_; rintro v τ ⟨rfl, rfl⟩; refine ⟨by first | exact kept_none | exact (Ext.refl _).kept, ?_⟩; (try simp -implicitDefEqProofs only [go_sem, Nat.reduceBEq, Nat.reduceAdd, eq_self, true_and, and_true, and_self, List.getElem?_cons_zero, List.getElem?_cons_succ, Nat.reduceLeDiff, Nat.zero_add, Nat.reduceSub, Nat.le_refl, cgC, cgV]))
    | (refine call_at (node_ok (d := d) (g := g)) ?_; rintro v τ ⟨rfl, rfl⟩; refine ⟨by first | exact kept_none | exact (Ext.refl _).kept, ?_⟩; (try simp -implicitDefEqProofs only [go_sem, Nat.reduceBEq, Nat.reduceAdd, eq_self, true_and, and_true, and_self, List.getElem?_cons_zero, List.getElem?_cons_succ, Nat.reduceLeDiff, Nat.zero_add, Nat.reduceSub, Nat.le_refl, cgC, cgV]))
    | (refine call_at (place_ok (d := d) (g := g)) ?_; rintro v τ ⟨rfl, rfl⟩; refine ⟨by first | exact kept_none | exact (Ext.refl _).kept, ?_⟩; (try simp -implicitDefEqProofs only [go_sem, Nat.reduceBEq, Nat.reduceAdd, eq_self, true_and, and_true, and_self, List.getElem?_cons_zero, List.getElem?_cons_succ, Nat.reduceLeDiff, Nat.zero_add, Nat.reduceSub, Nat.le_refl, cgC, cgV]))
    | (refine call_at (words_ok (d := d) (g := g) hlen) ?_; rintro v τ ⟨rfl, rfl⟩; refine ⟨by first | exact kept_none | exact (Ext.refl _).kept, ?_⟩; (try simp -implicitDefEqProofs only [go_sem, Nat.reduceBEq, Nat.reduceAdd, eq_self, true_and, and_true, and_self, List.getElem?_cons_zero, List.getElem?_cons_succ, Nat.reduceLeDiff, Nat.zero_add, Nat.reduceSub, Nat.le_refl, cgC, cgV]))
    | (refine call_at (deps_ok (d := d) (g := g) hd (hseq (by assumption) (by assumption) (by assumption))) ?_; rintro v τ ⟨rfl, rfl⟩; refine ⟨by first | exact kept_none | exact (Ext.refl _).kept, ?_⟩; (try simp -implicitDefEqProofs only [go_sem, Nat.reduceBEq, Nat.reduceAdd, eq_self, true_and, and_true, and_self, List.getElem?_cons_zero, List.getElem?_cons_succ, Nat.reduceLeDiff, Nat.zero_add, Nat.reduceSub, Nat.le_refl, cgC, cgV]))
    | (refine cut_dup ?_; (try simp -implicitDefEqProofs only [go_sem, Nat.reduceBEq, Nat.reduceAdd, eq_self, true_and, and_true, and_self, List.getElem?_cons_zero, List.getElem?_cons_succ, Nat.reduceLeDiff, Nat.zero_add, Nat.reduceSub, Nat.le_refl, cgC, cgV]))
    | (refine q2 _ _ ?_; (try simp -implicitDefEqProofs only [go_sem, Nat.reduceBEq, Nat.reduceAdd, eq_self, true_and, and_true, and_self, List.getElem?_cons_zero, List.getElem?_cons_succ, Nat.reduceLeDiff, Nat.zero_add, Nat.reduceSub, Nat.le_refl, cgC, cgV]))
  all_goals (clear q1 q2; first | (simp_all [chkI]; done) | grind [chkI])
end
end Go.VL.opl

namespace Go.VL.opl
open Go Go.VL Go.Proofs Go.IntWalk

def Trims (l out : List Int) (z : Nat) : Prop := l = out ++ List.replicate z 0 ∧ (out = [] ∨ ∃ a x, out = a ++ [x] ∧ x ≠ 0)
theorem Trims.len {l out : List Int} {z : Nat} (h : Trims l out z) : decide ((out.length : Int) = l.length) = !lastZ l := by
  obtain ⟨rfl, h2⟩ := h
  unfold lastZ
  cases z with
  | zero =>
    rcases h2 with rfl | ⟨a, x, rfl, hx⟩
    · simp
    · have e : ((a ++ [x] ++ List.replicate 0 (0 : Int)).length : Int) = a.length + 1 := by simp
      rw [e]
      have e2 : ((a.length : Int) + 1 - 1).toNat = a.length := by omega
      rw [e2]
      simp [hx]
  | succ z =>
    have e : ((out ++ List.replicate (z + 1) (0 : Int)).length : Int) = out.length + z + 1 := by simp; omega
    rw [e]
    have e2 : ((out.length : Int) + z + 1 - 1).toNat = out.length + z := by omega
    have e3 : (out ++ List.replicate (z + 1) (0 : Int))[out.length + z]?.getD 0 = 0 := by
      rw [List.getElem?_append_right (by omega)]
      simp
    rw [e2, e3]
    have e4 : decide ((out.length : Int) = out.length + z + 1) = false := by simp; omega
    have e5 : decide ((0 : Int) < out.length + z + 1) = true := by simp; omega
    rw [e4, e5]; rfl

section
variable {σ : St} {l : List Int} {v d : V} {g : Cg}
set_option maxRecDepth 100000 in
set_option maxHeartbeats 1000000 in
theorem trim_ok (hv : RdS σ v 1 (intsV .i64 l)) (hlen : l.length ≤ 1000000) :
    CallA Try.prog 56 [v] σ fun w σ' => (∃ out z, Trims l out z ∧ RdS σ' w 1 (intsV .i64 out)) ∧ Ext σ σ' ∧ σ'.objs = σ.objs := by
  obtain ⟨b, R, z, rfl, -, -⟩ := id hv
  refine fn_at Try.func56 (by decide) comp56 rfl fun Q q1 q2 => ?_
  have hl := intsV_len l
  simp -implicitDefEqProofs only [go_sem, Nat.reduceBEq, Nat.reduceAdd, eq_self, true_and, and_true, and_self, List.getElem?_cons_zero, List.getElem?_cons_succ, Nat.reduceLeDiff, Nat.zero_add, Nat.reduceSub, Nat.le_refl, c56]
  refine loop_at (fun (x : Nat × List Int × Nat × Nat) => ⟨[(0, .v (.sl b R z (intsV .i64 l))), (3, .v (.sl false (.own x.2.2.2) 1 (intsV .i64 x.2.1))), (4, .v (.int .i64 x.2.2.1)), (5, .v (.int .i64 x.1))], []⟩)
    (fun x τ => x.1 ≤ l.length ∧ Trims (l.take x.1) x.2.1 x.2.2.1 ∧ Ext σ τ ∧ τ.objs = σ.objs ∧ τ.live[x.2.2.2]? = some true ∧ σ.live.length ≤ x.2.2.2) (fun x => l.length - x.1) (0, [], 0, σ.live.length) ?_ ?_ ?_
  · exact .inr (by simp -implicitDefEqProofs only [go_sem, Nat.reduceBEq, Nat.reduceAdd, eq_self, true_and, and_true, and_self, List.getElem?_cons_zero, List.getElem?_cons_succ, Nat.reduceLeDiff, Nat.zero_add, Nat.reduceSub, Nat.le_refl, Nat.lt_irrefl]; exact ⟨rfl, rfl⟩)
  · exact ⟨Nat.zero_le _, ⟨by simp, .inl rfl⟩, ext_live σ true, rfl, live_last _ _, Nat.le_refl _⟩
  rintro ⟨i, out, k, q⟩ τ ⟨g1, g2, g3, g4, g5, g6⟩ Z z1 z2 z3
  simp only at g1 g2 g5 g6
  have hlo : out.length + k = i := by
    have := congrArg List.length g2.1
    simp only [List.length_take, List.length_append, List.length_replicate] at this
    omega
  simp -implicitDefEqProofs only [go_sem, Nat.reduceBEq, Nat.reduceAdd, eq_self, true_and, and_true, and_self, List.getElem?_cons_zero, List.getElem?_cons_succ, Nat.reduceLeDiff, Nat.zero_add, Nat.reduceSub, Nat.le_refl, hl]
  refine CondW_b (fun hc => ?_) (fun hc => ?_)
  · have hi : i < l.length := by simpa using hc
    have hget := intsV_get hi
    obtain ⟨k1, k2⟩ := rdl (hv.ext g3) (intsV_ne hi)
    have hb : (i : Int) < l.length := by omega
    have htk : l.take (i + 1) = l.take i ++ [l[i]] := List.take_succ_eq_append_getElem hi
    generalize l[i] = x at hget htk
    have hw : ∀ n : Nat, n ≤ 1000000 → IntKind.i64.wrap ((n : Int) + 1) = ((n + 1 : Nat) : Int) := fun n h => by rw [i64_in _ (by omega)]; omega
    refine cut_at (fun G τ2 => ∃ out2 k2 q2, G = ⟨[(0, .v (.sl b R z (intsV .i64 l))), (3, .v (.sl false (.own q2) 1 (intsV .i64 out2))), (4, .v (.int .i64 (k2 : Nat))), (5, .v (.int .i64 i))], []⟩ ∧ Trims (l.take (i + 1)) out2 k2 ∧ Ext σ τ2 ∧ τ2.objs = σ.objs ∧ τ2.live[q2]? = some true ∧ σ.live.length ≤ q2) ?_ ?_
    case refine_2 =>
      rintro G τ2 ⟨out2, k2, q2', rfl, t1, t2, t3, t4, t5⟩
      simp -implicitDefEqProofs only [go_sem, Nat.reduceBEq, Nat.reduceAdd, eq_self, true_and, and_true, and_self, List.getElem?_cons_zero, List.getElem?_cons_succ, Nat.reduceLeDiff, Nat.zero_add, Nat.reduceSub, Nat.le_refl, Nat.lt_irrefl]
      refine z1 (i + 1, out2, k2, q2') _ _ (.inr ?_) (by simp only; omega) ⟨by simp only; omega, t1, t2, t3, t4, t5⟩
      simp -implicitDefEqProofs only [go_sem, Nat.reduceBEq, Nat.reduceAdd, eq_self, true_and, and_true, and_self, List.getElem?_cons_zero, List.getElem?_cons_succ, Nat.reduceLeDiff, Nat.zero_add, Nat.reduceSub, Nat.le_refl, hw i (by omega)]
    intro Y y1 y2 y3
    simp -implicitDefEqProofs only [go_sem, Nat.reduceBEq, Nat.reduceAdd, eq_self, true_and, and_true, and_self, List.getElem?_cons_zero, List.getElem?_cons_succ, Nat.reduceLeDiff, Nat.zero_add, Nat.reduceSub, Nat.le_refl, hl, hget]
    refine ⟨⟨by omega, hb, k2⟩, k1, ?_⟩
    refine CondW_b (fun hx => ?_) (fun hx => ?_)
    · have hx : x = 0 := of_decide_eq_true hx
      subst hx
      simp -implicitDefEqProofs only [go_sem, Nat.reduceBEq, Nat.reduceAdd, eq_self, true_and, and_true, and_self, List.getElem?_cons_zero, List.getElem?_cons_succ, Nat.reduceLeDiff, Nat.zero_add, Nat.reduceSub, Nat.le_refl, Nat.lt_irrefl]
      refine y1 _ _ _ (.inr ?_) ⟨out, k + 1, q, rfl, ⟨?_, g2.2⟩, g3, g4, g5, g6⟩
      · simp -implicitDefEqProofs only [go_sem, Nat.reduceBEq, Nat.reduceAdd, eq_self, true_and, and_true, and_self, List.getElem?_cons_zero, List.getElem?_cons_succ, Nat.reduceLeDiff, Nat.zero_add, Nat.reduceSub, Nat.le_refl, hw k (by omega)]
      · rw [htk, g2.1, List.replicate_succ', List.append_assoc]
    · have hx : x ≠ 0 := by simpa using hx
      simp -implicitDefEqProofs only [go_sem, Nat.reduceBEq, Nat.reduceAdd, eq_self, true_and, and_true, and_self, List.getElem?_cons_zero, List.getElem?_cons_succ, Nat.reduceLeDiff, Nat.zero_add, Nat.reduceSub, Nat.le_refl, Nat.lt_irrefl]
      refine loop_at (fun (y : Nat × Nat) => ⟨[(0, .v (.sl b R z (intsV .i64 l))), (3, .v (.sl false (.own y.2) 1 (intsV .i64 (out ++ List.replicate (k - y.1) 0)))), (4, .v (.int .i64 y.1)), (5, .v (.int .i64 i))], []⟩)
        (fun y τ => y.1 ≤ k ∧ Ext σ τ ∧ τ.objs = σ.objs ∧ τ.live[y.2]? = some true ∧ σ.live.length ≤ y.2) (fun y => y.1) (k, q) ?_ ?_ ?_
      · exact .inr (by simp -implicitDefEqProofs only [go_sem, Nat.reduceBEq, Nat.reduceAdd, eq_self, true_and, and_true, and_self, List.getElem?_cons_zero, List.getElem?_cons_succ, Nat.reduceLeDiff, Nat.zero_add, Nat.reduceSub, Nat.le_refl, Nat.sub_self, List.replicate_zero, List.append_nil])
      · exact ⟨Nat.le_refl _, g3, g4, g5, g6⟩
      rintro ⟨m, p⟩ τ1 ⟨m1, m2, m3, m4, m5⟩ X x1 x2 x3
      simp only at m1 m4 m5
      simp -implicitDefEqProofs only [go_sem, Nat.reduceBEq, Nat.reduceAdd, eq_self, true_and, and_true, and_self, List.getElem?_cons_zero, List.getElem?_cons_succ, Nat.reduceLeDiff, Nat.zero_add, Nat.reduceSub, Nat.le_refl, Nat.lt_irrefl]
      refine CondW_b (fun hm => ?_) (fun hm => ?_)
      · have hm : 0 < m := by simpa using hm
        have hsz : (intsV .i64 (out ++ List.replicate (k - m) 0)).length ≤ 1073741823 := by simp [intsV]; omega
        have hap : intsV .i64 (out ++ List.replicate (k - m) 0) ++ [[V.int .i64 0]] = intsV .i64 (out ++ List.replicate (k - (m - 1)) 0) := by
          rw [show k - (m - 1) = k - m + 1 from by omega, List.replicate_succ']
          simp [intsV]
        simp -implicitDefEqProofs only [go_sem, Nat.reduceBEq, Nat.reduceAdd, eq_self, true_and, and_true, and_self, List.getElem?_cons_zero, List.getElem?_cons_succ, Nat.reduceLeDiff, Nat.zero_add, Nat.reduceSub, Nat.le_refl, Nat.lt_irrefl]
        refine ⟨⟨.inr trivial, .inr ((ext_live _ _).live _ m4), ⟨.inr (live_last _ _), .inl trivial⟩, hsz⟩, ?_⟩
        refine x1 (m - 1, _) _ _ (.inr ?_) (by simp only; omega) ⟨by simp only; omega, ext_kill (ext_push m2) m5, m3, live_last' _ _ _, by have := m2.llen; simp only [List.length_append, List.length_cons, List.length_nil]; omega⟩
        simp -implicitDefEqProofs only [go_sem, Nat.reduceBEq, Nat.reduceAdd, eq_self, true_and, and_true, and_self, List.getElem?_cons_zero, List.getElem?_cons_succ, Nat.reduceLeDiff, Nat.zero_add, Nat.reduceSub, Nat.le_refl, hap]
        rw [i64_in _ (by omega)]
        have : ((m : Int) - 1) = ((m - 1 : Nat) : Int) := by omega
        rw [this]
      · have hm : m = 0 := by simp at hm; omega
        subst hm
        simp -implicitDefEqProofs only [go_sem, Nat.reduceBEq, Nat.reduceAdd, eq_self, true_and, and_true, and_self, List.getElem?_cons_zero, List.getElem?_cons_succ, Nat.reduceLeDiff, Nat.zero_add, Nat.reduceSub, Nat.le_refl, Nat.sub_zero]
        refine x2 _ _ _ ?_
        have k3 := rdl (hv.ext m2) (intsV_ne hi)
        have hsz : (intsV .i64 (out ++ List.replicate k 0)).length ≤ 1073741823 := by simp [intsV]; omega
        have hap : intsV .i64 (out ++ List.replicate k 0) ++ [[V.int .i64 x]] = intsV .i64 (out ++ List.replicate k 0 ++ [x]) := by simp [intsV]
        simp -implicitDefEqProofs only [go_sem, Nat.reduceBEq, Nat.reduceAdd, eq_self, true_and, and_true, and_self, List.getElem?_cons_zero, List.getElem?_cons_succ, Nat.reduceLeDiff, Nat.zero_add, Nat.reduceSub, Nat.le_refl, hl, hget]
        refine ⟨⟨by omega, hb, k2⟩, k3.1, ⟨⟨.inr trivial, .inr ((ext_live _ _).live _ m4), ⟨.inr (live_last _ _), .inl trivial⟩, hsz⟩, ?_⟩⟩
        refine y1 _ _ _ (.inr ?_) ⟨out ++ List.replicate k 0 ++ [x], 0, _, rfl, ⟨?_, .inr ⟨_, x, rfl, hx⟩⟩, ext_kill (ext_push m2) m5, m3, live_last' _ _ _, by have := m2.llen; simp only [List.length_append, List.length_cons, List.length_nil]; omega⟩
        · simp -implicitDefEqProofs only [go_sem, Nat.reduceBEq, Nat.reduceAdd, eq_self, true_and, and_true, and_self, List.getElem?_cons_zero, List.getElem?_cons_succ, Nat.reduceLeDiff, Nat.zero_add, Nat.reduceSub, Nat.le_refl, hap]
        · rw [htk, g2.1]; simp
  · have hi : ¬ i < l.length := by simpa using hc
    rw [List.take_of_length_le (by omega)] at g2
    simp -implicitDefEqProofs only [go_sem, Nat.reduceBEq, Nat.reduceAdd, eq_self, true_and, and_true, and_self, List.getElem?_cons_zero, List.getElem?_cons_succ, Nat.reduceLeDiff, Nat.zero_add, Nat.reduceSub, Nat.le_refl, Nat.lt_irrefl]
    refine z2 _ _ _ ?_
    simp -implicitDefEqProofs only [go_sem, Nat.reduceBEq, Nat.reduceAdd, eq_self, true_and, and_true, and_self, List.getElem?_cons_zero, List.getElem?_cons_succ, Nat.reduceLeDiff, Nat.zero_add, Nat.reduceSub, Nat.le_refl, Nat.lt_irrefl]
    refine q2 _ _ ?_
    simp -implicitDefEqProofs only [go_sem, Nat.reduceBEq, Nat.reduceAdd, eq_self, true_and, and_true, and_self, List.getElem?_cons_zero, List.getElem?_cons_succ, Nat.reduceLeDiff, Nat.zero_add, Nat.reduceSub, Nat.le_refl, Nat.lt_irrefl]
    exact ⟨⟨out, k, g2, _, _, _, rfl, by simp, .inr ⟨g5, rfl⟩⟩, g3, g4⟩

end
end Go.VL.opl

namespace Go.VL.opl
open Go Go.VL Go.Proofs Go.IntWalk
section
variable {σ : St} {l : List Int} {v d : V} {g : Cg}
end
end Go.VL.opl

namespace Go.VL.opl
open Go Go.VL Go.Proofs Go.IntWalk

def sameC (g h : Cg) : Bool := (decide (g.ac = h.ac) && decide (g.ar = h.ar)) && (decide (g.seq = h.seq) && (decide (g.deps = h.deps) && (decide (g.kind = h.kind) && ((decide (g.nc = h.nc) && decide (g.nr = h.nr)) && ((decide (g.pc = h.pc) && decide (g.pr = h.pr)) &&
  ((decide (g.fc = h.fc) && decide (g.fr = h.fr)) && (decide (g.name = h.name) && decide (g.val = h.val))))))))
theorem sameC_iff {g h : Cg} : sameC g h = true ↔ g = h := by
  obtain ⟨a1, a2, a3, a4, a5, a6, a7, a8, a9, a10, a11, a12, a13⟩ := g
  obtain ⟨b1, b2, b3, b4, b5, b6, b7, b8, b9, b10, b11, b12, b13⟩ := h
  simp only [sameC, Bool.and_eq_true, decide_eq_true_eq, Cg.mk.injEq]
  constructor
  · rintro ⟨⟨rfl, rfl⟩, rfl, rfl, rfl, ⟨rfl, rfl⟩, ⟨rfl, rfl⟩, ⟨rfl, rfl⟩, rfl, rfl⟩
    exact ⟨rfl, rfl, rfl, rfl, rfl, rfl, rfl, rfl, rfl, rfl, rfl, rfl, rfl⟩
  · rintro ⟨rfl, rfl, rfl, rfl, rfl, rfl, rfl, rfl, rfl, rfl, rfl, rfl, rfl⟩
    exact ⟨⟨rfl, rfl⟩, rfl, rfl, rfl, ⟨rfl, rfl⟩, ⟨rfl, rfl⟩, ⟨rfl, rfl⟩, rfl, rfl⟩
theorem sameC_self (g : Cg) : sameC g g = true := sameC_iff.2 rfl

section
variable {σ : St} {d f : V} {g h : Cg}
set_option maxRecDepth 100000 in
set_option maxHeartbeats 4000000 in
theorem same_ok (hd : RdS σ d 1 (intsV .i64 g.deps)) (hf : RdS σ f 1 (intsV .i64 h.deps)) (hlen : g.deps.length < 4611686018427387904) :
    CallA Try.prog 18 [cgV d g, cgV f h] σ fun w σ' => σ' = σ ∧ w = .bool (sameC g h) := by
  refine fn_at Try.func18 (by decide) comp18 rfl fun Q q1 q2 => ?_
  simp -implicitDefEqProofs only [go_sem, Nat.reduceBEq, Nat.reduceAdd, eq_self, true_and, and_true, and_self, List.getElem?_cons_zero, List.getElem?_cons_succ, Nat.reduceLeDiff, Nat.zero_add, Nat.reduceSub, Nat.le_refl, c18, cgV, cgC, V.eqs, V.eq, Bool.and_true]
  repeat' first
    | (refine GW_c (fun h => ?_) (fun h => ?_) <;> (try simp only [Bool.not_eq_true', Bool.not_eq_false'] at h) <;> (try simp only [h]) <;> (try simp -implicitDefEqProofs only [go_sem, Nat.reduceBEq, Nat.reduceAdd, eq_self, true_and, and_true, and_self, List.getElem?_cons_zero, List.getElem?_cons_succ, Nat.reduceLeDiff, Nat.zero_add, Nat.reduceSub, Nat.le_refl, cgC, cgV, V.eqs, V.eq, Bool.and_true]))
    | (refine CondW_b (fun h => ?_) (fun h => ?_) <;> (try simp only [Bool.not_eq_true', Bool.not_eq_false'] at h) <;> (try simp only [h]) <;> (try simp -implicitDefEqProofs only [go_sem, Nat.reduceBEq, Nat.reduceAdd, eq_self, true_and, and_true, and_self, List.getElem?_cons_zero, List.getElem?_cons_succ, Nat.reduceLeDiff, Nat.zero_add, Nat.reduceSub, Nat.le_refl, cgC, cgV, V.eqs, V.eq, Bool.and_true]))
    | (refine call_at (rsame_ok hd hf hlen) ?_; rintro v τ ⟨rfl, rfl⟩; refine ⟨by first | exact kept_none | exact (Ext.refl _).kept, ?_⟩; (try simp -implicitDefEqProofs only [go_sem, Nat.reduceBEq, Nat.reduceAdd, eq_self, true_and, and_true, and_self, List.getElem?_cons_zero, List.getElem?_cons_succ, Nat.reduceLeDiff, Nat.zero_add, Nat.reduceSub, Nat.le_refl, cgC, cgV, V.eqs, V.eq, Bool.and_true]))
    | (refine cut_dup ?_; (try simp -implicitDefEqProofs only [go_sem, Nat.reduceBEq, Nat.reduceAdd, eq_self, true_and, and_true, and_self, List.getElem?_cons_zero, List.getElem?_cons_succ, Nat.reduceLeDiff, Nat.zero_add, Nat.reduceSub, Nat.le_refl, cgC, cgV, V.eqs, V.eq, Bool.and_true]))
    | (refine q2 _ _ ?_; (try simp -implicitDefEqProofs only [go_sem, Nat.reduceBEq, Nat.reduceAdd, eq_self, true_and, and_true, and_self, List.getElem?_cons_zero, List.getElem?_cons_succ, Nat.reduceLeDiff, Nat.zero_add, Nat.reduceSub, Nat.le_refl, cgC, cgV, V.eqs, V.eq, Bool.and_true]))
  all_goals (clear q1 q2; first | (simp_all [sameC]; done) | grind [sameC])
end
end Go.VL.opl

namespace Go.VL.opl
open Go Go.VL Go.Proofs Go.IntWalk

def cgsV (l : List (V × Cg)) : List (List V) := l.map fun p => cgC p.1 p.2
theorem cgsV_len (l : List (V × Cg)) : (cgsV l).length = l.length := by simp [cgsV]
theorem cgsV_get {l : List (V × Cg)} {i : Nat} (h : i < l.length) : (cgsV l)[((i : Nat) : Int).toNat]?.getD [] = cgC l[i].1 l[i].2 := by simp [cgsV, h]
theorem cgsV_ne {l : List (V × Cg)} {i : Nat} (h : i < l.length) : cgsV l ≠ [] := by cases l <;> simp [cgsV] at h ⊢
/-- All their clocks may be read. -/
def Rds (σ : St) (l : List (V × Cg)) : Prop := ∀ p ∈ l, RdS σ p.1 1 (intsV .i64 p.2.deps)
theorem Rds.ext {σ σ' : St} {l : List (V × Cg)} (h : Rds σ l) (he : Ext σ σ') : Rds σ' l := fun p hp => (h p hp).ext he
def RdC (σ : St) (v : V) (gs : List Cg) : Prop := ∃ l : List (V × Cg), l.map (·.2) = gs ∧ RdS σ v 13 (cgsV l) ∧ Rds σ l
theorem RdC.ext {σ σ' : St} {v : V} {gs : List Cg} (h : RdC σ v gs) (he : Ext σ σ') : RdC σ' v gs := by
  obtain ⟨l, h1, h2, h3⟩ := h
  exact ⟨l, h1, h2.ext he, h3.ext he⟩

/-- But for one right. -/
def St.but (σ : St) (q : Nat) : St := ⟨σ.objs, σ.live.set q false⟩
theorem live_but {l : List Bool} {q r : Nat} (h : (l.set q false)[r]? = some true) : r ≠ q ∧ l[r]? = some true := by
  have hlt : r < l.length := by have := (List.getElem?_eq_some_iff.1 h).1; simpa using this
  by_cases e : r = q
  · subst e; rw [List.getElem?_set_self hlt] at h; cases h
  · rw [List.getElem?_set_ne (Ne.symm e)] at h; exact ⟨e, h⟩
theorem but_ext (σ : St) (q : Nat) : Ext (St.but σ q) σ := ⟨fun _ _ h => h, fun _ h => (live_but h).2, Nat.le_refl _, by simp [St.but]⟩
theorem but_app {τ τ2 : St} {q : Nat} (he : Ext τ τ2) : Ext (St.but τ q) (St.but ⟨τ2.objs, kill (τ2.live ++ [true]) (.own q) ++ [true]⟩ (τ2.live ++ [true]).length) := by
  refine ⟨he.objs, fun r hr => ?_, he.olen, ?_⟩
  · obtain ⟨h1, h2⟩ := live_but hr
    have h3 := he.live _ h2
    have hlt := (List.getElem?_eq_some_iff.1 h3).1
    show ((((τ2.live ++ [true]).set q false) ++ [true]).set (τ2.live ++ [true]).length false)[r]? = _
    rw [List.getElem?_set_ne (by simp; omega), List.getElem?_append_left (by simp; omega), List.getElem?_set_ne (Ne.symm h1), List.getElem?_append_left hlt]
    exact h3
  · have := he.llen
    simp [St.but, kill]; omega
theorem live_app {τ2 : St} {q r : Nat} (h : τ2.live[r]? = some true) (hr : r ≠ q) : (St.but ⟨τ2.objs, kill (τ2.live ++ [true]) (.own q) ++ [true]⟩ (τ2.live ++ [true]).length).live[r]? = some true := by
  have hlt := (List.getElem?_eq_some_iff.1 h).1
  show ((((τ2.live ++ [true]).set q false) ++ [true]).set (τ2.live ++ [true]).length false)[r]? = _
  rw [List.getElem?_set_ne (by simp; omega), List.getElem?_append_left (by simp; omega), List.getElem?_set_ne (Ne.symm hr), List.getElem?_append_left hlt]
  exact h

section
variable {σ : St} {v u : V} {gs hs : List Cg}
set_option maxRecDepth 100000 in
set_option maxHeartbeats 1000000 in
theorem sameAll_ok (hv : RdC σ v gs) (hu : RdC σ u hs) (hlen : gs.length ≤ 2000000) (hd : ∀ g ∈ gs, g.deps.length ≤ 1073741823) :
    CallA Try.prog 33 [v, u] σ fun w σ' => σ' = σ ∧ w = .bool (decide (gs = hs)) := by
  obtain ⟨l, rfl, hv, hds⟩ := hv
  obtain ⟨m, rfl, hu, hdm⟩ := hu
  obtain ⟨b, R, z, rfl, -, -⟩ := id hv
  obtain ⟨b2, R2, z2, rfl, -, -⟩ := id hu
  refine fn_at Try.func33 (by decide) comp33 rfl fun Q q1 q2 => ?_
  have hl := cgsV_len l
  have hm := cgsV_len m
  rw [List.length_map] at hlen
  simp -implicitDefEqProofs only [go_sem, Nat.reduceBEq, Nat.reduceAdd, eq_self, true_and, and_true, and_self, List.getElem?_cons_zero, List.getElem?_cons_succ, Nat.reduceLeDiff, Nat.zero_add, Nat.reduceSub, Nat.le_refl, c33, hl, hm]
  refine CondW_b (fun h => ?_) (fun h0 => ?_)
  · have : ¬ l.map (·.2) = m.map (·.2) := by
      intro e
      have := congrArg List.length e
      simp only [List.length_map] at this
      simp [this] at h
    simp -implicitDefEqProofs only [go_sem, Nat.reduceBEq, Nat.reduceAdd, eq_self, true_and, and_true, and_self, List.getElem?_cons_zero, List.getElem?_cons_succ, Nat.reduceLeDiff, Nat.zero_add, Nat.reduceSub, Nat.le_refl, Nat.lt_irrefl]
    refine q2 _ _ ?_
    simp -implicitDefEqProofs only [go_sem, Nat.reduceBEq, Nat.reduceAdd, eq_self, true_and, and_true, and_self, List.getElem?_cons_zero, List.getElem?_cons_succ, Nat.reduceLeDiff, Nat.zero_add, Nat.reduceSub, Nat.le_refl, this, decide_false]
  have hlm : l.length = m.length := by have := h0; simp at this; omega
  simp -implicitDefEqProofs only [go_sem, Nat.reduceBEq, Nat.reduceAdd, eq_self, true_and, and_true, and_self, List.getElem?_cons_zero, List.getElem?_cons_succ, Nat.reduceLeDiff, Nat.zero_add, Nat.reduceSub, Nat.le_refl, hl, hm]
  refine loop_at (fun (i : Nat) => ⟨[(0, .v (.sl b R z (cgsV l))), (1, .v (.sl b2 R2 z2 (cgsV m))), (5, .v (.int .i64 i))], []⟩) (fun i τ => τ = σ ∧ i ≤ l.length ∧ (l.take i).map (·.2) = (m.take i).map (·.2)) (fun i => l.length - i) 0 ?_ ?_ ?_
  · exact .inr (by simp -implicitDefEqProofs only [go_sem, Nat.reduceBEq, Nat.reduceAdd, eq_self, true_and, and_true, and_self, List.getElem?_cons_zero, List.getElem?_cons_succ, Nat.reduceLeDiff, Nat.zero_add, Nat.reduceSub, Nat.le_refl, Nat.lt_irrefl]; trivial)
  · exact ⟨rfl, Nat.zero_le _, by simp⟩
  rintro i τ ⟨rfl, g1, g2⟩ Z z1 z2 z3
  simp -implicitDefEqProofs only [go_sem, Nat.reduceBEq, Nat.reduceAdd, eq_self, true_and, and_true, and_self, List.getElem?_cons_zero, List.getElem?_cons_succ, Nat.reduceLeDiff, Nat.zero_add, Nat.reduceSub, Nat.le_refl, hl]
  refine CondW_b (fun hc => ?_) (fun hc => ?_)
  · have hi : i < l.length := by simpa using hc
    have hi2 : i < m.length := by omega
    have hget := cgsV_get hi
    have hget2 := cgsV_get hi2
    obtain ⟨k1, k2⟩ := rdl hv (cgsV_ne hi)
    obtain ⟨k3, k4⟩ := rdl hu (cgsV_ne hi2)
    have hb : (i : Int) < l.length := by omega
    have hb2 : (i : Int) < m.length := by omega
    have htk : l.take (i + 1) = l.take i ++ [l[i]] := List.take_succ_eq_append_getElem hi
    have htk2 : m.take (i + 1) = m.take i ++ [m[i]] := List.take_succ_eq_append_getElem hi2
    have hne : l[i].2 ≠ m[i].2 → ¬ l.map (·.2) = m.map (·.2) := by
      intro h e
      have h1 : (l.map (·.2))[i]'(by simpa using hi) = (m.map (·.2))[i]'(by simpa using hi2) := by simp only [e]
      simp only [List.getElem_map] at h1
      exact h h1
    have hdi := hds _ (List.getElem_mem hi)
    have hdi2 := hdm _ (List.getElem_mem hi2)
    have hdl := hd l[i].2 (List.mem_map.2 ⟨_, List.getElem_mem hi, rfl⟩)
    generalize l[i] = x at hget htk hne hdi hdl
    generalize m[i] = y at hget2 htk2 hne hdi2
    obtain ⟨d, g⟩ := x
    obtain ⟨f, h⟩ := y
    simp only at hget hget2 hdi hdi2 hdl hne
    simp -implicitDefEqProofs only [go_sem, Nat.reduceBEq, Nat.reduceAdd, eq_self, true_and, and_true, and_self, List.getElem?_cons_zero, List.getElem?_cons_succ, Nat.reduceLeDiff, Nat.zero_add, Nat.reduceSub, Nat.le_refl, hget, hget2, cgC]
    rw [hl, hm]
    refine ⟨⟨by omega, hb, k2⟩, k1, ⟨by omega, hb2, k4⟩, k3, call_at (same_ok (d := d) (f := f) (g := g) (h := h) hdi hdi2 (by omega)) ?_⟩
    rintro v τ2 ⟨rfl, rfl⟩
    refine ⟨(Ext.refl _).kept, ?_⟩
    cases he : sameC g h
    · have := hne (by intro e; rw [e, sameC_self] at he; cases he)
      simp -implicitDefEqProofs only [go_sem, Nat.reduceBEq, Nat.reduceAdd, eq_self, true_and, and_true, and_self, List.getElem?_cons_zero, List.getElem?_cons_succ, Nat.reduceLeDiff, Nat.zero_add, Nat.reduceSub, Nat.le_refl, he]
      refine z3 _ _ ?_
      simp -implicitDefEqProofs only [go_sem, Nat.reduceBEq, Nat.reduceAdd, eq_self, true_and, and_true, and_self, List.getElem?_cons_zero, List.getElem?_cons_succ, Nat.reduceLeDiff, Nat.zero_add, Nat.reduceSub, Nat.le_refl, Nat.lt_irrefl]
      refine q2 _ _ ?_
      simp -implicitDefEqProofs only [go_sem, Nat.reduceBEq, Nat.reduceAdd, eq_self, true_and, and_true, and_self, List.getElem?_cons_zero, List.getElem?_cons_succ, Nat.reduceLeDiff, Nat.zero_add, Nat.reduceSub, Nat.le_refl, this, decide_false]
    · have he := sameC_iff.1 he
      subst he
      simp -implicitDefEqProofs only [go_sem, Nat.reduceBEq, Nat.reduceAdd, eq_self, true_and, and_true, and_self, List.getElem?_cons_zero, List.getElem?_cons_succ, Nat.reduceLeDiff, Nat.zero_add, Nat.reduceSub, Nat.le_refl, sameC_self]
      refine z1 (i + 1) _ _ (.inr ?_) (by omega) ⟨rfl, by omega, by rw [htk, htk2, List.map_append, List.map_append, g2]; rfl⟩
      simp -implicitDefEqProofs only [go_sem, Nat.reduceBEq, Nat.reduceAdd, eq_self, true_and, and_true, and_self, List.getElem?_cons_zero, List.getElem?_cons_succ, Nat.reduceLeDiff, Nat.zero_add, Nat.reduceSub, Nat.le_refl, Nat.lt_irrefl]
      rw [i64_in _ (by omega)]; simp
  · have hi : ¬ i < l.length := by simpa using hc
    rw [List.take_of_length_le (by omega), List.take_of_length_le (by omega)] at g2
    simp -implicitDefEqProofs only [go_sem, Nat.reduceBEq, Nat.reduceAdd, eq_self, true_and, and_true, and_self, List.getElem?_cons_zero, List.getElem?_cons_succ, Nat.reduceLeDiff, Nat.zero_add, Nat.reduceSub, Nat.le_refl, Nat.lt_irrefl]
    refine z2 _ _ _ ?_
    simp -implicitDefEqProofs only [go_sem, Nat.reduceBEq, Nat.reduceAdd, eq_self, true_and, and_true, and_self, List.getElem?_cons_zero, List.getElem?_cons_succ, Nat.reduceLeDiff, Nat.zero_add, Nat.reduceSub, Nat.le_refl, Nat.lt_irrefl]
    refine q2 _ _ ?_
    simp -implicitDefEqProofs only [go_sem, Nat.reduceBEq, Nat.reduceAdd, eq_self, true_and, and_true, and_self, List.getElem?_cons_zero, List.getElem?_cons_succ, Nat.reduceLeDiff, Nat.zero_add, Nat.reduceSub, Nat.le_refl, g2, decide_true]
end
end Go.VL.opl

namespace Go.VL
open Go Go.Proofs Go.Shelf Go.RowKit Go.Lib Go.Sort

section
variable {P : Program} {γ : G} {σ : St} {w : World}

theorem flat_get {X : Type} [Inhabited X] {enc : X → List Value} {k : Nat} (hk : ∀ x, (enc x).length = k) : ∀ (l : List X) (j : Nat), j < l.length * k → (l.flatMap enc)[j]? = some (enc l.toArray[j / k]!)[j % k]!
  | [], j, h => by simp at h
  | x :: l, j, h => by
    have hk0 : 0 < k := by
      rcases Nat.eq_zero_or_pos k with h0 | h0
      · subst h0; simp at h
      · exact h0
    simp only [List.flatMap_cons]
    by_cases hj : j < k
    · rw [List.getElem?_append_left (by rw [hk]; exact hj), Nat.div_eq_of_lt hj, Nat.mod_eq_of_lt hj]
      have hx : j < (enc x).length := by rw [hk]; exact hj
      simp [List.getElem?_eq_getElem hx, hx]
    · rw [List.getElem?_append_right (by rw [hk]; omega), hk]
      have h2 : j - k < l.length * k := by
        simp only [List.length_cons, Nat.succ_mul] at h; omega
      rw [flat_get hk l (j - k) h2]
      have e1 : j / k = (j - k) / k + 1 := by
        have : j = (j - k) + k := by omega
        conv => lhs; rw [this]
        rw [Nat.add_div_right _ hk0]
      have e2 : j % k = (j - k) % k := by
        have : j = (j - k) + k := by omega
        conv => lhs; rw [this]
        rw [Nat.add_mod_right]
      rw [e1, e2]
      have hlt : (j - k) / k < l.length := Nat.div_lt_of_lt_mul (by rw [Nat.mul_comm]; exact h2)
      simp [hlt]
theorem flat_len {X : Type} {enc : X → List Value} {k : Nat} (hk : ∀ x, (enc x).length = k) (l : List X) : (l.flatMap enc).length = l.length * k := by
  induction l with
  | nil => simp
  | cons x l ih => simp [hk, ih, Nat.succ_mul, Nat.add_comm]
theorem repE_map {X : Type} {encV : X → List V} {enc : X → List Value} {k : Nat} (hrep : ∀ x, RepL γ (encV x) (enc x)) (hk : ∀ x, (enc x).length = k) (h1 : ∀ x, ∀ v ∈ enc x, v.oneCell' = true) : ∀ l : List X, RepE γ k (l.map encV) (l.flatMap enc)
  | [] => by simp [RepE]
  | x :: l => by
    simp only [List.map_cons, List.flatMap_cons, RepE]
    exact ⟨enc x, l.flatMap enc, rfl, by rw [(hrep x).length, hk], hrep x, repE_map hrep hk h1 l, h1 x⟩
theorem repE_det {X : Type} {encV : X → List V} {enc : X → List Value} {k : Nat} (hdet : ∀ x ws, RepL γ (encV x) ws → ws = enc x) : ∀ (l : List X) (vs : List Value), RepE γ k (l.map encV) vs → vs = l.flatMap enc
  | [], vs, h => by simpa [RepE] using h
  | x :: l, vs, h => by
    simp only [List.map_cons, RepE] at h
    obtain ⟨ws, us, rfl, -, h2, h3, -⟩ := h
    rw [hdet x ws h2, repE_det hdet l us h3]; rfl

/-- A comparison's calls, in whatever world: they lay blocks and draw, no more. -/
theorem cmp_lays {X : Type} {encV : X → List V} {enc : X → List Value} {cf : X → X → Int} {g : FuncId} (hrep : ∀ γ x, RepL γ (encV x) (enc x))
    (hg : ∀ x y, CallA P g [.agg (encV x), .agg (encV y)] ⟨[], []⟩ fun v _ => v = .int .i64 (cf x y)) (x y : X) (W : World) :
    Calls P g #[.agg (enc x).toArray, .agg (enc y).toArray] W fun e w' => e = .returned (.int .i64 (cf x y)) ∧ ∃ q os', w' = grow (W.drewN q) os' := by
  refine ((hg x y).2 (g0 W) W [.agg (enc x).toArray, .agg (enc y).toArray] (inv0 W) ?_).mono ?_
  · simp only [RepL, Rep]
    exact ⟨_, _, rfl, ⟨_, rfl, hrep _ x⟩, _, _, rfl, ⟨_, rfl, hrep _ y⟩, rfl⟩
  rintro e w' ⟨v, z, σ', γ', rfl, hle, hi, hz, rfl⟩
  simp only [Rep] at hz
  subst hz
  refine ⟨rfl, w'.drawn - W.drawn, w'.heap.extract W.heap.size w'.heap.size, ?_⟩
  have hd : W.drawn ≤ w'.drawn := by
    have := hi.drn
    rw [hle.drn] at this
    exact this
  have hh : ∀ (b : Nat) (o : Obj), W.heap[b]? = some o → w'.heap[b]? = some o := fun b o hb => hi.phi b o (by rw [hle.phi]; exact hb)
  have hsz : W.heap.size ≤ w'.heap.size := by
    rcases Nat.lt_or_ge w'.heap.size W.heap.size with hlt | hge
    · have := hh w'.heap.size W.heap[w'.heap.size] (Array.getElem?_eq_getElem hlt)
      simp at this
    · exact hge
  have hheap : w'.heap = W.heap ++ w'.heap.extract W.heap.size w'.heap.size := by
    apply Array.ext_getElem?
    intro i
    rw [Array.getElem?_append]
    split
    · rename_i hlt
      rw [Array.getElem?_eq_getElem hlt]
      exact hh i _ (Array.getElem?_eq_getElem hlt)
    · rename_i hge
      rw [Array.getElem?_extract]
      simp only [Nat.min_self]
      split
      · rename_i h2
        congr 1; omega
      · rename_i h2
        rw [Array.getElem?_eq_none (by omega)]
  have e1 : w'.os = W.os := hi.os.trans hle.os
  have e2 : w'.tape = W.tape := hi.tape.trans hle.tape
  have e3 : w'.output = W.output := hi.out.trans hle.out
  obtain ⟨h', t', d', o', u'⟩ := w'
  simp only at e1 e2 e3 hheap hd
  subst e1 e2 e3
  show _ = grow (World.drewN W (d' - W.drawn)) _
  simp only [World.drewN, grow]
  rw [← hheap]
  congr 1
  omega

set_option maxHeartbeats 1000000 in
/-- slices.SortFunc of an owned slice of structs. -/
theorem sort_cm {ρ : Ren} {X : Type} [Inhabited X] (L : SlLaysF0.n6 P ρ) (k : Nat) (aE : ∀ w, (isAgg (ρ.t 24)).run P w = .ok true w) (zE : ∀ w, (Go.sizeOf (ρ.t 24)).run P w = .ok k w)
    (encV : X → List V) (enc : X → List Value) (hrep : ∀ γ x, RepL γ (encV x) (enc x)) (hk : ∀ x, (enc x).length = k) (h1 : ∀ x, ∀ v ∈ enc x, v.oneCell' = true) (hdet : ∀ γ x ws, RepL γ (encV x) ws → ws = enc x)
    (cf : X → X → Int) (hO : SWO (ltOf cf)) (g : FuncId) (hg : ∀ x y, CallA P g [.agg (encV x), .agg (encV y)] ⟨[], []⟩ fun v _ => v = .int .i64 (cf x y))
    (hfn : ∃ fn, P.funcs[ρ.f 6]? = some fn ∧ fn.body.isSome = true ∧ (fn.name == "runtime.NumGoroutine") = false) {r : Nat} {l : List X} (hlive : σ.live[r]? = some true) (hsz : l.length < 4611686018427387904) :
    CallM P (ρ.f 6) [.sl false (.own r) k (l.map encV), .fn g []] r k (l.map encV) σ fun v r' es' σ' => ∃ l' : List X, l'.Perm l ∧ l'.Pairwise (fun a b => ltOf cf b a = false) ∧ es' = l'.map encV ∧ v = .tup [] ∧
      r' = σ.live.length ∧ σ' = ⟨σ.objs, σ.live.set r false ++ [true]⟩ := by
  refine ⟨hfn, fun γ w vs hi hr => ?_⟩
  simp only [RepL, Rep] at hr
  obtain ⟨v1, _, rfl, ⟨a, cap, rfl, hsp, hcap, hrho⟩, v2, _, rfl, ⟨_, rfl, rfl⟩, rfl⟩ := hr
  obtain ⟨blk, off, sp⟩ := a
  simp only at hsp
  subst hsp
  obtain ⟨a', cap', e0, -, h3, h4, h5, h6, c, e, z, vs0, h7, h8, h9, h10, h11⟩ := hi.own _ _ _ _ hlive hrho
  cases e0
  simp only at h4 h5 h6 h7 h8 h10 h11
  have hv0 := repE_det (hdet γ) l vs0 h9
  subst hv0
  have hlen : (l.map encV).length = l.length := by simp
  have hfl := flat_len hk l
  have hblk : blk < w.heap.size := lt_of_heap h7
  have hkb : l.length * k ≤ cap * k := Nat.mul_le_mul_right k (by rw [hlen] at h3; exact h3)
  have hcell : ∀ j, j < l.length * k → c[off + j]? = some ((flatK enc k l.toArray)[j]!) := by
    intro j hj
    rw [get_flatK enc k l.toArray j (by simpa using hj)]
    exact h8 j _ (flat_get hk l j hj)
  have hH : HoldsK enc k w blk off l.toArray := by
    intro j hj
    rw [size_flatK] at hj
    simp only [List.size_toArray] at hj
    refine ⟨?_, ?_⟩
    · simp only [World.cell?, h7]
      exact hcell j hj
    · have := h11 (off + j) (by omega) (by omega)
      simp only [World.frozen?, h7, Bool.and_eq_false_iff, decide_eq_false_iff_not]
      omega
  have eg : ∀ args w, (callFunc g args).run P w = .ok (.enter g args) w := fun args w => enter_ok (hg default default).1
  have hcmp : CmpLays P g #[] enc k cf blk off l.toArray.size w := fun m os dk _ x y => by
    simpa using cmp_lays hrep hg x y (sortWorldK enc k w blk off m dk os)
  have hcon := AnyQ.slices_SortFunc L k aE zE enc hk h1 cf hO g #[] blk off cap l.toArray w eg hcmp hH hblk (by simpa using hsz)
  rw [hlen]
  simp only [List.size_toArray] at hcon
  refine hcon.mono ?_
  rintro e' w' ⟨rfl, d', n, os, hp, hs, rfl⟩
  have hds : d'.size = l.length := by simpa using hp.1
  have hperm : d'.toList.Perm l := by
    have := hp.2.2
    rw [Array.extract_eq_self_of_le (by simp [hds]), Array.extract_eq_self_of_le (by simp)] at this
    simpa using this
  have hpair : d'.toList.Pairwise (fun a b => ltOf cf b a = false) := by
    rw [List.pairwise_iff_getElem]
    intro i j hi' hj' hij
    have hi2 : i < d'.size := by simpa using hi'
    have hj2 : j < d'.size := by simpa using hj'
    have := hs i j (Nat.zero_le _) hij (by rw [hds] at hj2; exact hj2)
    rw [getElem!_pos d' j hj2, getElem!_pos d' i hi2] at this
    simpa using this
  have hheap : ∀ b, (sortWorldK enc k w blk off n d' os).heap[b]? = if b < w.heap.size then (w.heap.modify blk (onCells (putCells id off (flatK enc k d'))))[b]? else os[b - w.heap.size]? := by
    intro b
    show ((w.heap.modify blk (onCells (putCells id off (flatK enc k d')))) ++ os)[b]? = _
    rw [Array.getElem?_append]
    simp only [Array.size_modify]
  have hbut : But (some blk) w (sortWorldK enc k w blk off n d' os) := by
    refine ⟨rfl, rfl, rfl, ?_, fun b o hb ho => ?_, ?_⟩
    · show w.heap.size ≤ ((w.heap.modify blk (onCells (putCells id off (flatK enc k d')))) ++ os).size
      simp
    · have hlt := lt_of_heap ho
      rw [hheap, if_pos hlt, Array.getElem?_modify, if_neg (fun e => hb (by rw [e]))]
      exact ho
    · show w.drawn ≤ w.drawn + n
      omega
  have hnew : (sortWorldK enc k w blk off n d' os).heap[blk]? = some (.cells (putCells id off (flatK enc k d') c) e z) := by
    rw [hheap, if_pos hblk, Array.getElem?_modify, if_pos rfl, h7]
    rfl
  have hll : (σ.live.set r false).length = σ.live.length := by simp
  obtain ⟨q1, q2⟩ := hi.right hbut (live := σ.live.set r false) hll (fun j hj => by
      by_cases e : r = j
      · subst e
        rw [List.getElem?_set_self (List.getElem?_eq_some_iff.1 hlive).1] at hj
        cases hj
      · rwa [List.getElem?_set_ne e] at hj)
    (k := blk) ⟨h4, h5, h6, fun j v s es hj hrj hb => by
      by_cases e : r = j
      · subst e
        rw [List.getElem?_set_self (List.getElem?_eq_some_iff.1 hlive).1] at hj
        cases hj
      · rw [List.getElem?_set_ne e] at hj
        exact e (hi.apart r j _ _ _ _ _ _ blk hlive hj hrho hrj rfl hb)⟩
    (v := .slice (some ⟨blk, off, none⟩) (l.map encV).length cap) (s := k) (es := d'.toList.map encV) (f := true) (fun _ => ⟨rfl, by
      refine ⟨⟨blk, off, none⟩, cap, by simp [hds], rfl, by simp only [List.length_map, Array.length_toList, hds]; rw [hlen] at h3; exact h3, h4, h5, h6, _, e, z, d'.toList.flatMap enc, hnew, fun i x hx => ?_, repE_map (fun x => hrep _ x) hk h1 _, ?_, h11⟩
      · have hfl2 := flat_len hk d'.toList
        have hi2 : i < d'.toList.length * k := by rw [← hfl2]; exact (List.getElem?_eq_some_iff.1 hx).1
        rw [flat_get hk _ _ hi2] at hx
        have hi3 : i < l.length * k := by simpa [hds] using hi2
        have hlt : off + i < c.size := by
          have := hcell i hi3
          exact (Array.getElem?_eq_some_iff.1 this).1
        simp only [putCells]
        rw [Array.getElem?_mapIdx, Array.getElem?_eq_getElem hlt]
        simp only [Option.map_some]
        have hi4 : i < d'.size * k := by simpa using hi2
        rw [if_pos ⟨by omega, by rw [size_flatK]; omega⟩, Nat.add_sub_cancel_left, get_flatK enc k d' i hi4]
        simpa using hx
      · simp only [putCells, Array.size_mapIdx]; exact h10⟩)
  refine ⟨.tuple #[], .tup [], _, _, σ.live.length, d'.toList.map encV, rfl, q2, q1, ?_, ⟨.slice (some ⟨blk, off, none⟩) (l.map encV).length cap, hrho, ?_⟩, by simp [hds], d'.toList, hperm, hpair, rfl, rfl, rfl, rfl⟩
  · simp only [Rep]
    exact ⟨[], rfl, rfl⟩
  · show (γ.rho ++ [_])[σ.live.length]? = _
    rw [← hi.rholen]; simp

namespace Go.Proofs
open Go.Shelf Go.RowKit Go.Lib Go.Sort
shelf_lay_g SlLaysF0.n6 Slsf 6 at Try 88 as oplSort
end Go.Proofs
namespace Go.VL.opl
open Go Go.VL Go.Proofs Go.IntWalk Go.Shelf Go.Sort Go.VL.st Go.VL.row

theorem sless (a b : Sp) : less a.c a.r b.c b.r = st.less a b := rfl
theorem scmp (a b : Sp) : cmp a.c a.r b.c b.r = st.cmp a b := by
  unfold cmp st.cmp
  rw [sp_dec, sless]
theorem sright (a : Sp) : right a.c a.r = st.right a := rfl
theorem cmpE_lt (a b : Sp) : ltOf st.cmp a b = st.less a b := st.cmp_neg a b
theorem cmpE_swo : SWO (ltOf st.cmp) := by
  have e : ltOf st.cmp = fun a b => st.less a b := by funext a b; exact cmpE_lt a b
  rw [e]
  refine ⟨fun a => less_irr _, fun _ _ _ h k => less_trans h k, fun x y z h1 h2 => ?_⟩
  cases h : st.less x z with
  | false => rfl
  | true =>
    cases h3 : st.less y x with
    | true => rw [less_trans h3 h] at h2; cases h2
    | false =>
      have := less_total h1 h3
      rw [← this, h] at h2; cases h2
def spE (p : Sp) : List Value := [.int .i64 p.c, .int .i64 p.r]
theorem spE_rep (γ : G) (r : Sp) : RepL γ (spC r) (spE r) := by
  simp only [spC, spE, RepL, Rep]
  exact ⟨_, _, rfl, rfl, _, _, rfl, rfl, rfl⟩
theorem spE_det (γ : G) (r : Sp) (ws : List Value) (h : RepL γ (spC r) ws) : ws = spE r := by
  simp only [spC, RepL, Rep] at h
  obtain ⟨_, _, rfl, rfl, _, _, rfl, rfl, rfl⟩ := h
  rfl
theorem spE_one (r : Sp) : ∀ v ∈ spE r, v.oneCell' = true := by
  intro v hv
  simp only [spE, List.mem_cons, List.not_mem_nil, or_false] at hv
  rcases hv with rfl | rfl <;> rfl
instance : Inhabited Sp := ⟨zs⟩
section
variable {σ : St} {a b : Sp} {v : V} {l : List Sp}
set_option maxRecDepth 100000 in
theorem cmpE_ok : CallA Try.prog 89 [spV a, spV b] σ fun v σ' => σ' = σ ∧ v = .int .i64 (st.cmp a b) := by
  refine fn_at Try.func89 (by decide) comp89 rfl fun Q q1 q2 => ?_
  simp -implicitDefEqProofs only [go_sem, Nat.reduceBEq, Nat.reduceAdd, eq_self, true_and, and_true, and_self, List.getElem?_cons_zero, List.getElem?_cons_succ, Nat.reduceLeDiff, Nat.zero_add, Nat.reduceSub, Nat.le_refl, c89, spV, spC]
  refine call_at (compare_ok (a1 := a.c) (a2 := a.r) (b1 := b.c) (b2 := b.r)) ?_
  rintro v τ ⟨rfl, rfl⟩
  refine ⟨kept_none, ?_⟩
  rw [scmp]
  simp -implicitDefEqProofs only [go_sem, Nat.reduceBEq, Nat.reduceAdd, eq_self, true_and, and_true, and_self, List.getElem?_cons_zero, List.getElem?_cons_succ, Nat.reduceLeDiff, Nat.zero_add, Nat.reduceSub, Nat.le_refl, Nat.lt_irrefl]
  refine q2 _ _ ?_
  simp -implicitDefEqProofs only [go_sem, Nat.reduceBEq, Nat.reduceAdd, eq_self, true_and, and_true, and_self, List.getElem?_cons_zero, List.getElem?_cons_succ, Nat.reduceLeDiff, Nat.zero_add, Nat.reduceSub, Nat.le_refl, Nat.lt_irrefl]
  try first | exact ⟨trivial, trivial⟩ | exact ⟨trivial, rfl⟩ | exact ⟨rfl, rfl⟩ | exact ⟨rfl, trivial⟩ | trivial
theorem sort_fn : ∃ fn, Try.prog.funcs[oplSort_ren.f 6]? = some fn ∧ fn.body.isSome = true ∧ (fn.name == "runtime.NumGoroutine") = false := ⟨Try.f88, Try.func88, rfl, by decide⟩
theorem sort_sps {q : Nat} (hq : σ.live[q]? = some true) (hl : l.length < 4611686018427387904) :
    CallM Try.prog 88 [.sl false (.own q) 2 (spsV l), .fn 89 []] q 2 (spsV l) σ fun v r' es' σ' => ∃ l' : List Sp, l'.Perm l ∧ l'.Pairwise (fun a b => st.less b a = false) ∧ es' = spsV l' ∧ v = .tup [] ∧
      r' = σ.live.length ∧ σ' = ⟨σ.objs, σ.live.set q false ++ [true]⟩ := by
  have h := sort_cm (P := Try.prog) (ρ := oplSort_ren) (σ := σ) oplSort 2 Try.isAgg35 Try.sizeOf35 spC spE spE_rep (fun _ => rfl) spE_one spE_det st.cmp cmpE_swo 89
    (fun x y => (cmpE_ok (a := x) (b := y)).mono fun _ _ h => h.2) sort_fn (r := q) (l := l) hq hl
  simp only [cmpE_lt] at h
  exact h
set_option maxRecDepth 100000 in
set_option maxHeartbeats 1000000 in
theorem rising_ok (hv : RdS σ v 2 (spsV l)) (hl : l.length ≤ 3) :
    CallA Try.prog 73 [v] σ fun w σ' => Ext σ σ' ∧ ∃ j x m, w = .fn 91 [.ptr (some (j, 0))] ∧ σ.objs.length ≤ j ∧ σ'.objs[j]? = some (.cells [x]) ∧ (∃ qv, x = .sl false (.view qv) 2 (spsV m) ∧ σ'.live[qv]? = some true ∧ σ.live.length ≤ qv) ∧ (m.Pairwise fun a b => st.less a b = true) ∧ (∀ y, y ∈ m ↔ y ∈ l) ∧ m.length ≤ 3 := by
  obtain ⟨b, R, z, rfl, -, -⟩ := id hv
  refine fn_at Try.func73 (by decide) comp73 rfl fun Q q1 q2 => ?_
  obtain ⟨hsb, hsz⟩ := rd_src (hv.ext (ext_live σ true))
  have hA := spsV_len l
  simp -implicitDefEqProofs only [go_sem, Nat.reduceBEq, Nat.reduceAdd, eq_self, true_and, and_true, and_self, List.getElem?_cons_zero, List.getElem?_cons_succ, Nat.reduceLeDiff, Nat.zero_add, Nat.reduceSub, Nat.le_refl, c73]
  refine ⟨⟨.inr trivial, .inr (live_last _ _), ⟨hsb, hsz⟩, by rw [hA]; omega⟩, ?_⟩
  have hcl : ∀ (A : List AObj) x, (A ++ [x])[A.length]? = some x := by simp
  simp -implicitDefEqProofs only [go_sem, Nat.reduceBEq, Nat.reduceAdd, eq_self, true_and, and_true, and_self, List.getElem?_cons_zero, List.getElem?_cons_succ, Nat.reduceLeDiff, Nat.zero_add, Nat.reduceSub, Nat.le_refl, hcl, Bool.false_and, List.nil_append, flats, V.flat]
  have x1 : Ext σ ⟨σ.objs, kill (σ.live ++ [true]) (.own σ.live.length) ++ [true]⟩ := ext_kill (ext_live σ true) (Nat.le_refl _)
  have he : Ext σ ((⟨σ.objs ++ [.cells [.sl true .pub 0 []]], kill (σ.live ++ [true]) (.own σ.live.length) ++ [true]⟩ : St).setC σ.objs.length [.sl false (.own (σ.live ++ [true]).length) 2 (spsV l)]) :=
    ext_set (x1.trans (ext_obj _ _)) (Nat.le_refl _)
  have hc : ((⟨σ.objs ++ [.cells [.sl true .pub 0 []]], kill (σ.live ++ [true]) (.own σ.live.length) ++ [true]⟩ : St).setC σ.objs.length [.sl false (.own (σ.live ++ [true]).length) 2 (spsV l)]).objs[σ.objs.length]? = some (.cells [.sl false (.own (σ.live ++ [true]).length) 2 (spsV l)]) := setC_get (by simp)
  have hq : ((⟨σ.objs ++ [.cells [.sl true .pub 0 []]], kill (σ.live ++ [true]) (.own σ.live.length) ++ [true]⟩ : St).setC σ.objs.length [.sl false (.own (σ.live ++ [true]).length) 2 (spsV l)]).live[(σ.live ++ [true]).length]? = some true := live_last' _ _ _
  have hql : σ.live.length ≤ (σ.live ++ [true]).length := by simp
  generalize ((⟨σ.objs ++ [.cells [.sl true .pub 0 []]], kill (σ.live ++ [true]) (.own σ.live.length) ++ [true]⟩ : St).setC σ.objs.length [.sl false (.own (σ.live ++ [true]).length) 2 (spsV l)]) = τ at *
  generalize (σ.live ++ [true]).length = q0 at *
  simp -implicitDefEqProofs only [go_sem, Nat.reduceBEq, Nat.reduceAdd, eq_self, true_and, and_true, and_self, List.getElem?_cons_zero, List.getElem?_cons_succ, Nat.reduceLeDiff, Nat.zero_add, Nat.reduceSub, Nat.le_refl, hc]
  refine cm_at ((sort_sps hq (by omega)).recell (j := σ.objs.length) (o := 0) (cs := [.sl false (.own q0) 2 (spsV l)]) (by rintro v r' es' σ' ⟨_, -, -, -, -, -, rfl⟩; exact hc) rfl) ?_
  rintro v r' es' σ2 ⟨_, ⟨l2, hp, hs, rfl, rfl, rfl, rfl⟩, rfl⟩
  refine ⟨kept_none, ?_⟩
  have hl2 : l2.length = l.length := hp.length_eq
  have x2 : Ext σ ⟨τ.objs, τ.live.set q0 false ++ [true]⟩ := ext_kill he hql
  have he2 : Ext σ ((⟨τ.objs, τ.live.set q0 false ++ [true]⟩ : St).setC σ.objs.length [.sl false (.own τ.live.length) 2 (spsV l2)]) := ext_set x2 (Nat.le_refl _)
  have hc2 : ((⟨τ.objs, τ.live.set q0 false ++ [true]⟩ : St).setC σ.objs.length [.sl false (.own τ.live.length) 2 (spsV l2)]).objs[σ.objs.length]? = some (.cells [.sl false (.own τ.live.length) 2 (spsV l2)]) := setC_get (List.getElem?_eq_some_iff.1 hc).1
  have hq2 : ((⟨τ.objs, τ.live.set q0 false ++ [true]⟩ : St).setC σ.objs.length [.sl false (.own τ.live.length) 2 (spsV l2)]).live[τ.live.length]? = some true := by
    show (τ.live.set q0 false ++ [true])[τ.live.length]? = _
    simp
  have hql2 : σ.live.length ≤ τ.live.length := he.llen
  simp -implicitDefEqProofs only [go_sem, Nat.reduceBEq, Nat.reduceAdd, eq_self, true_and, and_true, and_self, List.getElem?_cons_zero, List.getElem?_cons_succ, Nat.reduceLeDiff, Nat.zero_add, Nat.reduceSub, Nat.le_refl, List.set_cons_zero]
  generalize ((⟨τ.objs, τ.live.set q0 false ++ [true]⟩ : St).setC σ.objs.length [.sl false (.own τ.live.length) 2 (spsV l2)]) = τ2 at *
  generalize τ.live.length = q1' at *
  simp -implicitDefEqProofs only [go_sem, Nat.reduceBEq, Nat.reduceAdd, eq_self, true_and, and_true, and_self, List.getElem?_cons_zero, List.getElem?_cons_succ, Nat.reduceLeDiff, Nat.zero_add, Nat.reduceSub, Nat.le_refl, hc2]
  refine cm_at (cpt_cm hq2 (by omega)) ?_
  rintro v r' es' σ3 ⟨l3, n, hl3, rfl, rfl, hcp, hn, rfl, rfl⟩
  refine ⟨kept_none, ?_⟩
  have x3 : Ext σ ⟨τ2.objs, τ2.live.set q1' false ++ [true]⟩ := ext_kill he2 hql2
  simp -implicitDefEqProofs only [go_sem, Nat.reduceBEq, Nat.reduceAdd, eq_self, true_and, and_true, and_self, List.getElem?_cons_zero, List.getElem?_cons_succ, Nat.reduceLeDiff, Nat.zero_add, Nat.reduceSub, Nat.le_refl, hc2, flats, V.flat]
  have he3 : Ext σ ((⟨τ2.objs, τ2.live.set q1' false ++ [true]⟩ : St).setC σ.objs.length [.sl false (.view τ2.live.length) 2 (spsV (l3.take n))]) := ext_set x3 (Nat.le_refl _)
  have hc3 : ((⟨τ2.objs, τ2.live.set q1' false ++ [true]⟩ : St).setC σ.objs.length [.sl false (.view τ2.live.length) 2 (spsV (l3.take n))]).objs[σ.objs.length]? = some (.cells [.sl false (.view τ2.live.length) 2 (spsV (l3.take n))]) := setC_get (List.getElem?_eq_some_iff.1 hc2).1
  have hq3 : ((⟨τ2.objs, τ2.live.set q1' false ++ [true]⟩ : St).setC σ.objs.length [.sl false (.view τ2.live.length) 2 (spsV (l3.take n))]).live[τ2.live.length]? = some true := by
    show (τ2.live.set q1' false ++ [true])[τ2.live.length]? = _
    simp
  refine q2 _ _ ?_
  simp -implicitDefEqProofs only [go_sem, Nat.reduceBEq, Nat.reduceAdd, eq_self, true_and, and_true, and_self, List.getElem?_cons_zero, List.getElem?_cons_succ, Nat.reduceLeDiff, Nat.zero_add, Nat.reduceSub, Nat.le_refl, Nat.lt_irrefl]
  refine ⟨he3, _, _, l3.take n, rfl, Nat.le_refl _, hc3, ⟨_, rfl, hq3, he2.llen⟩, ?_, fun y => ?_, by rw [List.length_take]; omega⟩
  · rw [hcp]; exact cpl_srt _ hs
  · rw [hcp, cpl_mem, hp.mem_iff]
end
end Go.VL.opl

namespace Go.VL.opl
open Go Go.VL Go.Proofs Go.IntWalk Go.VL.st Go.VL.row

theorem spsV_get {l : List Sp} {i : Nat} (h : i < l.length) : (spsV l)[((i : Nat) : Int).toNat]?.getD [] = spC l[i] := by simp [spsV, h]
def AccS (n : Nat) (τ : St) (w : V) (l : List Sp) : Prop := (l = [] ∧ w = .sl true .pub 0 []) ∨ ∃ q, w = .sl false (.own q) 2 (spsV l) ∧ τ.live[q]? = some true ∧ n ≤ q
theorem AccS.rd {n : Nat} {τ : St} {w : V} {l : List Sp} (h : AccS n τ w l) : RdS τ w 2 (spsV l) := by
  rcases h with ⟨rfl, rfl⟩ | ⟨q, rfl, h1, h2⟩
  · exact ⟨true, .pub, 0, rfl, by simp [spsV], .inl rfl⟩
  · exact ⟨false, .own q, 2, rfl, by simp, .inr ⟨h1, rfl⟩⟩
theorem rdS_lv {τ τ' : St} {v : V} {s : Nat} {es : List (List V)} (h : RdS τ v s es) (e : ∀ r : Nat, τ.live[r]? = some true → τ'.live[r]? = some true) : RdS τ' v s es := by
  obtain ⟨b', r', s', h1, h2, h3⟩ := h
  refine ⟨b', r', s', h1, h2, h3.imp_right fun y => ⟨?_, y.2⟩⟩
  have := y.1
  cases r' with
  | pub => trivial
  | own q => exact e q this
  | view q => exact e q this
theorem setC_ne {τ : St} {i j : Nat} {cs : List V} (h : j ≠ i) : (τ.setC i cs).objs[j]? = τ.objs[j]? := setA_ne (o := .cells cs) h
section
variable {σ : St} {i u k j y : Nat} {s : V} {O W : List Sp} {w : V}
set_option maxRecDepth 100000 in
set_option maxHeartbeats 1000000 in
theorem sps1_ok (J : List Sp → St → Prop) (K : St → Prop) (hj : σ.objs[j]? = some (.cells [w])) (hw : RdS σ w 2 (spsV W)) (hW : W.length ≤ 100000)
    (hst : J W σ) (hJ : ∀ R τ, J R τ → RdS τ w 2 (spsV W))
    (hY : ∀ a R τ, J (a :: R) τ → YldA Try.prog y [spV a] τ fun v τ2 => v = .bool true ∧ J R τ2 ∨ v = .bool false ∧ K τ2) (h0 : ∀ τ, J [] τ → K τ) :
    CallA Try.prog 91 [yv y, .ptr (some (j, 0))] σ fun _ σ' => K σ' := by
  obtain ⟨b, R, z, rfl, -, -⟩ := id hw
  refine fn_at Try.func91 (by decide) comp91 rfl fun Q q1 q2 => ?_
  simp -implicitDefEqProofs only [go_sem, Nat.reduceBEq, Nat.reduceAdd, eq_self, true_and, and_true, and_self, List.getElem?_cons_zero, List.getElem?_cons_succ, Nat.reduceLeDiff, Nat.zero_add, Nat.reduceSub, Nat.le_refl, c91, hj]
  refine loop_at (fun (k : Nat) => ⟨[(0, .v (yv y)), (5, .v (.sl b R z (spsV W))), (6, .v (.int .i64 (spsV W).length)), (7, .v (.int .i64 k))], []⟩)
    (fun k τ => k ≤ W.length ∧ J (W.drop k) τ) (fun k => W.length - k) 0 ?_ ?_ ?_
  · refine .inr ?_
    simp -implicitDefEqProofs only [go_sem, Nat.reduceBEq, Nat.reduceAdd, eq_self, true_and, and_true, and_self, List.getElem?_cons_zero, List.getElem?_cons_succ, Nat.reduceLeDiff, Nat.zero_add, Nat.reduceSub, Nat.le_refl, Nat.lt_irrefl]
    try trivial
  · exact ⟨Nat.zero_le _, hst⟩
  rintro k τ ⟨g1, g2⟩ Z z1 z2 z3
  have hWl := spsV_len W
  simp -implicitDefEqProofs only [go_sem, Nat.reduceBEq, Nat.reduceAdd, eq_self, true_and, and_true, and_self, List.getElem?_cons_zero, List.getElem?_cons_succ, Nat.reduceLeDiff, Nat.zero_add, Nat.reduceSub, Nat.le_refl, Nat.lt_irrefl]
  refine CondW_b (fun hc => ?_) (fun hc => ?_)
  · have hk : k < W.length := by simpa [spsV_len] using hc
    obtain ⟨k1, k2⟩ := rdl (hJ _ _ g2) (by cases W <;> simp [spsV] at hk ⊢)
    have hget := spsV_get hk
    have hib : (k : Int) < (spsV W).length := by omega
    rw [List.drop_eq_getElem_cons hk] at g2
    generalize W[k] = a at hget g2
    simp -implicitDefEqProofs only [go_sem, Nat.reduceBEq, Nat.reduceAdd, eq_self, true_and, and_true, and_self, List.getElem?_cons_zero, List.getElem?_cons_succ, Nat.reduceLeDiff, Nat.zero_add, Nat.reduceSub, Nat.le_refl, hget, spC]
    refine ⟨⟨by omega, hib, k2⟩, k1, ?_⟩
    refine yld_at (hY a _ τ g2) ?_
    rintro v τ3 (⟨rfl, c1⟩ | ⟨rfl, c1⟩)
    · refine ⟨kept_none, ?_⟩
      simp -implicitDefEqProofs only [go_sem, Nat.reduceBEq, Nat.reduceAdd, eq_self, true_and, and_true, and_self, List.getElem?_cons_zero, List.getElem?_cons_succ, Nat.reduceLeDiff, Nat.zero_add, Nat.reduceSub, Nat.le_refl, Bool.not_true]
      refine z1 (k + 1) _ _ (.inr ?_) (by omega) ⟨by omega, c1⟩
      simp -implicitDefEqProofs only [go_sem, Nat.reduceBEq, Nat.reduceAdd, eq_self, true_and, and_true, and_self, List.getElem?_cons_zero, List.getElem?_cons_succ, Nat.reduceLeDiff, Nat.zero_add, Nat.reduceSub, Nat.le_refl, Nat.lt_irrefl]
      rw [i64_in _ (by omega)]; simp
    · refine ⟨kept_none, ?_⟩
      simp -implicitDefEqProofs only [go_sem, Nat.reduceBEq, Nat.reduceAdd, eq_self, true_and, and_true, and_self, List.getElem?_cons_zero, List.getElem?_cons_succ, Nat.reduceLeDiff, Nat.zero_add, Nat.reduceSub, Nat.le_refl, Bool.not_false]
      refine z3 _ _ ?_
      simp -implicitDefEqProofs only [go_sem, Nat.reduceBEq, Nat.reduceAdd, eq_self, true_and, and_true, and_self, List.getElem?_cons_zero, List.getElem?_cons_succ, Nat.reduceLeDiff, Nat.zero_add, Nat.reduceSub, Nat.le_refl, Nat.lt_irrefl]
      refine q2 _ _ ?_
      simp -implicitDefEqProofs only [go_sem, Nat.reduceBEq, Nat.reduceAdd, eq_self, true_and, and_true, and_self, List.getElem?_cons_zero, List.getElem?_cons_succ, Nat.reduceLeDiff, Nat.zero_add, Nat.reduceSub, Nat.le_refl, Nat.lt_irrefl]
      exact c1
  · have hk : ¬ k < W.length := by simpa [spsV_len] using hc
    rw [List.drop_of_length_le (by omega)] at g2
    simp -implicitDefEqProofs only [go_sem, Nat.reduceBEq, Nat.reduceAdd, eq_self, true_and, and_true, and_self, List.getElem?_cons_zero, List.getElem?_cons_succ, Nat.reduceLeDiff, Nat.zero_add, Nat.reduceSub, Nat.le_refl, Nat.lt_irrefl]
    refine z2 _ _ _ ?_
    simp -implicitDefEqProofs only [go_sem, Nat.reduceBEq, Nat.reduceAdd, eq_self, true_and, and_true, and_self, List.getElem?_cons_zero, List.getElem?_cons_succ, Nat.reduceLeDiff, Nat.zero_add, Nat.reduceSub, Nat.le_refl, Nat.lt_irrefl]
    refine q1 _ _ ?_
    simp -implicitDefEqProofs only [go_sem, Nat.reduceBEq, Nat.reduceAdd, eq_self, true_and, and_true, and_self, List.getElem?_cons_zero, List.getElem?_cons_succ, Nat.reduceLeDiff, Nat.zero_add, Nat.reduceSub, Nat.le_refl, Nat.lt_irrefl]
    exact h0 _ g2
set_option maxRecDepth 100000 in
set_option maxHeartbeats 1000000 in
theorem sort_ok {v : V} {l : List Sp} (hv : RdS σ v 2 (spsV l)) (hl : l.length ≤ 3) :
    CallA Try.prog 92 [v] σ fun w σ' => Ext σ σ' ∧ ∃ q m, w = .sl false (.own q) 2 (spsV m) ∧ σ'.live[q]? = some true ∧ σ.live.length ≤ q ∧ (m.Pairwise fun a b => st.less a b = true) ∧ (∀ y, y ∈ m ↔ y ∈ l) ∧ m.length ≤ 3 := by
  refine fn_at Try.func92 (by decide) comp92 rfl fun Q q1 q2 => ?_
  have hcl : ∀ (A : List AObj) x, (A ++ [x])[A.length]? = some x := by simp
  simp -implicitDefEqProofs only [go_sem, Nat.reduceBEq, Nat.reduceAdd, eq_self, true_and, and_true, and_self, List.getElem?_cons_zero, List.getElem?_cons_succ, Nat.reduceLeDiff, Nat.zero_add, Nat.reduceSub, Nat.le_refl, c92, hcl, flats, V.flat]
  have e0 : Ext σ ((⟨σ.objs ++ [.cells [.sl true .pub 0 []]], σ.live ++ [true]⟩ : St).setC σ.objs.length [.sl false (.own σ.live.length) 2 []]) := ext_set ((ext_live σ true).trans (ext_obj _ _)) (Nat.le_refl _)
  have h0 : ((⟨σ.objs ++ [.cells [.sl true .pub 0 []]], σ.live ++ [true]⟩ : St).setC σ.objs.length [.sl false (.own σ.live.length) 2 []]).objs[σ.objs.length]? = some (.cells [.sl false (.own σ.live.length) 2 []]) := setC_get (by simp)
  have hq0 : ((⟨σ.objs ++ [.cells [.sl true .pub 0 []]], σ.live ++ [true]⟩ : St).setC σ.objs.length [.sl false (.own σ.live.length) 2 []]).live[σ.live.length]? = some true := live_last _ _
  generalize ((⟨σ.objs ++ [.cells [.sl true .pub 0 []]], σ.live ++ [true]⟩ : St).setC σ.objs.length [.sl false (.own σ.live.length) 2 []]) = τ0 at *
  refine call_at (rising_ok (hv.ext e0) hl) ?_
  rintro v τ ⟨e1, j, w, O, rfl, hjl, hj, ⟨qv, rfl, hqv, hqvl⟩, hsrt, hmem, hO3⟩
  refine ⟨kept_none, ?_⟩
  have hp := e1.objs _ _ h0
  have hq1 := e1.live _ hq0
  have hll := (e0.trans e1).llen
  have hol := (e0.trans e1).olen
  have e2 := e0.trans e1
  have hle := (List.getElem?_eq_some_iff.1 hp).1
  have hq0l := (List.getElem?_eq_some_iff.1 hq0).1
  simp -implicitDefEqProofs only [go_sem, Nat.reduceBEq, Nat.reduceAdd, eq_self, true_and, and_true, and_self, List.getElem?_cons_zero, List.getElem?_cons_succ, Nat.reduceLeDiff, Nat.zero_add, Nat.reduceSub, Nat.le_refl, Nat.lt_irrefl]
  refine range_at ?_
  intro yl i0 r0 r1 r2 r3 hi hyy
  have e3 := ext_obj τ r0
  have hr0 : (⟨τ.objs ++ [r0], τ.live⟩ : St).objs[i0]? = some r0 := by rw [← hi]; simp
  have hrd : ∀ t : St, t.live[qv]? = some true → RdS t (.sl false (.view qv) 2 (spsV O)) 2 (spsV O) := fun t h => ⟨_, _, _, rfl, by simp, .inr ⟨h, rfl⟩⟩
  refine CallA.mono (sps1_ok (W := O)
    (fun R t => ∃ D q, O = D ++ R ∧ Ext σ t ∧ t.objs[σ.objs.length]? = some (.cells [.sl false (.own q) 2 (spsV D)]) ∧ t.live[q]? = some true ∧ σ.live.length ≤ q ∧ t.objs[i0]? = some r0 ∧ q ≠ qv ∧ t.live[qv]? = some true)
    (fun t => t.objs[i0]? = some r0 ∧ Ext σ t ∧ ∃ q, t.objs[σ.objs.length]? = some (.cells [.sl false (.own q) 2 (spsV O)]) ∧ t.live[q]? = some true ∧ σ.live.length ≤ q)
    (e3.objs _ _ hj) (hrd _ hqv) (by omega) ?_ ?_ ?_ ?_) ?_
  · exact ⟨[], _, rfl, e2.trans e3, e3.objs _ _ hp, hq1, Nat.le_refl _, hr0, by omega, hqv⟩
  · rintro R t ⟨D, q, -, -, -, -, -, -, -, h⟩
    exact hrd _ h
  · rintro a R t ⟨D, q, s1, s2, s3, s4, s5, s6, s7, s8⟩
    refine hyy t _ _ s6 rfl fun Y0 y0 => ?_
    simp -implicitDefEqProofs only [go_sem, Nat.reduceBEq, Nat.reduceAdd, eq_self, true_and, and_true, and_self, List.getElem?_cons_zero, List.getElem?_cons_succ, Nat.reduceLeDiff, Nat.zero_add, Nat.reduceSub, Nat.le_refl, rndF, setPs, dropL, spV, spC]
    refine y0 _ _ s6 fun Y y1 y2 y3 => ?_
    clear y0 Y0
    have b2 := ext_setA s2 (i := i0) (o := r1) (by omega)
    have b3 : (t.setA i0 r1).objs[σ.objs.length]? = _ := (setA_ne (by omega)).trans s3
    have b4 : (t.setA i0 r1).live[q]? = some true := s4
    have b6 : (t.setA i0 r1).objs[i0]? = some r1 := setA_at s6
    have b8 : (t.setA i0 r1).live[qv]? = some true := s8
    generalize t.setA i0 r1 = t2 at b2 b3 b4 b6 b8 ⊢
    clear s2 s3 s4 s6 s8 hyy
    have hDl : D.length ≤ 3 := by have := congrArg List.length s1; simp only [List.length_append] at this; omega
    have hal := spsV_len D
    have s1' : O = (D ++ [a]) ++ R := by rw [s1]; simp
    have hap : spsV (D ++ [a]) = spsV D ++ [[.int .i64 a.c, .int .i64 a.r]] := by simp [spsV, spC]
    simp -implicitDefEqProofs only [go_sem, Nat.reduceBEq, Nat.reduceAdd, eq_self, true_and, and_true, and_self, List.getElem?_cons_zero, List.getElem?_cons_succ, Nat.reduceLeDiff, Nat.zero_add, Nat.reduceSub, Nat.le_refl, b3]
    refine ⟨⟨.inr trivial, .inr ((ext_live _ _).live _ b4), ⟨.inr (live_last _ _), .inl trivial⟩, by rw [hal]; omega⟩, ?_⟩
    have ex1 := ext_kill (ext_push b2 (b := true)) (r := q) (b := true) (by omega)
    have hl2 := live_last' (t2.live ++ [true]) q true
    have hqvl2 := (List.getElem?_eq_some_iff.1 b8).1
    refine y1 _ _ ?_ (.inl ⟨rfl, D ++ [a], (t2.live ++ [true]).length, s1', ext_setA (ext_set ex1 (by omega)) (by omega), ?_, hl2, ?_, ?_, ?_, ?_⟩)
    · rw [setC_ne (by omega)]; exact b6
    · rw [setA_ne (by omega), setC_get (by show _ < t2.objs.length; exact (List.getElem?_eq_some_iff.1 b3).1), hap]
    · have := b2.llen
      simp only [List.length_append, List.length_singleton]; omega
    · exact setA_at (o' := r1) (by rw [setC_ne (by omega)]; exact b6)
    · simp only [List.length_append, List.length_singleton]; omega
    · show (kill (t2.live ++ [true]) (.own q) ++ [true])[qv]? = some true
      simp only [kill]
      rw [List.getElem?_append_left (by simp; omega), List.getElem?_set_ne s7, List.getElem?_append_left hqvl2]
      exact b8
  · rintro t ⟨D, q, s1, s2, s3, s4, s5, s6, s7, s8⟩
    rw [List.append_nil] at s1
    subst s1
    exact ⟨s6, s2, q, s3, s4, s5⟩
  · rintro v t ⟨h1, h2, q, h3, h4, h5⟩
    refine .inl ⟨h1, ?_⟩
    have h3' : (t.setA i0 (r3 .normal)).objs[σ.objs.length]? = _ := (setA_ne (by omega)).trans h3
    simp -implicitDefEqProofs only [go_sem, Nat.reduceBEq, Nat.reduceAdd, eq_self, true_and, and_true, and_self, List.getElem?_cons_zero, List.getElem?_cons_succ, Nat.reduceLeDiff, Nat.zero_add, Nat.reduceSub, Nat.le_refl, h3']
    refine q2 _ _ ?_
    simp -implicitDefEqProofs only [go_sem, Nat.reduceBEq, Nat.reduceAdd, eq_self, true_and, and_true, and_self, List.getElem?_cons_zero, List.getElem?_cons_succ, Nat.reduceLeDiff, Nat.zero_add, Nat.reduceSub, Nat.le_refl, Nat.lt_irrefl]
    exact ⟨ext_setA h2 (by omega), q, O, rfl, h4, h5, hsrt, hmem, hO3⟩
end
end Go.VL.opl

namespace Go.VL.opl
open Go Go.VL Go.Proofs Go.IntWalk Go.VL.st Go.VL.row

def atS (g : Cg) : Sp := ⟨g.ac, g.ar⟩
def baseN (g : Cg) : List Sp := [⟨g.nc, g.nr⟩, ⟨g.pc, g.pr⟩, ⟨g.fc, g.fr⟩]
def okN (g : Cg) (s : Sp) : Bool := st.right s && !decide (s = atS g)
/-- The stamps that a change names, in order. -/
def IsN (g : Cg) (m : List Sp) : Prop := (m.Pairwise fun a b => st.less a b = true) ∧ ∀ y, y ∈ m ↔ y ∈ (baseN g).filter (okN g)
theorem srt_uniq : ∀ {A B : List Sp}, (A.Pairwise fun a b => st.less a b = true) → (B.Pairwise fun a b => st.less a b = true) → (∀ y, y ∈ A ↔ y ∈ B) → A = B
  | [], [], _, _, _ => rfl
  | [], b :: B, _, _, h => absurd ((h b).2 (by simp)) (by simp)
  | a :: A, [], _, _, h => absurd ((h a).1 (by simp)) (by simp)
  | a :: A, b :: B, hA, hB, h => by
    obtain ⟨a1, a2⟩ := List.pairwise_cons.1 hA
    obtain ⟨b1, b2⟩ := List.pairwise_cons.1 hB
    have e : a = b := by
      rcases List.mem_cons.1 ((h a).1 (by simp)) with e | h1
      · exact e
      · rcases List.mem_cons.1 ((h b).2 (by simp)) with e | h2
        · exact e.symm
        · have := less_trans (a1 b h2) (b1 a h1)
          rw [less_irr] at this; cases this
    subst e
    refine congrArg _ (srt_uniq a2 b2 fun y => ?_)
    have hy := h y
    simp only [List.mem_cons] at hy
    constructor
    · intro hm
      rcases hy.1 (.inr hm) with e | h1
      · subst e
        have := a1 y hm
        rw [less_irr] at this; cases this
      · exact h1
    · intro hm
      rcases hy.2 (.inr hm) with e | h1
      · subst e
        have := b1 y hm
        rw [less_irr] at this; cases this
      · exact h1
theorem IsN.uniq {g : Cg} {A B : List Sp} (h : IsN g A) (k : IsN g B) : A = B := srt_uniq h.1 k.1 fun y => by rw [h.2, k.2]
theorem filt_len (g : Cg) (n : Nat) : (((baseN g).take n).filter (okN g)).length ≤ 3 := by
  have := List.length_filter_le (okN g) ((baseN g).take n)
  rw [List.length_take] at this
  simp only [baseN, List.length_cons, List.length_nil] at this ⊢
  omega
theorem filt_snoc {g : Cg} {n : Nat} (h : n < (baseN g).length) : ((baseN g).take (n + 1)).filter (okN g) = ((baseN g).take n).filter (okN g) ++ bif okN g (baseN g)[n] then [(baseN g)[n]] else [] := by
  rw [List.take_succ_eq_append_getElem h, List.filter_append]
  cases hk : okN g (baseN g)[n] <;> simp [hk]
section
variable {σ : St} {d : V} {g : Cg}
set_option maxRecDepth 100000 in
set_option maxHeartbeats 1000000 in
theorem names_ok : CallA Try.prog 74 [cgV d g] σ fun w σ' => Ext σ σ' ∧ ∃ q m, w = .sl false (.own q) 2 (spsV m) ∧ σ'.live[q]? = some true ∧ σ.live.length ≤ q ∧ IsN g m ∧ m.length ≤ 3 := by
  refine fn_at Try.func74 (by decide) comp74 rfl fun Q q1 q2 => ?_
  have hb3 : (baseN g).length = 3 := rfl
  have hlit : ([[.int .i64 g.nc, .int .i64 g.nr], [.int .i64 g.pc, .int .i64 g.pr], [.int .i64 g.fc, .int .i64 g.fr]] : List (List V)) = spsV (baseN g) := rfl
  simp -implicitDefEqProofs only [go_sem, Nat.reduceBEq, Nat.reduceAdd, eq_self, true_and, and_true, and_self, List.getElem?_cons_zero, List.getElem?_cons_succ, Nat.reduceLeDiff, Nat.zero_add, Nat.reduceSub, Nat.le_refl, c74, cgV, cgC]
  rw [hlit]
  refine loop_at (fun (y : Nat × V) => ⟨[(1, .loc 1 0), (3, .v y.2), (12, .v (.sl false (.own σ.live.length) 2 (spsV (baseN g)))), (13, .v (.int .i64 3)), (14, .v (.int .i64 y.1))], [(1, cgC d g)]⟩)
    (fun y t => y.1 ≤ 3 ∧ Ext σ t ∧ t.live[σ.live.length]? = some true ∧ ((((baseN g).take y.1).filter (okN g) = [] ∧ y.2 = .sl true .pub 2 []) ∨ ∃ q, y.2 = .sl false (.own q) 2 (spsV (((baseN g).take y.1).filter (okN g))) ∧ t.live[q]? = some true ∧ σ.live.length < q)) (fun y => 3 - y.1) (0, .sl true .pub 2 []) ?_ ?_ ?_
  · refine .inr ?_
    simp -implicitDefEqProofs only [go_sem, Nat.reduceBEq, Nat.reduceAdd, eq_self, true_and, and_true, and_self, List.getElem?_cons_zero, List.getElem?_cons_succ, Nat.reduceLeDiff, Nat.zero_add, Nat.reduceSub, Nat.le_refl, cgC]
    try exact rfl
    try exact ⟨rfl, rfl⟩
  · exact ⟨Nat.zero_le _, ext_live σ true, live_last _ _, .inl ⟨rfl, rfl⟩⟩
  rintro ⟨y, w⟩ t ⟨f1, f2, f3, f4⟩ Z z1 z2 z3
  simp only at f1 f4
  simp -implicitDefEqProofs only [go_sem, Nat.reduceBEq, Nat.reduceAdd, eq_self, true_and, and_true, and_self, List.getElem?_cons_zero, List.getElem?_cons_succ, Nat.reduceLeDiff, Nat.zero_add, Nat.reduceSub, Nat.le_refl, Nat.lt_irrefl]
  refine CondW_b (fun hcc => ?_) (fun hcc => ?_)
  · have hi : y < 3 := by have := of_decide_eq_true hcc; omega
    have hget := spsV_get (l := baseN g) (i := y) (by omega)
    have hib : (y : Int) < (spsV (baseN g)).length := by rw [spsV_len]; omega
    have hwy : IntKind.i64.wrap ((y : Int) + 1) = ((y + 1 : Nat) : Int) := by rw [i64_in _ (by omega)]; omega
    have hfs := filt_snoc (g := g) (n := y) (by omega)
    have hfl := filt_len g y
    have hok : okN g (baseN g)[y] = (st.right (baseN g)[y] && !decide ((baseN g)[y] = atS g)) := rfl
    generalize (baseN g)[y] = s at *
    generalize ((baseN g).take y).filter (okN g) = D at *
    have hle : (spsV D).length = D.length := spsV_len D
    refine cut_dup ?_
    have hse : V.eqs [.int .i64 s.c, .int .i64 s.r] [.int .i64 g.ac, .int .i64 g.ar] = decide (s = atS g) := sp_eqs s (atS g)
    simp -implicitDefEqProofs only [go_sem, Nat.reduceBEq, Nat.reduceAdd, eq_self, true_and, and_true, and_self, List.getElem?_cons_zero, List.getElem?_cons_succ, Nat.reduceLeDiff, Nat.zero_add, Nat.reduceSub, Nat.le_refl, hget, spC]
    refine ⟨⟨by omega, hib⟩, f3, ?_⟩
    refine call_at (right_ok (c := s.c) (r := s.r)) ?_
    rintro _ τ ⟨hτ, rfl⟩
    have hτ := hτ.symm
    subst hτ
    refine ⟨kept_none, ?_⟩
    rw [sright]
    cases h1 : st.right s <;> rw [h1] at hok
    · rw [hok] at hfs
      simp only [Bool.false_and, cond_false, List.append_nil] at hfs
      simp -implicitDefEqProofs only [go_sem, Nat.reduceBEq, Nat.reduceAdd, eq_self, true_and, and_true, and_self, List.getElem?_cons_zero, List.getElem?_cons_succ, Nat.reduceLeDiff, Nat.zero_add, Nat.reduceSub, Nat.le_refl, hwy]
      refine z1 (y + 1, w) _ _ (.inr ?_) (by simp only; omega) ⟨by simp only; omega, f2, f3, by simp only [hfs]; exact f4⟩
      simp -implicitDefEqProofs only [go_sem, Nat.reduceBEq, Nat.reduceAdd, eq_self, true_and, and_true, and_self, List.getElem?_cons_zero, List.getElem?_cons_succ, Nat.reduceLeDiff, Nat.zero_add, Nat.reduceSub, Nat.le_refl, cgC]
      try exact rfl
    · cases h2 : decide (s = atS g) <;> rw [h2] at hok
      · rw [hok] at hfs
        rw [h2] at hse
        simp only [Bool.true_and, Bool.not_false, cond_true] at hfs
        have hap : spsV (D ++ [s]) = spsV D ++ [[.int .i64 s.c, .int .i64 s.r]] := by simp [spsV, spC]
        rcases f4 with ⟨hD, rfl⟩ | ⟨q, rfl, hq, hql⟩
        · have hl2 : ((t.live ++ [true]) ++ [true])[t.live.length + 1]? = some true := by simp
          have hlt := f2.llen
          have hl3 : σ.live.length < t.live.length := (List.getElem?_eq_some_iff.1 f3).1
          simp -implicitDefEqProofs only [go_sem, Nat.reduceBEq, Nat.reduceAdd, eq_self, true_and, and_true, and_self, List.getElem?_cons_zero, List.getElem?_cons_succ, Nat.reduceLeDiff, Nat.zero_add, Nat.reduceSub, Nat.le_refl, hse, Bool.not_false, hwy, cgC]
          refine ⟨⟨.inl trivial, rfl, .inr (live_last _ _), .inl trivial⟩, ?_⟩
          refine z1 (y + 1, .sl false (.own (t.live.length + 1)) 2 (spsV (D ++ [s]))) _ _ (.inr ?_) (by simp only; omega) ⟨by simp only; omega, ext_push (ext_push f2), ?_, .inr ⟨_, by simp only [hfs], hl2, by omega⟩⟩
          · simp -implicitDefEqProofs only [go_sem, Nat.reduceBEq, Nat.reduceAdd, eq_self, true_and, and_true, and_self, List.getElem?_cons_zero, List.getElem?_cons_succ, Nat.reduceLeDiff, Nat.zero_add, Nat.reduceSub, Nat.le_refl, cgC]
            rw [hap, hD]
            simp [spsV]
          · show ((t.live ++ [true]) ++ [true])[σ.live.length]? = some true
            rw [List.getElem?_append_left (by simp; omega), List.getElem?_append_left hl3]; exact f3
        · have hlt := f2.llen
          have hl3 : σ.live.length < t.live.length := (List.getElem?_eq_some_iff.1 f3).1
          have hql3 := (List.getElem?_eq_some_iff.1 hq).1
          simp -implicitDefEqProofs only [go_sem, Nat.reduceBEq, Nat.reduceAdd, eq_self, true_and, and_true, and_self, List.getElem?_cons_zero, List.getElem?_cons_succ, Nat.reduceLeDiff, Nat.zero_add, Nat.reduceSub, Nat.le_refl, hse, Bool.not_false, hwy, cgC]
          refine ⟨⟨.inr trivial, .inr ((ext_live _ _).live _ hq), ⟨.inr (live_last _ _), .inl trivial⟩, by rw [hle]; omega⟩, ?_⟩
          refine z1 (y + 1, .sl false (.own (t.live ++ [true]).length) 2 (spsV (D ++ [s]))) _ _ (.inr ?_) (by simp only; omega) ⟨by simp only; omega, ext_kill (ext_push f2) (by omega), ?_, .inr ⟨_, by simp only [hfs], live_last' _ _ _, by simp; omega⟩⟩
          · simp -implicitDefEqProofs only [go_sem, Nat.reduceBEq, Nat.reduceAdd, eq_self, true_and, and_true, and_self, List.getElem?_cons_zero, List.getElem?_cons_succ, Nat.reduceLeDiff, Nat.zero_add, Nat.reduceSub, Nat.le_refl, cgC]
            rw [hap]
            try exact ⟨rfl, rfl⟩
            try exact rfl
          · show (kill (t.live ++ [true]) (.own q) ++ [true])[σ.live.length]? = some true
            simp only [kill]
            rw [List.getElem?_append_left (by simp; omega), List.getElem?_set_ne (by omega), List.getElem?_append_left hl3]
            exact f3
      · rw [hok] at hfs
        rw [h2] at hse
        simp only [Bool.true_and, Bool.not_true, cond_false, List.append_nil] at hfs
        simp -implicitDefEqProofs only [go_sem, Nat.reduceBEq, Nat.reduceAdd, eq_self, true_and, and_true, and_self, List.getElem?_cons_zero, List.getElem?_cons_succ, Nat.reduceLeDiff, Nat.zero_add, Nat.reduceSub, Nat.le_refl, hse, Bool.not_true, hwy, cgC]
        refine z1 (y + 1, w) _ _ (.inr ?_) (by simp only; omega) ⟨by simp only; omega, f2, f3, by simp only [hfs]; exact f4⟩
        simp -implicitDefEqProofs only [go_sem, Nat.reduceBEq, Nat.reduceAdd, eq_self, true_and, and_true, and_self, List.getElem?_cons_zero, List.getElem?_cons_succ, Nat.reduceLeDiff, Nat.zero_add, Nat.reduceSub, Nat.le_refl, cgC]
        try exact rfl
  · have hi : ¬ y < 3 := by have := of_decide_eq_false hcc; omega
    rw [List.take_of_length_le (by omega)] at f4
    have hfl := List.length_filter_le (okN g) (baseN g)
    simp -implicitDefEqProofs only [go_sem, Nat.reduceBEq, Nat.reduceAdd, eq_self, true_and, and_true, and_self, List.getElem?_cons_zero, List.getElem?_cons_succ, Nat.reduceLeDiff, Nat.zero_add, Nat.reduceSub, Nat.le_refl, Nat.lt_irrefl]
    refine z2 _ _ _ ?_
    have hrd : RdS t w 2 (spsV ((baseN g).filter (okN g))) := by
      rcases f4 with ⟨hD, rfl⟩ | ⟨q, rfl, hq, -⟩
      · rw [hD]; exact ⟨true, .pub, 2, rfl, fun _ => rfl, .inl rfl⟩
      · exact ⟨_, _, _, rfl, by simp, .inr ⟨hq, rfl⟩⟩
    simp -implicitDefEqProofs only [go_sem, Nat.reduceBEq, Nat.reduceAdd, eq_self, true_and, and_true, and_self, List.getElem?_cons_zero, List.getElem?_cons_succ, Nat.reduceLeDiff, Nat.zero_add, Nat.reduceSub, Nat.le_refl, Nat.lt_irrefl]
    refine call_at (sort_ok hrd (by omega)) ?_
    rintro _ t2 ⟨e2, q, m, rfl, hq, hql, hs, hm, hm3⟩
    refine ⟨kept_none, ?_⟩
    simp -implicitDefEqProofs only [go_sem, Nat.reduceBEq, Nat.reduceAdd, eq_self, true_and, and_true, and_self, List.getElem?_cons_zero, List.getElem?_cons_succ, Nat.reduceLeDiff, Nat.zero_add, Nat.reduceSub, Nat.le_refl, Nat.lt_irrefl]
    refine q2 _ _ ?_
    simp -implicitDefEqProofs only [go_sem, Nat.reduceBEq, Nat.reduceAdd, eq_self, true_and, and_true, and_self, List.getElem?_cons_zero, List.getElem?_cons_succ, Nat.reduceLeDiff, Nat.zero_add, Nat.reduceSub, Nat.le_refl, Nat.lt_irrefl]
    exact ⟨f2.trans e2, q, m, rfl, hq, by have := f2.llen; omega, ⟨hs, hm⟩, hm3⟩
end
end Go.VL.opl

namespace Go.VL.opl
open Go Go.VL Go.Proofs Go.IntWalk Go.VL.st Go.VL.row

def stepN (s : Sp) (o : List Sp × Bool) (x : Sp) : List Sp × Bool := bif !o.2 && st.less s x then (o.1 ++ [s] ++ [x], true) else (o.1 ++ [x], o.2)
def outN (s : Sp) (l : List Sp) : List Sp × Bool := l.foldl (stepN s) ([], false)
structure OutI (s : Sp) (l : List Sp) : Prop where
  srt : (outN s l).1.Pairwise fun a b => st.less a b = true
  mem : ∀ y, y ∈ (outN s l).1 ↔ y ∈ l ∨ ((outN s l).2 = true ∧ y = s)
  bef : (outN s l).2 = false → ∀ y ∈ l, st.less y s = true
  aft : (outN s l).2 = true → ∃ y ∈ l, st.less s y = true

namespace Go.VL.opl
open Go Go.VL Go.Proofs Go.IntWalk Go.VL.st Go.VL.row

theorem spsV_snoc (l : List Sp) (s : Sp) : spsV (l ++ [s]) = spsV l ++ [[.int .i64 s.c, .int .i64 s.r]] := by simp [spsV, spC]
section
variable {σ : St} {v d : V} {l : List Sp} {s : Sp} {g : Cg}
end
end Go.VL.opl

namespace Go.VL.opl
open Go Go.VL Go.Proofs
/-- (*topiary/oplog.Log).Add: 2 parameters, 90 slots. -/
def d14 : C :=
  .seq (.ops [⟨none, .bxL 3 (.t 1)⟩,
    ⟨none, .mv 4 (.c (.int .i64 0))⟩])
  (.seq (.seq (.ops [⟨none, .ld 11 (.t 3) 13 true⟩,
    ⟨none, .ca (some 12) 47 [(.t 11)]⟩,
    ⟨none, .mv 5 (.t 12)⟩])
  (.seq (.ops [⟨none, .mv 13 (.t 5)⟩,
    ⟨none, .bi 14 .neq (.t 13) (.c (.int .i64 0))⟩])
  (.cond (.t 14) (.seq (.ops [⟨none, .mv 15 (.t 5)⟩,
      ⟨none, .mv 4 (.t 15)⟩])
    (.ret))
    (.skip))))
  (.seq (.ops [⟨none, .mv 16 (.t 0)⟩,
    ⟨none, .mv 6 (.t 16)⟩])
  (.cut (.seq (.ops [⟨none, .mv 17 (.t 0)⟩,
    ⟨none, .bq 18 false .ptr (.t 17) (.c (.ptr none))⟩])
  (.cond (.t 18) (.ops [⟨none, .bld 19 [.int .i64 0, .sl true .pub 0 [], .map none, .sl true .pub 0 [], .sl true .pub 0 [], .sl true .pub 0 [], .sl true .pub 0 [], .sl true .pub 0 [], .sl true .pub 0 [], .sl true .pub 0 [], .sl true .pub 0 [], .sl true .pub 0 [], .sl true .pub 0 [], .sl true .pub 0 [], .sl true .pub 0 [], .sl true .pub 0 [], .sl true .pub 0 [], .sl true .pub 0 [], .sl true .pub 0 [], .sl true .pub 0 [], .sl true .pub 0 [], .sl true .pub 0 [], .sl true .pub 0 [], .sl true .pub 0 [], .sl true .pub 0 [], .sl true .pub 0 [], .sl true .pub 0 [], .sl true .pub 0 [], .sl true .pub 0 [], .sl true .pub 0 [], .sl true .pub 0 [], .sl true .pub 0 [], .sl true .pub 0 [], .sl true .pub 0 [], .sl true .pub 0 [], .sl true .pub 0 [], .sl true .pub 0 [], .sl true .pub 0 [], .sl true .pub 0 [], .sl true .pub 0 [], .sl true .pub 0 [], .sl true .pub 0 [], .sl true .pub 0 [], .sl true .pub 0 [], .sl true .pub 0 [], .sl true .pub 0 [], .sl true .pub 0 [], .sl true .pub 0 [], .sl true .pub 0 [], .sl true .pub 0 [], .sl true .pub 0 [], .sl true .pub 0 [], .sl true .pub 0 [], .sl true .pub 0 [], .sl true .pub 0 [], .sl true .pub 0 [], .sl true .pub 0 [], .sl true .pub 0 [], .sl true .pub 0 [], .sl true .pub 0 [], .sl true .pub 0 [], .sl true .pub 0 [], .sl true .pub 0 [], .sl true .pub 0 [], .sl true .pub 0 [], .sl true .pub 0 [], .sl true .pub 0 []] []⟩,
      ⟨none, .bxH 20 (.t 19)⟩,
      ⟨none, .mv 6 (.t 20)⟩])
    (.skip)))
  (.seq (.seq (.ops [⟨none, .mv 21 (.t 6)⟩,
    ⟨none, .ld 22 (.t 3) 13 true⟩,
    ⟨none, .ca (some 23) 48 [(.t 21), (.t 22)]⟩,
    ⟨none, .mv 7 (.t 23)⟩])
  (.seq (.ops [⟨none, .mv 24 (.t 7)⟩,
    ⟨none, .bi 25 .neq (.t 24) (.c (.int .i64 0))⟩])
  (.cond (.t 25) (.seq (.ops [⟨none, .mv 26 (.t 7)⟩,
      ⟨none, .mv 4 (.t 26)⟩])
    (.ret))
    (.skip))))
  (.seq (.seq (.ops [⟨none, .mv 27 (.t 6)⟩,
    ⟨none, .ld 28 (.t 3) 13 true⟩,
    ⟨none, .ca (some 29) 49 [(.t 27), (.t 28)]⟩,
    ⟨none, .mv 8 (.t 29)⟩])
  (.seq (.ops [⟨none, .mv 30 (.t 8)⟩,
    ⟨none, .bi 31 .neq (.t 30) (.c (.int .i64 0))⟩])
  (.cond (.t 31) (.seq (.ops [⟨none, .mv 32 (.t 8)⟩,
      ⟨none, .mv 4 (.t 32)⟩])
    (.ret))
    (.skip))))
  (.seq (.seq (.opsD [⟨none, .mv 33 (.t 6)⟩,
    ⟨none, .nc 34 (.t 33)⟩,
    ⟨none, .fa 35 (.t 34) 1⟩,
    ⟨none, .ld 36 (.t 35) 1 false⟩,
    ⟨none, .ln 37 .sl (.t 36)⟩,
    ⟨none, .mv 38 (.t 6)⟩,
    ⟨none, .nc 39 (.t 38)⟩,
    ⟨none, .fa 40 (.t 39) 0⟩,
    ⟨none, .ld 41 (.t 40) 1 false⟩,
    ⟨none, .bi 42 .geq (.t 37) (.t 41)⟩])
  (.cond (.t 42) (.seq (.ops [⟨none, .mv 4 (.c (.int .i64 6))⟩])
    (.ret))
    (.skip)))
  (.seq (.ops [⟨none, .mv 44 (.t 6)⟩,
    ⟨none, .fa 45 (.t 3) 0⟩,
    ⟨none, .ld 46 (.t 45) 2 true⟩,
    ⟨none, .ca (some 47) 50 [(.t 44), (.t 46)]⟩,
    ⟨none, .mv 43 (.t 47)⟩,
    ⟨none, .ex 48 (.t 43) 0⟩,
    ⟨none, .ex 49 (.t 43) 1⟩,
    ⟨none, .mv 9 (.t 48)⟩,
    ⟨none, .mv 10 (.t 49)⟩])
  (.seq (.opsD [⟨none, .mv 50 (.t 6)⟩,
    ⟨none, .mv 51 (.t 6)⟩,
    ⟨none, .nc 52 (.t 51)⟩,
    ⟨none, .fa 53 (.t 52) 1⟩,
    ⟨none, .ld 54 (.t 53) 1 false⟩,
    ⟨none, .mv 55 (.t 9)⟩,
    ⟨none, .ld 56 (.t 3) 13 true⟩,
    ⟨none, .ca (some 57) 45 [(.t 56)]⟩,
    ⟨none, .lit 58 13 [(.t 57)]⟩,
    ⟨none, .ca (some 59) 51 [(.t 54), (.t 55), (.t 58)]⟩,
    ⟨none, .nc 60 (.t 50)⟩,
    ⟨none, .fa 61 (.t 60) 1⟩,
    ⟨none, .st (.t 61) (.t 59) 1⟩])
  (.seq (.opsD [⟨none, .mv 62 (.t 6)⟩,
    ⟨none, .nc 63 (.t 62)⟩,
    ⟨none, .fa 64 (.t 63) 2⟩,
    ⟨none, .ld 65 (.t 64) 1 false⟩,
    ⟨none, .fa 66 (.t 3) 0⟩,
    ⟨none, .ld 67 (.t 66) 2 true⟩,
    ⟨none, .fa 68 (.t 3) 2⟩,
    ⟨none, .ld 69 (.t 68) 1 false⟩,
    ⟨none, .bld 70 [.int .i64 0] [(0, 1, (.t 69))]⟩,
    ⟨none, .mu [.agg, .int .i64, .int .i64] (.t 65) (.t 67) (.t 70)⟩])
  (.seq (.opsD [⟨none, .mv 71 (.t 6)⟩,
    ⟨none, .fa 72 (.t 3) 0⟩,
    ⟨none, .fa 73 (.t 72) 1⟩,
    ⟨none, .ld 74 (.t 73) 1 false⟩,
    ⟨none, .mv 75 (.t 6)⟩,
    ⟨none, .fa 76 (.t 3) 0⟩,
    ⟨none, .fa 77 (.t 76) 1⟩,
    ⟨none, .ld 78 (.t 77) 1 false⟩,
    ⟨none, .nc 79 (.t 75)⟩,
    ⟨none, .fa 80 (.t 79) 3⟩,
    ⟨none, .iA 81 (.t 80) (.t 78) 1 64⟩,
    ⟨none, .ld 82 (.t 81) 1 false⟩,
    ⟨none, .fa 83 (.t 3) 0⟩,
    ⟨none, .ld 84 (.t 83) 2 true⟩,
    ⟨none, .nc 87 (.t 71)⟩,
    ⟨none, .fa 88 (.t 87) 3⟩,
    ⟨none, .lit 85 2 [(.t 84)]⟩,
    ⟨none, .ao 86 2 true (.t 82) (.t 85)⟩,
    ⟨none, .iA 89 (.t 88) (.t 74) 1 64⟩,
    ⟨none, .st (.t 89) (.t 86) 1⟩])
  (.seq (.ops [⟨none, .mv 4 (.c (.int .i64 0))⟩])
  (.ret))))))))))))
theorem dcomp14 : compFn Try.prog [3, 5000086] Try.f14 = some ([.t 4], d14) := by kernel_rfl
/-- (*topiary/oplog.Log).Clone: 1 parameters, 71 slots. -/
end Go.VL.opl

namespace Go.Proofs
open Go.Shelf Go.RowKit Go.Lib

namespace Go.Proofs
open Go.Shelf Go.RowKit Go.Lib Go.VL

section
variable {P : Program} {w : World}
theorem run_appK_room {t ty e : TypeId} {i : TypeInfo} (ht : P.underlying t = some (.slice e)) (hi : P.info? e = some i) {b off n c m : Nat} {y : Value} (hl : (Builtin.lenOf y).run P w = .ok m w)
    {xs : List Value} (hxs : (Builtin.firstCells i.size m y).run P w = .ok xs.toArray w) (hroom : n + m ≤ c) {w' : World} (hst : (storeCells ⟨b, off + n * i.size, none⟩ xs).run P w = .ok () w') :
    (Builtin.append_ #[t, t] ty #[.slice (some ⟨b, off, none⟩) n c, y]).run P w = .ok (.slice (some ⟨b, off, none⟩) (n + m) c) w' := by
  have hsz : szOf P e = some i.size := by simp [szOf, hi]
  simp [Builtin.append_, run_underlying ht, Go.VL.run_sizeOf hsz, hl, hxs, hroom, add_none, hst]
theorem run_appK_grow {t ty e : TypeId} {i : TypeInfo} {zv : Value} (ht : P.underlying t = some (.slice e)) (hi : P.info? e = some i) (hzv : i.zero = some zv) (hbytes : i.bytes ≤ 65536) {base : Option Addr} {n c m : Nat} {y : Value}
    (hl : (Builtin.lenOf y).run P w = .ok m w) {xs os : List Value} (hxs : (Builtin.firstCells i.size m y).run P w.drew = .ok xs.toArray w.drew) (hos : (Builtin.firstCells i.size n (.slice base n c)).run P w.drew = .ok os.toArray w.drew)
    (hroom : ¬ n + m ≤ c) (hbig : n + m ≤ 1073741824) :
    ∃ nc, n + m ≤ nc ∧ nc ≤ 9223372036854775807 ∧ ∀ ty, (Builtin.append_ #[t, t] ty #[.slice base n c, y]).run P w = .ok (.slice (some ⟨w.heap.size, 0, none⟩) (n + m) nc) (pushed w.drew (.cells (os.toArray ++ (xs.toArray ++ Builtin.zeroCells zv.cells (nc - (n + m)))) e)) := by
  have hsz : szOf P e = some i.size := by simp [szOf, hi]
  refine ⟨(Question.appendCap (n + m) c e).cut (w.tape w.drawn (.appendCap (n + m) c e)), by simp only [Question.cut]; omega, ?_, fun ty => ?_⟩
  · have := grownCap_le_maxLen w (n + m) c e (by unfold maxLen; omega)
    unfold grownCap maxLen at this
    exact this
  have hn := nextcap_le (n + m) c (by omega)
  have hb : ¬ (Builtin.nextslicecap (n + m) c * i.bytes > 2 ^ 48) := by
    have : Builtin.nextslicecap (n + m) c * i.bytes ≤ 4294967296 * 65536 := Nat.mul_le_mul (by omega) hbytes
    omega
  have hq : (Question.appendCap (n + m) c e).forced = false := rfl
  simp [Builtin.append_, run_underlying ht, Go.VL.run_sizeOf hsz, hl, hroom, Go.VL.run_typeInfo hi]
  have hm : ¬ (9223372036854775807 < (n : Int) + (m : Int) ∧ i.bytes = 0) := by omega
  have hb' : ¬ (281474976710656 < Builtin.nextslicecap (n + m) c * i.bytes) := by omega
  rw [if_neg hm, if_neg hb', hq]
  simp [hos, hxs, run_zeroValue hi hzv, newRow]
  rfl
end

set_option maxHeartbeats 4000000 in
set_option maxRecDepth 100000 in
theorem insEnd (base : Option Addr) (n c vb voff m vc : Nat) (w w' : World) (v' : Value) (hm : 0 < m) (hrun : ∀ ty, (Builtin.append_ #[22, 22] ty #[.slice base n c, .slice (some ⟨vb, voff, none⟩) m vc]).run Try.prog w = .ok v' w') :
    Calls Try.prog 51 #[.slice base n c, .int .i64 n, .slice (some ⟨vb, voff, none⟩) m vc] w fun e W => e = .returned v' ∧ W = w' := by
  have mixed : Try.prog.follows .mixedOrders = true := by kernel_rfl
  have hz1 : ¬ ((m : Int) = 0) := by omega
  go_enter Try.func51, Try.ntmps51
  cases base with
  | none =>
    go_wp2_with (at_builtin; refine Lib.wpList_append_run _ rfl _ _ _ _ rfl _ _ rfl rfl _ _ (hrun _) ?_)
    go_ret
    exact ⟨rfl, rfl⟩
  | some a =>
    obtain ⟨ab, ao, asp⟩ := a
    go_wp2_with (at_builtin; refine Lib.wpList_append_run _ rfl _ _ _ _ rfl _ _ rfl rfl _ _ (hrun _) ?_)
    all_goals (go_ret; exact ⟨rfl, rfl⟩)
end Go.Proofs

namespace Go.VL.opl
open Go Go.VL Go.Proofs Go.VL.row

section
variable {σ : St} {s : V} {es : List (List V)} {i r : Nat} {x : List V}
set_option maxHeartbeats 1000000 in
theorem ins_ok (hs : RowOf σ s 13 es) (hin : i ≤ es.length) (hlen : es.length ≤ 100000000) (hlive : σ.live[r]? = some true) (hx : x.length = 13) :
    CallA Try.prog 51 [s, .int .i64 i, .sl false (.own r) 13 [x]] σ fun v σ' => RowOf σ' v 13 (es.take i ++ x :: es.drop i) ∧ RowTo σ s σ' ∧ ∃ j cap, v = .osl j (es.length + 1) cap 13 ∧ ((∃ n' cap', s = .osl j n' cap' 13) ∨ σ.objs.length ≤ j) := by
  refine ⟨⟨Try.f51, Try.func51, rfl, by kernel_rfl⟩, fun γ w vs hi hr => ?_⟩
  simp only [RepL] at hr
  obtain ⟨v1, _, rfl, hv1, v2, _, rfl, hv2, v3, _, rfl, hv3, rfl⟩ := hr
  simp only [Rep] at hv2 hv3
  subst hv2
  obtain ⟨a, cap3, rfl, hsp, hcap3, hrho⟩ := hv3
  obtain ⟨vb, voff, sp⟩ := a
  simp only at hsp
  subst hsp
  obtain ⟨a', cap', e0, -, h3, h4, h5, h6, c3, e3, z3, vs3, h7, h8, h9, ⟨h10, h12⟩, h11⟩ := hi.own _ _ _ _ hlive hrho
  cases e0
  simp only [List.length_cons, List.length_nil, Nat.zero_add] at h3 h4 h5 h6 h7 h8 h10 h11 hcap3
  have hvl : vs3.length = 13 := by have := h9.length; simpa using this
  have hx3 : RepL γ x vs3 := by have := h9.flat.1; simpa using this
  have h1v := h9.one
  have hvs : ∀ (j : Nat) (v : Value), vs3[j]? = some v → w.cell? ⟨vb, voff + j, none⟩ = some v := fun j v hj => by rw [cell_of_heap h7]; exact h8 j v hj
  have hfr : ∀ (w' : World), w'.heap = w.heap → (Builtin.firstCells 13 1 (.slice (some ⟨vb, voff, none⟩) 1 cap3)).run Try.prog w' = .ok vs3.toArray w' := fun w' hw' => by
    have hc7 : w'.heap[vb]? = some (.cells c3 e3 z3) := by rw [hw']; exact h7
    simp only [Builtin.firstCells]
    rw [run_loadCells (P := Try.prog) (w := w') (vs := vs3) (fun j v hj => by rw [cell_of_heap hc7]; exact h8 j v hj) (by omega), List.take_of_length_le (by omega)]
  obtain ⟨zv, hzv⟩ : ∃ zv, Try.t37.zero = some zv := Option.isSome_iff_exists.1 (by kernel_rfl)
  have hi71 : Try.prog.info? 37 = some Try.t37 := by kernel_rfl
  have hsz71 : Try.t37.size = 13 := by kernel_rfl
  have hby71 : Try.t37.bytes ≤ 65536 := by decide +kernel
  have hl3 : (Builtin.lenOf (.slice (some ⟨vb, voff, none⟩) 1 cap3)).run Try.prog w = .ok 1 w := by simp [Builtin.lenOf]
  have hzc : zv.cells.size = 13 := by
    have h2 : (Try.t37.zero.map fun z => z.cells.size) = some 13 := by kernel_rfl
    rw [hzv] at h2
    simpa using h2
  -- a new block behind append
  have grow : ∀ (base : Option Addr) (cp : Nat) (os : List Value), i = es.length → (Builtin.firstCells 13 es.length (.slice base es.length cp)).run Try.prog w.drew = .ok os.toArray w.drew → RepL γ es.flatten os → (∀ v ∈ os, v.oneCell' = true) → (∀ y ∈ es, y.length = 13) → ¬ es.length + 1 ≤ cp →
      Calls Try.prog 51 #[.slice base es.length cp, .int .i64 i, .slice (some ⟨vb, voff, none⟩) 1 cap3] w fun e w' => ∃ v x' σ' γ', e = .returned v ∧ Le γ γ' ∧ INV γ' σ' w' ∧ Rep γ' x' v ∧ (RowOf σ' x' 13 (es.take i ++ x :: es.drop i) ∧ RowTo σ s σ' ∧ ∃ j cap, x' = .osl j (es.length + 1) cap 13 ∧ ((∃ n' cap', s = .osl j n' cap' 13) ∨ σ.objs.length ≤ j)) := by
    intro base cp os hie hos hros hone hz hroom
    subst hie
    obtain ⟨nc, hnc, hnc2, hrun⟩ := run_appK_grow (P := Try.prog) (w := w) (t := 22) (ty := 22) Try.underlying22 hi71 hzv hby71 hl3 (by rw [hsz71]; exact hfr _ rfl) (by rw [hsz71]; exact hos) hroom (by omega)
    refine (insEnd base es.length cp vb voff 1 cap3 w _ _ (by omega) hrun).mono ?_
    rintro e w' ⟨rfl, rfl⟩
    have hol := hros.length
    have hfl := flat_len' hz
    have hes : (es.take es.length ++ x :: es.drop es.length).flatten = es.flatten ++ x := by simp
    refine row_new (s := s) hi ((But.drew w).trans (.push w.drew _)) (heap_push w.drew _) (vs := os ++ vs3) (fun j v hj => ?_) (by rw [hes]; exact hros.append hx3) (fun v hv => ?_) ?_ (fun y hy => ?_) (by simp) hnc ?_
    · exact eq_prefix (r := (Builtin.zeroCells zv.cells (nc - (es.length + 1))).toList) (by simp) j v hj
    · rcases List.mem_append.1 hv with hv | hv
      · exact hone v hv
      · exact h1v v hv
    · refine ⟨?_, hnc2⟩
      simp only [Array.size_append, List.size_toArray, zeroCells_size, hzc]
      omega
    · simp only [List.take_length, List.drop_length, List.mem_append, List.mem_singleton] at hy
      rcases hy with hy | hy
      · exact hz y hy
      · rw [hy]; exact hx
    · rw [hes, List.length_append, hfl, hx]; omega
  rcases hs with ⟨R, q, rfl, rfl⟩ | ⟨j, cap, rfl, ho, hz, hcap⟩
  · simp only [Rep] at hv1
    obtain ⟨-, rfl⟩ := hv1
    have hi0 : i = 0 := by simpa using hin
    subst hi0
    exact grow none 0 [] rfl (by simp [Builtin.firstCells]) (by simp [RepL]) (by simp) (by simp) (by simp)
  simp only [Rep] at hv1
  obtain ⟨b, hb, rfl⟩ := hv1
  obtain ⟨p1, p2, vs, c, e, z, k1, k2, k3, k4, k5, k6, k7⟩ := hi.objs _ _ _ hb ho
  have hfl := flat_len' hz
  have hvsl : vs.length = es.length * 13 := by rw [← k3.length, hfl]
  have hold : (Builtin.firstCells 13 es.length (.slice (some ⟨b, 0, none⟩) es.length cap)).run Try.prog w.drew = .ok vs.toArray w.drew := by
    have hc7 : w.drew.heap[b]? = some (.cells c e z) := k1
    simp only [Builtin.firstCells]
    rw [run_loadCells (P := Try.prog) (w := w.drew) (vs := vs) (fun j v hj => by rw [cell_of_heap hc7, Nat.zero_add]; exact k2 j v hj) (by omega), List.take_of_length_le (by omega)]
  by_cases hie : i = es.length
  · by_cases hroom : es.length + 1 ≤ cap
    · subst hie
      obtain ⟨w', r1, r2, c', r3, r4⟩ := run_storeCells (P := Try.prog) vs3 w b (0 + es.length * Try.t37.size) 0 c e z k1 (by rw [hsz71]; omega) (fun q h1 h2 => k6 q (by rw [hsz71] at h2; omega)) h1v
      refine (insEnd (some ⟨b, 0, none⟩) es.length cap vb voff 1 cap3 w _ _ (by omega) fun ty => run_appK_room (P := Try.prog) (ty := ty) Try.underlying22 hi71 hl3 (by rw [hsz71]; exact hfr w rfl) hroom r1).mono ?_
      rintro e' W ⟨rfl, rfl⟩
      have hes : (es.take es.length ++ x :: es.drop es.length).flatten = es.flatten ++ x := by simp
      have hcv := prefix_eq k2
      rw [hsz71, Nat.zero_add, Nat.add_zero, ← hvsl] at r4
      have hpre : c'.toList = (vs ++ vs3) ++ c.toList.drop (vs.length + vs3.length) := by
        rw [r4]
        conv => lhs; rw [hcv]
        simp
        try rw [← hcv]
      have hsize : c'.size = c.size := by
        have := congrArg List.length r4
        simp only [Array.length_toList, List.length_append, List.length_take, List.length_drop] at this
        omega
      have hjl : j < σ.objs.length := (List.getElem?_eq_some_iff.1 ho).1
      refine row_set (n0 := es.length) hi hb hjl r2 r3 (vs := vs ++ vs3) (fun q v hq => eq_prefix hpre q v hq) (by rw [hes]; exact k3.append hx3) (fun v hv => ?_) ⟨by rw [hsize]; exact k4.1, k4.2⟩ k6 (fun y hy => ?_) (by simp) hroom ?_
      · rcases List.mem_append.1 hv with hv | hv
        · exact k7 v hv
        · exact h1v v hv
      · simp only [List.take_length, List.drop_length, List.mem_append, List.mem_singleton] at hy
        rcases hy with hy | hy
        · exact hz y hy
        · rw [hy]; exact hx
      · rw [hes, List.length_append, hfl, hx]; omega
    · exact grow (some ⟨b, 0, none⟩) cap vs hie hold k3 k7 hz hroom
  · have hlt : i < es.length := by omega
    have hbv : vb ≠ b := fun h => h6 (h ▸ mem_of_get hb)
    have hl13 : vs3.length = 1 * 13 := by omega
    have hfes : (es.take i ++ x :: es.drop i).flatten = es.flatten.take (i * 13) ++ x ++ es.flatten.drop (i * 13) := by
      rw [List.flatten_append, List.flatten_cons, flat_take i hz, flat_drop i hz, List.append_assoc]
    have hnes : (es.take i ++ x :: es.drop i).length = es.length + 1 := by simp; omega
    have hzes : ∀ y ∈ es.take i ++ x :: es.drop i, y.length = 13 := fun y hy => by
      rcases List.mem_append.1 hy with hy | hy
      · exact hz y (List.mem_of_mem_take hy)
      · rcases List.mem_cons.1 hy with hy | hy
        · rw [hy]; exact hx
        · exact hz y (List.mem_of_mem_drop hy)
    have hc0 : ∀ (q : Nat) (v : Value), vs[q]? = some v → w.cell? ⟨b, 0 + q, none⟩ = some v := fun q v hq => by rw [cell_of_heap k1, Nat.zero_add]; exact k2 q v hq
    by_cases hroom : es.length + 1 ≤ cap
    · have hcs : (es.length + 1) * 13 ≤ c.size := by have := k4.1; omega
      have hsh := insShift b 0 es.length cap i vb voff 1 cap3 vs vs3 w hlt (by omega) hroom k4.2 hbv hvsl hl13 hc0
        (fun q hq => by rw [cell_of_heap k1, Nat.zero_add, Array.getElem?_eq_getElem (by omega)]; rfl)
        (fun q hq => by have := k6 q (by omega); simp only [World.frozen?, k1, Nat.zero_add, Bool.and_eq_false_iff, decide_eq_false_iff_not]; omega)
        hvs k7 h1v e3 e c3.size c.size (by simp [World.shape?, h7]) (by simp [World.shape?, k1]) (by omega)
        (by have := h11 voff (by omega) (by omega); simp only [World.frozen?, h7, Bool.and_eq_false_iff, decide_eq_false_iff_not]; omega)
        (by have := h12.resolve_right (by decide); simp only [World.frozen?, h7, Bool.and_eq_false_iff, decide_eq_false_iff_not]; omega)
      refine hsh.mono ?_
      rintro e' W ⟨rfl, rfl⟩
      have hvd : (vs.drop (i * 13)).length = vs.length - i * 13 := List.length_drop
      obtain ⟨b1, c1, r1, r2⟩ := setCells_ok (vs.drop (i * 13)) w.drew b (0 + (i + 1) * 13) c e z k1 (by rw [hvd]; omega)
      have hs1 : c1.size = c.size := by
        have := congrArg List.length r2
        simp only [Array.length_toList, List.length_append, List.length_take, List.length_drop] at this
        omega
      obtain ⟨b2, c2, r3, r4⟩ := setCells_ok vs3 _ b (0 + i * 13) c1 e z r1 (by rw [hvl, hs1]; omega)
      have hs2 : c2.size = c.size := by
        have := congrArg List.length r4
        simp only [Array.length_toList, List.length_append, List.length_take, List.length_drop] at this
        omega
      have hcv := prefix_eq k2
      have hE := mid_eq (z := 13) (l := c.toList) (vs := vs) (x := vs3) hcv (i * 13) ((i + 1) * 13) (by omega) (by omega) (by simp only [Array.length_toList]; omega)
      rw [Nat.zero_add] at r2 r4
      rw [r2, show i * 13 + vs3.length = (i + 1) * 13 from by omega, hE] at r4
      have hjl : j < σ.objs.length := (List.getElem?_eq_some_iff.1 ho).1
      refine row_set (n0 := es.length) hi hb hjl (((But.drew w).some _).trans (b1.trans b2)) r3 (vs := vs.take (i * 13) ++ vs3 ++ vs.drop (i * 13)) (fun q v hq => eq_prefix r4 q v hq) (by rw [hfes]; exact (k3.take.append hx3).append k3.drop) (fun v hv => ?_) ⟨by rw [hs2]; exact k4.1, k4.2⟩ k6 hzes hnes hroom ?_
      · rcases List.mem_append.1 hv with hv | hv
        · rcases List.mem_append.1 hv with hv | hv
          · exact k7 v (List.mem_of_mem_take hv)
          · exact h1v v hv
        · exact k7 v (List.mem_of_mem_drop hv)
      · rw [hfes]; simp only [List.length_append, List.length_take, List.length_drop, hfl, hx]; omega
    · have hgr := insGrow b 0 es.length cap i vb voff 1 cap3 vs vs3 w hlt (by omega) hcap (by omega) (by omega) hvsl hl13 hc0 hvs k7 h1v zv hzv
      refine hgr.mono ?_
      rintro e' W ⟨rfl, rfl⟩
      have hG := grownCap_ge w (es.length + 1) cap 37
      have hG63 := grownCap_le_maxLen w (es.length + 1) cap 37 (by unfold maxLen; omega)
      unfold maxLen at hG63
      generalize grownCap w (es.length + 1) cap 37 = G at hG hG63
      obtain ⟨ROW, hROW⟩ : ∃ ROW : Array Value, ROW = (vs.take (i * 13)).toArray ++ Builtin.zeroCells zv.cells (es.length + 1 - i) ++ Builtin.zeroCells zv.cells (G - (es.length + 1)) := ⟨_, rfl⟩
      rw [← hROW]
      have hRs : ROW.size = G * 13 := by
        rw [hROW]
        simp only [Array.size_append, List.size_toArray, List.length_take, zeroCells_size, hzc]
        omega
      have hRt : ROW.toList.take (i * 13) = vs.take (i * 13) := by
        rw [hROW, Array.toList_append, Array.toList_append, List.append_assoc, List.take_append_of_le_length (by simp only [List.length_take]; omega), List.take_of_length_le (by simp only [List.length_take]; omega)]
      obtain ⟨b1, c1, r1, r2⟩ := setCells_ok vs3 (w.alloc (.cells ROW 37)).drew w.heap.size (i * 13) ROW 37 (0, 0) (heap_push w _) (by rw [hvl, hRs]; omega)
      have hs1 : c1.size = ROW.size := by
        have := congrArg List.length r2
        simp only [Array.length_toList, List.length_append, List.length_take, List.length_drop] at this
        omega
      have hvd : (vs.drop (i * 13)).length = vs.length - i * 13 := List.length_drop
      obtain ⟨b2, c2, r3, r4⟩ := setCells_ok (vs.drop (i * 13)) (((w.alloc (.cells ROW 37)).drew.setCells w.heap.size (i * 13) vs3).drew) w.heap.size ((i + 1) * 13) c1 37 (0, 0) r1 (by rw [hvd, hs1, hRs]; omega)
      have hs2 : c2.size = ROW.size := by
        have := congrArg List.length r4
        simp only [Array.length_toList, List.length_append, List.length_take, List.length_drop] at this
        omega
      rw [hRt] at r2
      have hT : c1.toList.take ((i + 1) * 13) = vs.take (i * 13) ++ vs3 := by
        rw [r2, List.take_append_of_le_length (by simp only [List.length_append, List.length_take]; omega), List.take_of_length_le (by simp only [List.length_append, List.length_take]; omega)]
      rw [hT] at r4
      have hbut : But none w ((((w.alloc (.cells ROW 37)).drew.setCells w.heap.size (i * 13) vs3).drew).setCells w.heap.size ((i + 1) * 13) (vs.drop (i * 13))) := by
        have h1 : But (some w.heap.size) w ((((w.alloc (.cells ROW 37)).drew.setCells w.heap.size (i * 13) vs3).drew).setCells w.heap.size ((i + 1) * 13) (vs.drop (i * 13))) :=
          (((But.push w _).trans (But.drew _)).some _).trans (b1.trans (((But.drew _).some _).trans b2))
        exact but_new h1
      refine row_new (s := .osl j es.length cap 13) hi hbut r3 (vs := vs.take (i * 13) ++ vs3 ++ vs.drop (i * 13)) (fun q v hq => eq_prefix r4 q v hq) (by rw [hfes]; exact (k3.take.append hx3).append k3.drop) (fun v hv => ?_) ⟨by rw [hs2, hRs]; exact Nat.le_refl _, hG63⟩ hzes hnes (by omega) ?_
      · rcases List.mem_append.1 hv with hv | hv
        · rcases List.mem_append.1 hv with hv | hv
          · exact k7 v (List.mem_of_mem_take hv)
          · exact h1v v hv
        · exact k7 v (List.mem_of_mem_drop hv)
      · rw [hfes]; simp only [List.length_append, List.length_take, List.length_drop, hfl, hx]; omega
end
end Go.VL.opl

namespace Go.VL.opl
open Go Go.VL Go.Proofs Go.IntWalk Go.VL.st Go.VL.row

def isO (r n : Int) (g : Cg) : Bool := decide (g.ar = r) && decide (g.seq = n)
def isA (x : Sp) (g : Cg) : Bool := decide (atS g = x)
theorem map2_len {l : List (V × Cg)} : (l.map (·.2)).length = l.length := by simp
section
variable {σ : St} {v d f : V} {g h : Cg} {gs : List Cg} {x : Sp} {r n : Int} {l : List Int}
set_option maxRecDepth 100000 in
set_option maxHeartbeats 1000000 in
theorem pcopy_ok (hd : RdS σ d 1 (intsV .i64 g.deps)) (hlen : g.deps.length ≤ 1073741823) :
    CallA Try.prog 45 [cgV d g] σ fun w σ' => Ext σ σ' ∧ σ'.objs = σ.objs ∧ ∃ x, w = cgV x g ∧ NewS σ σ' x 1 (intsV .i64 g.deps) := by
  obtain ⟨b, R, z, rfl, -, -⟩ := id hd
  refine fn_at Try.func45 (by decide) comp45 rfl fun Q q1 q2 => ?_
  have hl := intsV_len g.deps
  have hr := rd_src (hd.ext (ext_live σ true))
  simp -implicitDefEqProofs only [go_sem, Nat.reduceBEq, Nat.reduceAdd, eq_self, true_and, and_true, and_self, List.getElem?_cons_zero, List.getElem?_cons_succ, Nat.reduceLeDiff, Nat.zero_add, Nat.reduceSub, Nat.le_refl, c45, cgV, cgC]
  refine ⟨⟨.inr trivial, .inr (live_last _ _), hr, by rw [hl]; omega⟩, ?_⟩
  refine q2 _ _ ?_
  simp -implicitDefEqProofs only [go_sem, Nat.reduceBEq, Nat.reduceAdd, eq_self, true_and, and_true, and_self, List.getElem?_cons_zero, List.getElem?_cons_succ, Nat.reduceLeDiff, Nat.zero_add, Nat.reduceSub, Nat.le_refl, Nat.lt_irrefl]
  refine ⟨ext_kill (ext_push (Ext.refl σ)) (Nat.le_refl _), _, rfl, ?_⟩
  refine ⟨_, rfl, live_last' _ _ _, by simp⟩
set_option maxRecDepth 100000 in
set_option maxHeartbeats 1000000 in
theorem equal_ok {u : V} {m : List Int} (hv : RdS σ v 1 (intsV .i64 l)) (hu : RdS σ u 1 (intsV .i64 m)) (hlen : l.length < 4611686018427387904) : CallA Try.prog 87 [v, u] σ fun w σ' => σ' = σ ∧ w = .bool (decide (l = m)) := by
  obtain ⟨b, R, z, rfl, -, -⟩ := id hv
  obtain ⟨b2, R2, z2, rfl, -, -⟩ := id hu
  refine fn_at Try.func87 (by decide) comp87 rfl fun Q q1 q2 => ?_
  have hl := intsV_len l
  have hm := intsV_len m
  simp -implicitDefEqProofs only [go_sem, Nat.reduceBEq, Nat.reduceAdd, eq_self, true_and, and_true, and_self, List.getElem?_cons_zero, List.getElem?_cons_succ, Nat.reduceLeDiff, Nat.zero_add, Nat.reduceSub, Nat.le_refl, c87, hl, hm]
  refine CondW_b (fun h => ?_) (fun h0 => ?_)
  · have : ¬ l = m := by rintro rfl; simp at h
    simp -implicitDefEqProofs only [go_sem, Nat.reduceBEq, Nat.reduceAdd, eq_self, true_and, and_true, and_self, List.getElem?_cons_zero, List.getElem?_cons_succ, Nat.reduceLeDiff, Nat.zero_add, Nat.reduceSub, Nat.le_refl, Nat.lt_irrefl]
    refine q2 _ _ ?_
    simp -implicitDefEqProofs only [go_sem, Nat.reduceBEq, Nat.reduceAdd, eq_self, true_and, and_true, and_self, List.getElem?_cons_zero, List.getElem?_cons_succ, Nat.reduceLeDiff, Nat.zero_add, Nat.reduceSub, Nat.le_refl, this, decide_false]
  have hlm : l.length = m.length := by have := h0; simp at this; omega
  simp -implicitDefEqProofs only [go_sem, Nat.reduceBEq, Nat.reduceAdd, eq_self, true_and, and_true, and_self, List.getElem?_cons_zero, List.getElem?_cons_succ, Nat.reduceLeDiff, Nat.zero_add, Nat.reduceSub, Nat.le_refl, hl, hm]
  refine loop_at (fun (i : Nat) => ⟨[(0, .v (.sl b R z (intsV .i64 l))), (1, .v (.sl b2 R2 z2 (intsV .i64 m))), (12, .v (.int .i64 l.length)), (13, .v (.int .i64 i))], []⟩) (fun i τ => τ = σ ∧ i ≤ l.length ∧ l.take i = m.take i) (fun i => l.length - i) 0 ?_ ?_ ?_
  · refine .inr ?_
    simp -implicitDefEqProofs only [go_sem, Nat.reduceBEq, Nat.reduceAdd, eq_self, true_and, and_true, and_self, List.getElem?_cons_zero, List.getElem?_cons_succ, Nat.reduceLeDiff, Nat.zero_add, Nat.reduceSub, Nat.le_refl, hl]
    exact rfl
  · exact ⟨rfl, Nat.zero_le _, by simp⟩
  rintro i τ ⟨hτ, g1, g2⟩ Z z1 z2 z3
  have hτ := hτ.symm
  subst hτ
  simp -implicitDefEqProofs only [go_sem, Nat.reduceBEq, Nat.reduceAdd, eq_self, true_and, and_true, and_self, List.getElem?_cons_zero, List.getElem?_cons_succ, Nat.reduceLeDiff, Nat.zero_add, Nat.reduceSub, Nat.le_refl, hl]
  refine CondW_b (fun hc => ?_) (fun hc => ?_)
  · have hi : i < l.length := by simpa using hc
    have hi2 : i < m.length := by omega
    have hget := intsV_get hi
    have hget2 := intsV_get hi2
    obtain ⟨k1, k2⟩ := rdl hv (intsV_ne hi)
    obtain ⟨k3, k4⟩ := rdl hu (intsV_ne hi2)
    have hb : (i : Int) < l.length := by omega
    have hb2 : (i : Int) < m.length := by omega
    have ht : ∀ x, l[i] = x → m[i] = x → l.take (i + 1) = m.take (i + 1) := fun x h1 h2 => by
      rw [List.take_succ_eq_append_getElem hi, List.take_succ_eq_append_getElem hi2, g2, h1, h2]
    have hne : l[i] ≠ m[i] → ¬ l = m := by rintro h rfl; exact h rfl
    generalize l[i] = x at hget ht hne
    generalize m[i] = y at hget2 ht hne
    simp -implicitDefEqProofs only [go_sem, Nat.reduceBEq, Nat.reduceAdd, eq_self, true_and, and_true, and_self, List.getElem?_cons_zero, List.getElem?_cons_succ, Nat.reduceLeDiff, Nat.zero_add, Nat.reduceSub, Nat.le_refl, hget, hget2]
    rw [hl, hm]
    refine ⟨⟨by omega, hb, k2⟩, k1, ⟨by omega, hb2, k4⟩, k3, ?_⟩
    refine CondW_b (fun he => ?_) (fun he => ?_)
    · have := hne (by simpa using he)
      simp -implicitDefEqProofs only [go_sem, Nat.reduceBEq, Nat.reduceAdd, eq_self, true_and, and_true, and_self, List.getElem?_cons_zero, List.getElem?_cons_succ, Nat.reduceLeDiff, Nat.zero_add, Nat.reduceSub, Nat.le_refl, Nat.lt_irrefl]
      refine z3 _ _ ?_
      simp -implicitDefEqProofs only [go_sem, Nat.reduceBEq, Nat.reduceAdd, eq_self, true_and, and_true, and_self, List.getElem?_cons_zero, List.getElem?_cons_succ, Nat.reduceLeDiff, Nat.zero_add, Nat.reduceSub, Nat.le_refl, Nat.lt_irrefl]
      refine q2 _ _ ?_
      simp -implicitDefEqProofs only [go_sem, Nat.reduceBEq, Nat.reduceAdd, eq_self, true_and, and_true, and_self, List.getElem?_cons_zero, List.getElem?_cons_succ, Nat.reduceLeDiff, Nat.zero_add, Nat.reduceSub, Nat.le_refl, this, decide_false]
    · have he : x = y := by simpa using he
      simp -implicitDefEqProofs only [go_sem, Nat.reduceBEq, Nat.reduceAdd, eq_self, true_and, and_true, and_self, List.getElem?_cons_zero, List.getElem?_cons_succ, Nat.reduceLeDiff, Nat.zero_add, Nat.reduceSub, Nat.le_refl, Nat.lt_irrefl]
      refine z1 (i + 1) _ _ (.inr ?_) (by omega) ⟨rfl, by omega, ht y he rfl⟩
      simp -implicitDefEqProofs only [go_sem, Nat.reduceBEq, Nat.reduceAdd, eq_self, true_and, and_true, and_self, List.getElem?_cons_zero, List.getElem?_cons_succ, Nat.reduceLeDiff, Nat.zero_add, Nat.reduceSub, Nat.le_refl, Nat.lt_irrefl]
      rw [i64_in _ (by omega)]; simp
  · have hi : ¬ i < l.length := by simpa using hc
    rw [List.take_of_length_le (by omega), List.take_of_length_le (by omega)] at g2
    simp -implicitDefEqProofs only [go_sem, Nat.reduceBEq, Nat.reduceAdd, eq_self, true_and, and_true, and_self, List.getElem?_cons_zero, List.getElem?_cons_succ, Nat.reduceLeDiff, Nat.zero_add, Nat.reduceSub, Nat.le_refl, Nat.lt_irrefl]
    refine z2 _ _ _ ?_
    simp -implicitDefEqProofs only [go_sem, Nat.reduceBEq, Nat.reduceAdd, eq_self, true_and, and_true, and_self, List.getElem?_cons_zero, List.getElem?_cons_succ, Nat.reduceLeDiff, Nat.zero_add, Nat.reduceSub, Nat.le_refl, Nat.lt_irrefl]
    refine q2 _ _ ?_
    simp -implicitDefEqProofs only [go_sem, Nat.reduceBEq, Nat.reduceAdd, eq_self, true_and, and_true, and_self, List.getElem?_cons_zero, List.getElem?_cons_succ, Nat.reduceLeDiff, Nat.zero_add, Nat.reduceSub, Nat.le_refl, g2, decide_true]
set_option maxRecDepth 100000 in
set_option maxHeartbeats 4000000 in
theorem psame_ok (hd : RdS σ d 1 (intsV .i64 g.deps)) (hf : RdS σ f 1 (intsV .i64 h.deps)) (hlen : g.deps.length < 4611686018427387904) :
    CallA Try.prog 71 [cgV d g, cgV f h] σ fun w σ' => σ' = σ ∧ w = .bool (sameC g h) := by
  refine fn_at Try.func71 (by decide) comp71 rfl fun Q q1 q2 => ?_
  simp -implicitDefEqProofs only [go_sem, Nat.reduceBEq, Nat.reduceAdd, eq_self, true_and, and_true, and_self, List.getElem?_cons_zero, List.getElem?_cons_succ, Nat.reduceLeDiff, Nat.zero_add, Nat.reduceSub, Nat.le_refl, c71, cgV, cgC, V.eqs, V.eq, Bool.and_true]
  repeat' first
    | (refine GW_c (fun h => ?_) (fun h => ?_) <;> (try simp only [Bool.not_eq_true', Bool.not_eq_false'] at h) <;> (try simp only [h]) <;> (try simp -implicitDefEqProofs only [go_sem, Nat.reduceBEq, Nat.reduceAdd, eq_self, true_and, and_true, and_self, List.getElem?_cons_zero, List.getElem?_cons_succ, Nat.reduceLeDiff, Nat.zero_add, Nat.reduceSub, Nat.le_refl, cgC, cgV, V.eqs, V.eq, Bool.and_true]))
    | (refine CondW_b (fun h => ?_) (fun h => ?_) <;> (try simp only [Bool.not_eq_true', Bool.not_eq_false'] at h) <;> (try simp only [h]) <;> (try simp -implicitDefEqProofs only [go_sem, Nat.reduceBEq, Nat.reduceAdd, eq_self, true_and, and_true, and_self, List.getElem?_cons_zero, List.getElem?_cons_succ, Nat.reduceLeDiff, Nat.zero_add, Nat.reduceSub, Nat.le_refl, cgC, cgV, V.eqs, V.eq, Bool.and_true]))
    | (refine call_at (equal_ok hd hf hlen) ?_; rintro v τ ⟨rfl, rfl⟩; refine ⟨by first | exact kept_none | exact (Ext.refl _).kept, ?_⟩; (try simp -implicitDefEqProofs only [go_sem, Nat.reduceBEq, Nat.reduceAdd, eq_self, true_and, and_true, and_self, List.getElem?_cons_zero, List.getElem?_cons_succ, Nat.reduceLeDiff, Nat.zero_add, Nat.reduceSub, Nat.le_refl, cgC, cgV, V.eqs, V.eq, Bool.and_true]))
    | (refine cut_dup ?_; (try simp -implicitDefEqProofs only [go_sem, Nat.reduceBEq, Nat.reduceAdd, eq_self, true_and, and_true, and_self, List.getElem?_cons_zero, List.getElem?_cons_succ, Nat.reduceLeDiff, Nat.zero_add, Nat.reduceSub, Nat.le_refl, cgC, cgV, V.eqs, V.eq, Bool.and_true]))
    | (refine q2 _ _ ?_; (try simp -implicitDefEqProofs only [go_sem, Nat.reduceBEq, Nat.reduceAdd, eq_self, true_and, and_true, and_self, List.getElem?_cons_zero, List.getElem?_cons_succ, Nat.reduceLeDiff, Nat.zero_add, Nat.reduceSub, Nat.le_refl, cgC, cgV, V.eqs, V.eq, Bool.and_true]))
  all_goals (clear q1 q2; first | (simp_all [sameC]; done) | grind [sameC])
set_option maxRecDepth 100000 in
set_option maxHeartbeats 1000000 in
theorem within_ok (hv : RdS σ v 1 (intsV .i64 l)) : CallA Try.prog 52 [cgV d g, v] σ fun w σ' => w = .bool (decide (g.seq ≤ atD l g.ar)) ∧ σ' = σ := by
  refine fn_at Try.func52 (by decide) comp52 rfl fun Q q1 q2 => ?_
  simp -implicitDefEqProofs only [go_sem, Nat.reduceBEq, Nat.reduceAdd, eq_self, true_and, and_true, and_self, List.getElem?_cons_zero, List.getElem?_cons_succ, Nat.reduceLeDiff, Nat.zero_add, Nat.reduceSub, Nat.le_refl, c52, cgV, cgC]
  refine call_at (rat_ok (r := g.ar) hv) ?_
  rintro w τ ⟨hτ, rfl⟩
  have hτ := hτ.symm
  subst hτ
  refine ⟨(Ext.refl _).kept, ?_⟩
  simp -implicitDefEqProofs only [go_sem, Nat.reduceBEq, Nat.reduceAdd, eq_self, true_and, and_true, and_self, List.getElem?_cons_zero, List.getElem?_cons_succ, Nat.reduceLeDiff, Nat.zero_add, Nat.reduceSub, Nat.le_refl, Nat.lt_irrefl]
  refine q2 _ _ ?_
  simp -implicitDefEqProofs only [go_sem, Nat.reduceBEq, Nat.reduceAdd, eq_self, true_and, and_true, and_self, List.getElem?_cons_zero, List.getElem?_cons_succ, Nat.reduceLeDiff, Nat.zero_add, Nat.reduceSub, Nat.le_refl, Nat.lt_irrefl]
end
end Go.VL.opl

namespace Go.VL.opl
open Go Go.VL Go.Proofs Go.IntWalk Go.VL.st Go.VL.row

/-- How many there are of a replica. -/
def cnt (L : List Cg) (r : Int) : Nat := (L.filter fun g => decide (g.ar = r)).length
def cnts (L : List Cg) : List Int := (List.range 64).map fun (r : Nat) => ((cnt L (r : Int) : Nat) : Int)
theorem cnts_len (L : List Cg) : (cnts L).length = 64 := by simp [cnts]
theorem cnts_get (L : List Cg) {r : Nat} (h : r < 64) : (cnts L)[r]? = some (cnt L r : Int) := by simp [cnts, h]
theorem cnt_snoc (L : List Cg) (g : Cg) (r : Int) : cnt (L ++ [g]) r = bif decide (g.ar = r) then cnt L r + 1 else cnt L r := by
  unfold cnt
  rw [List.filter_append, List.length_append]
  cases h : decide (g.ar = r) <;> simp [List.filter, h]
theorem cnt_le (L : List Cg) (r : Int) : cnt L r ≤ L.length := List.length_filter_le _ _
theorem cnts_nil : cnts [] = List.replicate 64 0 := by decide
theorem cnts_out {L : List Cg} {g : Cg} (h : (decide (0 ≤ g.ar) && decide (g.ar < 64)) = false) : cnts (L ++ [g]) = cnts L := by
  unfold cnts
  refine List.map_congr_left fun r hr => ?_
  have hr := List.mem_range.1 hr
  rw [cnt_snoc]
  have : decide (g.ar = (r : Int)) = false := by
    rw [decide_eq_false_iff_not]
    intro e
    rw [e] at h
    have : ((r : Int) < 64) := by omega
    simp [this] at h
  rw [this]; rfl
theorem cnts_in {L : List Cg} {g : Cg} {k : Nat} (hk : k < 64) (h : g.ar = k) : cnts (L ++ [g]) = (cnts L).set k ((cnt L k : Int) + 1) := by
  refine List.ext_getElem (by simp [cnts_len]) fun i h1 h2 => ?_
  rw [cnts_len] at h1
  have e1 : (cnts (L ++ [g]))[i]'(by rw [cnts_len]; omega) = (cnt (L ++ [g]) i : Int) := by simp [cnts]
  have e2 : (cnts L)[i]'(by rw [cnts_len]; omega) = (cnt L i : Int) := by simp [cnts]
  rw [e1, List.getElem_set, e2, cnt_snoc]
  by_cases e : k = i
  · subst e; simp [h]
  · have : decide (g.ar = (i : Int)) = false := by rw [h, decide_eq_false_iff_not]; omega
    rw [this, if_neg e]; rfl
theorem atD_trims {l out : List Int} {z : Nat} (h : Trims l out z) (r : Int) : atD out r = atD l r := by
  unfold atD
  by_cases h0 : 0 ≤ r
  · have hz : ∀ i : Nat, (out ++ List.replicate z (0 : Int))[i]?.getD 0 = out[i]?.getD 0 := by
      intro i
      by_cases hi : i < out.length
      · rw [List.getElem?_append_left hi]
      · rw [List.getElem?_append_right (by omega), List.getElem?_replicate, List.getElem?_eq_none (l := out) (by omega)]
        split <;> rfl
    have h1 : ∀ m : List Int, (bif decide (0 ≤ r) && decide (r < m.length) then m[r.toNat]?.getD 0 else 0) = m[r.toNat]?.getD 0 := by
      intro m
      cases hd : decide (r < m.length)
      · rw [Bool.and_false, cond_false, List.getElem?_eq_none (by have := of_decide_eq_false hd; omega)]; rfl
      · simp [h0]
    rw [h1, h1, h.1, hz]
  · simp [h0]
theorem atD_cnts (L : List Cg) {r : Int} (h : 0 ≤ r ∧ r < 64) : atD (cnts L) r = cnt L r := by
  unfold atD
  rw [cnts_len, cnts_get L (r := r.toNat) (by omega)]
  have : ((r.toNat : Nat) : Int) = r := by omega
  simp [h.1, this, h.2]
def underI (l m : List Int) : Bool := (List.range l.length).all fun r => decide (l[r]?.getD 0 ≤ atD m r)
theorem under_at {l m : List Int} {y : Nat} {x : Int} (hy : y < l.length) (hx : l[y] = x) : ((List.range (y + 1)).all fun r => decide (l[r]?.getD 0 ≤ atD m r)) = (((List.range y).all fun r => decide (l[r]?.getD 0 ≤ atD m r)) && decide (x ≤ atD m y)) := by
  rw [List.range_succ, List.all_append]; simp [hy, hx]
theorem all_false {n y : Nat} {f : Nat → Bool} (h : y < n) (hf : f y = false) : (List.range n).all f = false := by
  rw [List.all_eq_false]
  exact ⟨y, List.mem_range.2 h, by rw [hf]; exact Bool.false_ne_true⟩
/-- Is it there, and ahead? -/
def depB (L : List Cg) (g : Cg) (r n : Int) : Bool := decide (n = 0) || match L.find? (isO r n) with
  | some h => st.less (atS h) (atS g)
  | none => false
def nmB (L : List Cg) (g : Cg) (s : Sp) : Bool := match L.find? (isA s) with
  | some h => decide (h.seq ≤ atD g.deps h.ar)
  | none => false
def depsB (L : List Cg) (g : Cg) : Bool := (List.range g.deps.length).all fun r => depB L g r (g.deps[r]?.getD 0)
def namesB (L : List Cg) (g : Cg) : Bool := (baseN g).all fun s => !okN g s || nmB L g s
theorem names_all {g : Cg} {m : List Sp} (h : IsN g m) (p : Sp → Bool) : m.all p = (baseN g).all fun s => !okN g s || p s := by
  rw [Bool.eq_iff_iff, List.all_eq_true, List.all_eq_true]
  constructor
  · intro k s hs
    cases ho : okN g s
    · rfl
    · rw [k s ((h.2 s).2 (List.mem_filter.2 ⟨hs, ho⟩))]; rfl
  · intro k s hs
    obtain ⟨h1, h2⟩ := List.mem_filter.1 ((h.2 s).1 hs)
    have := k s h1
    rw [h2] at this; exact this
/-- A clock that was told. -/
def ClkR (σ : St) (w : V) (L : List Cg) : Prop := ∃ out z, Trims (cnts L) out z ∧ RdS σ w 1 (intsV .i64 out)
section
variable {σ : St} {v d f u : V} {g h : Cg} {gs : List Cg} {x : Sp} {r n : Int} {l m : List Int}
set_option maxRecDepth 100000 in
set_option maxHeartbeats 1000000 in
theorem under_ok (hv : RdS σ v 1 (intsV .i64 l)) (hu : RdS σ u 1 (intsV .i64 m)) (hlen : l.length ≤ 2000000) : CallA Try.prog 28 [v, u] σ fun w σ' => w = .bool (underI l m) ∧ σ' = σ := by
  obtain ⟨b, R, z, rfl, -, -⟩ := id hv
  refine fn_at Try.func28 (by decide) comp28 rfl fun Q q1 q2 => ?_
  have hl := intsV_len l
  simp -implicitDefEqProofs only [go_sem, Nat.reduceBEq, Nat.reduceAdd, eq_self, true_and, and_true, and_self, List.getElem?_cons_zero, List.getElem?_cons_succ, Nat.reduceLeDiff, Nat.zero_add, Nat.reduceSub, Nat.le_refl, c28]
  refine loop_at (fun (y : Nat) => ⟨[(0, .v (.sl b R z (intsV .i64 l))), (1, .v u), (5, .v (.int .i64 y))], []⟩) (fun y t => y ≤ l.length ∧ t = σ ∧ ((List.range y).all fun r => decide (l[r]?.getD 0 ≤ atD m r)) = true) (fun y => l.length - y) 0 ?_ ?_ ?_
  · refine .inr ?_
    simp -implicitDefEqProofs only [go_sem, Nat.reduceBEq, Nat.reduceAdd, eq_self, true_and, and_true, and_self, List.getElem?_cons_zero, List.getElem?_cons_succ, Nat.reduceLeDiff, Nat.zero_add, Nat.reduceSub, Nat.le_refl, Nat.lt_irrefl]
    try exact rfl
  · exact ⟨Nat.zero_le _, rfl, by simp⟩
  rintro y τ ⟨g1, hτ, g3⟩ Z z1 z2 z3
  have hτ := hτ.symm
  subst hτ
  simp -implicitDefEqProofs only [go_sem, Nat.reduceBEq, Nat.reduceAdd, eq_self, true_and, and_true, and_self, List.getElem?_cons_zero, List.getElem?_cons_succ, Nat.reduceLeDiff, Nat.zero_add, Nat.reduceSub, Nat.le_refl, hl]
  refine CondW_b (fun hcc => ?_) (fun hcc => ?_)
  · have hi : y < l.length := by simpa using hcc
    have hget := intsV_get hi
    have hwy : IntKind.i64.wrap ((y : Int) + 1) = ((y + 1 : Nat) : Int) := by rw [i64_in _ (by omega)]; omega
    obtain ⟨k1, k2⟩ := rdl hv (intsV_ne hi)
    have hst := under_at (m := m) hi rfl
    have hal : decide (l[y]?.getD 0 ≤ atD m y) = decide (l[y] ≤ atD m y) := by simp [hi]
    generalize l[y] = x at hget hst hal
    simp -implicitDefEqProofs only [go_sem, Nat.reduceBEq, Nat.reduceAdd, eq_self, true_and, and_true, and_self, List.getElem?_cons_zero, List.getElem?_cons_succ, Nat.reduceLeDiff, Nat.zero_add, Nat.reduceSub, Nat.le_refl, hget]
    rw [hl]
    refine ⟨⟨by omega, by omega, k2⟩, k1, ?_⟩
    refine call_at (rat_ok (r := (y : Int)) hu) ?_
    rintro w τ2 ⟨hτ2, rfl⟩
    have hτ2 := hτ2.symm
    subst hτ2
    refine ⟨(Ext.refl _).kept, ?_⟩
    cases hd : decide (x > atD m y)
    · simp -implicitDefEqProofs only [go_sem, Nat.reduceBEq, Nat.reduceAdd, eq_self, true_and, and_true, and_self, List.getElem?_cons_zero, List.getElem?_cons_succ, Nat.reduceLeDiff, Nat.zero_add, Nat.reduceSub, Nat.le_refl, hd, hwy]
      refine z1 (y + 1) _ _ (.inr ?_) (by omega) ⟨by omega, rfl, ?_⟩
      · simp -implicitDefEqProofs only [go_sem, Nat.reduceBEq, Nat.reduceAdd, eq_self, true_and, and_true, and_self, List.getElem?_cons_zero, List.getElem?_cons_succ, Nat.reduceLeDiff, Nat.zero_add, Nat.reduceSub, Nat.le_refl, Nat.lt_irrefl]
        try exact rfl
      · rw [hst, g3, Bool.true_and, decide_eq_true_eq]
        have := of_decide_eq_false hd
        omega
    · simp -implicitDefEqProofs only [go_sem, Nat.reduceBEq, Nat.reduceAdd, eq_self, true_and, and_true, and_self, List.getElem?_cons_zero, List.getElem?_cons_succ, Nat.reduceLeDiff, Nat.zero_add, Nat.reduceSub, Nat.le_refl, hd]
      refine z3 _ _ ?_
      simp -implicitDefEqProofs only [go_sem, Nat.reduceBEq, Nat.reduceAdd, eq_self, true_and, and_true, and_self, List.getElem?_cons_zero, List.getElem?_cons_succ, Nat.reduceLeDiff, Nat.zero_add, Nat.reduceSub, Nat.le_refl, Nat.lt_irrefl]
      refine q2 _ _ ?_
      have hun : underI l m = false := all_false hi (by rw [hal, decide_eq_false_iff_not]; have := of_decide_eq_true hd; omega)
      simp -implicitDefEqProofs only [go_sem, Nat.reduceBEq, Nat.reduceAdd, eq_self, true_and, and_true, and_self, List.getElem?_cons_zero, List.getElem?_cons_succ, Nat.reduceLeDiff, Nat.zero_add, Nat.reduceSub, Nat.le_refl, hun]
  · have : y = l.length := by
      have : ¬ y < l.length := by simpa using hcc
      omega
    subst this
    have hun : underI l m = true := g3
    simp -implicitDefEqProofs only [go_sem, Nat.reduceBEq, Nat.reduceAdd, eq_self, true_and, and_true, and_self, List.getElem?_cons_zero, List.getElem?_cons_succ, Nat.reduceLeDiff, Nat.zero_add, Nat.reduceSub, Nat.le_refl, Nat.lt_irrefl]
    refine z2 _ _ _ ?_
    simp -implicitDefEqProofs only [go_sem, Nat.reduceBEq, Nat.reduceAdd, eq_self, true_and, and_true, and_self, List.getElem?_cons_zero, List.getElem?_cons_succ, Nat.reduceLeDiff, Nat.zero_add, Nat.reduceSub, Nat.le_refl, Nat.lt_irrefl]
    refine q2 _ _ ?_
    simp -implicitDefEqProofs only [go_sem, Nat.reduceBEq, Nat.reduceAdd, eq_self, true_and, and_true, and_self, List.getElem?_cons_zero, List.getElem?_cons_succ, Nat.reduceLeDiff, Nat.zero_add, Nat.reduceSub, Nat.le_refl, hun]
set_option maxRecDepth 100000 in
set_option maxHeartbeats 2000000 in
theorem rclk_ok (hv : RdC σ v gs) (hlen : gs.length ≤ 2000000) : CallA Try.prog 27 [v] σ fun w σ' => ClkR σ' w gs ∧ Ext σ σ' ∧ σ'.objs = σ.objs := by
  obtain ⟨l, rfl, hv, hds⟩ := hv
  obtain ⟨b, R, z, rfl, -, -⟩ := id hv
  refine fn_at Try.func27 (by decide) comp27 rfl fun Q q1 q2 => ?_
  have hl := cgsV_len l
  rw [List.length_map] at hlen
  have hrep : List.replicate (Int.toNat 64) [V.int .i64 0] = intsV .i64 (cnts []) := by rw [cnts_nil]; rfl
  simp -implicitDefEqProofs only [go_sem, Nat.reduceBEq, Nat.reduceAdd, eq_self, true_and, and_true, and_self, List.getElem?_cons_zero, List.getElem?_cons_succ, Nat.reduceLeDiff, Nat.zero_add, Nat.reduceSub, Nat.le_refl, c27, hrep]
  refine ⟨by omega, ?_⟩
  refine loop_at (fun (y : Nat × Nat) => ⟨[(0, .v (.sl b R z (cgsV l))), (3, .v (.sl false (.own y.2) 1 (intsV .i64 (cnts ((l.map (·.2)).take y.1))))), (4, .v (.int .i64 y.1))], []⟩)
    (fun y t => y.1 ≤ l.length ∧ Ext σ t ∧ t.objs = σ.objs ∧ t.live[y.2]? = some true ∧ σ.live.length ≤ y.2) (fun y => l.length - y.1) (0, σ.live.length) ?_ ?_ ?_
  · refine .inr ?_
    simp -implicitDefEqProofs only [go_sem, Nat.reduceBEq, Nat.reduceAdd, eq_self, true_and, and_true, and_self, List.getElem?_cons_zero, List.getElem?_cons_succ, Nat.reduceLeDiff, Nat.zero_add, Nat.reduceSub, Nat.le_refl, List.take_zero]
    try exact rfl
  · exact ⟨Nat.zero_le _, ext_live σ true, rfl, live_last _ _, Nat.le_refl _⟩
  rintro ⟨y, q⟩ τ ⟨g1, g2, g3, g4, g5⟩ Z z1 z2 z3
  simp only at g1 g4 g5
  simp -implicitDefEqProofs only [go_sem, Nat.reduceBEq, Nat.reduceAdd, eq_self, true_and, and_true, and_self, List.getElem?_cons_zero, List.getElem?_cons_succ, Nat.reduceLeDiff, Nat.zero_add, Nat.reduceSub, Nat.le_refl, hl]
  refine CondW_b (fun hcc => ?_) (fun hcc => ?_)
  · have hi : y < l.length := by simpa using hcc
    have hget := cgsV_get hi
    have hwy : IntKind.i64.wrap ((y : Int) + 1) = ((y + 1 : Nat) : Int) := by rw [i64_in _ (by omega)]; omega
    obtain ⟨k1, k2⟩ := rdl (hv.ext g2) (cgsV_ne hi)
    have htk : (l.map (·.2)).take (y + 1) = (l.map (·.2)).take y ++ [l[y].2] := by rw [List.take_succ_eq_append_getElem (by simpa using hi)]; simp
    have hDl : ((l.map (·.2)).take y).length ≤ 2000000 := by rw [List.length_take]; omega
    generalize (l.map (·.2)).take y = D at *
    generalize hD' : (l.map (·.2)).take (y + 1) = D' at *
    generalize l[y] = p at *
    obtain ⟨d, g⟩ := p
    simp only at hget htk
    refine cut_at (fun G τ2 => ∃ q2, G = ⟨[(0, .v (.sl b R z (cgsV l))), (3, .v (.sl false (.own q2) 1 (intsV .i64 (cnts D')))), (4, .v (.int .i64 y))], []⟩ ∧ Ext σ τ2 ∧ τ2.objs = σ.objs ∧ τ2.live[q2]? = some true ∧ σ.live.length ≤ q2) ?_ ?_
    case refine_2 =>
      rintro G τ2 ⟨q2', rfl, t1, t2, t3, t4⟩
      simp -implicitDefEqProofs only [go_sem, Nat.reduceBEq, Nat.reduceAdd, eq_self, true_and, and_true, and_self, List.getElem?_cons_zero, List.getElem?_cons_succ, Nat.reduceLeDiff, Nat.zero_add, Nat.reduceSub, Nat.le_refl, hwy]
      refine z1 (y + 1, q2') _ _ (.inr ?_) (by simp only; omega) ⟨by simp only; omega, t1, t2, t3, t4⟩
      simp -implicitDefEqProofs only [go_sem, Nat.reduceBEq, Nat.reduceAdd, eq_self, true_and, and_true, and_self, List.getElem?_cons_zero, List.getElem?_cons_succ, Nat.reduceLeDiff, Nat.zero_add, Nat.reduceSub, Nat.le_refl, hD']
      try exact rfl
    intro Y y1 y2 y3
    have hc64 : (intsV .i64 (cnts D)).length = 64 := by rw [intsV_len, cnts_len]
    have hge : decide (g.ar ≥ 0) = decide (0 ≤ g.ar) := rfl
    cases h0 : decide (0 ≤ g.ar)
    · have := cnts_out (L := D) (g := g) (by rw [h0]; rfl)
      simp -implicitDefEqProofs only [go_sem, Nat.reduceBEq, Nat.reduceAdd, eq_self, true_and, and_true, and_self, List.getElem?_cons_zero, List.getElem?_cons_succ, Nat.reduceLeDiff, Nat.zero_add, Nat.reduceSub, Nat.le_refl, hget, cgC, hge, h0]
      rw [hl]
      refine ⟨⟨by omega, by omega, k2⟩, k1, ?_⟩
      refine y1 _ _ _ (.inr ?_) ⟨q, rfl, g2, g3, g4, g5⟩
      simp -implicitDefEqProofs only [go_sem, Nat.reduceBEq, Nat.reduceAdd, eq_self, true_and, and_true, and_self, List.getElem?_cons_zero, List.getElem?_cons_succ, Nat.reduceLeDiff, Nat.zero_add, Nat.reduceSub, Nat.le_refl, Nat.lt_irrefl]
      rw [htk, this]
      try exact rfl
    cases h1 : decide (g.ar < 64)
    · have := cnts_out (L := D) (g := g) (by rw [h1]; exact Bool.and_false _)
      have h1' : decide (g.ar < ((64 : Nat) : Int)) = false := h1
      simp -implicitDefEqProofs only [go_sem, Nat.reduceBEq, Nat.reduceAdd, eq_self, true_and, and_true, and_self, List.getElem?_cons_zero, List.getElem?_cons_succ, Nat.reduceLeDiff, Nat.zero_add, Nat.reduceSub, Nat.le_refl, hget, cgC, hge, h0, hc64, h1']
      rw [hl]
      refine ⟨⟨by omega, by omega, k2⟩, k1, ?_⟩
      refine y1 _ _ _ (.inr ?_) ⟨q, rfl, g2, g3, g4, g5⟩
      simp -implicitDefEqProofs only [go_sem, Nat.reduceBEq, Nat.reduceAdd, eq_self, true_and, and_true, and_self, List.getElem?_cons_zero, List.getElem?_cons_succ, Nat.reduceLeDiff, Nat.zero_add, Nat.reduceSub, Nat.le_refl, Nat.lt_irrefl]
      rw [htk, this]
      try exact rfl
    · have h0' := of_decide_eq_true h0
      have h1'' := of_decide_eq_true h1
      have h1' : decide (g.ar < ((64 : Nat) : Int)) = true := h1
      have hk : g.ar = ((g.ar.toNat : Nat) : Int) := by omega
      have hset := cnts_in (L := D) (g := g) (k := g.ar.toNat) (by omega) hk
      have hcl := cnt_le D ((g.ar.toNat : Nat) : Int)
      have hgc : (intsV .i64 (cnts D))[g.ar.toNat]? = some [V.int .i64 (cnt D ((g.ar.toNat : Nat) : Int))] := by
        unfold intsV; rw [List.getElem?_map, cnts_get D (by omega)]; rfl
      have hwc : IntKind.i64.wrap ((cnt D ((g.ar.toNat : Nat) : Int) : Int) + 1) = (cnt D ((g.ar.toNat : Nat) : Int) : Int) + 1 := by rw [i64_in _ (by omega)]
      have rn0 : ∀ a b' c, renS q a b' c (.v (.sl b R z (cgsV l))) = .v (.sl b R z (cgsV l)) := fun a b' c => renS_old hv g5
      have hiv : intsV .i64 ((cnts D).set g.ar.toNat ((cnt D ((g.ar.toNat : Nat) : Int) : Int) + 1)) = (intsV .i64 (cnts D)).set g.ar.toNat [V.int .i64 ((cnt D ((g.ar.toNat : Nat) : Int) : Int) + 1)] := by
        unfold intsV; rw [List.map_set]
      simp -implicitDefEqProofs only [go_sem, Nat.reduceBEq, Nat.reduceAdd, eq_self, true_and, and_true, and_self, List.getElem?_cons_zero, List.getElem?_cons_succ, Nat.reduceLeDiff, Nat.zero_add, Nat.reduceSub, Nat.le_refl, hget, cgC, hge, h0, hc64, h1', hgc, hwc, Option.getD_some, rn0, beq_self_eq_true]
      rw [hl]
      refine ⟨⟨by omega, by omega, k2⟩, k1, ⟨h0', by omega⟩, g4, ⟨h0', by omega⟩, g4, ?_⟩
      refine y1 _ _ _ (.inr ?_) ⟨_, rfl, ext_kill g2 g5, g3, live_last' _ _ _, g2.llen⟩
      simp -implicitDefEqProofs only [go_sem, Nat.reduceBEq, Nat.reduceAdd, eq_self, true_and, and_true, and_self, List.getElem?_cons_zero, List.getElem?_cons_succ, Nat.reduceLeDiff, Nat.zero_add, Nat.reduceSub, Nat.le_refl, Nat.lt_irrefl]
      rw [htk, hset, hiv]
  · rw [List.take_of_length_le (by have : ¬ y < l.length := by simpa using hcc
                                   rw [map2_len]; omega)] at *
    simp -implicitDefEqProofs only [go_sem, Nat.reduceBEq, Nat.reduceAdd, eq_self, true_and, and_true, and_self, List.getElem?_cons_zero, List.getElem?_cons_succ, Nat.reduceLeDiff, Nat.zero_add, Nat.reduceSub, Nat.le_refl, Nat.lt_irrefl]
    refine z2 _ _ _ ?_
    simp -implicitDefEqProofs only [go_sem, Nat.reduceBEq, Nat.reduceAdd, eq_self, true_and, and_true, and_self, List.getElem?_cons_zero, List.getElem?_cons_succ, Nat.reduceLeDiff, Nat.zero_add, Nat.reduceSub, Nat.le_refl, Nat.lt_irrefl]
    have hc : RdS τ (.sl false (.own q) 1 (intsV .i64 (cnts (l.map (·.2))))) 1 (intsV .i64 (cnts (l.map (·.2)))) := ⟨_, _, _, rfl, by simp, .inr ⟨g4, rfl⟩⟩
    refine call_at (trim_ok hc (by rw [cnts_len]; omega)) ?_
    rintro w τ2 ⟨a1, a2, a3⟩
    refine ⟨kept_none, ?_⟩
    simp -implicitDefEqProofs only [go_sem, Nat.reduceBEq, Nat.reduceAdd, eq_self, true_and, and_true, and_self, List.getElem?_cons_zero, List.getElem?_cons_succ, Nat.reduceLeDiff, Nat.zero_add, Nat.reduceSub, Nat.le_refl, Nat.lt_irrefl]
    refine q2 _ _ ?_
    simp -implicitDefEqProofs only [go_sem, Nat.reduceBEq, Nat.reduceAdd, eq_self, true_and, and_true, and_self, List.getElem?_cons_zero, List.getElem?_cons_succ, Nat.reduceLeDiff, Nat.zero_add, Nat.reduceSub, Nat.le_refl, Nat.lt_irrefl]
    exact ⟨a1, g2.trans a2, a3.trans g3⟩
end
end Go.VL.opl

namespace Go.VL.opl
open Go Go.VL Go.Proofs Go.IntWalk Go.VL.st Go.VL.row

def behB (L : List Cg) (g : Cg) : Bool := depsB L g && namesB L g
def whyR (L : List Cg) (room : Int) (g : Cg) : Int :=
  bif !decide (chkI g = 0) then chkI g else
  match L.find? (isA (atS g)) with
  | some h => bif sameC h g then 5 else 7
  | none => bif (L.find? (isO g.ar g.seq)).isSome then 7 else
    bif !decide (g.seq = cnt L g.ar + 1) || !underI g.deps (cnts L) then 4 else
    bif !behB L g then 2 else
    bif decide (L.length ≥ room) then 6 else 0
theorem all_snoc {y : Nat} {f : Nat → Bool} : (List.range (y + 1)).all f = ((List.range y).all f && f y) := by
  rw [List.range_succ, List.all_append]; simp
section
variable {σ : St} {v d f u : V} {g h : Cg} {gs : List Cg} {x : Sp} {r n room : Int} {l m : List Int}
end
end Go.VL.opl

namespace Go.VL.opl
open Go Go.VL Go.Proofs Go.IntWalk Go.VL.st Go.VL.row

def lessC (g h : Cg) : Bool := st.less (atS g) (atS h)
/-- A change at its place. -/
def putC (g : Cg) : List Cg → List Cg
  | [] => [g]
  | h :: t => bif lessC g h then g :: h :: t else h :: putC g t
theorem putC_none {g : Cg} : ∀ {L : List Cg}, L.any (lessC g) = false → putC g L = L ++ [g]
  | [], _ => rfl
  | h :: t, e => by
    rw [List.any_cons, Bool.or_eq_false_iff] at e
    simp only [putC, e.1, cond_false, putC_none e.2, List.cons_append]
theorem putC_snoc {g h : Cg} : ∀ {L : List Cg}, L.any (lessC g) = true → putC g (L ++ [h]) = putC g L ++ [h]
  | [], e => by cases e
  | k :: t, e => by
    cases hk : lessC g k
    · rw [List.any_cons, hk, Bool.false_or] at e
      simp only [List.cons_append, putC, hk, cond_false, putC_snoc e]
    · simp only [List.cons_append, putC, hk, cond_true]
theorem putC_first {g h : Cg} : ∀ {L : List Cg}, L.any (lessC g) = false → lessC g h = true → putC g (L ++ [h]) = L ++ [g] ++ [h]
  | [], _, hh => by simp [putC, hh]
  | k :: t, e, hh => by
    rw [List.any_cons, Bool.or_eq_false_iff] at e
    simp only [List.cons_append, putC, e.1, cond_false, putC_first e.2 hh]
theorem putC_len (g : Cg) : ∀ L : List Cg, (putC g L).length = L.length + 1
  | [] => rfl
  | h :: t => by
    simp only [putC]
    cases lessC g h
    · simp [putC_len g t]
    · simp
theorem putC_mem {g x : Cg} : ∀ {L : List Cg}, x ∈ putC g L ↔ x = g ∨ x ∈ L
  | [] => by simp [putC]
  | h :: t => by
    simp only [putC]
    cases lessC g h
    · simp only [cond_false, List.mem_cons, putC_mem (L := t)]
      constructor
      · rintro (h | h | h) <;> simp [h]
      · rintro (h | h | h) <;> simp [h]
    · simp
/-- How far Put is. -/
def PutI (g : Cg) (L : List Cg) (dn : Bool) (O : List Cg) : Prop := (dn = false ∧ O = L ∧ L.any (lessC g) = false) ∨ (dn = true ∧ O = putC g L ∧ L.any (lessC g) = true)
def PutM (g : Cg) (L : List Cg) (h : Cg) (dn : Bool) (O : List Cg) : Prop := (dn = false ∧ O = L ∧ L.any (lessC g) = false ∧ lessC g h = false) ∨ (dn = true ∧ O ++ [h] = putC g (L ++ [h]) ∧ (L ++ [h]).any (lessC g) = true)
theorem PutM.step {g h : Cg} {L O : List Cg} {dn : Bool} (k : PutM g L h dn O) : PutI g (L ++ [h]) dn (O ++ [h]) := by
  rcases k with ⟨h1, h2, h3, h4⟩ | ⟨h1, h2, h3⟩
  · exact .inl ⟨h1, by rw [h2], by rw [List.any_append, h3]; simp [h4]⟩
  · exact .inr ⟨h1, h2, h3⟩
/-- What is appended to. -/
structure Acc13 (σ τ : St) (q : Nat) (O : List (V × Cg)) : Prop where
  rds : Rds (St.but τ q) O
  ext : Ext σ τ
  objs : τ.objs = σ.objs
  live : τ.live[q]? = some true
  ge : σ.live.length ≤ q
theorem Acc13.rd {σ τ : St} {q : Nat} {O : List (V × Cg)} (h : Acc13 σ τ q O) : RdC τ (.sl false (.own q) 13 (cgsV O)) (O.map (·.2)) :=
  ⟨O, rfl, ⟨_, _, _, rfl, by simp, .inr ⟨h.live, rfl⟩⟩, h.rds.ext (but_ext _ _)⟩
theorem Acc13.new {σ τ : St} (h : Ext σ τ) (ho : τ.objs = σ.objs) : Acc13 σ ⟨τ.objs, τ.live ++ [true]⟩ τ.live.length [] :=
  ⟨(by intro p hp; cases hp), ext_push h, ho, live_last _ _, h.llen⟩
theorem cgsV_snoc (O : List (V × Cg)) (d : V) (g : Cg) : cgsV O ++ [cgC d g] = cgsV (O ++ [(d, g)]) := by simp [cgsV]
/-- Behind an append. -/
theorem Acc13.app {σ τ τ2 : St} {q : Nat} {O : List (V × Cg)} {p : V × Cg} (h : Acc13 σ τ q O) (he : Ext τ τ2) (ho : τ2.objs = τ.objs)
    (hp : RdS (St.but ⟨τ2.objs, kill (τ2.live ++ [true]) (.own q) ++ [true]⟩ (τ2.live ++ [true]).length) p.1 1 (intsV .i64 p.2.deps)) :
    Acc13 σ ⟨τ2.objs, kill (τ2.live ++ [true]) (.own q) ++ [true]⟩ (τ2.live ++ [true]).length (O ++ [p]) := by
  refine ⟨fun x hx => ?_, ext_kill (ext_push (h.ext.trans he)) h.ge, ho.trans h.objs, live_last' _ _ _, ?_⟩
  · rcases List.mem_append.1 hx with hx | hx
    · exact (h.rds x hx).ext (but_app he)
    · rw [List.mem_singleton] at hx
      rw [hx]; exact hp
  · have := (h.ext.trans he).llen
    simp only [List.length_append, List.length_cons, List.length_nil]; omega
/-- A slice of before. -/
theorem Acc13.old {σ τ τ2 : St} {q n : Nat} {O : List (V × Cg)} {x : V} {es : List (List V)} (h : Acc13 σ τ q O) (he : Ext τ τ2) (hx : RdS σ x n es) :
    RdS (St.but ⟨τ2.objs, kill (τ2.live ++ [true]) (.own q) ++ [true]⟩ (τ2.live ++ [true]).length) x n es := by
  refine rdS_lv hx fun r hr => ?_
  have h1 := (List.getElem?_eq_some_iff.1 hr).1
  have := h.ge
  exact live_app (he.live _ (h.ext.live _ hr)) (by omega)
/-- A new one. -/
theorem Acc13.lt {σ τ : St} {q : Nat} {O : List (V × Cg)} (h : Acc13 σ τ q O) : q < τ.live.length := (List.getElem?_eq_some_iff.1 h.live).1

namespace Go.VL.opl
open Go Go.VL Go.Proofs Go.IntWalk Go.VL.st Go.VL.row

def addR (L : List Cg) (room : Int) (g : Cg) : List Cg := bif decide (whyR L room g = 0) then putC g L else L
def inC (k : List Int) (g : Cg) : Bool := decide (g.seq ≤ atD k g.ar)
def allR (L : List Cg) (k : List Int) : List Cg := L.filter fun g => !inC k g
theorem allR_snoc (L : List Cg) (k : List Int) (g : Cg) : allR (L ++ [g]) k = bif inC k g then allR L k else allR L k ++ [g] := by
  unfold allR
  rw [List.filter_append]
  cases h : inC k g <;> simp [List.filter, h]
theorem allR_len (L : List Cg) (k : List Int) : (allR L k).length ≤ L.length := List.length_filter_le _ _
def lastR (L : List Cg) : Int := L.foldl (fun n g => max n g.ac) 0
theorem lastR_snoc (L : List Cg) (g : Cg) : lastR (L ++ [g]) = max (lastR L) g.ac := by simp [lastR]
/-- What Since tells. -/
def sinceI (k : List Int) (most : Int) : Int := bif !decide (clockI k = 0) then clockI k else bif decide (most < 1) then 1 else 0
def sinceM (L : List Cg) (k : List Int) (most : Int) : Bool := decide (sinceI k most = 0) && decide ((allR L k).length > most)
def sinceL (L : List Cg) (k : List Int) (most : Int) : List Cg := bif decide (sinceI k most = 0) then (allR L k).take most.toNat else []
theorem rdC_take {σ : St} {b : Bool} {R : R} {z : Nat} {es : List (List V)} {gs : List Cg} {n : Nat} (h : RdC σ (.sl b R z es) gs) : RdC σ (.sl b R.toView z (es.take n)) (gs.take n) := by
  obtain ⟨l, rfl, ⟨b', R', z', e, h1, h2⟩, h3⟩ := h
  cases e
  refine ⟨l.take n, by rw [List.map_take], ⟨_, _, _, by rw [show (cgsV l).take n = cgsV (l.take n) from by simp [cgsV, List.map_take]], fun hb => ?_, h2.imp_right fun x => ⟨rd_toView x.1, x.2⟩⟩, fun p hp => h3 p (List.mem_of_mem_take hp)⟩
  have := h1 hb
  have hl : l = [] := by simpa [cgsV] using this
  subst hl; simp [cgsV]
section
variable {σ : St} {v d f u : V} {g h : Cg} {gs : List Cg} {x : Sp} {r n room most : Int} {l m k : List Int}
set_option maxRecDepth 100000 in
set_option maxHeartbeats 4000000 in
theorem radd_src {l : List (V × Cg)} (hv2 : RdS σ v 13 (cgsV l)) (hds : Rds σ l) (hlen : l.length ≤ 1000000) (hd : RdS σ d 1 (intsV .i64 g.deps)) (hdl : g.deps.length ≤ 2000000) (hgl : ∀ h ∈ l.map (·.2), h.deps.length ≤ 2000000) (hnl : g.name.length < 4611686018427387904) :
    CallA Try.prog 35 [.agg [.int .i64 room, v], cgV d g] σ fun w σ' => (∃ u, w = .tup [.agg [.int .i64 room, u], .int .i64 (whyR (l.map (·.2)) room g)] ∧ RdC σ' u (addR (l.map (·.2)) room g) ∧ (u = v ∧ addR (l.map (·.2)) room g = l.map (·.2) ∨ SrcC σ.live.length σ' l u (addR (l.map (·.2)) room g))) ∧ Ext σ σ' ∧ σ'.objs = σ.objs := by
  have hv : RdC σ v (l.map (·.2)) := ⟨l, rfl, hv2, hds⟩
  obtain ⟨b, R, z, rfl, -, -⟩ := id hv2
  obtain ⟨db, dr, dz, rfl, -, -⟩ := id hd
  refine fn_at Try.func35 (by decide) comp35 rfl fun Q q1 q2 => ?_
  have hwy := why_ok (room := room) hv (by rw [List.length_map]; omega) hd hdl hgl hnl
  simp only [cgV, cgC] at hwy
  simp -implicitDefEqProofs only [go_sem, Nat.reduceBEq, Nat.reduceAdd, eq_self, true_and, and_true, and_self, List.getElem?_cons_zero, List.getElem?_cons_succ, Nat.reduceLeDiff, Nat.zero_add, Nat.reduceSub, Nat.le_refl, c35, cgV, cgC]
  refine call_at hwy ?_
  rintro w τ ⟨rfl, e1, o1⟩
  refine ⟨kept_none, ?_⟩
  unfold addR at q1 q2
  cases hc : decide (whyR (l.map (·.2)) room g = 0) <;> rw [hc] at q2
  · simp -implicitDefEqProofs only [go_sem, Nat.reduceBEq, Nat.reduceAdd, eq_self, true_and, and_true, and_self, List.getElem?_cons_zero, List.getElem?_cons_succ, Nat.reduceLeDiff, Nat.zero_add, Nat.reduceSub, Nat.le_refl, hc, Bool.not_false]
    refine q2 _ _ ?_
    simp -implicitDefEqProofs only [go_sem, Nat.reduceBEq, Nat.reduceAdd, eq_self, true_and, and_true, and_self, List.getElem?_cons_zero, List.getElem?_cons_succ, Nat.reduceLeDiff, Nat.zero_add, Nat.reduceSub, Nat.le_refl, Nat.lt_irrefl]
    first | exact ⟨⟨_, rfl, hv.ext e1, .inl rfl⟩, e1, o1⟩ | exact ⟨⟨_, rfl, hv.ext e1, .inl ⟨rfl, rfl⟩⟩, e1, o1⟩
  · have hpu := rput_src (g := g) (hv2.ext e1) (hds.ext e1) hlen (hd.ext e1) hdl
    simp only [cgV, cgC] at hpu
    simp -implicitDefEqProofs only [go_sem, Nat.reduceBEq, Nat.reduceAdd, eq_self, true_and, and_true, and_self, List.getElem?_cons_zero, List.getElem?_cons_succ, Nat.reduceLeDiff, Nat.zero_add, Nat.reduceSub, Nat.le_refl, hc, Bool.not_true]
    refine call_at hpu ?_
    rintro w τ2 ⟨a1, asr, e2, o2⟩
    refine ⟨e2.kept, ?_⟩
    have as2 : SrcC σ.live.length τ2 l w (putC g (l.map (·.2))) := by
      obtain ⟨O, q, x1, x2, x3, x5, x6, x4⟩ := asr
      exact ⟨O, q, x1, Nat.le_trans e1.llen x2, x3, x5, x6, fun p hp => (x4 p hp).imp_right fun ⟨r, y1, y2⟩ => ⟨r, y1, Nat.le_trans e1.llen y2⟩⟩
    clear asr
    obtain ⟨l2, h1, h2, h3⟩ := id a1
    obtain ⟨b2, R2, zz2, rfl, -, -⟩ := id h2
    have h0 : whyR (l.map (·.2)) room g = 0 := of_decide_eq_true hc
    rw [h0] at q2
    simp -implicitDefEqProofs only [go_sem, Nat.reduceBEq, Nat.reduceAdd, eq_self, true_and, and_true, and_self, List.getElem?_cons_zero, List.getElem?_cons_succ, Nat.reduceLeDiff, Nat.zero_add, Nat.reduceSub, Nat.le_refl, Nat.lt_irrefl]
    refine q2 _ _ ?_
    simp -implicitDefEqProofs only [go_sem, Nat.reduceBEq, Nat.reduceAdd, eq_self, true_and, and_true, and_self, List.getElem?_cons_zero, List.getElem?_cons_succ, Nat.reduceLeDiff, Nat.zero_add, Nat.reduceSub, Nat.le_refl, Nat.lt_irrefl]
    exact ⟨⟨_, rfl, a1, .inr as2⟩, e1.trans e2, o2.trans o1⟩
theorem radd_ok (hv : RdC σ v gs) (hlen : gs.length ≤ 1000000) (hd : RdS σ d 1 (intsV .i64 g.deps)) (hdl : g.deps.length ≤ 2000000) (hgl : ∀ h ∈ gs, h.deps.length ≤ 2000000) (hnl : g.name.length < 4611686018427387904) :
    CallA Try.prog 35 [.agg [.int .i64 room, v], cgV d g] σ fun w σ' => (∃ u, w = .tup [.agg [.int .i64 room, u], .int .i64 (whyR gs room g)] ∧ RdC σ' u (addR gs room g)) ∧ Ext σ σ' ∧ σ'.objs = σ.objs := by
  obtain ⟨l, rfl, hv2, hds⟩ := hv
  exact (radd_src hv2 hds (by rwa [List.length_map] at hlen) hd hdl hgl hnl).mono fun _ _ ⟨⟨u, h1, h2, _⟩, h3⟩ => ⟨⟨u, h1, h2⟩, h3⟩
set_option maxRecDepth 100000 in
set_option maxHeartbeats 4000000 in
theorem rall_ok (hv : RdC σ v gs) (hlen : gs.length ≤ 1000000) (hk : RdS σ u 1 (intsV .i64 k)) :
    CallA Try.prog 17 [v, u] σ fun w σ' => RdC σ' w (allR gs k) ∧ Ext σ σ' ∧ σ'.objs = σ.objs := by
  obtain ⟨l, rfl, hv, hds⟩ := hv
  obtain ⟨b, R, z, rfl, -, -⟩ := id hv
  refine fn_at Try.func17 (by decide) comp17 rfl fun Q q1 q2 => ?_
  have hcl := cgsV_len l
  rw [List.length_map] at hlen
  simp -implicitDefEqProofs only [go_sem, Nat.reduceBEq, Nat.reduceAdd, eq_self, true_and, and_true, and_self, List.getElem?_cons_zero, List.getElem?_cons_succ, Nat.reduceLeDiff, Nat.zero_add, Nat.reduceSub, Nat.le_refl, c17]
  have hA0 := Acc13.new (Ext.refl σ) rfl
  refine loop_at (fun (y : Nat × List (V × Cg) × Nat) => ⟨[(0, .v (.sl b R z (cgsV l))), (1, .v u), (5, .v (.sl false (.own y.2.2) 13 (cgsV y.2.1))), (6, .v (.int .i64 y.1))], []⟩)
    (fun y t => y.1 ≤ l.length ∧ y.2.1.map (·.2) = allR ((l.map (·.2)).take y.1) k ∧ Acc13 σ t y.2.2 y.2.1) (fun y => l.length - y.1) (0, [], σ.live.length) ?_ ?_ ?_
  · refine .inr ?_
    simp -implicitDefEqProofs only [go_sem, Nat.reduceBEq, Nat.reduceAdd, eq_self, true_and, and_true, and_self, List.getElem?_cons_zero, List.getElem?_cons_succ, Nat.reduceLeDiff, Nat.zero_add, Nat.reduceSub, Nat.le_refl, Nat.lt_irrefl]
    try exact ⟨rfl, rfl⟩
  · exact ⟨Nat.zero_le _, rfl, hA0⟩
  rintro ⟨y, O, q⟩ τ ⟨g1, g2, g3⟩ Z z1 z2 z3
  simp only at g1 g2 g3
  have hOl : O.length ≤ y := by
    have := congrArg List.length g2
    have h2 := allR_len ((l.map (·.2)).take y) k
    rw [List.length_map] at this
    rw [List.length_take] at h2
    omega
  simp -implicitDefEqProofs only [go_sem, Nat.reduceBEq, Nat.reduceAdd, eq_self, true_and, and_true, and_self, List.getElem?_cons_zero, List.getElem?_cons_succ, Nat.reduceLeDiff, Nat.zero_add, Nat.reduceSub, Nat.le_refl, hcl]
  refine CondW_b (fun hcc => ?_) (fun hcc => ?_)
  · have hi : y < l.length := by simpa using hcc
    have hget := cgsV_get hi
    have hwy : IntKind.i64.wrap ((y : Int) + 1) = ((y + 1 : Nat) : Int) := by rw [i64_in _ (by omega)]; omega
    obtain ⟨k1, k2⟩ := rdl (hv.ext g3.ext) (cgsV_ne hi)
    have htk : (l.map (·.2)).take (y + 1) = (l.map (·.2)).take y ++ [l[y].2] := by rw [List.take_succ_eq_append_getElem (by simpa using hi)]; simp
    have hdi := hds _ (List.getElem_mem hi)
    generalize l[y] = p at hget htk hdi
    obtain ⟨d2, h⟩ := p
    simp only at hget htk hdi
    obtain ⟨db, dr, dz, rfl, -, -⟩ := id hdi
    have hal := allR_snoc ((l.map (·.2)).take y) k h
    rw [← htk] at hal
    have hwi := within_ok (d := .sl db dr dz (intsV .i64 h.deps)) (g := h) (hk.ext g3.ext)
    simp only [cgV, cgC] at hwi
    have hO2 := cgsV_len O
    refine cut_at (fun G τ2 => ∃ O2 q2, G = ⟨[(0, .v (.sl b R z (cgsV l))), (1, .v u), (5, .v (.sl false (.own q2) 13 (cgsV O2))), (6, .v (.int .i64 y))], []⟩ ∧ O2.map (·.2) = allR ((l.map (·.2)).take (y + 1)) k ∧ Acc13 σ τ2 q2 O2) ?_ ?_
    case refine_2 =>
      rintro G τ2 ⟨O2, q2', rfl, t1, t2⟩
      simp -implicitDefEqProofs only [go_sem, Nat.reduceBEq, Nat.reduceAdd, eq_self, true_and, and_true, and_self, List.getElem?_cons_zero, List.getElem?_cons_succ, Nat.reduceLeDiff, Nat.zero_add, Nat.reduceSub, Nat.le_refl, hwy]
      refine z1 (y + 1, O2, _) _ _ (.inr ?_) (by simp only; omega) ⟨by simp only; omega, t1, t2⟩
      simp -implicitDefEqProofs only [go_sem, Nat.reduceBEq, Nat.reduceAdd, eq_self, true_and, and_true, and_self, List.getElem?_cons_zero, List.getElem?_cons_succ, Nat.reduceLeDiff, Nat.zero_add, Nat.reduceSub, Nat.le_refl, Nat.lt_irrefl]
      try exact ⟨rfl, rfl⟩
    intro Y y1 y2 y3
    simp -implicitDefEqProofs only [go_sem, Nat.reduceBEq, Nat.reduceAdd, eq_self, true_and, and_true, and_self, List.getElem?_cons_zero, List.getElem?_cons_succ, Nat.reduceLeDiff, Nat.zero_add, Nat.reduceSub, Nat.le_refl, hcl, hget, cgC]
    refine ⟨⟨by omega, by omega, k2⟩, k1, ?_⟩
    refine call_at hwi ?_
    rintro w τ2 ⟨rfl, hτ2⟩
    have hτ2 := hτ2.symm
    subst hτ2
    refine ⟨(Ext.refl _).kept, ?_⟩
    have hin : decide (h.seq ≤ atD k h.ar) = inC k h := rfl
    rw [hin]
    cases hx : inC k h <;> rw [hx] at hal
    · simp -implicitDefEqProofs only [go_sem, Nat.reduceBEq, Nat.reduceAdd, eq_self, true_and, and_true, and_self, List.getElem?_cons_zero, List.getElem?_cons_succ, Nat.reduceLeDiff, Nat.zero_add, Nat.reduceSub, Nat.le_refl, Bool.not_false, hcl, hget, cgC]
      refine ⟨⟨by omega, by omega, k2⟩, k1, ⟨.inr trivial, .inr ((ext_live _ _).live _ g3.live), ⟨.inr (live_last _ _), .inl trivial⟩, by omega⟩, ?_⟩
      refine y1 _ _ _ (.inr ?_) ⟨O ++ [(.sl db dr dz (intsV .i64 h.deps), h)], _, rfl, ?_, g3.app (.refl _) rfl (g3.old (.refl _) hdi)⟩
      · rw [← cgsV_snoc]
        simp -implicitDefEqProofs only [go_sem, Nat.reduceBEq, Nat.reduceAdd, eq_self, true_and, and_true, and_self, List.getElem?_cons_zero, List.getElem?_cons_succ, Nat.reduceLeDiff, Nat.zero_add, Nat.reduceSub, Nat.le_refl, cgC]
        try exact ⟨rfl, rfl⟩
      · rw [hal, List.map_append, g2]; rfl
    · simp -implicitDefEqProofs only [go_sem, Nat.reduceBEq, Nat.reduceAdd, eq_self, true_and, and_true, and_self, List.getElem?_cons_zero, List.getElem?_cons_succ, Nat.reduceLeDiff, Nat.zero_add, Nat.reduceSub, Nat.le_refl, Bool.not_true]
      refine y1 _ _ _ (.inr ?_) ⟨O, _, rfl, by rw [hal, g2]; rfl, g3⟩
      simp -implicitDefEqProofs only [go_sem, Nat.reduceBEq, Nat.reduceAdd, eq_self, true_and, and_true, and_self, List.getElem?_cons_zero, List.getElem?_cons_succ, Nat.reduceLeDiff, Nat.zero_add, Nat.reduceSub, Nat.le_refl, Nat.lt_irrefl]
      try exact ⟨rfl, rfl⟩
  · rw [List.take_of_length_le (by have : ¬ y < l.length := by simpa using hcc
                                   rw [map2_len]; omega)] at g2
    have hrd := g3.rd
    rw [g2] at hrd
    simp -implicitDefEqProofs only [go_sem, Nat.reduceBEq, Nat.reduceAdd, eq_self, true_and, and_true, and_self, List.getElem?_cons_zero, List.getElem?_cons_succ, Nat.reduceLeDiff, Nat.zero_add, Nat.reduceSub, Nat.le_refl, Nat.lt_irrefl]
    refine z2 _ _ _ ?_
    simp -implicitDefEqProofs only [go_sem, Nat.reduceBEq, Nat.reduceAdd, eq_self, true_and, and_true, and_self, List.getElem?_cons_zero, List.getElem?_cons_succ, Nat.reduceLeDiff, Nat.zero_add, Nat.reduceSub, Nat.le_refl, Nat.lt_irrefl]
    refine q2 _ _ ?_
    simp -implicitDefEqProofs only [go_sem, Nat.reduceBEq, Nat.reduceAdd, eq_self, true_and, and_true, and_self, List.getElem?_cons_zero, List.getElem?_cons_succ, Nat.reduceLeDiff, Nat.zero_add, Nat.reduceSub, Nat.le_refl, Nat.lt_irrefl]
    exact ⟨hrd, g3.ext, g3.objs⟩
set_option maxRecDepth 100000 in
set_option maxHeartbeats 4000000 in
theorem rsince_ok (hv : RdC σ v gs) (hlen : gs.length ≤ 1000000) (hk : RdS σ u 1 (intsV .i64 k)) :
    CallA Try.prog 32 [v, u, .int .i64 most] σ fun w σ' => (∃ a, w = .tup [a, .bool (sinceM gs k most), .int .i64 (sinceI k most)] ∧ RdC σ' a (sinceL gs k most)) ∧ Ext σ σ' ∧ σ'.objs = σ.objs := by
  refine fn_at Try.func32 (by decide) comp32 rfl fun Q q1 q2 => ?_
  have hck := rclock_ok hk
  have hn0 : ∀ τ : St, RdC τ (.sl true .pub 13 []) [] := fun τ => ⟨[], rfl, ⟨_, _, _, rfl, fun _ => rfl, .inl rfl⟩, by intro p hp; cases hp⟩
  unfold sinceM sinceL at q1 q2
  simp -implicitDefEqProofs only [go_sem, Nat.reduceBEq, Nat.reduceAdd, eq_self, true_and, and_true, and_self, List.getElem?_cons_zero, List.getElem?_cons_succ, Nat.reduceLeDiff, Nat.zero_add, Nat.reduceSub, Nat.le_refl, c32]
  refine call_at hck ?_
  rintro w τ2 ⟨hτ2, rfl⟩
  have hτ2 := hτ2.symm
  subst hτ2
  refine ⟨(Ext.refl _).kept, ?_⟩
  cases hc : decide (clockI k = 0)
  · have hs : sinceI k most = clockI k := by unfold sinceI; rw [hc]; rfl
    rw [hs, hc] at q1 q2
    simp -implicitDefEqProofs only [go_sem, Nat.reduceBEq, Nat.reduceAdd, eq_self, true_and, and_true, and_self, List.getElem?_cons_zero, List.getElem?_cons_succ, Nat.reduceLeDiff, Nat.zero_add, Nat.reduceSub, Nat.le_refl, hc, Bool.not_false]
    refine call_at hck ?_
    rintro w τ2 ⟨hτ2, rfl⟩
    have hτ2 := hτ2.symm
    subst hτ2
    refine ⟨(Ext.refl _).kept, ?_⟩
    simp -implicitDefEqProofs only [go_sem, Nat.reduceBEq, Nat.reduceAdd, eq_self, true_and, and_true, and_self, List.getElem?_cons_zero, List.getElem?_cons_succ, Nat.reduceLeDiff, Nat.zero_add, Nat.reduceSub, Nat.le_refl, Nat.lt_irrefl]
    refine q2 _ _ ?_
    simp -implicitDefEqProofs only [go_sem, Nat.reduceBEq, Nat.reduceAdd, eq_self, true_and, and_true, and_self, List.getElem?_cons_zero, List.getElem?_cons_succ, Nat.reduceLeDiff, Nat.zero_add, Nat.reduceSub, Nat.le_refl, Nat.lt_irrefl]
    exact ⟨⟨_, rfl, hn0 _⟩, .refl _⟩
  cases hm : decide (most < 1)
  case true =>
    have hs : sinceI k most = 1 := by unfold sinceI; rw [hc, hm]; rfl
    have h10 : decide ((1 : Int) = 0) = false := by decide
    rw [hs, h10] at q1 q2
    simp -implicitDefEqProofs only [go_sem, Nat.reduceBEq, Nat.reduceAdd, eq_self, true_and, and_true, and_self, List.getElem?_cons_zero, List.getElem?_cons_succ, Nat.reduceLeDiff, Nat.zero_add, Nat.reduceSub, Nat.le_refl, hc, Bool.not_true, hm]
    refine q2 _ _ ?_
    simp -implicitDefEqProofs only [go_sem, Nat.reduceBEq, Nat.reduceAdd, eq_self, true_and, and_true, and_self, List.getElem?_cons_zero, List.getElem?_cons_succ, Nat.reduceLeDiff, Nat.zero_add, Nat.reduceSub, Nat.le_refl, Nat.lt_irrefl]
    exact ⟨⟨_, rfl, hn0 _⟩, .refl _⟩
  have hs : sinceI k most = 0 := by unfold sinceI; rw [hc, hm]; rfl
  have h00 : decide ((0 : Int) = 0) = true := by decide
  have hm1 : 1 ≤ most := by have := of_decide_eq_false hm; omega
  rw [hs, h00] at q1 q2
  simp only [Bool.true_and, cond_true] at q1 q2
  simp -implicitDefEqProofs only [go_sem, Nat.reduceBEq, Nat.reduceAdd, eq_self, true_and, and_true, and_self, List.getElem?_cons_zero, List.getElem?_cons_succ, Nat.reduceLeDiff, Nat.zero_add, Nat.reduceSub, Nat.le_refl, hc, Bool.not_true, hm]
  refine call_at (rall_ok hv hlen hk) ?_
  rintro w τ2 ⟨a1, e1, o1⟩
  refine ⟨kept_none, ?_⟩
  obtain ⟨l2, h1, h2, h3⟩ := id a1
  obtain ⟨b2, R2, zz2, rfl, -, -⟩ := id h2
  have hl2 : (cgsV l2).length = (allR gs k).length := by rw [← h1, cgsV_len, map2_len]
  cases hg : decide (((allR gs k).length : Int) > most) <;> rw [hg] at q1 q2
  · have htk : (allR gs k).take most.toNat = allR gs k := List.take_of_length_le (by have := of_decide_eq_false hg; omega)
    rw [htk] at q1 q2
    simp -implicitDefEqProofs only [go_sem, Nat.reduceBEq, Nat.reduceAdd, eq_self, true_and, and_true, and_self, List.getElem?_cons_zero, List.getElem?_cons_succ, Nat.reduceLeDiff, Nat.zero_add, Nat.reduceSub, Nat.le_refl, hl2, hg]
    refine q2 _ _ ?_
    simp -implicitDefEqProofs only [go_sem, Nat.reduceBEq, Nat.reduceAdd, eq_self, true_and, and_true, and_self, List.getElem?_cons_zero, List.getElem?_cons_succ, Nat.reduceLeDiff, Nat.zero_add, Nat.reduceSub, Nat.le_refl, Nat.lt_irrefl]
    exact ⟨⟨_, rfl, a1⟩, e1, o1⟩
  · have hlt := of_decide_eq_true hg
    have htk := rdC_take (n := most.toNat) a1
    obtain ⟨q8, q9⟩ := rd_src h2
    simp -implicitDefEqProofs only [go_sem, Nat.reduceBEq, Nat.reduceAdd, eq_self, true_and, and_true, and_self, List.getElem?_cons_zero, List.getElem?_cons_succ, Nat.reduceLeDiff, Nat.zero_add, Nat.reduceSub, Nat.le_refl, hl2, hg]
    refine ⟨⟨rd_z h2, by omega, by omega, by omega⟩, ?_⟩
    refine q2 _ _ ?_
    simp -implicitDefEqProofs only [go_sem, Nat.reduceBEq, Nat.reduceAdd, eq_self, true_and, and_true, and_self, List.getElem?_cons_zero, List.getElem?_cons_succ, Nat.reduceLeDiff, Nat.zero_add, Nat.reduceSub, Nat.le_refl, Nat.lt_irrefl]
    exact ⟨⟨_, rfl, htk⟩, e1, o1⟩
set_option maxRecDepth 100000 in
set_option maxHeartbeats 1000000 in
theorem rlast_ok (hv : RdC σ v gs) (hlen : gs.length ≤ 1000000) : CallA Try.prog 61 [v] σ fun w σ' => w = .int .i64 (lastR gs) ∧ σ' = σ := by
  obtain ⟨l, rfl, hv, hds⟩ := hv
  obtain ⟨b, R, z, rfl, -, -⟩ := id hv
  refine fn_at Try.func61 (by decide) comp61 rfl fun Q q1 q2 => ?_
  have hcl := cgsV_len l
  rw [List.length_map] at hlen
  simp -implicitDefEqProofs only [go_sem, Nat.reduceBEq, Nat.reduceAdd, eq_self, true_and, and_true, and_self, List.getElem?_cons_zero, List.getElem?_cons_succ, Nat.reduceLeDiff, Nat.zero_add, Nat.reduceSub, Nat.le_refl, c61]
  refine loop_at (fun (y : Nat) => ⟨[(0, .v (.sl b R z (cgsV l))), (3, .v (.int .i64 (lastR ((l.map (·.2)).take y)))), (4, .v (.int .i64 y))], []⟩)
    (fun y t => y ≤ l.length ∧ t = σ) (fun y => l.length - y) 0 ?_ ?_ ?_
  · refine .inr ?_
    simp -implicitDefEqProofs only [go_sem, Nat.reduceBEq, Nat.reduceAdd, eq_self, true_and, and_true, and_self, List.getElem?_cons_zero, List.getElem?_cons_succ, Nat.reduceLeDiff, Nat.zero_add, Nat.reduceSub, Nat.le_refl, Nat.lt_irrefl]
    try exact ⟨rfl, rfl⟩
    try rfl
  · exact ⟨Nat.zero_le _, rfl⟩
  rintro y τ ⟨g1, hτ⟩ Z z1 z2 z3
  have hτ := hτ.symm
  subst hτ
  simp -implicitDefEqProofs only [go_sem, Nat.reduceBEq, Nat.reduceAdd, eq_self, true_and, and_true, and_self, List.getElem?_cons_zero, List.getElem?_cons_succ, Nat.reduceLeDiff, Nat.zero_add, Nat.reduceSub, Nat.le_refl, hcl]
  refine CondW_b (fun hcc => ?_) (fun hcc => ?_)
  · have hi : y < l.length := by simpa using hcc
    have hget := cgsV_get hi
    have hwy : IntKind.i64.wrap ((y : Int) + 1) = ((y + 1 : Nat) : Int) := by rw [i64_in _ (by omega)]; omega
    obtain ⟨k1, k2⟩ := rdl hv (cgsV_ne hi)
    have htk : (l.map (·.2)).take (y + 1) = (l.map (·.2)).take y ++ [l[y].2] := by rw [List.take_succ_eq_append_getElem (by simpa using hi)]; simp
    generalize hp : l[y] = p at hget htk
    obtain ⟨d2, h⟩ := p
    simp only at hget htk
    have hla := lastR_snoc ((l.map (·.2)).take y) h
    rw [← htk] at hla
    simp -implicitDefEqProofs only [go_sem, Nat.reduceBEq, Nat.reduceAdd, eq_self, true_and, and_true, and_self, List.getElem?_cons_zero, List.getElem?_cons_succ, Nat.reduceLeDiff, Nat.zero_add, Nat.reduceSub, Nat.le_refl, hcl, hget, cgC]
    refine ⟨⟨by omega, by omega, k2⟩, k1, ?_⟩
    refine z1 (y + 1) _ _ (.inr ?_) (by omega) ⟨by omega, rfl⟩
    have hmx : (if h.ac > lastR ((l.map (·.2)).take y) then h.ac else lastR ((l.map (·.2)).take y)) = max (lastR ((l.map (·.2)).take y)) h.ac := by
      rw [Int.max_def]; split <;> split <;> omega
    simp -implicitDefEqProofs only [go_sem, Nat.reduceBEq, Nat.reduceAdd, eq_self, true_and, and_true, and_self, List.getElem?_cons_zero, List.getElem?_cons_succ, Nat.reduceLeDiff, Nat.zero_add, Nat.reduceSub, Nat.le_refl, hla, hwy]
    rw [hmx]
  · have hy : y = l.length := by have : ¬ y < l.length := by simpa using hcc
                                 omega
    have htk : (l.map (·.2)).take y = l.map (·.2) := List.take_of_length_le (by rw [map2_len]; omega)
    simp -implicitDefEqProofs only [go_sem, Nat.reduceBEq, Nat.reduceAdd, eq_self, true_and, and_true, and_self, List.getElem?_cons_zero, List.getElem?_cons_succ, Nat.reduceLeDiff, Nat.zero_add, Nat.reduceSub, Nat.le_refl, htk]
    refine z2 _ _ _ ?_
    simp -implicitDefEqProofs only [go_sem, Nat.reduceBEq, Nat.reduceAdd, eq_self, true_and, and_true, and_self, List.getElem?_cons_zero, List.getElem?_cons_succ, Nat.reduceLeDiff, Nat.zero_add, Nat.reduceSub, Nat.le_refl, Nat.lt_irrefl]
    refine q2 _ _ ?_
    simp -implicitDefEqProofs only [go_sem, Nat.reduceBEq, Nat.reduceAdd, eq_self, true_and, and_true, and_self, List.getElem?_cons_zero, List.getElem?_cons_succ, Nat.reduceLeDiff, Nat.zero_add, Nat.reduceSub, Nat.le_refl, Nat.lt_irrefl]
end
end Go.VL.opl

namespace Go.VL.opl
open Go Go.VL Go.Proofs Go.IntWalk Go.VL.st Go.VL.row

def ownL (L : List Cg) (r : Int) : List Cg := L.filter fun g => decide (g.ar = r)
theorem ownL_len (L : List Cg) (r : Int) : (ownL L r).length = cnt L r := rfl
structure Good (L : List Cg) : Prop where
  srt : L.Pairwise fun a b => st.less (atS a) (atS b) = true
  chk : ∀ g ∈ L, chkI g = 0
  seq : ∀ (r : Int) (j : Nat) (h : j < (ownL L r).length), (ownL L r)[j].seq = j + 1
theorem good_nil : Good [] := ⟨.nil, by simp, fun r j h => by simp [ownL] at h⟩
/-- What a right change has. -/
theorem chk_has {g : Cg} (hok : chkI g = 0) : st.right (atS g) = true ∧ (1 ≤ g.seq ∧ g.seq ≤ g.ac) ∧ clockI g.deps = 0 ∧ atD g.deps g.ar = g.seq - 1 := by
  unfold chkI at hok
  cases h1 : (decide (g.kind < 1) || decide (5 < g.kind)) <;> rw [h1] at hok
  case true => cases hok
  simp only [cond_false] at hok
  cases h2 : right g.ac g.ar <;> rw [h2] at hok
  · cases hok
  cases h3 : (decide (g.seq < 1) || decide (g.ac < g.seq)) <;> rw [h3] at hok
  case true => cases hok
  simp only [Bool.or_eq_false_iff, decide_eq_false_iff_not] at h3
  simp only [Bool.not_true, cond_false] at hok
  have hd : depsI g = 0 := by
    cases h4 : decide (depsI g = 0) <;> rw [h4] at hok
    · simp only [Bool.not_false, cond_true] at hok
      exact absurd hok (of_decide_eq_false h4)
    · exact of_decide_eq_true h4
  refine ⟨h2, ⟨by omega, by omega⟩, ?_⟩
  unfold depsI at hd
  cases h5 : decide (clockI g.deps = 0) <;> rw [h5] at hd
  · simp only [Bool.not_false, cond_true] at hd
    exact absurd hd (of_decide_eq_false h5)
  simp only [Bool.not_true, cond_false] at hd
  cases h6 : decide (atD g.deps g.ar = g.seq - 1)
  · rw [h6, Bool.not_false, Bool.or_true] at hd
    cases hd
  · exact ⟨of_decide_eq_true h5, of_decide_eq_true h6⟩
theorem right_has {s : Sp} (h : st.right s = true) : (1 ≤ s.c ∧ s.c ≤ 1099511627776) ∧ 0 ≤ s.r ∧ s.r < 64 := by
  simp only [st.right, Bool.and_eq_true, decide_eq_true_eq] at h
  exact ⟨⟨h.1, h.2.1⟩, h.2.2.1, h.2.2.2⟩
theorem clock_has {l : List Int} (h : clockI l = 0) : l.length ≤ 64 ∧ ∀ n ∈ l, 0 ≤ n ∧ n ≤ 1099511627776 := by
  unfold clockI at h
  cases h1 : decide ((64 : Int) < l.length) <;> rw [h1] at h
  case true => cases h
  simp only [cond_false] at h
  cases h2 : l.any badN <;> rw [h2] at h
  case true => cases h
  rw [List.any_eq_false] at h2
  refine ⟨by have := of_decide_eq_false h1; omega, fun n hn => ?_⟩
  have := h2 n hn
  simp only [badN, Bool.not_eq_true, Bool.or_eq_false_iff, decide_eq_false_iff_not] at this
  omega
theorem srt_uniq1 {L : List Cg} (h : L.Pairwise fun a b => st.less (atS a) (atS b) = true) {a b : Cg} (ha : a ∈ L) (hb : b ∈ L) (e : atS a = atS b) : a = b := by
  obtain ⟨i, hi, rfl⟩ := List.getElem_of_mem ha
  obtain ⟨j, hj, rfl⟩ := List.getElem_of_mem hb
  rw [List.pairwise_iff_getElem] at h
  rcases Nat.lt_trichotomy i j with k | k | k
  · have := h i j hi hj k
    rw [e, less_irr] at this; cases this
  · subst k; rfl
  · have := h j i hj hi k
    rw [e, less_irr] at this; cases this
theorem find_A {L : List Cg} (h : L.Pairwise fun a b => st.less (atS a) (atS b) = true) {x : Sp} {g : Cg} : L.find? (isA x) = some g ↔ g ∈ L ∧ atS g = x := by
  constructor
  · intro e
    have h1 := List.find?_some e
    exact ⟨List.mem_of_find?_eq_some e, of_decide_eq_true h1⟩
  · rintro ⟨h1, h2⟩
    cases hf : L.find? (isA x) with
    | none =>
      rw [List.find?_eq_none] at hf
      exact absurd (by simp [isA, h2]) (hf g h1)
    | some k =>
      have h3 := List.find?_some hf
      rw [srt_uniq1 h (List.mem_of_find?_eq_some hf) h1 ((of_decide_eq_true h3).trans h2.symm)]
theorem find_A_none {L : List Cg} {x : Sp} : L.find? (isA x) = none ↔ ∀ g ∈ L, atS g ≠ x := by
  rw [List.find?_eq_none]
  simp [isA]
theorem own_mem {L : List Cg} {r : Int} {g : Cg} : g ∈ ownL L r ↔ g ∈ L ∧ g.ar = r := by simp [ownL]
theorem Good.find_O {L : List Cg} (h : Good L) {r n : Int} (hn : 1 ≤ n) : L.find? (isO r n) = (ownL L r)[n.toNat - 1]? := by
  cases hf : L.find? (isO r n) with
  | some g =>
    have h1 := List.find?_some hf
    simp only [isO, Bool.and_eq_true, decide_eq_true_eq] at h1
    obtain ⟨j, hj, hg⟩ := List.getElem_of_mem (own_mem.2 ⟨List.mem_of_find?_eq_some hf, h1.1⟩)
    have h2 := h.seq r j hj
    rw [hg, h1.2] at h2
    rw [show n.toNat - 1 = j by omega, List.getElem?_eq_getElem hj, hg]
  | none =>
    rw [List.find?_eq_none] at hf
    by_cases hj : n.toNat - 1 < (ownL L r).length
    · have h2 := h.seq r _ hj
      have h3 := own_mem.1 (List.getElem_mem hj)
      refine absurd ?_ (hf _ h3.1)
      simp only [isO, h3.2, h2, decide_true, Bool.true_and, decide_eq_true_eq]
      omega
    · rw [List.getElem?_eq_none (by omega)]
theorem Good.isO_cnt {L : List Cg} (h : Good L) {r n : Int} (hn : 1 ≤ n) : (L.find? (isO r n)).isSome = decide (n ≤ cnt L r) := by
  rw [h.find_O hn]
  by_cases hj : n.toNat - 1 < (ownL L r).length
  · rw [List.getElem?_eq_getElem hj, Option.isSome_some]
    rw [ownL_len] at hj
    simp; omega
  · rw [List.getElem?_eq_none (by omega), Option.isSome_none]
    rw [ownL_len] at hj
    simp; omega
/-- Where a stamp stands, or would. -/
def PlaceAt (L : List Cg) (x : Sp) (i : Nat) : Prop := i ≤ L.length ∧ (∀ (k : Nat) (h : k < L.length), k < i → st.less (atS L[k]) x = true) ∧ ∀ (k : Nat) (h : k < L.length), i ≤ k → st.less (atS L[k]) x = false
theorem PlaceAt.found {L : List Cg} {x : Sp} {i : Nat} (h : PlaceAt L x i) (hs : L.Pairwise fun a b => st.less (atS a) (atS b) = true) :
    (L.find? (isA x) = none ∧ ∀ hi : i < L.length, atS L[i] ≠ x) ∨ ∃ hi : i < L.length, atS L[i] = x ∧ L.find? (isA x) = some L[i] := by
  by_cases hc : ∃ hi : i < L.length, atS L[i] = x
  · obtain ⟨hi, e⟩ := hc
    exact .inr ⟨hi, e, (find_A hs).2 ⟨List.getElem_mem hi, e⟩⟩
  · refine .inl ⟨find_A_none.2 fun g hg e => ?_, fun hi e => hc ⟨hi, e⟩⟩
    obtain ⟨k, hk, rfl⟩ := List.getElem_of_mem hg
    rcases Nat.lt_trichotomy k i with h1 | h1 | h1
    · have := h.2.1 k hk h1
      rw [e, less_irr] at this; cases this
    · subst h1; exact hc ⟨hk, e⟩
    · have h2 := (List.pairwise_iff_getElem.1 hs) i k (by omega) hk h1
      rw [e] at h2
      rw [h.2.2 i (by omega) (Nat.le_refl _)] at h2; cases h2
theorem PlaceAt.put {L : List Cg} {g : Cg} {i : Nat} (h : PlaceAt L (atS g) i) (hn : L.find? (isA (atS g)) = none) : putC g L = L.take i ++ g :: L.drop i := by
  rw [find_A_none] at hn
  induction L generalizing i with
  | nil => simp [putC]
  | cons a t ih =>
    obtain ⟨h1, h2, h3⟩ := h
    cases i with
    | zero =>
      have e1 : st.less (atS a) (atS g) = false := h3 0 (by simp) (Nat.le_refl _)
      have e2 : lessC g a = true := less_of e1 (hn a (by simp))
      simp [putC, e2]
    | succ i =>
      have e1 : st.less (atS a) (atS g) = true := h2 0 (by simp) (by omega)
      have e2 : lessC g a = false := less_asymm e1
      simp only [putC, e2, cond_false, List.take_succ_cons, List.drop_succ_cons, List.cons_append]
      rw [ih (i := i) ⟨by simp at h1; omega, fun k hk hki => h2 (k + 1) (by simpa using hk) (by omega), fun k hk hki => h3 (k + 1) (by simpa using hk) (by omega)⟩ fun x hx => hn x (by simp [hx])]
theorem putC_srt {g : Cg} : ∀ {L : List Cg}, (L.Pairwise fun a b => st.less (atS a) (atS b) = true) → (∀ h ∈ L, atS h ≠ atS g) → (putC g L).Pairwise fun a b => st.less (atS a) (atS b) = true
  | [], _, _ => by simp [putC]
  | a :: t, hs, hn => by
    rw [List.pairwise_cons] at hs
    simp only [putC]
    cases e : lessC g a
    · rw [cond_false, List.pairwise_cons]
      have h1 : st.less (atS a) (atS g) = true := less_of e (Ne.symm (hn a (by simp)))
      refine ⟨fun x hx => ?_, putC_srt hs.2 fun h hh => hn h (by simp [hh])⟩
      rcases putC_mem.1 hx with rfl | hx
      · exact h1
      · exact hs.1 x hx
    · rw [cond_true, List.pairwise_cons, List.pairwise_cons]
      refine ⟨fun x hx => ?_, hs.1, hs.2⟩
      rcases List.mem_cons.1 hx with rfl | hx
      · exact e
      · exact less_trans e (hs.1 x hx)
theorem putC_own {g : Cg} {r : Int} (hr : g.ar ≠ r) : ∀ L : List Cg, ownL (putC g L) r = ownL L r
  | [] => by simp [putC, ownL, hr]
  | a :: t => by
    have ih := putC_own hr t
    unfold ownL at ih ⊢
    simp only [putC]
    cases lessC g a
    · rw [cond_false, List.filter_cons, List.filter_cons, ih]
    · rw [cond_true, List.filter_cons]; simp [hr]
theorem putC_own' {g : Cg} : ∀ {L : List Cg}, (∀ h ∈ ownL L g.ar, lessC g h = false) → (L.Pairwise fun a b => st.less (atS a) (atS b) = true) → ownL (putC g L) g.ar = ownL L g.ar ++ [g]
  | [], _, _ => by simp [putC, ownL]
  | a :: t, h, hs => by
    rw [List.pairwise_cons] at hs
    simp only [putC]
    cases e : lessC g a
    · have ih := putC_own' (L := t) (fun x hx => h x (by rw [own_mem] at hx ⊢; exact ⟨by simp [hx.1], hx.2⟩)) hs.2
      rw [cond_false]
      unfold ownL at ih ⊢
      rw [List.filter_cons, List.filter_cons, ih]
      split <;> rfl
    · rw [cond_true]
      have hn : ∀ x ∈ a :: t, x.ar ≠ g.ar := by
        intro x hx e2
        have h1 := h x (own_mem.2 ⟨hx, e2⟩)
        rcases List.mem_cons.1 hx with rfl | hx
        · rw [e] at h1; cases h1
        · have : lessC g x = true := less_trans e (hs.1 x hx)
          rw [this] at h1; cases h1
      have e0 : ownL (a :: t) g.ar = [] := by
        unfold ownL
        rw [List.filter_eq_nil_iff]
        intro x hx
        simp [hn x hx]
      have e1 : ownL (g :: a :: t) g.ar = g :: ownL (a :: t) g.ar := by unfold ownL; rw [List.filter_cons]; simp
      rw [e1, e0]; rfl
theorem putC_find {L : List Cg} {g : Cg} (hs : L.Pairwise fun a b => st.less (atS a) (atS b) = true) (hn : ∀ h ∈ L, atS h ≠ atS g) (x : Sp) : (putC g L).find? (isA x) = if x = atS g then some g else L.find? (isA x) := by
  split
  · rename_i e
    exact (find_A (putC_srt hs hn)).2 ⟨putC_mem.2 (.inl rfl), e.symm⟩
  · rename_i e
    cases hf : L.find? (isA x) with
    | some h =>
      obtain ⟨h1, h2⟩ := (find_A hs).1 hf
      exact (find_A (putC_srt hs hn)).2 ⟨putC_mem.2 (.inr h1), h2⟩
    | none =>
      rw [find_A_none] at hf ⊢
      intro h hh
      rcases putC_mem.1 hh with rfl | hh
      · exact Ne.symm e
      · exact hf h hh
/-- What makes a change fit. -/
structure Fits (L : List Cg) (room : Int) (g : Cg) : Prop where
  chk : chkI g = 0
  new : L.find? (isA (atS g)) = none
  seq : g.seq = cnt L g.ar + 1
  und : underI g.deps (cnts L) = true
  beh : behB L g = true
  room : (L.length : Int) < room
theorem why_fits {L : List Cg} {room : Int} {g : Cg} (h : whyR L room g = 0) : Fits L room g := by
  unfold whyR at h
  cases h1 : decide (chkI g = 0) <;> rw [h1] at h
  · simp only [Bool.not_false, cond_true] at h
    exact absurd h (of_decide_eq_false h1)
  simp only [Bool.not_true, cond_false] at h
  cases h2 : L.find? (isA (atS g)) with
  | some k =>
    rw [h2] at h
    simp only at h
    cases hs : sameC k g <;> rw [hs] at h <;> cases h
  | none =>
    rw [h2] at h
    simp only at h
    cases h3 : (L.find? (isO g.ar g.seq)).isSome <;> rw [h3] at h
    case true => cases h
    simp only [cond_false] at h
    cases h4 : decide (g.seq = (cnt L g.ar : Int) + 1) <;> rw [h4] at h
    · cases h
    cases h5 : underI g.deps (cnts L) <;> rw [h5] at h
    · cases h
    simp only [Bool.not_true, Bool.or_self, cond_false] at h
    cases h6 : behB L g <;> rw [h6] at h
    · cases h
    simp only [Bool.not_true, cond_false] at h
    cases h7 : decide ((L.length : Int) ≥ room) <;> rw [h7] at h
    · exact ⟨of_decide_eq_true h1, h2, of_decide_eq_true h4, h5, h6, by have := of_decide_eq_false h7; omega⟩
    · cases h
theorem all_get {n i : Nat} {f : Nat → Bool} (h : (List.range n).all f = true) (hi : i < n) : f i = true := List.all_eq_true.1 h i (List.mem_range.2 hi)
theorem Fits.own_less {L : List Cg} {room : Int} {g : Cg} (k : Fits L room g) (h : Good L) : ∀ x ∈ ownL L g.ar, st.less (atS x) (atS g) = true := by
  intro x hx
  obtain ⟨h1, h2, h3, h4⟩ := chk_has k.chk
  obtain ⟨-, hr⟩ := right_has h1
  have hr : 0 ≤ g.ar ∧ g.ar < 64 := hr
  obtain ⟨j, hj, rfl⟩ := List.getElem_of_mem hx
  have hjc := hj
  rw [ownL_len] at hjc
  have hseq := k.seq
  have hne : atD g.deps g.ar ≠ 0 := by rw [h4]; omega
  have hlt : g.ar.toNat < g.deps.length ∧ g.deps[g.ar.toNat]?.getD 0 = g.seq - 1 := by
    unfold atD at h4 hne
    cases h5 : decide (g.ar < g.deps.length)
    · rw [h5, Bool.and_false] at hne; exact absurd rfl hne
    · rw [h5, show decide (0 ≤ g.ar) = true by simp [hr.1]] at h4
      exact ⟨by have := of_decide_eq_true h5; omega, h4⟩
  have hb := k.beh
  unfold behB depsB at hb
  rw [Bool.and_eq_true] at hb
  have hd := all_get hb.1 hlt.1
  rw [hlt.2, show ((g.ar.toNat : Nat) : Int) = g.ar by omega] at hd
  unfold depB at hd
  have h0 : decide (g.seq - 1 = 0) = false := by rw [decide_eq_false_iff_not]; omega
  rw [h0, Bool.false_or, h.find_O (by omega)] at hd
  have hl : (g.seq - 1).toNat - 1 < (ownL L g.ar).length := by rw [ownL_len]; omega
  rw [List.getElem?_eq_getElem hl] at hd
  simp only at hd
  have hso : (ownL L g.ar).Pairwise fun a b => st.less (atS a) (atS b) = true := h.srt.sublist List.filter_sublist
  rcases Nat.lt_or_ge j ((g.seq - 1).toNat - 1) with hlt2 | hge
  · exact less_trans ((List.pairwise_iff_getElem.1 hso) j _ hj hl hlt2) hd
  · have : j = (g.seq - 1).toNat - 1 := by omega
    subst this; exact hd
theorem Fits.own {L : List Cg} {room : Int} {g : Cg} (k : Fits L room g) (h : Good L) : ownL (putC g L) g.ar = ownL L g.ar ++ [g] :=
  putC_own' (fun x hx => less_asymm (k.own_less h x hx)) h.srt
theorem Fits.good {L : List Cg} {room : Int} {g : Cg} (k : Fits L room g) (h : Good L) : Good (putC g L) := by
  refine ⟨putC_srt h.srt (find_A_none.1 k.new), fun x hx => ?_, fun r j hj => ?_⟩
  · rcases putC_mem.1 hx with rfl | hx
    · exact k.chk
    · exact h.chk x hx
  · by_cases hr : g.ar = r
    · subst hr
      have e := k.own h
      have hj' := hj
      rw [e, List.length_append, List.length_singleton] at hj'
      have hget : (ownL (putC g L) g.ar)[j] = (ownL L g.ar ++ [g])[j]'(by simpa using hj') := by simp only [e]
      rw [hget]
      by_cases hlt : j < (ownL L g.ar).length
      · rw [List.getElem_append_left hlt]; exact h.seq _ _ hlt
      · have : j = (ownL L g.ar).length := by omega
        subst this
        rw [List.getElem_append_right (Nat.le_refl _)]
        simp only [Nat.sub_self, List.getElem_singleton]
        rw [k.seq, ownL_len]
    · have e := putC_own hr L
      have hj' : j < (ownL L r).length := by rw [← e]; exact hj
      have hget : (ownL (putC g L) r)[j] = (ownL L r)[j] := by simp only [e]
      rw [hget]; exact h.seq _ _ hj'
theorem addR_good {L : List Cg} {room : Int} {g : Cg} (h : Good L) : Good (addR L room g) := by
  unfold addR
  cases hc : decide (whyR L room g = 0)
  · exact h
  · exact (why_fits (of_decide_eq_true hc)).good h
theorem addR_len {L : List Cg} {room : Int} {g : Cg} : (addR L room g).length ≤ L.length + 1 := by
  unfold addR
  cases decide (whyR L room g = 0)
  · simp
  · simp [putC_len]
/-- What known tells. -/
def knI (L : List Cg) (g : Cg) : Int := match L.find? (isA (atS g)) with
  | some h => bif sameC h g then 5 else 7
  | none => bif decide (g.seq ≤ cnt L g.ar) then 7 else 0
/-- What ready tells. -/
def rdI (L : List Cg) (g : Cg) : Int := bif !decide (g.seq = cnt L g.ar + 1) then 4 else bif !underI g.deps (cnts L) then 4 else bif !depsB L g then 2 else bif !namesB L g then 2 else 0
theorem why_prog {L : List Cg} {room : Int} {g : Cg} (h : Good L) (hc : chkI g = 0) : whyR L room g = bif !decide (knI L g = 0) then knI L g else bif !decide (rdI L g = 0) then rdI L g else bif decide ((L.length : Int) ≥ room) then 6 else 0 := by
  obtain ⟨h1, h2, -⟩ := chk_has hc
  unfold whyR knI
  rw [hc]
  simp only [decide_true, Bool.not_true, cond_false]
  cases L.find? (isA (atS g)) with
  | some k => rcases Bool.eq_false_or_eq_true (sameC k g) with e | e <;> simp [e]
  | none =>
    simp only
    rw [h.isO_cnt h2.1]
    by_cases hd : g.seq ≤ (cnt L g.ar : Int)
    · simp [hd]
    · simp only [hd, decide_false, cond_false, decide_true, Bool.not_true]
      unfold rdI behB
      by_cases e1 : g.seq = (cnt L g.ar : Int) + 1
      · rcases Bool.eq_false_or_eq_true (underI g.deps (cnts L)) with e2 | e2 <;> rcases Bool.eq_false_or_eq_true (depsB L g) with e3 | e3 <;> rcases Bool.eq_false_or_eq_true (namesB L g) with e4 | e4 <;> simp [e1, e2, e3, e4]
      · simp [e1]
end Go.VL.opl

namespace Go.VL.opl
open Go Go.VL Go.Proofs Go.IntWalk Go.VL.st Go.VL.row

abbrev KL : List LK := [.agg, .int .i64, .int .i64]
abbrev cgL (P : List (V × Cg)) : List Cg := P.map (·.2)
def MapOk (σ : St) (mo : Option Nat) (L : List Cg) : Prop := match mo with
  | some m => ∃ es ver, σ.objs[m]? = some (.mp KL es ver) ∧ ∀ x : Sp, find (.agg [.int .i64 x.c, .int .i64 x.r]) es = (L.find? (isA x)).map fun h => V.agg [.int .i64 h.seq]
  | none => L = []
/-- A log in memory. -/
structure LogIs (σ : St) (i : Nat) (mo : Option Nat) (s : V) (ov : List V) (room : Int) (P : List (V × Cg)) : Prop where
  cells : σ.objs[i]? = some (.cells (.int .i64 room :: s :: .map mo :: ov))
  ovl : ov.length = 64
  row : RowOf σ s 13 (cgsV P)
  rds : Rds σ P
  map : MapOk σ mo (cgL P)
  own : ∀ (r : Nat) (h : r < ov.length), RowOf σ ov[r] 2 (spsV ((ownL (cgL P) r).map atS))
  sep : ∀ (a b : Nat) (ha : a < ov.length) (hb : b < ov.length) j n cap z n' cap' z', ov[a] = .osl j n cap z → ov[b] = .osl j n' cap' z' → a = b
  good : Good (cgL P)
/-- The objects that are a log's own. -/
def Own (i : Nat) (mo : Option Nat) (s : V) (ov : List V) (j : Nat) : Prop := j = i ∨ mo = some j ∨ (∃ n cap z, s = .osl j n cap z) ∨ ∃ (a : Nat) (h : a < ov.length), ∃ n cap z, ov[a] = .osl j n cap z
theorem LogIs.up {S : Nat → Prop} {σ τ : St} {i : Nat} {mo : Option Nat} {s : V} {ov : List V} {room : Int} {P : List (V × Cg)} (h : LogIs σ i mo s ov room P) (hu : UpdS S σ τ) (hS : ∀ j, Own i mo s ov j → ¬ S j) : LogIs τ i mo s ov room P := by
  refine ⟨hu.objs _ _ (hS i (.inl rfl)) h.cells, h.ovl, rowOf_up h.row hu fun j n cap z e => hS j (.inr (.inr (.inl ⟨n, cap, z, e⟩))), fun p hp => rdS_up (h.rds p hp) hu, ?_, fun r hr => rowOf_up (h.own r hr) hu fun j n cap z e => hS j (.inr (.inr (.inr ⟨r, hr, n, cap, z, e⟩))), h.sep, h.good⟩
  have hm := h.map
  cases mo with
  | none => exact hm
  | some m =>
    obtain ⟨es, ver, h1, h2⟩ := hm
    exact ⟨es, ver, hu.objs _ _ (hS m (.inr (.inl rfl))) h1, h2⟩
theorem LogIs.ext {σ τ : St} {i : Nat} {mo : Option Nat} {s : V} {ov : List V} {room : Int} {P : List (V × Cg)} (h : LogIs σ i mo s ov room P) (hu : Ext σ τ) : LogIs τ i mo s ov room P :=
  h.up (S := fun _ => False) (.of hu) fun _ _ h => h
theorem cg_len (P : List (V × Cg)) : ∀ x ∈ cgsV P, x.length = 13 := by
  intro x hx
  simp only [cgsV, List.mem_map] at hx
  obtain ⟨p, -, rfl⟩ := hx
  rfl
theorem cg_drop {P : List (V × Cg)} {k : Nat} (hk : k < P.length) (o : Nat) (ho : o ≤ 13) : (cgsV P).flatten.drop (k * 13 + o) = (cgC P[k].1 P[k].2).drop o ++ ((cgsV P).drop (k + 1)).flatten := by
  have hl : k < (cgsV P).length := by simpa [cgsV] using hk
  obtain ⟨h1, h2⟩ := flat_split (cg_len P) hl
  rw [h1, ← h2, List.drop_append, List.drop_of_length_le (by omega), Nat.add_sub_cancel_left, List.nil_append, show (cgsV P)[k] = cgC P[k].1 P[k].2 from by simp [cgsV], List.drop_append_of_le_length (by simpa [cgC] using ho)]
theorem cg_drop0 {P : List (V × Cg)} {k : Nat} (hk : k < P.length) : (cgsV P).flatten.drop (k * 13) = cgC P[k].1 P[k].2 ++ ((cgsV P).drop (k + 1)).flatten := cg_drop hk 0 (by omega)
theorem rowOf_nil (σ : St) (z : Nat) : RowOf σ (.sl true .pub 0 []) z [] := .inl ⟨_, _, rfl, rfl⟩
def nilO : List V := List.replicate 64 (.sl true .pub 0 [])
theorem nilO_get {a : Nat} (h : a < nilO.length) : nilO[a] = .sl true .pub 0 [] := by unfold nilO; exact List.getElem_replicate ..
theorem logIs_new {σ : St} {i : Nat} {mo : Option Nat} {room : Int} (h1 : σ.objs[i]? = some (.cells (.int .i64 room :: .sl true .pub 0 [] :: .map mo :: nilO))) (h2 : MapOk σ mo []) : LogIs σ i mo (.sl true .pub 0 []) nilO room [] := by
  have hn : ∀ (r : Nat) (h : r < nilO.length), nilO[r] = .sl true .pub 0 [] := fun r h => nilO_get h
  refine ⟨h1, by simp [nilO], rowOf_nil _ _, (by intro p hp; cases hp), h2, fun r h => ?_, fun a b ha hb j n cap z n' cap' z' e => ?_, good_nil⟩
  · rw [hn]; exact rowOf_nil _ _
  · rw [hn] at e; cases e
theorem own_new {i : Nat} {mo : Option Nat} {j : Nat} (h : Own i mo (.sl true .pub 0 []) nilO j) : j = i ∨ mo = some j := by
  rcases h with h | h | ⟨_, _, _, h⟩ | ⟨a, ha, n, cap, z, h⟩
  · exact .inl h
  · exact .inr h
  · cases h
  · rw [nilO_get] at h; cases h
section
variable {σ : St} {i j : Nat} {mo : Option Nat} {s d : V} {ov : List V} {room : Int} {P : List (V × Cg)} {g : Cg} {x : Sp}
theorem LogIs.len (h : LogIs σ i mo s ov room P) : ∃ n cap, (n = 0 ∧ ∃ R q, s = .sl true R q [] ∧ P = []) ∨ s = .osl n P.length cap 13 := by
  rcases h.row with ⟨R, q, rfl, e⟩ | ⟨j, cap, rfl, -⟩
  · exact ⟨0, 0, .inl ⟨rfl, R, q, rfl, by simpa [cgsV] using e⟩⟩
  · exact ⟨j, cap, .inr (by rw [cgsV_len])⟩
set_option maxRecDepth 100000 in
set_option maxHeartbeats 4000000 in
theorem new_ok (hr : (decide (room < 1) || decide (room > 4096)) = false) : CallA Try.prog 24 [.int .i64 room] σ fun v σ' => v = .tup [.ptr (some (σ.objs.length + 1, 0)), .int .i64 0] ∧ LogIs σ' (σ.objs.length + 1) (some σ.objs.length) (.sl true .pub 0 []) nilO room [] ∧ Ext σ σ' := by
  refine fn_at Try.func24 (by decide) comp24 rfl fun Q q1 q2 => ?_
  rw [Bool.or_eq_false_iff] at hr
  simp -implicitDefEqProofs only [go_sem, Nat.reduceBEq, Nat.reduceAdd, eq_self, true_and, and_true, and_self, List.getElem?_cons_zero, List.getElem?_cons_succ, Nat.reduceLeDiff, Nat.zero_add, Nat.reduceSub, Nat.le_refl, c24, hr.1, hr.2]
  refine q2 _ _ ?_
  simp -implicitDefEqProofs only [go_sem, Nat.reduceBEq, Nat.reduceAdd, eq_self, true_and, and_true, and_self, List.getElem?_cons_zero, List.getElem?_cons_succ, Nat.reduceLeDiff, Nat.zero_add, Nat.reduceSub, Nat.le_refl, Nat.lt_irrefl]
  refine ⟨?_, logIs_new (by simp [nilO]) ⟨[], 0, by simp, fun x => rfl⟩, (ext_obj _ _).trans (ext_obj _ _)⟩
  try simp
set_option maxRecDepth 100000 in
theorem len_ok (h : LogIs σ i mo s ov room P) : CallA Try.prog 53 [.ptr (some (i, 0))] σ fun v σ' => v = .int .i64 P.length ∧ σ' = σ := by
  have h1 := h.cells
  refine fn_at Try.func53 (by decide) comp53 rfl fun Q q1 q2 => ?_
  obtain ⟨n, cap, ⟨rfl, R, q, rfl, rfl⟩ | rfl⟩ := h.len
  all_goals
    simp -implicitDefEqProofs only [go_sem, Nat.reduceBEq, Nat.reduceAdd, eq_self, true_and, and_true, and_self, List.getElem?_cons_zero, List.getElem?_cons_succ, Nat.reduceLeDiff, Nat.zero_add, Nat.reduceSub, Nat.le_refl, c53, h1]
    refine q2 _ _ ?_
    simp -implicitDefEqProofs only [go_sem, Nat.reduceBEq, Nat.reduceAdd, eq_self, true_and, and_true, and_self, List.getElem?_cons_zero, List.getElem?_cons_succ, Nat.reduceLeDiff, Nat.zero_add, Nat.reduceSub, Nat.le_refl, Nat.lt_irrefl]
    try simp
set_option maxRecDepth 100000 in
theorem ccmp_ok : CallA Try.prog 76 [cgV d g, spV x] σ fun v σ' => v = .int .i64 (st.cmp (atS g) x) ∧ σ' = σ := by
  refine fn_at Try.func76 (by decide) comp76 rfl fun Q q1 q2 => ?_
  have hc := compare_ok (σ := σ) (a1 := g.ac) (a2 := g.ar) (b1 := x.c) (b2 := x.r)
  have e : cmp g.ac g.ar x.c x.r = st.cmp (atS g) x := scmp (atS g) x
  rw [e] at hc
  simp -implicitDefEqProofs only [go_sem, Nat.reduceBEq, Nat.reduceAdd, eq_self, true_and, and_true, and_self, List.getElem?_cons_zero, List.getElem?_cons_succ, Nat.reduceLeDiff, Nat.zero_add, Nat.reduceSub, Nat.le_refl, c76, cgV, cgC, spV, spC]
  refine call_at hc ?_
  rintro v τ ⟨hτ, rfl⟩
  have hτ := hτ.symm
  subst hτ
  refine ⟨(Ext.refl _).kept, ?_⟩
  simp -implicitDefEqProofs only [go_sem, Nat.reduceBEq, Nat.reduceAdd, eq_self, true_and, and_true, and_self, List.getElem?_cons_zero, List.getElem?_cons_succ, Nat.reduceLeDiff, Nat.zero_add, Nat.reduceSub, Nat.le_refl, Nat.lt_irrefl]
  refine q2 _ _ ?_
  simp -implicitDefEqProofs only [go_sem, Nat.reduceBEq, Nat.reduceAdd, eq_self, true_and, and_true, and_self, List.getElem?_cons_zero, List.getElem?_cons_succ, Nat.reduceLeDiff, Nat.zero_add, Nat.reduceSub, Nat.le_refl, Nat.lt_irrefl]
set_option maxRecDepth 100000 in
set_option maxHeartbeats 4000000 in
theorem bs_ok (hr : RowOf σ s 13 (cgsV P)) (hl : P.length ≤ 1000000) (hd : Rds σ P) (hs : (cgL P).Pairwise fun a b => st.less (atS a) (atS b) = true) :
    CallA Try.prog 75 [s, spV x, .fn 76 []] σ fun w σ' => (∃ k : Nat, w = .tup [.int .i64 k, .bool ((cgL P).find? (isA x)).isSome] ∧ PlaceAt (cgL P) x k) ∧ σ' = σ := by
  refine fn_at Try.func75 (by decide) comp75 rfl fun Q q1 q2 => ?_
  rcases hr with ⟨R, q, rfl, he⟩ | ⟨j', cap, rfl, ho, -, hc⟩
  · have hD : P = [] := by simpa [cgsV] using he
    subst hD
    simp -implicitDefEqProofs only [go_sem, Nat.reduceBEq, Nat.reduceAdd, eq_self, true_and, and_true, and_self, List.getElem?_cons_zero, List.getElem?_cons_succ, Nat.reduceLeDiff, Nat.zero_add, Nat.reduceSub, Nat.le_refl, c75, spV, spC]
    refine loop_at (fun (_ : Unit) => ⟨[(0, .v (.sl true R q [])), (2, .v (.fn 76 [])), (4, .loc 4 0), (8, .v (.int .i64 0)), (9, .v (.int .i64 0)), (10, .v (.int .i64 0))], [(4, spC x)]⟩) (fun _ τ => τ = σ) (fun _ => 0) () ?_ ?_ ?_
    · refine .inr ?_
      simp -implicitDefEqProofs only [go_sem, Nat.reduceBEq, Nat.reduceAdd, eq_self, true_and, and_true, and_self, List.getElem?_cons_zero, List.getElem?_cons_succ, Nat.reduceLeDiff, Nat.zero_add, Nat.reduceSub, Nat.le_refl, spV, spC]
      try exact ⟨rfl, rfl⟩
      try rfl
    · rfl
    rintro u τ hτ Z z1 z2 z3
    have hτ := hτ.symm
    subst hτ
    have h0 : decide ((0 : Int) < 0) = false := by decide
    simp -implicitDefEqProofs only [go_sem, Nat.reduceBEq, Nat.reduceAdd, eq_self, true_and, and_true, and_self, List.getElem?_cons_zero, List.getElem?_cons_succ, Nat.reduceLeDiff, Nat.zero_add, Nat.reduceSub, Nat.le_refl, h0]
    refine z2 _ _ _ ?_
    simp -implicitDefEqProofs only [go_sem, Nat.reduceBEq, Nat.reduceAdd, eq_self, true_and, and_true, and_self, List.getElem?_cons_zero, List.getElem?_cons_succ, Nat.reduceLeDiff, Nat.zero_add, Nat.reduceSub, Nat.le_refl, h0]
    refine q2 _ _ ?_
    simp -implicitDefEqProofs only [go_sem, Nat.reduceBEq, Nat.reduceAdd, eq_self, true_and, and_true, and_self, List.getElem?_cons_zero, List.getElem?_cons_succ, Nat.reduceLeDiff, Nat.zero_add, Nat.reduceSub, Nat.le_refl, Nat.lt_irrefl]
    exact ⟨0, rfl, by simp [PlaceAt]⟩
  have hlm : (cgsV P).length = P.length := cgsV_len P
  have hll : (cgL P).length = P.length := by simp
  have hlook : ∀ (k : Nat) (h : k < P.length), (cgL P)[k]'(by rw [hll]; exact h) = P[k].2 := fun k h => by simp
  simp -implicitDefEqProofs only [go_sem, Nat.reduceBEq, Nat.reduceAdd, eq_self, true_and, and_true, and_self, List.getElem?_cons_zero, List.getElem?_cons_succ, Nat.reduceLeDiff, Nat.zero_add, Nat.reduceSub, Nat.le_refl, c75, spV, spC]
  refine loop_at (fun (y : Nat × Nat) => ⟨[(0, .v (.osl j' (cgsV P).length cap 13)), (2, .v (.fn 76 [])), (4, .loc 4 0), (8, .v (.int .i64 P.length)), (9, .v (.int .i64 y.1)), (10, .v (.int .i64 y.2))], [(4, spC x)]⟩)
    (fun y τ => y.1 ≤ y.2 ∧ y.2 ≤ P.length ∧ τ = σ ∧ (∀ (k : Nat) (h : k < (cgL P).length), k < y.1 → st.less (atS (cgL P)[k]) x = true) ∧ ∀ (k : Nat) (h : k < (cgL P).length), y.2 ≤ k → st.less (atS (cgL P)[k]) x = false) (fun y => y.2 - y.1) (0, P.length) ?_ ?_ ?_
  · refine .inr ?_
    simp -implicitDefEqProofs only [go_sem, Nat.reduceBEq, Nat.reduceAdd, eq_self, true_and, and_true, and_self, List.getElem?_cons_zero, List.getElem?_cons_succ, Nat.reduceLeDiff, Nat.zero_add, Nat.reduceSub, Nat.le_refl, hlm, spV, spC]
    try exact ⟨rfl, rfl⟩
    try rfl
  · exact ⟨Nat.zero_le _, Nat.le_refl _, rfl, fun k h h0 => by simp at h0, fun k h h0 => by simp only at h0; omega⟩
  rintro ⟨a, b⟩ τ ⟨g0, g1, hτ, g3, g4⟩ Z z1 z2 z3
  simp only at g0 g1 g3 g4
  have hτ := hτ.symm
  subst hτ
  simp -implicitDefEqProofs only [go_sem, Nat.reduceBEq, Nat.reduceAdd, eq_self, true_and, and_true, and_self, List.getElem?_cons_zero, List.getElem?_cons_succ, Nat.reduceLeDiff, Nat.zero_add, Nat.reduceSub, Nat.le_refl, Nat.lt_irrefl]
  refine CondW_b (fun hcc => ?_) (fun hcc => ?_)
  · have hab : a < b := by simpa using hcc
    have hwm : IntKind.i64.wrap ((IntKind.u64.wrap (IntKind.i64.wrap ((a : Int) + b))).fdiv (2 ^ min (Int.toNat 1) 64)) = (((a + b) / 2 : Nat) : Int) := by
      rw [i64_in ((a : Int) + b) (by omega), u64_in _ (by omega)]
      rw [show (2 ^ min (Int.toNat 1) 64 : Int) = 2 from rfl, Int.fdiv_eq_ediv_of_nonneg _ (by omega), i64_in _ (by omega)]
      omega
    generalize hcm : (a + b) / 2 = c at hwm
    have hc1 : a ≤ c ∧ c < b := by omega
    have hi : c < P.length := by omega
    have hget := cg_drop0 hi
    have hlk := hlook c hi
    have hdc := hd _ (List.getElem_mem hi)
    have hwc : IntKind.i64.wrap ((c : Int) + 1) = ((c + 1 : Nat) : Int) := by rw [i64_in _ (by omega)]; omega
    have hmono1 : ∀ (k : Nat) (h : k < (cgL P).length), k < c → st.less (atS (cgL P)[k]) (atS (P[c]).2) = true := fun k h hk => by
      rw [← hlk]; exact (List.pairwise_iff_getElem.1 hs) k c h (by omega) hk
    have hmono2 : ∀ (k : Nat) (h : k < (cgL P).length), c < k → st.less (atS (P[c]).2) (atS (cgL P)[k]) = true := fun k h hk => by
      rw [← hlk]; exact (List.pairwise_iff_getElem.1 hs) c k (by omega) h hk
    have hb1 : (c : Int) < (cgsV P).length := by rw [hlm]; omega
    generalize P[c] = p at hget hlk hdc hmono1 hmono2
    obtain ⟨d2, h⟩ := p
    simp only at hget hlk hdc hmono1 hmono2
    obtain ⟨db, dr, dz, rfl, -, -⟩ := id hdc
    have hcm2 := ccmp_ok (σ := σ) (d := .sl db dr dz (intsV .i64 h.deps)) (g := h) (x := x)
    simp only [cgV, cgC, spV, spC] at hcm2
    simp -implicitDefEqProofs only [go_sem, Nat.reduceBEq, Nat.reduceAdd, eq_self, true_and, and_true, and_self, List.getElem?_cons_zero, List.getElem?_cons_succ, Nat.reduceLeDiff, Nat.zero_add, Nat.reduceSub, Nat.le_refl, hwm, ho, hget, Int.toNat_natCast, Nat.add_zero, cgC, spC]
    refine ⟨by omega, ⟨by omega, hb1⟩, ?_⟩
    refine call_at hcm2 ?_
    rintro w τ ⟨rfl, hτ⟩
    have hτ := hτ.symm
    subst hτ
    refine ⟨(Ext.refl _).kept, ?_⟩
    have hneg : decide (st.cmp (atS h) x < 0) = st.less (atS h) x := st.cmp_neg _ _
    cases hx : st.less (atS h) x <;> rw [hx] at hneg
    · simp -implicitDefEqProofs only [go_sem, Nat.reduceBEq, Nat.reduceAdd, eq_self, true_and, and_true, and_self, List.getElem?_cons_zero, List.getElem?_cons_succ, Nat.reduceLeDiff, Nat.zero_add, Nat.reduceSub, Nat.le_refl, hneg]
      refine z1 (a, c) _ _ (.inr ?_) (by simp only; omega) ⟨by simp only; omega, by simp only; omega, rfl, g3, fun k hk h1 => ?_⟩
      · simp -implicitDefEqProofs only [go_sem, Nat.reduceBEq, Nat.reduceAdd, eq_self, true_and, and_true, and_self, List.getElem?_cons_zero, List.getElem?_cons_succ, Nat.reduceLeDiff, Nat.zero_add, Nat.reduceSub, Nat.le_refl, spC]
        try exact ⟨rfl, rfl⟩
        try rfl
      · simp only at h1
        rcases Nat.lt_or_ge c k with h2 | h2
        · cases h3 : st.less (atS (cgL P)[k]) x
          · rfl
          · rw [less_trans (hmono2 k hk h2) h3] at hx; cases hx
        · have : k = c := by omega
          subst this
          rw [hlk]; exact hx
    · simp -implicitDefEqProofs only [go_sem, Nat.reduceBEq, Nat.reduceAdd, eq_self, true_and, and_true, and_self, List.getElem?_cons_zero, List.getElem?_cons_succ, Nat.reduceLeDiff, Nat.zero_add, Nat.reduceSub, Nat.le_refl, hneg, hwc]
      refine z1 (c + 1, b) _ _ (.inr ?_) (by simp only; omega) ⟨by simp only; omega, g1, rfl, fun k hk h1 => ?_, g4⟩
      · simp -implicitDefEqProofs only [go_sem, Nat.reduceBEq, Nat.reduceAdd, eq_self, true_and, and_true, and_self, List.getElem?_cons_zero, List.getElem?_cons_succ, Nat.reduceLeDiff, Nat.zero_add, Nat.reduceSub, Nat.le_refl, spC]
        try exact ⟨rfl, rfl⟩
        try rfl
      · simp only at h1
        rcases Nat.lt_or_ge k c with h2 | h2
        · exact less_trans (hmono1 k hk h2) hx
        · have : k = c := by omega
          subst this
          rw [hlk]; exact hx
  · have hab : a = b := by have : ¬ a < b := by simpa using hcc
                           omega
    subst hab
    simp -implicitDefEqProofs only [go_sem, Nat.reduceBEq, Nat.reduceAdd, eq_self, true_and, and_true, and_self, List.getElem?_cons_zero, List.getElem?_cons_succ, Nat.reduceLeDiff, Nat.zero_add, Nat.reduceSub, Nat.le_refl, Nat.lt_irrefl]
    refine z2 _ _ _ ?_
    have hpl : PlaceAt (cgL P) x a := ⟨by omega, g3, g4⟩
    cases hin : decide ((a : Int) < P.length)
    · have hnf : ((cgL P).find? (isA x)).isSome = false := by
        rcases hpl.found hs with ⟨h1, -⟩ | ⟨hi, -⟩
        · rw [h1]; rfl
        · have := of_decide_eq_false hin; omega
      simp -implicitDefEqProofs only [go_sem, Nat.reduceBEq, Nat.reduceAdd, eq_self, true_and, and_true, and_self, List.getElem?_cons_zero, List.getElem?_cons_succ, Nat.reduceLeDiff, Nat.zero_add, Nat.reduceSub, Nat.le_refl, hin]
      refine q2 _ _ ?_
      simp -implicitDefEqProofs only [go_sem, Nat.reduceBEq, Nat.reduceAdd, eq_self, true_and, and_true, and_self, List.getElem?_cons_zero, List.getElem?_cons_succ, Nat.reduceLeDiff, Nat.zero_add, Nat.reduceSub, Nat.le_refl, hnf]
      exact ⟨a, rfl, hpl⟩
    · have hi : a < P.length := by have := of_decide_eq_true hin; omega
      have hget := cg_drop0 hi
      have hlk := hlook a hi
      have hdc := hd _ (List.getElem_mem hi)
      have hb1 : (a : Int) < (cgsV P).length := by rw [hlm]; omega
      have hfd : ((cgL P).find? (isA x)).isSome = decide (atS P[a].2 = x) := by
        rcases hpl.found hs with ⟨h1, h2⟩ | ⟨h1, h2, h3⟩
        · rw [h1]
          have := h2 (by omega)
          rw [hlk] at this
          simp [this]
        · rw [h3]
          rw [hlk] at h2
          simp [h2]
      generalize P[a] = p at hget hlk hdc hfd
      obtain ⟨d2, h⟩ := p
      simp only at hget hlk hdc hfd
      obtain ⟨db, dr, dz, rfl, -, -⟩ := id hdc
      have hcm2 := ccmp_ok (σ := σ) (d := .sl db dr dz (intsV .i64 h.deps)) (g := h) (x := x)
      simp only [cgV, cgC, spV, spC] at hcm2
      have hz : decide (st.cmp (atS h) x = 0) = decide (atS h = x) := by
        unfold st.cmp
        by_cases e : atS h = x
        · simp [e]
        · cases st.less (atS h) x <;> simp [e]
      rw [hfd] at q2
      simp -implicitDefEqProofs only [go_sem, Nat.reduceBEq, Nat.reduceAdd, eq_self, true_and, and_true, and_self, List.getElem?_cons_zero, List.getElem?_cons_succ, Nat.reduceLeDiff, Nat.zero_add, Nat.reduceSub, Nat.le_refl, hin, ho, hget, Int.toNat_natCast, Nat.add_zero, cgC, spC]
      refine ⟨⟨by omega, hb1⟩, ?_⟩
      refine call_at hcm2 ?_
      rintro w τ ⟨rfl, hτ⟩
      have hτ := hτ.symm
      subst hτ
      refine ⟨(Ext.refl _).kept, ?_⟩
      simp -implicitDefEqProofs only [go_sem, Nat.reduceBEq, Nat.reduceAdd, eq_self, true_and, and_true, and_self, List.getElem?_cons_zero, List.getElem?_cons_succ, Nat.reduceLeDiff, Nat.zero_add, Nat.reduceSub, Nat.le_refl, hz]
      refine q2 _ _ ?_
      simp -implicitDefEqProofs only [go_sem, Nat.reduceBEq, Nat.reduceAdd, eq_self, true_and, and_true, and_self, List.getElem?_cons_zero, List.getElem?_cons_succ, Nat.reduceLeDiff, Nat.zero_add, Nat.reduceSub, Nat.le_refl, Nat.lt_irrefl]
      exact ⟨a, rfl, hpl⟩
set_option maxRecDepth 100000 in
set_option maxHeartbeats 4000000 in
theorem place_at (h : LogIs σ i mo s ov room P) (hl : P.length ≤ 1000000) : CallA Try.prog 50 [.ptr (some (i, 0)), spV x] σ fun w σ' => (∃ k : Nat, w = .tup [.int .i64 k, .bool ((cgL P).find? (isA x)).isSome] ∧ PlaceAt (cgL P) x k) ∧ σ' = σ := by
  have h1 := h.cells
  refine fn_at Try.func50 (by decide) comp50 rfl fun Q q1 q2 => ?_
  have hbs := bs_ok (x := x) h.row hl h.rds h.good.srt
  simp only [spV, spC] at hbs
  simp -implicitDefEqProofs only [go_sem, Nat.reduceBEq, Nat.reduceAdd, eq_self, true_and, and_true, and_self, List.getElem?_cons_zero, List.getElem?_cons_succ, Nat.reduceLeDiff, Nat.zero_add, Nat.reduceSub, Nat.le_refl, c50, spV, spC, h1]
  refine call_at hbs ?_
  rintro w τ ⟨⟨k, rfl, hp⟩, hτ⟩
  have hτ := hτ.symm
  subst hτ
  refine ⟨(Ext.refl _).kept, ?_⟩
  simp -implicitDefEqProofs only [go_sem, Nat.reduceBEq, Nat.reduceAdd, eq_self, true_and, and_true, and_self, List.getElem?_cons_zero, List.getElem?_cons_succ, Nat.reduceLeDiff, Nat.zero_add, Nat.reduceSub, Nat.le_refl, Nat.lt_irrefl]
  refine q2 _ _ ?_
  simp -implicitDefEqProofs only [go_sem, Nat.reduceBEq, Nat.reduceAdd, eq_self, true_and, and_true, and_self, List.getElem?_cons_zero, List.getElem?_cons_succ, Nat.reduceLeDiff, Nat.zero_add, Nat.reduceSub, Nat.le_refl, Nat.lt_irrefl]
  exact ⟨k, rfl, hp⟩
end
end Go.VL.opl

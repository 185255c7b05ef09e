/- lww: the answer's Put; laid. -/
import Derived.Test.YtefbofjonjdebaaLwwF
set_option linter.unusedVariables false
set_option linter.unusedSimpArgs false
namespace Go.VL.lww
open Go Go.VL Go.Proofs Go.IntWalk

def regsV (l : List Rg) : List (List V) := l.map regC
theorem regsV_get {l : List Rg} {i : Nat} (h : i < l.length) : (regsV l)[((i : Nat) : Int).toNat]?.getD [] = regC l[i] := by simp [regsV, h]
theorem regsV_length (l : List Rg) : (regsV l).length = l.length := by simp [regsV]
theorem regsV_append (a b : List Rg) : regsV a ++ regsV b = regsV (a ++ b) := by simp [regsV]
theorem regsV_one (r : Rg) : [regC r] = regsV [r] := rfl

/-- A pass over what was there: what came out, was it done. -/
def passR (r : Rg) : List Rg → Bool → List Rg × Bool
  | [], d => ([], d)
  | x :: l, d =>
    bif sameK x r && wins r x then (r :: (passR r l true).1, (passR r l true).2)
    else bif !(d || sameK x r) && ahead r x then (r :: x :: (passR r l true).1, (passR r l true).2)
    else (x :: (passR r l (d || sameK x r)).1, (passR r l (d || sameK x r)).2)
/-- The answer's Put. -/
def rputR (l : List Rg) (r : Rg) : List Rg :=
  bif decide (chk r = 0) then (bif (passR r l false).2 then (passR r l false).1 else (passR r l false).1 ++ [r]) else l

theorem passR_append (r : Rg) (x : Rg) : ∀ (l : List Rg) (d : Bool), passR r (l ++ [x]) d = ((passR r l d).1 ++ (passR r [x] (passR r l d).2).1, (passR r [x] (passR r l d).2).2)
  | [], d => by simp [passR]
  | y :: l, d => by
    have ih := fun d => passR_append r x l d
    rw [List.cons_append, passR.eq_def r (y :: l) d, passR.eq_def r (y :: (l ++ [x])) d]
    simp only [ih]
    cases (sameK y r && wins r y) <;> cases (!(d || sameK y r) && ahead r y) <;> rfl
theorem passR_length' (r : Rg) : ∀ (l : List Rg) (d : Bool), (passR r l d).1.length ≤ l.length + (bif d then 0 else 1)
  | [], d => by simp [passR]
  | y :: l, d => by
    have h1 := passR_length' r l true
    have h2 := passR_length' r l (d || sameK y r)
    rw [passR]
    cases h3 : (sameK y r && wins r y) <;> cases h4 : (!(d || sameK y r) && ahead r y)
    · simp only [cond_false, List.length_cons]
      cases d <;> cases hs : sameK y r <;> simp [hs] at h2 ⊢ <;> omega
    · cases d
      · simp at h1; simp only [cond_true, cond_false, List.length_cons]; omega
      · simp at h4
    · simp at h1; simp only [cond_true, List.length_cons]; cases d <;> simp <;> omega
    · simp at h1; simp only [cond_true, List.length_cons]; cases d <;> simp <;> omega
theorem passR_length (r : Rg) (l : List Rg) (d : Bool) : (passR r l d).1.length ≤ l.length + 1 := by
  have := passR_length' r l d
  cases d <;> simp at this <;> omega
theorem rputR_length (r : Rg) (l : List Rg) : (rputR l r).length ≤ l.length + 2 := by
  have := passR_length r l false
  unfold rputR
  cases decide (chk r = 0)
  · simp only [cond_false]; omega
  · cases (passR r l false).2 <;> simp only [cond_true, cond_false, List.length_append, List.length_cons, List.length_nil] <;> omega

section
variable {σ : St} {r : Rg} {l : List Rg} {v : V}
set_option maxRecDepth 100000 in
set_option maxHeartbeats 3200000 in
theorem rput_ok (hv : RdS σ v 7 (regsV l)) (hlen : r.name.length < 4611686018427387904) (hl : l.length ≤ 268435456) :
    CallA Try.prog 19 [v, regV r] σ fun w σ' => (∃ x, w = .tup [x, .int .i64 (bif decide (chk r = 0) then 0 else chk r)] ∧ RdS σ' x 7 (regsV (rputR l r)) ∧ (chk r ≠ 0 → x = v)) ∧ Ext σ σ' ∧ σ'.objs = σ.objs := by
  obtain ⟨b, R, z, rfl, -, -⟩ := id hv
  refine fn_at Try.func19 (by decide) comp19 rfl fun Q q1 q2 => ?_
  simp -implicitDefEqProofs only [go_sem, Nat.reduceBEq, Nat.reduceAdd, eq_self, true_and, and_true, and_self, List.getElem?_cons_zero, List.getElem?_cons_succ, Nat.reduceLeDiff, Nat.zero_add, Nat.reduceSub, Nat.le_refl, c19, regV, regC]
  refine call_at (rcheck_ok hlen) ?_
  rintro v τ ⟨rfl, rfl⟩
  refine ⟨kept_none, ?_⟩
  cases hc : decide (chk r = 0)
  case false =>
    simp -implicitDefEqProofs only [go_sem, Nat.reduceBEq, Nat.reduceAdd, eq_self, true_and, and_true, and_self, List.getElem?_cons_zero, List.getElem?_cons_succ, Nat.reduceLeDiff, Nat.zero_add, Nat.reduceSub, Nat.le_refl, hc]
    refine call_at (rcheck_ok hlen) ?_
    rintro v τ ⟨rfl, rfl⟩
    refine ⟨kept_none, ?_⟩
    simp -implicitDefEqProofs only [go_sem, Nat.reduceBEq, Nat.reduceAdd, eq_self, true_and, and_true, and_self, List.getElem?_cons_zero, List.getElem?_cons_succ, Nat.reduceLeDiff, Nat.zero_add, Nat.reduceSub, Nat.le_refl, Nat.lt_irrefl]
    refine q2 _ _ ?_
    simp -implicitDefEqProofs only [go_sem, Nat.reduceBEq, Nat.reduceAdd, eq_self, true_and, and_true, and_self, List.getElem?_cons_zero, List.getElem?_cons_succ, Nat.reduceLeDiff, Nat.zero_add, Nat.reduceSub, Nat.le_refl, hc]
    refine ⟨⟨_, rfl, ?_, fun _ => rfl⟩, Ext.refl _⟩
    unfold rputR
    rw [hc]
    exact hv
  simp -implicitDefEqProofs only [go_sem, Nat.reduceBEq, Nat.reduceAdd, eq_self, true_and, and_true, and_self, List.getElem?_cons_zero, List.getElem?_cons_succ, Nat.reduceLeDiff, Nat.zero_add, Nat.reduceSub, Nat.le_refl, hc]
  refine loop_at (fun (x : Nat × Nat) => ⟨[(0, .v (.sl b R z (regsV l))), (3, .loc 3 0), (6, .v (.sl false (.own x.2) 7 (regsV (passR r (l.take x.1) false).1))), (7, .v (.bool (passR r (l.take x.1) false).2)), (8, .v (.int .i64 x.1))], [(3, regC r)]⟩)
    (fun x τ' => x.1 ≤ l.length ∧ Ext τ τ' ∧ τ'.objs = τ.objs ∧ τ'.live[x.2]? = some true ∧ τ.live.length ≤ x.2) (fun x => l.length - x.1) (0, τ.live.length) ?_ ?_ ?_
  · exact .inr (by simp [go_sem, passR, regsV, regC])
  · exact ⟨Nat.zero_le _, ext_live τ true, rfl, live_last _ _, Nat.le_refl _⟩
  rintro ⟨i, q⟩ τ' ⟨g1, g2, g3, g4, g5⟩ Z z1 z2 z3
  simp only at g1 g4 g5
  simp -implicitDefEqProofs only [go_sem, Nat.reduceBEq, Nat.reduceAdd]
  refine CondW_b (fun hcc => ?_) (fun hcc => ?_)
  · have hi : i < l.length := by simpa [regsV_length] using hcc
    obtain ⟨k1, k2⟩ := rdl (hv.ext g2) (by cases l <;> simp [regsV] at hi ⊢)
    have hget := regsV_get hi
    have hib : (i : Int) < (regsV l).length := by rw [regsV_length]; omega
    have htk : l.take (i + 1) = l.take i ++ [l[i]] := List.take_succ_eq_append_getElem hi
    have hstep := passR_append r l[i] (l.take i) false
    rw [← htk] at hstep
    have hpl := passR_length r (l.take i) false
    rw [List.length_take] at hpl
    generalize l[i] = x at hget hstep
    generalize passR r (l.take i) false = pr at hstep hpl
    obtain ⟨out, d⟩ := pr
    simp only at hstep hpl
    have hsz : (regsV out).length ≤ l.length + 1 := by rw [regsV_length]; omega
    have hsame : sameK x r = ((decide (x.nc = r.nc) && decide (x.nr = r.nr)) && decide (x.name = r.name)) := by simp [sameK, Bool.and_assoc]
    have hw64 : IntKind.i64.wrap ((i : Int) + 1) = ((i + 1 : Nat) : Int) := by rw [i64_in _ (by omega)]; omega
    have e2 := g2.trans (ext_live τ' true)
    -- what comes behind a round
    have next : ∀ (F : Fr) (q' : Nat) (τ2 : St) (out' : List Rg) (d' : Bool), passR r (l.take (i + 1)) false = (out', d') → FrLe ⟨[(0, .v (.sl b R z (regsV l))), (3, .loc 3 0), (6, .v (.sl false (.own q') 7 (regsV out'))), (7, .v (.bool d')), (8, .v (.int .i64 ((i + 1 : Nat) : Int)))], [(3, regC r)]⟩ F →
        Ext τ τ2 → τ2.objs = τ.objs → τ2.live[q']? = some true → τ.live.length ≤ q' → Z .normal F τ2 := by
      intro F q' τ2 out' d' hp hF h1 h2 h3 h4
      refine z1 (i + 1, q') F τ2 ?_ (by simp only; omega) ⟨by simp only; omega, h1, h2, h3, h4⟩
      simp only [hp]
      exact hF
    simp -implicitDefEqProofs only [go_sem, Nat.reduceBEq, Nat.reduceAdd, eq_self, true_and, and_true, and_self, List.getElem?_cons_zero, List.getElem?_cons_succ, Nat.reduceLeDiff, Nat.zero_add, Nat.reduceSub, Nat.le_refl, Nat.lt_irrefl]
    refine cut_dup ?_
    simp -implicitDefEqProofs only [go_sem, Nat.reduceBEq, Nat.reduceAdd]
    refine cut_dup ?_
    have hlitr : ∀ (τ : St), (⟨τ.objs, τ.live ++ [true]⟩ : St).live[τ.live.length]? = some true := fun τ => by simp
    cases h1 : (decide (x.nc = r.nc) && decide (x.nr = r.nr)) <;> rw [h1] at hsame
    case true =>
      cases h2 : decide (x.name = r.name) <;> rw [h2] at hsame
      case true =>
        simp -implicitDefEqProofs only [go_sem, Nat.reduceBEq, Nat.reduceAdd, eq_self, true_and, and_true, and_self, List.getElem?_cons_zero, List.getElem?_cons_succ, Nat.reduceLeDiff, Nat.zero_add, Nat.reduceSub, Nat.le_refl, hget, regC, V.eqs, V.eq, Bool.and_true, h1, h2]
        repeat refine ⟨⟨by omega, hib, k2⟩, k1, ?_⟩
        refine call_at (rwins_ok (a := r) (b := x)) ?_
        rintro v τ1 ⟨rfl, rfl⟩
        refine ⟨(Ext.refl _).kept, ?_⟩
        cases hw : wins r x
        case true =>
          simp -implicitDefEqProofs only [go_sem, Nat.reduceBEq, Nat.reduceAdd, eq_self, true_and, and_true, and_self, List.getElem?_cons_zero, List.getElem?_cons_succ, Nat.reduceLeDiff, Nat.zero_add, Nat.reduceSub, Nat.le_refl, hw]
          refine ⟨⟨.inr trivial, .inr ((ext_live _ _).live _ g4), ⟨.inr (live_last _ _), .inl trivial⟩, by omega⟩, ?_⟩
          have hp : passR r (l.take (i + 1)) false = (out ++ [r], true) := by
            rw [hstep]; simp only [passR, hsame, hw, Bool.and_self, Bool.true_and, cond_true]
          refine next _ _ _ _ _ hp (.inr ?_) (ext_kill (ext_push g2) g5) g3 (live_last' _ _ _) (by have := g2.llen; simp only [List.length_append, List.length_cons, List.length_nil]; omega)
          simp -implicitDefEqProofs only [go_sem, Nat.reduceBEq, Nat.reduceAdd, eq_self, true_and, and_true, and_self, List.getElem?_cons_zero, List.getElem?_cons_succ, Nat.reduceLeDiff, Nat.zero_add, Nat.reduceSub, Nat.le_refl, hw64, regC, regsV, List.map_append, List.map_cons, List.map_nil]
        case false =>
          simp -implicitDefEqProofs only [go_sem, Nat.reduceBEq, Nat.reduceAdd, eq_self, true_and, and_true, and_self, List.getElem?_cons_zero, List.getElem?_cons_succ, Nat.reduceLeDiff, Nat.zero_add, Nat.reduceSub, Nat.le_refl, hw]
          refine cut_dup ?_
          have hp : passR r (l.take (i + 1)) false = (out ++ [x], true) := by
            rw [hstep]; simp only [passR, hsame, hw, Bool.and_self, Bool.true_and, Bool.and_false, cond_false, Bool.or_true, Bool.not_true, Bool.false_and]
          simp -implicitDefEqProofs only [go_sem, Nat.reduceBEq, Nat.reduceAdd, eq_self, true_and, and_true, and_self, List.getElem?_cons_zero, List.getElem?_cons_succ, Nat.reduceLeDiff, Nat.zero_add, Nat.reduceSub, Nat.le_refl, hget, regC]
          repeat refine ⟨⟨by omega, hib, k2⟩, k1, ?_⟩
          refine ⟨⟨.inr trivial, .inr ((ext_live _ _).live _ g4), ⟨.inr (live_last _ _), .inl trivial⟩, by first | omega | (simp only [List.length_append, List.length_cons, List.length_nil]; omega)⟩, ?_⟩
          refine next _ _ _ _ _ hp (.inr ?_) (ext_kill (ext_push g2) g5) g3 (live_last' _ _ _) (by have := g2.llen; simp only [List.length_append, List.length_cons, List.length_nil]; omega)
          simp -implicitDefEqProofs only [go_sem, Nat.reduceBEq, Nat.reduceAdd, eq_self, true_and, and_true, and_self, List.getElem?_cons_zero, List.getElem?_cons_succ, Nat.reduceLeDiff, Nat.zero_add, Nat.reduceSub, Nat.le_refl, hw64, regC, regsV, List.map_append, List.map_cons, List.map_nil, List.append_assoc, List.cons_append, List.nil_append]
      case false =>
        simp -implicitDefEqProofs only [go_sem, Nat.reduceBEq, Nat.reduceAdd, eq_self, true_and, and_true, and_self, List.getElem?_cons_zero, List.getElem?_cons_succ, Nat.reduceLeDiff, Nat.zero_add, Nat.reduceSub, Nat.le_refl, hget, regC, V.eqs, V.eq, h1, h2]
        repeat refine ⟨⟨by omega, hib, k2⟩, k1, ?_⟩
        refine cut_dup ?_
        cases d
        case true =>
          have hp : passR r (l.take (i + 1)) false = (out ++ [x], true) := by
            rw [hstep]; simp only [passR, hsame, Bool.and_false, Bool.false_and, Bool.true_and, cond_false, Bool.true_or, Bool.not_true]
          simp -implicitDefEqProofs only [go_sem, Nat.reduceBEq, Nat.reduceAdd, eq_self, true_and, and_true, and_self, List.getElem?_cons_zero, List.getElem?_cons_succ, Nat.reduceLeDiff, Nat.zero_add, Nat.reduceSub, Nat.le_refl, hget, regC]
          repeat refine ⟨⟨by omega, hib, k2⟩, k1, ?_⟩
          refine ⟨⟨.inr trivial, .inr ((ext_live _ _).live _ g4), ⟨.inr (live_last _ _), .inl trivial⟩, by first | omega | (simp only [List.length_append, List.length_cons, List.length_nil]; omega)⟩, ?_⟩
          refine next _ _ _ _ _ hp (.inr ?_) (ext_kill (ext_push g2) g5) g3 (live_last' _ _ _) (by have := g2.llen; simp only [List.length_append, List.length_cons, List.length_nil]; omega)
          simp -implicitDefEqProofs only [go_sem, Nat.reduceBEq, Nat.reduceAdd, eq_self, true_and, and_true, and_self, List.getElem?_cons_zero, List.getElem?_cons_succ, Nat.reduceLeDiff, Nat.zero_add, Nat.reduceSub, Nat.le_refl, hw64, regC, regsV, List.map_append, List.map_cons, List.map_nil, List.append_assoc, List.cons_append, List.nil_append]
        case false =>
          simp -implicitDefEqProofs only [go_sem, Nat.reduceBEq, Nat.reduceAdd, eq_self, true_and, and_true, and_self, List.getElem?_cons_zero, List.getElem?_cons_succ, Nat.reduceLeDiff, Nat.zero_add, Nat.reduceSub, Nat.le_refl, hget, regC]
          repeat refine ⟨⟨by omega, hib, k2⟩, k1, ?_⟩
          refine call_at (ahead_ok (a := r) (b := x)) ?_
          rintro v τ1 ⟨rfl, rfl⟩
          refine ⟨(Ext.refl _).kept, ?_⟩
          cases hh : ahead r x
          case false =>
            have hp : passR r (l.take (i + 1)) false = (out ++ [x], false) := by
              rw [hstep]; simp only [passR, hsame, hh, Bool.and_false, Bool.false_and, cond_false, Bool.or_false, Bool.or_self, Bool.not_false, Bool.and_self, Bool.true_and]
            simp -implicitDefEqProofs only [go_sem, Nat.reduceBEq, Nat.reduceAdd, eq_self, true_and, and_true, and_self, List.getElem?_cons_zero, List.getElem?_cons_succ, Nat.reduceLeDiff, Nat.zero_add, Nat.reduceSub, Nat.le_refl, hh, hget, regC]
            repeat refine ⟨⟨by omega, hib, k2⟩, k1, ?_⟩
            refine ⟨⟨.inr trivial, .inr ((ext_live _ _).live _ g4), ⟨.inr (live_last _ _), .inl trivial⟩, by first | omega | (simp only [List.length_append, List.length_cons, List.length_nil]; omega)⟩, ?_⟩
            refine next _ _ _ _ _ hp (.inr ?_) (ext_kill (ext_push g2) g5) g3 (live_last' _ _ _) (by have := g2.llen; simp only [List.length_append, List.length_cons, List.length_nil]; omega)
            simp -implicitDefEqProofs only [go_sem, Nat.reduceBEq, Nat.reduceAdd, eq_self, true_and, and_true, and_self, List.getElem?_cons_zero, List.getElem?_cons_succ, Nat.reduceLeDiff, Nat.zero_add, Nat.reduceSub, Nat.le_refl, hw64, regC, regsV, List.map_append, List.map_cons, List.map_nil, List.append_assoc, List.cons_append, List.nil_append]
          case true =>
            have hp : passR r (l.take (i + 1)) false = (out ++ [r, x], true) := by
              rw [hstep]; simp only [passR, hsame, hh, Bool.and_false, Bool.false_and, cond_false, cond_true, Bool.or_false, Bool.or_self, Bool.not_false, Bool.and_self, Bool.true_and]
            simp -implicitDefEqProofs only [go_sem, Nat.reduceBEq, Nat.reduceAdd, eq_self, true_and, and_true, and_self, List.getElem?_cons_zero, List.getElem?_cons_succ, Nat.reduceLeDiff, Nat.zero_add, Nat.reduceSub, Nat.le_refl, hh, hget, regC]
            refine ⟨⟨.inr trivial, .inr ((ext_live _ _).live _ g4), ⟨.inr (live_last _ _), .inl trivial⟩, by omega⟩, ?_⟩
            have e3 : Ext τ ⟨τ1.objs, kill (τ1.live ++ [true]) (.own q) ++ [true]⟩ := ext_kill (ext_push g2) g5
            have hl3 : (St.mk τ1.objs (kill (τ1.live ++ [true]) (.own q) ++ [true])).live[(τ1.live ++ [true]).length]? = some true := live_last' _ _ _
            have hn3 : τ.live.length ≤ (τ1.live ++ [true]).length := by have := g2.llen; simp only [List.length_append, List.length_cons, List.length_nil]; omega
            have k3 := rdl (hv.ext e3) (by cases l <;> simp [regsV] at hi ⊢)
            refine ⟨⟨by omega, hib, k2⟩, k3.1, ?_⟩
            refine ⟨⟨.inr trivial, .inr ((ext_live _ _).live _ hl3), ⟨.inr (live_last _ _), .inl trivial⟩, by first | omega | (simp only [List.length_append, List.length_cons, List.length_nil]; omega)⟩, ?_⟩
            refine next _ _ _ _ _ hp (.inr ?_) (ext_kill (ext_push e3) hn3) g3 (live_last' _ _ _) (by have := e3.llen; simp only [List.length_append, List.length_cons, List.length_nil] at this ⊢; omega)
            simp -implicitDefEqProofs only [go_sem, Nat.reduceBEq, Nat.reduceAdd, eq_self, true_and, and_true, and_self, List.getElem?_cons_zero, List.getElem?_cons_succ, Nat.reduceLeDiff, Nat.zero_add, Nat.reduceSub, Nat.le_refl, hw64, regC, regsV, List.map_append, List.map_cons, List.map_nil, List.append_assoc, List.cons_append, List.nil_append]
    case false =>
      simp -implicitDefEqProofs only [go_sem, Nat.reduceBEq, Nat.reduceAdd, eq_self, true_and, and_true, and_self, List.getElem?_cons_zero, List.getElem?_cons_succ, Nat.reduceLeDiff, Nat.zero_add, Nat.reduceSub, Nat.le_refl, hget, regC, V.eqs, V.eq, h1]
      repeat refine ⟨⟨by omega, hib, k2⟩, k1, ?_⟩
      rw [Bool.false_and] at hsame
      refine cut_dup ?_
      cases d
      case true =>
        have hp : passR r (l.take (i + 1)) false = (out ++ [x], true) := by
          rw [hstep]; simp only [passR, hsame, Bool.false_and, cond_false, Bool.true_or, Bool.not_true]
        simp -implicitDefEqProofs only [go_sem, Nat.reduceBEq, Nat.reduceAdd, eq_self, true_and, and_true, and_self, List.getElem?_cons_zero, List.getElem?_cons_succ, Nat.reduceLeDiff, Nat.zero_add, Nat.reduceSub, Nat.le_refl, hget, regC]
        repeat refine ⟨⟨by omega, hib, k2⟩, k1, ?_⟩
        refine ⟨⟨.inr trivial, .inr ((ext_live _ _).live _ g4), ⟨.inr (live_last _ _), .inl trivial⟩, by first | omega | (simp only [List.length_append, List.length_cons, List.length_nil]; omega)⟩, ?_⟩
        refine next _ _ _ _ _ hp (.inr ?_) (ext_kill (ext_push g2) g5) g3 (live_last' _ _ _) (by have := g2.llen; simp only [List.length_append, List.length_cons, List.length_nil]; omega)
        simp -implicitDefEqProofs only [go_sem, Nat.reduceBEq, Nat.reduceAdd, eq_self, true_and, and_true, and_self, List.getElem?_cons_zero, List.getElem?_cons_succ, Nat.reduceLeDiff, Nat.zero_add, Nat.reduceSub, Nat.le_refl, hw64, regC, regsV, List.map_append, List.map_cons, List.map_nil, List.append_assoc, List.cons_append, List.nil_append]
      case false =>
        simp -implicitDefEqProofs only [go_sem, Nat.reduceBEq, Nat.reduceAdd, eq_self, true_and, and_true, and_self, List.getElem?_cons_zero, List.getElem?_cons_succ, Nat.reduceLeDiff, Nat.zero_add, Nat.reduceSub, Nat.le_refl, hget, regC]
        repeat refine ⟨⟨by omega, hib, k2⟩, k1, ?_⟩
        refine call_at (ahead_ok (a := r) (b := x)) ?_
        rintro v τ1 ⟨rfl, rfl⟩
        refine ⟨(Ext.refl _).kept, ?_⟩
        cases hh : ahead r x
        case false =>
          have hp : passR r (l.take (i + 1)) false = (out ++ [x], false) := by
            rw [hstep]; simp only [passR, hsame, hh, Bool.and_false, Bool.false_and, cond_false, Bool.or_false, Bool.or_self, Bool.not_false, Bool.and_self, Bool.true_and]
          simp -implicitDefEqProofs only [go_sem, Nat.reduceBEq, Nat.reduceAdd, eq_self, true_and, and_true, and_self, List.getElem?_cons_zero, List.getElem?_cons_succ, Nat.reduceLeDiff, Nat.zero_add, Nat.reduceSub, Nat.le_refl, hh, hget, regC]
          repeat refine ⟨⟨by omega, hib, k2⟩, k1, ?_⟩
          refine ⟨⟨.inr trivial, .inr ((ext_live _ _).live _ g4), ⟨.inr (live_last _ _), .inl trivial⟩, by first | omega | (simp only [List.length_append, List.length_cons, List.length_nil]; omega)⟩, ?_⟩
          refine next _ _ _ _ _ hp (.inr ?_) (ext_kill (ext_push g2) g5) g3 (live_last' _ _ _) (by have := g2.llen; simp only [List.length_append, List.length_cons, List.length_nil]; omega)
          simp -implicitDefEqProofs only [go_sem, Nat.reduceBEq, Nat.reduceAdd, eq_self, true_and, and_true, and_self, List.getElem?_cons_zero, List.getElem?_cons_succ, Nat.reduceLeDiff, Nat.zero_add, Nat.reduceSub, Nat.le_refl, hw64, regC, regsV, List.map_append, List.map_cons, List.map_nil, List.append_assoc, List.cons_append, List.nil_append]
        case true =>
          have hp : passR r (l.take (i + 1)) false = (out ++ [r, x], true) := by
            rw [hstep]; simp only [passR, hsame, hh, Bool.and_false, Bool.false_and, cond_false, cond_true, Bool.or_false, Bool.or_self, Bool.not_false, Bool.and_self, Bool.true_and]
          simp -implicitDefEqProofs only [go_sem, Nat.reduceBEq, Nat.reduceAdd, eq_self, true_and, and_true, and_self, List.getElem?_cons_zero, List.getElem?_cons_succ, Nat.reduceLeDiff, Nat.zero_add, Nat.reduceSub, Nat.le_refl, hh, hget, regC]
          refine ⟨⟨.inr trivial, .inr ((ext_live _ _).live _ g4), ⟨.inr (live_last _ _), .inl trivial⟩, by omega⟩, ?_⟩
          have e3 : Ext τ ⟨τ1.objs, kill (τ1.live ++ [true]) (.own q) ++ [true]⟩ := ext_kill (ext_push g2) g5
          have hl3 : (St.mk τ1.objs (kill (τ1.live ++ [true]) (.own q) ++ [true])).live[(τ1.live ++ [true]).length]? = some true := live_last' _ _ _
          have hn3 : τ.live.length ≤ (τ1.live ++ [true]).length := by have := g2.llen; simp only [List.length_append, List.length_cons, List.length_nil]; omega
          have k3 := rdl (hv.ext e3) (by cases l <;> simp [regsV] at hi ⊢)
          refine ⟨⟨by omega, hib, k2⟩, k3.1, ?_⟩
          refine ⟨⟨.inr trivial, .inr ((ext_live _ _).live _ hl3), ⟨.inr (live_last _ _), .inl trivial⟩, by first | omega | (simp only [List.length_append, List.length_cons, List.length_nil]; omega)⟩, ?_⟩
          refine next _ _ _ _ _ hp (.inr ?_) (ext_kill (ext_push e3) hn3) g3 (live_last' _ _ _) (by have := e3.llen; simp only [List.length_append, List.length_cons, List.length_nil] at this ⊢; omega)
          simp -implicitDefEqProofs only [go_sem, Nat.reduceBEq, Nat.reduceAdd, eq_self, true_and, and_true, and_self, List.getElem?_cons_zero, List.getElem?_cons_succ, Nat.reduceLeDiff, Nat.zero_add, Nat.reduceSub, Nat.le_refl, hw64, regC, regsV, List.map_append, List.map_cons, List.map_nil, List.append_assoc, List.cons_append, List.nil_append]
  · have hi : ¬ (i < l.length) := by simpa [regsV_length] using hcc
    have hfull : l.take i = l := List.take_of_length_le (by omega)
    have hpl := passR_length r l false
    simp -implicitDefEqProofs only [go_sem, Nat.reduceBEq, Nat.reduceAdd]
    refine z2 _ _ _ ?_
    rw [hfull]
    have hput : rputR l r = bif (passR r l false).2 then (passR r l false).1 else (passR r l false).1 ++ [r] := by unfold rputR; rw [hc]; rfl
    simp -implicitDefEqProofs only [go_sem, Nat.reduceBEq, Nat.reduceAdd]
    refine cut_dup ?_
    cases hd : (passR r l false).2 <;> rw [hd] at hput
    · simp -implicitDefEqProofs only [go_sem, Nat.reduceBEq, Nat.reduceAdd, eq_self, true_and, and_true, and_self, List.getElem?_cons_zero, List.getElem?_cons_succ, Nat.reduceLeDiff, Nat.zero_add, Nat.reduceSub, Nat.le_refl, hd, regC]
      refine ⟨⟨.inr trivial, .inr ((ext_live _ _).live _ g4), ⟨.inr (live_last _ _), .inl trivial⟩, by rw [regsV_length]; omega⟩, ?_⟩
      refine q2 _ _ ?_
      simp -implicitDefEqProofs only [go_sem, Nat.reduceBEq, Nat.reduceAdd, eq_self, true_and, and_true, and_self, List.getElem?_cons_zero, List.getElem?_cons_succ, Nat.reduceLeDiff, Nat.zero_add, Nat.reduceSub, Nat.le_refl, hc]
      refine ⟨⟨_, rfl, ?_, fun h => absurd (of_decide_eq_true hc) h⟩, ext_kill (ext_push g2) g5, g3⟩
      rw [hput]
      exact ⟨false, .own (τ'.live ++ [true]).length, 7, by simp [regsV, regC], by simp, .inr ⟨live_last' _ _ _, rfl⟩⟩
    · simp -implicitDefEqProofs only [go_sem, Nat.reduceBEq, Nat.reduceAdd, eq_self, true_and, and_true, and_self, List.getElem?_cons_zero, List.getElem?_cons_succ, Nat.reduceLeDiff, Nat.zero_add, Nat.reduceSub, Nat.le_refl, hd]
      refine q2 _ _ ?_
      simp -implicitDefEqProofs only [go_sem, Nat.reduceBEq, Nat.reduceAdd, eq_self, true_and, and_true, and_self, List.getElem?_cons_zero, List.getElem?_cons_succ, Nat.reduceLeDiff, Nat.zero_add, Nat.reduceSub, Nat.le_refl, hc]
      refine ⟨⟨_, rfl, ?_, fun h => absurd (of_decide_eq_true hc) h⟩, g2, g3⟩
      rw [hput]
      exact ⟨_, _, _, rfl, by simp, .inr ⟨g4, rfl⟩⟩

def puts (l : List Rg) : List Rg := l.foldl putR []
def rputs (l : List Rg) : List Rg := l.foldl rputR []
theorem puts_snoc (l : List Rg) (r : Rg) : puts (l ++ [r]) = putR (puts l) r := by simp [puts]
theorem rputs_snoc (l : List Rg) (r : Rg) : rputs (l ++ [r]) = rputR (rputs l) r := by simp [rputs]
theorem rputs_length (l : List Rg) : (rputs l).length ≤ 2 * l.length := by
  suffices h : ∀ (n : Nat) (l : List Rg), l.length = n → (rputs l).length ≤ 2 * n by exact h _ l rfl
  intro n
  induction n with
  | zero => intro l h; rw [List.length_eq_zero_iff.1 h]; simp [rputs]
  | succ n ih =>
    intro l h
    obtain ⟨a, b, rfl⟩ : ∃ a b, l = a ++ [b] := ⟨l.dropLast, l.getLast (by intro e; rw [e] at h; simp at h), (List.dropLast_concat_getLast _).symm⟩
    have := ih a (by simpa using h)
    have h2 := rputR_length b (rputs a)
    rw [rputs_snoc]; omega

set_option maxRecDepth 100000 in
set_option maxHeartbeats 3200000 in
theorem laid_ok (hv : RdS σ v 7 (regsV l)) (hlen : ∀ r ∈ l, r.name.length < 4611686018427387904) (hl : l.length ≤ 268435456) :
    CallA Try.prog 16 [v] σ fun w σ' => ∃ i m x, w = .tup [.ptr (some (i, 0)), x] ∧ IsRegs σ' i m (puts (l.take 200)) ∧ RdS σ' x 7 (regsV (rputs (l.take 200))) ∧ Ext σ σ' ∧ σ.objs.length ≤ m := by
  obtain ⟨b, R, z, rfl, -, -⟩ := id hv
  refine fn_at Try.func16 (by decide) comp16 rfl fun Q q1 q2 => ?_
  simp -implicitDefEqProofs only [go_sem, Nat.reduceBEq, Nat.reduceAdd, eq_self, true_and, and_true, and_self, List.getElem?_cons_zero, List.getElem?_cons_succ, Nat.reduceLeDiff, Nat.zero_add, Nat.reduceSub, Nat.le_refl, c16]
  refine call_at new_ok ?_
  rintro v τ ⟨rfl, hr, he, hlv⟩
  refine ⟨kept_none, ?_⟩
  simp -implicitDefEqProofs only [go_sem, Nat.reduceBEq, Nat.reduceAdd, eq_self, true_and, and_true, and_self, List.getElem?_cons_zero, List.getElem?_cons_succ, Nat.reduceLeDiff, Nat.zero_add, Nat.reduceSub, Nat.le_refl, Nat.lt_irrefl]
  refine loop_at (fun (x : Nat × V) => ⟨[(0, .v (.sl b R z (regsV l))), (4, .v (.ptr (some (σ.objs.length + 1, 0)))), (5, .v x.2), (6, .v (.int .i64 x.1))], []⟩)
    (fun x τ' => x.1 ≤ l.length ∧ x.1 ≤ 200 ∧ Ext σ τ' ∧ IsRegs τ' (σ.objs.length + 1) σ.objs.length (puts (l.take x.1)) ∧ RdS τ' x.2 7 (regsV (rputs (l.take x.1)))) (fun x => l.length - x.1) (0, .sl false (.own τ.live.length) 7 []) ?_ ?_ ?_
  · exact .inr (by simp [go_sem])
  · exact ⟨Nat.zero_le _, Nat.zero_le _, he.trans (ext_live _ _), hr.ext (ext_live _ _), ⟨false, .own τ.live.length, 7, by simp [rputs, regsV], by simp [rputs, regsV], .inr ⟨live_last _ _, rfl⟩⟩⟩
  clear hr he hlv
  rintro ⟨i, w⟩ τ' ⟨g1, g2, g3, g4, g5⟩ Z z1 z2 z3
  simp only at g1 g2 g4 g5
  have fin : (l.take i = l.take 200) → Z (.exit 0) ⟨[(0, .v (.sl b R z (regsV l))), (4, .v (.ptr (some (σ.objs.length + 1, 0)))), (5, .v w), (6, .v (.int .i64 i))], []⟩ τ' → True := fun _ _ => trivial
  have hll : ((regsV l).length : Int) = l.length := by rw [regsV_length]
  by_cases hi : i < l.length
  · have d1 : decide ((i : Int) < (l.length : Int)) = true := by simp; omega
    by_cases h2 : i < 200
    · have d2 : decide ((i : Int) < 200) = true := by simp; omega
      obtain ⟨k1, k2⟩ := rdl (hv.ext g3) (by cases l <;> simp [regsV] at hi ⊢)
      have hget := regsV_get hi
      have hib : (i : Int) < (l.length : Int) := by omega
      have htk : l.take (i + 1) = l.take i ++ [l[i]] := List.take_succ_eq_append_getElem hi
      have hnm := hlen _ (List.getElem_mem hi)
      generalize l[i] = x at hget htk hnm
      simp -implicitDefEqProofs only [go_sem, Nat.reduceBEq, Nat.reduceAdd, eq_self, true_and, and_true, and_self, List.getElem?_cons_zero, List.getElem?_cons_succ, Nat.reduceLeDiff, Nat.zero_add, Nat.reduceSub, Nat.le_refl, hll, d1, d2, hget, regC]
      refine ⟨⟨by omega, hib, k2⟩, k1, call_at (put_ok (r := x) g4 hnm) ?_⟩
      rintro v τ1 ⟨rfl, p1, p2, p3⟩
      refine ⟨kept_none, ?_⟩
      have e1 := p3 σ g3 (Nat.le_refl _)
      have e2 := p3 τ' (Ext.refl _)
      have k3 := rdl (hv.ext e1) (by cases l <;> simp [regsV] at hi ⊢)
      simp -implicitDefEqProofs only [go_sem, Nat.reduceBEq, Nat.reduceAdd, eq_self, true_and, and_true, and_self, List.getElem?_cons_zero, List.getElem?_cons_succ, Nat.reduceLeDiff, Nat.zero_add, Nat.reduceSub, Nat.le_refl, hget, regC]
      refine ⟨⟨by omega, by rw [regsV_length]; exact hib, k2⟩, k3.1, call_at (rput_ok (r := x) (l := rputs (l.take i)) ?_ hnm ?_) ?_⟩
      · obtain ⟨b', r', s', e, q1', q2'⟩ := g5
        exact ⟨b', r', s', e, q1', q2'.imp_right fun y => ⟨by rw [p2]; exact y.1, y.2⟩⟩
      · have := rputs_length (l.take i)
        rw [List.length_take] at this; omega
      rintro v τ2 ⟨⟨y, rfl, y1, y2⟩, he2, ho2⟩
      refine ⟨kept_none, ?_⟩
      simp -implicitDefEqProofs only [go_sem, Nat.reduceBEq, Nat.reduceAdd, eq_self, true_and, and_true, and_self, List.getElem?_cons_zero, List.getElem?_cons_succ, Nat.reduceLeDiff, Nat.zero_add, Nat.reduceSub, Nat.le_refl, Nat.lt_irrefl]
      refine z1 (i + 1, y) _ _ (.inr ?_) (by simp only; omega) ⟨by simp only; omega, by simp only; omega, e1.trans he2, ?_, ?_⟩
      · simp -implicitDefEqProofs only [go_sem, Nat.reduceBEq, Nat.reduceAdd, eq_self, true_and, and_true, and_self, List.getElem?_cons_zero, List.getElem?_cons_succ, Nat.reduceLeDiff, Nat.zero_add, Nat.reduceSub, Nat.le_refl, Nat.lt_irrefl]
        rw [i64_in _ (by omega)]; simp
      · simp only [htk, puts_snoc]
        exact p1.ext he2
      · simp only [htk, rputs_snoc]
        exact y1
    · have d2 : decide ((i : Int) < 200) = false := by simp; omega
      have h200 : i = 200 := by omega
      simp -implicitDefEqProofs only [go_sem, Nat.reduceBEq, Nat.reduceAdd, eq_self, true_and, and_true, and_self, List.getElem?_cons_zero, List.getElem?_cons_succ, Nat.reduceLeDiff, Nat.zero_add, Nat.reduceSub, Nat.le_refl, hll, d1, d2]
      refine z2 _ _ _ ?_
      simp -implicitDefEqProofs only [go_sem, Nat.reduceBEq, Nat.reduceAdd]
      refine q2 _ _ ?_
      simp -implicitDefEqProofs only [go_sem, Nat.reduceBEq, Nat.reduceAdd, eq_self, true_and, and_true, and_self, List.getElem?_cons_zero, List.getElem?_cons_succ, Nat.reduceLeDiff, Nat.zero_add, Nat.reduceSub, Nat.le_refl, Nat.lt_irrefl]
      subst h200
      exact ⟨_, _, _, rfl, g4, g5, g3, Nat.le_refl _⟩
  · have d1 : decide ((i : Int) < (l.length : Int)) = false := by simp; omega
    simp -implicitDefEqProofs only [go_sem, Nat.reduceBEq, Nat.reduceAdd, eq_self, true_and, and_true, and_self, List.getElem?_cons_zero, List.getElem?_cons_succ, Nat.reduceLeDiff, Nat.zero_add, Nat.reduceSub, Nat.le_refl, hll, d1]
    refine z2 _ _ _ ?_
    simp -implicitDefEqProofs only [go_sem, Nat.reduceBEq, Nat.reduceAdd]
    refine q2 _ _ ?_
    simp -implicitDefEqProofs only [go_sem, Nat.reduceBEq, Nat.reduceAdd, eq_self, true_and, and_true, and_self, List.getElem?_cons_zero, List.getElem?_cons_succ, Nat.reduceLeDiff, Nat.zero_add, Nat.reduceSub, Nat.le_refl, Nat.lt_irrefl]
    have hfull : l.take i = l.take 200 := by rw [List.take_of_length_le (by omega), List.take_of_length_le (by omega)]
    rw [hfull] at g4 g5
    exact ⟨_, _, _, rfl, g4, g5, g3, Nat.le_refl _⟩
end
end Go.VL.lww

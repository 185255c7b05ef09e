/- lww: what a register has; the program answers. -/
import Derived.Test.YtefbofjonjdebaaLwwE
import Derived.Test.YtefbofjonjdebaaVty
set_option linter.unusedVariables false
set_option linter.unusedSimpArgs false
namespace Go.VL.lww
open Go Go.VL Go.Proofs Go.IntWalk

def zeroR : Rg := ⟨0, 0, [], 0, 0, [], false⟩
def getR (l : List Rg) (r : Rg) : Rg := (l.find? (sameK r)).getD zeroR

section
variable {σ : St} {r : Rg} {i m : Nat} {l : List Rg}
theorem ext_cell {σ : St} (x : AObj) (cs : List V) : Ext σ ((St.mk (σ.objs ++ [x]) σ.live).setC σ.objs.length cs) := by
  refine ⟨fun j o hj => ?_, fun _ h => h, ?_, Nat.le_refl _⟩
  · have := (List.getElem?_eq_some_iff.1 hj).1
    show ((σ.objs ++ [x]).set _ _)[j]? = _
    rw [List.getElem?_set_ne (by omega), List.getElem?_append_left this]
    exact hj
  · show _ ≤ ((σ.objs ++ [x]).set _ _).length
    simp
theorem IsRegs.ext {σ σ' : St} (h : IsRegs σ i m l) (he : Ext σ σ') : IsRegs σ' i m l := by
  obtain ⟨ver, h1, h2⟩ := h
  exact ⟨ver, he.objs _ _ h1, he.objs _ _ h2⟩

set_option maxRecDepth 100000 in
set_option maxHeartbeats 1600000 in
theorem get_ok (h : IsRegs σ i m l) : CallA Try.prog 17 [.ptr (some (i, 0)), stV r.nc r.nr, .str r.name] σ fun v σ' => v = .tup [regV (getR l r), .bool (l.find? (sameK r)).isSome] ∧ Ext σ σ' ∧ σ'.live = σ.live := by
  obtain ⟨ver, h1, h2⟩ := h
  refine fn_at Try.func17 (by decide) comp17 rfl fun Q q1 q2 => ?_
  have hk : keyFits [.agg, .int .i64, .int .i64, .str] (.agg [.int .i64 r.nc, .int .i64 r.nr, .str r.name]) = true := rfl
  have hf : find (.agg [.int .i64 r.nc, .int .i64 r.nr, .str r.name]) (ents l) = (l.find? (sameK r)).map regV := find_ents r l
  have hlast : ∀ x, (σ.objs ++ [x])[σ.objs.length]? = some x := fun x => by simp
  have h2' : σ.objs[m]? = some (.mp [.agg, .int .i64, .int .i64, .str] (ents l) ver) := h2
  have ol : ∀ x cs, ((St.mk (σ.objs ++ [x]) σ.live).setC σ.objs.length cs).objs[σ.objs.length]? = some (.cells cs) := by
    intro x cs
    show ((σ.objs ++ [x]).set _ _)[_]? = _
    simp
  unfold getR at q2
  cases hfi : l.find? (sameK r) with
  | none =>
    rw [hfi] at hf q2
    simp only [Option.map_none] at hf
    simp -implicitDefEqProofs only [go_sem, Nat.reduceBEq, Nat.reduceAdd, eq_self, true_and, and_self, List.getElem?_cons_zero, List.getElem?_cons_succ, Nat.reduceLeDiff, Nat.zero_add, Nat.reduceSub, Nat.le_refl, c17, stV, h1, h2', hk, hf, hlast, ol]
    refine q2 _ _ ?_
    simp -implicitDefEqProofs only [go_sem, Nat.reduceBEq, Nat.reduceAdd, eq_self, true_and, and_self, List.getElem?_cons_zero, List.getElem?_cons_succ, Nat.reduceLeDiff, Nat.zero_add, Nat.reduceSub, Nat.le_refl, Option.getD_none, regV, regC, zeroR]
    exact ⟨rfl, ext_cell _ _, rfl⟩
  | some w =>
    rw [hfi] at hf q2
    simp only [Option.map_some] at hf
    simp -implicitDefEqProofs only [go_sem, Nat.reduceBEq, Nat.reduceAdd, eq_self, true_and, and_self, List.getElem?_cons_zero, List.getElem?_cons_succ, Nat.reduceLeDiff, Nat.zero_add, Nat.reduceSub, Nat.le_refl, c17, stV, h1, h2', hk, hf, hlast, ol, regV, regC]
    refine q2 _ _ ?_
    simp -implicitDefEqProofs only [go_sem, Nat.reduceBEq, Nat.reduceAdd, eq_self, true_and, and_self, List.getElem?_cons_zero, List.getElem?_cons_succ, Nat.reduceLeDiff, Nat.zero_add, Nat.reduceSub, Nat.le_refl, Option.getD_some, regV, regC]
    exact ⟨rfl, ext_cell _ _, rfl⟩

set_option maxRecDepth 100000 in
theorem value_ok (h : IsRegs σ i m l) : CallA Try.prog 24 [.ptr (some (i, 0)), stV r.nc r.nr, .str r.name] σ fun v σ' => v = .str (getR l r).val ∧ Ext σ σ' ∧ σ'.live = σ.live := by
  refine fn_at Try.func24 (by decide) comp24 rfl fun Q q1 q2 => ?_
  simp -implicitDefEqProofs only [go_sem, Nat.reduceBEq, Nat.reduceAdd, eq_self, true_and, and_self, List.getElem?_cons_zero, List.getElem?_cons_succ, Nat.reduceLeDiff, Nat.zero_add, Nat.reduceSub, Nat.le_refl, c24, stV]
  refine call_at (get_ok (r := r) h) ?_
  rintro v τ ⟨rfl, h1, h2⟩
  refine ⟨kept_none, ?_⟩
  simp -implicitDefEqProofs only [go_sem, Nat.reduceBEq, Nat.reduceAdd, eq_self, true_and, and_self, List.getElem?_cons_zero, List.getElem?_cons_succ, Nat.reduceLeDiff, Nat.zero_add, Nat.reduceSub, Nat.le_refl, regV, regC]
  refine q2 _ _ ?_
  simp -implicitDefEqProofs only [go_sem, Nat.reduceBEq, Nat.reduceAdd, eq_self, true_and, and_self, List.getElem?_cons_zero, List.getElem?_cons_succ, Nat.reduceLeDiff, Nat.zero_add, Nat.reduceSub, Nat.le_refl, h1, h2]

def awR : Rg := ⟨1, 0, [99, 108, 97, 115, 115], 3, 0, [97], false⟩
set_option maxRecDepth 100000 in
theorem awake_ok : CallA Try.prog 15 [] σ fun v σ' => v = .bool true ∧ Ext σ σ' := by
  refine fn_at Try.func15 (by decide) comp15 rfl fun Q q1 q2 => ?_
  simp -implicitDefEqProofs only [go_sem, Nat.reduceBEq, Nat.reduceAdd, eq_self, true_and, and_self, List.getElem?_cons_zero, List.getElem?_cons_succ, Nat.reduceLeDiff, Nat.zero_add, Nat.reduceSub, Nat.le_refl, c15]
  refine call_at new_ok ?_
  rintro v σ1 ⟨rfl, hr, he, hl⟩
  refine ⟨kept_none, ?_⟩
  simp -implicitDefEqProofs only [go_sem, Nat.reduceBEq, Nat.reduceAdd, eq_self, true_and, and_self, List.getElem?_cons_zero, List.getElem?_cons_succ, Nat.reduceLeDiff, Nat.zero_add, Nat.reduceSub, Nat.le_refl, hr]
  refine call_at (put_ok (r := awR) hr (by decide)) ?_
  rintro v σ2 ⟨rfl, hr2, hl2, he2⟩
  refine ⟨kept_none, ?_⟩
  have hx := he2 σ he (Nat.le_refl _)
  have hp : putR [] awR = [awR] := by
    unfold putR
    rw [show decide (chk awR = 0) = true from by decide]; rfl
  rw [hp] at hr2
  have hc : decide (chk awR = 0) = true := by decide
  simp -implicitDefEqProofs only [go_sem, Nat.reduceBEq, Nat.reduceAdd, eq_self, true_and, and_self, List.getElem?_cons_zero, List.getElem?_cons_succ, Nat.reduceLeDiff, Nat.zero_add, Nat.reduceSub, Nat.le_refl, hc]
  refine call_at (value_ok (r := awR) hr2) ?_
  rintro v σ3 ⟨rfl, he3, hl3⟩
  refine ⟨kept_none, ?_⟩
  have hv : decide ((getR [awR] awR).val = [97]) = true := by decide
  simp -implicitDefEqProofs only [go_sem, Nat.reduceBEq, Nat.reduceAdd, eq_self, true_and, and_self, List.getElem?_cons_zero, List.getElem?_cons_succ, Nat.reduceLeDiff, Nat.zero_add, Nat.reduceSub, Nat.le_refl, hv]
  refine call_at (check_ok (r := zeroR) (by decide)) ?_
  rintro v σ4 ⟨rfl, rfl⟩
  refine ⟨kept_none, ?_⟩
  have hz : decide (chk zeroR = 2) = true := by decide
  simp -implicitDefEqProofs only [go_sem, Nat.reduceBEq, Nat.reduceAdd, eq_self, true_and, and_self, List.getElem?_cons_zero, List.getElem?_cons_succ, Nat.reduceLeDiff, Nat.zero_add, Nat.reduceSub, Nat.le_refl, hz]
  refine q2 _ _ ?_
  simp -implicitDefEqProofs only [go_sem, Nat.reduceBEq, Nat.reduceAdd]
  exact ⟨trivial, hx.trans he3⟩

set_option maxRecDepth 100000 in
set_option maxHeartbeats 1600000 in
/-- LwwChecks. -/
theorem checks_ok {a b : Rg} (ha : a.name.length < 4611686018427387904) : CallA Try.prog 3 [regV a, regV b] σ fun v _ => v = .bool true := by
  refine fn_at Try.func3 (by decide) comp3 rfl fun Q q1 q2 => ?_
  simp -implicitDefEqProofs only [go_sem, Nat.reduceBEq, Nat.reduceAdd, eq_self, true_and, and_self, List.getElem?_cons_zero, List.getElem?_cons_succ, Nat.reduceLeDiff, Nat.zero_add, Nat.reduceSub, Nat.le_refl, c3, regV, regC]
  refine call_at (check_ok (r := a) ha) ?_
  rintro v τ ⟨rfl, rfl⟩
  refine ⟨(Ext.refl _).kept, ?_⟩
  simp -implicitDefEqProofs only [go_sem, Nat.reduceBEq, Nat.reduceAdd, eq_self, true_and, and_self, List.getElem?_cons_zero, List.getElem?_cons_succ, Nat.reduceLeDiff, Nat.zero_add, Nat.reduceSub, Nat.le_refl, Nat.lt_irrefl]
  refine call_at (rcheck_ok (r := a) ha) ?_
  rintro v τ ⟨rfl, rfl⟩
  refine ⟨(Ext.refl _).kept, ?_⟩
  have d1 : decide (chk a = chk a) = true := by simp
  simp -implicitDefEqProofs only [go_sem, Nat.reduceBEq, Nat.reduceAdd, eq_self, true_and, and_self, List.getElem?_cons_zero, List.getElem?_cons_succ, Nat.reduceLeDiff, Nat.zero_add, Nat.reduceSub, Nat.le_refl, d1]
  refine call_at (wins_ok (a := a) (b := b)) ?_
  rintro v τ ⟨rfl, rfl⟩
  refine ⟨(Ext.refl _).kept, ?_⟩
  simp -implicitDefEqProofs only [go_sem, Nat.reduceBEq, Nat.reduceAdd, eq_self, true_and, and_self, List.getElem?_cons_zero, List.getElem?_cons_succ, Nat.reduceLeDiff, Nat.zero_add, Nat.reduceSub, Nat.le_refl, Nat.lt_irrefl]
  refine call_at (rwins_ok (a := a) (b := b)) ?_
  rintro v τ ⟨rfl, rfl⟩
  refine ⟨(Ext.refl _).kept, ?_⟩
  have d2 : (wins a b == wins a b) = true := by simp
  simp -implicitDefEqProofs only [go_sem, Nat.reduceBEq, Nat.reduceAdd, eq_self, true_and, and_self, List.getElem?_cons_zero, List.getElem?_cons_succ, Nat.reduceLeDiff, Nat.zero_add, Nat.reduceSub, Nat.le_refl, d2]
  refine call_at (wins_ok (a := a) (b := a)) ?_
  rintro v τ ⟨rfl, rfl⟩
  refine ⟨(Ext.refl _).kept, ?_⟩
  have d3 : wins a a = false := wins_self a
  simp -implicitDefEqProofs only [go_sem, Nat.reduceBEq, Nat.reduceAdd, eq_self, true_and, and_self, List.getElem?_cons_zero, List.getElem?_cons_succ, Nat.reduceLeDiff, Nat.zero_add, Nat.reduceSub, Nat.le_refl, d3]
  refine call_at (wins_ok (a := a) (b := b)) ?_
  rintro v τ ⟨rfl, rfl⟩
  refine ⟨(Ext.refl _).kept, ?_⟩
  cases hw : wins a b
  case' true =>
    simp -implicitDefEqProofs only [go_sem, Nat.reduceBEq, Nat.reduceAdd, eq_self, true_and, and_self, List.getElem?_cons_zero, List.getElem?_cons_succ, Nat.reduceLeDiff, Nat.zero_add, Nat.reduceSub, Nat.le_refl, hw]
    refine call_at (wins_ok (a := b) (b := a)) ?_
    rintro v τ ⟨rfl, rfl⟩
    refine ⟨(Ext.refl _).kept, ?_⟩
    have d4 : wins b a = false := wins_asym hw
    simp -implicitDefEqProofs only [go_sem, Nat.reduceBEq, Nat.reduceAdd, eq_self, true_and, and_self, List.getElem?_cons_zero, List.getElem?_cons_succ, Nat.reduceLeDiff, Nat.zero_add, Nat.reduceSub, Nat.le_refl, d4]
  case' false =>
    simp -implicitDefEqProofs only [go_sem, Nat.reduceBEq, Nat.reduceAdd, eq_self, true_and, and_self, List.getElem?_cons_zero, List.getElem?_cons_succ, Nat.reduceLeDiff, Nat.zero_add, Nat.reduceSub, Nat.le_refl, hw]
  all_goals
    refine call_at awake_ok ?_
    rintro v τ ⟨rfl, he⟩
    refine ⟨he.kept, ?_⟩
    simp -implicitDefEqProofs only [go_sem, Nat.reduceBEq, Nat.reduceAdd]
    refine q2 _ _ ?_
    simp -implicitDefEqProofs only [go_sem, Nat.reduceBEq, Nat.reduceAdd]
end
end Go.VL.lww
namespace Go.VL.lww
open Go Go.VL
def RgT : List T := [.agg [.int .i64, .int .i64], .str, .agg [.int .i64, .int .i64], .str, .bool]
theorem has_reg {xs : List V} (h : T.hasL RgT xs) : ∃ r : Rg, xs = regC r ∧ r.name.length + r.val.length < vbs xs := by
  obtain ⟨_, _, rfl, ⟨_, _, rfl, ⟨nc, rfl, _⟩, _, _, rfl, ⟨nr, rfl, _⟩, rfl⟩, _, _, rfl, ⟨name, rfl⟩, _, _, rfl, ⟨_, _, rfl, ⟨ac, rfl, _⟩, _, _, rfl, ⟨ar, rfl, _⟩, rfl⟩, _, _, rfl, ⟨val, rfl⟩, _, _, rfl, ⟨gone, rfl⟩, rfl⟩ := h
  refine ⟨⟨nc, nr, name, ac, ar, val, gone⟩, rfl, ?_⟩
  simp only [List.cons_append, List.nil_append, List.append_nil, vbs, vb]
  omega
end Go.VL.lww

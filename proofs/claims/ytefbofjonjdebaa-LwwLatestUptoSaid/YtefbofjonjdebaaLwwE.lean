/- lww: registers. -/
import Derived.Test.YtefbofjonjdebaaLwwD
set_option linter.unusedVariables false
set_option linter.unusedSimpArgs false
namespace Go.VL.lww
open Go Go.VL Go.Proofs Go.IntWalk

def keyC (r : Rg) : List V := [.int .i64 r.nc, .int .i64 r.nr, .str r.name]
def sameK (a b : Rg) : Bool := decide (a.nc = b.nc) && (decide (a.nr = b.nr) && decide (a.name = b.name))
def KL : List LK := [.agg, .int .i64, .int .i64, .str]
def ents (l : List Rg) : List (V × V) := l.map fun r => (.agg (keyC r), regV r)
def updR (r : Rg) : List Rg → List Rg
  | [] => [r]
  | x :: l => bif sameK r x then r :: l else x :: updR r l
def putR (l : List Rg) (r : Rg) : List Rg :=
  bif decide (chk r = 0) then (match l.find? (sameK r) with
    | some w => bif wins r w then updR r l else l
    | none => l ++ [r]) else l

theorem key_eq (a b : Rg) : V.eq (.agg (keyC a)) (.agg (keyC b)) = sameK a b := by
  simp [V.eq, V.eqs, keyC, sameK, beqL]
theorem find_ents (r : Rg) : ∀ l : List Rg, find (.agg (keyC r)) (ents l) = (l.find? (sameK r)).map regV
  | [] => rfl
  | x :: l => by
    have ih := find_ents r l
    simp only [ents] at ih
    simp only [ents, List.map_cons, find, key_eq, List.find?_cons]
    cases sameK r x with
    | true => rfl
    | false => simpa using ih
theorem upd_ents (r : Rg) : ∀ l : List Rg, upd (.agg (keyC r)) (regV r) (ents l) = ents (updR r l)
  | [] => rfl
  | x :: l => by
    have ih := upd_ents r l
    simp only [ents] at ih
    simp only [ents, List.map_cons, upd, key_eq, updR]
    cases sameK r x with
    | true => rfl
    | false => simp only [cond_false, List.map_cons, ih]
theorem updR_none (r : Rg) : ∀ {l : List Rg}, l.find? (sameK r) = none → updR r l = l ++ [r]
  | [], _ => rfl
  | x :: l, h => by
    simp only [List.find?_cons] at h
    cases hs : sameK r x with
    | true => rw [hs] at h; cases h
    | false =>
      rw [hs] at h
      simp only [updR, hs, cond_false, List.cons_append, updR_none r h]

/-- Registers in memory. -/
def IsRegs (σ : St) (i m : Nat) (l : List Rg) : Prop := ∃ ver, σ.objs[i]? = some (.cells [.map (some m)]) ∧ σ.objs[m]? = some (.mp KL (ents l) ver)

section
variable {σ : St} {r : Rg} {i m : Nat} {l : List Rg}
set_option maxRecDepth 100000 in
theorem new_ok : CallA Try.prog 18 [] σ fun v σ' => v = .ptr (some (σ.objs.length + 1, 0)) ∧ IsRegs σ' (σ.objs.length + 1) σ.objs.length [] ∧ Ext σ σ' ∧ σ'.live = σ.live := by
  refine fn_at Try.func18 (by decide) comp18 rfl fun Q q1 q2 => ?_
  simp -implicitDefEqProofs only [go_sem, Nat.reduceBEq, Nat.reduceAdd, c18, Nat.reduceLeDiff, Nat.zero_add]
  refine q2 _ _ ?_
  simp -implicitDefEqProofs only [go_sem, Nat.reduceBEq, Nat.reduceAdd]
  refine ⟨by simp, ⟨0, by simp, ?_⟩, (ext_obj σ _).trans (ext_obj _ _), trivial⟩
  simp [KL, ents]

set_option maxRecDepth 100000 in
set_option maxHeartbeats 1600000 in
theorem put_ok (h : IsRegs σ i m l) (hlen : r.name.length < 4611686018427387904) :
    CallA Try.prog 20 [.ptr (some (i, 0)), regV r] σ fun v σ' => v = .int .i64 (chk r) ∧ IsRegs σ' i m (putR l r) ∧ σ'.live = σ.live ∧ ∀ σ0, Ext σ0 σ → σ0.objs.length ≤ m → Ext σ0 σ' := by
  obtain ⟨ver, h1, h2⟩ := h
  refine fn_at Try.func20 (by decide) comp20 rfl fun Q q1 q2 => ?_
  simp -implicitDefEqProofs only [go_sem, Nat.reduceBEq, Nat.reduceAdd, eq_self, true_and, and_self, c20, regV, regC]
  refine call_at (check_ok hlen) ?_
  rintro v τ ⟨rfl, rfl⟩
  refine ⟨kept_none, ?_⟩
  cases hc : decide (chk r = 0)
  case false =>
    simp -implicitDefEqProofs only [go_sem, Nat.reduceBEq, Nat.reduceAdd, eq_self, true_and, and_self, hc]
    refine q2 _ _ ?_
    simp -implicitDefEqProofs only [go_sem, Nat.reduceBEq, Nat.reduceAdd]
    refine ⟨trivial, ?_, trivial, fun σ0 h _ => h⟩
    unfold putR
    rw [hc]
    exact ⟨ver, h1, h2⟩
  have hk : keyFits [.agg, .int .i64, .int .i64, .str] (.agg [.int .i64 r.nc, .int .i64 r.nr, .str r.name]) = true := rfl
  have hf : find (.agg [.int .i64 r.nc, .int .i64 r.nr, .str r.name]) (ents l) = (l.find? (sameK r)).map regV := find_ents r l
  have hlast : ∀ x, (τ.objs ++ [x])[τ.objs.length]? = some x := fun x => by simp
  have h2' : τ.objs[m]? = some (.mp [.agg, .int .i64, .int .i64, .str] (ents l) ver) := h2
  have hil := (List.getElem?_eq_some_iff.1 h1).1
  have hml := (List.getElem?_eq_some_iff.1 h2).1
  have old : ∀ x cs (j : Nat) o, τ.objs[j]? = some o → ((St.mk (τ.objs ++ [x]) τ.live).setC τ.objs.length cs).objs[j]? = some o := by
    intro x cs j o hj
    have := (List.getElem?_eq_some_iff.1 hj).1
    show ((τ.objs ++ [x]).set _ _)[j]? = _
    rw [List.getElem?_set_ne (by omega), List.getElem?_append_left this]
    exact hj
  have oi := fun x cs => old x cs i _ h1
  have om := fun x cs => old x cs m _ h2'
  have ol : ∀ x cs, ((St.mk (τ.objs ++ [x]) τ.live).setC τ.objs.length cs).objs[τ.objs.length]? = some (.cells cs) := by
    intro x cs
    show ((τ.objs ++ [x]).set _ _)[_]? = _
    simp
  have hext : ∀ x cs σ0, Ext σ0 τ → σ0.objs.length ≤ m → Ext σ0 ((St.mk (τ.objs ++ [x]) τ.live).setC τ.objs.length cs) := by
    intro x cs σ0 h hm
    refine ⟨fun j o hj => old x cs j o (h.objs j o hj), h.live, ?_, h.llen⟩
    show _ ≤ ((τ.objs ++ [x]).set _ _).length
    have := h.olen
    simp; omega
  have hsetM : ∀ (τ1 : St) (σ0 : St) es ver, Ext σ0 τ1 → σ0.objs.length ≤ m → Ext σ0 (τ1.setM m [.agg, .int .i64, .int .i64, .str] es ver) := by
    intro τ1 σ0 es ver h hm
    refine ⟨fun j o hj => ?_, h.live, ?_, h.llen⟩
    · have := (List.getElem?_eq_some_iff.1 hj).1
      show (τ1.objs.set _ _)[j]? = _
      rw [List.getElem?_set_ne (by omega)]
      exact h.objs j o hj
    · show _ ≤ (τ1.objs.set _ _).length
      rw [List.length_set]; exact h.olen
  have him : i ≠ m := by
    intro e
    rw [e, h2] at h1
    cases h1
  have hu : upd (.agg [.int .i64 r.nc, .int .i64 r.nr, .str r.name]) (.agg [.int .i64 r.nc, .int .i64 r.nr, .str r.name, .int .i64 r.ac, .int .i64 r.ar, .str r.val, .bool r.gone]) (ents l) = ents (updR r l) := upd_ents r l
  have fin : ∀ x cs, IsRegs (((St.mk (τ.objs ++ [x]) τ.live).setC τ.objs.length cs).setM m [.agg, .int .i64, .int .i64, .str] (ents (updR r l)) (ver + 1)) i m (updR r l) := by
    intro x cs
    refine ⟨ver + 1, ?_, ?_⟩
    · show ((((St.mk (τ.objs ++ [x]) τ.live).setC τ.objs.length cs).objs.set m _))[i]? = _
      rw [List.getElem?_set_ne (Ne.symm him)]
      exact oi x cs
    · show ((((St.mk (τ.objs ++ [x]) τ.live).setC τ.objs.length cs).objs.set m _))[m]? = _
      rw [List.getElem?_set_self (List.getElem?_eq_some_iff.1 (om x cs)).1]
      rfl
  simp -implicitDefEqProofs only [go_sem, Nat.reduceBEq, Nat.reduceAdd, eq_self, true_and, and_self, hc, Nat.reduceLeDiff, Nat.zero_add, Nat.reduceSub]
  cases hfi : l.find? (sameK r) with
  | none =>
    rw [hfi] at hf
    simp only [Option.map_none] at hf
    refine cut_dup ?_
    simp -implicitDefEqProofs only [go_sem, Nat.reduceBEq, Nat.reduceAdd, eq_self, true_and, and_self, List.getElem?_cons_zero, List.getElem?_cons_succ, Nat.reduceLeDiff, Nat.zero_add, Nat.reduceSub, h1, h2', hk, hf, hlast, oi, om, ol, hu, Nat.le_refl]
    refine q2 _ _ ?_
    simp -implicitDefEqProofs only [go_sem, Nat.reduceBEq, Nat.reduceAdd, eq_self, true_and, and_self, hc]
    have hp : putR l r = updR r l := by rw [updR_none r hfi]; unfold putR; rw [hc, hfi]; rfl
    rw [hp]
    exact ⟨by simp only [decide_eq_true_eq] at hc; rw [hc], fin _ _, rfl, fun σ0 h hm => hsetM _ _ _ _ (hext _ _ _ h hm) hm⟩
  | some w =>
    rw [hfi] at hf
    simp only [Option.map_some] at hf
    refine cut_dup ?_
    simp -implicitDefEqProofs only [go_sem, Nat.reduceBEq, Nat.reduceAdd, eq_self, true_and, and_self, List.getElem?_cons_zero, List.getElem?_cons_succ, Nat.reduceLeDiff, Nat.zero_add, Nat.reduceSub, h1, h2', hk, hf, hlast, oi, om, ol, regV, regC, Nat.le_refl]
    refine call_at (wins_ok (a := r) (b := w)) ?_
    rintro v τ2 ⟨rfl, rfl⟩
    refine ⟨kept_none, ?_⟩
    cases hw : wins r w
    case false =>
      simp -implicitDefEqProofs only [go_sem, Nat.reduceBEq, Nat.reduceAdd, eq_self, true_and, and_self, List.getElem?_cons_zero, List.getElem?_cons_succ, Nat.reduceLeDiff, Nat.zero_add, Nat.reduceSub, Nat.le_refl, hw]
      refine q2 _ _ ?_
      simp -implicitDefEqProofs only [go_sem, Nat.reduceBEq, Nat.reduceAdd, eq_self, true_and, and_self, List.getElem?_cons_zero, List.getElem?_cons_succ, Nat.reduceLeDiff, Nat.zero_add, Nat.reduceSub, Nat.le_refl, hc]
      have hp : putR l r = l := by unfold putR; rw [hc, hfi]; simp only [cond_true, hw, cond_false]
      rw [hp]
      exact ⟨by simp only [decide_eq_true_eq] at hc; rw [hc], ⟨ver, oi _ _, om _ _⟩, rfl, fun σ0 h hm => hext _ _ _ h hm⟩
    case true =>
      simp -implicitDefEqProofs only [go_sem, Nat.reduceBEq, Nat.reduceAdd, eq_self, true_and, and_self, List.getElem?_cons_zero, List.getElem?_cons_succ, Nat.reduceLeDiff, Nat.zero_add, Nat.reduceSub, Nat.le_refl, hw, oi, om, ol, hk, hu]
      refine q2 _ _ ?_
      simp -implicitDefEqProofs only [go_sem, Nat.reduceBEq, Nat.reduceAdd, eq_self, true_and, and_self, List.getElem?_cons_zero, List.getElem?_cons_succ, Nat.reduceLeDiff, Nat.zero_add, Nat.reduceSub, Nat.le_refl, hc]
      have hp : putR l r = updR r l := by unfold putR; rw [hc, hfi]; simp only [cond_true, hw]
      rw [hp]
      exact ⟨by simp only [decide_eq_true_eq] at hc; rw [hc], fin _ _, rfl, fun σ0 h hm => hsetM _ _ _ _ (hext _ _ _ h hm) hm⟩
end
end Go.VL.lww

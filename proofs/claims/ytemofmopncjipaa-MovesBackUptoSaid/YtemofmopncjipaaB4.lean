import Derived.Test.YtemofmopncjipaaB3
set_option linter.unusedVariables false
set_option linter.unusedSimpArgs false
namespace Go.VL.mov
open Go Go.VL Go.Proofs Go.IntWalk

def delD (D : List Mv) (a : Sp) : List Mv := D.take (ix a D) ++ D.drop (ix a D + 1)
def unE (D : List Mv) (a : Sp) : Int := bif at? a D then 0 else 4
noncomputable def unD (D : List Mv) (a : Sp) : List Mv := bif at? a D then runD W0 (delD D a) else D
theorem at_lt {a : Sp} {D : List Mv} (h : at? a D = true) : ix a D < D.length := by
  rcases Nat.lt_or_ge (ix a D) D.length with h1 | h1
  · exact h1
  · simp [at?, List.getElem?_eq_none h1] at h
theorem delD_length {D : List Mv} {a : Sp} (h : at? a D = true) : (delD D a).length + 1 = D.length := by
  have := at_lt h
  simp only [delD, List.length_append, List.length_take, List.length_drop]; omega
theorem delD_sub (D : List Mv) (a : Sp) : (delD D a).Sublist D := by
  have h1 : (D.take (ix a D) ++ D.drop (ix a D + 1)).Sublist (D.take (ix a D) ++ D.drop (ix a D)) := by
    refine List.Sublist.append (List.Sublist.refl _) ?_
    rw [← List.drop_drop, List.drop_one]
    exact List.tail_sublist _
  rw [List.take_append_drop] at h1
  exact h1
theorem unD_le (D : List Mv) (a : Sp) : (unD D a).length ≤ D.length := by
  unfold unD
  cases h : at? a D
  · exact Nat.le_refl _
  · have := delD_length h
    simp only [cond_true, runD_length]; omega
theorem okD_un {D : List Mv} (h : OkD D) (a : Sp) : OkD (unD D a) := by
  unfold unD
  cases at? a D
  · exact h
  · rw [cond_true, ← okD_core, core_runD, okD_core]
    exact fun x hx => h x ((delD_sub D a).mem hx)

section
variable {σ : St} {i m : Nat} {s : V} {D : List Mv} {a : Sp}
set_option maxHeartbeats 3200000 in
set_option maxRecDepth 100000 in
theorem undo_ok (h : TreeIs σ i m s D) (hl : D.length ≤ 1000000) :
    CallA Try.prog 28 [.ptr (some (i, 0)), spV a] σ fun v σ' => v = .int .i64 (unE D a) ∧ ∃ s', TreeIs σ' i m s' (unD D a) ∧ TreeTo σ σ' i m s s' := by
  refine fn_at Try.func28 (by decide) comp28 rfl fun Q q1 q2 => ?_
  simp -implicitDefEqProofs only [go_sem, Nat.reduceBEq, Nat.reduceAdd, eq_self, true_and, and_true, and_self, List.getElem?_cons_zero, List.getElem?_cons_succ, Nat.reduceLeDiff, Nat.zero_add, Nat.reduceSub, Nat.le_refl, c28, spV, spC]
  refine call_at (place_ok (a := a) h.tree h.srt (by omega)) ?_
  rintro v τ ⟨rfl, rfl⟩
  refine ⟨kept_none, ?_⟩
  cases hat : at? a D
  case false =>
    have b1 : unE D a = 4 ∧ unD D a = D := by simp [unE, unD, hat]
    rw [b1.1, b1.2] at q2
    simp -implicitDefEqProofs only [go_sem, Nat.reduceBEq, Nat.reduceAdd, eq_self, true_and, and_true, and_self, List.getElem?_cons_zero, List.getElem?_cons_succ, Nat.reduceLeDiff, Nat.zero_add, Nat.reduceSub, Nat.le_refl, hat]
    refine q2 _ _ ?_
    simp -implicitDefEqProofs only [go_sem, Nat.reduceBEq, Nat.reduceAdd, eq_self, true_and, and_true, and_self, List.getElem?_cons_zero, List.getElem?_cons_succ, Nat.reduceLeDiff, Nat.zero_add, Nat.reduceSub, Nat.le_refl, Nat.lt_irrefl]
    exact ⟨s, h, .refl _ _ _ _⟩
  have b1 : unE D a = 0 ∧ unD D a = runD W0 (delD D a) := by simp [unE, unD, hat]
  rw [b1.1, b1.2] at q2
  have hlt := at_lt hat
  have hle : ix a D ≤ D.length := by omega
  simp -implicitDefEqProofs only [go_sem, Nat.reduceBEq, Nat.reduceAdd, eq_self, true_and, and_true, and_self, List.getElem?_cons_zero, List.getElem?_cons_succ, Nat.reduceLeDiff, Nat.zero_add, Nat.reduceSub, Nat.le_refl, hat]
  refine call_at (back_ok h.tree (n := ix a D) hle (by omega)) ?_
  rintro v τ1 ⟨ht1, hu1, hl1⟩
  refine ⟨kept_none, ?_⟩
  have hrr := (runs_append (W := W0) (A := D.take (ix a D)) (B := D.drop (ix a D))).1 (by rw [List.take_append_drop]; exact h.runs)
  have hund : undo (runT W0 D) (D.drop (ix a D)) = runT W0 (D.take (ix a D)) := by
    have := undo_run _ _ hrr.2
    rw [← runT_append, List.take_append_drop] at this
    exact this
  rw [hund] at ht1
  have h1 := ht1.cells
  have hw0 : IntKind.i64.wrap ((ix a D : Int) + 1) = ((ix a D + 1 : Nat) : Int) := by rw [i64_in _ (by omega)]; omega
  simp -implicitDefEqProofs only [go_sem, Nat.reduceBEq, Nat.reduceAdd, eq_self, true_and, and_true, and_self, List.getElem?_cons_zero, List.getElem?_cons_succ, Nat.reduceLeDiff, Nat.zero_add, Nat.reduceSub, Nat.le_refl, h1, hw0]
  have hdel := del_ok (i := ix a D) ht1.row (by rw [List.length_map]; omega)
  refine call_at hdel ?_
  rintro v τ2 ⟨hr2, hto2, j, cap, rfl, hj⟩
  have hDm : D.take (ix a D) ++ D.drop (ix a D + 1) = delD D a := rfl
  rw [← List.map_take, ← List.map_drop, ← List.map_append, hDm] at hr2
  have hDl := delD_length hat
  have hDt : (delD D a).take (ix a D) = D.take (ix a D) := by
    show (D.take (ix a D) ++ D.drop (ix a D + 1)).take _ = _
    rw [List.take_append_of_le_length (by rw [List.length_take]; omega), List.take_take, Nat.min_self]
  have hsrt : Srt (delD D a) := List.Pairwise.sublist (delD_sub D a) h.srt
  generalize hs1 : V.osl j ((D.map mvC).length - 1) cap 14 = s1 at hr2
  have hui : UpdS (Own i m s) τ1 τ2 :=
    ⟨fun k o hk ho => hto2.2.2 k o (fun n cap z e => hk (.inr (.inr ⟨n, cap, z, e⟩))) ho, fun r hr => by rw [hto2.1]; exact hr, hto2.2.1, by rw [hto2.1]; exact Nat.le_refl _⟩
  have hci : τ2.objs[i]? = some (.cells [s, .map (some m)]) := hto2.2.2 i _ (fun n cap z e => (ht1.jm e).2 rfl) h1
  have hmi : ∀ o, τ1.objs[m]? = some o → τ2.objs[m]? = some o := fun o => hto2.2.2 m _ (fun n cap z e => (ht1.jm e).1 rfl)
  have hil := (List.getElem?_eq_some_iff.1 hci).1
  have ht3 : IsTree (τ2.setC i [s1, .map (some m)]) i m s1 (delD D a) (runT W0 (D.take (ix a D))) := by
    obtain ⟨T, ver, k1, k2⟩ := ht1.map
    have hu : UpdS (fun k => k = i) τ2 (τ2.setC i [s1, .map (some m)]) := updS_setC
    refine ⟨setC_get hil, rowOf_up hr2 hu fun k n' cap' z e => ?_, T, ver, hu.objs _ _ ht1.im.symm (hmi _ k1), k2⟩
    rcases hr2 with ⟨R, q, hs, -⟩ | ⟨j', cap', hs, h4, -⟩
    · rw [e] at hs; cases hs
    · rw [e] at hs
      cases hs
      intro e2
      rw [e2, hci] at h4; cases h4
  have hu3 : UpdS (Own i m s) τ (τ2.setC i [s1, .map (some m)]) :=
    (((UpdS.refl _ τ).trans hu1 fun k hk => .inl (.inr (.inl hk))).trans hui fun _ h => .inl h).trans updS_setC fun k hk => .inl (.inl hk)
  have hown : ∀ k, Own i m s1 k → Own i m s k ∨ τ.objs.length ≤ k := by
    rintro k (hk | hk | ⟨n', cap', z, hk⟩)
    · exact .inl (.inl hk)
    · exact .inl (.inr (.inl hk))
    · rw [← hs1] at hk
      cases hk
      rcases hj with ⟨n2, cap2, hj⟩ | hj
      · exact .inl (.inr (.inr ⟨_, _, _, hj⟩))
      · exact .inr (Nat.le_trans hu1.olen hj)
  have hmix : mix (delD D a) (ix a D) = delD D a := by
    have := hrr.1
    simp only [mix, hDt]
    rw [this]
    conv => rhs; rw [← List.take_append_drop (ix a D) (delD D a), hDt]
  refine ⟨kept_none, ?_⟩
  have hlm : ((D.map mvC).length - 1 : Nat) = (delD D a).length := by rw [List.length_map]; omega
  subst hs1
  rw [hlm] at *
  simp -implicitDefEqProofs only [go_sem, Nat.reduceBEq, Nat.reduceAdd, eq_self, true_and, and_true, and_self, List.getElem?_cons_zero, List.getElem?_cons_succ, Nat.reduceLeDiff, Nat.zero_add, Nat.reduceSub, Nat.le_refl, hci, flats, V.flat]
  generalize delD D a = D1 at *
  generalize hs1 : V.osl j D1.length cap 14 = s1 at *
  generalize τ2.setC i [s1, .map (some m)] = τ3 at *
  refine loop_at (fun (k : Nat) => ⟨[(0, .v (.ptr (some (i, 0)))), (5, .v (.int .i64 k))], []⟩)
    (fun k τ' => k ≤ D1.length ∧ IsTree τ' i m s1 (mix D1 k) (runT W0 (D1.take k)) ∧ UpdS (Own i m s1) τ3 τ') (fun k => D1.length - k) (ix a D) ?_ ?_ ?_
  · refine .inr ?_
    simp -implicitDefEqProofs only [go_sem, Nat.reduceBEq, Nat.reduceAdd, eq_self, true_and, and_true, and_self, List.getElem?_cons_zero, List.getElem?_cons_succ, Nat.reduceLeDiff, Nat.zero_add, Nat.reduceSub, Nat.le_refl, Nat.lt_irrefl]
    try trivial
  · exact ⟨by omega, by rw [hmix, hDt]; exact ht3, .refl _ _⟩
  rintro k τ' ⟨g1, g2, g3⟩ Z z1 z2 z3
  have h1 := g2.cells
  subst hs1
  simp -implicitDefEqProofs only [go_sem, Nat.reduceBEq, Nat.reduceAdd, eq_self, true_and, and_true, and_self, List.getElem?_cons_zero, List.getElem?_cons_succ, Nat.reduceLeDiff, Nat.zero_add, Nat.reduceSub, Nat.le_refl, h1]
  by_cases hk : k < D1.length
  · have hd : decide ((k : Int) < D1.length) = true := by simp; omega
    have hw : IntKind.i64.wrap ((k : Int) + 1) = ((k + 1 : Nat) : Int) := by rw [i64_in _ (by omega)]; omega
    have hkm : k < (mix D1 k).length := by rw [mix_len]; exact hk
    simp -implicitDefEqProofs only [go_sem, Nat.reduceBEq, Nat.reduceAdd, eq_self, true_and, and_true, and_self, List.getElem?_cons_zero, List.getElem?_cons_succ, Nat.reduceLeDiff, Nat.zero_add, Nat.reduceSub, Nat.le_refl, hd]
    refine call_at (redo_ok g2 hkm (acyT _) (by rw [mix_len]; omega)) ?_
    rintro v τ4 ⟨ht4, hu4, -⟩
    refine ⟨kept_none, ?_⟩
    rw [mix_get hk hkm, mix_set hk, ← (run_take hk).1] at ht4
    simp -implicitDefEqProofs only [go_sem, Nat.reduceBEq, Nat.reduceAdd, eq_self, true_and, and_true, and_self, List.getElem?_cons_zero, List.getElem?_cons_succ, Nat.reduceLeDiff, Nat.zero_add, Nat.reduceSub, Nat.le_refl, hw]
    refine z1 (k + 1) _ _ (.inr ?_) (by omega) ⟨by omega, ht4, g3.trans hu4 fun _ h => .inl h⟩
    simp -implicitDefEqProofs only [go_sem, Nat.reduceBEq, Nat.reduceAdd, eq_self, true_and, and_true, and_self, List.getElem?_cons_zero, List.getElem?_cons_succ, Nat.reduceLeDiff, Nat.zero_add, Nat.reduceSub, Nat.le_refl, Nat.lt_irrefl]
    try trivial
  · have hd : decide ((k : Int) < D1.length) = false := by simp; omega
    have hk' : k = D1.length := by omega
    subst hk'
    rw [mix_end, List.take_length] at g2
    simp -implicitDefEqProofs only [go_sem, Nat.reduceBEq, Nat.reduceAdd, eq_self, true_and, and_true, and_self, List.getElem?_cons_zero, List.getElem?_cons_succ, Nat.reduceLeDiff, Nat.zero_add, Nat.reduceSub, Nat.le_refl, hd]
    refine z2 _ _ _ ?_
    simp -implicitDefEqProofs only [go_sem, Nat.reduceBEq, Nat.reduceAdd, eq_self, true_and, and_true, and_self, List.getElem?_cons_zero, List.getElem?_cons_succ, Nat.reduceLeDiff, Nat.zero_add, Nat.reduceSub, Nat.le_refl, Nat.lt_irrefl]
    refine q2 _ _ ?_
    simp -implicitDefEqProofs only [go_sem, Nat.reduceBEq, Nat.reduceAdd, eq_self, true_and, and_true, and_self, List.getElem?_cons_zero, List.getElem?_cons_succ, Nat.reduceLeDiff, Nat.zero_add, Nat.reduceSub, Nat.le_refl, Nat.lt_irrefl]
    refine ⟨_, ⟨?_, runD_runD _ _, srt_core (core_runD _ _).symm hsrt⟩, hu3.trans g3 hown, hown⟩
    rw [runT_runD]; exact g2
end
end Go.VL.mov

namespace Go.VL.mov
open Go Go.VL Go.Proofs Go.IntWalk

theorem hasA_core (a : Sp) (D : List Mv) : hasA a (D.map core) = hasA a D := by
  simp only [hasA, List.any_map]; rfl
theorem hasA_runD (a : Sp) (W : Tr) (D : List Mv) : hasA a (runD W D) = hasA a D := by
  rw [← hasA_core, core_runD, hasA_core]
theorem srt_runD {D : List Mv} (h : Srt D) : Srt (runD W0 D) := srt_core (core_runD _ _).symm h
theorem hasA_perm {A B : List Mv} (h : A.Perm B) (a : Sp) : hasA a A = hasA a B := by
  rw [Bool.eq_iff_iff]
  simp only [hasA, List.any_eq_true]
  constructor
  · rintro ⟨x, hx, e⟩; exact ⟨x, h.mem_iff.1 hx, e⟩
  · rintro ⟨x, hx, e⟩; exact ⟨x, h.mem_iff.2 hx, e⟩
theorem del_perm {E : List Mv} {a : Sp} (h : at? a E = true) : ∃ y, y.a = a ∧ y ∈ E ∧ E.Perm (y :: delD E a) := by
  have hlt := at_lt h
  refine ⟨E[ix a E], by simpa [at?, hlt] using h, List.getElem_mem hlt, ?_⟩
  have := List.perm_middle (a := E[ix a E]) (l₁ := E.take (ix a E)) (l₂ := E.drop (ix a E + 1))
  rw [← List.drop_eq_getElem_cons hlt, List.take_append_drop] at this
  exact this
theorem at_srt {a : Sp} {D : List Mv} (hs : Srt D) : at? a D = hasA a D := (hasA_at hs).symm
/-- Moves of the same cores are the same. -/
theorem run_cores {D E : List Mv} (hr : Runs W0 D) (hs : Srt D) (he : Srt E) (h : (E.map core).Perm (D.map core)) : runD W0 E = D := by
  have e := srt_eq (srt_cores he) (srt_cores hs) h
  rw [← runD_core, e, runD_core, hr]
/-- What was done is undone. -/
theorem un_do {D : List Mv} {a n p : Sp} (hr : Runs W0 D) (hs : Srt D) (h : doE D a n p = 0) : unE (doD D a n p) a = 0 ∧ unD (doD D a n p) a = D := by
  have hx : okF a n p = true ∧ at? a D = false := by
    unfold doE at h
    cases h1 : okF a n p <;> rw [h1] at h
    · simp at h
    · cases h2 : at? a D <;> rw [h2] at h
      · exact ⟨rfl, rfl⟩
      · simp at h
  have hD : doD D a n p = runD W0 (insD D (newM a n p)) := by simp [doD, hx.1, hx.2]
  have hsi : Srt (insD D (newM a n p)) := srt_ins hs hx.2
  have hs1 := srt_runD hsi
  have hp := insD_perm D (newM a n p)
  have hat : at? a (doD D a n p) = true := by
    rw [hD, at_srt hs1, hasA_runD, hasA_perm hp]
    simp [hasA, newM]
  refine ⟨by simp [unE, hat], ?_⟩
  have : unD (doD D a n p) a = runD W0 (delD (doD D a n p) a) := by simp [unD, hat]
  rw [this]
  obtain ⟨y, hy1, hy2, hyp⟩ := del_perm hat
  have hcp : ((doD D a n p).map core).Perm (newM a n p :: D.map core) := by
    rw [hD, core_runD]
    exact hp.map core
  have hyc : core y = newM a n p := by
    have := hcp.mem_iff.1 (List.mem_map.2 ⟨y, hy2, rfl⟩)
    rcases List.mem_cons.1 this with e | e
    · exact e
    · exfalso
      have h1 : hasA a (D.map core) = true := List.any_eq_true.2 ⟨core y, e, by simp [core, hy1]⟩
      rw [hasA_core, ← at_srt hs, hx.2] at h1; cases h1
  refine run_cores hr hs (List.Pairwise.sublist (delD_sub _ _) (by rw [hD]; exact hs1)) ?_
  have h2 := (hyp.map core).symm.trans hcp
  rw [List.map_cons, hyc] at h2
  exact h2.cons_inv
/-- What was undone is done again. -/
theorem do_un {D : List Mv} (hr : Runs W0 D) (hs : Srt D) (hok : OkD D) {i : Nat} (hi : i < D.length) :
    unE D D[i].a = 0 ∧ unE (unD D D[i].a) D[i].a = 4 ∧ unD (unD D D[i].a) D[i].a = unD D D[i].a ∧ doE (unD D D[i].a) D[i].a D[i].n D[i].p = 0 ∧ doD (unD D D[i].a) D[i].a D[i].n D[i].p = D := by
  have hat : at? D[i].a D = true := by simp [at?, ix_self hs hi, hi]
  have hU : unD D D[i].a = runD W0 (delD D D[i].a) := by simp [unD, hat]
  obtain ⟨y, hy1, hy2, hyp⟩ := del_perm hat
  have hsd : Srt (delD D D[i].a) := List.Pairwise.sublist (delD_sub _ _) hs
  have hyi : y = D[i] := by
    obtain ⟨k, hk, rfl⟩ := List.getElem_of_mem hy2
    have h1 := ix_self hs hk
    rw [hy1, ix_self hs hi] at h1
    subst h1; rfl
  have hno : hasA D[i].a (delD D D[i].a) = false := by
    cases hh : hasA D[i].a (delD D D[i].a) with
    | false => rfl
    | true =>
      exfalso
      obtain ⟨z, hz, he⟩ := List.any_eq_true.1 hh
      have hnd : (D.map (·.a)).Nodup := by
        refine List.pairwise_map.2 (hs.imp fun {a b} h e => ?_)
        rw [e, less_irr] at h; cases h
      have h2 := (hyp.map (·.a)).nodup_iff.1 hnd
      rw [List.map_cons, List.nodup_cons] at h2
      exact h2.1 (List.mem_map.2 ⟨z, hz, by rw [hy1]; exact of_decide_eq_true he⟩)
  have hsu : Srt (unD D D[i].a) := by rw [hU]; exact srt_runD hsd
  have hatu : at? D[i].a (unD D D[i].a) = false := by rw [at_srt hsu, hU, hasA_runD, hno]
  have hokk := hok D[i] (List.getElem_mem hi)
  refine ⟨by simp [unE, hat], by simp [unE, hatu], ?_, by simp [doE, hokk, hatu], ?_⟩
  · conv => lhs; rw [unD, hatu]
    rfl
  · have h1 : doD (unD D D[i].a) D[i].a D[i].n D[i].p = runD W0 (insD (unD D D[i].a) (newM D[i].a D[i].n D[i].p)) := by simp [doD, hokk, hatu]
    rw [h1]
    refine run_cores hr hs (srt_ins hsu hatu) ?_
    have h2 := (insD_perm (unD D D[i].a) (newM D[i].a D[i].n D[i].p)).map core
    refine h2.trans ?_
    rw [List.map_cons, hU, core_runD]
    have h3 := (hyp.map core).symm
    rw [List.map_cons, hyi] at h3
    exact h3
section
variable {σ : St} {v : V} {l : List Ac} {a : Ac}
set_option maxRecDepth 100000 in
set_option maxHeartbeats 6400000 in
theorem back_law (hv : RdS σ v 7 (acsV l)) (hl : l.length ≤ 1048576) :
    CallA Try.prog 8 [v, acV a] σ fun w _ => w = .bool true := by
  refine fn_at Try.func8 (by decide) comp8 rfl fun Q q1 q2 => ?_
  simp -implicitDefEqProofs only [go_sem, Nat.reduceBEq, Nat.reduceAdd, eq_self, true_and, and_true, and_self, List.getElem?_cons_zero, List.getElem?_cons_succ, Nat.reduceLeDiff, Nat.zero_add, Nat.reduceSub, Nat.le_refl, c8, acV, acC]
  refine call_at (made_ok hv hl) ?_
  rintro v τ ⟨i0, m, s, x, D, rfl, ht, hx, hD, hok, he⟩
  refine ⟨kept_none, ?_⟩
  obtain ⟨xb, xR, xz, rfl, -, -⟩ := id hx
  have hDl := m7core_length D
  simp -implicitDefEqProofs only [go_sem, Nat.reduceBEq, Nat.reduceAdd, eq_self, true_and, and_true, and_self, List.getElem?_cons_zero, List.getElem?_cons_succ, Nat.reduceLeDiff, Nat.zero_add, Nat.reduceSub, Nat.le_refl, Nat.lt_irrefl]
  refine call_at (all_ok ht.tree (keyT D) ht.nodes (by rw [List.length_map]; omega)) ?_
  rintro v τ0 ⟨⟨R, hC, hR⟩, he0⟩
  refine ⟨kept_none, ?_⟩
  have hRD := hC.len_le ht.nodes
  rw [List.length_map] at hRD
  have hx0 := hx.ext he0
  have ht0 := ht.ext he0
  have hr := ht.runs
  have hs := ht.srt
  have h00 : decide ((0 : Int) = 0) = true := by decide
  have h44 : decide ((4 : Int) = 4) = true := by decide
  obtain ⟨vb, vR, vz, rfl, -, -⟩ := id hR
  simp -implicitDefEqProofs only [go_sem, Nat.reduceBEq, Nat.reduceAdd, eq_self, true_and, and_true, and_self, List.getElem?_cons_zero, List.getElem?_cons_succ, Nat.reduceLeDiff, Nat.zero_add, Nat.reduceSub, Nat.le_refl, Nat.lt_irrefl]
  refine cut_at (fun G τ1 => ∃ s1, TreeIs τ1 i0 m s1 D ∧ RdS τ1 (.sl xb xR xz (m7s (D.map core))) 7 (m7s (D.map core)) ∧ RdS τ1 (.sl vb vR vz (plsV R)) 6 (plsV R) ∧ G = ⟨[(5, .v (.ptr (some (i0, 0)))), (6, .v (.sl xb xR xz (m7s (D.map core)))), (7, .v (.sl vb vR vz (plsV R)))], []⟩) ?_ ?_
  · intro Z z1 z2 z3
    simp -implicitDefEqProofs only [go_sem, Nat.reduceBEq, Nat.reduceAdd, eq_self, true_and, and_true, and_self, List.getElem?_cons_zero, List.getElem?_cons_succ, Nat.reduceLeDiff, Nat.zero_add, Nat.reduceSub, Nat.le_refl, Nat.lt_irrefl]
    refine call_at (do_ok (a := a.a) (n := a.n) (p := a.p) ht0 (by omega)) ?_
    rintro w τ1 ⟨rfl, s1, ht1, hto1⟩
    refine ⟨kept_none, ?_⟩
    have hx1 := rdS_up hx0 hto1.upd
    have hR1 := rdS_up hR hto1.upd
    have hle1 := doD_le D a.a a.n a.p
    have hE3 : doE D a.a a.n a.p = 0 ∨ ((doE D a.a a.n a.p = 2 ∨ doE D a.a a.n a.p = 5) ∧ doD D a.a a.n a.p = D) := by
      unfold doE doD
      cases okF a.a a.n a.p <;> cases at? a.a D <;> simp
    rcases hE3 with hE | ⟨hE, hDD⟩
    · obtain ⟨u1, u2⟩ := un_do hr hs hE
      simp -implicitDefEqProofs only [go_sem, Nat.reduceBEq, Nat.reduceAdd, eq_self, true_and, and_true, and_self, List.getElem?_cons_zero, List.getElem?_cons_succ, Nat.reduceLeDiff, Nat.zero_add, Nat.reduceSub, Nat.le_refl, hE, h00]
      refine call_at (undo_ok (a := a.a) ht1 (by omega)) ?_
      rintro w τ2 ⟨rfl, s2, ht2, hto2⟩
      refine ⟨kept_none, ?_⟩
      rw [u2] at ht2
      have hx2 := rdS_up hx1 hto2.upd
      have hR2 := rdS_up hR1 hto2.upd
      simp -implicitDefEqProofs only [go_sem, Nat.reduceBEq, Nat.reduceAdd, eq_self, true_and, and_true, and_self, List.getElem?_cons_zero, List.getElem?_cons_succ, Nat.reduceLeDiff, Nat.zero_add, Nat.reduceSub, Nat.le_refl, u1, h00]
      refine call_at (all_ok ht2.tree (keyT D) ht2.nodes (by rw [List.length_map]; omega)) ?_
      rintro w τ3 ⟨⟨R', hC', hR'⟩, he3⟩
      refine ⟨kept_none, ?_⟩
      have hRR := hC'.uniq hC
      subst hRR
      simp -implicitDefEqProofs only [go_sem, Nat.reduceBEq, Nat.reduceAdd, eq_self, true_and, and_true, and_self, List.getElem?_cons_zero, List.getElem?_cons_succ, Nat.reduceLeDiff, Nat.zero_add, Nat.reduceSub, Nat.le_refl, Nat.lt_irrefl]
      refine call_at (same_ok hR' (hR2.ext he3) (by omega)) ?_
      rintro w τ4 ⟨rfl, rfl⟩
      refine ⟨kept_none, ?_⟩
      simp -implicitDefEqProofs only [go_sem, Nat.reduceBEq, Nat.reduceAdd, eq_self, true_and, and_true, and_self, List.getElem?_cons_zero, List.getElem?_cons_succ, Nat.reduceLeDiff, Nat.zero_add, Nat.reduceSub, Nat.le_refl, decide_true]
      refine call_at (len_ok (ht2.ext he3).tree) ?_
      rintro w τ5 ⟨rfl, rfl⟩
      refine ⟨kept_none, ?_⟩
      have d1 : decide (((D.length : Nat) : Int) = (m7s (D.map core)).length) = true := by rw [hDl]; simp
      simp -implicitDefEqProofs only [go_sem, Nat.reduceBEq, Nat.reduceAdd, eq_self, true_and, and_true, and_self, List.getElem?_cons_zero, List.getElem?_cons_succ, Nat.reduceLeDiff, Nat.zero_add, Nat.reduceSub, Nat.le_refl, d1]
      refine z1 _ _ _ (.inr ?_) ⟨s2, ht2.ext he3, hx2.ext he3, hR2.ext he3, rfl⟩
      simp -implicitDefEqProofs only [go_sem, Nat.reduceBEq, Nat.reduceAdd, eq_self, true_and, and_true, and_self, List.getElem?_cons_zero, List.getElem?_cons_succ, Nat.reduceLeDiff, Nat.zero_add, Nat.reduceSub, Nat.le_refl, Nat.lt_irrefl]
      try trivial
    · rw [hDD] at ht1
      have hd0 : decide (doE D a.a a.n a.p = 0) = false := by rcases hE with h | h <;> rw [h] <;> decide
      simp -implicitDefEqProofs only [go_sem, Nat.reduceBEq, Nat.reduceAdd, eq_self, true_and, and_true, and_self, List.getElem?_cons_zero, List.getElem?_cons_succ, Nat.reduceLeDiff, Nat.zero_add, Nat.reduceSub, Nat.le_refl, hd0]
      refine z1 _ _ _ (.inr ?_) ⟨s1, ht1, hx1, hR1, rfl⟩
      simp -implicitDefEqProofs only [go_sem, Nat.reduceBEq, Nat.reduceAdd, eq_self, true_and, and_true, and_self, List.getElem?_cons_zero, List.getElem?_cons_succ, Nat.reduceLeDiff, Nat.zero_add, Nat.reduceSub, Nat.le_refl, Nat.lt_irrefl]
      try trivial
  rintro G τ1 ⟨s1, ht1, hx1, hR1, rfl⟩
  simp -implicitDefEqProofs only [go_sem, Nat.reduceBEq, Nat.reduceAdd, eq_self, true_and, and_true, and_self, List.getElem?_cons_zero, List.getElem?_cons_succ, Nat.reduceLeDiff, Nat.zero_add, Nat.reduceSub, Nat.le_refl, Nat.lt_irrefl]
  refine loop_at (fun (y : Nat × V) => ⟨[(5, .v (.ptr (some (i0, 0)))), (6, .v (.sl xb xR xz (m7s (D.map core)))), (7, .v (.sl vb vR vz (plsV R))), (8, .v (.int .i64 y.1))], []⟩)
    (fun y τ2 => y.1 ≤ D.length ∧ TreeIs τ2 i0 m y.2 D ∧ RdS τ2 (.sl xb xR xz (m7s (D.map core))) 7 (m7s (D.map core)) ∧ RdS τ2 (.sl vb vR vz (plsV R)) 6 (plsV R)) (fun y => D.length - y.1) (0, s1) ?_ ?_ ?_
  · exact .inr (by simp [go_sem])
  · exact ⟨Nat.zero_le _, ht1, hx1, hR1⟩
  rintro ⟨i, s2⟩ τ2 ⟨g1, g2, g3, g4⟩ Z z1 z2 z3
  simp only at g1 g2
  by_cases hi : i < D.length
  case neg =>
    have hd : decide ((i : Int) < (m7s (D.map core)).length) = false := by rw [hDl]; simp; omega
    simp -implicitDefEqProofs only [go_sem, Nat.reduceBEq, Nat.reduceAdd, eq_self, true_and, and_true, and_self, List.getElem?_cons_zero, List.getElem?_cons_succ, Nat.reduceLeDiff, Nat.zero_add, Nat.reduceSub, Nat.le_refl, hd]
    refine z2 _ _ _ ?_
    simp -implicitDefEqProofs only [go_sem, Nat.reduceBEq, Nat.reduceAdd, eq_self, true_and, and_true, and_self, List.getElem?_cons_zero, List.getElem?_cons_succ, Nat.reduceLeDiff, Nat.zero_add, Nat.reduceSub, Nat.le_refl, Nat.lt_irrefl]
    refine call_at awake_ok ?_
    rintro w τ3 rfl
    refine ⟨kept_none, ?_⟩
    simp -implicitDefEqProofs only [go_sem, Nat.reduceBEq, Nat.reduceAdd, eq_self, true_and, and_true, and_self, List.getElem?_cons_zero, List.getElem?_cons_succ, Nat.reduceLeDiff, Nat.zero_add, Nat.reduceSub, Nat.le_refl, Nat.lt_irrefl]
    refine q2 _ _ ?_
    simp -implicitDefEqProofs only [go_sem, Nat.reduceBEq, Nat.reduceAdd, eq_self, true_and, and_true, and_self, List.getElem?_cons_zero, List.getElem?_cons_succ, Nat.reduceLeDiff, Nat.zero_add, Nat.reduceSub, Nat.le_refl, Nat.lt_irrefl]
  have hd : decide ((i : Int) < (m7s (D.map core)).length) = true := by rw [hDl]; simp; omega
  by_cases hi2 : i < 20
  case neg =>
    have hd2 : decide ((i : Int) < 20) = false := by simp; omega
    simp -implicitDefEqProofs only [go_sem, Nat.reduceBEq, Nat.reduceAdd, eq_self, true_and, and_true, and_self, List.getElem?_cons_zero, List.getElem?_cons_succ, Nat.reduceLeDiff, Nat.zero_add, Nat.reduceSub, Nat.le_refl, hd, hd2]
    refine z2 _ _ _ ?_
    simp -implicitDefEqProofs only [go_sem, Nat.reduceBEq, Nat.reduceAdd, eq_self, true_and, and_true, and_self, List.getElem?_cons_zero, List.getElem?_cons_succ, Nat.reduceLeDiff, Nat.zero_add, Nat.reduceSub, Nat.le_refl, Nat.lt_irrefl]
    refine call_at awake_ok ?_
    rintro w τ3 rfl
    refine ⟨kept_none, ?_⟩
    simp -implicitDefEqProofs only [go_sem, Nat.reduceBEq, Nat.reduceAdd, eq_self, true_and, and_true, and_self, List.getElem?_cons_zero, List.getElem?_cons_succ, Nat.reduceLeDiff, Nat.zero_add, Nat.reduceSub, Nat.le_refl, Nat.lt_irrefl]
    refine q2 _ _ ?_
    simp -implicitDefEqProofs only [go_sem, Nat.reduceBEq, Nat.reduceAdd, eq_self, true_and, and_true, and_self, List.getElem?_cons_zero, List.getElem?_cons_succ, Nat.reduceLeDiff, Nat.zero_add, Nat.reduceSub, Nat.le_refl, Nat.lt_irrefl]
  have hd2 : decide ((i : Int) < 20) = true := by simp; omega
  obtain ⟨k1, k2⟩ := rdl g3 (by cases D <;> simp [m7s] at hi ⊢)
  have hgi := m7core_get hi
  have hib : (i : Int) < (m7s (D.map core)).length := by rw [hDl]; omega
  have hw1 : IntKind.i64.wrap ((i : Int) + 1) = ((i + 1 : Nat) : Int) := by rw [i64_in _ (by omega)]; omega
  obtain ⟨u1, u2, u3, u4, u5⟩ := do_un hr hs hok hi
  have hun := unD_le D D[i].a
  generalize D[i] = d at hgi u1 u2 u3 u4 u5 hun
  have hgi : (m7s (D.map core))[((i : Nat) : Int).toNat]?.getD [] = [.int .i64 d.a.c, .int .i64 d.a.r, .int .i64 d.n.c, .int .i64 d.n.r, .int .i64 d.p.c, .int .i64 d.p.r, .bool false] := hgi
  simp -implicitDefEqProofs only [go_sem, Nat.reduceBEq, Nat.reduceAdd, eq_self, true_and, and_true, and_self, List.getElem?_cons_zero, List.getElem?_cons_succ, Nat.reduceLeDiff, Nat.zero_add, Nat.reduceSub, Nat.le_refl, hd, hd2, hgi]
  refine ⟨⟨by omega, hib, k2⟩, k1, ?_⟩
  refine call_at (undo_ok (a := d.a) g2 (by omega)) ?_
  rintro w τ3 ⟨rfl, s3, ht3, hto3⟩
  refine ⟨kept_none, ?_⟩
  have x3 := rdS_up g3 hto3.upd
  have R3 := rdS_up g4 hto3.upd
  simp -implicitDefEqProofs only [go_sem, Nat.reduceBEq, Nat.reduceAdd, eq_self, true_and, and_true, and_self, List.getElem?_cons_zero, List.getElem?_cons_succ, Nat.reduceLeDiff, Nat.zero_add, Nat.reduceSub, Nat.le_refl, u1, h00]
  refine call_at (undo_ok (a := d.a) ht3 (by omega)) ?_
  rintro w τ4 ⟨rfl, s4, ht4, hto4⟩
  refine ⟨kept_none, ?_⟩
  rw [u3] at ht4
  have x4 := rdS_up x3 hto4.upd
  have R4 := rdS_up R3 hto4.upd
  simp -implicitDefEqProofs only [go_sem, Nat.reduceBEq, Nat.reduceAdd, eq_self, true_and, and_true, and_self, List.getElem?_cons_zero, List.getElem?_cons_succ, Nat.reduceLeDiff, Nat.zero_add, Nat.reduceSub, Nat.le_refl, u2, h44]
  refine call_at (do_ok (a := d.a) (n := d.n) (p := d.p) ht4 (by omega)) ?_
  rintro w τ5 ⟨rfl, s5, ht5, hto5⟩
  refine ⟨kept_none, ?_⟩
  rw [u5] at ht5
  have x5 := rdS_up x4 hto5.upd
  have R5 := rdS_up R4 hto5.upd
  simp -implicitDefEqProofs only [go_sem, Nat.reduceBEq, Nat.reduceAdd, eq_self, true_and, and_true, and_self, List.getElem?_cons_zero, List.getElem?_cons_succ, Nat.reduceLeDiff, Nat.zero_add, Nat.reduceSub, Nat.le_refl, u4, h00]
  refine call_at (all_ok ht5.tree (keyT D) ht5.nodes (by rw [List.length_map]; omega)) ?_
  rintro w τ6 ⟨⟨R', hC', hR'⟩, he6⟩
  refine ⟨kept_none, ?_⟩
  have hRR := hC'.uniq hC
  subst hRR
  simp -implicitDefEqProofs only [go_sem, Nat.reduceBEq, Nat.reduceAdd, eq_self, true_and, and_true, and_self, List.getElem?_cons_zero, List.getElem?_cons_succ, Nat.reduceLeDiff, Nat.zero_add, Nat.reduceSub, Nat.le_refl, Nat.lt_irrefl]
  refine call_at (same_ok hR' (R5.ext he6) (by omega)) ?_
  rintro w τ7 ⟨rfl, rfl⟩
  refine ⟨kept_none, ?_⟩
  simp -implicitDefEqProofs only [go_sem, Nat.reduceBEq, Nat.reduceAdd, eq_self, true_and, and_true, and_self, List.getElem?_cons_zero, List.getElem?_cons_succ, Nat.reduceLeDiff, Nat.zero_add, Nat.reduceSub, Nat.le_refl, decide_true]
  simp -implicitDefEqProofs only [go_sem, Nat.reduceBEq, Nat.reduceAdd, eq_self, true_and, and_true, and_self, List.getElem?_cons_zero, List.getElem?_cons_succ, Nat.reduceLeDiff, Nat.zero_add, Nat.reduceSub, Nat.le_refl, hw1]
  refine z1 (i + 1, s5) _ _ (.inr ?_) (by simp only; omega) ⟨by simp only; omega, ht5.ext he6, x5.ext he6, R5.ext he6⟩
  simp -implicitDefEqProofs only [go_sem, Nat.reduceBEq, Nat.reduceAdd, eq_self, true_and, and_true, and_self, List.getElem?_cons_zero, List.getElem?_cons_succ, Nat.reduceLeDiff, Nat.zero_add, Nat.reduceSub, Nat.le_refl, Nat.lt_irrefl]
  try trivial
end
end Go.VL.mov

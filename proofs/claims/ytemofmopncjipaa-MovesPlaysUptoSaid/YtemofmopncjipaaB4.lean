import Derived.Test.YtemofmopncjipaaB3
set_option linter.unusedVariables false
set_option linter.unusedSimpArgs false
namespace Go.VL.mov
open Go Go.VL Go.Proofs Go.IntWalk

def delD (D : List Mv) (a : Sp) : List Mv := D.take (ix a D) ++ D.drop (ix a D + 1)
def unE (D : List Mv) (a : Sp) : Int := bif at? a D then 0 else 4
noncomputable def unD (D : List Mv) (a : Sp) : List Mv := bif at? a D then runD W0 (delD D a) else D
theorem at_lt {a : Sp} {D : List Mv} (h : at? a D = true) : ix a D < D.length := by
  rcases Nat.lt_or_ge (ix a D) D.length with h1 | h1
  · exact h1
  · simp [at?, List.getElem?_eq_none h1] at h
theorem delD_length {D : List Mv} {a : Sp} (h : at? a D = true) : (delD D a).length + 1 = D.length := by
  have := at_lt h
  simp only [delD, List.length_append, List.length_take, List.length_drop]; omega
theorem delD_sub (D : List Mv) (a : Sp) : (delD D a).Sublist D := by
  have h1 : (D.take (ix a D) ++ D.drop (ix a D + 1)).Sublist (D.take (ix a D) ++ D.drop (ix a D)) := by
    refine List.Sublist.append (List.Sublist.refl _) ?_
    rw [← List.drop_drop, List.drop_one]
    exact List.tail_sublist _
  rw [List.take_append_drop] at h1
  exact h1
theorem unD_le (D : List Mv) (a : Sp) : (unD D a).length ≤ D.length := by
  unfold unD
  cases h : at? a D
  · exact Nat.le_refl _
  · have := delD_length h
    simp only [cond_true, runD_length]; omega
theorem okD_un {D : List Mv} (h : OkD D) (a : Sp) : OkD (unD D a) := by
  unfold unD
  cases at? a D
  · exact h
  · rw [cond_true, ← okD_core, core_runD, okD_core]
    exact fun x hx => h x ((delD_sub D a).mem hx)

section
variable {σ : St} {i m : Nat} {s : V} {D : List Mv} {a : Sp}
set_option maxHeartbeats 3200000 in
set_option maxRecDepth 100000 in
theorem undo_ok (h : TreeIs σ i m s D) (hl : D.length ≤ 1000000) :
    CallA Try.prog 28 [.ptr (some (i, 0)), spV a] σ fun v σ' => v = .int .i64 (unE D a) ∧ ∃ s', TreeIs σ' i m s' (unD D a) ∧ TreeTo σ σ' i m s s' := by
  refine fn_at Try.func28 (by decide) comp28 rfl fun Q q1 q2 => ?_
  simp -implicitDefEqProofs only [go_sem, Nat.reduceBEq, Nat.reduceAdd, eq_self, true_and, and_true, and_self, List.getElem?_cons_zero, List.getElem?_cons_succ, Nat.reduceLeDiff, Nat.zero_add, Nat.reduceSub, Nat.le_refl, c28, spV, spC]
  refine call_at (place_ok (a := a) h.tree h.srt (by omega)) ?_
  rintro v τ ⟨rfl, rfl⟩
  refine ⟨kept_none, ?_⟩
  cases hat : at? a D
  case false =>
    have b1 : unE D a = 4 ∧ unD D a = D := by simp [unE, unD, hat]
    rw [b1.1, b1.2] at q2
    simp -implicitDefEqProofs only [go_sem, Nat.reduceBEq, Nat.reduceAdd, eq_self, true_and, and_true, and_self, List.getElem?_cons_zero, List.getElem?_cons_succ, Nat.reduceLeDiff, Nat.zero_add, Nat.reduceSub, Nat.le_refl, hat]
    refine q2 _ _ ?_
    simp -implicitDefEqProofs only [go_sem, Nat.reduceBEq, Nat.reduceAdd, eq_self, true_and, and_true, and_self, List.getElem?_cons_zero, List.getElem?_cons_succ, Nat.reduceLeDiff, Nat.zero_add, Nat.reduceSub, Nat.le_refl, Nat.lt_irrefl]
    exact ⟨s, h, .refl _ _ _ _⟩
  have b1 : unE D a = 0 ∧ unD D a = runD W0 (delD D a) := by simp [unE, unD, hat]
  rw [b1.1, b1.2] at q2
  have hlt := at_lt hat
  have hle : ix a D ≤ D.length := by omega
  simp -implicitDefEqProofs only [go_sem, Nat.reduceBEq, Nat.reduceAdd, eq_self, true_and, and_true, and_self, List.getElem?_cons_zero, List.getElem?_cons_succ, Nat.reduceLeDiff, Nat.zero_add, Nat.reduceSub, Nat.le_refl, hat]
  refine call_at (back_ok h.tree (n := ix a D) hle (by omega)) ?_
  rintro v τ1 ⟨ht1, hu1, hl1⟩
  refine ⟨kept_none, ?_⟩
  have hrr := (runs_append (W := W0) (A := D.take (ix a D)) (B := D.drop (ix a D))).1 (by rw [List.take_append_drop]; exact h.runs)
  have hund : undo (runT W0 D) (D.drop (ix a D)) = runT W0 (D.take (ix a D)) := by
    have := undo_run _ _ hrr.2
    rw [← runT_append, List.take_append_drop] at this
    exact this
  rw [hund] at ht1
  have h1 := ht1.cells
  have hw0 : IntKind.i64.wrap ((ix a D : Int) + 1) = ((ix a D + 1 : Nat) : Int) := by rw [i64_in _ (by omega)]; omega
  simp -implicitDefEqProofs only [go_sem, Nat.reduceBEq, Nat.reduceAdd, eq_self, true_and, and_true, and_self, List.getElem?_cons_zero, List.getElem?_cons_succ, Nat.reduceLeDiff, Nat.zero_add, Nat.reduceSub, Nat.le_refl, h1, hw0]
  have hdel := del_ok (i := ix a D) ht1.row (by rw [List.length_map]; omega)
  refine call_at hdel ?_
  rintro v τ2 ⟨hr2, hto2, j, cap, rfl, hj⟩
  have hDm : D.take (ix a D) ++ D.drop (ix a D + 1) = delD D a := rfl
  rw [← List.map_take, ← List.map_drop, ← List.map_append, hDm] at hr2
  have hDl := delD_length hat
  have hDt : (delD D a).take (ix a D) = D.take (ix a D) := by
    show (D.take (ix a D) ++ D.drop (ix a D + 1)).take _ = _
    rw [List.take_append_of_le_length (by rw [List.length_take]; omega), List.take_take, Nat.min_self]
  have hsrt : Srt (delD D a) := List.Pairwise.sublist (delD_sub D a) h.srt
  generalize hs1 : V.osl j ((D.map mvC).length - 1) cap 14 = s1 at hr2
  have hui : UpdS (Own i m s) τ1 τ2 :=
    ⟨fun k o hk ho => hto2.2.2 k o (fun n cap z e => hk (.inr (.inr ⟨n, cap, z, e⟩))) ho, fun r hr => by rw [hto2.1]; exact hr, hto2.2.1, by rw [hto2.1]; exact Nat.le_refl _⟩
  have hci : τ2.objs[i]? = some (.cells [s, .map (some m)]) := hto2.2.2 i _ (fun n cap z e => (ht1.jm e).2 rfl) h1
  have hmi : ∀ o, τ1.objs[m]? = some o → τ2.objs[m]? = some o := fun o => hto2.2.2 m _ (fun n cap z e => (ht1.jm e).1 rfl)
  have hil := (List.getElem?_eq_some_iff.1 hci).1
  have ht3 : IsTree (τ2.setC i [s1, .map (some m)]) i m s1 (delD D a) (runT W0 (D.take (ix a D))) := by
    obtain ⟨T, ver, k1, k2⟩ := ht1.map
    have hu : UpdS (fun k => k = i) τ2 (τ2.setC i [s1, .map (some m)]) := updS_setC
    refine ⟨setC_get hil, rowOf_up hr2 hu fun k n' cap' z e => ?_, T, ver, hu.objs _ _ ht1.im.symm (hmi _ k1), k2⟩
    rcases hr2 with ⟨R, q, hs, -⟩ | ⟨j', cap', hs, h4, -⟩
    · rw [e] at hs; cases hs
    · rw [e] at hs
      cases hs
      intro e2
      rw [e2, hci] at h4; cases h4
  have hu3 : UpdS (Own i m s) τ (τ2.setC i [s1, .map (some m)]) :=
    (((UpdS.refl _ τ).trans hu1 fun k hk => .inl (.inr (.inl hk))).trans hui fun _ h => .inl h).trans updS_setC fun k hk => .inl (.inl hk)
  have hown : ∀ k, Own i m s1 k → Own i m s k ∨ τ.objs.length ≤ k := by
    rintro k (hk | hk | ⟨n', cap', z, hk⟩)
    · exact .inl (.inl hk)
    · exact .inl (.inr (.inl hk))
    · rw [← hs1] at hk
      cases hk
      rcases hj with ⟨n2, cap2, hj⟩ | hj
      · exact .inl (.inr (.inr ⟨_, _, _, hj⟩))
      · exact .inr (Nat.le_trans hu1.olen hj)
  have hmix : mix (delD D a) (ix a D) = delD D a := by
    have := hrr.1
    simp only [mix, hDt]
    rw [this]
    conv => rhs; rw [← List.take_append_drop (ix a D) (delD D a), hDt]
  refine ⟨kept_none, ?_⟩
  have hlm : ((D.map mvC).length - 1 : Nat) = (delD D a).length := by rw [List.length_map]; omega
  subst hs1
  rw [hlm] at *
  simp -implicitDefEqProofs only [go_sem, Nat.reduceBEq, Nat.reduceAdd, eq_self, true_and, and_true, and_self, List.getElem?_cons_zero, List.getElem?_cons_succ, Nat.reduceLeDiff, Nat.zero_add, Nat.reduceSub, Nat.le_refl, hci, flats, V.flat]
  generalize delD D a = D1 at *
  generalize hs1 : V.osl j D1.length cap 14 = s1 at *
  generalize τ2.setC i [s1, .map (some m)] = τ3 at *
  refine loop_at (fun (k : Nat) => ⟨[(0, .v (.ptr (some (i, 0)))), (5, .v (.int .i64 k))], []⟩)
    (fun k τ' => k ≤ D1.length ∧ IsTree τ' i m s1 (mix D1 k) (runT W0 (D1.take k)) ∧ UpdS (Own i m s1) τ3 τ') (fun k => D1.length - k) (ix a D) ?_ ?_ ?_
  · refine .inr ?_
    simp -implicitDefEqProofs only [go_sem, Nat.reduceBEq, Nat.reduceAdd, eq_self, true_and, and_true, and_self, List.getElem?_cons_zero, List.getElem?_cons_succ, Nat.reduceLeDiff, Nat.zero_add, Nat.reduceSub, Nat.le_refl, Nat.lt_irrefl]
    try trivial
  · exact ⟨by omega, by rw [hmix, hDt]; exact ht3, .refl _ _⟩
  rintro k τ' ⟨g1, g2, g3⟩ Z z1 z2 z3
  have h1 := g2.cells
  subst hs1
  simp -implicitDefEqProofs only [go_sem, Nat.reduceBEq, Nat.reduceAdd, eq_self, true_and, and_true, and_self, List.getElem?_cons_zero, List.getElem?_cons_succ, Nat.reduceLeDiff, Nat.zero_add, Nat.reduceSub, Nat.le_refl, h1]
  by_cases hk : k < D1.length
  · have hd : decide ((k : Int) < D1.length) = true := by simp; omega
    have hw : IntKind.i64.wrap ((k : Int) + 1) = ((k + 1 : Nat) : Int) := by rw [i64_in _ (by omega)]; omega
    have hkm : k < (mix D1 k).length := by rw [mix_len]; exact hk
    simp -implicitDefEqProofs only [go_sem, Nat.reduceBEq, Nat.reduceAdd, eq_self, true_and, and_true, and_self, List.getElem?_cons_zero, List.getElem?_cons_succ, Nat.reduceLeDiff, Nat.zero_add, Nat.reduceSub, Nat.le_refl, hd]
    refine call_at (redo_ok g2 hkm (acyT _) (by rw [mix_len]; omega)) ?_
    rintro v τ4 ⟨ht4, hu4, -⟩
    refine ⟨kept_none, ?_⟩
    rw [mix_get hk hkm, mix_set hk, ← (run_take hk).1] at ht4
    simp -implicitDefEqProofs only [go_sem, Nat.reduceBEq, Nat.reduceAdd, eq_self, true_and, and_true, and_self, List.getElem?_cons_zero, List.getElem?_cons_succ, Nat.reduceLeDiff, Nat.zero_add, Nat.reduceSub, Nat.le_refl, hw]
    refine z1 (k + 1) _ _ (.inr ?_) (by omega) ⟨by omega, ht4, g3.trans hu4 fun _ h => .inl h⟩
    simp -implicitDefEqProofs only [go_sem, Nat.reduceBEq, Nat.reduceAdd, eq_self, true_and, and_true, and_self, List.getElem?_cons_zero, List.getElem?_cons_succ, Nat.reduceLeDiff, Nat.zero_add, Nat.reduceSub, Nat.le_refl, Nat.lt_irrefl]
    try trivial
  · have hd : decide ((k : Int) < D1.length) = false := by simp; omega
    have hk' : k = D1.length := by omega
    subst hk'
    rw [mix_end, List.take_length] at g2
    simp -implicitDefEqProofs only [go_sem, Nat.reduceBEq, Nat.reduceAdd, eq_self, true_and, and_true, and_self, List.getElem?_cons_zero, List.getElem?_cons_succ, Nat.reduceLeDiff, Nat.zero_add, Nat.reduceSub, Nat.le_refl, hd]
    refine z2 _ _ _ ?_
    simp -implicitDefEqProofs only [go_sem, Nat.reduceBEq, Nat.reduceAdd, eq_self, true_and, and_true, and_self, List.getElem?_cons_zero, List.getElem?_cons_succ, Nat.reduceLeDiff, Nat.zero_add, Nat.reduceSub, Nat.le_refl, Nat.lt_irrefl]
    refine q2 _ _ ?_
    simp -implicitDefEqProofs only [go_sem, Nat.reduceBEq, Nat.reduceAdd, eq_self, true_and, and_true, and_self, List.getElem?_cons_zero, List.getElem?_cons_succ, Nat.reduceLeDiff, Nat.zero_add, Nat.reduceSub, Nat.le_refl, Nat.lt_irrefl]
    refine ⟨_, ⟨?_, runD_runD _ _, srt_core (core_runD _ _).symm hsrt⟩, hu3.trans g3 hown, hown⟩
    rw [runT_runD]; exact g2
end
end Go.VL.mov

namespace Go.VL.mov
open Go Go.VL Go.Proofs Go.IntWalk

theorem hasA_core (a : Sp) (D : List Mv) : hasA a (D.map core) = hasA a D := by
  simp only [hasA, List.any_map]; rfl
theorem hasA_runD (a : Sp) (W : Tr) (D : List Mv) : hasA a (runD W D) = hasA a D := by
  rw [← hasA_core, core_runD, hasA_core]
theorem srt_runD {D : List Mv} (h : Srt D) : Srt (runD W0 D) := srt_core (core_runD _ _).symm h
theorem hasA_perm {A B : List Mv} (h : A.Perm B) (a : Sp) : hasA a A = hasA a B := by
  rw [Bool.eq_iff_iff]
  simp only [hasA, List.any_eq_true]
  constructor
  · rintro ⟨x, hx, e⟩; exact ⟨x, h.mem_iff.1 hx, e⟩
  · rintro ⟨x, hx, e⟩; exact ⟨x, h.mem_iff.2 hx, e⟩
theorem del_perm {E : List Mv} {a : Sp} (h : at? a E = true) : ∃ y, y.a = a ∧ y ∈ E ∧ E.Perm (y :: delD E a) := by
  have hlt := at_lt h
  refine ⟨E[ix a E], by simpa [at?, hlt] using h, List.getElem_mem hlt, ?_⟩
  have := List.perm_middle (a := E[ix a E]) (l₁ := E.take (ix a E)) (l₂ := E.drop (ix a E + 1))
  rw [← List.drop_eq_getElem_cons hlt, List.take_append_drop] at this
  exact this
theorem at_srt {a : Sp} {D : List Mv} (hs : Srt D) : at? a D = hasA a D := (hasA_at hs).symm
/-- Moves of the same cores are the same. -/
theorem run_cores {D E : List Mv} (hr : Runs W0 D) (hs : Srt D) (he : Srt E) (h : (E.map core).Perm (D.map core)) : runD W0 E = D := by
  have e := srt_eq (srt_cores he) (srt_cores hs) h
  rw [← runD_core, e, runD_core, hr]
/-- What was done is undone. -/
theorem un_do {D : List Mv} {a n p : Sp} (hr : Runs W0 D) (hs : Srt D) (h : doE D a n p = 0) : unE (doD D a n p) a = 0 ∧ unD (doD D a n p) a = D := by
  have hx : okF a n p = true ∧ at? a D = false := by
    unfold doE at h
    cases h1 : okF a n p <;> rw [h1] at h
    · simp at h
    · cases h2 : at? a D <;> rw [h2] at h
      · exact ⟨rfl, rfl⟩
      · simp at h
  have hD : doD D a n p = runD W0 (insD D (newM a n p)) := by simp [doD, hx.1, hx.2]
  have hsi : Srt (insD D (newM a n p)) := srt_ins hs hx.2
  have hs1 := srt_runD hsi
  have hp := insD_perm D (newM a n p)
  have hat : at? a (doD D a n p) = true := by
    rw [hD, at_srt hs1, hasA_runD, hasA_perm hp]
    simp [hasA, newM]
  refine ⟨by simp [unE, hat], ?_⟩
  have : unD (doD D a n p) a = runD W0 (delD (doD D a n p) a) := by simp [unD, hat]
  rw [this]
  obtain ⟨y, hy1, hy2, hyp⟩ := del_perm hat
  have hcp : ((doD D a n p).map core).Perm (newM a n p :: D.map core) := by
    rw [hD, core_runD]
    exact hp.map core
  have hyc : core y = newM a n p := by
    have := hcp.mem_iff.1 (List.mem_map.2 ⟨y, hy2, rfl⟩)
    rcases List.mem_cons.1 this with e | e
    · exact e
    · exfalso
      have h1 : hasA a (D.map core) = true := List.any_eq_true.2 ⟨core y, e, by simp [core, hy1]⟩
      rw [hasA_core, ← at_srt hs, hx.2] at h1; cases h1
  refine run_cores hr hs (List.Pairwise.sublist (delD_sub _ _) (by rw [hD]; exact hs1)) ?_
  have h2 := (hyp.map core).symm.trans hcp
  rw [List.map_cons, hyc] at h2
  exact h2.cons_inv
/-- What was undone is done again. -/
theorem do_un {D : List Mv} (hr : Runs W0 D) (hs : Srt D) (hok : OkD D) {i : Nat} (hi : i < D.length) :
    unE D D[i].a = 0 ∧ unE (unD D D[i].a) D[i].a = 4 ∧ unD (unD D D[i].a) D[i].a = unD D D[i].a ∧ doE (unD D D[i].a) D[i].a D[i].n D[i].p = 0 ∧ doD (unD D D[i].a) D[i].a D[i].n D[i].p = D := by
  have hat : at? D[i].a D = true := by simp [at?, ix_self hs hi, hi]
  have hU : unD D D[i].a = runD W0 (delD D D[i].a) := by simp [unD, hat]
  obtain ⟨y, hy1, hy2, hyp⟩ := del_perm hat
  have hsd : Srt (delD D D[i].a) := List.Pairwise.sublist (delD_sub _ _) hs
  have hyi : y = D[i] := by
    obtain ⟨k, hk, rfl⟩ := List.getElem_of_mem hy2
    have h1 := ix_self hs hk
    rw [hy1, ix_self hs hi] at h1
    subst h1; rfl
  have hno : hasA D[i].a (delD D D[i].a) = false := by
    cases hh : hasA D[i].a (delD D D[i].a) with
    | false => rfl
    | true =>
      exfalso
      obtain ⟨z, hz, he⟩ := List.any_eq_true.1 hh
      have hnd : (D.map (·.a)).Nodup := by
        refine List.pairwise_map.2 (hs.imp fun {a b} h e => ?_)
        rw [e, less_irr] at h; cases h
      have h2 := (hyp.map (·.a)).nodup_iff.1 hnd
      rw [List.map_cons, List.nodup_cons] at h2
      exact h2.1 (List.mem_map.2 ⟨z, hz, by rw [hy1]; exact of_decide_eq_true he⟩)
  have hsu : Srt (unD D D[i].a) := by rw [hU]; exact srt_runD hsd
  have hatu : at? D[i].a (unD D D[i].a) = false := by rw [at_srt hsu, hU, hasA_runD, hno]
  have hokk := hok D[i] (List.getElem_mem hi)
  refine ⟨by simp [unE, hat], by simp [unE, hatu], ?_, by simp [doE, hokk, hatu], ?_⟩
  · conv => lhs; rw [unD, hatu]
    rfl
  · have h1 : doD (unD D D[i].a) D[i].a D[i].n D[i].p = runD W0 (insD (unD D D[i].a) (newM D[i].a D[i].n D[i].p)) := by simp [doD, hokk, hatu]
    rw [h1]
    refine run_cores hr hs (srt_ins hsu hatu) ?_
    have h2 := (insD_perm (unD D D[i].a) (newM D[i].a D[i].n D[i].p)).map core
    refine h2.trans ?_
    rw [List.map_cons, hU, core_runD]
    have h3 := (hyp.map core).symm
    rw [List.map_cons, hyi] at h3
    exact h3
section
variable {σ : St} {v : V} {l : List Ac} {a : Ac}
set_option maxRecDepth 100000 in
set_option maxHeartbeats 6400000 in
theorem back_law (hv : RdS σ v 7 (acsV l)) (hl : l.length ≤ 1048576) :
    CallA Try.prog 8 [v, acV a] σ fun w _ => w = .bool true := by
  refine fn_at Try.func8 (by decide) comp8 rfl fun Q q1 q2 => ?_
  simp -implicitDefEqProofs only [go_sem, Nat.reduceBEq, Nat.reduceAdd, eq_self, true_and, and_true, and_self, List.getElem?_cons_zero, List.getElem?_cons_succ, Nat.reduceLeDiff, Nat.zero_add, Nat.reduceSub, Nat.le_refl, c8, acV, acC]
  refine call_at (made_ok hv hl) ?_
  rintro v τ ⟨i0, m, s, x, D, rfl, ht, hx, hD, hok, he⟩
  refine ⟨kept_none, ?_⟩
  obtain ⟨xb, xR, xz, rfl, -, -⟩ := id hx
  have hDl := m7core_length D
  simp -implicitDefEqProofs only [go_sem, Nat.reduceBEq, Nat.reduceAdd, eq_self, true_and, and_true, and_self, List.getElem?_cons_zero, List.getElem?_cons_succ, Nat.reduceLeDiff, Nat.zero_add, Nat.reduceSub, Nat.le_refl, Nat.lt_irrefl]
  refine call_at (all_ok ht.tree (keyT D) ht.nodes (by rw [List.length_map]; omega)) ?_
  rintro v τ0 ⟨⟨R, hC, hR⟩, he0⟩
  refine ⟨kept_none, ?_⟩
  have hRD := hC.len_le ht.nodes
  rw [List.length_map] at hRD
  have hx0 := hx.ext he0
  have ht0 := ht.ext he0
  have hr := ht.runs
  have hs := ht.srt
  have h00 : decide ((0 : Int) = 0) = true := by decide
  have h44 : decide ((4 : Int) = 4) = true := by decide
  obtain ⟨vb, vR, vz, rfl, -, -⟩ := id hR
  simp -implicitDefEqProofs only [go_sem, Nat.reduceBEq, Nat.reduceAdd, eq_self, true_and, and_true, and_self, List.getElem?_cons_zero, List.getElem?_cons_succ, Nat.reduceLeDiff, Nat.zero_add, Nat.reduceSub, Nat.le_refl, Nat.lt_irrefl]
  refine cut_at (fun G τ1 => ∃ s1, TreeIs τ1 i0 m s1 D ∧ RdS τ1 (.sl xb xR xz (m7s (D.map core))) 7 (m7s (D.map core)) ∧ RdS τ1 (.sl vb vR vz (plsV R)) 6 (plsV R) ∧ G = ⟨[(5, .v (.ptr (some (i0, 0)))), (6, .v (.sl xb xR xz (m7s (D.map core)))), (7, .v (.sl vb vR vz (plsV R)))], []⟩) ?_ ?_
  · intro Z z1 z2 z3
    simp -implicitDefEqProofs only [go_sem, Nat.reduceBEq, Nat.reduceAdd, eq_self, true_and, and_true, and_self, List.getElem?_cons_zero, List.getElem?_cons_succ, Nat.reduceLeDiff, Nat.zero_add, Nat.reduceSub, Nat.le_refl, Nat.lt_irrefl]
    refine call_at (do_ok (a := a.a) (n := a.n) (p := a.p) ht0 (by omega)) ?_
    rintro w τ1 ⟨rfl, s1, ht1, hto1⟩
    refine ⟨kept_none, ?_⟩
    have hx1 := rdS_up hx0 hto1.upd
    have hR1 := rdS_up hR hto1.upd
    have hle1 := doD_le D a.a a.n a.p
    have hE3 : doE D a.a a.n a.p = 0 ∨ ((doE D a.a a.n a.p = 2 ∨ doE D a.a a.n a.p = 5) ∧ doD D a.a a.n a.p = D) := by
      unfold doE doD
      cases okF a.a a.n a.p <;> cases at? a.a D <;> simp
    rcases hE3 with hE | ⟨hE, hDD⟩
    · obtain ⟨u1, u2⟩ := un_do hr hs hE
      simp -implicitDefEqProofs only [go_sem, Nat.reduceBEq, Nat.reduceAdd, eq_self, true_and, and_true, and_self, List.getElem?_cons_zero, List.getElem?_cons_succ, Nat.reduceLeDiff, Nat.zero_add, Nat.reduceSub, Nat.le_refl, hE, h00]
      refine call_at (undo_ok (a := a.a) ht1 (by omega)) ?_
      rintro w τ2 ⟨rfl, s2, ht2, hto2⟩
      refine ⟨kept_none, ?_⟩
      rw [u2] at ht2
      have hx2 := rdS_up hx1 hto2.upd
      have hR2 := rdS_up hR1 hto2.upd
      simp -implicitDefEqProofs only [go_sem, Nat.reduceBEq, Nat.reduceAdd, eq_self, true_and, and_true, and_self, List.getElem?_cons_zero, List.getElem?_cons_succ, Nat.reduceLeDiff, Nat.zero_add, Nat.reduceSub, Nat.le_refl, u1, h00]
      refine call_at (all_ok ht2.tree (keyT D) ht2.nodes (by rw [List.length_map]; omega)) ?_
      rintro w τ3 ⟨⟨R', hC', hR'⟩, he3⟩
      refine ⟨kept_none, ?_⟩
      have hRR := hC'.uniq hC
      subst hRR
      simp -implicitDefEqProofs only [go_sem, Nat.reduceBEq, Nat.reduceAdd, eq_self, true_and, and_true, and_self, List.getElem?_cons_zero, List.getElem?_cons_succ, Nat.reduceLeDiff, Nat.zero_add, Nat.reduceSub, Nat.le_refl, Nat.lt_irrefl]
      refine call_at (same_ok hR' (hR2.ext he3) (by omega)) ?_
      rintro w τ4 ⟨rfl, rfl⟩
      refine ⟨kept_none, ?_⟩
      simp -implicitDefEqProofs only [go_sem, Nat.reduceBEq, Nat.reduceAdd, eq_self, true_and, and_true, and_self, List.getElem?_cons_zero, List.getElem?_cons_succ, Nat.reduceLeDiff, Nat.zero_add, Nat.reduceSub, Nat.le_refl, decide_true]
      refine call_at (len_ok (ht2.ext he3).tree) ?_
      rintro w τ5 ⟨rfl, rfl⟩
      refine ⟨kept_none, ?_⟩
      have d1 : decide (((D.length : Nat) : Int) = (m7s (D.map core)).length) = true := by rw [hDl]; simp
      simp -implicitDefEqProofs only [go_sem, Nat.reduceBEq, Nat.reduceAdd, eq_self, true_and, and_true, and_self, List.getElem?_cons_zero, List.getElem?_cons_succ, Nat.reduceLeDiff, Nat.zero_add, Nat.reduceSub, Nat.le_refl, d1]
      refine z1 _ _ _ (.inr ?_) ⟨s2, ht2.ext he3, hx2.ext he3, hR2.ext he3, rfl⟩
      simp -implicitDefEqProofs only [go_sem, Nat.reduceBEq, Nat.reduceAdd, eq_self, true_and, and_true, and_self, List.getElem?_cons_zero, List.getElem?_cons_succ, Nat.reduceLeDiff, Nat.zero_add, Nat.reduceSub, Nat.le_refl, Nat.lt_irrefl]
      try trivial
    · rw [hDD] at ht1
      have hd0 : decide (doE D a.a a.n a.p = 0) = false := by rcases hE with h | h <;> rw [h] <;> decide
      simp -implicitDefEqProofs only [go_sem, Nat.reduceBEq, Nat.reduceAdd, eq_self, true_and, and_true, and_self, List.getElem?_cons_zero, List.getElem?_cons_succ, Nat.reduceLeDiff, Nat.zero_add, Nat.reduceSub, Nat.le_refl, hd0]
      refine z1 _ _ _ (.inr ?_) ⟨s1, ht1, hx1, hR1, rfl⟩
      simp -implicitDefEqProofs only [go_sem, Nat.reduceBEq, Nat.reduceAdd, eq_self, true_and, and_true, and_self, List.getElem?_cons_zero, List.getElem?_cons_succ, Nat.reduceLeDiff, Nat.zero_add, Nat.reduceSub, Nat.le_refl, Nat.lt_irrefl]
      try trivial
  rintro G τ1 ⟨s1, ht1, hx1, hR1, rfl⟩
  simp -implicitDefEqProofs only [go_sem, Nat.reduceBEq, Nat.reduceAdd, eq_self, true_and, and_true, and_self, List.getElem?_cons_zero, List.getElem?_cons_succ, Nat.reduceLeDiff, Nat.zero_add, Nat.reduceSub, Nat.le_refl, Nat.lt_irrefl]
  refine loop_at (fun (y : Nat × V) => ⟨[(5, .v (.ptr (some (i0, 0)))), (6, .v (.sl xb xR xz (m7s (D.map core)))), (7, .v (.sl vb vR vz (plsV R))), (8, .v (.int .i64 y.1))], []⟩)
    (fun y τ2 => y.1 ≤ D.length ∧ TreeIs τ2 i0 m y.2 D ∧ RdS τ2 (.sl xb xR xz (m7s (D.map core))) 7 (m7s (D.map core)) ∧ RdS τ2 (.sl vb vR vz (plsV R)) 6 (plsV R)) (fun y => D.length - y.1) (0, s1) ?_ ?_ ?_
  · exact .inr (by simp [go_sem])
  · exact ⟨Nat.zero_le _, ht1, hx1, hR1⟩
  rintro ⟨i, s2⟩ τ2 ⟨g1, g2, g3, g4⟩ Z z1 z2 z3
  simp only at g1 g2
  by_cases hi : i < D.length
  case neg =>
    have hd : decide ((i : Int) < (m7s (D.map core)).length) = false := by rw [hDl]; simp; omega
    simp -implicitDefEqProofs only [go_sem, Nat.reduceBEq, Nat.reduceAdd, eq_self, true_and, and_true, and_self, List.getElem?_cons_zero, List.getElem?_cons_succ, Nat.reduceLeDiff, Nat.zero_add, Nat.reduceSub, Nat.le_refl, hd]
    refine z2 _ _ _ ?_
    simp -implicitDefEqProofs only [go_sem, Nat.reduceBEq, Nat.reduceAdd, eq_self, true_and, and_true, and_self, List.getElem?_cons_zero, List.getElem?_cons_succ, Nat.reduceLeDiff, Nat.zero_add, Nat.reduceSub, Nat.le_refl, Nat.lt_irrefl]
    refine call_at awake_ok ?_
    rintro w τ3 rfl
    refine ⟨kept_none, ?_⟩
    simp -implicitDefEqProofs only [go_sem, Nat.reduceBEq, Nat.reduceAdd, eq_self, true_and, and_true, and_self, List.getElem?_cons_zero, List.getElem?_cons_succ, Nat.reduceLeDiff, Nat.zero_add, Nat.reduceSub, Nat.le_refl, Nat.lt_irrefl]
    refine q2 _ _ ?_
    simp -implicitDefEqProofs only [go_sem, Nat.reduceBEq, Nat.reduceAdd, eq_self, true_and, and_true, and_self, List.getElem?_cons_zero, List.getElem?_cons_succ, Nat.reduceLeDiff, Nat.zero_add, Nat.reduceSub, Nat.le_refl, Nat.lt_irrefl]
  have hd : decide ((i : Int) < (m7s (D.map core)).length) = true := by rw [hDl]; simp; omega
  by_cases hi2 : i < 20
  case neg =>
    have hd2 : decide ((i : Int) < 20) = false := by simp; omega
    simp -implicitDefEqProofs only [go_sem, Nat.reduceBEq, Nat.reduceAdd, eq_self, true_and, and_true, and_self, List.getElem?_cons_zero, List.getElem?_cons_succ, Nat.reduceLeDiff, Nat.zero_add, Nat.reduceSub, Nat.le_refl, hd, hd2]
    refine z2 _ _ _ ?_
    simp -implicitDefEqProofs only [go_sem, Nat.reduceBEq, Nat.reduceAdd, eq_self, true_and, and_true, and_self, List.getElem?_cons_zero, List.getElem?_cons_succ, Nat.reduceLeDiff, Nat.zero_add, Nat.reduceSub, Nat.le_refl, Nat.lt_irrefl]
    refine call_at awake_ok ?_
    rintro w τ3 rfl
    refine ⟨kept_none, ?_⟩
    simp -implicitDefEqProofs only [go_sem, Nat.reduceBEq, Nat.reduceAdd, eq_self, true_and, and_true, and_self, List.getElem?_cons_zero, List.getElem?_cons_succ, Nat.reduceLeDiff, Nat.zero_add, Nat.reduceSub, Nat.le_refl, Nat.lt_irrefl]
    refine q2 _ _ ?_
    simp -implicitDefEqProofs only [go_sem, Nat.reduceBEq, Nat.reduceAdd, eq_self, true_and, and_true, and_self, List.getElem?_cons_zero, List.getElem?_cons_succ, Nat.reduceLeDiff, Nat.zero_add, Nat.reduceSub, Nat.le_refl, Nat.lt_irrefl]
  have hd2 : decide ((i : Int) < 20) = true := by simp; omega
  obtain ⟨k1, k2⟩ := rdl g3 (by cases D <;> simp [m7s] at hi ⊢)
  have hgi := m7core_get hi
  have hib : (i : Int) < (m7s (D.map core)).length := by rw [hDl]; omega
  have hw1 : IntKind.i64.wrap ((i : Int) + 1) = ((i + 1 : Nat) : Int) := by rw [i64_in _ (by omega)]; omega
  obtain ⟨u1, u2, u3, u4, u5⟩ := do_un hr hs hok hi
  have hun := unD_le D D[i].a
  generalize D[i] = d at hgi u1 u2 u3 u4 u5 hun
  have hgi : (m7s (D.map core))[((i : Nat) : Int).toNat]?.getD [] = [.int .i64 d.a.c, .int .i64 d.a.r, .int .i64 d.n.c, .int .i64 d.n.r, .int .i64 d.p.c, .int .i64 d.p.r, .bool false] := hgi
  simp -implicitDefEqProofs only [go_sem, Nat.reduceBEq, Nat.reduceAdd, eq_self, true_and, and_true, and_self, List.getElem?_cons_zero, List.getElem?_cons_succ, Nat.reduceLeDiff, Nat.zero_add, Nat.reduceSub, Nat.le_refl, hd, hd2, hgi]
  refine ⟨⟨by omega, hib, k2⟩, k1, ?_⟩
  refine call_at (undo_ok (a := d.a) g2 (by omega)) ?_
  rintro w τ3 ⟨rfl, s3, ht3, hto3⟩
  refine ⟨kept_none, ?_⟩
  have x3 := rdS_up g3 hto3.upd
  have R3 := rdS_up g4 hto3.upd
  simp -implicitDefEqProofs only [go_sem, Nat.reduceBEq, Nat.reduceAdd, eq_self, true_and, and_true, and_self, List.getElem?_cons_zero, List.getElem?_cons_succ, Nat.reduceLeDiff, Nat.zero_add, Nat.reduceSub, Nat.le_refl, u1, h00]
  refine call_at (undo_ok (a := d.a) ht3 (by omega)) ?_
  rintro w τ4 ⟨rfl, s4, ht4, hto4⟩
  refine ⟨kept_none, ?_⟩
  rw [u3] at ht4
  have x4 := rdS_up x3 hto4.upd
  have R4 := rdS_up R3 hto4.upd
  simp -implicitDefEqProofs only [go_sem, Nat.reduceBEq, Nat.reduceAdd, eq_self, true_and, and_true, and_self, List.getElem?_cons_zero, List.getElem?_cons_succ, Nat.reduceLeDiff, Nat.zero_add, Nat.reduceSub, Nat.le_refl, u2, h44]
  refine call_at (do_ok (a := d.a) (n := d.n) (p := d.p) ht4 (by omega)) ?_
  rintro w τ5 ⟨rfl, s5, ht5, hto5⟩
  refine ⟨kept_none, ?_⟩
  rw [u5] at ht5
  have x5 := rdS_up x4 hto5.upd
  have R5 := rdS_up R4 hto5.upd
  simp -implicitDefEqProofs only [go_sem, Nat.reduceBEq, Nat.reduceAdd, eq_self, true_and, and_true, and_self, List.getElem?_cons_zero, List.getElem?_cons_succ, Nat.reduceLeDiff, Nat.zero_add, Nat.reduceSub, Nat.le_refl, u4, h00]
  refine call_at (all_ok ht5.tree (keyT D) ht5.nodes (by rw [List.length_map]; omega)) ?_
  rintro w τ6 ⟨⟨R', hC', hR'⟩, he6⟩
  refine ⟨kept_none, ?_⟩
  have hRR := hC'.uniq hC
  subst hRR
  simp -implicitDefEqProofs only [go_sem, Nat.reduceBEq, Nat.reduceAdd, eq_self, true_and, and_true, and_self, List.getElem?_cons_zero, List.getElem?_cons_succ, Nat.reduceLeDiff, Nat.zero_add, Nat.reduceSub, Nat.le_refl, Nat.lt_irrefl]
  refine call_at (same_ok hR' (R5.ext he6) (by omega)) ?_
  rintro w τ7 ⟨rfl, rfl⟩
  refine ⟨kept_none, ?_⟩
  simp -implicitDefEqProofs only [go_sem, Nat.reduceBEq, Nat.reduceAdd, eq_self, true_and, and_true, and_self, List.getElem?_cons_zero, List.getElem?_cons_succ, Nat.reduceLeDiff, Nat.zero_add, Nat.reduceSub, Nat.le_refl, decide_true]
  simp -implicitDefEqProofs only [go_sem, Nat.reduceBEq, Nat.reduceAdd, eq_self, true_and, and_true, and_self, List.getElem?_cons_zero, List.getElem?_cons_succ, Nat.reduceLeDiff, Nat.zero_add, Nat.reduceSub, Nat.le_refl, hw1]
  refine z1 (i + 1, s5) _ _ (.inr ?_) (by simp only; omega) ⟨by simp only; omega, ht5.ext he6, x5.ext he6, R5.ext he6⟩
  simp -implicitDefEqProofs only [go_sem, Nat.reduceBEq, Nat.reduceAdd, eq_self, true_and, and_true, and_self, List.getElem?_cons_zero, List.getElem?_cons_succ, Nat.reduceLeDiff, Nat.zero_add, Nat.reduceSub, Nat.le_refl, Nat.lt_irrefl]
  try trivial
end
end Go.VL.mov

namespace Go.VL.mov
open Go Go.VL Go.Proofs Go.IntWalk

/-- (*topiary/moves.Tree).Clone: 1 parameters, 38 slots. -/
def c30a : C :=
  .seq (.ops [⟨none, .mv 2 (.c (.ptr none))⟩])
  (.seq (.seq (.ops [⟨none, .mv 6 (.t 0)⟩,
    ⟨none, .bq 7 false .ptr (.t 6) (.c (.ptr none))⟩])
  (.cond (.t 7) (.seq (.ops [⟨none, .mv 2 (.c (.ptr none))⟩])
    (.ret))
    (.skip)))
  (.seq (.ops [⟨none, .ca (some 8) 15 []⟩,
    ⟨none, .mv 3 (.t 8)⟩])
  (.seq (.opsD [⟨none, .mv 9 (.t 3)⟩,
    ⟨none, .mv 10 (.t 3)⟩,
    ⟨none, .nc 11 (.t 10)⟩,
    ⟨none, .fa 12 (.t 11) 0⟩,
    ⟨none, .ld 13 (.t 12) 1 false⟩,
    ⟨none, .mv 14 (.t 0)⟩,
    ⟨none, .nc 15 (.t 14)⟩,
    ⟨none, .fa 16 (.t 15) 0⟩,
    ⟨none, .ld 17 (.t 16) 1 false⟩,
    ⟨none, .ao 18 14 true (.t 13) (.t 17)⟩,
    ⟨none, .nc 19 (.t 9)⟩,
    ⟨none, .fa 20 (.t 19) 0⟩,
    ⟨none, .st (.t 20) (.t 18) 1⟩])
  (.seq (.seq (.ops [⟨none, .mv 21 (.t 0)⟩,
    ⟨none, .nc 22 (.t 21)⟩,
    ⟨none, .fa 23 (.t 22) 1⟩,
    ⟨none, .ld 24 (.t 23) 1 false⟩,
    ⟨none, .rg 25 (.t 24)⟩])
  (.block 0 (.loop (.seq (.ops [⟨none, .nx 26 (.t 25)⟩,
    ⟨none, .ex 27 (.t 26) 0⟩])
  (.seq (.cond (.t 27) (.skip)
    (.exit 0))
  (.block 1 (.seq (.ops [⟨none, .en 28 (.t 25)⟩,
    ⟨none, .ex 29 (.t 28) 0⟩,
    ⟨none, .ex 30 (.t 28) 1⟩,
    ⟨none, .alL 4 [.int .i64 0, .int .i64 0]⟩,
    ⟨none, .alL 5 [.int .i64 0, .int .i64 0, .int .i64 0, .int .i64 0, .int .i64 0, .int .i64 0]⟩,
    ⟨none, .st (.t 4) (.t 29) 2⟩,
    ⟨none, .st (.t 5) (.t 30) 6⟩])
  (.opsD [⟨none, .mv 31 (.t 3)⟩,
    ⟨none, .nc 32 (.t 31)⟩,
    ⟨none, .fa 33 (.t 32) 1⟩,
    ⟨none, .ld 34 (.t 33) 1 false⟩,
    ⟨none, .ld 35 (.t 4) 2 true⟩,
    ⟨none, .ld 36 (.t 5) 6 true⟩,
    ⟨none, .mu [.agg, .int .i64, .int .i64] (.t 34) (.t 35) (.t 36)⟩]))))))))
  (.seq (.ops [⟨none, .mv 37 (.t 3)⟩,
    ⟨none, .mv 2 (.t 37)⟩])
  (.ret))))))
theorem comp30a : compFn Try.prog [4, 5, 5000018] Try.f30 = some ([.t 2], c30a) := by kernel_rfl

/-- What a row brings to append. -/
theorem elts_row {σ : St} {y : V} {z : Nat} {es : List (List V)} (h : RowOf σ y z es) : ∃ p : Prop × List (List V), elts σ z y = some p ∧ p.1 ∧ p.2 = es := by
  rcases h with ⟨R, q, rfl, rfl⟩ | ⟨j, cap, rfl, h1, h2, h3⟩
  · exact ⟨_, rfl, ⟨.inl rfl, .inr rfl⟩, rfl⟩
  · refine ⟨(z = z ∧ z = z ∧ es.length * z ≤ es.flatten.length, chunk z es.length es.flatten), ?_, ⟨rfl, rfl, ?_⟩, chunk_flat h2⟩
    · simp only [elts, h1, eltO]
    · rw [flat_len' h2]; exact Nat.le_refl _
/-- append of a row to nothing: a new row. -/
theorem ao_copy {σ : St} {y : V} {z n0 : Nat} {R0 : R} {es : List (List V)} (h : RowOf σ y z es) (hl : es.length ≤ 1073741824) :
    AoV σ z true (.sl true R0 n0 []) y fun v σ' => RowOf σ' v z es ∧ Ext σ σ' ∧ σ'.live = σ.live ∧ (∀ k n cap z', v = .osl k n cap z' → σ.objs.length ≤ k) ∧ V.flat v = true ∧ (v = .sl true .pub 0 [] ∨ ∃ k n cap z', v = .osl k n cap z') := by
  obtain ⟨p, hp, p1, p2⟩ := elts_row h
  have hz : ∀ x ∈ es, x.length = z := by
    rcases h with ⟨R, q, rfl, rfl⟩ | ⟨j, cap, rfl, h1, h2, h3⟩
    · simp
    · exact h2
  unfold AoV
  rw [hp]
  refine ⟨rfl, p1, by rw [p2]; exact hl, fun e => ?_, fun e cap hc1 hc2 => ?_⟩
  · rw [p2] at e
    subst e
    exact ⟨.inl ⟨_, _, rfl, rfl⟩, .refl _, rfl, (fun k n cap z' h => by cases h), rfl, .inl rfl⟩
  · rw [p2] at hc1 ⊢
    refine ⟨.inr ⟨_, cap, rfl, by simp, hz, hc1⟩, ext_obj _ _, rfl, fun k n cap' z' h => ?_, rfl, .inr ⟨_, _, _, _, rfl⟩⟩
    cases h
    exact Nat.le_refl _

section
variable {σ : St} {i m : Nat} {s : V} {D : List Mv}
set_option maxRecDepth 100000 in
set_option maxHeartbeats 3200000 in
theorem clone_ok (ht : TreeIs σ i m s D) (hl : D.length ≤ 1000000) :
    CallA Try.prog 30 [.ptr (some (i, 0))] σ fun v σ' => ∃ i1 m1 s1, v = .ptr (some (i1, 0)) ∧ TreeIs σ' i1 m1 s1 D ∧ Ext σ σ' ∧ ∀ k, Own i1 m1 s1 k → σ.objs.length ≤ k := by
  refine fn_at Try.func30 (by decide) comp30a rfl fun Q q1 q2 => ?_
  simp -implicitDefEqProofs only [go_sem, Nat.reduceBEq, Nat.reduceAdd, eq_self, true_and, and_true, and_self, List.getElem?_cons_zero, List.getElem?_cons_succ, Nat.reduceLeDiff, Nat.zero_add, Nat.reduceSub, Nat.le_refl, c30a]
  refine call_at new_ok ?_
  rintro v τ0 ⟨rfl, hn0, he0, hl0⟩
  refine ⟨kept_none, ?_⟩
  have hi1 : σ.objs.length ≤ σ.objs.length + 1 := Nat.le_succ _
  have him : σ.objs.length + 1 ≠ σ.objs.length := by omega
  generalize σ.objs.length + 1 = i1 at *
  have hm1 : σ.objs.length ≤ σ.objs.length := Nat.le_refl _
  generalize hN : σ.objs.length = m1 at *
  have ht0 := ht.tree.ext he0
  have hown := tree_own ht.tree
  have c1 := hn0.cells
  have c0 := ht0.cells
  simp -implicitDefEqProofs only [go_sem, Nat.reduceBEq, Nat.reduceAdd, eq_self, true_and, and_true, and_self, List.getElem?_cons_zero, List.getElem?_cons_succ, Nat.reduceLeDiff, Nat.zero_add, Nat.reduceSub, Nat.le_refl, c1, c0]
  refine ao_at (ao_copy ht0.row (by rw [List.length_map]; omega)) ?_
  rintro v τ1 ⟨hrow, he1, hl1, hfr, hfl, hv⟩
  refine ⟨he1.kept, ?_⟩
  have c1' := he1.objs _ _ c1
  have hlt1 := (List.getElem?_eq_some_iff.1 c1').1
  have hcell : cellsOf v = some [v] := by
    rcases hv with rfl | ⟨k, n, cap, z', rfl⟩ <;> rfl
  have hu2 : UpdS (fun k => k = i1) τ1 (τ1.setC i1 [v, .map (some m1)]) := updS_setC
  have hcur : (τ1.setC i1 [v, .map (some m1)]).objs[i1]? = some (.cells [v, .map (some m1)]) := setC_get hlt1
  have he2 : Ext σ (τ1.setC i1 [v, .map (some m1)]) := hu2.toExt (he0.trans he1) (by rintro j rfl; rw [hN]; exact hi1)
  have him1 : m1 ≠ i1 := fun e => him (e ▸ rfl)
  obtain ⟨ver1, hm1'⟩ : ∃ ver1, (τ1.setC i1 [v, .map (some m1)]).objs[m1]? = some (.mp KL (entsT []) ver1) := by
    obtain ⟨T, ver, k1, k2⟩ := hn0.map
    have hT0 : T = [] := by
      cases T with
      | nil => rfl
      | cons y T =>
        have := k2.look y.1
        simp [lookT, W0] at this
    subst hT0
    exact ⟨ver, hu2.objs _ _ him1 (he1.objs _ _ k1)⟩
  have hrow2 : RowOf (τ1.setC i1 [v, .map (some m1)]) v 14 (D.map mvC) := by
    refine rowOf_up hrow hu2 fun k n cap z e => ?_
    have := hfr k n cap z e
    have h2 := (List.getElem?_eq_some_iff.1 c1).1
    intro e2
    have h2 : i1 < τ0.objs.length := h2
    omega
  obtain ⟨T, ver, hmT, hT⟩ := ht.tree.map
  have hmN : m < m1 := by have := (List.getElem?_eq_some_iff.1 hmT).1; omega
  have hi1l : i1 < (τ1.setC i1 [v, .map (some m1)]).objs.length := (List.getElem?_eq_some_iff.1 hcur).1
  have hm1l : m1 < (τ1.setC i1 [v, .map (some m1)]).objs.length := (List.getElem?_eq_some_iff.1 hm1').1
  have hkl : ∀ k n cap z', v = .osl k n cap z' → k < (τ1.setC i1 [v, .map (some m1)]).objs.length ∧ k ≠ m1 ∧ k ≠ i1 := fun k n cap z' e => by
    rcases hrow2 with ⟨R, q, e2, -⟩ | ⟨j, cap2, e2, h4, -⟩
    · rw [e] at e2; cases e2
    · rw [e] at e2
      cases e2
      refine ⟨(List.getElem?_eq_some_iff.1 h4).1, fun e3 => ?_, fun e3 => ?_⟩
      · rw [e3, hm1'] at h4; cases h4
      · rw [e3, hcur] at h4; cases h4
  have hci := he2.objs _ _ ht.tree.cells
  have hmT2 := he2.objs _ _ hmT
  generalize hτ2 : τ1.setC i1 [v, .map (some m1)] = τ2 at *
  generalize hWD : runT W0 D = W at *
  have hfin : ∀ (T' : Tl) (ver' : Nat) (τ : St), Ext σ τ → τ.objs[i1]? = some (.cells [v, .map (some m1)]) → RowOf τ v 14 (D.map mvC) → τ.objs[m1]? = some (.mp KL (entsT T') ver') → (T'.map (·.1)).Nodup → (∀ x, lookT x T' = W x) →
      ∃ i1' m1' s1, V.ptr (some (i1, 0)) = .ptr (some (i1', 0)) ∧ TreeIs τ i1' m1' s1 D ∧ Ext σ τ ∧ ∀ k, Own i1' m1' s1 k → m1 ≤ k := by
    intro T' ver' τ f1 f2 f3 f4 f5 f6
    refine ⟨i1, m1, v, rfl, ⟨⟨f2, f3, T', ver', f4, f5, fun x => by rw [f6, hWD]⟩, ht.runs, ht.srt⟩, f1, ?_⟩
    rintro k (rfl | rfl | ⟨n, cap, z', e⟩)
    · exact hi1
    · exact Nat.le_refl _
    · have := hfr k n cap z' e
      have := he0.olen
      omega
  obtain ⟨v', hv'⟩ : ∃ v', v' = v := ⟨_, rfl⟩
  rw [← hv'] at hcur hrow2 hkl hfin
  clear hv'
  rcases hv with hv | ⟨k0, n', cap', z', hv⟩
  all_goals
    subst hv
    simp -implicitDefEqProofs only [go_sem, Nat.reduceBEq, Nat.reduceAdd, eq_self, true_and, and_true, and_self, List.getElem?_cons_zero, List.getElem?_cons_succ, Nat.reduceLeDiff, Nat.zero_add, Nat.reduceSub, Nat.le_refl, c1', flats, V.flat]
    rw [hτ2]
    simp -implicitDefEqProofs only [go_sem, Nat.reduceBEq, Nat.reduceAdd, eq_self, true_and, and_true, and_self, List.getElem?_cons_zero, List.getElem?_cons_succ, Nat.reduceLeDiff, Nat.zero_add, Nat.reduceSub, Nat.le_refl, hci, hmT2]
    refine loop_at (fun (x : Tl × Tl × Nat) => ⟨[(0, .v (.ptr (some (i, 0)))), (3, .v (.ptr (some (i1, 0)))), (25, .v (.ptr (some (τ2.objs.length, 0))))], []⟩)
      (fun x τ => Ext σ τ ∧ τ.objs[i1]? = some (.cells [v', .map (some m1)]) ∧ RowOf τ v' 14 (D.map mvC) ∧ τ.objs[m1]? = some (.mp KL (entsT x.2.1) x.2.2) ∧ (x.2.1.map (·.1)).Nodup ∧ (∀ y, lookT y x.2.1 = if y ∈ x.1.map (·.1) then none else W y) ∧
        (x.1.map (·.1)).Nodup ∧ (∀ y ∈ x.1, W y.1 = some y.2) ∧ (∃ cur, τ.objs[τ2.objs.length]? = some (.it (some (m, ver)) (entsT x.1) cur)) ∧ τ2.objs.length < τ.objs.length) (fun x => x.1.length) (T, [], ver1) ?_ ?_ ?_
    · refine .inr ?_
      simp -implicitDefEqProofs only [go_sem, Nat.reduceBEq, Nat.reduceAdd, eq_self, true_and, and_true, and_self, List.getElem?_cons_zero, List.getElem?_cons_succ, Nat.reduceLeDiff, Nat.zero_add, Nat.reduceSub, Nat.le_refl, Nat.lt_irrefl]
      try trivial
    · have e := ext_obj τ2 (.it (some (m, ver)) (entsT T) none)
      refine ⟨he2.trans e, e.objs _ _ hcur, rowOf_up hrow2 (.of (S := fun _ => False) e) fun _ _ _ _ _ h => h, e.objs _ _ hm1', by simp, fun y => ?_, hT.nd, fun y hy => ?_, ⟨none, by simp⟩, by simp⟩
      · simp only [lookT]
        split
        · rfl
        · rename_i hy
          rw [← hT.look, lookT_mem.2 hy]
      · rw [← hT.look]; exact mem_look hT.nd hy
    rintro ⟨lf, T', ver'⟩ τ ⟨g1, g2, g3, g4, g5, g6, g7, g8, ⟨cur, g9⟩, g10⟩ Z z1 z2 z3
    simp only at g4 g5 g6 g7 g8 g9
    have gm := g1.objs _ _ hmT
    simp -implicitDefEqProofs only [go_sem, Nat.reduceBEq, Nat.reduceAdd, eq_self, true_and, and_true, and_self, List.getElem?_cons_zero, List.getElem?_cons_succ, Nat.reduceLeDiff, Nat.zero_add, Nat.reduceSub, Nat.le_refl, Nat.lt_irrefl]
    refine nx_at g9 (by rw [gm]; exact rfl) (fun hn => ?_) (fun a x b hx => ?_)
    · simp -implicitDefEqProofs only [go_sem, Nat.reduceBEq, Nat.reduceAdd, eq_self, true_and, and_true, and_self, List.getElem?_cons_zero, List.getElem?_cons_succ, Nat.reduceLeDiff, Nat.zero_add, Nat.reduceSub, Nat.le_refl, Nat.lt_irrefl]
      refine z2 _ _ _ ?_
      simp -implicitDefEqProofs only [go_sem, Nat.reduceBEq, Nat.reduceAdd, eq_self, true_and, and_true, and_self, List.getElem?_cons_zero, List.getElem?_cons_succ, Nat.reduceLeDiff, Nat.zero_add, Nat.reduceSub, Nat.le_refl, Nat.lt_irrefl]
      have hlf := entsT_nil hn
      subst hlf
      refine q2 _ _ ?_
      simp -implicitDefEqProofs only [go_sem, Nat.reduceBEq, Nat.reduceAdd, eq_self, true_and, and_true, and_self, List.getElem?_cons_zero, List.getElem?_cons_succ, Nat.reduceLeDiff, Nat.zero_add, Nat.reduceSub, Nat.le_refl, Nat.lt_irrefl]
      exact hfin T' ver' τ g1 g2 g3 g4 g5 (fun y => by rw [g6 y]; simp)
    · obtain ⟨u, r, w, rfl, rfl, rfl, rfl⟩ := entsT_split hx
      have hit : ∀ j, j < τ2.objs.length → (τ.setA τ2.objs.length (.it (some (m, ver)) (entsT u ++ entsT w) (some (spV r.1, plV r.2)))).objs[j]? = τ.objs[j]? := fun j hj => setA_ne (by omega)
      have k9 := setA_at (o := .it (some (m, ver)) (entsT u ++ entsT w) (some (spV r.1, plV r.2))) g9
      have k1 := ext_setA g1 (i := τ2.objs.length) (o := .it (some (m, ver)) (entsT u ++ entsT w) (some (spV r.1, plV r.2))) (by have := he2.olen; omega)
      have k2 := (hit i1 hi1l).trans g2
      have k4 := (hit m1 hm1l).trans g4
      have kl : τ2.objs.length < (τ.setA τ2.objs.length (.it (some (m, ver)) (entsT u ++ entsT w) (some (spV r.1, plV r.2)))).objs.length := by
        show _ < (τ.objs.set _ _).length
        rw [List.length_set]; exact g10
      have k3 : RowOf (τ.setA τ2.objs.length (.it (some (m, ver)) (entsT u ++ entsT w) (some (spV r.1, plV r.2)))) v' 14 (D.map mvC) :=
        rowOf_up (S := fun k => k = τ2.objs.length) g3 ⟨fun j o hj hx => (setA_ne hj).trans hx, fun _ h => h, by show _ ≤ (τ.objs.set _ _).length; rw [List.length_set]; exact Nat.le_refl _, Nat.le_refl _⟩ (fun k n cap z' e e2 => by have := (hkl k n cap z' e).1; omega)
      have km := k1.objs _ _ hmT
      generalize (τ.setA τ2.objs.length (.it (some (m, ver)) (entsT u ++ entsT w) (some (spV r.1, plV r.2)))) = τ3 at k9 k1 k2 k3 k4 kl km
      have hv1 : isV (some (AObj.mp KL (entsT T) ver)) ver := rfl
      have hk : keyFits [.agg, .int .i64, .int .i64] (.agg [.int .i64 r.1.c, .int .i64 r.1.r]) = true := rfl
      have hup := upd_T r.1 r.2 T'
      simp only [plV, plC] at hup
      simp -implicitDefEqProofs only [go_sem, Nat.reduceBEq, Nat.reduceAdd, eq_self, true_and, and_true, and_self, List.getElem?_cons_zero, List.getElem?_cons_succ, Nat.reduceLeDiff, Nat.zero_add, Nat.reduceSub, Nat.le_refl, k9, km, hv1, spV, spC, plV, plC, k2, k4, hk]
      rw [hup]
      have hu3 : UpdS (fun k => k = m1) τ3 (τ3.setM m1 KL (entsT (updT r.1 r.2 T')) (ver' + 1)) := updS_setM
      have hne : τ2.objs.length ≠ m1 := by omega
      rw [List.map_append, List.map_cons, List.nodup_append, List.nodup_cons] at g7
      have hWr : W r.1 = some r.2 := g8 r (by simp)
      refine z1 (u ++ w, updT r.1 r.2 T', ver' + 1) _ _ (.inr ?_) (by simp only [List.length_append, List.length_cons]; omega) ⟨hu3.toExt k1 (by rintro j rfl; rw [hN]; exact Nat.le_refl _), hu3.objs _ _ him1.symm k2, rowOf_up k3 hu3 fun k n cap z' e => (hkl k n cap z' e).2.1, ?_, ?_, fun y => ?_, ?_, fun y hy => g8 y (by simp only [List.mem_append, List.mem_cons] at hy ⊢; exact hy.imp_right .inr), ⟨some (spV r.1, plV r.2), by have := hu3.objs _ _ hne k9; simp only [entsT, List.map_append] at this ⊢; exact this⟩, Nat.lt_of_lt_of_le kl hu3.olen⟩
      · simp -implicitDefEqProofs only [go_sem, Nat.reduceBEq, Nat.reduceAdd, eq_self, true_and, and_true, and_self, List.getElem?_cons_zero, List.getElem?_cons_succ, Nat.reduceLeDiff, Nat.zero_add, Nat.reduceSub, Nat.le_refl, Nat.lt_irrefl]
        try trivial
      · show (τ3.objs.set m1 _)[m1]? = _
        rw [List.getElem?_set_self (List.getElem?_eq_some_iff.1 k4).1]
      · simp only [updT_keys]
        split
        · exact g5
        · rename_i hni
          rw [List.nodup_append]
          exact ⟨g5, by simp, fun a ha b hb e => hni (by rw [List.mem_singleton] at hb; rw [← hb, ← e]; exact ha)⟩
      · rw [updT_look, g6]
        simp only [List.map_append, List.map_cons, List.mem_append, List.mem_cons]
        by_cases hy : y = r.1
        · rw [if_pos hy, hy, if_neg ?_, hWr]
          rintro (h | h)
          · exact g7.2.2 _ h _ (List.mem_cons_self ..) rfl
          · exact g7.2.1.1 h
        · simp only [hy, if_false, false_or]
      · rw [List.map_append, List.nodup_append]
        exact ⟨g7.1, g7.2.1.2, fun a ha b hb => g7.2.2 a ha b (List.mem_cons.2 (.inr hb))⟩
end
end Go.VL.mov

namespace Go.VL.mov
open Go Go.VL Go.Proofs Go.IntWalk

def unL (L : List Mv) (a : Sp) : List Mv := bif at? a L then delD L a else L
theorem ix_core (a : Sp) : ∀ D : List Mv, ix a (D.map core) = ix a D
  | [] => rfl
  | x :: D => by
    simp only [List.map_cons, ix, ix_core a D]
    rfl
theorem at_core (a : Sp) (D : List Mv) : at? a (D.map core) = at? a D := by
  simp only [at?, ix_core, List.getElem?_map]
  cases D[ix a D]? <;> rfl
theorem unL_core (a : Sp) (D : List Mv) : unE (D.map core) a = unE D a ∧ unL (D.map core) a = (unD D a).map core := by
  constructor
  · simp only [unE, at_core]
  · simp only [unL, unD, at_core]
    cases at? a D
    · rfl
    · simp only [cond_true, core_runD, delD, ix_core, List.map_append, List.map_take, List.map_drop]
section
variable {σ : St} {v : V} {L : List Mv} {a : Sp}
set_option maxRecDepth 100000 in
set_option maxHeartbeats 3200000 in
theorem rundo_ok (hv : RdS σ v 7 (m7s L)) (hs : Srt L) (hl : L.length ≤ 1000000) :
    CallA Try.prog 44 [v, spV a] σ fun w σ' => (∃ x, w = .tup [x, .int .i64 (unE L a)] ∧ RdS σ' x 7 (m7s (unL L a))) ∧ Ext σ σ' := by
  obtain ⟨b, R, z, rfl, -, -⟩ := id hv
  refine fn_at Try.func44 (by decide) comp44 rfl fun Q q1 q2 => ?_
  simp -implicitDefEqProofs only [go_sem, Nat.reduceBEq, Nat.reduceAdd, eq_self, true_and, and_true, and_self, List.getElem?_cons_zero, List.getElem?_cons_succ, Nat.reduceLeDiff, Nat.zero_add, Nat.reduceSub, Nat.le_refl, c44, spV, spC]
  refine loop_at (fun (i : Nat) => ⟨[(0, .v (.sl b R z (m7s L))), (3, .loc 3 0), (6, .v (.int .i64 i))], [(3, spC a)]⟩)
    (fun i τ' => i ≤ L.length ∧ τ' = σ ∧ hasA a (L.take i) = false) (fun i => L.length - i) 0 ?_ ?_ ?_
  · exact .inr (by simp [go_sem, spC])
  · exact ⟨Nat.zero_le _, rfl, rfl⟩
  rintro i τ ⟨g1, hτ, g3⟩ Z z1 z2 z3
  have hτ := hτ.symm
  subst hτ
  simp -implicitDefEqProofs only [go_sem, Nat.reduceBEq, Nat.reduceAdd, eq_self, true_and, and_true, and_self, List.getElem?_cons_zero, List.getElem?_cons_succ, Nat.reduceLeDiff, Nat.zero_add, Nat.reduceSub, Nat.le_refl, spC]
  refine CondW_b (fun hcc => ?_) (fun hcc => ?_)
  · have hi : i < L.length := by simpa [m7s_length] using hcc
    obtain ⟨k1, k2⟩ := rdl hv (by cases L <;> simp [m7s] at hi ⊢)
    have hget := m7s_get hi
    have hLl := m7s_length L
    have hib : (i : Int) < (m7s L).length := by omega
    have hw64 : IntKind.i64.wrap ((i : Int) + 1) = ((i + 1 : Nat) : Int) := by rw [i64_in _ (by omega)]; omega
    have htk : hasA a (L.take (i + 1)) = (hasA a (L.take i) || decide (L[i].a = a)) := by
      rw [List.take_succ_eq_append_getElem hi, hasA, List.any_append]; simp [hasA]
    rw [g3, Bool.false_or] at htk
    cases hxa : decide (L[i].a = a)
    · rw [hxa] at htk
      simp -implicitDefEqProofs only [go_sem, Nat.reduceBEq, Nat.reduceAdd, eq_self, true_and, and_true, and_self, List.getElem?_cons_zero, List.getElem?_cons_succ, Nat.reduceLeDiff, Nat.zero_add, Nat.reduceSub, Nat.le_refl, hget, m7, spC, sp_eqs, hxa]
      refine ⟨⟨by omega, hib, k2⟩, k1, ?_⟩
      simp -implicitDefEqProofs only [go_sem, Nat.reduceBEq, Nat.reduceAdd, eq_self, true_and, and_true, and_self, List.getElem?_cons_zero, List.getElem?_cons_succ, Nat.reduceLeDiff, Nat.zero_add, Nat.reduceSub, Nat.le_refl, hw64]
      refine z1 (i + 1) _ _ (.inr ?_) (by omega) ⟨by omega, rfl, htk⟩
      simp -implicitDefEqProofs only [go_sem, Nat.reduceBEq, Nat.reduceAdd, eq_self, true_and, and_true, and_self, List.getElem?_cons_zero, List.getElem?_cons_succ, Nat.reduceLeDiff, Nat.zero_add, Nat.reduceSub, Nat.le_refl, spC]
      try trivial
    · have he := of_decide_eq_true hxa
      have hix := ix_self hs hi
      rw [he] at hix
      have hat : at? a L = true := by simp [at?, hix, hi, he]
      have hb : unE L a = 0 ∧ unL L a = L.take i ++ L.drop (i + 1) := by simp [unE, unL, hat, delD, hix]
      rw [hb.1, hb.2] at q2
      have x5 := ext_live σ true
      have x6 : Ext σ ⟨σ.objs, kill (σ.live ++ [true]) (.own σ.live.length) ++ [true]⟩ := ext_kill x5 (Nat.le_refl _)
      have x7 : Ext σ ⟨σ.objs, kill (kill (σ.live ++ [true]) (.own σ.live.length) ++ [true]) (.own (σ.live ++ [true]).length) ++ [true]⟩ := ext_kill x6 (by simp)
      have hne : m7s L ≠ [] := by cases L <;> simp [m7s] at hi ⊢
      have k15 := (rdl (hv.ext x5) hne).1
      have k16 := (rdl (hv.ext x6) hne).1
      have hl1 : (L.take i).length ≤ 1000000 := by rw [List.length_take]; omega
      have hl2 : (L.drop (i + 1)).length ≤ 1000000 := by rw [List.length_drop]; omega
      simp -implicitDefEqProofs only [go_sem, Nat.reduceBEq, Nat.reduceAdd, eq_self, true_and, and_true, and_self, List.getElem?_cons_zero, List.getElem?_cons_succ, Nat.reduceLeDiff, Nat.zero_add, Nat.reduceSub, Nat.le_refl, hget, m7, spC, sp_eqs, hxa, List.nil_append]
      refine ⟨⟨by omega, hib, k2⟩, k1, ?_⟩
      simp only [hw64, Int.toNat_natCast, List.take_length, m7s_take, m7s_drop, m7s_append]
      refine ⟨⟨.inr k2, by omega, by omega, by omega⟩, ⟨.inr trivial, .inr (live_last _ _), ⟨.inr (rd_toView k15), .inl k2⟩, by rw [m7s_length]; omega⟩, ⟨.inr k2, by omega, by omega⟩,
        ⟨.inr trivial, .inr (live_last' _ _ _), ⟨.inr (rd_toView k16), .inl k2⟩, by rw [m7s_length, m7s_length]; omega⟩, ?_⟩
      refine z3 _ _ ?_
      simp -implicitDefEqProofs only [go_sem, Nat.reduceBEq, Nat.reduceAdd, eq_self, true_and, and_true, and_self, List.getElem?_cons_zero, List.getElem?_cons_succ, Nat.reduceLeDiff, Nat.zero_add, Nat.reduceSub, Nat.le_refl, Nat.lt_irrefl]
      refine q2 _ _ ?_
      simp -implicitDefEqProofs only [go_sem, Nat.reduceBEq, Nat.reduceAdd, eq_self, true_and, and_true, and_self, List.getElem?_cons_zero, List.getElem?_cons_succ, Nat.reduceLeDiff, Nat.zero_add, Nat.reduceSub, Nat.le_refl, Nat.lt_irrefl]
      refine ⟨⟨_, rfl, ⟨false, _, 7, rfl, by simp, .inr ⟨live_last' _ _ _, rfl⟩⟩⟩, x7⟩
  · have hi : ¬ i < L.length := by simpa [m7s_length] using hcc
    rw [List.take_of_length_le (by omega)] at g3
    have hat : at? a L = false := by rw [at_srt hs]; exact g3
    have hb : unE L a = 4 ∧ unL L a = L := by simp [unE, unL, hat]
    rw [hb.1, hb.2] at q2
    simp -implicitDefEqProofs only [go_sem, Nat.reduceBEq, Nat.reduceAdd, eq_self, true_and, and_true, and_self, List.getElem?_cons_zero, List.getElem?_cons_succ, Nat.reduceLeDiff, Nat.zero_add, Nat.reduceSub, Nat.le_refl, Nat.lt_irrefl]
    refine z2 _ _ _ ?_
    simp -implicitDefEqProofs only [go_sem, Nat.reduceBEq, Nat.reduceAdd, eq_self, true_and, and_true, and_self, List.getElem?_cons_zero, List.getElem?_cons_succ, Nat.reduceLeDiff, Nat.zero_add, Nat.reduceSub, Nat.le_refl, Nat.lt_irrefl]
    refine q2 _ _ ?_
    simp -implicitDefEqProofs only [go_sem, Nat.reduceBEq, Nat.reduceAdd, eq_self, true_and, and_true, and_self, List.getElem?_cons_zero, List.getElem?_cons_succ, Nat.reduceLeDiff, Nat.zero_add, Nat.reduceSub, Nat.le_refl, Nat.lt_irrefl]
    exact ⟨⟨_, rfl, hv⟩, .refl _⟩
end
noncomputable def playD (D : List Mv) (x : Ac) : List Mv := bif decide (x.kind = 0) then doD D x.a x.n x.p else bif decide (x.kind = 1) then unD D x.a else D
theorem playD_le (D : List Mv) (x : Ac) : (playD D x).length ≤ D.length + 1 := by
  unfold playD
  have h1 := doD_le D x.a x.n x.p
  have h2 := unD_le D x.a
  cases decide (x.kind = 0) <;> cases decide (x.kind = 1) <;> simp only [cond_true, cond_false] <;> omega
section
variable {σ : St} {v : V} {D : List Mv} {i m : Nat} {s : V} {x : Ac}
set_option maxRecDepth 100000 in
set_option maxHeartbeats 3200000 in
theorem play_ok (ht : TreeIs σ i m s D) (hv : RdS σ v 7 (m7s (D.map core))) (hl : D.length ≤ 1000000) :
    CallA Try.prog 31 [.ptr (some (i, 0)), v, acV x] σ fun w σ' => ∃ y s', w = .tup [y, .bool true] ∧ TreeIs σ' i m s' (playD D x) ∧ RdS σ' y 7 (m7s ((playD D x).map core)) ∧ TreeTo σ σ' i m s s' := by
  refine fn_at Try.func31 (by decide) comp31 rfl fun Q q1 q2 => ?_
  have hP : playD D x = bif decide (x.kind = 0) then doD D x.a x.n x.p else bif decide (x.kind = 1) then unD D x.a else D := rfl
  cases h0 : decide (x.kind = 0)
  case true =>
    rw [h0, cond_true] at hP
    rw [hP] at q2
    simp -implicitDefEqProofs only [go_sem, Nat.reduceBEq, Nat.reduceAdd, eq_self, true_and, and_true, and_self, List.getElem?_cons_zero, List.getElem?_cons_succ, Nat.reduceLeDiff, Nat.zero_add, Nat.reduceSub, Nat.le_refl, c31, acV, acC, h0]
    refine call_at (rdo_ok (a := x.a) (n := x.n) (p := x.p) hv (by rw [List.length_map]; omega)) ?_
    rintro w τ1 ⟨⟨y, rfl, hy⟩, he1, -⟩
    refine ⟨kept_none, ?_⟩
    rw [(rdo_do ht.srt).2] at hy
    simp -implicitDefEqProofs only [go_sem, Nat.reduceBEq, Nat.reduceAdd, eq_self, true_and, and_true, and_self, List.getElem?_cons_zero, List.getElem?_cons_succ, Nat.reduceLeDiff, Nat.zero_add, Nat.reduceSub, Nat.le_refl, Nat.lt_irrefl]
    refine call_at (do_ok (a := x.a) (n := x.n) (p := x.p) (ht.ext he1) hl) ?_
    rintro w τ2 ⟨rfl, s2, ht2, hto⟩
    refine ⟨kept_none, ?_⟩
    rw [(rdo_do ht.srt).1]
    simp -implicitDefEqProofs only [go_sem, Nat.reduceBEq, Nat.reduceAdd, eq_self, true_and, and_true, and_self, List.getElem?_cons_zero, List.getElem?_cons_succ, Nat.reduceLeDiff, Nat.zero_add, Nat.reduceSub, Nat.le_refl, decide_true]
    refine q2 _ _ ?_
    simp -implicitDefEqProofs only [go_sem, Nat.reduceBEq, Nat.reduceAdd, eq_self, true_and, and_true, and_self, List.getElem?_cons_zero, List.getElem?_cons_succ, Nat.reduceLeDiff, Nat.zero_add, Nat.reduceSub, Nat.le_refl, Nat.lt_irrefl]
    exact ⟨y, s2, rfl, ht2, rdS_up hy hto.upd, ⟨(UpdS.of he1).trans hto.upd fun _ h => .inl h, fun k hk => (hto.own k hk).imp_right fun h => Nat.le_trans he1.olen h⟩⟩
  rw [h0, cond_false] at hP
  cases h1 : decide (x.kind = 1)
  case true =>
    rw [h1, cond_true] at hP
    rw [hP] at q2
    simp -implicitDefEqProofs only [go_sem, Nat.reduceBEq, Nat.reduceAdd, eq_self, true_and, and_true, and_self, List.getElem?_cons_zero, List.getElem?_cons_succ, Nat.reduceLeDiff, Nat.zero_add, Nat.reduceSub, Nat.le_refl, c31, acV, acC, h0, h1]
    refine call_at (rundo_ok (a := x.a) hv (srt_cores ht.srt) (by rw [List.length_map]; omega)) ?_
    rintro w τ1 ⟨⟨y, rfl, hy⟩, he1⟩
    refine ⟨kept_none, ?_⟩
    rw [(unL_core x.a D).2] at hy
    simp -implicitDefEqProofs only [go_sem, Nat.reduceBEq, Nat.reduceAdd, eq_self, true_and, and_true, and_self, List.getElem?_cons_zero, List.getElem?_cons_succ, Nat.reduceLeDiff, Nat.zero_add, Nat.reduceSub, Nat.le_refl, Nat.lt_irrefl]
    refine call_at (undo_ok (a := x.a) (ht.ext he1) hl) ?_
    rintro w τ2 ⟨rfl, s2, ht2, hto⟩
    refine ⟨kept_none, ?_⟩
    rw [(unL_core x.a D).1]
    simp -implicitDefEqProofs only [go_sem, Nat.reduceBEq, Nat.reduceAdd, eq_self, true_and, and_true, and_self, List.getElem?_cons_zero, List.getElem?_cons_succ, Nat.reduceLeDiff, Nat.zero_add, Nat.reduceSub, Nat.le_refl, decide_true]
    refine q2 _ _ ?_
    simp -implicitDefEqProofs only [go_sem, Nat.reduceBEq, Nat.reduceAdd, eq_self, true_and, and_true, and_self, List.getElem?_cons_zero, List.getElem?_cons_succ, Nat.reduceLeDiff, Nat.zero_add, Nat.reduceSub, Nat.le_refl, Nat.lt_irrefl]
    exact ⟨y, s2, rfl, ht2, rdS_up hy hto.upd, ⟨(UpdS.of he1).trans hto.upd fun _ h => .inl h, fun k hk => (hto.own k hk).imp_right fun h => Nat.le_trans he1.olen h⟩⟩
  rw [h1, cond_false] at hP
  rw [hP] at q2
  simp -implicitDefEqProofs only [go_sem, Nat.reduceBEq, Nat.reduceAdd, eq_self, true_and, and_true, and_self, List.getElem?_cons_zero, List.getElem?_cons_succ, Nat.reduceLeDiff, Nat.zero_add, Nat.reduceSub, Nat.le_refl, c31, acV, acC, h0, h1]
  refine q2 _ _ ?_
  simp -implicitDefEqProofs only [go_sem, Nat.reduceBEq, Nat.reduceAdd, eq_self, true_and, and_true, and_self, List.getElem?_cons_zero, List.getElem?_cons_succ, Nat.reduceLeDiff, Nat.zero_add, Nat.reduceSub, Nat.le_refl, Nat.lt_irrefl]
  exact ⟨v, s, rfl, ht, hv, .refl _ _ _ _⟩
end
section
variable {σ : St} {v : V} {l : List Ac}
set_option maxRecDepth 100000 in
set_option maxHeartbeats 6400000 in
theorem plays_ok (hv : RdS σ v 7 (acsV l)) (hl : l.length ≤ 1048576) :
    CallA Try.prog 9 [v] σ fun w _ => w = .bool true := by
  obtain ⟨b, R, z, rfl, -, -⟩ := id hv
  refine fn_at Try.func9 (by decide) comp9 rfl fun Q q1 q2 => ?_
  simp -implicitDefEqProofs only [go_sem, Nat.reduceBEq, Nat.reduceAdd, eq_self, true_and, and_true, and_self, List.getElem?_cons_zero, List.getElem?_cons_succ, Nat.reduceLeDiff, Nat.zero_add, Nat.reduceSub, Nat.le_refl, c9]
  refine call_at new_ok ?_
  rintro v τ1 ⟨rfl, hn0, he0, -⟩
  refine ⟨kept_none, ?_⟩
  have hv1 := hv.ext he0
  have hz := rd_z hv
  generalize σ.objs.length + 1 = i0 at *
  generalize σ.objs.length = m0 at *
  simp -implicitDefEqProofs only [go_sem, Nat.reduceBEq, Nat.reduceAdd, eq_self, true_and, and_true, and_self, List.getElem?_cons_zero, List.getElem?_cons_succ, Nat.reduceLeDiff, Nat.zero_add, Nat.reduceSub, Nat.le_refl, Nat.lt_irrefl]
  refine cut_at (fun G τ' => τ' = τ1 ∧ ∃ b' R' z', G = ⟨[(0, .v (.sl b' R' z' (acsV (l.take 200)))), (3, .v (.ptr (some (i0, 0))))], []⟩ ∧ RdS τ1 (.sl b' R' z' (acsV (l.take 200))) 7 (acsV (l.take 200))) ?_ ?_
  · intro Z z1 z2 z3
    simp -implicitDefEqProofs only [go_sem, Nat.reduceBEq, Nat.reduceAdd, eq_self, true_and, and_true, and_self, List.getElem?_cons_zero, List.getElem?_cons_succ, Nat.reduceLeDiff, Nat.zero_add, Nat.reduceSub, Nat.le_refl, Nat.lt_irrefl]
    refine CondW_b (fun hc => ?_) (fun hc => ?_)
    · have hc := of_decide_eq_true hc
      have hc2 : (200 : Int) < (acsV l).length := by omega
      have ht : List.take (Int.toNat 200) (acsV l) = acsV (l.take 200) := by simp [acsV, List.map_take]
      simp -implicitDefEqProofs only [go_sem, Nat.reduceBEq, Nat.reduceAdd, eq_self, true_and, and_true, and_self, List.getElem?_cons_zero, List.getElem?_cons_succ, Nat.reduceLeDiff, Nat.zero_add, Nat.reduceSub, Nat.le_refl, Nat.lt_irrefl]
      refine ⟨⟨hz, by decide, by decide, by show 200 ≤ _; omega⟩, ?_⟩
      rw [ht]
      refine z1 _ _ _ (.inr ?_) ⟨rfl, b, R.toView, z, rfl, ?_⟩
      · simp -implicitDefEqProofs only [go_sem, Nat.reduceBEq, Nat.reduceAdd, eq_self, true_and, and_true, and_self, List.getElem?_cons_zero, List.getElem?_cons_succ, Nat.reduceLeDiff, Nat.zero_add, Nat.reduceSub, Nat.le_refl, Nat.lt_irrefl]
        try trivial
      · obtain ⟨_, _, _, e, h3, h4⟩ := hv1
        cases e
        refine ⟨_, _, _, rfl, fun hb => ?_, h4.imp_right fun x => ⟨rd_toView x.1, x.2⟩⟩
        have := h3 hb
        rw [this] at hc2
        simp at hc2
    · have hc := of_decide_eq_false hc
      have ht : l.take 200 = l := List.take_of_length_le (by have := acsV_length l; omega)
      simp -implicitDefEqProofs only [go_sem, Nat.reduceBEq, Nat.reduceAdd, eq_self, true_and, and_true, and_self, List.getElem?_cons_zero, List.getElem?_cons_succ, Nat.reduceLeDiff, Nat.zero_add, Nat.reduceSub, Nat.le_refl, Nat.lt_irrefl]
      refine z1 _ _ _ (.inr ?_) ⟨rfl, b, R, z, rfl, ?_⟩
      · rw [ht]; simp -implicitDefEqProofs only [go_sem, Nat.reduceBEq, Nat.reduceAdd, eq_self, true_and, and_true, and_self, List.getElem?_cons_zero, List.getElem?_cons_succ, Nat.reduceLeDiff, Nat.zero_add, Nat.reduceSub, Nat.le_refl, Nat.lt_irrefl]
        try trivial
      · rw [ht]; exact hv1
  have hlenL : (l.take 200).length ≤ 200 := by rw [List.length_take]; omega
  generalize l.take 200 = L at hlenL
  rintro G τ ⟨rfl, b', R', z', rfl, hs⟩
  have hLl := acsV_length L
  simp -implicitDefEqProofs only [go_sem, Nat.reduceBEq, Nat.reduceAdd, eq_self, true_and, and_true, and_self, List.getElem?_cons_zero, List.getElem?_cons_succ, Nat.reduceLeDiff, Nat.zero_add, Nat.reduceSub, Nat.le_refl, Nat.lt_irrefl]
  refine loop_at (fun (y : Nat × Nat × Nat × V × V × List Mv) => ⟨[(0, .v (.sl b' R' z' (acsV L))), (3, .v (.ptr (some (y.2.1, 0)))), (4, .v y.2.2.2.2.1), (5, .v (.int .i64 y.1))], []⟩)
    (fun y τ2 => y.1 ≤ L.length ∧ TreeIs τ2 y.2.1 y.2.2.1 y.2.2.2.1 y.2.2.2.2.2 ∧ RdS τ2 y.2.2.2.2.1 7 (m7s (y.2.2.2.2.2.map core)) ∧ y.2.2.2.2.2.length ≤ y.1 ∧ RdS τ2 (.sl b' R' z' (acsV L)) 7 (acsV L)) (fun y => L.length - y.1)
    (0, i0, m0, .sl true .pub 0 [], .sl false (.own τ.live.length) 7 [], []) ?_ ?_ ?_
  · exact .inr (by simp [go_sem])
  · exact ⟨Nat.zero_le _, tree_new (hn0.ext (ext_live τ true)), ⟨_, _, _, rfl, by simp [m7s], .inr ⟨live_last _ _, rfl⟩⟩, Nat.le_refl _, hs.ext (ext_live τ true)⟩
  rintro ⟨k, i, m, s, x, D⟩ τ2 ⟨g1, g2, g3, g4, g5⟩ Z z1 z2 z3
  simp only at g1 g2 g3 g4 g5
  simp -implicitDefEqProofs only [go_sem, Nat.reduceBEq, Nat.reduceAdd, eq_self, true_and, and_true, and_self, List.getElem?_cons_zero, List.getElem?_cons_succ, Nat.reduceLeDiff, Nat.zero_add, Nat.reduceSub, Nat.le_refl, Nat.lt_irrefl]
  refine CondW_b (fun hcc => ?_) (fun hcc => ?_)
  case refine_2 =>
    simp -implicitDefEqProofs only [go_sem, Nat.reduceBEq, Nat.reduceAdd, eq_self, true_and, and_true, and_self, List.getElem?_cons_zero, List.getElem?_cons_succ, Nat.reduceLeDiff, Nat.zero_add, Nat.reduceSub, Nat.le_refl, Nat.lt_irrefl]
    refine z2 _ _ _ ?_
    simp -implicitDefEqProofs only [go_sem, Nat.reduceBEq, Nat.reduceAdd, eq_self, true_and, and_true, and_self, List.getElem?_cons_zero, List.getElem?_cons_succ, Nat.reduceLeDiff, Nat.zero_add, Nat.reduceSub, Nat.le_refl, Nat.lt_irrefl]
    refine call_at awake_ok ?_
    rintro w τ3 rfl
    refine ⟨kept_none, ?_⟩
    simp -implicitDefEqProofs only [go_sem, Nat.reduceBEq, Nat.reduceAdd, eq_self, true_and, and_true, and_self, List.getElem?_cons_zero, List.getElem?_cons_succ, Nat.reduceLeDiff, Nat.zero_add, Nat.reduceSub, Nat.le_refl, Nat.lt_irrefl]
    refine q2 _ _ ?_
    simp -implicitDefEqProofs only [go_sem, Nat.reduceBEq, Nat.reduceAdd, eq_self, true_and, and_true, and_self, List.getElem?_cons_zero, List.getElem?_cons_succ, Nat.reduceLeDiff, Nat.zero_add, Nat.reduceSub, Nat.le_refl, Nat.lt_irrefl]
  have hk : k < L.length := by simpa [hLl] using hcc
  have hget := acsV_get hk
  have hib : (k : Int) < (acsV L).length := by omega
  have hw64 : IntKind.i64.wrap ((k : Int) + 1) = ((k + 1 : Nat) : Int) := by rw [i64_in _ (by omega)]; omega
  have hne : acsV L ≠ [] := by cases L <;> simp [acsV] at hk ⊢
  obtain ⟨k1, k2⟩ := rdl g5 hne
  generalize L[k] = c at hget
  simp -implicitDefEqProofs only [go_sem, Nat.reduceBEq, Nat.reduceAdd, eq_self, true_and, and_true, and_self, List.getElem?_cons_zero, List.getElem?_cons_succ, Nat.reduceLeDiff, Nat.zero_add, Nat.reduceSub, Nat.le_refl, Nat.lt_irrefl]
  refine cut_at (fun G τ3 => ∃ i' m' s', TreeIs τ3 i' m' s' D ∧ RdS τ3 x 7 (m7s (D.map core)) ∧ RdS τ3 (.sl b' R' z' (acsV L)) 7 (acsV L) ∧ G = ⟨[(0, .v (.sl b' R' z' (acsV L))), (3, .v (.ptr (some (i', 0)))), (4, .v x), (5, .v (.int .i64 k))], []⟩) ?_ ?_
  · intro Y y1 y2 y3
    have keep : ∀ F, FrLe ⟨[(0, .v (.sl b' R' z' (acsV L))), (3, .v (.ptr (some (i, 0)))), (4, .v x), (5, .v (.int .i64 k))], []⟩ F → Y .normal F τ2 := fun F hF => y1 _ _ _ hF ⟨i, m, s, g2, g3, g5, rfl⟩
    have fin : ∀ (F : Fr) (τ4 : St) (i1 m1 : Nat) (s1 : V), TreeIs τ4 i1 m1 s1 D → RdS τ4 x 7 (m7s (D.map core)) → RdS τ4 (.sl b' R' z' (acsV L)) 7 (acsV L) → FrLe ⟨[(0, .v (.sl b' R' z' (acsV L))), (3, .v (.ptr (some (i1, 0)))), (4, .v x), (5, .v (.int .i64 k))], []⟩ F → Y .normal F τ4 :=
      fun F τ4 i1 m1 s1 h1 h2 h3 hF => y1 _ _ _ hF ⟨i1, m1, s1, h1, h2, h3, rfl⟩
    have hcl : ∀ (h : decide (c.kind < 0) = true ∨ decide ((1 : Int) < c.kind) = true), True := fun _ => trivial
    cases hneg : decide (c.kind < 0)
    case true =>
      simp -implicitDefEqProofs only [go_sem, Nat.reduceBEq, Nat.reduceAdd, eq_self, true_and, and_true, and_self, List.getElem?_cons_zero, List.getElem?_cons_succ, Nat.reduceLeDiff, Nat.zero_add, Nat.reduceSub, Nat.le_refl, hget, acC, hneg]
      refine ⟨⟨by omega, hib, k2⟩, k1, ?_⟩
      refine call_at (clone_ok g2 (by omega)) ?_
      rintro w τ3 ⟨i1, m1, s1, rfl, ht1, he1, ho1⟩
      refine ⟨kept_none, ?_⟩
      simp -implicitDefEqProofs only [go_sem, Nat.reduceBEq, Nat.reduceAdd, eq_self, true_and, and_true, and_self, List.getElem?_cons_zero, List.getElem?_cons_succ, Nat.reduceLeDiff, Nat.zero_add, Nat.reduceSub, Nat.le_refl, spV_mk]
      refine call_at (do_ok (a := ⟨77, 9⟩) (n := ⟨1, 0⟩) (p := ⟨0, 0⟩) (g2.ext he1) (by omega)) ?_
      rintro w τ4 ⟨rfl, s4, ht4, hto⟩
      refine ⟨kept_none, ?_⟩
      have hown := tree_own g2.tree
      simp -implicitDefEqProofs only [go_sem, Nat.reduceBEq, Nat.reduceAdd, eq_self, true_and, and_true, and_self, List.getElem?_cons_zero, List.getElem?_cons_succ, Nat.reduceLeDiff, Nat.zero_add, Nat.reduceSub, Nat.le_refl, Nat.lt_irrefl]
      refine fin _ τ4 i1 m1 s1 (ht1.up hto.upd fun j hj hj' => by have := ho1 j hj; have := hown j hj'; omega) (rdS_up (g3.ext he1) hto.upd) (rdS_up (g5.ext he1) hto.upd) (.inr ?_)
      simp -implicitDefEqProofs only [go_sem, Nat.reduceBEq, Nat.reduceAdd, eq_self, true_and, and_true, and_self, List.getElem?_cons_zero, List.getElem?_cons_succ, Nat.reduceLeDiff, Nat.zero_add, Nat.reduceSub, Nat.le_refl, Nat.lt_irrefl]
      try trivial
    cases hgt : decide ((1 : Int) < c.kind)
    case true =>
      simp -implicitDefEqProofs only [go_sem, Nat.reduceBEq, Nat.reduceAdd, eq_self, true_and, and_true, and_self, List.getElem?_cons_zero, List.getElem?_cons_succ, Nat.reduceLeDiff, Nat.zero_add, Nat.reduceSub, Nat.le_refl, hget, acC, hneg, hgt]
      repeat refine ⟨⟨by omega, hib, k2⟩, k1, ?_⟩
      refine call_at (clone_ok g2 (by omega)) ?_
      rintro w τ3 ⟨i1, m1, s1, rfl, ht1, he1, ho1⟩
      refine ⟨kept_none, ?_⟩
      simp -implicitDefEqProofs only [go_sem, Nat.reduceBEq, Nat.reduceAdd, eq_self, true_and, and_true, and_self, List.getElem?_cons_zero, List.getElem?_cons_succ, Nat.reduceLeDiff, Nat.zero_add, Nat.reduceSub, Nat.le_refl, spV_mk]
      refine call_at (do_ok (a := ⟨77, 9⟩) (n := ⟨1, 0⟩) (p := ⟨0, 0⟩) (g2.ext he1) (by omega)) ?_
      rintro w τ4 ⟨rfl, s4, ht4, hto⟩
      refine ⟨kept_none, ?_⟩
      have hown := tree_own g2.tree
      simp -implicitDefEqProofs only [go_sem, Nat.reduceBEq, Nat.reduceAdd, eq_self, true_and, and_true, and_self, List.getElem?_cons_zero, List.getElem?_cons_succ, Nat.reduceLeDiff, Nat.zero_add, Nat.reduceSub, Nat.le_refl, Nat.lt_irrefl]
      refine fin _ τ4 i1 m1 s1 (ht1.up hto.upd fun j hj hj' => by have := ho1 j hj; have := hown j hj'; omega) (rdS_up (g3.ext he1) hto.upd) (rdS_up (g5.ext he1) hto.upd) (.inr ?_)
      simp -implicitDefEqProofs only [go_sem, Nat.reduceBEq, Nat.reduceAdd, eq_self, true_and, and_true, and_self, List.getElem?_cons_zero, List.getElem?_cons_succ, Nat.reduceLeDiff, Nat.zero_add, Nat.reduceSub, Nat.le_refl, Nat.lt_irrefl]
      try trivial
    simp -implicitDefEqProofs only [go_sem, Nat.reduceBEq, Nat.reduceAdd, eq_self, true_and, and_true, and_self, List.getElem?_cons_zero, List.getElem?_cons_succ, Nat.reduceLeDiff, Nat.zero_add, Nat.reduceSub, Nat.le_refl, hget, acC, hneg, hgt]
    repeat refine ⟨⟨by omega, hib, k2⟩, k1, ?_⟩
    refine keep _ (.inr ?_)
    simp -implicitDefEqProofs only [go_sem, Nat.reduceBEq, Nat.reduceAdd, eq_self, true_and, and_true, and_self, List.getElem?_cons_zero, List.getElem?_cons_succ, Nat.reduceLeDiff, Nat.zero_add, Nat.reduceSub, Nat.le_refl, Nat.lt_irrefl]
    try trivial
  rintro G τ3 ⟨i', m', s', f1, f2, f3, rfl⟩
  obtain ⟨k3, -⟩ := rdl f3 hne
  have hle := playD_le D c
  simp -implicitDefEqProofs only [go_sem, Nat.reduceBEq, Nat.reduceAdd, eq_self, true_and, and_true, and_self, List.getElem?_cons_zero, List.getElem?_cons_succ, Nat.reduceLeDiff, Nat.zero_add, Nat.reduceSub, Nat.le_refl, hget, acC]
  refine ⟨⟨by omega, hib, k2⟩, k3, ?_⟩
  refine call_at (play_ok (x := c) f1 f2 (by omega)) ?_
  rintro w τ4 ⟨y, s4, rfl, ht4, hy4, hto⟩
  refine ⟨kept_none, ?_⟩
  have f34 := rdS_up f3 hto.upd
  simp -implicitDefEqProofs only [go_sem, Nat.reduceBEq, Nat.reduceAdd, eq_self, true_and, and_true, and_self, List.getElem?_cons_zero, List.getElem?_cons_succ, Nat.reduceLeDiff, Nat.zero_add, Nat.reduceSub, Nat.le_refl, Nat.lt_irrefl]
  refine call_at (told_ok ht4 hy4 (by omega)) ?_
  rintro w τ5 ⟨rfl, he5⟩
  refine ⟨kept_none, ?_⟩
  simp -implicitDefEqProofs only [go_sem, Nat.reduceBEq, Nat.reduceAdd, eq_self, true_and, and_true, and_self, List.getElem?_cons_zero, List.getElem?_cons_succ, Nat.reduceLeDiff, Nat.zero_add, Nat.reduceSub, Nat.le_refl, Nat.lt_irrefl]
  simp -implicitDefEqProofs only [go_sem, Nat.reduceBEq, Nat.reduceAdd, eq_self, true_and, and_true, and_self, List.getElem?_cons_zero, List.getElem?_cons_succ, Nat.reduceLeDiff, Nat.zero_add, Nat.reduceSub, Nat.le_refl, hw64]
  refine z1 (k + 1, i', m', s4, y, playD D c) _ _ (.inr ?_) (by simp only; omega) ⟨by simp only; omega, ht4.ext he5, hy4.ext he5, by simp only; omega, f34.ext he5⟩
  simp -implicitDefEqProofs only [go_sem, Nat.reduceBEq, Nat.reduceAdd, eq_self, true_and, and_true, and_self, List.getElem?_cons_zero, List.getElem?_cons_succ, Nat.reduceLeDiff, Nat.zero_add, Nat.reduceSub, Nat.le_refl, Nat.lt_irrefl]
  try trivial
end
end Go.VL.mov

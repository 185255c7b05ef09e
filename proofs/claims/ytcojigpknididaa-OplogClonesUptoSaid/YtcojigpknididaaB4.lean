import Derived.Test.YtcojigpknididaaB3
import Derived.ReadAgain
import Derived.WideKeyArgs
import Derived.ChangeArms
import Derived.OpenShut
import Derived.Test.YtcojigpknididaaProg
set_option linter.unusedVariables false
set_option linter.unusedSimpArgs false
namespace Go.VL.opl
open Go Go.VL Go.Proofs Go.IntWalk Go.VL.st Go.VL.row

section
variable {σ : St} {i j : Nat} {mo : Option Nat} {s d : V} {ov : List V} {room : Int} {P : List (V × Cg)} {g : Cg} {x : Sp}
theorem LogIs.ownc (h : LogIs σ i mo s ov room P) {r : Int} (hr : 0 ≤ r ∧ r < 64) : ∃ (hl : r.toNat < ov.length), ((∃ R q, ov[r.toNat] = .sl true R q [] ∧ cnt (cgL P) r = 0) ∨ ∃ j cap, ov[r.toNat] = .osl j (cnt (cgL P) r) cap 2 ∧ σ.objs[j]? = some (.row cap 2 (spsV ((ownL (cgL P) r).map atS)).flatten)) := by
  have hl : r.toNat < ov.length := by rw [h.ovl]; omega
  refine ⟨hl, ?_⟩
  have hrr : ((r.toNat : Nat) : Int) = r := by omega
  have hc : ((ownL (cgL P) r).map atS).length = cnt (cgL P) r := by rw [List.length_map, ownL_len]
  have ho := h.own r.toNat hl
  rw [hrr] at ho
  rcases ho with ⟨R, q, e, e2⟩ | ⟨j, cap, e, h1, -⟩
  · refine .inl ⟨R, q, e, ?_⟩
    rw [← hc]
    simpa [spsV] using congrArg List.length e2
  · refine .inr ⟨j, cap, by rw [e, spsV_len, hc], h1⟩
theorem LogIs.ownl {σ : St} {i : Nat} {mo : Option Nat} {s : V} {ov : List V} {room : Int} {P : List (V × Cg)} (h : LogIs σ i mo s ov room P) {r : Int} (hr : 0 ≤ r ∧ r < 64) : ∃ (hl : r.toNat < ov.length), RowOf σ ov[r.toNat] 2 (spsV ((ownL (cgL P) r).map atS)) := by
  have hl : r.toNat < ov.length := by rw [h.ovl]; omega
  have ho := h.own r.toNat hl
  rw [show ((r.toNat : Nat) : Int) = r by omega] at ho
  exact ⟨hl, ho⟩
theorem sps_two (l : List Sp) : ∀ x ∈ spsV l, x.length = 2 := by
  intro x hx
  simp only [spsV, List.mem_map] at hx
  obtain ⟨p, -, rfl⟩ := hx
  rfl
theorem sp_drop0 {l : List Sp} {k : Nat} (hk : k < l.length) : (spsV l).flatten.drop (k * 2) = spC l[k] ++ ((spsV l).drop (k + 1)).flatten := by
  have hl : k < (spsV l).length := by rw [spsV_len]; exact hk
  obtain ⟨h1, h2⟩ := flat_split (sps_two l) hl
  rw [h1, ← h2, List.drop_append, List.drop_of_length_le (by omega), Nat.sub_self, List.nil_append, List.drop_zero, show (spsV l)[k] = spC l[k] from by simp [spsV]]
theorem ov_drop {ov : List V} {r : Int} (h : r.toNat < ov.length) (a b c : V) : List.drop (3 + r.toNat * 1) (a :: b :: c :: ov) = ov[r.toNat] :: ov.drop (r.toNat + 1) := by
  rw [Nat.mul_one, Nat.add_comm, List.drop_succ_cons, List.drop_succ_cons, List.drop_succ_cons, List.drop_eq_getElem_cons h]
set_option maxRecDepth 100000 in
set_option maxHeartbeats 4000000 in
theorem known_ok (h : LogIs σ i mo s ov room P) (hl : P.length ≤ 1000000) (hd : RdS σ d 1 (intsV .i64 g.deps)) (hpl : ∀ p ∈ P, p.2.deps.length ≤ 2000000) (hr : 0 ≤ g.ar ∧ g.ar < 64) : CallA Try.prog 48 [.ptr (some (i, 0)), cgV d g] σ fun w σ' => w = .int .i64 (knI (cgL P) g) ∧ σ' = σ := by
  have h1 := h.cells
  obtain ⟨db, dr, dz, rfl, -, -⟩ := id hd
  refine fn_at Try.func48 (by decide) comp48 rfl fun Q q1 q2 => ?_
  have hp := place_at (x := atS g) h hl
  simp only [spV, spC, atS] at hp
  unfold knI at q1 q2
  simp -implicitDefEqProofs only [go_sem, Nat.reduceBEq, Nat.reduceAdd, eq_self, true_and, and_true, and_self, List.getElem?_cons_zero, List.getElem?_cons_succ, Nat.reduceLeDiff, Nat.zero_add, Nat.reduceSub, Nat.le_refl, c48, cgV, cgC]
  refine call_at hp ?_
  rintro w τ ⟨⟨k, rfl, hpl2⟩, hτ⟩
  have hτ := hτ.symm
  subst hτ
  refine ⟨kept_none, ?_⟩
  rcases hpl2.found h.good.srt with ⟨f1', -⟩ | ⟨hk, -, f1'⟩
  · have f1 : (cgL P).find? (isA (atS g)) = none := f1'
    rw [f1] at q1 q2
    rw [f1']
    simp only at q1 q2
    obtain ⟨hlo, ho⟩ := h.ownc hr
    have hod := ov_drop hlo
    generalize ov[g.ar.toNat] = o at ho hod
    have hcc : ∀ n : Nat, n = cnt (cgL P) g.ar → (decide (g.seq ≤ (n : Int)) = decide (g.seq ≤ (cnt (cgL P) g.ar : Int))) := fun n e => by rw [e]
    cases hx : decide (g.seq ≤ (cnt (cgL P) g.ar : Int)) <;> rw [hx] at q1 q2
    all_goals
      rcases ho with ⟨R, q, rfl, hc0⟩ | ⟨j, cap, rfl, -⟩
    all_goals
      first | (rw [hc0] at hx) | skip
      simp -implicitDefEqProofs only [go_sem, Nat.reduceBEq, Nat.reduceAdd, eq_self, true_and, and_true, and_self, List.getElem?_cons_zero, List.getElem?_cons_succ, Nat.reduceLeDiff, Nat.zero_add, Nat.reduceSub, Nat.le_refl, Option.isSome_none, h1, cgC, hod, hx]
      refine ⟨hr, ?_⟩
      refine q2 _ _ ?_
      simp -implicitDefEqProofs only [go_sem, Nat.reduceBEq, Nat.reduceAdd, eq_self, true_and, and_true, and_self, List.getElem?_cons_zero, List.getElem?_cons_succ, Nat.reduceLeDiff, Nat.zero_add, Nat.reduceSub, Nat.le_refl, Nat.lt_irrefl]
  · have f1 : (cgL P).find? (isA (atS g)) = some (cgL P)[k] := f1'
    rw [f1] at q1 q2
    rw [f1']
    simp only at q1 q2
    have hk2 : k < P.length := by simpa using hk
    have hget := cg_drop0 hk2
    have hdc := h.rds _ (List.getElem_mem hk2)
    have hdl := hpl _ (List.getElem_mem hk2)
    have hlk : (cgL P)[k] = P[k].2 := by simp
    have hb1 : (k : Int) < (cgsV P).length := by rw [cgsV_len]; omega
    rw [hlk] at q1 q2
    rcases id h.row with ⟨R, q, rfl, he⟩ | ⟨j', cap, rfl, ho, -, hc⟩
    · have hD : P = [] := by simpa [cgsV] using he
      subst hD
      exact absurd hk2 (by simp)
    generalize P[k] = p at hget hdc hdl q1 q2
    obtain ⟨d2, h⟩ := p
    simp only at hget hdc hdl q1 q2
    obtain ⟨db2, dr2, dz2, rfl, -, -⟩ := id hdc
    have hsa := psame_ok hdc hd (by omega)
    simp only [cgV, cgC] at hsa
    simp -implicitDefEqProofs only [go_sem, Nat.reduceBEq, Nat.reduceAdd, eq_self, true_and, and_true, and_self, List.getElem?_cons_zero, List.getElem?_cons_succ, Nat.reduceLeDiff, Nat.zero_add, Nat.reduceSub, Nat.le_refl, Option.isSome_some, h1, cgC, ho, hget, Int.toNat_natCast, Nat.add_zero]
    refine ⟨⟨by omega, hb1⟩, ?_⟩
    refine call_at hsa ?_
    rintro w τ ⟨hτ, rfl⟩
    have hτ := hτ.symm
    subst hτ
    refine ⟨(Ext.refl _).kept, ?_⟩
    cases hx : sameC h g <;> rw [hx] at q1 q2
    all_goals
      simp -implicitDefEqProofs only [go_sem, Nat.reduceBEq, Nat.reduceAdd, eq_self, true_and, and_true, and_self, List.getElem?_cons_zero, List.getElem?_cons_succ, Nat.reduceLeDiff, Nat.zero_add, Nat.reduceSub, Nat.le_refl, Nat.lt_irrefl]
      refine q2 _ _ ?_
      simp -implicitDefEqProofs only [go_sem, Nat.reduceBEq, Nat.reduceAdd, eq_self, true_and, and_true, and_self, List.getElem?_cons_zero, List.getElem?_cons_succ, Nat.reduceLeDiff, Nat.zero_add, Nat.reduceSub, Nat.le_refl, Nat.lt_irrefl]
set_option maxRecDepth 100000 in
set_option maxHeartbeats 4000000 in
theorem ready_ok (h : LogIs σ i mo s ov room P) (hl : P.length ≤ 1000000) (hd : RdS σ d 1 (intsV .i64 g.deps)) (hck : chkI g = 0) : CallA Try.prog 49 [.ptr (some (i, 0)), cgV d g] σ fun w σ' => w = .int .i64 (rdI (cgL P) g) ∧ Ext σ σ' := by
  obtain ⟨db, dr, dz, rfl, -, -⟩ := id hd
  refine fn_at Try.func49 (by decide) comp49 rfl fun Q q1 q2 => ?_
  simp -implicitDefEqProofs only [go_sem, Nat.reduceBEq, Nat.reduceAdd, eq_self, true_and, and_true, and_self, List.getElem?_cons_zero, List.getElem?_cons_succ, Nat.reduceLeDiff, Nat.zero_add, Nat.reduceSub, Nat.le_refl, c49, cgV, cgC]
  generalize hb : (σ.objs ++ [AObj.cells [V.ptr (some (i, 0))]]).length = b
  generalize hc : (σ.objs ++ [AObj.cells [V.ptr (some (i, 0))]] ++ [AObj.cells [V.int IntKind.i64 g.ac, V.int IntKind.i64 g.ar, V.int IntKind.i64 g.seq, V.sl db dr dz (intsV IntKind.i64 g.deps), V.int IntKind.i64 g.kind, V.int IntKind.i64 g.nc, V.int IntKind.i64 g.nr, V.int IntKind.i64 g.pc, V.int IntKind.i64 g.pr, V.int IntKind.i64 g.fc, V.int IntKind.i64 g.fr, V.str g.name, V.str g.val]]).length = c
  generalize hO : (σ.objs ++ [AObj.cells [V.ptr (some (i, 0))]] ++ [AObj.cells [V.int IntKind.i64 g.ac, V.int IntKind.i64 g.ar, V.int IntKind.i64 g.seq, V.sl db dr dz (intsV IntKind.i64 g.deps), V.int IntKind.i64 g.kind, V.int IntKind.i64 g.nc, V.int IntKind.i64 g.nr, V.int IntKind.i64 g.pc, V.int IntKind.i64 g.pr, V.int IntKind.i64 g.fc, V.int IntKind.i64 g.fr, V.str g.name, V.str g.val]] ++ [AObj.cells [V.int IntKind.i64 0]]) = O
  have hab : σ.objs.length < b ∧ b < c := by rw [← hc, ← hb]; simp
  have he : Ext σ ⟨O, σ.live⟩ := by rw [← hO]; exact ((ext_obj σ _).trans (ext_obj _ _)).trans (ext_obj _ _)
  have ho1 : O[σ.objs.length]? = some (.cells [V.ptr (some (i, 0))]) := by rw [← hO]; simp
  have ho2 : O[b]? = some (.cells (cgC (.sl db dr dz (intsV .i64 g.deps)) g)) := by
    rw [← hO, List.getElem?_append_left (by rw [hc]; exact hab.2), ← hb]; simp [cgC]
  have ho3 : O[c]? = some (.cells [V.int .i64 0]) := by rw [← hO, ← hc]; simp
  clear hO hc hb
  have hL := h.ext he
  have h1 : O[i]? = some (.cells (.int .i64 room :: s :: .map mo :: ov)) := hL.cells
  obtain ⟨hrt, hsq, hck1, hck2⟩ := chk_has hck
  have hr : 0 ≤ g.ar ∧ g.ar < 64 := (right_has hrt).2
  obtain ⟨hdl, hdn⟩ := clock_has hck1
  have hd0 := hd.ext he
  have hfin : ∀ (e : Int) (t : St) (o : AObj), Ext σ t → t.objs[c]? = some o → (t.setC c [V.int .i64 e]).objs[c]? = some (.cells [V.int .i64 e]) ∧ Ext σ (t.setC c [V.int .i64 e]) := fun e t o h1 h2 => ⟨setC_get (List.getElem?_eq_some_iff.1 h2).1, ext_set h1 (by omega)⟩
  clear h
  unfold rdI at q1 q2
  obtain ⟨hlo, hwo⟩ := hL.ownc hr
  have hod := ov_drop hlo
  generalize ov[g.ar.toNat] = o at hwo hod
  have hcn : cnt (cgL P) g.ar ≤ 1000000 := by have := cnt_le (cgL P) g.ar; rw [map2_len] at this; omega
  have hw : ∀ n : Nat, n = cnt (cgL P) g.ar → IntKind.i64.wrap ((n : Int) + 1) = (cnt (cgL P) g.ar : Int) + 1 := fun n e => by rw [e, i64_in _ (by omega)]
  have hl2 := intsV_len g.deps
  cases hs : decide (g.seq = (cnt (cgL P) g.ar : Int) + 1) <;> rw [hs] at q1 q2
  · obtain ⟨f1, f2⟩ := hfin 4 _ _ he ho3
    rcases hwo with ⟨R, q, rfl, hc0⟩ | ⟨jo, cap, rfl, -⟩
    all_goals
      first | (have hw0 := hw 0 hc0.symm) | (have hw0 := hw _ rfl)
      simp -implicitDefEqProofs only [go_sem, Nat.reduceBEq, Nat.reduceAdd, eq_self, true_and, and_true, and_self, List.getElem?_cons_zero, List.getElem?_cons_succ, Nat.reduceLeDiff, Nat.zero_add, Nat.reduceSub, Nat.le_refl, ho1, ho2, ho3, h1, cgC, hod, hw0, hs, Bool.not_false]
      refine ⟨hr, ?_⟩
      refine q2 _ _ ?_
      simp -implicitDefEqProofs only [go_sem, Nat.reduceBEq, Nat.reduceAdd, eq_self, true_and, and_true, and_self, List.getElem?_cons_zero, List.getElem?_cons_succ, Nat.reduceLeDiff, Nat.zero_add, Nat.reduceSub, Nat.le_refl, f1]
      exact f2
  simp only [Bool.not_true, cond_false] at q1 q2
  rcases hwo with ⟨R, q, rfl, hc0⟩ | ⟨jo, cap, rfl, -⟩
  all_goals
   first | (have hw0 := hw 0 hc0.symm) | (have hw0 := hw _ rfl)
   simp -implicitDefEqProofs only [go_sem, Nat.reduceBEq, Nat.reduceAdd, eq_self, true_and, and_true, and_self, List.getElem?_cons_zero, List.getElem?_cons_succ, Nat.reduceLeDiff, Nat.zero_add, Nat.reduceSub, Nat.le_refl, ho1, ho2, ho3, h1, cgC, hod, hw0, hs, Bool.not_true]
   refine ⟨hr, ?_⟩
   clear hod hw0 hw
   refine loop_at (fun (y : Nat) => ⟨[(2, .v (.ptr (some (σ.objs.length, 0)))), (3, .v (.ptr (some (b, 0)))), (4, .v (.ptr (some (c, 0)))), (26, .v (.sl db dr dz (intsV .i64 g.deps))), (27, .v (.int .i64 g.deps.length)), (28, .v (.int .i64 y))], []⟩)
     (fun y t => y ≤ g.deps.length ∧ t = ⟨O, σ.live⟩ ∧ ((List.range y).all fun r => decide (g.deps[r]?.getD 0 ≤ atD (cnts (cgL P)) r)) = true) (fun y => g.deps.length - y) 0 ?_ ?_ ?_
   · refine .inr ?_
     simp -implicitDefEqProofs only [go_sem, Nat.reduceBEq, Nat.reduceAdd, eq_self, true_and, and_true, and_self, List.getElem?_cons_zero, List.getElem?_cons_succ, Nat.reduceLeDiff, Nat.zero_add, Nat.reduceSub, Nat.le_refl, hl2]
     try exact ⟨rfl, rfl⟩
     try rfl
   · exact ⟨Nat.zero_le _, rfl, by simp⟩
   rintro y τ ⟨g1, rfl, g3⟩ Z z1 z2 z3
   simp -implicitDefEqProofs only [go_sem, Nat.reduceBEq, Nat.reduceAdd, eq_self, true_and, and_true, and_self, List.getElem?_cons_zero, List.getElem?_cons_succ, Nat.reduceLeDiff, Nat.zero_add, Nat.reduceSub, Nat.le_refl, Nat.lt_irrefl]
   refine CondW_b (fun hcc => ?_) (fun hcc => ?_)
   · have hi : y < g.deps.length := by simpa using hcc
     have hget := intsV_get hi
     have hwy : IntKind.i64.wrap ((y : Int) + 1) = ((y + 1 : Nat) : Int) := by rw [i64_in _ (by omega)]; omega
     obtain ⟨k1, k2⟩ := rdl hd0 (intsV_ne hi)
     have hst := under_at (m := cnts (cgL P)) hi rfl
     have hal : decide (g.deps[y]?.getD 0 ≤ atD (cnts (cgL P)) y) = decide (g.deps[y] ≤ atD (cnts (cgL P)) y) := by simp [hi]
     have hy64 : (0 : Int) ≤ (y : Int) ∧ (y : Int) < 64 := by omega
     rw [atD_cnts _ hy64] at hst hal
     obtain ⟨hlo2, hwo2⟩ := hL.ownc hy64
     have hod2 := ov_drop hlo2
     generalize ov[(y : Int).toNat] = o2 at hwo2 hod2
     generalize g.deps[y] = n at hget hst hal
     simp -implicitDefEqProofs only [go_sem, Nat.reduceBEq, Nat.reduceAdd, eq_self, true_and, and_true, and_self, List.getElem?_cons_zero, List.getElem?_cons_succ, Nat.reduceLeDiff, Nat.zero_add, Nat.reduceSub, Nat.le_refl, hl2, hget]
     refine ⟨⟨by omega, by omega, k2⟩, k1, ?_⟩
     cases hx : decide (n > (cnt (cgL P) (y : Int) : Int))
     · rcases hwo2 with ⟨R2, w2, rfl, hc2⟩ | ⟨j2, cap2, rfl, -⟩
       all_goals
        first | rw [hc2] at hx | skip
        simp -implicitDefEqProofs only [go_sem, Nat.reduceBEq, Nat.reduceAdd, eq_self, true_and, and_true, and_self, List.getElem?_cons_zero, List.getElem?_cons_succ, Nat.reduceLeDiff, Nat.zero_add, Nat.reduceSub, Nat.le_refl, ho1, ho2, ho3, h1, cgC, hod2, hx]
        refine ⟨hy64, ?_⟩
        simp -implicitDefEqProofs only [go_sem, Nat.reduceBEq, Nat.reduceAdd, eq_self, true_and, and_true, and_self, List.getElem?_cons_zero, List.getElem?_cons_succ, Nat.reduceLeDiff, Nat.zero_add, Nat.reduceSub, Nat.le_refl, hwy]
        refine z1 (y + 1) _ _ (.inr ?_) (by omega) ⟨by omega, rfl, ?_⟩
        · simp -implicitDefEqProofs only [go_sem, Nat.reduceBEq, Nat.reduceAdd, eq_self, true_and, and_true, and_self, List.getElem?_cons_zero, List.getElem?_cons_succ, Nat.reduceLeDiff, Nat.zero_add, Nat.reduceSub, Nat.le_refl, Nat.lt_irrefl]
          try exact ⟨rfl, rfl⟩
          try rfl
        · rw [hst, g3, Bool.true_and, decide_eq_true_eq]
          have := of_decide_eq_false hx
          omega
     · obtain ⟨f1, f2⟩ := hfin 4 _ _ he ho3
       have hun : underI g.deps (cnts (cgL P)) = false := all_false hi (by rw [atD_cnts _ hy64, hal, decide_eq_false_iff_not]; have := of_decide_eq_true hx; omega)
       rw [hun] at q1 q2
       rcases hwo2 with ⟨R2, w2, rfl, hc2⟩ | ⟨j2, cap2, rfl, -⟩
       all_goals
        first | rw [hc2] at hx | skip
        simp -implicitDefEqProofs only [go_sem, Nat.reduceBEq, Nat.reduceAdd, eq_self, true_and, and_true, and_self, List.getElem?_cons_zero, List.getElem?_cons_succ, Nat.reduceLeDiff, Nat.zero_add, Nat.reduceSub, Nat.le_refl, ho1, ho2, ho3, h1, cgC, hod2, hx]
        refine ⟨hy64, ?_⟩
        refine z3 _ _ ?_
        simp -implicitDefEqProofs only [go_sem, Nat.reduceBEq, Nat.reduceAdd, eq_self, true_and, and_true, and_self, List.getElem?_cons_zero, List.getElem?_cons_succ, Nat.reduceLeDiff, Nat.zero_add, Nat.reduceSub, Nat.le_refl, Nat.lt_irrefl]
        refine q2 _ _ ?_
        simp -implicitDefEqProofs only [go_sem, Nat.reduceBEq, Nat.reduceAdd, eq_self, true_and, and_true, and_self, List.getElem?_cons_zero, List.getElem?_cons_succ, Nat.reduceLeDiff, Nat.zero_add, Nat.reduceSub, Nat.le_refl, f1]
        exact f2
   have hun : underI g.deps (cnts (cgL P)) = true := by
     have : y = g.deps.length := by
       have : ¬ y < g.deps.length := by simpa using hcc
       omega
     subst this; exact g3
   have hund : ∀ (r : Nat) (h : r < g.deps.length), g.deps[r] ≤ (cnt (cgL P) (r : Int) : Int) := fun r h => by
     have := all_get hun h
     rw [atD_cnts _ (by omega)] at this
     simpa [h] using this
   rw [hun] at q1 q2
   simp only [Bool.not_true, cond_false] at q1 q2
   simp -implicitDefEqProofs only [go_sem, Nat.reduceBEq, Nat.reduceAdd, eq_self, true_and, and_true, and_self, List.getElem?_cons_zero, List.getElem?_cons_succ, Nat.reduceLeDiff, Nat.zero_add, Nat.reduceSub, Nat.le_refl, Nat.lt_irrefl]
   refine z2 _ _ _ ?_
   clear z1 z2 z3 g1 g3 hcc
   simp -implicitDefEqProofs only [go_sem, Nat.reduceBEq, Nat.reduceAdd, eq_self, true_and, and_true, and_self, List.getElem?_cons_zero, List.getElem?_cons_succ, Nat.reduceLeDiff, Nat.zero_add, Nat.reduceSub, Nat.le_refl, ho2, cgC]
   refine loop_at (fun (y : Nat) => ⟨[(2, .v (.ptr (some (σ.objs.length, 0)))), (3, .v (.ptr (some (b, 0)))), (4, .v (.ptr (some (c, 0)))), (44, .v (.sl db dr dz (intsV .i64 g.deps))), (45, .v (.int .i64 g.deps.length)), (46, .v (.int .i64 y))], []⟩)
     (fun y t => y ≤ g.deps.length ∧ t = ⟨O, σ.live⟩ ∧ ((List.range y).all fun r => depB (cgL P) g r (g.deps[r]?.getD 0)) = true) (fun y => g.deps.length - y) 0 ?_ ?_ ?_
   · refine .inr ?_
     simp -implicitDefEqProofs only [go_sem, Nat.reduceBEq, Nat.reduceAdd, eq_self, true_and, and_true, and_self, List.getElem?_cons_zero, List.getElem?_cons_succ, Nat.reduceLeDiff, Nat.zero_add, Nat.reduceSub, Nat.le_refl, hl2]
     try exact ⟨rfl, rfl⟩
     try rfl
   · exact ⟨Nat.zero_le _, rfl, by simp⟩
   rintro y τ ⟨g1, rfl, g3⟩ Z z1 z2 z3
   simp -implicitDefEqProofs only [go_sem, Nat.reduceBEq, Nat.reduceAdd, eq_self, true_and, and_true, and_self, List.getElem?_cons_zero, List.getElem?_cons_succ, Nat.reduceLeDiff, Nat.zero_add, Nat.reduceSub, Nat.le_refl, Nat.lt_irrefl]
   refine CondW_b (fun hcc => ?_) (fun hcc => ?_)
   · have hi : y < g.deps.length := by simpa using hcc
     have hget := intsV_get hi
     have hwy : IntKind.i64.wrap ((y : Int) + 1) = ((y + 1 : Nat) : Int) := by rw [i64_in _ (by omega)]; omega
     obtain ⟨k1, k2⟩ := rdl hd0 (intsV_ne hi)
     have hgo : g.deps[y]?.getD 0 = g.deps[y] := by simp [hi]
     have hal : ((List.range (y + 1)).all fun r => depB (cgL P) g r (g.deps[r]?.getD 0)) = depB (cgL P) g y g.deps[y] := by rw [all_snoc, g3, hgo, Bool.true_and]
     have hbad : depB (cgL P) g y g.deps[y] = false → depsB (cgL P) g = false := fun h => all_false hi (by rw [hgo]; exact h)
     have hy64 : (0 : Int) ≤ (y : Int) ∧ (y : Int) < 64 := by omega
     obtain ⟨hlo2, how⟩ := hL.ownl hy64
     have hod2 := ov_drop hlo2
     have hle := hund y hi
     have hn0 := hdn _ (List.getElem_mem hi)
     generalize g.deps[y] = n at hget hal hbad hle hn0
     simp -implicitDefEqProofs only [go_sem, Nat.reduceBEq, Nat.reduceAdd, eq_self, true_and, and_true, and_self, List.getElem?_cons_zero, List.getElem?_cons_succ, Nat.reduceLeDiff, Nat.zero_add, Nat.reduceSub, Nat.le_refl, hl2, hget]
     refine ⟨⟨by omega, by omega, k2⟩, k1, ?_⟩
     cases hx : decide (n > 0)
     · have hn : n = 0 := by have := of_decide_eq_false hx; omega
       simp -implicitDefEqProofs only [go_sem, Nat.reduceBEq, Nat.reduceAdd, eq_self, true_and, and_true, and_self, List.getElem?_cons_zero, List.getElem?_cons_succ, Nat.reduceLeDiff, Nat.zero_add, Nat.reduceSub, Nat.le_refl, hx]
       simp -implicitDefEqProofs only [go_sem, Nat.reduceBEq, Nat.reduceAdd, eq_self, true_and, and_true, and_self, List.getElem?_cons_zero, List.getElem?_cons_succ, Nat.reduceLeDiff, Nat.zero_add, Nat.reduceSub, Nat.le_refl, hwy]
       refine z1 (y + 1) _ _ (.inr ?_) (by omega) ⟨by omega, rfl, ?_⟩
       · simp -implicitDefEqProofs only [go_sem, Nat.reduceBEq, Nat.reduceAdd, eq_self, true_and, and_true, and_self, List.getElem?_cons_zero, List.getElem?_cons_succ, Nat.reduceLeDiff, Nat.zero_add, Nat.reduceSub, Nat.le_refl, Nat.lt_irrefl]
         try exact ⟨rfl, rfl⟩
         try rfl
       · rw [hal]; unfold depB; simp [hn]
     · have hx' := of_decide_eq_true hx
       have hdep : depB (cgL P) g y n = match (ownL (cgL P) y)[n.toNat - 1]? with
         | some h => st.less (atS h) (atS g)
         | none => false := by
           unfold depB
           rw [hL.good.find_O (by omega), show decide (n = 0) = false by rw [decide_eq_false_iff_not]; omega]
           rfl
       have hjl : n.toNat - 1 < (ownL (cgL P) y).length := by rw [ownL_len]; omega
       have hjl2 : n.toNat - 1 < ((ownL (cgL P) y).map atS).length := by simpa using hjl
       rw [List.getElem?_eq_getElem hjl] at hdep
       simp only at hdep
       have hg2 := sp_drop0 hjl2
       simp only [List.getElem_map] at hg2
       have hlen2 : ((ownL (cgL P) y).map atS).length = cnt (cgL P) y := by rw [List.length_map, ownL_len]
       have hw1 : IntKind.i64.wrap (n - 1) = ((n.toNat - 1 : Nat) : Int) := by rw [i64_in _ (by omega)]; omega
       generalize (ownL (cgL P) y)[n.toNat - 1] = h at hdep hg2
       have hsv := spsV_len ((ownL (cgL P) y).map atS)
       rcases how with ⟨R, q, e, e2⟩ | ⟨jj, cap, e, ho, -⟩
       · have : ((ownL (cgL P) y).map atS).length = 0 := by rw [← hsv, show spsV ((ownL (cgL P) y).map atS) = [] from e2]; rfl
         omega
       rw [e] at hod2
       rw [Int.toNat_natCast] at hod2
       have hls := iless_ok (σ := ⟨O, σ.live⟩) (a1 := h.ac) (a2 := h.ar) (b1 := g.ac) (b2 := g.ar)
       have hl2' : less h.ac h.ar g.ac g.ar = st.less (atS h) (atS g) := sless (atS h) (atS g)
       rw [hl2', ← hdep] at hls
       generalize n.toNat - 1 = kk at *
       have ho' : O[jj]? = _ := ho
       simp -implicitDefEqProofs only [go_sem, Nat.reduceBEq, Nat.reduceAdd, eq_self, true_and, and_true, and_self, List.getElem?_cons_zero, List.getElem?_cons_succ, Nat.reduceLeDiff, Nat.zero_add, Nat.reduceSub, Nat.le_refl, hx, ho1, ho2, ho3, h1, cgC, hod2, hw1, ho', hg2, Int.toNat_natCast, Nat.add_zero, spC, atS]
       refine ⟨hy64, ⟨by omega, by omega⟩, ?_⟩
       refine call_at hls ?_
       rintro w τ ⟨hτ, rfl⟩
       have hτ := hτ.symm
       subst hτ
       refine ⟨(Ext.refl _).kept, ?_⟩
       cases hy : depB (cgL P) g y n
       · obtain ⟨f1, f2⟩ := hfin 2 _ _ he ho3
         have hun : depsB (cgL P) g = false := hbad hy
         rw [hun] at q1 q2
         simp -implicitDefEqProofs only [go_sem, Nat.reduceBEq, Nat.reduceAdd, eq_self, true_and, and_true, and_self, List.getElem?_cons_zero, List.getElem?_cons_succ, Nat.reduceLeDiff, Nat.zero_add, Nat.reduceSub, Nat.le_refl, Bool.not_false, ho3]
         refine z3 _ _ ?_
         simp -implicitDefEqProofs only [go_sem, Nat.reduceBEq, Nat.reduceAdd, eq_self, true_and, and_true, and_self, List.getElem?_cons_zero, List.getElem?_cons_succ, Nat.reduceLeDiff, Nat.zero_add, Nat.reduceSub, Nat.le_refl, Nat.lt_irrefl]
         refine q2 _ _ ?_
         simp -implicitDefEqProofs only [go_sem, Nat.reduceBEq, Nat.reduceAdd, eq_self, true_and, and_true, and_self, List.getElem?_cons_zero, List.getElem?_cons_succ, Nat.reduceLeDiff, Nat.zero_add, Nat.reduceSub, Nat.le_refl, f1]
         exact f2
       · simp -implicitDefEqProofs only [go_sem, Nat.reduceBEq, Nat.reduceAdd, eq_self, true_and, and_true, and_self, List.getElem?_cons_zero, List.getElem?_cons_succ, Nat.reduceLeDiff, Nat.zero_add, Nat.reduceSub, Nat.le_refl, Bool.not_true, hwy]
         refine z1 (y + 1) _ _ (.inr ?_) (by omega) ⟨by omega, rfl, by rw [hal, hy]⟩
         simp -implicitDefEqProofs only [go_sem, Nat.reduceBEq, Nat.reduceAdd, eq_self, true_and, and_true, and_self, List.getElem?_cons_zero, List.getElem?_cons_succ, Nat.reduceLeDiff, Nat.zero_add, Nat.reduceSub, Nat.le_refl, Nat.lt_irrefl]
         try exact ⟨rfl, rfl⟩
         try rfl
   have hdp : depsB (cgL P) g = true := by
     have : y = g.deps.length := by
       have : ¬ y < g.deps.length := by simpa using hcc
       omega
     subst this; exact g3
   rw [hdp] at q1 q2
   simp only [Bool.not_true, cond_false] at q1 q2
   simp -implicitDefEqProofs only [go_sem, Nat.reduceBEq, Nat.reduceAdd, eq_self, true_and, and_true, and_self, List.getElem?_cons_zero, List.getElem?_cons_succ, Nat.reduceLeDiff, Nat.zero_add, Nat.reduceSub, Nat.le_refl, Nat.lt_irrefl]
   refine z2 _ _ _ ?_
   clear z1 z2 z3 g1 g3 hcc
   have hnm := names_ok (σ := ⟨O, σ.live⟩) (d := .sl db dr dz (intsV .i64 g.deps)) (g := g)
   simp only [cgV, cgC] at hnm
   simp -implicitDefEqProofs only [go_sem, Nat.reduceBEq, Nat.reduceAdd, eq_self, true_and, and_true, and_self, List.getElem?_cons_zero, List.getElem?_cons_succ, Nat.reduceLeDiff, Nat.zero_add, Nat.reduceSub, Nat.le_refl, ho2, cgC]
   refine call_at hnm ?_
   rintro v τ ⟨e1, qn, m0, rfl, hqn, -, hN0, hm0⟩
   refine ⟨kept_none, ?_⟩
   simp -implicitDefEqProofs only [go_sem, Nat.reduceBEq, Nat.reduceAdd, eq_self, true_and, and_true, and_self, List.getElem?_cons_zero, List.getElem?_cons_succ, Nat.reduceLeDiff, Nat.zero_add, Nat.reduceSub, Nat.le_refl, Nat.lt_irrefl]
   refine call_at (rising_ok (v := .sl false (.own qn) 2 (spsV m0)) ⟨_, _, _, rfl, by simp, .inr ⟨hqn, rfl⟩⟩ hm0) ?_
   rintro v τ2 ⟨e2, j, x, m, rfl, -, hj, ⟨qv, rfl, hqv, -⟩, hsrt, hmem, hm3⟩
   refine ⟨kept_none, ?_⟩
   have hN : IsN g m := ⟨hsrt, fun y => (hmem y).trans (hN0.2 y)⟩
   have hna := names_all hN (nmB (cgL P) g)
   have e3 := e1.trans e2
   have hb1 := e3.objs _ _ ho1
   have hb2 := e3.objs _ _ ho2
   have hb3 := e3.objs _ _ ho3
   have e4 := he.trans e3
   have hL2 := hL.ext e3
   have hd2 := hd0.ext e3
   have hcl : c < O.length := (List.getElem?_eq_some_iff.1 ho3).1
   have hol := e3.olen
   change O.length ≤ _ at hol
   clear hnm hund hN0 hm0 hqn e1 e2 e3 hL hd0 h1
   simp -implicitDefEqProofs only [go_sem, Nat.reduceBEq, Nat.reduceAdd, eq_self, true_and, and_true, and_self, List.getElem?_cons_zero, List.getElem?_cons_succ, Nat.reduceLeDiff, Nat.zero_add, Nat.reduceSub, Nat.le_refl, Nat.lt_irrefl]
   refine range_at ?_
   intro yl i0 r0 r1 r2 r3 hi hyy
   have e5 := ext_obj τ2 r0
   have hr0 : (⟨τ2.objs ++ [r0], τ2.live⟩ : St).objs[i0]? = some r0 := by rw [← hi]; simp
   have hrd : ∀ t : St, t.live[qv]? = some true → RdS t (.sl false (.view qv) 2 (spsV m)) 2 (spsV m) := fun t h => ⟨_, _, _, rfl, by simp, .inr ⟨h, rfl⟩⟩
   refine CallA.mono (sps1_ok (W := m)
     (fun R t => ∃ D, m = D ++ R ∧ Ext τ2 t ∧ t.objs[i0]? = some r0 ∧ D.all (nmB (cgL P) g) = true)
     (fun t => Ext σ t ∧ ((t.objs[i0]? = some r0 ∧ t.objs[c]? = some (.cells [V.int .i64 0]) ∧ m.all (nmB (cgL P) g) = true) ∨ (t.objs[i0]? = some (r2 .ret) ∧ t.objs[c]? = some (.cells [V.int .i64 2]) ∧ m.all (nmB (cgL P) g) = false)))
     (e5.objs _ _ hj) (hrd _ hqv) (by omega) ?_ ?_ ?_ ?_) ?_
   · exact ⟨[], rfl, e5, hr0, rfl⟩
   · rintro R t ⟨D, -, h, -⟩
     exact hrd _ (h.live _ hqv)
   · rintro a R t ⟨D, s1, s2, s8, s10⟩
     refine hyy t _ _ s8 rfl fun Y0 y0 => ?_
     simp -implicitDefEqProofs only [go_sem, Nat.reduceBEq, Nat.reduceAdd, eq_self, true_and, and_true, and_self, List.getElem?_cons_zero, List.getElem?_cons_succ, Nat.reduceLeDiff, Nat.zero_add, Nat.reduceSub, Nat.le_refl, rndF, setPs, dropL, spV, spC]
     refine y0 _ _ s8 fun Y y1 y2 y3 => ?_
     clear y0 Y0 hyy
     have hci : c ≠ i0 := by omega
     have hret : ∀ (F : Fr) (t' : St), Ext τ2 t' → t'.objs[i0]? = some r1 → nmB (cgL P) g a = false → Y .ret F (t'.setC c [V.int .i64 2]) := fun F t' f1 f2 f3 => by
       have hcl' : c < t'.objs.length := by have := f1.olen; omega
       have f2' : (t'.setC c [V.int .i64 2]).objs[i0]? = some r1 := (setC_ne (Ne.symm hci)).trans f2
       refine y3 _ _ f2' (.inr ⟨rfl, ext_setA (ext_set (e4.trans f1) (by omega)) (by omega), .inr ⟨setA_at f2', (setA_ne hci).trans (setC_get hcl'), ?_⟩⟩)
       rw [s1, List.all_append, List.all_cons, f3]; simp
     have hnorm : ∀ (F : Fr) (t' : St), Ext τ2 t' → t'.objs[i0]? = some r1 → nmB (cgL P) g a = true → Y .normal F t' := fun F t' f1 f2 f3 =>
       y1 _ _ f2 (.inl ⟨rfl, D ++ [a], by rw [s1]; simp, ext_setA f1 (by omega), setA_at f2, by rw [List.all_append, s10]; simp [f3]⟩)
     have b2 : Ext τ2 (t.setA i0 r1) := ext_setA s2 (by omega)
     have b6 : (t.setA i0 r1).objs[i0]? = some r1 := setA_at s8
     generalize t.setA i0 r1 = t2 at b2 b6 ⊢
     clear s2 s8 y1 y2 y3
     have c1 := b2.objs _ _ hb1
     have c2 := b2.objs _ _ hb2
     have c3 := b2.objs _ _ hb3
     have hL3 := hL2.ext b2
     have h1 := hL3.cells
     have hd3 := hd2.ext b2
     have i0l : i0 < t2.objs.length := (List.getElem?_eq_some_iff.1 b6).1
     have hap : ∀ (A : List AObj) x, (A ++ [x])[A.length]? = some x := by simp
     have e7 : ∀ v, Ext τ2 ((⟨t2.objs ++ [.cells [.int .i64 0]], t2.live⟩ : St).setC t2.objs.length [v]) := fun v => ext_set (b2.trans (ext_obj _ _)) b2.olen
     have d0 : ∀ v, ((⟨t2.objs ++ [.cells [.int .i64 0]], t2.live⟩ : St).setC t2.objs.length [v]).objs[t2.objs.length]? = some (.cells [v]) := fun v => setC_get (by simp)
     have d2 := fun v => (e7 v).objs _ _ hb2
     have d3 := fun v => (e7 v).objs _ _ hb3
     have d6 : ∀ v, ((⟨t2.objs ++ [.cells [.int .i64 0]], t2.live⟩ : St).setC t2.objs.length [v]).objs[i0]? = some r1 := fun v => by
       rw [setC_ne (by omega)]
       show (t2.objs ++ [_])[i0]? = _
       rw [List.getElem?_append_left i0l]; exact b6
     have hm := hL3.map
     have hka : keyFits KL (.agg [.int .i64 a.c, .int .i64 a.r]) = true := rfl
     have hsr := hL3.good.srt
     unfold nmB at hret hnorm
     clear hL3
     cases mo with
     | none =>
       have hP : (cgL P).find? (isA a) = none := by rw [show cgL P = [] from hm]; rfl
       rw [hP] at hret hnorm
       simp only at hret hnorm
       simp -implicitDefEqProofs only [go_sem, Nat.reduceBEq, Nat.reduceAdd, eq_self, true_and, and_true, and_self, List.getElem?_cons_zero, List.getElem?_cons_succ, Nat.reduceLeDiff, Nat.zero_add, Nat.reduceSub, Nat.le_refl, c1, c2, c3, h1, hka, spC, hap, d0, d2, d3]
       refine hret _ _ (e7 _) (d6 _) trivial
     | some mm =>
       obtain ⟨es, ver, hmo, hf⟩ := hm
       have hfa := hf a
       cases hP : (cgL P).find? (isA a) with
       | none =>
         rw [hP] at hret hnorm hfa
         simp only [Option.map_none] at hret hnorm hfa
         simp -implicitDefEqProofs only [go_sem, Nat.reduceBEq, Nat.reduceAdd, eq_self, true_and, and_true, and_self, List.getElem?_cons_zero, List.getElem?_cons_succ, Nat.reduceLeDiff, Nat.zero_add, Nat.reduceSub, Nat.le_refl, c1, c2, c3, h1, hka, hmo, hfa, spC, hap, d0, d2, d3]
         refine hret _ _ (e7 _) (d6 _) trivial
       | some h =>
         have hhr : h.ar = a.r := by
           have := ((find_A hsr).1 hP).2
           rw [← this]; rfl
         rw [hP] at hret hnorm hfa
         simp only [Option.map_some, hhr] at hret hnorm hfa
         simp -implicitDefEqProofs only [go_sem, Nat.reduceBEq, Nat.reduceAdd, eq_self, true_and, and_true, and_self, List.getElem?_cons_zero, List.getElem?_cons_succ, Nat.reduceLeDiff, Nat.zero_add, Nat.reduceSub, Nat.le_refl, c1, c2, c3, h1, hka, hmo, hfa, spC, cgC, hap, d0, d2, d3]
         refine call_at (at_ok (r := a.r) (hd2.ext (e7 _))) ?_
         rintro w τ ⟨hτ, rfl⟩
         have hτ := hτ.symm
         subst hτ
         refine ⟨(Ext.refl _).kept, ?_⟩
         cases hx : decide (h.seq > atD g.deps a.r)
         · simp -implicitDefEqProofs only [go_sem, Nat.reduceBEq, Nat.reduceAdd, eq_self, true_and, and_true, and_self, List.getElem?_cons_zero, List.getElem?_cons_succ, Nat.reduceLeDiff, Nat.zero_add, Nat.reduceSub, Nat.le_refl, hx]
           refine hnorm _ _ (e7 _) (d6 _) ?_
           rw [decide_eq_true_eq]
           have := of_decide_eq_false hx
           omega
         · simp -implicitDefEqProofs only [go_sem, Nat.reduceBEq, Nat.reduceAdd, eq_self, true_and, and_true, and_self, List.getElem?_cons_zero, List.getElem?_cons_succ, Nat.reduceLeDiff, Nat.zero_add, Nat.reduceSub, Nat.le_refl, hx, d3]
           refine hret _ _ (e7 _) (d6 _) ?_
           rw [decide_eq_false_iff_not]
           have := of_decide_eq_true hx
           omega
   · rintro t ⟨D, s1, s2, s8, s10⟩
     rw [List.append_nil] at s1
     subst s1
     exact ⟨e4.trans s2, .inl ⟨s8, s2.objs _ _ hb3, s10⟩⟩
   · rintro v t ⟨h1, ⟨h2, h3, h4⟩ | ⟨h2, h3, h4⟩⟩
     · refine .inl ⟨h2, ?_⟩
       rw [hna] at h4
       rw [show namesB (cgL P) g = true from h4] at q1 q2
       have h3' : (t.setA i0 (r3 .normal)).objs[c]? = _ := (setA_ne (by omega)).trans h3
       obtain ⟨f1, f2⟩ := hfin 0 _ _ (ext_setA h1 (i := i0) (o := r3 .normal) (by omega)) h3'
       simp -implicitDefEqProofs only [go_sem, Nat.reduceBEq, Nat.reduceAdd, eq_self, true_and, and_true, and_self, List.getElem?_cons_zero, List.getElem?_cons_succ, Nat.reduceLeDiff, Nat.zero_add, Nat.reduceSub, Nat.le_refl, h3']
       refine q2 _ _ ?_
       simp -implicitDefEqProofs only [go_sem, Nat.reduceBEq, Nat.reduceAdd, eq_self, true_and, and_true, and_self, List.getElem?_cons_zero, List.getElem?_cons_succ, Nat.reduceLeDiff, Nat.zero_add, Nat.reduceSub, Nat.le_refl, f1]
       exact f2
     · refine .inr ⟨.ret, by simp, h2, ?_⟩
       rw [hna] at h4
       rw [show namesB (cgL P) g = false from h4] at q1 q2
       have h3' : (t.setA i0 (r3 .ret)).objs[c]? = _ := (setA_ne (by omega)).trans h3
       simp -implicitDefEqProofs only [go_sem, Nat.reduceBEq, Nat.reduceAdd, eq_self, true_and, and_true, and_self, List.getElem?_cons_zero, List.getElem?_cons_succ, Nat.reduceLeDiff, Nat.zero_add, Nat.reduceSub, Nat.le_refl, h3']
       refine q2 _ _ ?_
       simp -implicitDefEqProofs only [go_sem, Nat.reduceBEq, Nat.reduceAdd, eq_self, true_and, and_true, and_self, List.getElem?_cons_zero, List.getElem?_cons_succ, Nat.reduceLeDiff, Nat.zero_add, Nat.reduceSub, Nat.le_refl, h3']
       exact ext_setA h1 (by omega)
end
end Go.VL.opl

namespace Go.VL.opl
open Go Go.VL Go.Proofs Go.IntWalk Go.VL.st Go.VL.row

theorem eq_key {x y : Int} : ∀ {k : V}, V.eq (.agg [.int .i64 x, .int .i64 y]) k = true → k = .agg [.int .i64 x, .int .i64 y] := by
  intro k h
  cases k <;> simp only [V.eq, Bool.false_eq_true] at h
  rename_i l
  match l, h with
  | [], h => simp [V.eqs] at h
  | [_], h => simp [V.eqs] at h
  | a :: b :: c :: r, h => simp [V.eqs] at h
  | [a, b], h =>
    simp only [V.eqs, Bool.and_true, Bool.and_eq_true] at h
    obtain ⟨h1, h2⟩ := h
    cases a <;> simp only [V.eq, Bool.false_eq_true] at h1
    cases b <;> simp only [V.eq, Bool.false_eq_true] at h2
    simp only [Bool.and_eq_true, decide_eq_true_eq] at h1 h2
    obtain ⟨rfl, rfl⟩ := h1
    obtain ⟨rfl, rfl⟩ := h2
    rfl
theorem key_sp (a b : Sp) : V.eq (.agg [.int .i64 a.c, .int .i64 a.r]) (.agg [.int .i64 b.c, .int .i64 b.r]) = decide (a = b) := by
  cases a; cases b
  simp only [V.eq, V.eqs, Bool.and_true, decide_true, Bool.true_and]
  rw [Bool.eq_iff_iff]
  simp
theorem find_upd (x y : Sp) (v : V) : ∀ es : List (V × V), find (.agg [.int .i64 y.c, .int .i64 y.r]) (upd (.agg [.int .i64 x.c, .int .i64 x.r]) v es) = if y = x then some v else find (.agg [.int .i64 y.c, .int .i64 y.r]) es
  | [] => by
    simp only [upd, find, key_sp]
    by_cases h : y = x <;> simp [h]
  | p :: r => by
    have ih := find_upd x y v r
    simp only [upd]
    cases hx : V.eq (.agg [.int .i64 x.c, .int .i64 x.r]) p.1
    · simp only [cond_false, find]
      by_cases h : y = x
      · subst h
        rw [hx, cond_false, ih]; simp
      · rw [ih, if_neg h, if_neg h]
    · simp only [cond_true, find, key_sp]
      rw [eq_key hx, key_sp]
      by_cases h : y = x <;> simp [h]
theorem rowOf_ne {τ : St} {w : V} {z b : Nat} {es : List (List V)} {cs : List V} (h : RowOf τ w z es) (hb : τ.objs[b]? = some (.cells cs)) : ∀ n cap z', w ≠ .osl b n cap z' := by
  rintro n cap z' rfl
  rcases h with ⟨R, q, h, -⟩ | ⟨j, cap', h, h1, -⟩
  · cases h
  · cases h
    rw [hb] at h1; cases h1
theorem rowOf_nm {τ : St} {w : V} {z b : Nat} {es : List (List V)} {lv : List LK} {ms : List (V × V)} {ver : Nat} (h : RowOf τ w z es) (hb : τ.objs[b]? = some (.mp lv ms ver)) : ∀ n cap z', w ≠ .osl b n cap z' := by
  rintro n cap z' rfl
  rcases h with ⟨R, q, h, -⟩ | ⟨j, cap', h, h1, -⟩
  · cases h
  · cases h
    rw [hb] at h1; cases h1
theorem rowOf_lt {τ : St} {z b n cap z' : Nat} {es : List (List V)} (h : RowOf τ (.osl b n cap z') z es) : b < τ.objs.length := by
  rcases h with ⟨R, q, h, -⟩ | ⟨j, cap', h, h1, -⟩
  · cases h
  · cases h
    exact (List.getElem?_eq_some_iff.1 h1).1
/-- Rows of unlike widths are unlike. -/
theorem rowOf_nz {τ : St} {v : V} {z b n cap z2 z' : Nat} {es es' : List (List V)} (h : RowOf τ (.osl b n cap z') z es) (k : RowOf τ v z2 es') (hz : z ≠ z2) : ∀ n' cap' y, v ≠ .osl b n' cap' y := by
  rintro n' cap' y rfl
  rcases h with ⟨R, q, h, -⟩ | ⟨j, cap2, h, h1, -⟩
  · cases h
  cases h
  rcases k with ⟨R, q, h, -⟩ | ⟨j, cap3, h, h2, -⟩
  · cases h
  cases h
  rw [h1] at h2
  simp only [Option.some.injEq, AObj.row.injEq] at h2
  exact hz h2.2.1
/-- append of one to a row. -/
theorem ao_push {τ : St} {wo : V} {z r : Nat} {es : List (List V)} {e : List V} (h : RowOf τ wo z es) (hl : es.length < 1073741824) (he : e.length = z) (hr : τ.live[r]? = some true) :
    AoV τ z true wo (.sl false (.own r) z [e]) fun v τ' => RowOf τ' v z (es ++ [e]) ∧ τ'.live = τ.live ∧ τ.objs.length ≤ τ'.objs.length ∧ (∀ (j : Nat) (o : AObj), (∀ n cap z', wo ≠ .osl j n cap z') → τ.objs[j]? = some o → τ'.objs[j]? = some o) ∧
      (∃ j n cap, v = .osl j n cap z ∧ ((∃ n' cap', wo = .osl j n' cap' z) ∨ τ.objs.length ≤ j) ∧ j < τ'.objs.length) := by
  unfold AoV
  show AoP τ z true ((false = true ∨ rd τ.live (.own r)) ∧ (z = z ∨ _), [e]) _ wo
  rcases h with ⟨R, q, rfl, rfl⟩ | ⟨j, cap, rfl, h1, h2, h3⟩
  · refine ⟨rfl, ⟨.inr hr, .inl rfl⟩, by simp, (fun h => absurd h (by simp)), fun _ cap hc1 hc2 => ?_⟩
    refine ⟨.inr ⟨τ.objs.length, cap, rfl, by simp, by simpa using he, hc1⟩, rfl, by simp, fun j o _ hj => ?_, _, _, _, rfl, .inr (Nat.le_refl _), by simp⟩
    show (τ.objs ++ [_])[j]? = some o
    rw [List.getElem?_append_left (List.getElem?_eq_some_iff.1 hj).1]; exact hj
  · refine ⟨rfl, rfl, ?_⟩
    rw [h1]
    have hz : ∀ x ∈ es ++ [e], x.length = z := by
      intro x hx
      rcases List.mem_append.1 hx with hx | hx
      · exact h2 x hx
      · rw [List.mem_singleton] at hx; rw [hx]; exact he
    have hlt := (List.getElem?_eq_some_iff.1 h1).1
    refine ⟨⟨rfl, rfl, flat_len' h2⟩, ⟨.inr hr, .inl rfl⟩, by simp only [List.length_cons, List.length_nil]; omega, fun hc => ?_, fun hc cap' hc1 hc2 => ?_⟩
    · refine ⟨.inr ⟨j, cap, by simp, ?_, hz, by simpa using hc⟩, rfl, by show _ ≤ (τ.objs.set _ _).length; rw [List.length_set]; exact Nat.le_refl _, fun k o hk hj => ?_, _, _, _, rfl, .inl ⟨_, _, rfl⟩, by show _ < (τ.objs.set _ _).length; rw [List.length_set]; exact hlt⟩
      · show (τ.objs.set j _)[j]? = _
        rw [List.getElem?_set_self hlt]; simp
      · show (τ.objs.set j _)[k]? = some o
        rw [List.getElem?_set_ne (fun e => hk _ _ _ (by rw [e]))]; exact hj
    · refine ⟨.inr ⟨τ.objs.length, cap', by simp, by simp, hz, by simpa using hc1⟩, rfl, by simp, fun k o _ hj => ?_, _, _, _, rfl, .inr (Nat.le_refl _), by simp⟩
      show (τ.objs ++ [_])[k]? = some o
      rw [List.getElem?_append_left (List.getElem?_eq_some_iff.1 hj).1]; exact hj
/-- A log in the midst of an addition. -/
structure LMid (τ : St) (i : Nat) (mo : Option Nat) (s : V) (ov : List V) (room : Int) (P : List (V × Cg)) (Lm : List Cg) (ow : Nat → List Sp) : Prop where
  cells : τ.objs[i]? = some (.cells (.int .i64 room :: s :: .map mo :: ov))
  ovl : ov.length = 64
  row : RowOf τ s 13 (cgsV P)
  rds : Rds τ P
  map : MapOk τ mo Lm
  own : ∀ (r : Nat) (h : r < ov.length), RowOf τ ov[r] 2 (spsV (ow r))
  sep : ∀ (a b : Nat) (ha : a < ov.length) (hb : b < ov.length) j n cap z n' cap' z', ov[a] = .osl j n cap z → ov[b] = .osl j n' cap' z' → a = b
/-- What there is of a log behind a call. -/
structure LTo (σ τ : St) (i : Nat) (mo : Option Nat) (s s' : V) (ov ov' : List V) : Prop where
  upd : UpdS (Own i mo s ov) σ τ
  own : ∀ j, Own i mo s' ov' j → Own i mo s ov j ∨ σ.objs.length ≤ j
theorem LTo.refl (σ : St) (i : Nat) (mo : Option Nat) (s : V) (ov : List V) : LTo σ σ i mo s s ov ov := ⟨.refl _ _, fun _ h => .inl h⟩
theorem LTo.of {σ τ : St} {i : Nat} {mo : Option Nat} {s : V} {ov : List V} (h : Ext σ τ) : LTo σ τ i mo s s ov ov := ⟨.of h, fun _ h => .inl h⟩
theorem LTo.trans {a b c : St} {i : Nat} {mo : Option Nat} {s s' s'' : V} {ov ov' ov'' : List V} (h : LTo a b i mo s s' ov ov') (k : LTo b c i mo s' s'' ov' ov'') : LTo a c i mo s s'' ov ov'' :=
  ⟨h.upd.trans k.upd h.own, fun j hj => (k.own j hj).elim (h.own j) fun hl => .inr (Nat.le_trans h.upd.olen hl)⟩
section
variable {σ τ τ' : St} {i m : Nat} {mo : Option Nat} {s s' s1 d : V} {ov ov' : List V} {room : Int} {P P1 : List (V × Cg)} {g : Cg} {x : Sp} {Lm : List Cg} {ow : Nat → List Sp}
theorem LogIs.mid (h : LogIs σ i mo s ov room P) : LMid σ i mo s ov room P (cgL P) fun r => (ownL (cgL P) r).map atS :=
  ⟨h.cells, h.ovl, h.row, h.rds, h.map, h.own, h.sep⟩
theorem LMid.log (h : LMid σ i mo s ov room P (cgL P) fun r => (ownL (cgL P) r).map atS) (hg : Good (cgL P)) : LogIs σ i mo s ov room P :=
  ⟨h.cells, h.ovl, h.row, h.rds, h.map, h.own, h.sep, hg⟩
theorem LMid.own_lt (h : LMid σ i (some m) s ov room P Lm ow) {j : Nat} (hj : Own i (some m) s ov j) : j < σ.objs.length := by
  rcases hj with rfl | hj | ⟨n, cap, z, rfl⟩ | ⟨a, ha, n, cap, z, e⟩
  · exact (List.getElem?_eq_some_iff.1 h.cells).1
  · cases hj
    obtain ⟨es, ver, h1, -⟩ := h.map
    exact (List.getElem?_eq_some_iff.1 h1).1
  · exact rowOf_lt h.row
  · have := h.own a ha
    rw [e] at this
    exact rowOf_lt this
theorem LMid.ext (h : LMid σ i (some m) s ov room P Lm ow) (he : Ext σ τ) : LMid τ i (some m) s ov room P Lm ow := by
  have hu : UpdS (fun _ => False) σ τ := .of he
  obtain ⟨es, ver, h1, h2⟩ := h.map
  exact ⟨he.objs _ _ h.cells, h.ovl, rowOf_up h.row hu fun _ _ _ _ _ h => h, fun p hp => rdS_up (h.rds p hp) hu, ⟨es, ver, he.objs _ _ h1, h2⟩, fun r hr => rowOf_up (h.own r hr) hu fun _ _ _ _ _ h => h, h.sep⟩
/-- Insert. -/
theorem LMid.ins (h : LMid τ i (some m) s ov room P Lm ow) (hto : RowTo ⟨τ.objs, τ.live ++ [true]⟩ s τ') {jj n cap : Nat} (hr : RowOf τ' (.osl jj n cap 13) 13 (cgsV P1)) (hjj : (∃ n' cap', s = .osl jj n' cap' 13) ∨ τ.objs.length ≤ jj)
    (hp : Rds τ' P1) : τ'.objs[i]? = some (.cells (.int .i64 room :: s :: .map (some m) :: ov)) ∧ LMid (τ'.setC i (.int .i64 room :: .osl jj n cap 13 :: .map (some m) :: ov)) i (some m) (.osl jj n cap 13) ov room P1 Lm ow ∧
      LTo τ (τ'.setC i (.int .i64 room :: .osl jj n cap 13 :: .map (some m) :: ov)) i (some m) s (.osl jj n cap 13) ov ov := by
  obtain ⟨t1, t2, t3⟩ := hto
  have hi : τ'.objs[i]? = some (.cells (.int .i64 room :: s :: .map (some m) :: ov)) := t3 _ _ (rowOf_ne h.row h.cells) h.cells
  obtain ⟨es, ver, h1, h2⟩ := h.map
  have hmi : m ≠ i := fun e => by rw [e, h.cells] at h1; cases h1
  have hu0 : UpdS (fun j => ∃ n cap z, s = .osl j n cap z) τ τ' := ⟨fun j o hj ho => t3 j o (fun n cap z e => hj ⟨n, cap, z, e⟩) ho, fun r hr => by rw [t1]; exact (ext_live τ true).live r hr, t2, by rw [t1]; simp⟩
  have hu : UpdS (fun j => j = i) τ' (τ'.setC i (.int .i64 room :: .osl jj n cap 13 :: .map (some m) :: ov)) := updS_setC
  have hm1 := hu0.objs _ _ (fun ⟨n, cap, z, e⟩ => rowOf_nm h.row h1 _ _ _ e) h1
  refine ⟨hi, ⟨setC_get (List.getElem?_eq_some_iff.1 hi).1, h.ovl, rowOf_up hr hu fun j n' cap' z e => ?_, fun p hp' => rdS_up (hp p hp') hu, ⟨es, ver, hu.objs _ _ hmi hm1, h2⟩, fun r hrr => ?_, h.sep⟩, ⟨?_, ?_⟩⟩
  · rintro rfl
    exact rowOf_ne hr hi _ _ _ e
  · have ho := h.own r hrr
    refine rowOf_up (rowOf_up ho hu0 fun j n' cap' z e => ?_) hu fun j n' cap' z e => ?_
    · rintro ⟨n2, cap2, z2, e2⟩
      rw [e] at ho
      exact rowOf_nz ho h.row (by decide) _ _ _ e2
    · rintro rfl
      exact rowOf_ne ho h.cells _ _ _ e
  · exact UpdS.trans (S := Own i (some m) s ov) (S' := fun j => j = i) (a := τ) (b := τ') ⟨fun j o hj ho => hu0.objs j o (fun hx => hj (.inr (.inr (.inl hx)))) ho, hu0.live, hu0.olen, hu0.llen⟩ hu fun j hj => .inl (.inl hj)
  · rintro j (hj | hj | ⟨n', cap', z, hj⟩ | hj)
    · exact .inl (.inl hj)
    · exact .inl (.inr (.inl hj))
    · cases hj
      rcases hjj with ⟨n2, cap2, hj⟩ | hj
      · exact .inl (.inr (.inr (.inl ⟨_, _, _, hj⟩)))
      · exact .inr hj
    · exact .inl (.inr (.inr (.inr hj)))
/-- m[k] = v. -/
theorem LMid.put (h : LMid τ i (some m) s ov room P Lm ow) {Lm' : List Cg} {v : V} {es : List (V × V)} {ver : Nat} (hm : τ.objs[m]? = some (.mp KL es ver)) (hf : ∀ y : Sp, (if y = x then some v else find (.agg [.int .i64 y.c, .int .i64 y.r]) es) = (Lm'.find? (isA y)).map fun h => V.agg [.int .i64 h.seq]) {ver' : Nat} :
    LMid (τ.setM m KL (upd (.agg [.int .i64 x.c, .int .i64 x.r]) v es) ver') i (some m) s ov room P Lm' ow ∧ LTo τ (τ.setM m KL (upd (.agg [.int .i64 x.c, .int .i64 x.r]) v es) ver') i (some m) s s ov ov := by
  have hu : UpdS (fun k => k = m) τ (τ.setM m KL (upd (.agg [.int .i64 x.c, .int .i64 x.r]) v es) ver') := updS_setM
  have hmi : i ≠ m := fun e => by rw [← e, h.cells] at hm; cases hm
  refine ⟨⟨hu.objs _ _ hmi h.cells, h.ovl, rowOf_up h.row hu fun j n cap z e => ?_, fun p hp => rdS_up (h.rds p hp) hu, ⟨_, ver', ?_, fun y => (find_upd x y v es).trans (hf y)⟩, fun r hr => rowOf_up (h.own r hr) hu fun j n cap z e => ?_, h.sep⟩, ⟨fun j o hj => hu.objs j o fun e => hj (.inr (.inl (by rw [e]))), hu.live, hu.olen, hu.llen⟩, fun j hj => .inl hj⟩
  · rintro rfl; exact rowOf_nm h.row hm _ _ _ e
  · show (τ.objs.set _ _)[m]? = _
    rw [List.getElem?_set_self (List.getElem?_eq_some_iff.1 hm).1]
  · rintro rfl; exact rowOf_nm (h.own r hr) hm _ _ _ e
/-- append to one of the replicas' stamps. -/
theorem LMid.push (h : LMid τ i (some m) s ov room P Lm ow) {r : Nat} (hr : r < ov.length) {v : V} (hv : RowOf τ' v 2 (spsV (ow r ++ [x]))) (hlv : τ'.live = τ.live ++ [true]) (hol : τ.objs.length ≤ τ'.objs.length)
    (ho : ∀ (j : Nat) (o : AObj), (∀ n cap z', ov[r] ≠ .osl j n cap z') → τ.objs[j]? = some o → τ'.objs[j]? = some o) (hj : ∃ j n cap, v = .osl j n cap 2 ∧ ((∃ n' cap', ov[r] = .osl j n' cap' 2) ∨ τ.objs.length ≤ j) ∧ j < τ'.objs.length) {ow' : Nat → List Sp} (hw : ow' r = ow r ++ [x]) (hw' : ∀ k, k ≠ r → ow' k = ow k) :
    τ'.objs[i]? = some (.cells (.int .i64 room :: s :: .map (some m) :: ov)) ∧ LMid (τ'.setC i (.int .i64 room :: s :: .map (some m) :: ov.set r v)) i (some m) s (ov.set r v) room P Lm ow' ∧ LTo τ (τ'.setC i (.int .i64 room :: s :: .map (some m) :: ov.set r v)) i (some m) s s ov (ov.set r v) := by
  obtain ⟨jj, n, cap, rfl, hjj, hjl⟩ := hj
  have hrow := h.own r hr
  have hi : τ'.objs[i]? = _ := ho _ _ (rowOf_ne hrow h.cells) h.cells
  obtain ⟨es, ver, h1, h2⟩ := h.map
  have hmi : m ≠ i := fun e => by rw [e, h.cells] at h1; cases h1
  have hu0 : UpdS (fun j => ∃ n cap z, ov[r] = .osl j n cap z) τ τ' := ⟨fun j o hj hx => ho j o (fun n cap z e => hj ⟨n, cap, z, e⟩) hx, fun q hq => by rw [hlv]; exact (ext_live τ true).live q hq, hol, by rw [hlv]; simp⟩
  have hu : UpdS (fun j => j = i) τ' (τ'.setC i (.int .i64 room :: s :: .map (some m) :: ov.set r (.osl jj n cap 2))) := updS_setC
  have hm1 := hu0.objs _ _ (fun ⟨n, cap, z, e⟩ => rowOf_nm hrow h1 _ _ _ e) h1
  refine ⟨hi, ⟨setC_get (List.getElem?_eq_some_iff.1 hi).1, by rw [List.length_set]; exact h.ovl, rowOf_up (rowOf_up h.row hu0 fun j n' cap' z e => ?_) hu fun j n' cap' z e => ?_, fun p hp => rdS_up (rdS_up (h.rds p hp) hu0) hu, ⟨es, ver, hu.objs _ _ hmi hm1, h2⟩, fun k hk => ?_, ?_⟩, ⟨?_, ?_⟩⟩
  · rintro ⟨n2, cap2, z2, e2⟩
    have hs := h.row
    rw [e] at hs
    exact rowOf_nz hs hrow (by decide) _ _ _ e2
  · rintro rfl; exact rowOf_ne h.row h.cells _ _ _ e
  · have hk' : k < ov.length := by simpa using hk
    by_cases hkr : k = r
    · subst hkr
      rw [List.getElem_set_self, hw]
      refine rowOf_up hv hu fun j n' cap' z e => ?_
      rintro rfl; exact rowOf_ne hv hi _ _ _ e
    · rw [List.getElem_set_ne (Ne.symm hkr), hw' k hkr]
      have ho' := h.own k hk'
      refine rowOf_up (rowOf_up ho' hu0 fun j n' cap' z e => ?_) hu fun j n' cap' z e => ?_
      · rintro ⟨n2, cap2, z2, e2⟩
        exact hkr (h.sep _ _ hk' hr _ _ _ _ _ _ _ e e2)
      · rintro rfl; exact rowOf_ne ho' h.cells _ _ _ e
  · have new : ∀ (a : Nat) (ha : a < ov.length), a ≠ r → ∀ n' cap' z', ov[a] ≠ .osl jj n' cap' z' := by
      intro a ha har n' cap' z' e
      rcases hjj with ⟨n2, cap2, e2⟩ | hl
      · exact har (h.sep _ _ ha hr _ _ _ _ _ _ _ e e2)
      · have ho' := h.own a ha
        rw [e] at ho'
        have := rowOf_lt ho'
        omega
    intro a b ha hb j n1 c1 z1 n2 c2 z2 e1 e2
    rw [List.getElem_set] at e1 e2
    have ha' : a < ov.length := by simpa using ha
    have hb' : b < ov.length := by simpa using hb
    by_cases har : r = a <;> by_cases hbr : r = b
    · rw [← har, ← hbr]
    · rw [if_pos har] at e1
      rw [if_neg hbr] at e2
      cases e1
      exact absurd e2 (new b hb' (Ne.symm hbr) _ _ _)
    · rw [if_neg har] at e1
      rw [if_pos hbr] at e2
      cases e2
      exact absurd e1 (new a ha' (Ne.symm har) _ _ _)
    · rw [if_neg har] at e1
      rw [if_neg hbr] at e2
      exact h.sep _ _ ha' hb' _ _ _ _ _ _ _ e1 e2
  · exact UpdS.trans (S := Own i (some m) s ov) (S' := fun j => j = i) (a := τ) (b := τ') ⟨fun j o hj hx => hu0.objs j o (fun ⟨n, cap, z, e⟩ => hj (.inr (.inr (.inr ⟨r, hr, n, cap, z, e⟩)))) hx, hu0.live, hu0.olen, hu0.llen⟩ hu fun j hj => .inl (.inl hj)
  · rintro j (hj | hj | hj | ⟨a, ha, n', cap', z, hj⟩)
    · exact .inl (.inl hj)
    · exact .inl (.inr (.inl hj))
    · exact .inl (.inr (.inr (.inl hj)))
    · have ha' : a < ov.length := by simpa using ha
      rw [List.getElem_set] at hj
      by_cases har : r = a
      · rw [if_pos har] at hj
        cases hj
        rcases hjj with ⟨n2, cap2, e2⟩ | hl
        · exact .inl (.inr (.inr (.inr ⟨r, hr, _, _, _, e2⟩)))
        · exact .inr hl
      · rw [if_neg har] at hj
        exact .inl (.inr (.inr (.inr ⟨a, ha', _, _, _, hj⟩)))
end
end Go.VL.opl

namespace Go.VL.opl
open Go Go.VL Go.Proofs Go.IntWalk Go.VL.st Go.VL.row

section
variable {σ : St} {i m : Nat} {s d : V} {ov : List V} {room : Int} {P : List (V × Cg)} {g : Cg} {x : Sp}
theorem ov_over {ov : List V} {r : Nat} (h : r < ov.length) (a b c v : V) : List.take (3 + r * 1) (a :: b :: c :: ov) ++ [v] ++ List.drop (3 + r * 1) (b :: c :: ov) = a :: b :: c :: ov.set r v := by
  rw [Nat.mul_one, Nat.add_comm]
  simp only [List.take_succ_cons, List.drop_succ_cons, List.cons_append]
  rw [List.set_eq_take_append_cons_drop, if_pos h, List.append_assoc]
  rfl
theorem Good.deps {L : List Cg} (h : Good L) : ∀ g ∈ L, g.deps.length ≤ 64 := fun g hg => by
  obtain ⟨-, -, h1, -⟩ := chk_has (h.chk g hg)
  exact (clock_has h1).1
theorem LogIs.deps {mo : Option Nat} (h : LogIs σ i mo s ov room P) : ∀ p ∈ P, p.2.deps.length ≤ 2000000 := fun p hp => by
  have := h.good.deps p.2 (List.mem_map_of_mem hp)
  omega
set_option maxRecDepth 100000 in
set_option maxHeartbeats 4000000 in
theorem add_ok (h : LogIs σ i (some m) s ov room P) (hl : P.length ≤ 100000) (hd : RdS σ d 1 (intsV .i64 g.deps)) (hnl : g.name.length < 4611686018427387904) :
    CallA Try.prog 14 [.ptr (some (i, 0)), cgV d g] σ fun v σ' => v = .int .i64 (whyR (cgL P) room g) ∧ ∃ s' ov' P', LogIs σ' i (some m) s' ov' room P' ∧ cgL P' = addR (cgL P) room g ∧ LTo σ σ' i (some m) s s' ov ov' ∧ ∀ p ∈ P', p ∈ P ∨ NewS σ σ' p.1 1 (intsV .i64 p.2.deps) := by
  obtain ⟨db, dr, dz, rfl, -, -⟩ := id hd
  refine fn_at Try.func14 (by decide) dcomp14 rfl fun Q q1 q2 => ?_
  have hck := chk_ok hd hnl
  simp only [cgV, cgC] at hck
  have hsame : ∀ τ, Ext σ τ → whyR (cgL P) room g ≠ 0 → ∃ s' ov' P', LogIs τ i (some m) s' ov' room P' ∧ cgL P' = addR (cgL P) room g ∧ LTo σ τ i (some m) s s' ov ov' ∧ ∀ p ∈ P', p ∈ P ∨ NewS σ τ p.1 1 (intsV .i64 p.2.deps) := fun τ he hw => by
    refine ⟨s, ov, P, h.ext he, ?_, LTo.of he, fun p hp => .inl hp⟩
    unfold addR
    rw [show decide (whyR (cgL P) room g = 0) = false by simpa using hw]; rfl
  simp -implicitDefEqProofs only [go_sem, Nat.reduceBEq, Nat.reduceAdd, eq_self, true_and, and_true, and_self, List.getElem?_cons_zero, List.getElem?_cons_succ, Nat.reduceLeDiff, Nat.zero_add, Nat.reduceSub, Nat.le_refl, d14, cgV, cgC]
  refine call_at hck ?_
  rintro w τ ⟨hτ, rfl⟩
  have hτ := hτ.symm
  subst hτ
  refine ⟨kept_none, ?_⟩
  cases hc : decide (chkI g = 0)
  · have hw : whyR (cgL P) room g = chkI g := by unfold whyR; rw [hc]; rfl
    rw [hw] at q2 hsame
    simp -implicitDefEqProofs only [go_sem, Nat.reduceBEq, Nat.reduceAdd, eq_self, true_and, and_true, and_self, List.getElem?_cons_zero, List.getElem?_cons_succ, Nat.reduceLeDiff, Nat.zero_add, Nat.reduceSub, Nat.le_refl, hc, Bool.not_false]
    refine q2 _ _ ?_
    simp -implicitDefEqProofs only [go_sem, Nat.reduceBEq, Nat.reduceAdd, eq_self, true_and, and_true, and_self, List.getElem?_cons_zero, List.getElem?_cons_succ, Nat.reduceLeDiff, Nat.zero_add, Nat.reduceSub, Nat.le_refl, Nat.lt_irrefl]
    exact hsame _ (.refl _) (by simpa using hc)
  have hc0 : chkI g = 0 := by simpa using hc
  have hwp := why_prog (room := room) h.good hc0
  obtain ⟨hrt, -⟩ := chk_has hc0
  have hr : 0 ≤ g.ar ∧ g.ar < 64 := (right_has hrt).2
  simp -implicitDefEqProofs only [go_sem, Nat.reduceBEq, Nat.reduceAdd, eq_self, true_and, and_true, and_self, List.getElem?_cons_zero, List.getElem?_cons_succ, Nat.reduceLeDiff, Nat.zero_add, Nat.reduceSub, Nat.le_refl, hc, Bool.not_true]
  refine cut_at (fun G τ => τ = σ ∧ G = ⟨[(3, .loc 3 0), (6, .v (.ptr (some (i, 0))))], [(3, cgC (.sl db dr dz (intsV .i64 g.deps)) g)]⟩) ?_ ?_
  · intro Z z1 z2 z3
    simp -implicitDefEqProofs only [go_sem, Nat.reduceBEq, Nat.reduceAdd, eq_self, true_and, and_true, and_self, List.getElem?_cons_zero, List.getElem?_cons_succ, Nat.reduceLeDiff, Nat.zero_add, Nat.reduceSub, Nat.le_refl, Nat.lt_irrefl]
    refine z1 _ _ _ (.inr ?_) ⟨rfl, rfl⟩
    simp -implicitDefEqProofs only [go_sem, Nat.reduceBEq, Nat.reduceAdd, eq_self, true_and, and_true, and_self, List.getElem?_cons_zero, List.getElem?_cons_succ, Nat.reduceLeDiff, Nat.zero_add, Nat.reduceSub, Nat.le_refl, cgC]
    try exact ⟨rfl, rfl⟩
    try exact rfl
  rintro G τ ⟨hτ, rfl⟩
  have hτ := hτ.symm
  subst hτ
  have hkn := known_ok h (by omega) hd h.deps hr
  simp only [cgV, cgC] at hkn
  simp -implicitDefEqProofs only [go_sem, Nat.reduceBEq, Nat.reduceAdd, eq_self, true_and, and_true, and_self, List.getElem?_cons_zero, List.getElem?_cons_succ, Nat.reduceLeDiff, Nat.zero_add, Nat.reduceSub, Nat.le_refl, cgC]
  refine call_at hkn ?_
  rintro w τ ⟨rfl, hτ⟩
  have hτ := hτ.symm
  subst hτ
  refine ⟨kept_none, ?_⟩
  cases hk : decide (knI (cgL P) g = 0) <;> rw [hk] at hwp
  · simp only [Bool.not_false, cond_true] at hwp
    rw [hwp] at q2 hsame
    simp -implicitDefEqProofs only [go_sem, Nat.reduceBEq, Nat.reduceAdd, eq_self, true_and, and_true, and_self, List.getElem?_cons_zero, List.getElem?_cons_succ, Nat.reduceLeDiff, Nat.zero_add, Nat.reduceSub, Nat.le_refl, hk, Bool.not_false]
    refine q2 _ _ ?_
    simp -implicitDefEqProofs only [go_sem, Nat.reduceBEq, Nat.reduceAdd, eq_self, true_and, and_true, and_self, List.getElem?_cons_zero, List.getElem?_cons_succ, Nat.reduceLeDiff, Nat.zero_add, Nat.reduceSub, Nat.le_refl, Nat.lt_irrefl]
    exact hsame _ (.refl _) (by simpa using hk)
  simp only [Bool.not_true, cond_false] at hwp
  have hrd := ready_ok h (by omega) hd hc0
  simp only [cgV, cgC] at hrd
  simp -implicitDefEqProofs only [go_sem, Nat.reduceBEq, Nat.reduceAdd, eq_self, true_and, and_true, and_self, List.getElem?_cons_zero, List.getElem?_cons_succ, Nat.reduceLeDiff, Nat.zero_add, Nat.reduceSub, Nat.le_refl, hk, Bool.not_true]
  refine call_at hrd ?_
  rintro w τ ⟨rfl, e1⟩
  refine ⟨kept_none, ?_⟩
  cases hy : decide (rdI (cgL P) g = 0) <;> rw [hy] at hwp
  · simp only [Bool.not_false, cond_true] at hwp
    rw [hwp] at q2 hsame
    simp -implicitDefEqProofs only [go_sem, Nat.reduceBEq, Nat.reduceAdd, eq_self, true_and, and_true, and_self, List.getElem?_cons_zero, List.getElem?_cons_succ, Nat.reduceLeDiff, Nat.zero_add, Nat.reduceSub, Nat.le_refl, hy, Bool.not_false]
    refine q2 _ _ ?_
    simp -implicitDefEqProofs only [go_sem, Nat.reduceBEq, Nat.reduceAdd, eq_self, true_and, and_true, and_self, List.getElem?_cons_zero, List.getElem?_cons_succ, Nat.reduceLeDiff, Nat.zero_add, Nat.reduceSub, Nat.le_refl, Nat.lt_irrefl]
    exact hsame _ e1 (by simpa using hy)
  simp only [Bool.not_true, cond_false] at hwp
  simp -implicitDefEqProofs only [go_sem, Nat.reduceBEq, Nat.reduceAdd, eq_self, true_and, and_true, and_self, List.getElem?_cons_zero, List.getElem?_cons_succ, Nat.reduceLeDiff, Nat.zero_add, Nat.reduceSub, Nat.le_refl, hy, Bool.not_true]
  have h1 := (h.ext e1).cells
  have hn : ∀ n : Nat, n = P.length → (decide ((n : Int) ≥ room) = decide (((cgL P).length : Int) ≥ room)) := fun n e => by rw [e, List.length_map]
  have hnf : (cgL P).find? (isA (atS g)) = none := by
    cases hf : (cgL P).find? (isA (atS g)) with
    | none => rfl
    | some k =>
      have := of_decide_eq_true hk
      unfold knI at this
      rw [hf] at this
      simp only at this
      cases hx : sameC k g <;> rw [hx] at this <;> simp at this
  cases hg : decide (((cgL P).length : Int) ≥ room) <;> rw [hg] at hwp hn
  case true =>
    simp only [cond_true] at hwp
    rw [hwp] at q2 hsame
    obtain ⟨n, cap, ⟨-, R, q, rfl, hP⟩ | rfl⟩ := h.len
    all_goals
      first | (have hn0 := hn 0 (by rw [hP]; rfl)) | (have hn0 := hn _ rfl)
      simp -implicitDefEqProofs only [go_sem, Nat.reduceBEq, Nat.reduceAdd, eq_self, true_and, and_true, and_self, List.getElem?_cons_zero, List.getElem?_cons_succ, Nat.reduceLeDiff, Nat.zero_add, Nat.reduceSub, Nat.le_refl, h1, hn0]
      refine q2 _ _ ?_
      simp -implicitDefEqProofs only [go_sem, Nat.reduceBEq, Nat.reduceAdd, eq_self, true_and, and_true, and_self, List.getElem?_cons_zero, List.getElem?_cons_succ, Nat.reduceLeDiff, Nat.zero_add, Nat.reduceSub, Nat.le_refl, Nat.lt_irrefl]
      exact hsame _ e1 (by decide)
  simp only [cond_false] at hwp
  have hL := h.ext e1
  have hM := hL.mid
  have hto := LTo.of (i := i) (mo := some m) (s := s) (ov := ov) e1
  have hfit := why_fits (by rw [hwp] : whyR (cgL P) room g = 0)
  rw [hwp] at q2
  have hd1 := hd.ext e1
  have hadd : addR (cgL P) room g = putC g (cgL P) := by unfold addR; rw [hwp]; rfl
  have hgood := hfit.good h.good
  have hdl : g.deps.length ≤ 64 := (clock_has (chk_has hc0).2.2.1).1
  have hpl0 := place_at (x := atS g) hL (by omega)
  simp only [spV, spC, atS] at hpl0
  have hcp := pcopy_ok (σ := τ) hd1 (by omega)
  simp only [cgV, cgC] at hcp
  obtain ⟨n, cap, ⟨-, R, q, rfl, hP⟩ | rfl⟩ := h.len
  all_goals
    first | (have hn0 := hn 0 (by rw [hP]; rfl)) | (have hn0 := hn _ rfl)
    simp -implicitDefEqProofs only [go_sem, Nat.reduceBEq, Nat.reduceAdd, eq_self, true_and, and_true, and_self, List.getElem?_cons_zero, List.getElem?_cons_succ, Nat.reduceLeDiff, Nat.zero_add, Nat.reduceSub, Nat.le_refl, h1, hn0]
    refine call_at hpl0 ?_
    rintro w τ1 ⟨⟨k, rfl, hpa⟩, hτ⟩
    have hτ := hτ.symm
    subst hτ
    refine ⟨kept_none, ?_⟩
    simp -implicitDefEqProofs only [go_sem, Nat.reduceBEq, Nat.reduceAdd, eq_self, true_and, and_true, and_self, List.getElem?_cons_zero, List.getElem?_cons_succ, Nat.reduceLeDiff, Nat.zero_add, Nat.reduceSub, Nat.le_refl, h1, cgC]
    refine call_at hcp ?_
    rintro w τ2 ⟨e2, ho2, y, rfl, rq, rfl, hlq, hgq⟩
    refine ⟨e2.kept, ?_⟩
    have hM2 := hM.ext e2
    have hto2 := hto.trans (LTo.of (i := i) (mo := some m) e2)
    have hkP : k ≤ P.length := by have := hpa.1; rwa [List.length_map] at this
    have hlit : (⟨τ2.objs, τ2.live ++ [true]⟩ : St).live[τ2.live.length]? = some true := by simp
    simp -implicitDefEqProofs only [go_sem, Nat.reduceBEq, Nat.reduceAdd, eq_self, true_and, and_true, and_self, List.getElem?_cons_zero, List.getElem?_cons_succ, Nat.reduceLeDiff, Nat.zero_add, Nat.reduceSub, Nat.le_refl, Nat.lt_irrefl]
    refine call_at (ins_ok (x := cgC (.sl false (.own rq) 1 (intsV .i64 g.deps)) g) (show RowOf ⟨τ2.objs, τ2.live ++ [true]⟩ _ 13 (cgsV P) from hM2.row) (i := k) (by rw [cgsV_len]; exact hkP) (by rw [cgsV_len]; omega) hlit rfl) ?_
    rintro w τ3 ⟨hr3, hto3, jj, cp, rfl, hjj⟩
    have hO1 : (cgsV P).take k ++ cgC (.sl false (.own rq) 1 (intsV .i64 g.deps)) g :: (cgsV P).drop k = cgsV (P.take k ++ (.sl false (.own rq) 1 (intsV .i64 g.deps), g) :: P.drop k) := by simp [cgsV, List.map_take, List.map_drop]
    rw [hO1] at hr3
    have hL1 : cgL (P.take k ++ (.sl false (.own rq) 1 (intsV .i64 g.deps), g) :: P.drop k) = putC g (cgL P) := by
      rw [hpa.put hnf]; simp [List.map_take, List.map_drop]
    have hmem : ∀ p ∈ P.take k ++ (V.sl false (.own rq) 1 (intsV .i64 g.deps), g) :: P.drop k, p ∈ P ∨ p = (V.sl false (.own rq) 1 (intsV .i64 g.deps), g) := fun p hp => by
      rcases List.mem_append.1 hp with hp | hp
      · exact .inl (List.mem_of_mem_take hp)
      · rcases List.mem_cons.1 hp with hp | hp
        · exact .inr hp
        · exact .inl (List.mem_of_mem_drop hp)
    generalize P.take k ++ (V.sl false (.own rq) 1 (intsV .i64 g.deps), g) :: P.drop k = P1 at hr3 hL1 hmem
    have hu3 : UpdS (fun j => ∃ n cap z, _ = V.osl j n cap z) τ2 τ3 := ⟨fun j o hj ho => hto3.2.2 j o (fun n cap z e => hj ⟨n, cap, z, e⟩) ho, fun r hr => by rw [hto3.1]; exact (ext_live τ2 true).live r hr, hto3.2.1, by rw [hto3.1]; simp⟩
    have hl3 := hu3.live _ hlq
    obtain ⟨hci, hM3, hto4⟩ := hM2.ins hto3 hr3 hjj fun p hp => by
      rcases hmem p hp with hp | rfl
      · exact rdS_up (hM2.rds p hp) hu3
      · exact ⟨_, _, _, rfl, by simp, .inr ⟨hl3, rfl⟩⟩
    have hi3 := rowOf_ne hM2.row hM2.cells
    refine ⟨fun L hL => by cases hL; exact ⟨fun q hq o ho => by rw [List.mem_singleton] at hq; subst hq; exact hto3.2.2 _ o (fun n cap z e => hi3 n cap z e) ho, fun r hr => by rw [hto3.1]; exact hr⟩, ?_⟩
    have hto5 := hto2.trans hto4
    have hl4 : (τ3.setC i (.int .i64 room :: .osl jj ((cgsV P).length + 1) cp 13 :: .map (some m) :: ov)).live[rq]? = some true := hl3
    clear hi3 hto3 hu3 hto4 hto2 hM2 hr3 hjj
    simp -implicitDefEqProofs only [go_sem, Nat.reduceBEq, Nat.reduceAdd, eq_self, true_and, and_true, and_self, List.getElem?_cons_zero, List.getElem?_cons_succ, Nat.reduceLeDiff, Nat.zero_add, Nat.reduceSub, Nat.le_refl, hci, flats, V.flat]
    generalize τ3.setC i (.int .i64 room :: .osl jj ((cgsV P).length + 1) cp 13 :: .map (some m) :: ov) = τ4 at hM3 hto5 hl4 ⊢
    generalize V.osl jj ((cgsV P).length + 1) cp 13 = s1 at hM3 hto5 ⊢
    have hc4 := hM3.cells
    have hka : keyFits KL (.agg [.int .i64 g.ac, .int .i64 g.ar]) = true := rfl
    obtain ⟨es, ver, hm4, hf4⟩ := hM3.map
    have hnew := find_A_none.1 hnf
    obtain ⟨hM5, hto6⟩ := hM3.put (x := atS g) (v := .agg [.int .i64 g.seq]) (Lm' := putC g (cgL P)) hm4 (fun z => by
      rw [putC_find h.good.srt hnew z, hf4 z]
      by_cases hz : z = atS g <;> simp [hz]) (ver' := ver + 1)
    simp only [atS] at hM5 hto6
    have hto7 := hto5.trans hto6
    simp -implicitDefEqProofs only [go_sem, Nat.reduceBEq, Nat.reduceAdd, eq_self, true_and, and_true, and_self, List.getElem?_cons_zero, List.getElem?_cons_succ, Nat.reduceLeDiff, Nat.zero_add, Nat.reduceSub, Nat.le_refl, hc4, hka, hm4, cgC]
    refine ⟨hr, ?_⟩
    have hl5 : (τ4.setM m KL (upd (.agg [.int .i64 g.ac, .int .i64 g.ar]) (.agg [.int .i64 g.seq]) es) (ver + 1)).live[rq]? = some true := hl4
    unfold KL at hM5 hto7 hl5
    generalize τ4.setM m _ _ _ = τ5 at hM5 hto7 hl5 ⊢
    clear hto6 hM3 hto5 hl4 hc4 hm4 hf4
    have hc5 := hM5.cells
    have hlo : g.ar.toNat < ov.length := by rw [h.ovl]; omega
    have hod := ov_drop hlo
    have hown : RowOf ⟨τ5.objs, τ5.live ++ [true]⟩ ov[g.ar.toNat] 2 (spsV ((ownL (cgL P) ((g.ar.toNat : Nat) : Int)).map atS)) := hM5.own g.ar.toNat hlo
    have hrr : ((g.ar.toNat : Nat) : Int) = g.ar := by omega
    have hcn := cnt_le (cgL P) g.ar
    rw [map2_len] at hcn
    simp -implicitDefEqProofs only [go_sem, Nat.reduceBEq, Nat.reduceAdd, eq_self, true_and, and_true, and_self, List.getElem?_cons_zero, List.getElem?_cons_succ, Nat.reduceLeDiff, Nat.zero_add, Nat.reduceSub, Nat.le_refl, hc5, hod]
    have hlit5 : (⟨τ5.objs, τ5.live ++ [true]⟩ : St).live[τ5.live.length]? = some true := by simp
    refine ao_at (ao_push (e := spC (atS g)) hown (by rw [spsV_len, List.length_map, ownL_len, hrr]; omega) rfl hlit5) ?_
    rintro v τ6 ⟨hr6, hlv6, hol6, ho6, hj6⟩
    obtain ⟨hi6, hM7, hto8⟩ := hM5.push (x := atS g) (τ' := τ6) (v := v) hlo (by rw [spsV_snoc _ (atS g)]; exact hr6) hlv6 hol6 ho6 (id hj6) (ow' := fun r => (ownL (putC g (cgL P)) r).map atS) (by
      show (ownL (putC g (cgL P)) _).map atS = (ownL (cgL P) _).map atS ++ [atS g]
      rw [hrr, hfit.own h.good]; simp) (fun kk hkk => by
      show (ownL (putC g (cgL P)) _).map atS = (ownL (cgL P) _).map atS
      rw [putC_own (by omega)])
    have hi5 := rowOf_ne hown hc5
    have hl6 : τ6.live[rq]? = some true := by rw [hlv6]; exact (ext_live τ5 true).live _ hl5
    refine ⟨fun L hL => by cases hL; exact ⟨fun q hq o ho => by rw [List.mem_singleton] at hq; subst hq; exact ho6 _ o (fun n cap z e => hi5 n cap z e) ho, fun r hr => by rw [hlv6]; exact hr⟩, ?_⟩
    obtain ⟨j6, n6, c6, rfl, -, -⟩ := hj6
    have hov := ov_over hlo
    have hto9 := hto7.trans hto8
    have hfin : LogIs (τ6.setC i (.int .i64 room :: s1 :: .map (some m) :: ov.set g.ar.toNat (.osl j6 n6 c6 2))) i (some m) s1 (ov.set g.ar.toNat (.osl j6 n6 c6 2)) room P1 := by
      refine LMid.log ?_ (by rw [hL1]; exact hgood)
      rw [hL1]
      exact hM7
    have hnew2 : ∀ p ∈ P1, p ∈ P ∨ NewS σ (τ6.setC i (.int .i64 room :: s1 :: .map (some m) :: ov.set g.ar.toNat (.osl j6 n6 c6 2))) p.1 1 (intsV .i64 p.2.deps) := fun p hp => by
      rcases hmem p hp with hp | rfl
      · exact .inl hp
      · exact .inr ⟨rq, rfl, hl6, Nat.le_trans e1.llen hgq⟩
    clear hM7 hto8 hr6 hi5 hM5
    simp -implicitDefEqProofs only [go_sem, Nat.reduceBEq, Nat.reduceAdd, eq_self, true_and, and_true, and_self, List.getElem?_cons_zero, List.getElem?_cons_succ, Nat.reduceLeDiff, Nat.zero_add, Nat.reduceSub, Nat.le_refl, hi6, hov, flats, V.flat]
    refine ⟨hr, by omega, ?_⟩
    refine q2 _ _ ?_
    simp -implicitDefEqProofs only [go_sem, Nat.reduceBEq, Nat.reduceAdd, eq_self, true_and, and_true, and_self, List.getElem?_cons_zero, List.getElem?_cons_succ, Nat.reduceLeDiff, Nat.zero_add, Nat.reduceSub, Nat.le_refl, Nat.lt_irrefl]
    exact ⟨_, _, _, hfin, hL1.trans hadd.symm, hto9, hnew2⟩
end
end Go.VL.opl

namespace Go.VL.opl
open Go Go.VL Go.Proofs Go.IntWalk Go.VL.st Go.VL.row

theorem Trims.uniq {l a b : List Int} {y z : Nat} (h : Trims l a y) (k : Trims l b z) : a = b := by
  have key : ∀ {a b : List Int} {y z : Nat}, a ++ List.replicate y 0 = b ++ List.replicate z 0 → (a = [] ∨ ∃ c x, a = c ++ [x] ∧ x ≠ 0) → a.length ≤ b.length := by
    intro a b y z e ha
    rcases ha with rfl | ⟨c, x, rfl, hx⟩
    · exact Nat.zero_le _
    · refine Nat.le_of_not_lt fun hl => hx ?_
      have h1 := congrArg (fun l => l[c.length]?) e
      rw [List.append_assoc, List.getElem?_append_right (Nat.le_refl _), List.singleton_append] at h1
      rw [Nat.sub_self, List.getElem?_cons_zero, List.getElem?_append_right (by simp at hl; omega)] at h1
      obtain ⟨_, h2⟩ := List.getElem?_eq_some_iff.1 h1.symm
      simpa using h2.symm
  have h1 := key (h.1.symm.trans k.1) h.2
  have h2 := key (k.1.symm.trans h.1) k.2
  exact (List.append_inj (h.1.symm.trans k.1) (by omega)).1
theorem trims_end (l : List Int) : ∀ (n : Nat), n ≤ l.length → (∀ (k : Nat) (h : k < l.length), n ≤ k → l[k] = 0) → (n = 0 ∨ ∃ h : n - 1 < l.length, l[n - 1] ≠ 0) → Trims l (l.take n) (l.length - n) := by
  intro n hn hz hx
  have e : l.drop n = List.replicate (l.length - n) 0 := by
    refine List.ext_getElem (by simp) fun i h1 h2 => ?_
    rw [List.getElem_drop, List.getElem_replicate]
    exact hz _ _ (by omega)
  refine ⟨by rw [← e, List.take_append_drop], ?_⟩
  rcases hx with rfl | ⟨h, h2⟩
  · exact .inl (by simp)
  · by_cases h0 : n = 0
    · exact .inl (by rw [h0]; simp)
    · refine .inr ⟨l.take (n - 1), l[n - 1], ?_, h2⟩
      rw [← List.take_succ_eq_append_getElem h]
      congr 1; omega
theorem lastR_max (L : List Cg) (g : Cg) (h : ∀ x ∈ L, x.ac ≤ g.ac) (h0 : 0 ≤ g.ac) : lastR (L ++ [g]) = g.ac := by
  have hb : ∀ (L : List Cg), (∀ x ∈ L, x.ac ≤ g.ac) → lastR L ≤ g.ac := by
    intro L
    unfold lastR
    suffices ∀ (L : List Cg) (n : Int), n ≤ g.ac → (∀ x ∈ L, x.ac ≤ g.ac) → L.foldl (fun n g => max n g.ac) n ≤ g.ac from fun h => this L 0 h0 h
    intro L
    induction L with
    | nil => intro n hn _; exact hn
    | cons a t ih => intro n hn ht; exact ih _ (by have := ht a (by simp); show max n a.ac ≤ g.ac; omega) fun x hx => ht x (by simp [hx])
  have := hb L h
  rw [lastR_snoc]
  omega
theorem Good.last {L : List Cg} (h : Good L) {n : Nat} (hn : n + 1 = L.length) : lastR L = (L[n]'(by omega)).ac := by
  have e : L = L.take n ++ [L[n]'(by omega)] := by
    rw [← List.take_succ_eq_append_getElem (by omega), List.take_of_length_le (by omega)]
  have hs := h.srt
  conv => lhs; rw [e]
  refine lastR_max _ _ (fun x hx => ?_) ?_
  · obtain ⟨k, hk, rfl⟩ := List.getElem_of_mem hx
    rw [List.getElem_take]
    have hk' : k < n := by simp at hk; omega
    have := List.pairwise_iff_getElem.1 hs k n (by omega) (by omega) hk'
    simp only [st.less, Bool.or_eq_true, Bool.and_eq_true, decide_eq_true_eq, atS] at this
    rcases this with h | ⟨h, -⟩ <;> have := of_decide_eq_true h <;> omega
  · have := (chk_has (h.chk _ (List.getElem_mem (by omega : n < L.length)))).2.1
    omega
section
variable {σ : St} {i m : Nat} {mo : Option Nat} {s d v : V} {ov : List V} {room r n : Int} {P : List (V × Cg)} {g : Cg} {x : Sp} {l : List Int}
set_option maxRecDepth 100000 in
set_option maxHeartbeats 4000000 in
theorem last_ok (h : LogIs σ i mo s ov room P) (hl : P.length ≤ 1000000) : CallA Try.prog 54 [.ptr (some (i, 0))] σ fun w σ' => w = .int .i64 (lastR (cgL P)) ∧ σ' = σ := by
  have h1 := h.cells
  refine fn_at Try.func54 (by decide) comp54 rfl fun Q q1 q2 => ?_
  simp -implicitDefEqProofs only [go_sem, Nat.reduceBEq, Nat.reduceAdd, eq_self, true_and, and_true, and_self, List.getElem?_cons_zero, List.getElem?_cons_succ, Nat.reduceLeDiff, Nat.zero_add, Nat.reduceSub, Nat.le_refl, c54]
  refine call_at (len_ok h) ?_
  rintro w τ ⟨rfl, hτ⟩
  have hτ := hτ.symm
  subst hτ
  refine ⟨kept_none, ?_⟩
  by_cases h0 : P.length = 0
  · have hP : P = [] := List.length_eq_zero_iff.1 h0
    have hd0 : decide ((P.length : Int) = 0) = true := by rw [h0]; rfl
    rw [show lastR (cgL P) = 0 from by rw [hP]; rfl] at q2
    simp -implicitDefEqProofs only [go_sem, Nat.reduceBEq, Nat.reduceAdd, eq_self, true_and, and_true, and_self, List.getElem?_cons_zero, List.getElem?_cons_succ, Nat.reduceLeDiff, Nat.zero_add, Nat.reduceSub, Nat.le_refl, hd0]
    refine q2 _ _ ?_
    simp -implicitDefEqProofs only [go_sem, Nat.reduceBEq, Nat.reduceAdd, eq_self, true_and, and_true, and_self, List.getElem?_cons_zero, List.getElem?_cons_succ, Nat.reduceLeDiff, Nat.zero_add, Nat.reduceSub, Nat.le_refl, Nat.lt_irrefl]
  have hd0 : decide ((P.length : Int) = 0) = false := by rw [decide_eq_false_iff_not]; omega
  obtain ⟨k, hk⟩ : ∃ k, k + 1 = P.length := ⟨P.length - 1, by omega⟩
  have hkl : k < P.length := by omega
  have hla := h.good.last (n := k) (by rw [map2_len]; exact hk)
  rw [List.getElem_map] at hla
  rw [hla] at q2
  have hw : IntKind.i64.wrap ((P.length : Int) - 1) = (k : Int) := by rw [i64_in _ (by omega)]; omega
  have hget := cg_drop0 hkl
  have hcl := cgsV_len P
  rcases id h.row with ⟨R, q, rfl, he⟩ | ⟨j', cap, rfl, ho, -, hc⟩
  · have : (cgsV P).length = 0 := by rw [he]; rfl
    omega
  generalize hp : P[k] = p at hget hla q2
  simp -implicitDefEqProofs only [go_sem, Nat.reduceBEq, Nat.reduceAdd, eq_self, true_and, and_true, and_self, List.getElem?_cons_zero, List.getElem?_cons_succ, Nat.reduceLeDiff, Nat.zero_add, Nat.reduceSub, Nat.le_refl, hd0, h1, ho, hcl, hw, hget, cgC, Int.toNat_natCast, Nat.add_zero]
  refine ⟨⟨by omega, by omega⟩, ?_⟩
  refine q2 _ _ ?_
  simp -implicitDefEqProofs only [go_sem, Nat.reduceBEq, Nat.reduceAdd, eq_self, true_and, and_true, and_self, List.getElem?_cons_zero, List.getElem?_cons_succ, Nat.reduceLeDiff, Nat.zero_add, Nat.reduceSub, Nat.le_refl, Nat.lt_irrefl]
end
end Go.VL.opl

namespace Go.VL.opl
open Go Go.VL Go.Proofs Go.IntWalk Go.VL.st Go.VL.row

def v0 : V := .sl true .pub 0 []
section
variable {σ : St} {i m : Nat} {mo : Option Nat} {s d v : V} {ov : List V} {room r n : Int} {P : List (V × Cg)} {g : Cg} {x : Sp} {l : List Int}
set_option maxRecDepth 100000 in
set_option maxHeartbeats 4000000 in
theorem ptrim_ok (hv : RdS σ v 1 (intsV .i64 l)) (hlen : l.length ≤ 1000000) :
    CallA Try.prog 63 [v] σ fun w σ' => (∃ out z, Trims l out z ∧ NewS σ σ' w 1 (intsV .i64 out)) ∧ Ext σ σ' ∧ σ'.objs = σ.objs := by
  obtain ⟨b, R, z, rfl, -, -⟩ := id hv
  refine fn_at Try.func63 (by decide) comp63 rfl fun Q q1 q2 => ?_
  have hl := intsV_len l
  simp -implicitDefEqProofs only [go_sem, Nat.reduceBEq, Nat.reduceAdd, eq_self, true_and, and_true, and_self, List.getElem?_cons_zero, List.getElem?_cons_succ, Nat.reduceLeDiff, Nat.zero_add, Nat.reduceSub, Nat.le_refl, c63]
  refine loop_at (fun (y : Nat) => ⟨[(0, .v (.sl b R z (intsV .i64 l))), (3, .v (.int .i64 y))], []⟩)
    (fun y t => y ≤ l.length ∧ t = σ ∧ ∀ (k : Nat) (h : k < l.length), y ≤ k → l[k] = 0) (fun y => y) l.length ?_ ?_ ?_
  · refine .inr ?_
    simp -implicitDefEqProofs only [go_sem, Nat.reduceBEq, Nat.reduceAdd, eq_self, true_and, and_true, and_self, List.getElem?_cons_zero, List.getElem?_cons_succ, Nat.reduceLeDiff, Nat.zero_add, Nat.reduceSub, Nat.le_refl, hl]
    try exact ⟨rfl, rfl⟩
    try rfl
  · exact ⟨Nat.le_refl _, rfl, fun k h h2 => by omega⟩
  rintro y τ ⟨g1, hτ, g3⟩ Z z1 z2 z3
  have hτ := hτ.symm
  subst hτ
  have htk : List.take (y : Int).toNat (intsV .i64 l) = intsV .i64 (l.take y) := by rw [Int.toNat_natCast]; unfold intsV; rw [List.map_take]
  have hsz : b = true ∨ z = 1 := by
    obtain ⟨_, _, _, e, h1, h2⟩ := id hv
    cases e
    exact h2.imp_right fun h => h.2
  have hz1 := (rd_src hv).2
  have hsb : b = true ∨ rd (σ.live ++ [true]) R.toView := by
    obtain ⟨_, _, _, e, h1, h2⟩ := hv.ext (ext_live σ true)
    cases e
    refine h2.imp_right fun h => ?_
    have := h.1
    cases R <;> exact this
  cases h0 : decide ((y : Int) > 0)
  · have hy0 : y = 0 := by have := of_decide_eq_false h0; omega
    have htr := trims_end l y g1 g3 (.inl hy0)
    simp -implicitDefEqProofs only [go_sem, Nat.reduceBEq, Nat.reduceAdd, eq_self, true_and, and_true, and_self, List.getElem?_cons_zero, List.getElem?_cons_succ, Nat.reduceLeDiff, Nat.zero_add, Nat.reduceSub, Nat.le_refl, h0]
    refine z2 _ _ _ ?_
    simp -implicitDefEqProofs only [go_sem, Nat.reduceBEq, Nat.reduceAdd, eq_self, true_and, and_true, and_self, List.getElem?_cons_zero, List.getElem?_cons_succ, Nat.reduceLeDiff, Nat.zero_add, Nat.reduceSub, Nat.le_refl, hl]
    refine ⟨⟨hsz, by omega, by omega, by omega⟩, ⟨.inr trivial, .inr (live_last _ _), ⟨hsb, hz1.imp_right fun h => by rw [h]; simp⟩, by rw [htk, intsV_len, List.length_take]; omega⟩, ?_⟩
    refine q2 _ _ ?_
    simp -implicitDefEqProofs only [go_sem, Nat.reduceBEq, Nat.reduceAdd, eq_self, true_and, and_true, and_self, List.getElem?_cons_zero, List.getElem?_cons_succ, Nat.reduceLeDiff, Nat.zero_add, Nat.reduceSub, Nat.le_refl, Nat.lt_irrefl]
    exact ⟨⟨_, _, htr, _, by rw [htk], live_last' _ _ _, by simp⟩, ext_kill (ext_push (Ext.refl σ)) (Nat.le_refl _)⟩
  · have hp := of_decide_eq_true h0
    have hy : y - 1 < l.length := by have := of_decide_eq_true h0; omega
    have hw : IntKind.i64.wrap ((y : Int) - 1) = ((y - 1 : Nat) : Int) := by have := of_decide_eq_true h0; rw [i64_in _ (by omega)]; omega
    have hget := intsV_get hy
    obtain ⟨k1, k2⟩ := rdl hv (intsV_ne hy)
    simp -implicitDefEqProofs only [go_sem, Nat.reduceBEq, Nat.reduceAdd, eq_self, true_and, and_true, and_self, List.getElem?_cons_zero, List.getElem?_cons_succ, Nat.reduceLeDiff, Nat.zero_add, Nat.reduceSub, Nat.le_refl, h0, hw, hget]
    refine ⟨⟨by omega, by rw [hl]; omega, k2⟩, k1, ?_⟩
    cases hx : decide (l[y - 1] = 0)
    · have htr := trims_end l y g1 g3 (.inr ⟨hy, of_decide_eq_false hx⟩)
      simp -implicitDefEqProofs only [go_sem, Nat.reduceBEq, Nat.reduceAdd, eq_self, true_and, and_true, and_self, List.getElem?_cons_zero, List.getElem?_cons_succ, Nat.reduceLeDiff, Nat.zero_add, Nat.reduceSub, Nat.le_refl, Nat.lt_irrefl]
      refine z2 _ _ _ ?_
      simp -implicitDefEqProofs only [go_sem, Nat.reduceBEq, Nat.reduceAdd, eq_self, true_and, and_true, and_self, List.getElem?_cons_zero, List.getElem?_cons_succ, Nat.reduceLeDiff, Nat.zero_add, Nat.reduceSub, Nat.le_refl, hl]
      refine ⟨⟨hsz, by omega, by omega, by omega⟩, ⟨.inr trivial, .inr (live_last _ _), ⟨hsb, hz1.imp_right fun h => by rw [h]; simp⟩, by rw [htk, intsV_len, List.length_take]; omega⟩, ?_⟩
      refine q2 _ _ ?_
      simp -implicitDefEqProofs only [go_sem, Nat.reduceBEq, Nat.reduceAdd, eq_self, true_and, and_true, and_self, List.getElem?_cons_zero, List.getElem?_cons_succ, Nat.reduceLeDiff, Nat.zero_add, Nat.reduceSub, Nat.le_refl, Nat.lt_irrefl]
      exact ⟨⟨_, _, htr, _, by rw [htk], live_last' _ _ _, by simp⟩, ext_kill (ext_push (Ext.refl σ)) (Nat.le_refl _)⟩
    · simp -implicitDefEqProofs only [go_sem, Nat.reduceBEq, Nat.reduceAdd, eq_self, true_and, and_true, and_self, List.getElem?_cons_zero, List.getElem?_cons_succ, Nat.reduceLeDiff, Nat.zero_add, Nat.reduceSub, Nat.le_refl, hw]
      refine z1 (y - 1) _ _ (.inr ?_) (by omega) ⟨by omega, rfl, fun k h h2 => ?_⟩
      · simp -implicitDefEqProofs only [go_sem, Nat.reduceBEq, Nat.reduceAdd, eq_self, true_and, and_true, and_self, List.getElem?_cons_zero, List.getElem?_cons_succ, Nat.reduceLeDiff, Nat.zero_add, Nat.reduceSub, Nat.le_refl, Nat.lt_irrefl]
        try exact ⟨rfl, rfl⟩
        try rfl
      · by_cases e : k = y - 1
        · subst e; exact of_decide_eq_true hx
        · exact g3 k h (by omega)
theorem intsV_append (a b : List Int) : intsV .i64 (a ++ b) = intsV .i64 a ++ intsV .i64 b := by simp [intsV]
theorem range_snoc (L : List Cg) (y : Nat) : (List.range (y + 1)).map (fun (r : Nat) => ((cnt L (r : Int) : Nat) : Int)) = (List.range y).map (fun (r : Nat) => ((cnt L (r : Int) : Nat) : Int)) ++ [((cnt L (y : Int) : Nat) : Int)] := by
  rw [List.range_succ, List.map_append]; rfl
set_option maxRecDepth 100000 in
set_option maxHeartbeats 4000000 in
theorem pclock_new (h : LogIs σ i mo s ov room P) : CallA Try.prog 39 [.ptr (some (i, 0))] σ fun w σ' => (∃ out z, Trims (cnts (cgL P)) out z ∧ NewS σ σ' w 1 (intsV .i64 out)) ∧ Ext σ σ' := by
  refine fn_at Try.func39 (by decide) comp39 rfl fun Q q1 q2 => ?_
  simp -implicitDefEqProofs only [go_sem, Nat.reduceBEq, Nat.reduceAdd, eq_self, true_and, and_true, and_self, List.getElem?_cons_zero, List.getElem?_cons_succ, Nat.reduceLeDiff, Nat.zero_add, Nat.reduceSub, Nat.le_refl, c39]
  refine loop_at (fun (y : Nat × V) => ⟨[(0, .v (.ptr (some (i, 0)))), (3, .v y.2), (7, .v (.int .i64 y.1))], []⟩)
    (fun y t => y.1 ≤ 64 ∧ Ext σ t ∧ Acc σ.live.length t y.2 1 (intsV .i64 ((List.range y.1).map fun (r : Nat) => ((cnt (cgL P) (r : Int) : Nat) : Int)))) (fun y => 64 - y.1) (0, .sl true .pub 1 []) ?_ ?_ ?_
  · refine .inr ?_
    simp -implicitDefEqProofs only [go_sem, Nat.reduceBEq, Nat.reduceAdd, eq_self, true_and, and_true, and_self, List.getElem?_cons_zero, List.getElem?_cons_succ, Nat.reduceLeDiff, Nat.zero_add, Nat.reduceSub, Nat.le_refl, Nat.lt_irrefl]
    try exact ⟨rfl, rfl⟩
    try rfl
  · exact ⟨Nat.zero_le _, .refl _, .inl ⟨rfl, rfl⟩⟩
  rintro ⟨y, a⟩ τ ⟨g1, g2, g3⟩ Z z1 z2 z3
  simp only at g1 g3
  simp -implicitDefEqProofs only [go_sem, Nat.reduceBEq, Nat.reduceAdd, eq_self, true_and, and_true, and_self, List.getElem?_cons_zero, List.getElem?_cons_succ, Nat.reduceLeDiff, Nat.zero_add, Nat.reduceSub, Nat.le_refl, Nat.lt_irrefl]
  refine CondW_b (fun hcc => ?_) (fun hcc => ?_)
  · have hi : y < 64 := by have := of_decide_eq_true hcc; omega
    have hy64 : (0 : Int) ≤ (y : Int) ∧ (y : Int) < 64 := by omega
    have hwy : IntKind.i64.wrap ((y : Int) + 1) = ((y + 1 : Nat) : Int) := by rw [i64_in _ (by omega)]; omega
    have h1 := (h.ext g2).cells
    have hsn := range_snoc (cgL P) y
    obtain ⟨hlo, hwo⟩ := h.ownc hy64
    have hod := ov_drop hlo
    generalize ov[(y : Int).toNat] = o at hwo hod
    rw [Int.toNat_natCast] at hod
    have hll : (intsV .i64 ((List.range y).map fun (r : Nat) => ((cnt (cgL P) (r : Int) : Nat) : Int))).length = y := by rw [intsV_len]; simp
    generalize ((List.range y).map fun (r : Nat) => ((cnt (cgL P) (r : Int) : Nat) : Int)) = A at *
    generalize hB : ((List.range (y + 1)).map fun (r : Nat) => ((cnt (cgL P) (r : Int) : Nat) : Int)) = B at *
    rcases hwo with ⟨R, q, rfl, hc0⟩ | ⟨jo, cap, rfl, -⟩ <;> rcases g3 with ⟨e3, rfl⟩ | ⟨qa, rfl, g4, g5⟩
    all_goals
      first | rw [hc0] at hsn | skip
      simp -implicitDefEqProofs only [go_sem, Nat.reduceBEq, Nat.reduceAdd, eq_self, true_and, and_true, and_self, List.getElem?_cons_zero, List.getElem?_cons_succ, Nat.reduceLeDiff, Nat.zero_add, Nat.reduceSub, Nat.le_refl, h1, hod, Int.toNat_natCast]
    case' inl.inl | inr.inl =>
      refine ⟨hy64, ⟨.inl trivial, rfl, .inr (live_last _ _), .inl trivial⟩, ?_⟩
      have hy0 : y = 0 := by rw [← hll, e3]; rfl
      refine z1 (y + 1, .sl false (.own _) 1 (intsV .i64 B)) _ _ (.inr ?_) (by simp only; omega) ⟨by simp only; omega, ext_push (ext_push g2), by rw [hB]; exact .inr ⟨_, rfl, live_last _ _, by have := g2.llen; show _ ≤ (τ.live ++ [true]).length; simp only [List.length_append, List.length_singleton]; omega⟩⟩
      simp -implicitDefEqProofs only [go_sem, Nat.reduceBEq, Nat.reduceAdd, eq_self, true_and, and_true, and_self, List.getElem?_cons_zero, List.getElem?_cons_succ, Nat.reduceLeDiff, Nat.zero_add, Nat.reduceSub, Nat.le_refl, Nat.lt_irrefl]
      rw [hsn, intsV_append, e3, hwy]
      try exact ⟨rfl, rfl⟩
    case' inl.inr | inr.inr =>
      refine ⟨hy64, ⟨.inr trivial, .inr ((ext_live _ _).live _ g4), ⟨.inr (live_last _ _), .inl trivial⟩, by rw [hll]; omega⟩, ?_⟩
      refine z1 (y + 1, .sl false (.own _) 1 (intsV .i64 B)) _ _ (.inr ?_) (by simp only; omega) ⟨by simp only; omega, ext_kill (ext_push g2) g5, by rw [hB]; exact .inr ⟨_, rfl, live_last' _ _ _, by have := g2.llen; simp only [List.length_append, List.length_singleton]; omega⟩⟩
      simp -implicitDefEqProofs only [go_sem, Nat.reduceBEq, Nat.reduceAdd, eq_self, true_and, and_true, and_self, List.getElem?_cons_zero, List.getElem?_cons_succ, Nat.reduceLeDiff, Nat.zero_add, Nat.reduceSub, Nat.le_refl, Nat.lt_irrefl]
      rw [hsn, intsV_append, hwy]
      try exact ⟨rfl, rfl⟩
  have hy : y = 64 := by have := of_decide_eq_false (by simpa using hcc : decide ((y : Int) < 64) = false); omega
  subst hy
  simp -implicitDefEqProofs only [go_sem, Nat.reduceBEq, Nat.reduceAdd, eq_self, true_and, and_true, and_self, List.getElem?_cons_zero, List.getElem?_cons_succ, Nat.reduceLeDiff, Nat.zero_add, Nat.reduceSub, Nat.le_refl, Nat.lt_irrefl]
  refine z2 _ _ _ ?_
  simp -implicitDefEqProofs only [go_sem, Nat.reduceBEq, Nat.reduceAdd, eq_self, true_and, and_true, and_self, List.getElem?_cons_zero, List.getElem?_cons_succ, Nat.reduceLeDiff, Nat.zero_add, Nat.reduceSub, Nat.le_refl, Nat.lt_irrefl]
  refine call_at (ptrim_ok (g3.rd) (by simp)) ?_
  rintro w τ2 ⟨⟨out, z, htr, hn⟩, e2, -⟩
  refine ⟨kept_none, ?_⟩
  simp -implicitDefEqProofs only [go_sem, Nat.reduceBEq, Nat.reduceAdd, eq_self, true_and, and_true, and_self, List.getElem?_cons_zero, List.getElem?_cons_succ, Nat.reduceLeDiff, Nat.zero_add, Nat.reduceSub, Nat.le_refl, Nat.lt_irrefl]
  refine q2 _ _ ?_
  simp -implicitDefEqProofs only [go_sem, Nat.reduceBEq, Nat.reduceAdd, eq_self, true_and, and_true, and_self, List.getElem?_cons_zero, List.getElem?_cons_succ, Nat.reduceLeDiff, Nat.zero_add, Nat.reduceSub, Nat.le_refl, Nat.lt_irrefl]
  obtain ⟨rq, hn1, hn2, hn3⟩ := hn
  exact ⟨⟨out, z, htr, rq, hn1, hn2, Nat.le_trans g2.llen hn3⟩, g2.trans e2⟩
theorem pclock_ok (h : LogIs σ i mo s ov room P) : CallA Try.prog 39 [.ptr (some (i, 0))] σ fun w σ' => ClkR σ' w (cgL P) ∧ Ext σ σ' :=
  (pclock_new h).mono fun _ _ ⟨⟨out, z, h1, h2⟩, h3⟩ => ⟨⟨out, z, h1, h2.rd⟩, h3⟩
end
end Go.VL.opl

namespace Go.VL.opl
open Go Go.VL Go.Proofs Go.IntWalk Go.VL.st Go.VL.row

/-- Changes all of whose slices are of late rights. -/
def FrC (lo : Nat) (τ : St) (w : V) (O : List (V × Cg)) : Prop :=
  ((O = [] ∧ ∃ z, w = .sl true .pub z []) ∨ ∃ q, w = .sl false (.own q) 13 (cgsV O) ∧ τ.live[q]? = some true ∧ lo ≤ q ∧ ∀ p ∈ O, ∀ n es, p.1 ≠ .sl false (.own q) n es) ∧ ∀ p ∈ O, ∃ q, p.1 = .sl false (.own q) 1 (intsV .i64 p.2.deps) ∧ τ.live[q]? = some true ∧ lo ≤ q
theorem FrC.keep {lo : Nat} {τ τ' : St} {w : V} {O : List (V × Cg)} (h : FrC lo τ w O) (k : ∀ r, lo ≤ r → τ.live[r]? = some true → τ'.live[r]? = some true) : FrC lo τ' w O := by
  refine ⟨h.1.imp_right ?_, fun p hp => ?_⟩
  · rintro ⟨q, e, h1, h2, h3⟩
    exact ⟨q, e, k _ h2 h1, h2, h3⟩
  · obtain ⟨q, e, h1, h2⟩ := h.2 p hp
    exact ⟨q, e, k _ h2 h1, h2⟩
theorem FrC.ext {lo : Nat} {τ τ' : St} {w : V} {O : List (V × Cg)} (h : FrC lo τ w O) (k : Ext τ τ') : FrC lo τ' w O := h.keep fun r _ => k.live r
theorem FrC.nil (lo : Nat) (τ : St) (z : Nat) : FrC lo τ (.sl true .pub z []) [] := ⟨.inl ⟨rfl, z, rfl⟩, fun p hp => by cases hp⟩
theorem FrC.rdS {lo : Nat} {τ : St} {w : V} {O : List (V × Cg)} (h : FrC lo τ w O) : RdS τ w 13 (cgsV O) := by
  rcases h.1 with ⟨rfl, z, rfl⟩ | ⟨q, rfl, h1, -⟩
  · exact ⟨_, _, _, rfl, fun _ => rfl, .inl rfl⟩
  · exact ⟨_, _, _, rfl, by simp, .inr ⟨h1, rfl⟩⟩
theorem FrC.rds {lo : Nat} {τ : St} {w : V} {O : List (V × Cg)} (h : FrC lo τ w O) : Rds τ O := fun p hp => by
  obtain ⟨q, e, h1, -⟩ := h.2 p hp
  rw [e]; exact ⟨_, _, _, rfl, by simp, .inr ⟨h1, rfl⟩⟩
theorem FrC.rd {lo : Nat} {τ : St} {w : V} {O : List (V × Cg)} (h : FrC lo τ w O) : RdC τ w (O.map (·.2)) := ⟨O, rfl, h.rdS, h.rds⟩
theorem own_inj {q q' n n' : Nat} {es es' : List (List V)} (h : V.sl false (.own q) n es = V.sl false (.own q') n' es') : q = q' := by cases h; rfl
/-- append of one more. -/
theorem FrC.app' {lo : Nat} {τ τ2 : St} {q : Nat} {O : List (V × Cg)} {x : V} {g : Cg} (h : FrC lo τ (.sl false (.own q) 13 (cgsV O)) O) (hev : ∀ r : Nat, τ.live[r]? = some true → τ2.live[r]? = some true) (hll : τ.live.length ≤ τ2.live.length) (hx : NewS τ τ2 x 1 (intsV .i64 g.deps)) (hlo : lo ≤ τ.live.length) :
    FrC lo ⟨τ2.objs, kill (τ2.live ++ [true]) (.own q) ++ [true]⟩ (.sl false (.own (τ2.live ++ [true]).length) 13 (cgsV O ++ [cgC x g])) (O ++ [(x, g)]) := by
  obtain ⟨q', e, h1, h2, h3⟩ : ∃ q', V.sl false (.own q) 13 (cgsV O) = .sl false (.own q') 13 (cgsV O) ∧ τ.live[q']? = some true ∧ lo ≤ q' ∧ ∀ p ∈ O, ∀ n es, p.1 ≠ .sl false (.own q') n es := by
    rcases h.1 with ⟨rfl, z, e⟩ | h
    · cases e
    · exact h
  have := own_inj e
  subst this
  have hql := (List.getElem?_eq_some_iff.1 h1).1
  obtain ⟨r, rfl, x1, x2⟩ := hx
  have hrl := (List.getElem?_eq_some_iff.1 x1).1
  have key : ∀ r, r ≠ q → τ2.live[r]? = some true → (kill (τ2.live ++ [true]) (.own q) ++ [true])[r]? = some true := fun r hr h => by
    have hl := (List.getElem?_eq_some_iff.1 h).1
    simp only [kill]
    rw [List.getElem?_append_left (by simp; omega), List.getElem?_set_ne (Ne.symm hr), List.getElem?_append_left hl]
    exact h
  refine ⟨.inr ⟨_, by rw [cgsV_snoc], live_last' _ _ _, by simp only [List.length_append, List.length_singleton]; omega, fun p hp n es e => ?_⟩, fun p hp => ?_⟩
  · rcases List.mem_append.1 hp with hp | hp
    · obtain ⟨q2, e2, h4, -⟩ := h.2 p hp
      have h4' := (List.getElem?_eq_some_iff.1 (hev _ h4)).1
      rw [e2] at e
      have := own_inj e
      simp only [List.length_append, List.length_singleton] at this
      omega
    · rw [List.mem_singleton] at hp
      subst hp
      have := own_inj e
      simp only [List.length_append, List.length_singleton] at this
      omega
  · rcases List.mem_append.1 hp with hp | hp
    · obtain ⟨q2, e2, h4, h5⟩ := h.2 p hp
      exact ⟨q2, e2, key _ (fun e => h3 p hp _ _ (by rw [e2, e])) (hev _ h4), h5⟩
    · rw [List.mem_singleton] at hp
      subst hp
      exact ⟨r, rfl, key _ (by omega) x1, by omega⟩
theorem FrC.app {lo : Nat} {τ τ2 : St} {q : Nat} {O : List (V × Cg)} {x : V} {g : Cg} (h : FrC lo τ (.sl false (.own q) 13 (cgsV O)) O) (he : Ext τ τ2) (hx : NewS τ τ2 x 1 (intsV .i64 g.deps)) (hlo : lo ≤ τ.live.length) :
    FrC lo ⟨τ2.objs, kill (τ2.live ++ [true]) (.own q) ++ [true]⟩ (.sl false (.own (τ2.live ++ [true]).length) 13 (cgsV O ++ [cgC x g])) (O ++ [(x, g)]) := h.app' he.live he.llen hx hlo
theorem FrC.app0' {lo : Nat} {τ τ2 : St} {x : V} {g : Cg} (hll : τ.live.length ≤ τ2.live.length) (hx : NewS τ τ2 x 1 (intsV .i64 g.deps)) (hlo : lo ≤ τ.live.length) :
    FrC lo ⟨τ2.objs, (τ2.live ++ [true]) ++ [true]⟩ (.sl false (.own (τ2.live ++ [true]).length) 13 [cgC x g]) [(x, g)] := by
  obtain ⟨r, rfl, x1, x2⟩ := hx
  have hrl := (List.getElem?_eq_some_iff.1 x1).1
  refine ⟨.inr ⟨_, rfl, live_last _ _, by simp only [List.length_append, List.length_singleton]; omega, fun p hp n es e => ?_⟩, fun p hp => ?_⟩
  · rw [List.mem_singleton] at hp
    subst hp
    have := own_inj e
    simp only [List.length_append, List.length_singleton] at this
    omega
  · rw [List.mem_singleton] at hp
    subst hp
    refine ⟨r, rfl, ?_, by omega⟩
    show ((τ2.live ++ [true]) ++ [true])[r]? = some true
    rw [List.getElem?_append_left (by simp; omega), List.getElem?_append_left hrl]
    exact x1
theorem FrC.app0 {lo : Nat} {τ τ2 : St} {x : V} {g : Cg} (he : Ext τ τ2) (hx : NewS τ τ2 x 1 (intsV .i64 g.deps)) (hlo : lo ≤ τ.live.length) :
    FrC lo ⟨τ2.objs, (τ2.live ++ [true]) ++ [true]⟩ (.sl false (.own (τ2.live ++ [true]).length) 13 [cgC x g]) [(x, g)] := FrC.app0' he.llen hx hlo
/-- What Each goes over. -/
def eachL (L : List Cg) (k : List Int) : List Cg := bif decide (clockI k = 0) then allR L k else []
section
variable {σ : St} {i m j y : Nat} {mo : Option Nat} {s d v kv w : V} {ov : List V} {room r n : Int} {P O : List (V × Cg)} {g : Cg} {x : Sp} {l k : List Int}
set_option maxRecDepth 100000 in
set_option maxHeartbeats 1000000 in
/-- The closure. -/
theorem each1_ok (J : List (V × Cg) → St → Prop) (K : St → Prop) (hj : σ.objs[j]? = some (.cells [w])) (hw : RdS σ w 13 (cgsV O)) (hO : O.length ≤ 1000000) (hOd : ∀ p ∈ O, p.2.deps.length ≤ 2000000)
    (hst : J O σ) (hJ : ∀ R τ, J R τ → RdS τ w 13 (cgsV O) ∧ Rds τ O)
    (hY : ∀ p R τ τ' x, J (p :: R) τ → Ext τ τ' → τ'.objs = τ.objs → NewS τ τ' x 1 (intsV .i64 p.2.deps) → YldA Try.prog y [cgV x p.2] τ' fun v τ2 => v = .bool true ∧ J R τ2 ∨ v = .bool false ∧ K τ2) (h0 : ∀ τ, J [] τ → K τ) :
    CallA Try.prog 46 [yv y, .ptr (some (j, 0))] σ fun _ σ' => K σ' := by
  obtain ⟨b, R, z, rfl, -, -⟩ := id hw
  refine fn_at Try.func46 (by decide) comp46 rfl fun Q q1 q2 => ?_
  simp -implicitDefEqProofs only [go_sem, Nat.reduceBEq, Nat.reduceAdd, eq_self, true_and, and_true, and_self, List.getElem?_cons_zero, List.getElem?_cons_succ, Nat.reduceLeDiff, Nat.zero_add, Nat.reduceSub, Nat.le_refl, c46, hj]
  refine loop_at (fun (k : Nat) => ⟨[(0, .v (yv y)), (5, .v (.sl b R z (cgsV O))), (6, .v (.int .i64 (cgsV O).length)), (7, .v (.int .i64 k))], []⟩)
    (fun k τ => k ≤ O.length ∧ J (O.drop k) τ) (fun k => O.length - k) 0 ?_ ?_ ?_
  · refine .inr ?_
    simp -implicitDefEqProofs only [go_sem, Nat.reduceBEq, Nat.reduceAdd, eq_self, true_and, and_true, and_self, List.getElem?_cons_zero, List.getElem?_cons_succ, Nat.reduceLeDiff, Nat.zero_add, Nat.reduceSub, Nat.le_refl, Nat.lt_irrefl]
    try trivial
  · exact ⟨Nat.zero_le _, hst⟩
  rintro k τ ⟨g1, g2⟩ Z z1 z2 z3
  have hWl := cgsV_len O
  simp -implicitDefEqProofs only [go_sem, Nat.reduceBEq, Nat.reduceAdd, eq_self, true_and, and_true, and_self, List.getElem?_cons_zero, List.getElem?_cons_succ, Nat.reduceLeDiff, Nat.zero_add, Nat.reduceSub, Nat.le_refl, Nat.lt_irrefl]
  refine CondW_b (fun hc => ?_) (fun hc => ?_)
  · have hk : k < O.length := by simpa [cgsV_len] using hc
    obtain ⟨hr1, hr2⟩ := hJ _ _ g2
    obtain ⟨k1, k2⟩ := rdl hr1 (cgsV_ne hk)
    have hget := cgsV_get hk
    have hib : (k : Int) < (cgsV O).length := by omega
    have hdi := hr2 _ (List.getElem_mem hk)
    have hdl := hOd _ (List.getElem_mem hk)
    rw [List.drop_eq_getElem_cons hk] at g2
    generalize O[k] = p at hget g2 hdi hdl
    obtain ⟨d2, g⟩ := p
    simp only at hget hdi hdl
    obtain ⟨db, dr, dz, rfl, -, -⟩ := id hdi
    have hcp := pcopy_ok hdi (by omega)
    simp only [cgV, cgC] at hcp
    simp -implicitDefEqProofs only [go_sem, Nat.reduceBEq, Nat.reduceAdd, eq_self, true_and, and_true, and_self, List.getElem?_cons_zero, List.getElem?_cons_succ, Nat.reduceLeDiff, Nat.zero_add, Nat.reduceSub, Nat.le_refl, hget, cgC]
    refine ⟨⟨by omega, hib, k2⟩, k1, ?_⟩
    refine call_at hcp ?_
    rintro w τ2 ⟨e1, o1, x, rfl, hn⟩
    refine ⟨kept_none, ?_⟩
    simp -implicitDefEqProofs only [go_sem, Nat.reduceBEq, Nat.reduceAdd, eq_self, true_and, and_true, and_self, List.getElem?_cons_zero, List.getElem?_cons_succ, Nat.reduceLeDiff, Nat.zero_add, Nat.reduceSub, Nat.le_refl, Nat.lt_irrefl]
    refine yld_at (hY _ _ _ _ x g2 e1 o1 hn) ?_
    rintro v τ3 (⟨rfl, c1⟩ | ⟨rfl, c1⟩)
    · refine ⟨kept_none, ?_⟩
      simp -implicitDefEqProofs only [go_sem, Nat.reduceBEq, Nat.reduceAdd, eq_self, true_and, and_true, and_self, List.getElem?_cons_zero, List.getElem?_cons_succ, Nat.reduceLeDiff, Nat.zero_add, Nat.reduceSub, Nat.le_refl, Bool.not_true]
      refine z1 (k + 1) _ _ (.inr ?_) (by omega) ⟨by omega, c1⟩
      simp -implicitDefEqProofs only [go_sem, Nat.reduceBEq, Nat.reduceAdd, eq_self, true_and, and_true, and_self, List.getElem?_cons_zero, List.getElem?_cons_succ, Nat.reduceLeDiff, Nat.zero_add, Nat.reduceSub, Nat.le_refl, Nat.lt_irrefl]
      rw [i64_in _ (by omega)]; simp
    · refine ⟨kept_none, ?_⟩
      simp -implicitDefEqProofs only [go_sem, Nat.reduceBEq, Nat.reduceAdd, eq_self, true_and, and_true, and_self, List.getElem?_cons_zero, List.getElem?_cons_succ, Nat.reduceLeDiff, Nat.zero_add, Nat.reduceSub, Nat.le_refl, Bool.not_false]
      refine z3 _ _ ?_
      simp -implicitDefEqProofs only [go_sem, Nat.reduceBEq, Nat.reduceAdd, eq_self, true_and, and_true, and_self, List.getElem?_cons_zero, List.getElem?_cons_succ, Nat.reduceLeDiff, Nat.zero_add, Nat.reduceSub, Nat.le_refl, Nat.lt_irrefl]
      refine q2 _ _ ?_
      simp -implicitDefEqProofs only [go_sem, Nat.reduceBEq, Nat.reduceAdd, eq_self, true_and, and_true, and_self, List.getElem?_cons_zero, List.getElem?_cons_succ, Nat.reduceLeDiff, Nat.zero_add, Nat.reduceSub, Nat.le_refl, Nat.lt_irrefl]
      exact c1
  · have hk : ¬ k < O.length := by simpa [cgsV_len] using hc
    rw [List.drop_of_length_le (by omega)] at g2
    simp -implicitDefEqProofs only [go_sem, Nat.reduceBEq, Nat.reduceAdd, eq_self, true_and, and_true, and_self, List.getElem?_cons_zero, List.getElem?_cons_succ, Nat.reduceLeDiff, Nat.zero_add, Nat.reduceSub, Nat.le_refl, Nat.lt_irrefl]
    refine z2 _ _ _ ?_
    simp -implicitDefEqProofs only [go_sem, Nat.reduceBEq, Nat.reduceAdd, eq_self, true_and, and_true, and_self, List.getElem?_cons_zero, List.getElem?_cons_succ, Nat.reduceLeDiff, Nat.zero_add, Nat.reduceSub, Nat.le_refl, Nat.lt_irrefl]
    refine q1 _ _ ?_
    simp -implicitDefEqProofs only [go_sem, Nat.reduceBEq, Nat.reduceAdd, eq_self, true_and, and_true, and_self, List.getElem?_cons_zero, List.getElem?_cons_succ, Nat.reduceLeDiff, Nat.zero_add, Nat.reduceSub, Nat.le_refl, Nat.lt_irrefl]
    exact h0 _ g2
/-- What Each answers. -/
def EachIs (σ σ' : St) (v : V) (L : List Cg) : Prop := ∃ j w O, v = .fn 46 [.ptr (some (j, 0))] ∧ σ.objs.length ≤ j ∧ σ'.objs[j]? = some (.cells [w]) ∧ FrC σ.live.length σ' w O ∧ O.map (·.2) = L
set_option maxRecDepth 100000 in
set_option maxHeartbeats 4000000 in
theorem each_ok (h : LogIs σ i mo s ov room P) (hl : P.length ≤ 1000000) (hk : RdS σ kv 1 (intsV .i64 k)) : CallA Try.prog 13 [.ptr (some (i, 0)), kv] σ fun v σ' => EachIs σ σ' v (eachL (cgL P) k) ∧ Ext σ σ' := by
  refine fn_at Try.func13 (by decide) comp13 rfl fun Q q1 q2 => ?_
  simp -implicitDefEqProofs only [go_sem, Nat.reduceBEq, Nat.reduceAdd, eq_self, true_and, and_true, and_self, List.getElem?_cons_zero, List.getElem?_cons_succ, Nat.reduceLeDiff, Nat.zero_add, Nat.reduceSub, Nat.le_refl, c13]
  refine cut_at (fun G τ => Ext σ τ ∧ G = ⟨[(5, .v (.ptr (some (σ.objs.length, 0))))], []⟩ ∧ ∃ w O, τ.objs[σ.objs.length]? = some (.cells [w]) ∧ FrC σ.live.length τ w O ∧ O.map (·.2) = eachL (cgL P) k) ?_ ?_
  case refine_2 =>
    rintro G τ ⟨e1, rfl, w, O, h1, h2, h3⟩
    simp -implicitDefEqProofs only [go_sem, Nat.reduceBEq, Nat.reduceAdd, eq_self, true_and, and_true, and_self, List.getElem?_cons_zero, List.getElem?_cons_succ, Nat.reduceLeDiff, Nat.zero_add, Nat.reduceSub, Nat.le_refl, Nat.lt_irrefl]
    refine q2 _ _ ?_
    simp -implicitDefEqProofs only [go_sem, Nat.reduceBEq, Nat.reduceAdd, eq_self, true_and, and_true, and_self, List.getElem?_cons_zero, List.getElem?_cons_succ, Nat.reduceLeDiff, Nat.zero_add, Nat.reduceSub, Nat.le_refl, Nat.lt_irrefl]
    exact ⟨⟨_, _, O, rfl, Nat.le_refl _, h1, h2, h3⟩, e1⟩
  intro Z z1 z2 z3
  have e0 := ext_obj σ (.cells [.sl true .pub 0 []])
  have hb0 : (⟨σ.objs ++ [.cells [.sl true .pub 0 []]], σ.live⟩ : St).objs[σ.objs.length]? = some (.cells [.sl true .pub 0 []]) := by simp
  simp -implicitDefEqProofs only [go_sem, Nat.reduceBEq, Nat.reduceAdd, eq_self, true_and, and_true, and_self, List.getElem?_cons_zero, List.getElem?_cons_succ, Nat.reduceLeDiff, Nat.zero_add, Nat.reduceSub, Nat.le_refl, Nat.lt_irrefl]
  refine call_at (clock_ok (hk.ext e0)) ?_
  rintro w τ ⟨hτ, rfl⟩
  have hτ := hτ.symm
  subst hτ
  refine ⟨kept_none, ?_⟩
  generalize (⟨σ.objs ++ [.cells [.sl true .pub 0 []]], σ.live⟩ : St) = τ0 at e0 hb0 ⊢
  cases hc : decide (clockI k = 0)
  · have hL : eachL (cgL P) k = [] := by unfold eachL; rw [hc]; rfl
    rw [hL] at z1
    simp -implicitDefEqProofs only [go_sem, Nat.reduceBEq, Nat.reduceAdd, eq_self, true_and, and_true, and_self, List.getElem?_cons_zero, List.getElem?_cons_succ, Nat.reduceLeDiff, Nat.zero_add, Nat.reduceSub, Nat.le_refl, hc]
    refine z1 _ _ _ (.inr ?_) ⟨e0, rfl, _, [], hb0, FrC.nil _ _ _, rfl⟩
    simp -implicitDefEqProofs only [go_sem, Nat.reduceBEq, Nat.reduceAdd, eq_self, true_and, and_true, and_self, List.getElem?_cons_zero, List.getElem?_cons_succ, Nat.reduceLeDiff, Nat.zero_add, Nat.reduceSub, Nat.le_refl, Nat.lt_irrefl]
  have hL : eachL (cgL P) k = allR (cgL P) k := by unfold eachL; rw [hc]; rfl
  rw [hL] at z1
  have hL0 := h.ext e0
  have h1 := hL0.cells
  have hcl := cgsV_len P
  rcases id h.row with ⟨R, q, rfl, he⟩ | ⟨j', cap, rfl, ho, -, hcp⟩
  · have hP : P = [] := by
      have : (cgsV P).length = 0 := by rw [he]; rfl
      rw [hcl] at this
      exact List.length_eq_zero_iff.1 this
    rw [hP] at z1
    have hlt : decide ((0 : Int) < ((0 : Nat) : Int)) = false := rfl
    simp -implicitDefEqProofs only [go_sem, Nat.reduceBEq, Nat.reduceAdd, eq_self, true_and, and_true, and_self, List.getElem?_cons_zero, List.getElem?_cons_succ, Nat.reduceLeDiff, Nat.zero_add, Nat.reduceSub, Nat.le_refl, hc, h1]
    refine loop_at (fun (y : Nat) => ⟨[(5, .v (.ptr (some (σ.objs.length, 0)))), (19, .v (.int .i64 ((0 : Nat) : Int))), (20, .v (.int .i64 0))], []⟩) (fun y t => t = τ0) (fun y => 0) 0 (.inr ?_) rfl ?_
    · simp -implicitDefEqProofs only [go_sem, Nat.reduceBEq, Nat.reduceAdd, eq_self, true_and, and_true, and_self, List.getElem?_cons_zero, List.getElem?_cons_succ, Nat.reduceLeDiff, Nat.zero_add, Nat.reduceSub, Nat.le_refl, Nat.lt_irrefl]
      try exact ⟨rfl, rfl, rfl⟩
    rintro _ τ rfl X x1 x2 x3
    simp -implicitDefEqProofs only [go_sem, Nat.reduceBEq, Nat.reduceAdd, eq_self, true_and, and_true, and_self, List.getElem?_cons_zero, List.getElem?_cons_succ, Nat.reduceLeDiff, Nat.zero_add, Nat.reduceSub, Nat.le_refl, hlt]
    refine x2 _ _ _ ?_
    simp -implicitDefEqProofs only [go_sem, Nat.reduceBEq, Nat.reduceAdd, eq_self, true_and, and_true, and_self, List.getElem?_cons_zero, List.getElem?_cons_succ, Nat.reduceLeDiff, Nat.zero_add, Nat.reduceSub, Nat.le_refl, Nat.lt_irrefl]
    refine z1 _ _ _ (.inr ?_) ⟨e0, rfl, _, [], hb0, FrC.nil _ _ _, rfl⟩
    simp -implicitDefEqProofs only [go_sem, Nat.reduceBEq, Nat.reduceAdd, eq_self, true_and, and_true, and_self, List.getElem?_cons_zero, List.getElem?_cons_succ, Nat.reduceLeDiff, Nat.zero_add, Nat.reduceSub, Nat.le_refl, Nat.lt_irrefl]
  simp -implicitDefEqProofs only [go_sem, Nat.reduceBEq, Nat.reduceAdd, eq_self, true_and, and_true, and_self, List.getElem?_cons_zero, List.getElem?_cons_succ, Nat.reduceLeDiff, Nat.zero_add, Nat.reduceSub, Nat.le_refl, hc, h1, hcl]
  refine loop_at (fun (y : Nat) => ⟨[(0, .v (.ptr (some (i, 0)))), (1, .v kv), (5, .v (.ptr (some (σ.objs.length, 0)))), (18, .v (.osl j' P.length cap 13)), (19, .v (.int .i64 P.length)), (20, .v (.int .i64 y))], []⟩)
    (fun y t => y ≤ P.length ∧ Ext σ t ∧ ∃ w O, t.objs[σ.objs.length]? = some (.cells [w]) ∧ FrC σ.live.length t w O ∧ O.map (·.2) = allR ((cgL P).take y) k) (fun y => P.length - y) 0 (.inr ?_) ?_ ?_
  · simp -implicitDefEqProofs only [go_sem, Nat.reduceBEq, Nat.reduceAdd, eq_self, true_and, and_true, and_self, List.getElem?_cons_zero, List.getElem?_cons_succ, Nat.reduceLeDiff, Nat.zero_add, Nat.reduceSub, Nat.le_refl, Nat.lt_irrefl]
    try exact ⟨rfl, rfl, rfl⟩
    try exact rfl
  · exact ⟨Nat.zero_le _, e0, _, [], hb0, FrC.nil _ _ _, rfl⟩
  rintro y τ ⟨g1, g2, w, O, g3, g4, g5⟩ X x1 x2 x3
  have hOl : O.length ≤ P.length := by
    have h2 := congrArg List.length g5
    rw [map2_len] at h2
    have h3 := allR_len ((cgL P).take y) k
    rw [List.length_take, map2_len] at h3
    omega
  have hO2 := cgsV_len O
  simp -implicitDefEqProofs only [go_sem, Nat.reduceBEq, Nat.reduceAdd, eq_self, true_and, and_true, and_self, List.getElem?_cons_zero, List.getElem?_cons_succ, Nat.reduceLeDiff, Nat.zero_add, Nat.reduceSub, Nat.le_refl, Nat.lt_irrefl]
  refine CondW_b (fun hcc => ?_) (fun hcc => ?_)
  · have hi : y < P.length := by simpa using hcc
    have hwy : IntKind.i64.wrap ((y : Int) + 1) = ((y + 1 : Nat) : Int) := by rw [i64_in _ (by omega)]; omega
    have hget := cg_drop0 hi
    have ho' := g2.objs _ _ ho
    have htk : (cgL P).take (y + 1) = (cgL P).take y ++ [P[y].2] := by rw [List.take_succ_eq_append_getElem (by simpa using hi)]; simp
    have hdi := (h.rds.ext g2) _ (List.getElem_mem hi)
    have hdl := h.deps _ (List.getElem_mem hi)
    have hb1 : (y : Int) < P.length := by omega
    generalize P[y] = p at hget htk hdi hdl
    obtain ⟨d2, h⟩ := p
    simp only at hget htk hdi hdl
    obtain ⟨db, dr, dz, rfl, -, -⟩ := id hdi
    have hal := allR_snoc ((cgL P).take y) k h
    rw [← htk] at hal
    refine cut_at (fun G τ2 => G = ⟨[(0, .v (.ptr (some (i, 0)))), (1, .v kv), (5, .v (.ptr (some (σ.objs.length, 0)))), (18, .v (.osl j' P.length cap 13)), (19, .v (.int .i64 P.length)), (20, .v (.int .i64 y))], []⟩ ∧ Ext σ τ2 ∧ ∃ w O, τ2.objs[σ.objs.length]? = some (.cells [w]) ∧ FrC σ.live.length τ2 w O ∧ O.map (·.2) = allR ((cgL P).take (y + 1)) k) ?_ ?_
    case refine_2 =>
      rintro G τ2 ⟨rfl, t1, t2⟩
      simp -implicitDefEqProofs only [go_sem, Nat.reduceBEq, Nat.reduceAdd, eq_self, true_and, and_true, and_self, List.getElem?_cons_zero, List.getElem?_cons_succ, Nat.reduceLeDiff, Nat.zero_add, Nat.reduceSub, Nat.le_refl, hwy]
      refine x1 (y + 1) _ _ (.inr ?_) (by omega) ⟨by omega, t1, t2⟩
      simp -implicitDefEqProofs only [go_sem, Nat.reduceBEq, Nat.reduceAdd, eq_self, true_and, and_true, and_self, List.getElem?_cons_zero, List.getElem?_cons_succ, Nat.reduceLeDiff, Nat.zero_add, Nat.reduceSub, Nat.le_refl, Nat.lt_irrefl]
      try exact ⟨rfl, rfl, rfl⟩
    intro Y y1 y2 y3
    simp -implicitDefEqProofs only [go_sem, Nat.reduceBEq, Nat.reduceAdd, eq_self, true_and, and_true, and_self, List.getElem?_cons_zero, List.getElem?_cons_succ, Nat.reduceLeDiff, Nat.zero_add, Nat.reduceSub, Nat.le_refl, hcl, ho', hget, cgC, Int.toNat_natCast, Nat.add_zero]
    refine ⟨⟨by omega, hb1⟩, ?_⟩
    refine call_at (at_ok (r := h.ar) (hk.ext g2)) ?_
    rintro v τ2 ⟨hτ2, rfl⟩
    have hτ2 := hτ2.symm
    subst hτ2
    refine ⟨(Ext.refl _).kept, ?_⟩
    have hin : decide (h.seq > atD k h.ar) = !inC k h := by
      unfold inC
      rw [← decide_not, decide_eq_decide]; omega
    cases hx : inC k h <;> rw [hx] at hal hin
    · have hcp := pcopy_ok hdi (by omega)
      simp only [cgV, cgC] at hcp
      simp -implicitDefEqProofs only [go_sem, Nat.reduceBEq, Nat.reduceAdd, eq_self, true_and, and_true, and_self, List.getElem?_cons_zero, List.getElem?_cons_succ, Nat.reduceLeDiff, Nat.zero_add, Nat.reduceSub, Nat.le_refl, hin, Bool.not_false, g3]
      refine call_at hcp ?_
      rintro v τ2 ⟨e2, o2, x, rfl, hn⟩
      refine ⟨e2.kept, ?_⟩
      obtain ⟨rx, rfl, -⟩ := id hn
      have g3' : τ2.objs[σ.objs.length]? = some (.cells [w]) := by rw [o2]; exact g3
      rcases g4.1 with ⟨rfl, z, rfl⟩ | ⟨q, rfl, q1', q2', -⟩
      · have hfa := FrC.app0 (lo := σ.live.length) e2 hn g2.llen
        simp -implicitDefEqProofs only [go_sem, Nat.reduceBEq, Nat.reduceAdd, eq_self, true_and, and_true, and_self, List.getElem?_cons_zero, List.getElem?_cons_succ, Nat.reduceLeDiff, Nat.zero_add, Nat.reduceSub, Nat.le_refl, Nat.lt_irrefl]
        refine ⟨⟨.inl trivial, rfl, .inr (live_last _ _), .inl trivial⟩, ?_⟩
        simp -implicitDefEqProofs only [go_sem, Nat.reduceBEq, Nat.reduceAdd, eq_self, true_and, and_true, and_self, List.getElem?_cons_zero, List.getElem?_cons_succ, Nat.reduceLeDiff, Nat.zero_add, Nat.reduceSub, Nat.le_refl, g3', flats, V.flat]
        refine y1 _ _ _ (.inr ?_) ⟨rfl, ext_set (ext_push (ext_push (g2.trans e2))) (Nat.le_refl _), _, [(_, h)], setC_get (List.getElem?_eq_some_iff.1 g3').1, hfa.keep fun _ _ h => h, by rw [hal, ← g5]; rfl⟩
        simp -implicitDefEqProofs only [go_sem, Nat.reduceBEq, Nat.reduceAdd, eq_self, true_and, and_true, and_self, List.getElem?_cons_zero, List.getElem?_cons_succ, Nat.reduceLeDiff, Nat.zero_add, Nat.reduceSub, Nat.le_refl, Nat.lt_irrefl]
        try exact ⟨rfl, rfl, rfl⟩
      · have hfa := FrC.app (lo := σ.live.length) g4 e2 hn g2.llen
        simp -implicitDefEqProofs only [go_sem, Nat.reduceBEq, Nat.reduceAdd, eq_self, true_and, and_true, and_self, List.getElem?_cons_zero, List.getElem?_cons_succ, Nat.reduceLeDiff, Nat.zero_add, Nat.reduceSub, Nat.le_refl, Nat.lt_irrefl]
        refine ⟨⟨.inr trivial, .inr ((ext_live _ _).live _ (e2.live _ q1')), ⟨.inr (live_last _ _), .inl trivial⟩, by omega⟩, ?_⟩
        simp -implicitDefEqProofs only [go_sem, Nat.reduceBEq, Nat.reduceAdd, eq_self, true_and, and_true, and_self, List.getElem?_cons_zero, List.getElem?_cons_succ, Nat.reduceLeDiff, Nat.zero_add, Nat.reduceSub, Nat.le_refl, g3', flats, V.flat]
        refine y1 _ _ _ (.inr ?_) ⟨rfl, ext_set (ext_kill (ext_push (g2.trans e2)) q2') (Nat.le_refl _), _, O ++ [(_, h)], setC_get (List.getElem?_eq_some_iff.1 g3').1, hfa.keep fun _ _ h => h, by rw [hal, ← g5, List.map_append]; rfl⟩
        simp -implicitDefEqProofs only [go_sem, Nat.reduceBEq, Nat.reduceAdd, eq_self, true_and, and_true, and_self, List.getElem?_cons_zero, List.getElem?_cons_succ, Nat.reduceLeDiff, Nat.zero_add, Nat.reduceSub, Nat.le_refl, Nat.lt_irrefl]
        try exact ⟨rfl, rfl, rfl⟩
    · simp -implicitDefEqProofs only [go_sem, Nat.reduceBEq, Nat.reduceAdd, eq_self, true_and, and_true, and_self, List.getElem?_cons_zero, List.getElem?_cons_succ, Nat.reduceLeDiff, Nat.zero_add, Nat.reduceSub, Nat.le_refl, hin, Bool.not_true]
      refine y1 _ _ _ (.inr ?_) ⟨rfl, g2, w, O, g3, g4, by rw [hal, g5]; rfl⟩
      simp -implicitDefEqProofs only [go_sem, Nat.reduceBEq, Nat.reduceAdd, eq_self, true_and, and_true, and_self, List.getElem?_cons_zero, List.getElem?_cons_succ, Nat.reduceLeDiff, Nat.zero_add, Nat.reduceSub, Nat.le_refl, Nat.lt_irrefl]
      try exact ⟨rfl, rfl, rfl⟩
  have hy : y = P.length := by have : ¬ y < P.length := by simpa using hcc
                               omega
  rw [hy, List.take_of_length_le (by rw [map2_len]; omega)] at g5
  simp -implicitDefEqProofs only [go_sem, Nat.reduceBEq, Nat.reduceAdd, eq_self, true_and, and_true, and_self, List.getElem?_cons_zero, List.getElem?_cons_succ, Nat.reduceLeDiff, Nat.zero_add, Nat.reduceSub, Nat.le_refl, Nat.lt_irrefl]
  refine x2 _ _ _ ?_
  simp -implicitDefEqProofs only [go_sem, Nat.reduceBEq, Nat.reduceAdd, eq_self, true_and, and_true, and_self, List.getElem?_cons_zero, List.getElem?_cons_succ, Nat.reduceLeDiff, Nat.zero_add, Nat.reduceSub, Nat.le_refl, Nat.lt_irrefl]
  refine z1 _ _ _ (.inr ?_) ⟨g2, rfl, w, O, g3, g4, g5⟩
  simp -implicitDefEqProofs only [go_sem, Nat.reduceBEq, Nat.reduceAdd, eq_self, true_and, and_true, and_self, List.getElem?_cons_zero, List.getElem?_cons_succ, Nat.reduceLeDiff, Nat.zero_add, Nat.reduceSub, Nat.le_refl, Nat.lt_irrefl]
end
end Go.VL.opl

namespace Go.VL.opl
open Go Go.VL Go.Proofs Go.IntWalk Go.VL.st Go.VL.row

theorem FrC.mono {lo lo' : Nat} {τ : St} {w : V} {O : List (V × Cg)} (h : FrC lo τ w O) (k : lo' ≤ lo) : FrC lo' τ w O := by
  refine ⟨h.1.imp_right ?_, fun p hp => ?_⟩
  · rintro ⟨q, e, h1, h2, h3⟩
    exact ⟨q, e, h1, by omega, h3⟩
  · obtain ⟨q, e, h1, h2⟩ := h.2 p hp
    exact ⟨q, e, h1, by omega⟩
/-- Fresh changes. -/
def NewC (σ σ' : St) (v : V) (L : List Cg) : Prop := ∃ O, FrC σ.live.length σ' v O ∧ O.map (·.2) = L
theorem NewC.rd {σ σ' : St} {v : V} {L : List Cg} (h : NewC σ σ' v L) : RdC σ' v L := by
  obtain ⟨O, h1, rfl⟩ := h
  exact h1.rd
section
variable {σ : St} {i m j y : Nat} {mo : Option Nat} {s d v kv w p : V} {ov : List V} {room r n most : Int} {P O : List (V × Cg)} {g : Cg} {x : Sp} {l k : List Int} {L : List Cg}
set_option maxRecDepth 100000 in
set_option maxHeartbeats 4000000 in
theorem aseq_ok {lo z : Nat} (hj : σ.objs[j]? = some (.cells [w])) (hF : FrC lo σ w O) (hO : O.length ≤ 1000000) (hOd : ∀ p ∈ O, p.2.deps.length ≤ 2000000) :
    CallA Try.prog 80 [.sl true .pub z [], .fn 46 [.ptr (some (j, 0))]] σ fun v σ' => NewC σ σ' v (O.map (·.2)) ∧ Ext σ σ' := by
  refine fn_at Try.func80 (by decide) comp80 rfl fun Q q1 q2 => ?_
  simp -implicitDefEqProofs only [go_sem, Nat.reduceBEq, Nat.reduceAdd, eq_self, true_and, and_true, and_self, List.getElem?_cons_zero, List.getElem?_cons_succ, Nat.reduceLeDiff, Nat.zero_add, Nat.reduceSub, Nat.le_refl, c80]
  have e0 := ext_obj σ (.cells [.sl true .pub z []])
  have hb0 : (⟨σ.objs ++ [.cells [.sl true .pub z []]], σ.live⟩ : St).objs[σ.objs.length]? = some (.cells [.sl true .pub z []]) := by simp
  have hj0 := e0.objs _ _ hj
  have hl0 : (⟨σ.objs ++ [.cells [.sl true .pub z []]], σ.live⟩ : St).objs.length = σ.objs.length + 1 := by simp
  generalize (⟨σ.objs ++ [.cells [.sl true .pub z []]], σ.live⟩ : St) = τ0 at e0 hb0 hj0 hl0 ⊢
  refine range_at ?_
  intro yl i0 r0 r1 r2 r3 hi hyy
  have e5 := ext_obj τ0 r0
  have hr0 : (⟨τ0.objs ++ [r0], τ0.live⟩ : St).objs[i0]? = some r0 := by rw [← hi]; simp
  refine CallA.mono (each1_ok (O := O)
    (fun R t => ∃ D O2 w2, O = D ++ R ∧ Ext σ t ∧ t.objs[σ.objs.length]? = some (.cells [w2]) ∧ FrC σ.live.length t w2 O2 ∧ O2.map (·.2) = D.map (·.2) ∧ t.objs[i0]? = some r0)
    (fun t => t.objs[i0]? = some r0 ∧ Ext σ t ∧ ∃ w2 O2, t.objs[σ.objs.length]? = some (.cells [w2]) ∧ FrC σ.live.length t w2 O2 ∧ O2.map (·.2) = O.map (·.2))
    (e5.objs _ _ hj0) ((hF.ext (e0.trans e5)).rdS) hO hOd ?_ ?_ ?_ ?_) ?_
  · exact ⟨[], [], _, rfl, e0.trans e5, e5.objs _ _ hb0, FrC.nil _ _ _, rfl, hr0⟩
  · rintro R t ⟨D, O2, w2, s1, s2, s3, s4, s5, s6⟩
    exact ⟨(hF.ext s2).rdS, (hF.ext s2).rds⟩
  · rintro a R t t' x ⟨D, O2, w2, s1, s2, s3, s4, s5, s6⟩ e6 o6 hx
    have hOl : O2.length ≤ O.length := by
      have := congrArg List.length s5
      rw [map2_len, map2_len] at this
      rw [s1, List.length_append, this]; omega
    have s6' : t'.objs[i0]? = some r0 := by rw [o6]; exact s6
    refine hyy t' _ _ s6' rfl fun Y0 y0 => ?_
    simp -implicitDefEqProofs only [go_sem, Nat.reduceBEq, Nat.reduceAdd, eq_self, true_and, and_true, and_self, List.getElem?_cons_zero, List.getElem?_cons_succ, Nat.reduceLeDiff, Nat.zero_add, Nat.reduceSub, Nat.le_refl, rndF, setPs, dropL, cgV, cgC]
    have hxx : ∃ q es, x = .sl false (.own q) 1 es := by obtain ⟨r, rfl, -⟩ := hx; exact ⟨_, _, rfl⟩
    obtain ⟨rx, ex, rfl⟩ := hxx
    simp -implicitDefEqProofs only [go_sem, Nat.reduceBEq, Nat.reduceAdd, eq_self, true_and, and_true, and_self, List.getElem?_cons_zero, List.getElem?_cons_succ, Nat.reduceLeDiff, Nat.zero_add, Nat.reduceSub, Nat.le_refl, Nat.lt_irrefl]
    refine y0 _ _ s6' fun Y y1 y2 y3 => ?_
    clear y0 Y0 hyy
    have b2 : Ext σ (t'.setA i0 r1) := ext_setA (s2.trans e6) (by omega)
    have b3 : (t'.setA i0 r1).objs[σ.objs.length]? = some (.cells [w2]) := (setA_ne (by omega)).trans (by rw [o6]; exact s3)
    have b6 : (t'.setA i0 r1).objs[i0]? = some r1 := setA_at s6'
    have hev : ∀ r : Nat, t.live[r]? = some true → (t'.setA i0 r1).live[r]? = some true := e6.live
    have hll : t.live.length ≤ (t'.setA i0 r1).live.length := e6.llen
    have hx2 : NewS t (t'.setA i0 r1) (.sl false (.own rx) 1 ex) 1 (intsV .i64 a.2.deps) := hx
    generalize t'.setA i0 r1 = t2 at b2 hev hll b3 b6 hx2 ⊢
    have hsl := s2.llen
    have hcl := cgsV_len O2
    have hbl := (List.getElem?_eq_some_iff.1 b3).1
    obtain ⟨ad, ag⟩ := a
    simp only at hx2 s1
    have fin : ∀ (F : Fr) (L : List Bool) (w3 : V) (O3 : List (V × Cg)), Ext σ ⟨t2.objs, L⟩ → FrC σ.live.length ⟨t2.objs, L⟩ w3 O3 → O3.map (·.2) = D.map (·.2) ++ [ag] → Y .normal F ((⟨t2.objs, L⟩ : St).setC σ.objs.length [w3]) := fun F L w3 O3 f1 f2 f3 => by
      have f4 : ((⟨t2.objs, L⟩ : St).setC σ.objs.length [w3]).objs[i0]? = some r1 := (setC_ne (by omega)).trans b6
      exact y1 _ _ f4 (.inl ⟨rfl, D ++ [(ad, ag)], O3, w3, by rw [s1]; simp, ext_setA (ext_set f1 (Nat.le_refl _)) (by omega), (setA_ne (by omega)).trans (setC_get hbl), f2.keep fun _ _ h => h, by rw [f3, List.map_append]; rfl, setA_at f4⟩)
    clear y1 y2 y3
    rcases s4.1 with ⟨rfl, z', rfl⟩ | ⟨q, rfl, q1', q2', -⟩
    · have hfa := FrC.app0' (lo := σ.live.length) hll hx2 hsl
      simp -implicitDefEqProofs only [go_sem, Nat.reduceBEq, Nat.reduceAdd, eq_self, true_and, and_true, and_self, List.getElem?_cons_zero, List.getElem?_cons_succ, Nat.reduceLeDiff, Nat.zero_add, Nat.reduceSub, Nat.le_refl, b3, flats, V.flat]
      refine ⟨⟨.inl trivial, rfl, .inr (live_last _ _), .inl trivial⟩, ?_⟩
      exact fin _ _ _ [(_, ag)] (ext_push (ext_push b2)) hfa (by rw [← s5]; rfl)
    · have hfa := FrC.app' (lo := σ.live.length) s4 hev hll hx2 hsl
      simp -implicitDefEqProofs only [go_sem, Nat.reduceBEq, Nat.reduceAdd, eq_self, true_and, and_true, and_self, List.getElem?_cons_zero, List.getElem?_cons_succ, Nat.reduceLeDiff, Nat.zero_add, Nat.reduceSub, Nat.le_refl, b3, flats, V.flat]
      refine ⟨⟨.inr trivial, .inr ((ext_live _ _).live _ (hev _ q1')), ⟨.inr (live_last _ _), .inl trivial⟩, by omega⟩, ?_⟩
      exact fin _ _ _ (O2 ++ [(_, ag)]) (ext_kill (ext_push b2) q2') hfa (by rw [List.map_append, s5]; rfl)
  · rintro t ⟨D, O2, w2, s1, s2, s3, s4, s5, s6⟩
    rw [List.append_nil] at s1
    subst s1
    exact ⟨s6, s2, w2, O2, s3, s4, s5⟩
  · rintro v t ⟨h1, h2, w2, O2, h3, h4, h5⟩
    refine .inl ⟨h1, ?_⟩
    have h3' : (t.setA i0 (r3 .normal)).objs[σ.objs.length]? = _ := (setA_ne (by omega)).trans h3
    have hcell : cellsOf w2 = some [w2] := by rcases h4.1 with ⟨-, z, rfl⟩ | ⟨q, rfl, -⟩ <;> rfl
    simp -implicitDefEqProofs only [go_sem, Nat.reduceBEq, Nat.reduceAdd, eq_self, true_and, and_true, and_self, List.getElem?_cons_zero, List.getElem?_cons_succ, Nat.reduceLeDiff, Nat.zero_add, Nat.reduceSub, Nat.le_refl, h3', hcell]
    refine q2 _ _ ?_
    simp -implicitDefEqProofs only [go_sem, Nat.reduceBEq, Nat.reduceAdd, eq_self, true_and, and_true, and_self, List.getElem?_cons_zero, List.getElem?_cons_succ, Nat.reduceLeDiff, Nat.zero_add, Nat.reduceSub, Nat.le_refl, Nat.lt_irrefl]
    exact ⟨⟨O2, h4.keep fun _ _ h => h, h5⟩, ext_setA h2 (by omega)⟩
set_option maxRecDepth 100000 in
theorem coll_ok {lo : Nat} (hj : σ.objs[j]? = some (.cells [w])) (hF : FrC lo σ w O) (hO : O.length ≤ 1000000) (hOd : ∀ p ∈ O, p.2.deps.length ≤ 2000000) :
    CallA Try.prog 55 [.fn 46 [.ptr (some (j, 0))]] σ fun v σ' => NewC σ σ' v (O.map (·.2)) ∧ Ext σ σ' := by
  refine fn_at Try.func55 (by decide) comp55 rfl fun Q q1 q2 => ?_
  simp -implicitDefEqProofs only [go_sem, Nat.reduceBEq, Nat.reduceAdd, eq_self, true_and, and_true, and_self, List.getElem?_cons_zero, List.getElem?_cons_succ, Nat.reduceLeDiff, Nat.zero_add, Nat.reduceSub, Nat.le_refl, c55]
  refine call_at (aseq_ok hj hF hO hOd) ?_
  rintro v τ ⟨h1, h2⟩
  refine ⟨kept_none, ?_⟩
  simp -implicitDefEqProofs only [go_sem, Nat.reduceBEq, Nat.reduceAdd, eq_self, true_and, and_true, and_self, List.getElem?_cons_zero, List.getElem?_cons_succ, Nat.reduceLeDiff, Nat.zero_add, Nat.reduceSub, Nat.le_refl, Nat.lt_irrefl]
  refine q2 _ _ ?_
  simp -implicitDefEqProofs only [go_sem, Nat.reduceBEq, Nat.reduceAdd, eq_self, true_and, and_true, and_self, List.getElem?_cons_zero, List.getElem?_cons_succ, Nat.reduceLeDiff, Nat.zero_add, Nat.reduceSub, Nat.le_refl, Nat.lt_irrefl]
  exact ⟨h1, h2⟩
theorem EachIs.od {σ τ : St} {L : List Cg} {O : List (V × Cg)} (h : O.map (·.2) = L) (hd : ∀ g ∈ L, g.deps.length ≤ 2000000) : ∀ p ∈ O, p.2.deps.length ≤ 2000000 := fun p hp => hd _ (by rw [← h]; exact List.mem_map_of_mem hp)
theorem Good.all {L : List Cg} (h : Good L) : eachL L [] = L := by
  unfold eachL
  rw [show decide (clockI [] = 0) = true from rfl]
  show allR L [] = L
  unfold allR
  rw [List.filter_eq_self]
  intro g hg
  have := (chk_has (h.chk g hg)).2.1
  have h0 : atD [] g.ar = 0 := by unfold atD; simp
  unfold inC
  rw [h0, Bool.not_eq_true', decide_eq_false_iff_not]
  omega
theorem NewC.pre {σ τ σ' : St} {v : V} {L : List Cg} (h : NewC τ σ' v L) (he : Ext σ τ) : NewC σ σ' v L := by
  obtain ⟨O, h1, h2⟩ := h
  exact ⟨O, h1.mono he.llen, h2⟩
set_option maxRecDepth 100000 in
theorem all_at (hE : CallA Try.prog 13 [p, .sl true .pub 0 []] σ fun v σ' => EachIs σ σ' v L ∧ Ext σ σ') (hL : L.length ≤ 1000000) (hd : ∀ g ∈ L, g.deps.length ≤ 2000000) :
    CallA Try.prog 25 [p] σ fun v σ' => NewC σ σ' v L ∧ Ext σ σ' := by
  refine fn_at Try.func25 (by decide) comp25 rfl fun Q q1 q2 => ?_
  simp -implicitDefEqProofs only [go_sem, Nat.reduceBEq, Nat.reduceAdd, eq_self, true_and, and_true, and_self, List.getElem?_cons_zero, List.getElem?_cons_succ, Nat.reduceLeDiff, Nat.zero_add, Nat.reduceSub, Nat.le_refl, c25]
  refine call_at hE ?_
  rintro v τ ⟨⟨j, w, O, rfl, hj, hw, hF, hO⟩, e1⟩
  refine ⟨kept_none, ?_⟩
  have hOl : O.length ≤ 1000000 := by rw [← hO, List.length_map] at hL; exact hL
  simp -implicitDefEqProofs only [go_sem, Nat.reduceBEq, Nat.reduceAdd, eq_self, true_and, and_true, and_self, List.getElem?_cons_zero, List.getElem?_cons_succ, Nat.reduceLeDiff, Nat.zero_add, Nat.reduceSub, Nat.le_refl, Nat.lt_irrefl]
  refine call_at (coll_ok hw hF hOl (EachIs.od (σ := σ) (τ := τ) hO hd)) ?_
  rintro v τ2 ⟨h1, h2⟩
  refine ⟨kept_none, ?_⟩
  simp -implicitDefEqProofs only [go_sem, Nat.reduceBEq, Nat.reduceAdd, eq_self, true_and, and_true, and_self, List.getElem?_cons_zero, List.getElem?_cons_succ, Nat.reduceLeDiff, Nat.zero_add, Nat.reduceSub, Nat.le_refl, Nat.lt_irrefl]
  refine q2 _ _ ?_
  simp -implicitDefEqProofs only [go_sem, Nat.reduceBEq, Nat.reduceAdd, eq_self, true_and, and_true, and_self, List.getElem?_cons_zero, List.getElem?_cons_succ, Nat.reduceLeDiff, Nat.zero_add, Nat.reduceSub, Nat.le_refl, Nat.lt_irrefl]
  rw [hO] at h1
  exact ⟨h1.pre e1, e1.trans h2⟩
theorem all_ok (h : LogIs σ i mo s ov room P) (hl : P.length ≤ 1000000) : CallA Try.prog 25 [.ptr (some (i, 0))] σ fun v σ' => NewC σ σ' v (cgL P) ∧ Ext σ σ' := by
  have hk : RdS σ (.sl true .pub 0 []) 1 (intsV .i64 []) := ⟨_, _, _, rfl, fun _ => rfl, .inl rfl⟩
  have := each_ok h hl hk
  rw [h.good.all] at this
  exact all_at this (by rw [map2_len]; exact hl) fun g hg => by have := h.good.deps g hg; omega
end
end Go.VL.opl

namespace Go.VL
open Go

section
variable {H : Type} {enc : TypeId × Value → H} {P : Program} {w w' : World} {base : Nat} {sp : Nat → Bool} {held : Bool}

theorem OldKept.same {W W' : World} (h : OldKept W W') {p : MemPlace} (hp : p.block < W.heap.size) : W.sameAt W' p := by
  have h1 : W.heap[p.block]? = some W.heap[p.block] := Array.getElem?_eq_getElem hp
  have h2 := h.heap _ _ h1
  cases p with
  | cell b off =>
    simp only [MemPlace.block] at h1 h2
    simp only [World.sameAt, World.cell?, h1, h2]
  | map b =>
    simp only [MemPlace.block] at h1 h2
    simp only [World.sameAt, h1, h2]

end
end Go.VL

namespace Go.VL
open Go

/-- Cells that were there from the start. -/
theorem pub_cells {W : World} {a : Addr} {vs : List Value} (h : ∀ (i : Nat) v, vs[i]? = some v → W.cell? ⟨a.block, a.off + i, none⟩ = some v) : pubAt (g0 W) a.block a.off vs := by
  intro i v hv
  have hc := h i v hv
  simp only [g0, pubOf]
  unfold World.cell? at hc
  cases hb : W.heap[a.block]? with
  | none => rw [hb] at hc; cases hc
  | some o =>
    rw [hb] at hc
    cases o with
    | cells c e z => simpa using hc
    | _ => cases hc

end Go.VL

namespace Go.VL
open Go Go.ChangeShapes Go.WideShapes Go.ChangeAt Go.RowKit

/-- Shapes of what is read. -/
inductive T where
  | int (k : IntKind)
  | bool
  | str
  | sl (s : Nat) (e : T)
  | agg (l : List T)
  | arr (n : Nat) (e : T)

def tysOf (P : Program) (f : TypeId → Option T) (all : Nat) : Nat → List Field → Option (List T)
  | o, [] => bif Nat.beq o all then some [] else none
  | o, x :: r => bif Nat.beq x.offset o then (match f x.type, tysOf P f all (o + P.cellsOf x.type) r with
    | some a, some b => some (a :: b)
    | _, _ => none) else none
/-- A type's shape. -/
def tyOf (P : Program) : Nat → TypeId → Option T
  | 0, _ => none
  | n + 1, t => match P.underlying t with
    | some (.int k) => bif Nat.beq (P.cellsOf t) 1 then some (.int k) else none
    | some .bool => bif Nat.beq (P.cellsOf t) 1 then some .bool else none
    | some .string => bif Nat.beq (P.cellsOf t) 1 then some .str else none
    | some (.slice e) => bif Nat.beq (P.cellsOf t) 1 && Nat.ble 1 (P.cellsOf e) then (tyOf P n e).map (.sl (P.cellsOf e)) else none
    | some (.struct fs) => (tysOf P (tyOf P n) (P.cellsOf t) 0 fs.toList).map .agg
    | some (.array m e) => bif Nat.beq (P.cellsOf t) (m * P.cellsOf e) then (tyOf P n e).map (.arr m) else none
    | _ => none

mutual
/-- Cells of a shape. -/
def T.has : T → List V → Prop
  | .int k, xs => ∃ n, xs = [.int k n] ∧ (Lit.int k n).wf = true
  | .bool, xs => ∃ b, xs = [.bool b]
  | .str, xs => ∃ s, xs = [.str s]
  | .sl s e, xs => xs = [.sl true .pub 0 []] ∨ ∃ es, xs = [.sl false .pub s es] ∧ ∀ x ∈ es, e.has x
  | .agg l, xs => T.hasL l xs
  | .arr n e, xs => ∃ l : List (List V), l.length = n ∧ xs = l.flatten ∧ ∀ x ∈ l, e.has x
def T.hasL : List T → List V → Prop
  | [], xs => xs = []
  | t :: r, xs => ∃ a b, xs = a ++ b ∧ t.has a ∧ T.hasL r b
end

mutual
/-- How much there is of it. -/
def vb : V → Nat
  | .str s => s.length + 1
  | .sl _ _ _ es => vbe es + 1
  | .int _ _ | .bool _ | .agg _ | .tup _ | .ptr _ | .elt _ _ _ _ _ | .map _ | .osl _ _ _ _ | .fn _ _ | .nilf | .raw _ | .bad => 1
def vbs : List V → Nat
  | [] => 0
  | x :: r => vb x + vbs r
def vbe : List (List V) → Nat
  | [] => 0
  | x :: r => vbs x + vbe r
end
theorem vbs_append : ∀ (a b : List V), vbs (a ++ b) = vbs a + vbs b
  | [], b => by simp [vbs]
  | x :: a, b => by simp [vbs, vbs_append a b, Nat.add_assoc]
theorem vbs_flatten : ∀ (l : List (List V)), vbs l.flatten = vbe l
  | [] => by simp [vbs, vbe]
  | x :: l => by simp [vbe, vbs_append, vbs_flatten l]

/-- A measure of data that counts at least so much. -/
structure Bulk {H : Type} (B : DataW H → Nat) : Prop where
  lit : ∀ l, 1 ≤ B (.lit l)
  str : ∀ s, s.length + 1 ≤ B (.lit (.string s))
  nil : 1 ≤ B .nil
  slice : ∀ es sp, (es.map B).sum + 1 ≤ B (.slice es sp)
  agg : ∀ ps, (ps.map B).sum ≤ B (.agg ps)

section
variable {H : Type} {enc : TypeId × Value → H} {P : Program} {W : World} {sp : Nat → Bool} {held : Bool} {B : DataW H → Nat}

/-- What is read is of its type's shape. -/
def Reads (W : World) (B : DataW H → Nat) (T0 : T) (c : Nat) (cs : List Value) (d : DataW H) : Prop :=
  ∃ xs, RepL (g0 W) xs cs ∧ T0.has xs ∧ vbs xs ≤ B d ∧ (∀ v ∈ cs, v.oneCell' = true) ∧ cs.length = c

theorem RepL.len {γ : G} : ∀ {xs : List V} {vs : List Value}, RepL γ xs vs → xs.length = vs.length
  | [], vs, h => by simp only [RepL] at h; subst h; rfl
  | x :: xs, vs, h => by
    simp only [RepL] at h
    obtain ⟨v, ws, rfl, _, h2⟩ := h
    simp [RepL.len h2]

theorem rows_read {T0 : T} {a : Addr} {c : Nat} (hsp : a.spot = none) : ∀ (elems : List (DataW H × List MemPlace)) (k : Nat),
    (∀ (i : Nat) y, elems[i]? = some y → ∃ cs, W.cells? 0 (a.add ((k + i) * c)) c = some cs ∧ Reads W B T0 c cs y.1) →
    ∃ es vs, es.length = elems.length ∧ RepE (g0 W) c es vs ∧ (∀ x ∈ es, T0.has x) ∧ vbe es ≤ ((elems.map (·.1)).map B).sum ∧ ∀ (j : Nat) v, vs[j]? = some v → W.cell? ⟨a.block, a.off + k * c + j, none⟩ = some v
  | [], k, _ => ⟨[], [], rfl, by simp [RepE], by simp, by simp [vbe], by simp⟩
  | y :: r, k, h => by
    obtain ⟨es, vs, h1, h2, h3, h4, h5⟩ := rows_read hsp r (k + 1) fun i y hy => by
      obtain ⟨cs, e1, e2⟩ := h (i + 1) y (by simpa using hy)
      exact ⟨cs, by rw [show k + 1 + i = k + (i + 1) from by omega]; exact e1, e2⟩
    obtain ⟨cs, e1, xs, f1, f2, f3, f4, f5⟩ := h 0 y rfl
    obtain ⟨_, g1, g2⟩ := World.cells?_some e1
    refine ⟨xs :: es, cs ++ vs, by simp [h1], ?_, ?_, ?_, ?_⟩
    · simp only [RepE]
      exact ⟨cs, vs, rfl, by rw [f1.len, f5], f1, h2, f4⟩
    · intro x hx
      rcases List.mem_cons.1 hx with rfl | hx
      · exact f2
      · exact h3 x hx
    · simp only [vbe, List.map_cons, List.sum_cons]; omega
    · intro j v hv
      by_cases hj : j < cs.length
      · rw [List.getElem?_append_left hj] at hv
        have := g2 j (by omega)
        rw [hv, Nat.add_zero, add_spot hsp, add_spot rfl] at this
        exact this
      · rw [List.getElem?_append_right (by omega)] at hv
        have := h5 _ _ hv
        rw [show a.off + k * c + j = a.off + (k + 1) * c + (j - cs.length) from by rw [Nat.succ_mul]; omega]
        exact this

theorem fields_read (hB : Bulk B) {f : TypeId → Option T} {rd : TypeId → List Value → Option (DataW H × List MemPlace)} (ih : ∀ t T0 cs d ps, f t = some T0 → rd t cs = some (d, ps) → Reads W B T0 (P.cellsOf t) cs d) {all : Nat} :
    ∀ (fs : List Field) (o : Nat) (Ts : List T) (cs : List Value) (xs : List (DataW H × List MemPlace)), tysOf P f all o fs = some Ts → cs.length + o = all → xs.length = fs.length →
      (∀ (i : Nat) (x : Field), fs[i]? = some x → rd x.type ((cs.drop (x.offset - o)).take (P.cellsOf x.type)) = xs[i]?) →
      ∃ ys, RepL (g0 W) ys cs ∧ T.hasL Ts ys ∧ vbs ys ≤ ((xs.map (·.1)).map B).sum ∧ (∀ v ∈ cs, v.oneCell' = true)
  | [], o, Ts, cs, xs, ht, hl, hx, h => by
    simp only [tysOf] at ht
    cases hb : Nat.beq o all with
    | false => simp [hb] at ht
    | true =>
      simp only [hb, cond_true, Option.some.injEq] at ht
      subst ht
      have := Nat.eq_of_beq_eq_true hb
      have : cs = [] := by apply List.eq_nil_of_length_eq_zero; omega
      subst this
      exact ⟨[], by simp [RepL], by simp [T.hasL], by simp [vbs], by simp⟩
  | x :: r, o, Ts, cs, xs, ht, hl, hx, h => by
    simp only [tysOf] at ht
    cases hb : Nat.beq x.offset o with
    | false => simp [hb] at ht
    | true =>
      have ho := Nat.eq_of_beq_eq_true hb
      simp only [hb, cond_true] at ht
      split at ht
      · rename_i a b ha hbb
        simp only [Option.some.injEq] at ht
        subst ht
        cases xs with
        | nil => simp at hx
        | cons y ys =>
          have h0 := h 0 x rfl
          simp only [ho, Nat.sub_self, List.drop_zero, List.getElem?_cons_zero] at h0
          obtain ⟨zs, f1, f2, f3, f4, f5⟩ := ih _ _ _ _ _ ha h0
          have hle : P.cellsOf x.type ≤ cs.length := by rw [← f5, List.length_take]; omega
          obtain ⟨us, k1, k2, k3, k4⟩ := fields_read hB ih r (o + P.cellsOf x.type) b (cs.drop (P.cellsOf x.type)) ys hbb (by rw [List.length_drop]; omega) (by simpa using hx) (by
            intro i fd hfd
            have := h (i + 1) fd (by simpa using hfd)
            simp only [List.getElem?_cons_succ] at this
            rw [← this, List.drop_drop]
            -- a field's place is not ahead of where we are
            have hge : o + P.cellsOf x.type ≤ fd.offset := tysOf_ge hbb hfd
            congr 3
            omega)
          refine ⟨zs ++ us, ?_, ⟨zs, us, rfl, f2, k2⟩, ?_, ?_⟩
          · rw [← List.take_append_drop (P.cellsOf x.type) cs]
            exact f1.append k1
          · rw [vbs_append]; simp only [List.map_cons, List.sum_cons]; omega
          · intro v hv
            rw [← List.take_append_drop (P.cellsOf x.type) cs] at hv
            rcases List.mem_append.1 hv with hv | hv
            · exact f4 v hv
            · exact k4 v hv
      · cases ht
where
  tysOf_ge {f : TypeId → Option T} {all : Nat} : ∀ {fs : List Field} {o : Nat} {Ts : List T} {i : Nat} {fd : Field}, tysOf P f all o fs = some Ts → fs[i]? = some fd → o ≤ fd.offset
    | [], o, Ts, i, fd, _, h => by simp at h
    | x :: r, o, Ts, i, fd, ht, h => by
      simp only [tysOf] at ht
      cases hb : Nat.beq x.offset o with
      | false => simp [hb] at ht
      | true =>
        have ho := Nat.eq_of_beq_eq_true hb
        simp only [hb, cond_true] at ht
        split at ht
        · rename_i a b ha hbb
          cases i with
          | zero => simp only [List.getElem?_cons_zero, Option.some.injEq] at h; subst h; omega
          | succ i =>
            simp only [List.getElem?_cons_succ] at h
            have := tysOf_ge hbb h
            omega
        · cases ht

theorem arr_read {T0 : T} {c : Nat} {rd : List Value → Option (DataW H × List MemPlace)} (ih : ∀ cs d ps, rd cs = some (d, ps) → Reads W B T0 c cs d) :
    ∀ (n : Nat) (cs : List Value) (xs : List (DataW H × List MemPlace)), cs.length = n * c → xs.length = n → (∀ (i : Nat), i < n → rd ((cs.drop (i * c)).take c) = xs[i]?) →
      ∃ l : List (List V), l.length = n ∧ RepL (g0 W) l.flatten cs ∧ (∀ x ∈ l, T0.has x) ∧ vbe l ≤ ((xs.map (·.1)).map B).sum ∧ (∀ v ∈ cs, v.oneCell' = true)
  | 0, cs, xs, hl, hx, h => by
    have : cs = [] := by apply List.eq_nil_of_length_eq_zero; omega
    subst this
    exact ⟨[], rfl, by simp [RepL], by simp, by simp [vbe], by simp⟩
  | n + 1, cs, xs, hl, hx, h => by
    cases xs with
    | nil => simp at hx
    | cons y ys =>
      have h0 := h 0 (by omega)
      simp only [Nat.zero_mul, List.drop_zero, List.getElem?_cons_zero] at h0
      obtain ⟨zs, f1, f2, f3, f4, f5⟩ := ih _ _ _ h0
      obtain ⟨l, k1, k2, k3, k4, k5⟩ := arr_read ih n (cs.drop c) ys (by rw [List.length_drop, hl, Nat.succ_mul]; omega) (by simpa using hx) (fun i hi => by
        have := h (i + 1) (by omega)
        simp only [List.getElem?_cons_succ] at this
        rw [← this, List.drop_drop, Nat.succ_mul, Nat.add_comm])
      refine ⟨zs :: l, by simp [k1], ?_, ?_, ?_, ?_⟩
      · rw [List.flatten_cons, ← List.take_append_drop c cs]
        exact f1.append k2
      · intro x hx
        rcases List.mem_cons.1 hx with rfl | hx
        · exact f2
        · exact k3 x hx
      · simp only [vbe, List.map_cons, List.sum_cons]; omega
      · intro v hv
        rw [← List.take_append_drop c cs] at hv
        rcases List.mem_append.1 hv with hv | hv
        · exact f4 v hv
        · exact k5 v hv

theorem one_read {x : V} {v : Value} {T0 : T} {d : DataW H} (hr : Rep (g0 W) x v) (ht : T0.has [x]) (hb : vb x ≤ B d) (h1 : v.oneCell' = true) : Reads W B T0 1 [v] d :=
  ⟨[x], by simp only [RepL]; exact ⟨v, [], rfl, hr, rfl⟩, ht, by simpa [vbs] using hb, by simpa using h1, rfl⟩

theorem read_has (hB : Bulk B) : ∀ (n : Nat) (t : TypeId) (T0 : T) (fuel : Nat) (cs : List Value) (d : DataW H) (ps : List MemPlace), tyOf P n t = some T0 → DataW.trod enc P W 0 sp held fuel t cs = some (d, ps) → Reads W B T0 (P.cellsOf t) cs d
  | 0, t, T0, fuel, cs, d, ps, ht, _ => by simp [tyOf] at ht
  | n + 1, t, T0, fuel, cs, d, ps, ht, h => by
    have c1 : ∀ {x : Option T}, (bif Nat.beq (P.cellsOf t) 1 then x else none) = some T0 → P.cellsOf t = 1 ∧ x = some T0 := by
      intro x hx
      cases hb : Nat.beq (P.cellsOf t) 1 with
      | false => simp [hb] at hx
      | true => exact ⟨Nat.eq_of_beq_eq_true hb, by simpa [hb] using hx⟩
    simp only [tyOf] at ht
    split at ht
    · rename_i k hu
      obtain ⟨hc, h0⟩ := c1 ht
      cases h0
      rw [hc]
      obtain ⟨n', rfl, h1, hw⟩ := DataW.trod_int hu h
      simp only [Prod.mk.injEq] at h1
      obtain ⟨rfl, rfl⟩ := h1
      exact one_read (x := .int k n') (by simp only [Rep]) ⟨_, rfl, hw⟩ (by simpa [vb] using hB.lit _) rfl
    · rename_i hu
      obtain ⟨hc, h0⟩ := c1 ht
      cases h0
      rw [hc]
      obtain ⟨b, rfl, h1⟩ := DataW.trod_bool hu h
      simp only [Prod.mk.injEq] at h1
      obtain ⟨rfl, rfl⟩ := h1
      exact one_read (x := .bool b) (by simp only [Rep]) ⟨_, rfl⟩ (by simpa [vb] using hB.lit _) rfl
    · rename_i hu
      obtain ⟨hc, h0⟩ := c1 ht
      cases h0
      rw [hc]
      obtain ⟨s, rfl, h1, _⟩ := DataW.trod_string hu h
      simp only [Prod.mk.injEq] at h1
      obtain ⟨rfl, rfl⟩ := h1
      exact one_read (x := .str s.data.toList) (by simp only [Rep]) ⟨_, rfl⟩ (by simp only [vb]; exact hB.str _) rfl
    · rename_i e hu
      cases hb : (Nat.beq (P.cellsOf t) 1 && Nat.ble 1 (P.cellsOf e)) with
      | false => simp [hb] at ht
      | true =>
        simp only [hb, cond_true, Option.map_eq_some_iff] at ht
        obtain ⟨Te, hTe, rfl⟩ := ht
        simp only [Bool.and_eq_true] at hb
        have hc := Nat.eq_of_beq_eq_true hb.1
        have he := Nat.le_of_ble_eq_true hb.2
        rw [hc]
        rcases DataW.trod_slice hu h with ⟨rfl, h0⟩ | ⟨a, len, cap, elems, rest, m, _, rfl, h0, _, hl, _, hlen, hel, _⟩
        · simp only [Prod.mk.injEq] at h0
          obtain ⟨rfl, rfl⟩ := h0
          exact one_read (x := .sl true .pub 0 []) (by simp [Rep]) (.inl rfl) (by simpa [vb, vbe] using hB.nil) rfl
        · simp only [Prod.mk.injEq] at h0
          obtain ⟨rfl, rfl⟩ := h0
          have each : ∀ (i : Nat) y, elems[i]? = some y → ∃ cs, W.cells? 0 (a.add ((0 + i) * P.cellsOf e)) (P.cellsOf e) = some cs ∧ Reads W B Te (P.cellsOf e) cs y.1 := by
            intro i y hy
            have hi : i < len := by rw [← hlen]; exact (List.getElem?_eq_some_iff.1 hy).1
            have := hel i hi
            rw [hy, Option.bind_eq_some_iff] at this
            obtain ⟨cs, e1, e2⟩ := this
            exact ⟨cs, by rw [Nat.zero_add]; exact e1, read_has hB n e Te m cs y.1 y.2 hTe e2⟩
          by_cases hsp : a.spot = none
          · obtain ⟨es, vs, k1, k2, k3, k4, k5⟩ := rows_read hsp elems 0 each
            refine one_read (x := .sl false .pub (P.cellsOf e) es) ?_ (.inr ⟨es, rfl, k3⟩) ?_ rfl
            · simp only [Rep]
              exact ⟨a, cap, vs, by rw [k1, hlen], .inr hsp, by omega, pub_cells (fun i v hv => by simpa using k5 i v hv), k2⟩
            · have := hB.slice (elems.map (·.1)) (rest.map (·.1))
              simp only [vb]
              omega
          · have hnil : elems = [] := by
              cases elems with
              | nil => rfl
              | cons y r =>
                exfalso
                obtain ⟨cs, e1, _⟩ := each 0 y rfl
                obtain ⟨_, g1, g2⟩ := World.cells?_some e1
                have := g2 0 he
                have h0 : (a.add ((0 + 0) * P.cellsOf e)).add 0 = a := by simp [Addr.add]
                rw [h0] at this
                have hcs : cs[0]? = some cs[0] := List.getElem?_eq_getElem (by omega)
                rw [hcs] at this
                unfold World.cell? at this
                split at this
                · cases hx : a.spot with
                  | none => exact hsp hx
                  | some b => simp [hx] at this
                · cases this
            subst hnil
            refine one_read (x := .sl false .pub (P.cellsOf e) []) ?_ (.inr ⟨[], rfl, by simp⟩) ?_ rfl
            · simp only [Rep]
              simp only [List.length_nil] at hlen
              exact ⟨a, cap, [], by rw [← hlen]; rfl, .inl trivial, by simp, fun i v hv => by simp at hv, by simp [RepE]⟩
            · have := hB.slice ([] : List (DataW H)) (rest.map (·.1))
              simp only [vb, vbe]
              simp only [List.map_nil, List.sum_nil] at this ⊢
              omega
    · rename_i fs hu
      simp only [Option.map_eq_some_iff] at ht
      obtain ⟨Ts, hTs, rfl⟩ := ht
      obtain ⟨xs, m, _, h0, hl, hlen, hf⟩ := DataW.trod_struct hu h
      simp only [Prod.mk.injEq] at h0
      obtain ⟨rfl, rfl⟩ := h0
      obtain ⟨ys, k1, k2, k3, k4⟩ := fields_read (P := P) hB (f := tyOf P n) (rd := fun t cs => DataW.trod enc P W 0 sp held m t cs) (fun t T0 cs d ps h1 h2 => read_has hB n t T0 m cs d ps h1 h2) fs.toList 0 Ts cs xs hTs (by omega) (by simpa using hlen)
        (fun i x hx => by simpa using hf i x (by simpa using hx))
      exact ⟨ys, k1, k2, Nat.le_trans k3 (hB.agg _), k4, hl⟩
    · rename_i m e hu
      cases hb : Nat.beq (P.cellsOf t) (m * P.cellsOf e) with
      | false => simp [hb] at ht
      | true =>
        simp only [hb, cond_true, Option.map_eq_some_iff] at ht
        obtain ⟨Te, hTe, rfl⟩ := ht
        have hc := Nat.eq_of_beq_eq_true hb
        obtain ⟨xs, q, _, h0, hl, hlen, hf⟩ := DataW.trod_array hu h
        simp only [Prod.mk.injEq] at h0
        obtain ⟨rfl, rfl⟩ := h0
        obtain ⟨l, k1, k2, k3, k4, k5⟩ := arr_read (rd := fun cs => DataW.trod enc P W 0 sp held q e cs) (T0 := Te) (c := P.cellsOf e) (W := W) (B := B) (fun cs d ps h2 => read_has hB n e Te q cs d ps hTe h2) m cs xs (by rw [hl, hc]) hlen hf
        exact ⟨l.flatten, k2, ⟨l, k1, rfl, k3⟩, by rw [vbs_flatten]; exact Nat.le_trans k4 (hB.agg _), k5, hl⟩
    · cases ht

/-- An argument of a shape. -/
def T.arg : T → V → Prop
  | .agg l, x => ∃ xs, x = .agg xs ∧ T.hasL l xs
  | .arr n e, x => ∃ xs, x = .agg xs ∧ (T.arr n e).has xs
  | t, x => t.has [x]
def T.args : List T → List V → Prop
  | [], xs => xs = []
  | t :: r, xs => ∃ x ys, xs = x :: ys ∧ t.arg x ∧ T.args r ys
def vba : V → Nat
  | .agg xs => vbs xs
  | x => vb x
def vbas : List V → Nat
  | [] => 0
  | x :: r => vba x + vbas r

theorem vba_one {x : V} (h : ∀ xs, x ≠ .agg xs) : vba x = vbs [x] := by
  cases x <;> first | rfl | exact absurd rfl (h _)

def tysAll (P : Program) (n : Nat) : List TypeId → Option (List T)
  | [] => some []
  | t :: r => match tyOf P n t, tysAll P n r with
    | some a, some b => some (a :: b)
    | _, _ => none

theorem cells_one {v q : Value} (hq : v.cells.toList = [q]) (ha : ∀ cs, v ≠ .agg cs) : v.cells.toList = [v] := by
  cases v <;> first | rfl | exact absurd rfl (ha _)

theorem arg_read (hB : Bulk B) {n : Nat} {t : TypeId} {T0 : T} {base : Nat} {v : Value} {d : DataW H} {ps : List MemPlace} (ht : tyOf P n t = some T0) (hok : Value.okWide P W .any base t v) (h : DataW.Trod enc P W 0 sp held t v d ps) :
    ∃ x, Rep (g0 W) x v ∧ T0.arg x ∧ vba x ≤ B d := by
  obtain ⟨fuel, h⟩ := h
  obtain ⟨xs, k1, k2, k3, k4, k5⟩ := read_has hB n t T0 fuel _ d ps ht h
  have flat : ∀ (T1 : T), T0 = T1 → (∀ x, T1.has [x] → T1.arg x ∧ ∀ xs, x ≠ .agg xs) → v.cells.toList = [v] → (∃ x, xs = [x]) → ∃ x, Rep (g0 W) x v ∧ T0.arg x ∧ vba x ≤ B d := by
    rintro T1 rfl ha hv ⟨x, rfl⟩
    rw [hv] at k1
    simp only [RepL, List.cons.injEq] at k1
    obtain ⟨w, ws, ⟨rfl, rfl⟩, k1, -⟩ := k1
    obtain ⟨a1, a2⟩ := ha x k2
    exact ⟨x, k1, a1, by rw [vba_one a2]; exact k3⟩
  have agg : ∀ cs, v = .agg cs → Rep (g0 W) (.agg xs) v := by
    intro cs hv
    subst hv
    simp only [Rep]
    exact ⟨cs.toList, by simp, k1⟩
  cases n with
  | zero => simp [tyOf] at ht
  | succ n =>
    unfold Value.okWide at hok
    simp only [tyOf] at ht
    split at ht
    · rename_i k hu
      rw [hu] at hok
      have hT : T0 = .int k := by
        cases hb : Nat.beq (P.cellsOf t) 1 <;> simp [hb] at ht
        exact ht.symm
      subst hT
      obtain ⟨m, rfl, hw⟩ := k2
      exact flat _ rfl (fun x hx => ⟨hx, by obtain ⟨m, hx, _⟩ := hx; simp only [List.cons.injEq, and_true] at hx; subst hx; simp⟩) (by
        obtain ⟨q, hq, _⟩ := DataW.trod_int hu h
        exact cells_one hq (by intro cs hcs; subst hcs; simp [Cell.okWide, Cell.ok, hu] at hok)) ⟨_, rfl⟩
    · rename_i hu
      rw [hu] at hok
      have hT : T0 = .bool := by
        cases hb : Nat.beq (P.cellsOf t) 1 <;> simp [hb] at ht
        exact ht.symm
      subst hT
      obtain ⟨m, rfl⟩ := k2
      exact flat _ rfl (fun x hx => ⟨hx, by obtain ⟨m, hx⟩ := hx; simp only [List.cons.injEq, and_true] at hx; subst hx; simp⟩) (by
        obtain ⟨q, hq, _⟩ := DataW.trod_bool hu h
        exact cells_one hq (by intro cs hcs; subst hcs; simp [Cell.okWide, Cell.ok, hu] at hok)) ⟨_, rfl⟩
    · rename_i hu
      rw [hu] at hok
      have hT : T0 = .str := by
        cases hb : Nat.beq (P.cellsOf t) 1 <;> simp [hb] at ht
        exact ht.symm
      subst hT
      obtain ⟨m, rfl⟩ := k2
      exact flat _ rfl (fun x hx => ⟨hx, by obtain ⟨m, hx⟩ := hx; simp only [List.cons.injEq, and_true] at hx; subst hx; simp⟩) (by
        obtain ⟨q, hq, _⟩ := DataW.trod_string hu h
        exact cells_one hq (by intro cs hcs; subst hcs; simp [Cell.okWide, Cell.ok, hu] at hok)) ⟨_, rfl⟩
    · rename_i e hu
      rw [hu] at hok
      have hT : ∃ s Te, T0 = .sl s Te := by
        cases hb : (Nat.beq (P.cellsOf t) 1 && Nat.ble 1 (P.cellsOf e)) <;> simp [hb] at ht
        obtain ⟨Te, _, h⟩ := ht
        exact ⟨_, _, h.symm⟩
      obtain ⟨s, Te, rfl⟩ := hT
      have hxs : ∃ x, xs = [x] := by
        rcases k2 with rfl | ⟨es, rfl, _⟩ <;> exact ⟨_, rfl⟩
      exact flat _ rfl (fun x hx => ⟨hx, by
        rcases hx with hx | ⟨es, hx, _⟩ <;> (simp only [List.cons.injEq, and_true] at hx; subst hx; simp)⟩) (by
        have : ∃ q, v.cells.toList = [q] := by
          rcases DataW.trod_slice hu h with ⟨hq, _⟩ | ⟨a, len, cap, elems, rest, m, _, hq, _⟩ <;> exact ⟨_, hq⟩
        obtain ⟨q, hq⟩ := this
        exact cells_one hq (by intro cs hcs; subst hcs; simp [Cell.okWide, Cell.ok, hu] at hok)) hxs
    · rename_i fs hu
      rw [hu] at hok
      obtain ⟨cs, hv, _⟩ := hok
      simp only [Option.map_eq_some_iff] at ht
      obtain ⟨Ts, hTs, rfl⟩ := ht
      exact ⟨.agg xs, agg cs hv, ⟨xs, rfl, k2⟩, k3⟩
    · rename_i m e hu
      rw [hu] at hok
      obtain ⟨cs, hv, _⟩ := hok
      have hT : ∃ Te, T0 = .arr m Te := by
        cases hb : Nat.beq (P.cellsOf t) (m * P.cellsOf e) <;> simp [hb] at ht
        obtain ⟨Te, _, h⟩ := ht
        exact ⟨_, h.symm⟩
      obtain ⟨Te, rfl⟩ := hT
      exact ⟨.agg xs, agg cs hv, ⟨xs, rfl, k2⟩, k3⟩
    · cases ht
theorem args_read (hB : Bulk B) {n base : Nat} : ∀ (ts : List TypeId) (Ts : List T) (vs : List Value) (ds : List (DataW H)) (ps : List MemPlace), tysAll P n ts = some Ts → (∀ (j : Nat) t v, ts[j]? = some t → vs[j]? = some v → Value.okWide P W .any base t v) →
    DataW.TrodAll enc P W 0 sp held ts vs ds ps → ∃ xs, RepL (g0 W) xs vs ∧ T.args Ts xs ∧ vbas xs ≤ (ds.map B).sum
  | [], Ts, [], [], ps, ht, _, _ => by
    simp only [tysAll, Option.some.injEq] at ht
    subst ht
    exact ⟨[], by simp [RepL], by simp [T.args], by simp [vbas]⟩
  | t :: ts, Ts, v :: vs, d :: ds, ps, ht, hok, ⟨p, q, h1, h2, _⟩ => by
    simp only [tysAll] at ht
    split at ht
    · rename_i a b ha hb
      simp only [Option.some.injEq] at ht
      subst ht
      obtain ⟨x, e1, e2, e3⟩ := arg_read hB ha (hok 0 t v rfl rfl) h1
      obtain ⟨xs, f1, f2, f3⟩ := args_read hB ts b vs ds q hb (fun j t v h1 h2 => hok (j + 1) t v (by simpa using h1) (by simpa using h2)) h2
      refine ⟨x :: xs, by simp only [RepL]; exact ⟨v, vs, rfl, e1, f1⟩, ⟨x, xs, rfl, e2, f2⟩, ?_⟩
      simp only [vbas, List.map_cons, List.sum_cons]; omega
    · cases ht
  | [], _, _ :: _, _, _, _, _, h => by simp [DataW.TrodAll] at h
  | [], _, [], _ :: _, _, _, _, h => by simp [DataW.TrodAll] at h
  | _ :: _, _, [], _, _, _, _, h => by simp [DataW.TrodAll] at h
  | _ :: _, _, _ :: _, [], _, _, _, h => by simp [DataW.TrodAll] at h

theorem trodAll_stays (hl : laidOutB P = true) {W' : World} {sp' : Nat → Bool} : ∀ {ts : List TypeId} {vs : List Value} {ds : List (DataW H)} {ps : List MemPlace}, (ts.all fun t => P.readableRec t && decide (t < P.types.size)) = true →
    DataW.TrodAll enc P W 0 (fun _ => true) true ts vs ds ps → (∀ p ∈ ps, W.sameAt W' p) → (∀ p ∈ ps, sp' p.block = true) → DataW.TrodAll enc P W' 0 sp' true ts vs ds ps
  | [], [], [], _, _, h, _, _ => h
  | _ :: _, _ :: _, _ :: _, _, hr, ⟨p, q, h1, h2, e⟩, hs, hp => by
    simp only [List.all_cons, Bool.and_eq_true, decide_eq_true_eq] at hr
    exact ⟨p, q, WideElems.Trod_stays hl hr.1.1 hr.1.2 h1 (fun x hx => hs x (by rw [e]; exact List.mem_append_left _ hx)) (fun x hx => hp x (by rw [e]; exact List.mem_append_left _ hx)),
      trodAll_stays hl (by simpa using hr.2) h2 (fun x hx => hs x (by rw [e]; exact List.mem_append_right _ hx)) (fun x hx => hp x (by rw [e]; exact List.mem_append_right _ hx)), e⟩

/-- A law's contract, from V-logic: whatever the arguments of the types' shapes, it tells true. -/
theorem law_calls (hB : Bulk B) {f : Func} {fid : FuncId} {s : ChangeSpec} {W : World} {base n : Nat} {args : Array Value} {ds gs : List (DataW H)} {before : List MemPlace} {Ts : List T} {tb : TypeId}
    (hlo : laidOutB P = true) (hts : tysAll P n f.params.toList = some Ts) (hrd : (f.params.toList.all fun t => P.readableRec t && decide (t < P.types.size)) = true) (hvars : s.vars = []) (hres : f.resultTypes = #[tb]) (hb : P.underlying tb = some .bool)
    (hspec : ∀ ds : List (DataW H), ds.length = f.params.size → s.fn H ds = { results := [.lit (.bool true)], args := ds })
    (hval : ∀ (j : Nat) t v, f.params[j]? = some t → args[j]? = some v → Value.okWide P W .any base t v)
    (hW : DataW.Whole enc P f.params.toList s.vars false W args.toList ds gs before)
    (hc : ∀ xs, T.args Ts xs → vbas xs ≤ ((ds ++ gs).map B).sum → CallA P fid xs ⟨[], []⟩ fun v _ => v = .bool true) :
    Calls P fid args W fun e W' => ∃ v, e = .returned v ∧ s.post enc P f false true false false W args v W' := by
  have hW' := hW
  obtain ⟨p, q, hA, hV, rfl, hfz, hnd⟩ := hW
  rw [hvars] at hV
  obtain ⟨rfl, rfl⟩ := trodVars_none hV
  rw [List.append_nil] at hc
  have hlen : ∀ {ts : List TypeId} {vs : List Value} {ds : List (DataW H)} {ps : List MemPlace}, DataW.TrodAll enc P W 0 (fun _ => true) true ts vs ds ps → ds.length = ts.length := by
    intro ts
    induction ts with
    | nil => intro vs ds ps h; cases vs <;> cases ds <;> simp_all [DataW.TrodAll]
    | cons t ts ih =>
      intro vs ds ps h
      cases vs <;> cases ds <;> simp only [DataW.TrodAll] at h
      obtain ⟨_, _, _, h2, _⟩ := h
      simp [ih h2]
  have hs := hspec ds (by rw [hlen hA]; simp)
  obtain ⟨xs, k1, k2, k3⟩ := args_read hB f.params.toList Ts args.toList ds p hts (fun j t v h1 h2 => hval j t v (by simpa using h1) (by simpa using h2)) hA
  refine (entry (hc xs k2 k3) k1).mono fun e W' ⟨v, x, σ, γ, he, hk, hi, hx, hxv⟩ => ?_
  subst he hxv
  simp only [Rep] at hx
  subst hx
  simp only [List.append_nil] at hW'
  refine ⟨_, rfl, post_of_old (pa := p) (pv := []) (gs := []) (ds := ds) (before := p) (by simpa using hW') ?_ ?_ ?_ (by simp) hk (ok_one hres rfl (okWide_bool_mk hb _))⟩
  · intro b sp hd
    rw [List.append_nil, hs, hres]
    exact (trodAll_cons_mk (shut_bool hb _) trodAll_mk0)
  · intro sp hsp
    rw [List.append_nil, hs]
    exact trodAll_stays hlo hrd hA (fun x hx => hk.same (hW'.lt x (by simpa using hx))) hsp
  · intro sp _
    rw [List.append_nil, hs, hvars]
    rfl
end
end Go.VL
namespace Go.VL
open Go

/-- A slice whose elements are one cell. -/
theorem has_sl {s : Nat} {e : T} {x : V} (h : (T.sl s e).arg x) : ∃ es, (x = .sl true .pub 0 [] ∧ es = [] ∨ x = .sl false .pub s es) ∧ (∀ y ∈ es, e.has y) ∧ vbe es + 1 = vba x := by
  rcases h with h | ⟨es, h, h2⟩
  · simp only [List.cons.injEq, and_true] at h
    subst h
    exact ⟨[], .inl ⟨rfl, rfl⟩, by simp, by simp [vba, vb, vbe]⟩
  · simp only [List.cons.injEq, and_true] at h
    subst h
    exact ⟨es, .inr rfl, h2, by simp [vba, vb]⟩
theorem ints_of : ∀ {es : List (List V)}, (∀ y ∈ es, (T.int .i64).has y) → ∃ ns : List Int, es = intsV .i64 ns ∧ ns.length ≤ vbe es ∧ ∀ n ∈ ns, -9223372036854775808 ≤ n ∧ n < 9223372036854775808
  | [], _ => ⟨[], rfl, by simp, by simp⟩
  | y :: es, h => by
    obtain ⟨bs, rfl, h2, h3⟩ := ints_of (es := es) fun y hy => h y (by simp [hy])
    obtain ⟨n, rfl, hw⟩ := h y (by simp)
    have hr : -9223372036854775808 ≤ n ∧ n ≤ 9223372036854775807 := by
      simpa [Lit.wf, IntKind.min, IntKind.max, IntKind.signed, IntKind.bits] using hw
    refine ⟨n :: bs, rfl, by simp only [List.length_cons, vbe, vbs, vb]; omega, fun m hm => ?_⟩
    rcases List.mem_cons.1 hm with rfl | hm
    · omega
    · exact h3 m hm
end Go.VL
namespace Go.VL
open Go
end Go.VL

namespace Go.VL.opl
open Go Go.VL Go.Proofs Go.IntWalk Go.VL.st Go.VL.row

def StT : T := .agg [.int .i64, .int .i64]
def CgT : List T := [StT, .int .i64, .sl 1 (.int .i64), .int .i64, StT, StT, StT, .str, .str]
theorem has_ints {xs : List V} (h : (T.sl 1 (.int .i64)).has xs) : ∃ d l, xs = [d] ∧ (∀ σ, RdS σ d 1 (intsV .i64 l)) ∧ l.length < vbs xs := by
  rcases h with rfl | ⟨es, rfl, h⟩
  · exact ⟨_, [], rfl, fun σ => ⟨_, _, _, rfl, by simp [intsV], .inl rfl⟩, by simp [vbs, vb]⟩
  · obtain ⟨l, rfl, h2, h3⟩ := ints_of h
    exact ⟨_, l, rfl, fun σ => ⟨_, _, _, rfl, by simp, .inr ⟨trivial, rfl⟩⟩, by simp only [vbs, vb]; omega⟩
theorem has_st {xs : List V} (h : StT.has xs) : ∃ c r, xs = [.int .i64 c, .int .i64 r] := by
  obtain ⟨_, _, rfl, ⟨c, rfl, h1⟩, _, _, rfl, ⟨r, rfl, h2⟩, rfl⟩ := h
  exact ⟨c, r, rfl⟩
theorem has_cg {xs : List V} (h : T.hasL CgT xs) : ∃ d g, xs = cgC d g ∧ (∀ σ, RdS σ d 1 (intsV .i64 g.deps)) ∧ 13 + g.deps.length + g.name.length + g.val.length ≤ vbs xs := by
  obtain ⟨_, _, rfl, h1, _, _, rfl, ⟨seq, rfl, h2⟩, _, _, rfl, h3, _, _, rfl, ⟨kind, rfl, h4⟩, _, _, rfl, h5, _, _, rfl, h6, _, _, rfl, h7, _, _, rfl, ⟨name, rfl⟩, _, _, rfl, ⟨val, rfl⟩, rfl⟩ := h
  obtain ⟨ac, ar, rfl⟩ := has_st h1
  obtain ⟨d, deps, rfl, a3, a4⟩ := has_ints h3
  obtain ⟨nc, nr, rfl⟩ := has_st h5
  obtain ⟨pc, pr, rfl⟩ := has_st h6
  obtain ⟨fc, fr, rfl⟩ := has_st h7
  refine ⟨d, ⟨ac, ar, seq, deps, kind, nc, nr, pc, pr, fc, fr, name, val⟩, rfl, a3, ?_⟩
  simp only [List.cons_append, List.nil_append, List.append_nil, vbs, vb] at a4 ⊢
  omega
theorem cgs_of : ∀ {es : List (List V)}, (∀ y ∈ es, (T.agg CgT).has y) → ∃ l : List (V × Cg), es = cgsV l ∧ 13 * l.length ≤ vbe es ∧ ∀ p ∈ l, (∀ σ, RdS σ p.1 1 (intsV .i64 p.2.deps)) ∧ p.2.deps.length + p.2.name.length + p.2.val.length < vbe es
  | [], _ => ⟨[], rfl, by simp, by simp⟩
  | y :: es, h => by
    obtain ⟨l, rfl, h2, h3⟩ := cgs_of (es := es) fun y hy => h y (by simp [hy])
    obtain ⟨d, g, rfl, a1, a3⟩ := has_cg (h y (by simp))
    refine ⟨(d, g) :: l, rfl, by simp only [List.length_cons, vbe]; omega, fun q hq => ?_⟩
    simp only [vbe]
    rcases List.mem_cons.1 hq with rfl | hq
    · exact ⟨a1, by simp only; omega⟩
    · obtain ⟨b1, b3⟩ := h3 q hq
      exact ⟨b1, by omega⟩
/-- A list of changes, as an argument. -/
def ArgC (v : V) (gs : List Cg) : Prop := (∃ l : List (V × Cg), l.map (·.2) = gs ∧ (∀ σ, RdS σ v 13 (cgsV l)) ∧ ∀ p ∈ l, ∀ σ, RdS σ p.1 1 (intsV .i64 p.2.deps)) ∧ gs.length ≤ 90000 ∧ ∀ g ∈ gs, g.deps.length + g.name.length + g.val.length < 1048576
theorem arg_cgs {x : V} (h : (T.sl 13 (.agg CgT)).arg x) : ∃ gs, (vba x ≤ 1048576 → ArgC x gs) := by
  obtain ⟨es, h1, h2, h3⟩ := has_sl h
  obtain ⟨l, rfl, h4, h5⟩ := cgs_of h2
  refine ⟨l.map (·.2), fun hb => ⟨⟨l, rfl, fun σ => ?_, fun p hp => (h5 p hp).1⟩, by rw [List.length_map]; omega, fun g hg => ?_⟩⟩
  · rcases h1 with ⟨rfl, h1⟩ | rfl
    · rw [h1]; exact ⟨true, .pub, 0, rfl, by simp, .inl rfl⟩
    · exact ⟨false, .pub, 13, rfl, by simp, .inr ⟨trivial, rfl⟩⟩
  · obtain ⟨p, hp, rfl⟩ := List.mem_map.1 hg
    have := (h5 p hp).2
    omega
theorem ArgC.rd {v : V} {gs : List Cg} (h : ArgC v gs) (σ : St) : RdC σ v gs := by
  obtain ⟨⟨l, rfl, h1, h2⟩, -⟩ := h
  exact ⟨l, rfl, h1 σ, fun p hp => h2 p hp σ⟩
/-- The first change. -/
def cgF : Cg := ⟨1, 0, 1, [], 1, 1, 0, 0, 0, 0, 0, [112], []⟩
section
variable {σ : St} {i m j y : Nat} {mo : Option Nat} {s d v kv w p : V} {ov : List V} {room r n most : Int} {P O : List (V × Cg)} {g : Cg} {x : Sp} {l k : List Int} {L gs : List Cg}
set_option maxRecDepth 100000 in
theorem first_ok : CallA Try.prog 15 [] σ fun v σ' => v = cgV v0 cgF ∧ σ' = σ := by
  refine fn_at Try.func15 (by decide) comp15 rfl fun Q q1 q2 => ?_
  unfold cgF cgV cgC v0 at q2
  simp -implicitDefEqProofs only [go_sem, Nat.reduceBEq, Nat.reduceAdd, eq_self, true_and, and_true, and_self, List.getElem?_cons_zero, List.getElem?_cons_succ, Nat.reduceLeDiff, Nat.zero_add, Nat.reduceSub, Nat.le_refl, c15]
  refine q2 _ _ ?_
  simp -implicitDefEqProofs only [go_sem, Nat.reduceBEq, Nat.reduceAdd, eq_self, true_and, and_true, and_self, List.getElem?_cons_zero, List.getElem?_cons_succ, Nat.reduceLeDiff, Nat.zero_add, Nat.reduceSub, Nat.le_refl, Nat.lt_irrefl]
  try exact ⟨rfl, rfl⟩
theorem LTo.fresh {σ0 σ τ : St} {i : Nat} {mo : Option Nat} {s s' : V} {ov ov' : List V} (h : LTo σ τ i mo s s' ov ov') (he : Ext σ0 σ) (hf : ∀ j, Own i mo s ov j → σ0.objs.length ≤ j) : Ext σ0 τ ∧ ∀ j, Own i mo s' ov' j → σ0.objs.length ≤ j :=
  ⟨h.upd.toExt he hf, fun j hj => (h.own j hj).elim (hf j) fun hl => Nat.le_trans he.olen hl⟩
theorem v0_rd (σ : St) : RdS σ v0 1 (intsV .i64 []) := ⟨_, _, _, rfl, fun _ => rfl, .inl rfl⟩
theorem whyF : whyR [] 3 cgF = 0 := by decide
theorem whyF2 : whyR [cgF] 3 cgF = 5 := by decide
set_option maxRecDepth 100000 in
set_option maxHeartbeats 3200000 in
theorem awake_ok : CallA Try.prog 19 [] σ fun v σ' => v = .bool true ∧ Ext σ σ' := by
  refine fn_at Try.func19 (by decide) comp19 rfl fun Q q1 q2 => ?_
  have h00 : decide ((0 : Int) = 0) = true := by decide
  have h55 : decide ((5 : Int) = 5) = true := by decide
  have h11 : decide ((1 : Int) = 1) = true := by decide
  simp -implicitDefEqProofs only [go_sem, Nat.reduceBEq, Nat.reduceAdd, eq_self, true_and, and_true, and_self, List.getElem?_cons_zero, List.getElem?_cons_succ, Nat.reduceLeDiff, Nat.zero_add, Nat.reduceSub, Nat.le_refl, c19]
  refine call_at (new_ok (room := 3) rfl) ?_
  rintro v τ ⟨rfl, h0, he0⟩
  refine ⟨kept_none, ?_⟩
  have hf0 : ∀ j, Own (σ.objs.length + 1) (some σ.objs.length) (.sl true .pub 0 []) nilO j → σ.objs.length ≤ j := fun j hj => by
    rcases own_new hj with rfl | h
    · omega
    · cases h; omega
  simp -implicitDefEqProofs only [go_sem, Nat.reduceBEq, Nat.reduceAdd, eq_self, true_and, and_true, and_self, List.getElem?_cons_zero, List.getElem?_cons_succ, Nat.reduceLeDiff, Nat.zero_add, Nat.reduceSub, Nat.le_refl, h00]
  refine call_at first_ok ?_
  rintro v τ1 ⟨rfl, hτ⟩
  have hτ := hτ.symm
  subst hτ
  refine ⟨kept_none, ?_⟩
  simp -implicitDefEqProofs only [go_sem, Nat.reduceBEq, Nat.reduceAdd, eq_self, true_and, and_true, and_self, List.getElem?_cons_zero, List.getElem?_cons_succ, Nat.reduceLeDiff, Nat.zero_add, Nat.reduceSub, Nat.le_refl, Nat.lt_irrefl]
  refine call_at (add_ok h0 (by simp) (v0_rd _) (by decide)) ?_
  rintro v τ1 ⟨rfl, s1, ov1, P1, h1, hP1, k1, -⟩
  refine ⟨kept_none, ?_⟩
  obtain ⟨he1, hf1⟩ := k1.fresh he0 hf0
  have hL1 : cgL P1 = [cgF] := by rw [hP1]; decide
  have hw1 : whyR [] 3 cgF = 0 := whyF
  simp -implicitDefEqProofs only [go_sem, Nat.reduceBEq, Nat.reduceAdd, eq_self, true_and, and_true, and_self, List.getElem?_cons_zero, List.getElem?_cons_succ, Nat.reduceLeDiff, Nat.zero_add, Nat.reduceSub, Nat.le_refl, hw1, h00]
  refine call_at first_ok ?_
  rintro v τ2 ⟨rfl, hτ⟩
  have hτ := hτ.symm
  subst hτ
  refine ⟨kept_none, ?_⟩
  have hPl : P1.length = 1 := by have := congrArg List.length hL1; rw [List.length_map] at this; exact this
  simp -implicitDefEqProofs only [go_sem, Nat.reduceBEq, Nat.reduceAdd, eq_self, true_and, and_true, and_self, List.getElem?_cons_zero, List.getElem?_cons_succ, Nat.reduceLeDiff, Nat.zero_add, Nat.reduceSub, Nat.le_refl, Nat.lt_irrefl]
  refine call_at (add_ok h1 (by omega) (v0_rd _) (by decide)) ?_
  rintro v τ2 ⟨rfl, s2, ov2, P2, h2, hP2, k2, -⟩
  refine ⟨kept_none, ?_⟩
  obtain ⟨he2, hf2⟩ := k2.fresh he1 hf1
  rw [hL1] at hP2
  have hL2 : cgL P2 = [cgF] := by rw [hP2]; decide
  have hPl2 : P2.length = 1 := by have := congrArg List.length hL2; rw [List.length_map] at this; exact this
  have hw2 : whyR (cgL P1) 3 cgF = 5 := by rw [hL1]; exact whyF2
  simp -implicitDefEqProofs only [go_sem, Nat.reduceBEq, Nat.reduceAdd, eq_self, true_and, and_true, and_self, List.getElem?_cons_zero, List.getElem?_cons_succ, Nat.reduceLeDiff, Nat.zero_add, Nat.reduceSub, Nat.le_refl, hw2, h55]
  refine call_at (len_ok h2) ?_
  rintro v τ3 ⟨rfl, hτ⟩
  have hτ := hτ.symm
  subst hτ
  refine ⟨kept_none, ?_⟩
  have hll : decide ((P2.length : Int) = 1) = true := by rw [hPl2]; rfl
  simp -implicitDefEqProofs only [go_sem, Nat.reduceBEq, Nat.reduceAdd, eq_self, true_and, and_true, and_self, List.getElem?_cons_zero, List.getElem?_cons_succ, Nat.reduceLeDiff, Nat.zero_add, Nat.reduceSub, Nat.le_refl, hll]
  refine call_at (last_ok h2 (by omega)) ?_
  rintro v τ3 ⟨rfl, hτ⟩
  have hτ := hτ.symm
  subst hτ
  refine ⟨kept_none, ?_⟩
  have hla : decide (lastR (cgL P2) = 1) = true := by rw [hL2]; decide
  simp -implicitDefEqProofs only [go_sem, Nat.reduceBEq, Nat.reduceAdd, eq_self, true_and, and_true, and_self, List.getElem?_cons_zero, List.getElem?_cons_succ, Nat.reduceLeDiff, Nat.zero_add, Nat.reduceSub, Nat.le_refl, hla]
  refine q2 _ _ ?_
  simp -implicitDefEqProofs only [go_sem, Nat.reduceBEq, Nat.reduceAdd, eq_self, true_and, and_true, and_self, List.getElem?_cons_zero, List.getElem?_cons_succ, Nat.reduceLeDiff, Nat.zero_add, Nat.reduceSub, Nat.le_refl, Nat.lt_irrefl]
  exact he2
/-- A late slice. -/
def FrD (lo : Nat) (τ : St) (p : V × Cg) : Prop := ∃ q, p.1 = .sl false (.own q) 1 (intsV .i64 p.2.deps) ∧ τ.live[q]? = some true ∧ lo ≤ q
theorem FrD.keep {lo : Nat} {τ τ' : St} {p : V × Cg} (h : FrD lo τ p) (k : ∀ r, lo ≤ r → τ.live[r]? = some true → τ'.live[r]? = some true) : FrD lo τ' p := by
  obtain ⟨q, h1, h2, h3⟩ := h
  exact ⟨q, h1, k _ h3 h2, h3⟩
/-- The log of some changes. -/
def logR (gs : List Cg) (room : Int) : List Cg := gs.foldl (fun L g => addR L room g) []
theorem logR_snoc (gs : List Cg) (g : Cg) (room : Int) : logR (gs ++ [g]) room = addR (logR gs room) room g := by simp [logR]
theorem logR_take {gs : List Cg} {y : Nat} (h : y < gs.length) (room : Int) : logR (gs.take (y + 1)) room = addR (logR (gs.take y) room) room gs[y] := by
  rw [List.take_succ_eq_append_getElem h, logR_snoc]
theorem addR_room {L : List Cg} {room : Int} {g : Cg} (h : L.length ≤ room.toNat) : (addR L room g).length ≤ room.toNat := by
  unfold addR
  cases hc : decide (whyR L room g = 0)
  · exact h
  · have := (why_fits (of_decide_eq_true hc)).room
    rw [cond_true, putC_len]; omega
theorem logR_good (gs : List Cg) (room : Int) : Good (logR gs room) := by
  unfold logR
  suffices ∀ (gs : List Cg) (L : List Cg), Good L → Good (gs.foldl (fun L g => addR L room g) L) from this gs [] good_nil
  intro gs
  induction gs with
  | nil => intro L h; exact h
  | cons a t ih => intro L h; exact ih _ (addR_good h)
theorem logR_room (gs : List Cg) (room : Int) : (logR gs room).length ≤ room.toNat := by
  unfold logR
  suffices ∀ (gs : List Cg) (L : List Cg), L.length ≤ room.toNat → (gs.foldl (fun L g => addR L room g) L).length ≤ room.toNat from this gs [] (Nat.zero_le _)
  intro gs
  induction gs with
  | nil => intro L h; exact h
  | cons a t ih => intro L h; exact ih _ (addR_room h)
theorem RdC.isSl {σ : St} {v : V} {gs : List Cg} (h : RdC σ v gs) : ∃ b R z es, v = V.sl b R z es := by
  obtain ⟨_, _, h, _⟩ := h
  obtain ⟨b, R, z, rfl, -, -⟩ := h
  exact ⟨b, R, z, _, rfl⟩
set_option maxRecDepth 100000 in
set_option maxHeartbeats 4000000 in
theorem filled_ok (hr : (decide (room < 1) || decide (room > 4096)) = false) (hv : RdC σ v gs) (hgs : gs.length ≤ 90000) (hb : ∀ g ∈ gs, g.deps.length + g.name.length + g.val.length < 1048576) :
    CallA Try.prog 12 [.int .i64 room, v] σ fun w σ' => ∃ i m s ov P u, w = .tup [.ptr (some (i, 0)), .agg [.int .i64 room, u]] ∧ LogIs σ' i (some m) s ov room P ∧ cgL P = logR gs room ∧ RdC σ' u (logR gs room) ∧ Ext σ σ' ∧ (∀ j, Own i (some m) s ov j → σ.objs.length ≤ j) ∧ ∀ p ∈ P, FrD σ.live.length σ' p := by
  obtain ⟨l, rfl, hv2, hds⟩ := id hv
  obtain ⟨b, R, z, rfl, -, -⟩ := id hv2
  have hr' := hr
  rw [Bool.or_eq_false_iff, decide_eq_false_iff_not, decide_eq_false_iff_not] at hr'
  refine fn_at Try.func12 (by decide) comp12 rfl fun Q q1 q2 => ?_
  have hcl := cgsV_len l
  rw [List.length_map] at hgs
  simp -implicitDefEqProofs only [go_sem, Nat.reduceBEq, Nat.reduceAdd, eq_self, true_and, and_true, and_self, List.getElem?_cons_zero, List.getElem?_cons_succ, Nat.reduceLeDiff, Nat.zero_add, Nat.reduceSub, Nat.le_refl, c12]
  refine call_at (new_ok hr) ?_
  rintro w τ ⟨rfl, h0, he0⟩
  refine ⟨kept_none, ?_⟩
  have hf0 : ∀ j, Own (σ.objs.length + 1) (some σ.objs.length) (.sl true .pub 0 []) nilO j → σ.objs.length ≤ j := fun j hj => by
    rcases own_new hj with rfl | h
    · omega
    · cases h; omega
  generalize σ.objs.length + 1 = i at h0 hf0 ⊢
  generalize hm : σ.objs.length = m at h0 hf0
  simp -implicitDefEqProofs only [go_sem, Nat.reduceBEq, Nat.reduceAdd, eq_self, true_and, and_true, and_self, List.getElem?_cons_zero, List.getElem?_cons_succ, Nat.reduceLeDiff, Nat.zero_add, Nat.reduceSub, Nat.le_refl, flats, V.flat]
  refine loop_at (fun (y : Nat × V) => ⟨[(1, .v (.sl b R z (cgsV l))), (5, .loc 5 0), (6, .v (.ptr (some (i, 0)))), (8, .loc 8 0), (9, .v (.int .i64 y.1))], [(5, [.int .i64 0, .sl true .pub 0 []]), (8, [.int .i64 room, y.2])]⟩)
    (fun y t => y.1 ≤ l.length ∧ Ext σ t ∧ RdC t y.2 (logR ((l.map (·.2)).take y.1) room) ∧ ∃ s ov P, LogIs t i (some m) s ov room P ∧ cgL P = logR ((l.map (·.2)).take y.1) room ∧ (∀ j, Own i (some m) s ov j → σ.objs.length ≤ j) ∧ ∀ p ∈ P, FrD σ.live.length t p) (fun y => l.length - y.1) (0, .sl true .pub 0 []) ?_ ?_ ?_
  · refine .inr ?_
    simp -implicitDefEqProofs only [go_sem, Nat.reduceBEq, Nat.reduceAdd, eq_self, true_and, and_true, and_self, List.getElem?_cons_zero, List.getElem?_cons_succ, Nat.reduceLeDiff, Nat.zero_add, Nat.reduceSub, Nat.le_refl, Nat.lt_irrefl]
    try exact ⟨rfl, rfl⟩
    try exact rfl
  · exact ⟨Nat.zero_le _, he0, ⟨[], rfl, ⟨_, _, _, rfl, fun _ => rfl, .inl rfl⟩, by intro p hp; cases hp⟩, _, _, [], h0, rfl, (by rw [hm]; exact hf0), by intro p hp; cases hp⟩
  rintro ⟨y, u⟩ t ⟨g1, g2, g3, s, ov, P, g4, g5, g6, g7⟩ Z z1 z2 z3
  simp only at g1 g3 g5
  have hPr : P.length ≤ 4096 := by
    have h1 := logR_room ((l.map (·.2)).take y) room
    rw [← g5, map2_len] at h1
    omega
  simp -implicitDefEqProofs only [go_sem, Nat.reduceBEq, Nat.reduceAdd, eq_self, true_and, and_true, and_self, List.getElem?_cons_zero, List.getElem?_cons_succ, Nat.reduceLeDiff, Nat.zero_add, Nat.reduceSub, Nat.le_refl, hcl]
  cases hc : decide ((y : Int) < l.length)
  · have hy : y = l.length := by have := of_decide_eq_false hc; omega
    rw [List.take_of_length_le (by rw [List.length_map]; omega)] at g3 g5
    obtain ⟨b3, R3, z3', es3, rfl⟩ := g3.isSl
    simp -implicitDefEqProofs only [go_sem, Nat.reduceBEq, Nat.reduceAdd, eq_self, true_and, and_true, and_self, List.getElem?_cons_zero, List.getElem?_cons_succ, Nat.reduceLeDiff, Nat.zero_add, Nat.reduceSub, Nat.le_refl, hc]
    refine z2 _ _ _ ?_
    simp -implicitDefEqProofs only [go_sem, Nat.reduceBEq, Nat.reduceAdd, eq_self, true_and, and_true, and_self, List.getElem?_cons_zero, List.getElem?_cons_succ, Nat.reduceLeDiff, Nat.zero_add, Nat.reduceSub, Nat.le_refl, flats, V.flat]
    refine q2 _ _ ?_
    simp -implicitDefEqProofs only [go_sem, Nat.reduceBEq, Nat.reduceAdd, eq_self, true_and, and_true, and_self, List.getElem?_cons_zero, List.getElem?_cons_succ, Nat.reduceLeDiff, Nat.zero_add, Nat.reduceSub, Nat.le_refl, Nat.lt_irrefl]
    exact ⟨_, _, s, ov, P, _, rfl, g4, g5, g3, g2, g6, g7⟩
  · have hi : y < l.length := by have := of_decide_eq_true hc; omega
    have hget := cgsV_get hi
    have hwy : IntKind.i64.wrap ((y : Int) + 1) = ((y + 1 : Nat) : Int) := by rw [i64_in _ (by omega)]; omega
    obtain ⟨k1, k2⟩ := rdl (hv2.ext g2) (cgsV_ne hi)
    have hdi := hds _ (List.getElem_mem hi)
    have hbi := hb _ (List.mem_map_of_mem (List.getElem_mem hi))
    have htk : logR ((l.map (·.2)).take (y + 1)) room = addR (logR ((l.map (·.2)).take y) room) room l[y].2 := by
      rw [logR_take (by simpa using hi)]; simp
    generalize l[y] = p at hget htk hdi hbi
    obtain ⟨d2, g⟩ := p
    simp only at hget htk hdi hbi
    obtain ⟨db, dr, dz, rfl, -, -⟩ := id hdi
    have had := add_ok g4 (by omega) (hdi.ext g2) (by omega)
    simp only [cgV, cgC] at had
    simp -implicitDefEqProofs only [go_sem, Nat.reduceBEq, Nat.reduceAdd, eq_self, true_and, and_true, and_self, List.getElem?_cons_zero, List.getElem?_cons_succ, Nat.reduceLeDiff, Nat.zero_add, Nat.reduceSub, Nat.le_refl, hc, hcl, hget, cgC]
    refine ⟨⟨by omega, by omega, k2⟩, k1, ?_⟩
    refine call_at had ?_
    rintro w t1 ⟨rfl, s1, ov1, P1, h1, hP1, kt, hnw⟩
    refine ⟨kept_none, ?_⟩
    obtain ⟨he1, hf1⟩ := kt.fresh g2 g6
    have g3' : RdC t1 u (logR ((l.map (·.2)).take y) room) := by
      obtain ⟨l', e1, e2, e3⟩ := g3
      exact ⟨l', e1, rdS_up e2 kt.upd, fun p hp => rdS_up (e3 p hp) kt.upd⟩
    obtain ⟨b3, R3, z3', es3, rfl⟩ := g3.isSl
    have hgd := logR_good ((l.map (·.2)).take y) room
    have hra := radd_ok (room := room) (σ := t1) (d := .sl db dr dz (intsV .i64 g.deps)) (g := g) g3' (by rw [← g5, map2_len]; omega) (hdi.ext he1) (by omega) (fun h hh => by have := hgd.deps h hh; omega) (by omega)
    simp only [cgV, cgC] at hra
    obtain ⟨k1', k2'⟩ := rdl (hv2.ext he1) (cgsV_ne hi)
    simp -implicitDefEqProofs only [go_sem, Nat.reduceBEq, Nat.reduceAdd, eq_self, true_and, and_true, and_self, List.getElem?_cons_zero, List.getElem?_cons_succ, Nat.reduceLeDiff, Nat.zero_add, Nat.reduceSub, Nat.le_refl, hc, hcl, hget, cgC]
    refine ⟨⟨by omega, by omega, k2'⟩, k1', ?_⟩
    refine call_at hra ?_
    rintro w t2 ⟨⟨u2, rfl, hu2⟩, e2, o2⟩
    refine ⟨e2.kept, ?_⟩
    obtain ⟨b4, R4, z4, es4, rfl⟩ := hu2.isSl
    simp -implicitDefEqProofs only [go_sem, Nat.reduceBEq, Nat.reduceAdd, eq_self, true_and, and_true, and_self, List.getElem?_cons_zero, List.getElem?_cons_succ, Nat.reduceLeDiff, Nat.zero_add, Nat.reduceSub, Nat.le_refl, hwy, flats, V.flat]
    refine z1 (y + 1, _) _ _ (.inr ?_) (by simp only; omega) ⟨by simp only; omega, he1.trans e2, by rw [htk]; exact hu2, s1, ov1, P1, h1.ext e2, by rw [htk, hP1, g5], hf1, fun p hp => ?_⟩
    · simp -implicitDefEqProofs only [go_sem, Nat.reduceBEq, Nat.reduceAdd, eq_self, true_and, and_true, and_self, List.getElem?_cons_zero, List.getElem?_cons_succ, Nat.reduceLeDiff, Nat.zero_add, Nat.reduceSub, Nat.le_refl, hwy]
      try exact ⟨rfl, rfl⟩
      try exact rfl
    · rcases hnw p hp with hp | ⟨q, x1, x2, x3⟩
      · exact (g7 p hp).keep fun r _ hr => e2.live _ (kt.upd.live _ hr)
      · exact ⟨q, x1, e2.live _ x2, Nat.le_trans g2.llen x3⟩
set_option maxRecDepth 100000 in
set_option maxHeartbeats 4000000 in
theorem told_ok {u : V} (h : LogIs σ i mo s ov room P) (hl : P.length ≤ 1000000) (hu : RdC σ u (cgL P)) :
    CallA Try.prog 36 [.ptr (some (i, 0)), .agg [.int .i64 room, u]] σ fun w σ' => w = .bool true ∧ Ext σ σ' := by
  obtain ⟨b, R, z, es, rfl⟩ := hu.isSl
  have hesl : es.length = P.length := by
    obtain ⟨l, e1, ⟨_, _, _, e2, -, -⟩, -⟩ := hu
    cases e2
    rw [cgsV_len, ← map2_len, e1, map2_len]
  refine fn_at Try.func36 (by decide) comp36 rfl fun Q q1 q2 => ?_
  simp -implicitDefEqProofs only [go_sem, Nat.reduceBEq, Nat.reduceAdd, eq_self, true_and, and_true, and_self, List.getElem?_cons_zero, List.getElem?_cons_succ, Nat.reduceLeDiff, Nat.zero_add, Nat.reduceSub, Nat.le_refl, c36]
  refine call_at (len_ok h) ?_
  rintro w τ ⟨rfl, hτ⟩
  have hτ := hτ.symm
  subst hτ
  refine ⟨(Ext.refl _).kept, ?_⟩
  have hd1 : decide ((P.length : Int) = es.length) = true := by rw [hesl]; simp
  simp -implicitDefEqProofs only [go_sem, Nat.reduceBEq, Nat.reduceAdd, eq_self, true_and, and_true, and_self, List.getElem?_cons_zero, List.getElem?_cons_succ, Nat.reduceLeDiff, Nat.zero_add, Nat.reduceSub, Nat.le_refl, hd1]
  refine call_at (room_ok h) ?_
  rintro w τ ⟨rfl, hτ⟩
  have hτ := hτ.symm
  subst hτ
  refine ⟨(Ext.refl _).kept, ?_⟩
  simp -implicitDefEqProofs only [go_sem, Nat.reduceBEq, Nat.reduceAdd, eq_self, true_and, and_true, and_self, List.getElem?_cons_zero, List.getElem?_cons_succ, Nat.reduceLeDiff, Nat.zero_add, Nat.reduceSub, Nat.le_refl, Nat.lt_irrefl]
  refine call_at (last_ok h hl) ?_
  rintro w τ ⟨rfl, hτ⟩
  have hτ := hτ.symm
  subst hτ
  refine ⟨(Ext.refl _).kept, ?_⟩
  simp -implicitDefEqProofs only [go_sem, Nat.reduceBEq, Nat.reduceAdd, eq_self, true_and, and_true, and_self, List.getElem?_cons_zero, List.getElem?_cons_succ, Nat.reduceLeDiff, Nat.zero_add, Nat.reduceSub, Nat.le_refl, Nat.lt_irrefl]
  refine call_at (rlast_ok hu (by rw [map2_len]; exact hl)) ?_
  rintro w τ ⟨rfl, hτ⟩
  have hτ := hτ.symm
  subst hτ
  refine ⟨(Ext.refl _).kept, ?_⟩
  simp -implicitDefEqProofs only [go_sem, Nat.reduceBEq, Nat.reduceAdd, eq_self, true_and, and_true, and_self, List.getElem?_cons_zero, List.getElem?_cons_succ, Nat.reduceLeDiff, Nat.zero_add, Nat.reduceSub, Nat.le_refl, Nat.lt_irrefl]
  refine call_at (pclock_ok h) ?_
  rintro w τ ⟨⟨o1, z1, t1, r1⟩, e1⟩
  refine ⟨e1.kept, ?_⟩
  simp -implicitDefEqProofs only [go_sem, Nat.reduceBEq, Nat.reduceAdd, eq_self, true_and, and_true, and_self, List.getElem?_cons_zero, List.getElem?_cons_succ, Nat.reduceLeDiff, Nat.zero_add, Nat.reduceSub, Nat.le_refl, Nat.lt_irrefl]
  refine call_at (rclk_ok (hu.ext e1) (by rw [map2_len]; omega)) ?_
  rintro w2 τ2 ⟨⟨o2, z2, t2, r2⟩, e2, -⟩
  refine ⟨e2.kept, ?_⟩
  have ho := t1.uniq t2
  subst ho
  have hol : o1.length ≤ 64 := by
    have := congrArg List.length t1.1
    rw [cnts_len, List.length_append] at this
    omega
  simp -implicitDefEqProofs only [go_sem, Nat.reduceBEq, Nat.reduceAdd, eq_self, true_and, and_true, and_self, List.getElem?_cons_zero, List.getElem?_cons_succ, Nat.reduceLeDiff, Nat.zero_add, Nat.reduceSub, Nat.le_refl, Nat.lt_irrefl]
  refine call_at (rsame_ok (r1.ext e2) r2 (by omega)) ?_
  rintro w3 τ3 ⟨hτ, rfl⟩
  have hτ := hτ.symm
  subst hτ
  refine ⟨(Ext.refl _).kept, ?_⟩
  have e3 := e1.trans e2
  have hoo : decide (o1 = o1) = true := decide_eq_true rfl
  simp -implicitDefEqProofs only [go_sem, Nat.reduceBEq, Nat.reduceAdd, eq_self, true_and, and_true, and_self, List.getElem?_cons_zero, List.getElem?_cons_succ, Nat.reduceLeDiff, Nat.zero_add, Nat.reduceSub, Nat.le_refl, hoo]
  refine call_at (all_ok (h.ext e3) hl) ?_
  rintro w4 τ4 ⟨n1, e4⟩
  refine ⟨e4.kept, ?_⟩
  simp -implicitDefEqProofs only [go_sem, Nat.reduceBEq, Nat.reduceAdd, eq_self, true_and, and_true, and_self, List.getElem?_cons_zero, List.getElem?_cons_succ, Nat.reduceLeDiff, Nat.zero_add, Nat.reduceSub, Nat.le_refl, Nat.lt_irrefl]
  refine call_at (sameAll_ok n1.rd ((hu.ext e3).ext e4) (by rw [map2_len]; omega) fun g hg => by have := h.good.deps g hg; omega) ?_
  rintro w5 τ5 ⟨hτ, rfl⟩
  have hτ := hτ.symm
  subst hτ
  refine ⟨(Ext.refl _).kept, ?_⟩
  have hpp : decide (cgL P = cgL P) = true := decide_eq_true rfl
  simp -implicitDefEqProofs only [go_sem, Nat.reduceBEq, Nat.reduceAdd, eq_self, true_and, and_true, and_self, List.getElem?_cons_zero, List.getElem?_cons_succ, Nat.reduceLeDiff, Nat.zero_add, Nat.reduceSub, Nat.le_refl, hpp]
  refine q2 _ _ ?_
  simp -implicitDefEqProofs only [go_sem, Nat.reduceBEq, Nat.reduceAdd, eq_self, true_and, and_true, and_self, List.getElem?_cons_zero, List.getElem?_cons_succ, Nat.reduceLeDiff, Nat.zero_add, Nat.reduceSub, Nat.le_refl, Nat.lt_irrefl]
  exact e3.trans e4
end
end Go.VL.opl

namespace Go.VL.opl
open Go Go.VL Go.Proofs Go.IntWalk Go.VL.st Go.VL.row

section
variable {σ : St} {v d kv : V} {room n most : Int} {k : List Int} {gs : List Cg} {g : Cg}
/-- What the answer has: a late slice of changes whose slices are anybody's or late. -/
def AnsC (lo : Nat) (τ : St) (u : V) (L : List Cg) : Prop :=
  ((L = [] ∧ u = .sl true .pub 0 []) ∨ ∃ O q, u = .sl false (.own q) 13 (cgsV O) ∧ lo ≤ q ∧ τ.live[q]? = some true ∧ O.map (·.2) = L ∧ ∀ p ∈ O, (∀ σ, RdS σ p.1 1 (intsV .i64 p.2.deps)) ∨ FrD lo τ p)
theorem AnsC.keep {lo : Nat} {τ τ' : St} {u : V} {L : List Cg} (h : AnsC lo τ u L) (k : ∀ r, lo ≤ r → τ.live[r]? = some true → τ'.live[r]? = some true) : AnsC lo τ' u L := by
  refine h.imp_right ?_
  rintro ⟨O, q, h1, h2, h3, h4, h5⟩
  exact ⟨O, q, h1, h2, k _ h2 h3, h4, fun p hp => (h5 p hp).imp_right fun h => h.keep k⟩
theorem FrD.rd {lo : Nat} {τ : St} {p : V × Cg} (h : FrD lo τ p) : RdS τ p.1 1 (intsV .i64 p.2.deps) := by
  obtain ⟨q, h1, h2, -⟩ := h
  rw [h1]; exact ⟨_, _, _, rfl, by simp, .inr ⟨h2, rfl⟩⟩
end
theorem LogIs.lv {τ : St} {lv : List Bool} {i : Nat} {mo : Option Nat} {s : V} {ov : List V} {room : Int} {P : List (V × Cg)} (h : LogIs τ i mo s ov room P) (hr : Rds ⟨τ.objs, lv⟩ P) : LogIs ⟨τ.objs, lv⟩ i mo s ov room P :=
  ⟨h.cells, h.ovl, h.row, hr, (by have := h.map; cases mo <;> exact this), h.own, h.sep, h.good⟩
end Go.VL.opl

namespace Go.VL.opl
open Go Go.VL Go.Proofs Go.IntWalk Go.VL.st Go.VL.row

section
variable {σ τ τ' : St} {i m : Nat} {mo : Option Nat} {s : V} {ov : List V} {room : Int} {P : List (V × Cg)} {Lm : List Cg} {ow : Nat → List Sp} {v : V} {es : List Sp}
/-- A row for one of the replicas that had none. -/
theorem LMid.setown (h : LMid τ i (some m) s ov room P Lm ow) {r : Nat} (hr : r < ov.length) (hv : RowOf τ' v 2 (spsV es)) (he : Ext τ τ') (hf : ∀ k n cap z, v = .osl k n cap z → τ.objs.length ≤ k) {ow' : Nat → List Sp} (hw : ow' r = es) (hw' : ∀ k, k ≠ r → ow' k = ow k) :
    τ'.objs[i]? = some (.cells (.int .i64 room :: s :: .map (some m) :: ov)) ∧ LMid (τ'.setC i (.int .i64 room :: s :: .map (some m) :: ov.set r v)) i (some m) s (ov.set r v) room P Lm ow' ∧ LTo τ (τ'.setC i (.int .i64 room :: s :: .map (some m) :: ov.set r v)) i (some m) s s ov (ov.set r v) := by
  have hM := h.ext he
  have hi := hM.cells
  obtain ⟨ms, ver, h1, h2⟩ := hM.map
  have hmi : m ≠ i := fun e => by rw [e, hi] at h1; cases h1
  have hu : UpdS (fun j => j = i) τ' (τ'.setC i (.int .i64 room :: s :: .map (some m) :: ov.set r v)) := updS_setC
  have hlt : ∀ (a : Nat) (ha : a < ov.length), ∀ j n cap z, ov[a] = .osl j n cap z → j < τ.objs.length := fun a ha j n cap z e => by
    have := h.own a ha
    rw [e] at this
    exact rowOf_lt this
  refine ⟨hi, ⟨setC_get (List.getElem?_eq_some_iff.1 hi).1, by rw [List.length_set]; exact h.ovl, rowOf_up hM.row hu fun j n cap z e => ?_, fun p hp => rdS_up (hM.rds p hp) hu, ⟨ms, ver, hu.objs _ _ hmi h1, h2⟩, fun k hk => ?_, ?_⟩, ⟨?_, ?_⟩⟩
  · rintro rfl; exact rowOf_ne hM.row hi _ _ _ e
  · have hk' : k < ov.length := by simpa using hk
    by_cases hkr : k = r
    · subst hkr
      rw [List.getElem_set_self, hw]
      exact rowOf_up hv hu fun j n cap z e => by rintro rfl; exact rowOf_ne hv hi _ _ _ e
    · rw [List.getElem_set_ne (Ne.symm hkr), hw' k hkr]
      exact rowOf_up (hM.own k hk') hu fun j n cap z e => by rintro rfl; exact rowOf_ne (hM.own k hk') hi _ _ _ e
  · intro a b ha hb j n1 c1 z1 n2 c2 z2 e1 e2
    rw [List.getElem_set] at e1 e2
    have ha' : a < ov.length := by simpa using ha
    have hb' : b < ov.length := by simpa using hb
    by_cases har : r = a <;> by_cases hbr : r = b
    · rw [← har, ← hbr]
    · rw [if_pos har] at e1
      rw [if_neg hbr] at e2
      have := hf _ _ _ _ e1
      have := hlt b hb' _ _ _ _ e2
      omega
    · rw [if_neg har] at e1
      rw [if_pos hbr] at e2
      have := hf _ _ _ _ e2
      have := hlt a ha' _ _ _ _ e1
      omega
    · rw [if_neg har] at e1
      rw [if_neg hbr] at e2
      exact h.sep _ _ ha' hb' _ _ _ _ _ _ _ e1 e2
  · exact UpdS.trans (S := Own i (some m) s ov) (S' := fun j => j = i) (.of he) hu fun j hj => .inl (.inl hj)
  · rintro j (hj | hj | hj | ⟨a, ha, n', cap', z, hj⟩)
    · exact .inl (.inl hj)
    · exact .inl (.inr (.inl hj))
    · exact .inl (.inr (.inr (.inl hj)))
    · have ha' : a < ov.length := by simpa using ha
      rw [List.getElem_set] at hj
      by_cases har : r = a
      · rw [if_pos har] at hj
        exact .inr (hf _ _ _ _ hj)
      · rw [if_neg har] at hj
        exact .inl (.inr (.inr (.inr ⟨a, ha', _, _, _, hj⟩)))
set_option maxRecDepth 100000 in
set_option maxHeartbeats 8000000 in
theorem clone_ok (h : LogIs σ i mo s ov room P) (hr : (decide (room < 1) || decide (room > 4096)) = false) (hl : P.length ≤ 100000) :
    CallA Try.prog 41 [.ptr (some (i, 0))] σ fun w σ' => ∃ i2 m2 s2 ov2 P2, w = .ptr (some (i2, 0)) ∧ LogIs σ' i2 (some m2) s2 ov2 room P2 ∧ cgL P2 = cgL P ∧ Ext σ σ' ∧ (∀ j, Own i2 (some m2) s2 ov2 j → σ.objs.length ≤ j) ∧ ∀ p ∈ P2, FrD σ.live.length σ' p := by
  have h1 := h.cells
  refine fn_at Try.func41 (by decide) dcomp41 rfl fun Q q1 q2 => ?_
  simp -implicitDefEqProofs only [go_sem, Nat.reduceBEq, Nat.reduceAdd, eq_self, true_and, and_true, and_self, List.getElem?_cons_zero, List.getElem?_cons_succ, Nat.reduceLeDiff, Nat.zero_add, Nat.reduceSub, Nat.le_refl, d41, h1]
  refine call_at (new_ok hr) ?_
  rintro w τ0 ⟨rfl, hn0, e0⟩
  refine ⟨kept_none, ?_⟩
  have hown0 : ∀ j, Own (σ.objs.length + 1) (some σ.objs.length) (.sl true .pub 0 []) nilO j → σ.objs.length ≤ j := fun j hj => by
    rcases own_new hj with rfl | h
    · omega
    · cases h; omega
  have hm0 := hn0.mid
  generalize σ.objs.length + 1 = i2 at hm0 hown0 ⊢
  have hlo0 : ∃ m2, m2 = σ.objs.length := ⟨_, rfl⟩
  obtain ⟨m2, hm2⟩ := hlo0
  rw [← hm2] at hm0
  have hown0' : ∀ j, Own i2 (some m2) (.sl true .pub 0 []) nilO j → σ.objs.length ≤ j := by rw [hm2]; exact hown0
  clear hown0 hn0
  have hcl := cgsV_len P
  have h10 := e0.objs _ _ h1
  -- the changes
  rcases id h.row with ⟨R, q, rfl, he⟩ | ⟨j', cap, rfl, ho, -, hcp⟩
  case' inl =>
    have hP : P = [] := by
      have : (cgsV P).length = 0 := by rw [he]; rfl
      rw [hcl] at this
      exact List.length_eq_zero_iff.1 this
    have hlt : decide ((0 : Int) < ((0 : Nat) : Int)) = false := rfl
    simp -implicitDefEqProofs only [go_sem, Nat.reduceBEq, Nat.reduceAdd, eq_self, true_and, and_true, and_self, List.getElem?_cons_zero, List.getElem?_cons_succ, Nat.reduceLeDiff, Nat.zero_add, Nat.reduceSub, Nat.le_refl, h10]
    refine loop_at (fun (y : Nat) => ⟨[(0, .v (.ptr (some (i, 0)))), (3, .v (.ptr (some (i2, 0)))), (22, .v (.int .i64 ((0 : Nat) : Int))), (23, .v (.int .i64 0))], []⟩) (fun y t => t = τ0) (fun y => 0) 0 (.inr ?_) rfl ?_
    · simp -implicitDefEqProofs only [go_sem, Nat.reduceBEq, Nat.reduceAdd, eq_self, true_and, and_true, and_self, List.getElem?_cons_zero, List.getElem?_cons_succ, Nat.reduceLeDiff, Nat.zero_add, Nat.reduceSub, Nat.le_refl, Nat.lt_irrefl]
      try exact ⟨rfl, rfl⟩
      try exact rfl
    rintro _ t ht X x1 x2 x3
    have g2 : Ext σ t := by rw [ht]; exact e0
    have hex : ∃ s2 P2, LMid t i2 (some m2) s2 nilO room P2 (cgL P) (fun _ => []) ∧ cgL P2 = cgL P ∧ (∀ j, Own i2 (some m2) s2 nilO j → σ.objs.length ≤ j) ∧ ∀ p ∈ P2, FrD σ.live.length t p := by
      rw [ht, hP]
      exact ⟨_, [], hm0, rfl, hown0', by intro p hp; cases hp⟩
    simp -implicitDefEqProofs only [go_sem, Nat.reduceBEq, Nat.reduceAdd, eq_self, true_and, and_true, and_self, List.getElem?_cons_zero, List.getElem?_cons_succ, Nat.reduceLeDiff, Nat.zero_add, Nat.reduceSub, Nat.le_refl, hlt]
    refine x2 _ _ _ ?_
    clear x1 x2 x3 ht
    simp -implicitDefEqProofs only [go_sem, Nat.reduceBEq, Nat.reduceAdd, eq_self, true_and, and_true, and_self, List.getElem?_cons_zero, List.getElem?_cons_succ, Nat.reduceLeDiff, Nat.zero_add, Nat.reduceSub, Nat.le_refl, Nat.lt_irrefl]
  case' inr =>
    simp -implicitDefEqProofs only [go_sem, Nat.reduceBEq, Nat.reduceAdd, eq_self, true_and, and_true, and_self, List.getElem?_cons_zero, List.getElem?_cons_succ, Nat.reduceLeDiff, Nat.zero_add, Nat.reduceSub, Nat.le_refl, h10, hcl]
    refine loop_at (fun (y : Nat) => ⟨[(0, .v (.ptr (some (i, 0)))), (3, .v (.ptr (some (i2, 0)))), (21, .v (.osl j' P.length cap 13)), (22, .v (.int .i64 P.length)), (23, .v (.int .i64 ((y : Nat) : Int)))], []⟩)
      (fun y t => y ≤ P.length ∧ Ext σ t ∧ ∃ s2 P2, LMid t i2 (some m2) s2 nilO room P2 (cgL P2) (fun _ => []) ∧ cgL P2 = (cgL P).take y ∧ (∀ j, Own i2 (some m2) s2 nilO j → σ.objs.length ≤ j) ∧ ∀ p ∈ P2, FrD σ.live.length t p) (fun y => P.length - y) 0 (.inr ?_) ?_ ?_
    · simp -implicitDefEqProofs only [go_sem, Nat.reduceBEq, Nat.reduceAdd, eq_self, true_and, and_true, and_self, List.getElem?_cons_zero, List.getElem?_cons_succ, Nat.reduceLeDiff, Nat.zero_add, Nat.reduceSub, Nat.le_refl, Nat.lt_irrefl]
      try exact ⟨rfl, rfl⟩
      try exact rfl
    · exact ⟨Nat.zero_le _, e0, _, [], hm0, rfl, hown0', by intro p hp; cases hp⟩
    rintro y t ⟨g1, g2, s2, P2, g3, g4, g5, g6⟩ X x1 x2 x3
    simp -implicitDefEqProofs only [go_sem, Nat.reduceBEq, Nat.reduceAdd, eq_self, true_and, and_true, and_self, List.getElem?_cons_zero, List.getElem?_cons_succ, Nat.reduceLeDiff, Nat.zero_add, Nat.reduceSub, Nat.le_refl, Nat.lt_irrefl]
    cases hc : decide ((y : Int) < P.length)
    case true =>
      have hi : y < P.length := by have := of_decide_eq_true hc; omega
      have hwy : IntKind.i64.wrap ((y : Int) + 1) = ((y + 1 : Nat) : Int) := by rw [i64_in _ (by omega)]; omega
      have hget := cg_drop0 hi
      have ho' := g2.objs _ _ ho
      have htk : (cgL P).take (y + 1) = (cgL P).take y ++ [P[y].2] := by rw [List.take_succ_eq_append_getElem (by simpa using hi)]; simp
      have hdi := (h.rds.ext g2) _ (List.getElem_mem hi)
      have hdl := h.deps _ (List.getElem_mem hi)
      have hb1 : (y : Int) < P.length := by omega
      have hnf : ((cgL P).take y).find? (isA (atS P[y].2)) = none := find_A_none.2 fun x hx e => by
        obtain ⟨k, hk, rfl⟩ := List.getElem_of_mem hx
        rw [List.getElem_take] at e
        have hk' : k < y := by simp at hk; omega
        have := List.pairwise_iff_getElem.1 h.good.srt k y (by rw [map2_len]; omega) (by rw [map2_len]; omega) hk'
        have hyy : (cgL P)[y]'(by rw [map2_len]; exact hi) = P[y].2 := by simp
        rw [e, hyy, less_irr] at this
        cases this
      generalize P[y] = p at hget htk hdi hdl hnf
      obtain ⟨d2, g⟩ := p
      simp only at hget htk hdi hdl hnf
      obtain ⟨db, dr, dz, rfl, -, -⟩ := id hdi
      have hcpy := pcopy_ok hdi (by omega)
      simp only [cgV, cgC] at hcpy
      have c2 := g3.cells
      simp -implicitDefEqProofs only [go_sem, Nat.reduceBEq, Nat.reduceAdd, eq_self, true_and, and_true, and_self, List.getElem?_cons_zero, List.getElem?_cons_succ, Nat.reduceLeDiff, Nat.zero_add, Nat.reduceSub, Nat.le_refl, hc, ho', hget, cgC, hcl, Int.toNat_natCast, Nat.add_zero, c2]
      refine ⟨⟨by omega, hb1⟩, ?_⟩
      refine call_at hcpy ?_
      rintro w t2 ⟨e2, o2, x, rfl, rx, rfl, hrx, hrxl⟩
      refine ⟨e2.kept, ?_⟩
      have hM2 := g3.ext e2
      have hlit : (⟨t2.objs, t2.live ++ [true]⟩ : St).live[t2.live.length]? = some true := by simp
      have hrow2 : RowOf ⟨t2.objs, t2.live ++ [true]⟩ s2 13 (cgsV P2) := hM2.row
      have hP2l : (cgsV P2).length < 1073741824 := by
        have := congrArg List.length g4
        rw [map2_len, List.length_take] at this
        rw [cgsV_len]; omega
      simp -implicitDefEqProofs only [go_sem, Nat.reduceBEq, Nat.reduceAdd, eq_self, true_and, and_true, and_self, List.getElem?_cons_zero, List.getElem?_cons_succ, Nat.reduceLeDiff, Nat.zero_add, Nat.reduceSub, Nat.le_refl, Nat.lt_irrefl]
      refine ao_at (ao_push (e := cgC (.sl false (.own rx) 1 (intsV .i64 g.deps)) g) hrow2 hP2l rfl hlit) ?_
      rintro v t3 ⟨hr3, hlv3, hol3, ho3, j3, n3, c3, rfl, hj3, hj3l⟩
      rw [cgsV_snoc] at hr3
      have hl3 : t3.live[rx]? = some true := by rw [hlv3]; exact (ext_live t2 true).live _ hrx
      have hu3 : ∀ r : Nat, t2.live[r]? = some true → t3.live[r]? = some true := fun r hr => by rw [hlv3]; exact (ext_live t2 true).live r hr
      have hi3 := rowOf_ne hM2.row hM2.cells
      obtain ⟨hci, hM3, hto3⟩ := hM2.ins (P1 := P2 ++ [(.sl false (.own rx) 1 (intsV .i64 g.deps), g)]) ⟨hlv3, hol3, ho3⟩ hr3 hj3 fun p hp => by
        rcases List.mem_append.1 hp with hp | hp
        · exact rdS_lv (hM2.rds p hp) hu3
        · rw [List.mem_singleton] at hp
          subst hp
          exact ⟨_, _, _, rfl, by simp, .inr ⟨hl3, rfl⟩⟩
      refine ⟨fun L hL => by cases hL; exact ⟨fun q hq o ho => by rw [List.mem_singleton] at hq; subst hq; exact ho3 _ o (fun n cap z e => hi3 n cap z e) ho, fun r hr => by rw [hlv3]; exact hr⟩, ?_⟩
      simp -implicitDefEqProofs only [go_sem, Nat.reduceBEq, Nat.reduceAdd, eq_self, true_and, and_true, and_self, List.getElem?_cons_zero, List.getElem?_cons_succ, Nat.reduceLeDiff, Nat.zero_add, Nat.reduceSub, Nat.le_refl, hci, flats, V.flat]
      have hf3 : ∀ p ∈ P2 ++ [((.sl false (.own rx) 1 (intsV .i64 g.deps) : V), g)], FrD σ.live.length (t3.setC i2 (.int .i64 room :: .osl j3 n3 c3 13 :: .map (some m2) :: nilO)) p := fun p hp => by
        rcases List.mem_append.1 hp with hp | hp
        · exact (g6 p hp).keep fun r _ hr => hu3 r (e2.live r hr)
        · rw [List.mem_singleton] at hp
          subst hp
          exact ⟨rx, rfl, hl3, Nat.le_trans g2.llen hrxl⟩
      have hee := hto3.upd.toExt (g2.trans e2) g5
      have hoo : ∀ j, Own i2 (some m2) (.osl j3 n3 c3 13) nilO j → σ.objs.length ≤ j := fun j hj => (hto3.own j hj).elim (g5 j) fun h => Nat.le_trans (g2.trans e2).olen h
      generalize t3.setC i2 (.int .i64 room :: .osl j3 n3 c3 13 :: .map (some m2) :: nilO) = t4 at hM3 hto3 hf3 hee ⊢
      have hka : keyFits KL (.agg [.int .i64 g.ac, .int .i64 g.ar]) = true := rfl
      have c4 := hM3.cells
      obtain ⟨ms, ver, hm4, hmf4⟩ := hM3.map
      obtain ⟨hM5, hto5⟩ := hM3.put (x := atS g) (v := .agg [.int .i64 g.seq]) (Lm' := cgL P2 ++ [g]) hm4 (fun z => by
        rw [hmf4 z, List.find?_append, g4]
        by_cases hz : z = atS g
        · subst hz
          rw [hnf]; simp [isA]
        · have : [g].find? (isA z) = none := by simp [isA, Ne.symm hz]
          rw [this, if_neg hz]; simp) (ver' := ver + 1)
      simp only [atS] at hM5 hto5
      have hu5 := hto5.upd
      simp -implicitDefEqProofs only [go_sem, Nat.reduceBEq, Nat.reduceAdd, eq_self, true_and, and_true, and_self, List.getElem?_cons_zero, List.getElem?_cons_succ, Nat.reduceLeDiff, Nat.zero_add, Nat.reduceSub, Nat.le_refl, c4, hka, hm4, cgC, hwy]
      refine x1 (y + 1) _ _ (.inr ?_) (by omega) ⟨by omega, hu5.toExt hee hoo, .osl j3 n3 c3 13, _, ?_, ?_, hoo, fun p hp => (hf3 p hp).keep fun r _ hr => hu5.live r hr⟩
      · simp -implicitDefEqProofs only [go_sem, Nat.reduceBEq, Nat.reduceAdd, eq_self, true_and, and_true, and_self, List.getElem?_cons_zero, List.getElem?_cons_succ, Nat.reduceLeDiff, Nat.zero_add, Nat.reduceSub, Nat.le_refl, Nat.lt_irrefl]
        try exact ⟨rfl, rfl⟩
        try exact rfl
      · rw [show cgL (P2 ++ [((.sl false (.own rx) 1 (intsV .i64 g.deps) : V), g)]) = cgL P2 ++ [g] from by simp]
        exact hM5
      · rw [htk, ← g4]; simp
    have hy : y = P.length := by have := of_decide_eq_false hc; omega
    rw [hy, List.take_of_length_le (by rw [map2_len]; omega)] at g4
    have hex : ∃ s2 P2, LMid t i2 (some m2) s2 nilO room P2 (cgL P) (fun _ => []) ∧ cgL P2 = cgL P ∧ (∀ j, Own i2 (some m2) s2 nilO j → σ.objs.length ≤ j) ∧ ∀ p ∈ P2, FrD σ.live.length t p := ⟨s2, P2, by rw [← g4]; exact g3, g4, g5, g6⟩
    simp -implicitDefEqProofs only [go_sem, Nat.reduceBEq, Nat.reduceAdd, eq_self, true_and, and_true, and_self, List.getElem?_cons_zero, List.getElem?_cons_succ, Nat.reduceLeDiff, Nat.zero_add, Nat.reduceSub, Nat.le_refl, hc]
    refine x2 _ _ _ ?_
    clear x1 x2 x3 hc g3 g4 g5 g6
    simp -implicitDefEqProofs only [go_sem, Nat.reduceBEq, Nat.reduceAdd, eq_self, true_and, and_true, and_self, List.getElem?_cons_zero, List.getElem?_cons_succ, Nat.reduceLeDiff, Nat.zero_add, Nat.reduceSub, Nat.le_refl, Nat.lt_irrefl]
  all_goals
    clear h10 hm0 hown0'
    obtain ⟨s2, P2, g3, g4, g5, g6⟩ := hex
    refine loop_at (fun (y : Nat) => ⟨[(0, .v (.ptr (some (i, 0)))), (3, .v (.ptr (some (i2, 0)))), (48, .v (.int .i64 ((y : Nat) : Int)))], []⟩)
      (fun y t => y ≤ 64 ∧ Ext σ t ∧ ∃ ov2, LMid t i2 (some m2) s2 ov2 room P2 (cgL P) (fun q => if q < y then (ownL (cgL P) (q : Int)).map atS else []) ∧ (∀ (q : Nat) (hq : q < ov2.length), y ≤ q → ov2[q] = .sl true .pub 0 []) ∧ (∀ j, Own i2 (some m2) s2 ov2 j → σ.objs.length ≤ j) ∧ ∀ p ∈ P2, FrD σ.live.length t p) (fun y => 64 - y) 0 (.inr ?_) ?_ ?_
    · simp -implicitDefEqProofs only [go_sem, Nat.reduceBEq, Nat.reduceAdd, eq_self, true_and, and_true, and_self, List.getElem?_cons_zero, List.getElem?_cons_succ, Nat.reduceLeDiff, Nat.zero_add, Nat.reduceSub, Nat.le_refl, Nat.lt_irrefl]
      try exact ⟨rfl, rfl⟩
      try exact rfl
    · refine ⟨Nat.zero_le _, g2, nilO, ?_, fun q hq _ => nilO_get hq, g5, g6⟩
      have : (fun q : Nat => if q < 0 then (ownL (cgL P) (q : Int)).map atS else []) = fun _ => [] := by funext q; simp
      rw [this]; exact g3
    rintro y t2 ⟨k1, k2, ov2, k3, k4, k5, k6⟩ X x1 x2 x3
    have hov2 := k3.ovl
    simp -implicitDefEqProofs only [go_sem, Nat.reduceBEq, Nat.reduceAdd, eq_self, true_and, and_true, and_self, List.getElem?_cons_zero, List.getElem?_cons_succ, Nat.reduceLeDiff, Nat.zero_add, Nat.reduceSub, Nat.le_refl, Nat.lt_irrefl]
    cases hc : decide ((y : Int) < 64)
    · have hy : y = 64 := by have := of_decide_eq_false hc; omega
      subst hy
      simp -implicitDefEqProofs only [go_sem, Nat.reduceBEq, Nat.reduceAdd, eq_self, true_and, and_true, and_self, List.getElem?_cons_zero, List.getElem?_cons_succ, Nat.reduceLeDiff, Nat.zero_add, Nat.reduceSub, Nat.le_refl, hc]
      refine x2 _ _ _ ?_
      simp -implicitDefEqProofs only [go_sem, Nat.reduceBEq, Nat.reduceAdd, eq_self, true_and, and_true, and_self, List.getElem?_cons_zero, List.getElem?_cons_succ, Nat.reduceLeDiff, Nat.zero_add, Nat.reduceSub, Nat.le_refl, Nat.lt_irrefl]
      refine q2 _ _ ?_
      simp -implicitDefEqProofs only [go_sem, Nat.reduceBEq, Nat.reduceAdd, eq_self, true_and, and_true, and_self, List.getElem?_cons_zero, List.getElem?_cons_succ, Nat.reduceLeDiff, Nat.zero_add, Nat.reduceSub, Nat.le_refl, Nat.lt_irrefl]
      refine ⟨i2, m2, s2, ov2, P2, rfl, ?_, g4, k2, k5, k6⟩
      refine LMid.log (h := ?_) (by rw [g4]; exact h.good)
      rw [g4]
      exact ⟨k3.cells, k3.ovl, k3.row, k3.rds, k3.map, fun r hr => by have := k3.own r hr; rw [if_pos (by omega)] at this; exact this, k3.sep⟩
    · have hi : y < 64 := by have := of_decide_eq_true hc; omega
      have hy64 : (0 : Int) ≤ (y : Int) ∧ (y : Int) < 64 := by omega
      have hwy : IntKind.i64.wrap ((y : Int) + 1) = ((y + 1 : Nat) : Int) := by rw [i64_in _ (by omega)]; omega
      have c1 := k2.objs _ _ h1
      have c2 := k3.cells
      have hl2 : y < ov2.length := by omega
      have hnil := k4 y hl2 (Nat.le_refl _)
      have hlo : y < ov.length := by rw [h.ovl]; omega
      have hod2 := ov_drop (r := (y : Int)) (ov := ov2) (by simpa using hl2)
      have hod := ov_drop (r := (y : Int)) (ov := ov) (by simpa using hlo)
      simp only [Int.toNat_natCast] at hod2 hod
      rw [hnil] at hod2
      have hrow := rowOf_up (h.own y hlo) (UpdS.of (S := fun _ => False) k2) fun _ _ _ _ _ h => h
      have hcn := cnt_le (cgL P) (y : Int)
      rw [map2_len] at hcn
      simp -implicitDefEqProofs only [go_sem, Nat.reduceBEq, Nat.reduceAdd, eq_self, true_and, and_true, and_self, List.getElem?_cons_zero, List.getElem?_cons_succ, Nat.reduceLeDiff, Nat.zero_add, Nat.reduceSub, Nat.le_refl, hc, c1, c2, hod2, hod, Int.toNat_natCast]
      refine ⟨hy64, hy64, ?_⟩
      refine ao_at (ao_copy hrow (by rw [spsV_len, List.length_map, ownL_len]; omega)) ?_
      rintro v t3 ⟨hv3, e3, hl3, hfr3, hfl3, hvv⟩
      refine ⟨e3.kept, ?_⟩
      obtain ⟨hi3, hM3, hto3⟩ := k3.setown (ow' := fun q => if q < y + 1 then (ownL (cgL P) (q : Int)).map atS else []) hl2 hv3 e3 hfr3 (by simp) (fun k hk => by
        by_cases h1 : k < y
        · simp only [if_pos h1, if_pos (show k < y + 1 by omega)]
        · simp only [if_neg h1, if_neg (show ¬ k < y + 1 by omega)])
      have hov := fun w => ov_over hl2 (.int .i64 room) s2 (.map (some m2)) w
      have hoo : ∀ j, Own i2 (some m2) s2 (ov2.set y v) j → σ.objs.length ≤ j := fun j hj => (hto3.own j hj).elim (k5 j) fun h => Nat.le_trans k2.olen h
      have hee := hto3.upd.toExt k2 k5
      have hlv := hto3.upd.live
      have hns : ∀ (q : Nat) (hq : q < (ov2.set y v).length), y + 1 ≤ q → (ov2.set y v)[q] = .sl true .pub 0 [] := fun q hq hle => by
        rw [List.getElem_set_ne (by omega)]
        exact k4 q (by simpa using hq) (by omega)
      rcases hvv with rfl | ⟨kk, nn, cap2, zz, rfl⟩
      all_goals
        simp -implicitDefEqProofs only [go_sem, Nat.reduceBEq, Nat.reduceAdd, eq_self, true_and, and_true, and_self, List.getElem?_cons_zero, List.getElem?_cons_succ, Nat.reduceLeDiff, Nat.zero_add, Nat.reduceSub, Nat.le_refl, hi3, hov, hwy, flats, V.flat, Int.toNat_natCast]
        refine ⟨hy64, by omega, ?_⟩
        refine x1 (y + 1) _ _ (.inr ?_) (by omega) ⟨by omega, hee, _, hM3, hns, hoo, fun p hp => (k6 p hp).keep fun r _ hr => hlv r hr⟩
        simp -implicitDefEqProofs only [go_sem, Nat.reduceBEq, Nat.reduceAdd, eq_self, true_and, and_true, and_self, List.getElem?_cons_zero, List.getElem?_cons_succ, Nat.reduceLeDiff, Nat.zero_add, Nat.reduceSub, Nat.le_refl, Nat.lt_irrefl]
        try exact ⟨rfl, rfl⟩
        try exact rfl
end
end Go.VL.opl

namespace Go.VL.opl
open Go Go.VL Go.Proofs Go.IntWalk Go.VL.st Go.VL.row

abbrev Srt (L : List Cg) : Prop := L.Pairwise fun a b => st.less (atS a) (atS b) = true
/-- What is ahead of a stamp. -/
def bef (L : List Cg) (x : Sp) : List Cg := L.filter fun h => st.less (atS h) x
theorem bef_take : ∀ {L : List Cg}, Srt L → ∀ {i : Nat} (h : i < L.length), bef L (atS L[i]) = L.take i
  | [], _, i, h => absurd h (Nat.not_lt_zero _)
  | a :: t, hs, 0, h => by
    rw [Srt, List.pairwise_cons] at hs
    unfold bef
    rw [List.take_zero, List.filter_eq_nil_iff]
    intro x hx
    simp only [List.getElem_cons_zero, Bool.not_eq_true]
    rcases List.mem_cons.1 hx with rfl | hx
    · exact less_irr _
    · exact less_asymm (hs.1 x hx)
  | a :: t, hs, i + 1, h => by
    rw [Srt, List.pairwise_cons] at hs
    have hi' : i < t.length := by simpa using h
    have ih := bef_take hs.2 hi'
    have h1 : st.less (atS a) (atS t[i]) = true := hs.1 _ (List.getElem_mem _)
    unfold bef at ih ⊢
    rw [List.getElem_cons_succ, List.take_succ_cons, ← ih]
    simp only [List.filter_cons, h1, if_true]
theorem own_bef (L : List Cg) (r : Int) (x : Sp) : ownL (bef L x) r = bef (ownL L r) x := by
  unfold ownL bef
  rw [List.filter_filter, List.filter_filter]
  congr 1; funext h; exact Bool.and_comm _ _
theorem own_srt {L : List Cg} (h : Srt L) (r : Int) : Srt (ownL L r) := h.filter _
/-- Everything on which one hangs is ahead of it. -/
structure CloAt (L : List Cg) (x : Cg) : Prop where
  deps : ∀ (r : Nat) (h : r < x.deps.length), x.deps[r] ≤ (cnt (bef L (atS x)) (r : Int) : Int)
  names : ∀ s ∈ baseN x, okN x s = true → ∃ h ∈ L, atS h = s ∧ st.less s (atS x) = true
def Clo (L : List Cg) : Prop := ∀ x ∈ L, CloAt L x
theorem cnt_sub {A B : List Cg} (h : A.Sublist B) (r : Int) : cnt A r ≤ cnt B r := by
  have := (h.filter fun g => decide (g.ar = r)).length_le
  exact this
theorem CloAt.mono {A B : List Cg} {x : Cg} (h : CloAt A x) (hs : A.Sublist B) : CloAt B x := by
  refine ⟨fun r hr => ?_, fun s hs' ho => ?_⟩
  · have h1 := h.deps r hr
    have h2 := cnt_sub (hs.filter fun h => st.less (atS h) (atS x)) (r : Int)
    unfold bef at h1 ⊢
    omega
  · obtain ⟨y, h1, h2⟩ := h.names s hs' ho
    exact ⟨y, hs.subset h1, h2⟩
theorem Good.own_less {L : List Cg} (h : Good L) {r : Int} {a b : Nat} (hb : b < (ownL L r).length) (hab : a < b) : st.less (atS (ownL L r)[a]) (atS (ownL L r)[b]) = true := List.pairwise_iff_getElem.1 (own_srt h.srt r) a b (by omega) hb hab
theorem dep_own {L : List Cg} (h : Good L) {g : Cg} {r n : Int} (hn : 1 ≤ n) (hd : depB L g r n = true) : ∃ hl : n.toNat - 1 < (ownL L r).length, st.less (atS (ownL L r)[n.toNat - 1]) (atS g) = true := by
  unfold depB at hd
  rw [show decide (n = 0) = false by rw [decide_eq_false_iff_not]; omega, Bool.false_or, h.find_O hn] at hd
  by_cases hl : n.toNat - 1 < (ownL L r).length
  · rw [List.getElem?_eq_getElem hl] at hd
    exact ⟨hl, hd⟩
  · rw [List.getElem?_eq_none (by omega)] at hd
    cases hd
/-- At a place of a log. -/
theorem Good.pre {L : List Cg} (h : Good L) (k : Clo L) {i : Nat} (hi : i < L.length) :
    (∀ (hi0 : 0 < i), st.less (atS (L[i - 1]'(by omega))) (atS L[i]) = true) ∧ underI L[i].deps (cnts (L.take i)) = true ∧ atD (cnts (L.take i)) L[i].ar = L[i].seq - 1 ∧ ∀ s ∈ baseN L[i], okN L[i] s = true → ∃ y ∈ L.take i, atS y = s := by
  have hb := bef_take h.srt hi
  have hx := List.getElem_mem hi
  have hc := k _ hx
  obtain ⟨hrt, hsq, hck, -⟩ := chk_has (h.chk _ hx)
  have hr : 0 ≤ L[i].ar ∧ L[i].ar < 64 := (right_has hrt).2
  refine ⟨fun hi0 => List.pairwise_iff_getElem.1 h.srt (i - 1) i (by omega) hi (by omega), ?_, ?_, fun s hs ho => ?_⟩
  · unfold underI
    rw [List.all_eq_true]
    intro r hrr
    have hr' := List.mem_range.1 hrr
    have h1 := hc.deps r hr'
    rw [hb] at h1
    have h64 := (clock_has hck).1
    rw [atD_cnts _ (by omega), decide_eq_true_eq]
    simpa [hr'] using h1
  · rw [atD_cnts _ hr, ← hb]
    obtain ⟨j, hj, hjy⟩ := List.getElem_of_mem (own_mem.2 ⟨hx, rfl⟩)
    have hsj := h.seq _ j hj
    rw [hjy] at hsj
    have h2 := bef_take (own_srt h.srt L[i].ar) hj
    rw [hjy] at h2
    rw [← ownL_len, own_bef, h2, List.length_take]
    omega
  · obtain ⟨y, h1, h2, h3⟩ := hc.names s hs ho
    refine ⟨y, ?_, h2⟩
    rw [← hb]
    exact List.mem_filter.2 ⟨h1, by rw [h2]; exact h3⟩
end Go.VL.opl

namespace Go.VL.opl
open Go Go.VL Go.Proofs Go.IntWalk Go.VL.st Go.VL.row

theorem Good.idx {L : List Cg} (h : Good L) {y : Cg} (hy : y ∈ L) : ∃ hl : (y.seq - 1).toNat < (ownL L y.ar).length, (ownL L y.ar)[(y.seq - 1).toNat] = y := by
  obtain ⟨j, hj, e⟩ := List.getElem_of_mem (own_mem.2 ⟨hy, rfl⟩)
  have h1 := h.seq _ j hj
  rw [e] at h1
  have h2 : (y.seq - 1).toNat = j := by omega
  exact ⟨by omega, by subst h2; exact e⟩
theorem Good.uniq {L : List Cg} (h : Good L) {a b : Cg} (ha : a ∈ L) (hb : b ∈ L) (h1 : a.ar = b.ar) (h2 : a.seq = b.seq) : a = b := by
  obtain ⟨l1, e1⟩ := h.idx ha
  obtain ⟨l2, e2⟩ := h.idx hb
  rw [← e1, ← e2]
  simp only [h1, h2]
theorem Good.cnt_le' {L : List Cg} (h : Good L) {y : Cg} (hy : y ∈ L) : y.seq ≤ cnt L y.ar := by
  obtain ⟨l1, -⟩ := h.idx hy
  rw [ownL_len] at l1
  have := (chk_has (h.chk y hy)).2.1
  omega
/-- The n-th of a replica. -/
theorem Good.nth {L : List Cg} (h : Good L) {r n : Int} (hn : 1 ≤ n) (hc : n ≤ cnt L r) : ∃ y ∈ L, y.ar = r ∧ y.seq = n ∧ L.find? (isO r n) = some y := by
  have hl : n.toNat - 1 < (ownL L r).length := by rw [ownL_len]; omega
  obtain ⟨h1, h2⟩ := own_mem.1 (List.getElem_mem hl)
  refine ⟨_, h1, h2, ?_, ?_⟩
  · rw [h.seq _ _ hl]; omega
  · rw [h.find_O hn, List.getElem?_eq_getElem hl]
/-- On what one hangs. -/
structure ClM (L : List Cg) (x : Cg) : Prop where
  deps : ∀ (r : Nat) (h : r < x.deps.length), 1 ≤ x.deps[r] → ∃ y ∈ L, y.ar = r ∧ y.seq = x.deps[r] ∧ st.less (atS y) (atS x) = true
  names : ∀ s ∈ baseN x, okN x s = true → ∃ y ∈ L, atS y = s ∧ y.seq ≤ atD x.deps y.ar
theorem ClM.mono {A B : List Cg} {x : Cg} (h : ClM A x) (hs : ∀ y ∈ A, y ∈ B) : ClM B x :=
  ⟨fun r hr hn => by obtain ⟨y, h1, h2⟩ := h.deps r hr hn; exact ⟨y, hs y h1, h2⟩, fun s hs' ho => by obtain ⟨y, h1, h2⟩ := h.names s hs' ho; exact ⟨y, hs y h1, h2⟩⟩
theorem Fits.clm {L : List Cg} {room : Int} {g : Cg} (k : Fits L room g) (h : Good L) : ClM L g := by
  have hb := k.beh
  unfold behB at hb
  rw [Bool.and_eq_true] at hb
  obtain ⟨hb1, hb2⟩ := hb
  refine ⟨fun r hr hn => ?_, fun s hs ho => ?_⟩
  · have hd := List.all_eq_true.1 hb1 r (List.mem_range.2 hr)
    have hd : depB L g r g.deps[r] = true := by simpa [hr] using hd
    obtain ⟨hl, hls⟩ := dep_own h hn hd
    obtain ⟨h1, h2⟩ := own_mem.1 (List.getElem_mem hl)
    exact ⟨_, h1, h2, by rw [h.seq _ _ hl]; omega, hls⟩
  · have hn := List.all_eq_true.1 hb2 s hs
    rw [ho, Bool.not_true, Bool.false_or] at hn
    unfold nmB at hn
    cases hf : L.find? (isA s) with
    | none => rw [hf] at hn; cases hn
    | some y =>
      rw [hf] at hn
      obtain ⟨hy1, hy2⟩ := (find_A h.srt).1 hf
      exact ⟨y, hy1, hy2, of_decide_eq_true hn⟩
def ClA (L : List Cg) : Prop := ∀ x ∈ L, ClM L x
theorem addR_cla {L : List Cg} {room : Int} {g : Cg} (h : Good L) (k : ClA L) : ClA (addR L room g) := by
  unfold addR
  cases hc : decide (whyR L room g = 0)
  · exact k
  · have hf := why_fits (of_decide_eq_true hc)
    intro x hx
    rcases putC_mem.1 hx with rfl | hx
    · exact (hf.clm h).mono fun y hy => putC_mem.2 (.inr hy)
    · exact (k x hx).mono fun y hy => putC_mem.2 (.inr hy)
theorem atD_in {l : List Int} {r : Int} (h : 1 ≤ atD l r) : 0 ≤ r ∧ ∃ hl : r.toNat < l.length, l[r.toNat] = atD l r := by
  unfold atD at h ⊢
  cases h1 : decide (0 ≤ r) <;> rw [h1] at h
  · simp at h
  cases h2 : decide (r < (l.length : Int)) <;> rw [h2] at h
  · simp at h
  have h1' := of_decide_eq_true h1
  have h2' := of_decide_eq_true h2
  have hl : r.toNat < l.length := by omega
  exact ⟨h1', hl, by simp [hl]⟩
section
variable {L Z R : List Cg} {g : Cg} {room : Int}
/-- Of some changes, some are there. -/
structure Part (L Z R : List Cg) : Prop where
  good : Good Z
  mem : ∀ x, x ∈ L ↔ x ∈ Z ∨ x ∈ R
  nd : R.Nodup
  apart : ∀ x ∈ R, x ∉ Z
  len : Z.length + R.length = L.length
theorem Part.behind (hL : Good L) (hc : ClA L) (h : Part L Z R) (hg : g ∈ R) (hu : underI g.deps (cnts Z) = true) : behB Z g = true := by
  have hgL : g ∈ L := (h.mem g).2 (.inr hg)
  have hcl := hc g hgL
  have hck := clock_has (chk_has (hL.chk g hgL)).2.2.1
  have hun : ∀ (r : Nat) (hr : r < g.deps.length), g.deps[r] ≤ cnt Z (r : Int) := fun r hr => by
    have h1 := List.all_eq_true.1 hu r (List.mem_range.2 hr)
    rw [atD_cnts _ (by omega), decide_eq_true_eq] at h1
    simpa [hr] using h1
  have up : ∀ y ∈ Z, y ∈ L := fun y hy => (h.mem y).2 (.inl hy)
  unfold behB
  rw [Bool.and_eq_true]
  constructor
  · unfold depsB
    rw [List.all_eq_true]
    intro r hr
    have hr' := List.mem_range.1 hr
    have e : g.deps[r]?.getD 0 = g.deps[r] := by simp [hr']
    rw [e]
    have h0 := (hck.2 _ (List.getElem_mem hr')).1
    unfold depB
    by_cases hn : g.deps[r] = 0
    · simp [hn]
    obtain ⟨y, y1, y2, y3, y4⟩ := hcl.deps r hr' (by omega)
    obtain ⟨y', z1, z2, z3, z4⟩ := h.good.nth (r := (r : Int)) (n := g.deps[r]) (by omega) (hun r hr')
    have : y' = y := hL.uniq (up y' z1) y1 (by rw [z2, y2]) (by rw [z3, y3])
    rw [z4, this]
    show (_ || st.less (atS y) (atS g)) = true
    rw [y4, Bool.or_true]
  · unfold namesB
    rw [List.all_eq_true]
    intro s hs
    cases ho : okN g s
    · rfl
    obtain ⟨y, y1, y2, y3⟩ := hcl.names s hs ho
    have ys := (chk_has (hL.chk y y1)).2.1
    obtain ⟨r0, r1, r2⟩ := atD_in (l := g.deps) (r := y.ar) (by omega)
    have h2 := hun _ r1
    rw [r2, show ((y.ar.toNat : Nat) : Int) = y.ar by omega] at h2
    obtain ⟨y', z1, z2, z3, -⟩ := h.good.nth (r := y.ar) (n := y.seq) (by omega) (by omega)
    have : y' = y := hL.uniq (up y' z1) y1 z2 z3
    subst this
    have hf : Z.find? (isA s) = some y' := (find_A h.good.srt).2 ⟨z1, y2⟩
    unfold nmB
    rw [hf]
    simp only [Bool.not_true, Bool.false_or, decide_eq_true_eq]
    exact y3
theorem Part.why (hL : Good L) (hc : ClA L) (h : Part L Z R) (hg : g ∈ R) (hr : (L.length : Int) ≤ room) :
    whyR Z room g = bif !decide (g.seq = cnt Z g.ar + 1) || !underI g.deps (cnts Z) then 4 else 0 := by
  have hgL : g ∈ L := (h.mem g).2 (.inr hg)
  have up : ∀ y ∈ Z, y ∈ L := fun y hy => (h.mem y).2 (.inl hy)
  have hgZ := h.apart g hg
  have h1 : Z.find? (isA (atS g)) = none := find_A_none.2 fun y hy e => hgZ (srt_uniq1 hL.srt (up y hy) hgL e ▸ hy)
  have h2 : Z.find? (isO g.ar g.seq) = none := by
    rw [List.find?_eq_none]
    intro y hy ho
    simp only [isO, Bool.and_eq_true, decide_eq_true_eq] at ho
    exact hgZ (hL.uniq (up y hy) hgL ho.1 ho.2 ▸ hy)
  unfold whyR
  rw [hL.chk g hgL, h1, h2]
  simp only [decide_true, Bool.not_true, cond_false, Option.isSome_none]
  cases hs : (!decide (g.seq = cnt Z g.ar + 1) || !underI g.deps (cnts Z))
  · rw [Bool.or_eq_false_iff] at hs
    have hu : underI g.deps (cnts Z) = true := by simpa using hs.2
    rw [h.behind hL hc hg hu]
    have hlt : Z.length < L.length := by
      have := List.length_pos_of_mem hg
      have := h.len
      omega
    rw [show decide ((Z.length : Int) ≥ room) = false by rw [decide_eq_false_iff_not]; omega]
    rfl
  · rfl
/-- The least one can be added. -/
theorem Part.least (hL : Good L) (hc : ClA L) (h : Part L Z R) (hg : g ∈ R) (hr : (L.length : Int) ≤ room) (hm : ∀ y ∈ R, st.less (atS y) (atS g) = false) : whyR Z room g = 0 := by
  have hgL : g ∈ L := (h.mem g).2 (.inr hg)
  have up : ∀ y ∈ Z, y ∈ L := fun y hy => (h.mem y).2 (.inl hy)
  have hgZ := h.apart g hg
  have hz : ∀ y ∈ L, st.less (atS y) (atS g) = true → y ∈ Z := fun y hy hl => by
    rcases (h.mem y).1 hy with h1 | h1
    · exact h1
    · rw [hm y h1] at hl; cases hl
  have hcl := hc g hgL
  have hgs := (chk_has (hL.chk g hgL)).2.1
  rw [h.why hL hc hg hr]
  have hseq : g.seq = cnt Z g.ar + 1 := by
    obtain ⟨gl, ge⟩ := hL.idx hgL
    have h1 : ¬ (cnt Z g.ar : Int) < g.seq - 1 := fun hlt => by
      -- the next one of this replica is ahead of g, so it is there
      have hl2 : cnt Z g.ar < (ownL L g.ar).length := by omega
      obtain ⟨y1, y2⟩ := own_mem.1 (List.getElem_mem hl2)
      have hls := hL.own_less (r := g.ar) (a := cnt Z g.ar) (b := (g.seq - 1).toNat) gl (by omega)
      rw [ge] at hls
      have hyz := hz _ y1 hls
      have := h.good.cnt_le' hyz
      rw [y2, hL.seq _ _ hl2] at this
      omega
    have h2 : ¬ g.seq ≤ (cnt Z g.ar : Int) := fun hle => by
      obtain ⟨y, z1, z2, z3, -⟩ := h.good.nth (r := g.ar) (n := g.seq) (by omega) hle
      exact hgZ (hL.uniq (up y z1) hgL z2 z3 ▸ z1)
    omega
  have hun : underI g.deps (cnts Z) = true := by
    have hck := clock_has (chk_has (hL.chk g hgL)).2.2.1
    unfold underI
    rw [List.all_eq_true]
    intro r hrr
    have hr' := List.mem_range.1 hrr
    rw [atD_cnts _ (by omega), decide_eq_true_eq]
    have e : g.deps[r]?.getD 0 = g.deps[r] := by simp [hr']
    rw [e]
    by_cases hn : g.deps[r] < 1
    · omega
    obtain ⟨y, y1, y2, y3, y4⟩ := hcl.deps r hr' (by omega)
    have := h.good.cnt_le' (hz y y1 y4)
    rw [y2, y3] at this
    exact this
  rw [hun, hseq]
  simp
theorem least_in : ∀ {R : List Cg}, R ≠ [] → ∃ g ∈ R, ∀ y ∈ R, st.less (atS y) (atS g) = false
  | [], h => absurd rfl h
  | [a], _ => ⟨a, by simp, fun y hy => by rw [List.mem_singleton] at hy; subst hy; exact less_irr _⟩
  | a :: b :: t, _ => by
    obtain ⟨g, h1, h2⟩ := least_in (R := b :: t) (by simp)
    cases h : st.less (atS a) (atS g)
    · exact ⟨g, List.mem_cons_of_mem _ h1, fun y hy => by
        rcases List.mem_cons.1 hy with rfl | hy
        · exact h
        · exact h2 y hy⟩
    · refine ⟨a, by simp, fun y hy => ?_⟩
      rcases List.mem_cons.1 hy with rfl | hy
      · exact less_irr _
      · cases hya : st.less (atS y) (atS a)
        · rfl
        · have := h2 y hy
          rw [less_trans hya h] at this; cases this
theorem Part.some (hL : Good L) (hc : ClA L) (h : Part L Z R) (hr : (L.length : Int) ≤ room) (hR : R ≠ []) : ∃ (j : Nat) (hj : j < R.length), whyR Z room R[j] = 0 := by
  obtain ⟨g, h1, h2⟩ := least_in hR
  obtain ⟨j, hj, rfl⟩ := List.getElem_of_mem h1
  exact ⟨j, hj, h.least hL hc h1 hr h2⟩
theorem Part.step (hL : Good L) (h : Part L Z R) {i : Nat} (hi : i < R.length) (hw : whyR Z room R[i] = 0) : Part L (putC R[i] Z) (R.take i ++ R.drop (i + 1)) := by
  have hf := why_fits hw
  have hsplit : R = R.take i ++ R[i] :: R.drop (i + 1) := by
    rw [← List.drop_eq_getElem_cons hi, List.take_append_drop]
  have hnd := h.nd
  rw [hsplit] at hnd
  have hnd2 := List.nodup_append.1 hnd
  have hnc := List.nodup_cons.1 hnd2.2.1
  have hm : ∀ x, x ∈ R ↔ x = R[i] ∨ x ∈ R.take i ++ R.drop (i + 1) := fun x => by
    conv => lhs; rw [hsplit]
    simp only [List.mem_append, List.mem_cons]
    constructor
    · rintro (h | h | h)
      · exact .inr (.inl h)
      · exact .inl h
      · exact .inr (.inr h)
    · rintro (h | h | h)
      · exact .inr (.inl h)
      · exact .inl h
      · exact .inr (.inr h)
  refine ⟨hf.good h.good, fun x => ?_, ?_, fun x hx hp => ?_, ?_⟩
  · rw [h.mem x, hm x, putC_mem]
    constructor
    · rintro (h | h | h)
      · exact .inl (.inr h)
      · exact .inl (.inl h)
      · exact .inr h
    · rintro ((h | h) | h)
      · exact .inr (.inl h)
      · exact .inl h
      · exact .inr (.inr h)
  · rw [List.nodup_append]
    refine ⟨hnd2.1, hnc.2, fun a ha b hb => hnd2.2.2 a ha b (List.mem_cons_of_mem _ hb)⟩
  · rcases putC_mem.1 hp with e | hp
    · subst e
      rcases List.mem_append.1 hx with hx | hx
      · exact hnd2.2.2 _ hx _ (List.mem_cons_self ..) rfl
      · exact hnc.1 hx
    · exact h.apart x ((hm x).2 (.inr hx)) hp
  · have h1 := h.len
    rw [putC_len, List.length_append, List.length_take, List.length_drop]
    omega
theorem Part.done (hL : Good L) (h : Part L Z []) : Z = L := by
  have h1 : ∀ x, x ∈ Z ↔ x ∈ L := fun x => by rw [h.mem x]; simp
  have key : ∀ {A B : List Cg}, Srt A → Srt B → (∀ x, x ∈ A ↔ x ∈ B) → A = B := by
    intro A
    induction A with
    | nil =>
      intro B _ _ h
      cases B with
      | nil => rfl
      | cons b t => exact absurd ((h b).2 (by simp)) (by simp)
    | cons a t ih =>
      intro B hA hB h
      cases B with
      | nil => exact absurd ((h a).1 (by simp)) (by simp)
      | cons b u =>
        rw [Srt, List.pairwise_cons] at hA hB
        have e : a = b := by
          rcases List.mem_cons.1 ((h a).1 (by simp)) with e | e
          · exact e
          · rcases List.mem_cons.1 ((h b).2 (by simp)) with e2 | e2
            · exact e2.symm
            · have h1 := hB.1 a e
              have h2 := hA.1 b e2
              rw [less_asymm h1] at h2; cases h2
        subst e
        congr 1
        refine ih hA.2 hB.2 fun x => ?_
        constructor
        · intro hx
          rcases List.mem_cons.1 ((h x).1 (List.mem_cons_of_mem _ hx)) with e | e
          · subst e; have := hA.1 _ hx; rw [less_irr] at this; cases this
          · exact e
        · intro hx
          rcases List.mem_cons.1 ((h x).2 (List.mem_cons_of_mem _ hx)) with e | e
          · subst e; have := hB.1 _ hx; rw [less_irr] at this; cases this
          · exact e
  exact key h.good.srt hL.srt h1
end
end Go.VL.opl

namespace Go.VL.opl
open Go Go.VL Go.Proofs Go.IntWalk Go.VL.st Go.VL.row

section
variable {σ : St} {v u : V} {l m : List Int}
end
end Go.VL.opl

namespace Go.VL.opl
open Go Go.VL Go.Proofs Go.IntWalk Go.VL.st Go.VL.row

structure SubL (W Z : List Cg) : Prop where
  good : Good Z
  cla : ClA Z
  up : ∀ x ∈ Z, x ∈ W
theorem SubL.add {W Z : List Cg} {g : Cg} {room : Int} (h : SubL W Z) (hg : g ∈ W) : SubL W (addR Z room g) := by
  refine ⟨addR_good h.good, addR_cla h.good h.cla, fun x hx => ?_⟩
  unfold addR at hx
  cases hc : decide (whyR Z room g = 0) <;> rw [hc] at hx
  · exact h.up x hx
  · rcases putC_mem.1 hx with rfl | hx
    · exact hg
    · exact h.up x hx
theorem SubL.grow {W W' Z : List Cg} (h : SubL W Z) (k : ∀ x ∈ W, x ∈ W') : SubL W' Z := ⟨h.good, h.cla, fun x hx => k x (h.up x hx)⟩
section
variable {W A B C : List Cg} {g : Cg} {room : Int}
end
end Go.VL.opl

namespace Go.VL.opl
open Go Go.VL Go.Proofs
/-- topiary/topiarylaw07.OplogClones: 2 parameters, 87 slots. -/
def c10 : C :=
  .seq (.ops [⟨none, .mv 4 (.c (.bool false))⟩])
  (.seq (.ops [⟨none, .mv 15 (.t 0)⟩,
    ⟨none, .ca (some 16) 12 [(.c (.int .i64 50)), (.t 15)]⟩,
    ⟨none, .mv 14 (.t 16)⟩,
    ⟨none, .ex 17 (.t 14) 0⟩,
    ⟨none, .ex 18 (.t 14) 1⟩,
    ⟨none, .alL 6 [.int .i64 0, .sl true .pub 0 []]⟩,
    ⟨none, .mv 5 (.t 17)⟩,
    ⟨none, .st (.t 6) (.t 18) 2⟩])
  (.seq (.ops [⟨none, .mv 19 (.t 5)⟩,
    ⟨none, .ca (some 20) 41 [(.t 19)]⟩,
    ⟨none, .mv 7 (.t 20)⟩])
  (.seq (.seq (.ops [⟨none, .mv 21 (.t 7)⟩,
    ⟨none, .bq 22 false .ptr (.t 21) (.c (.ptr none))⟩,
    ⟨none, .mv 23 (.t 22)⟩,
    ⟨some (23, false), .mv 24 (.t 7)⟩,
    ⟨some (23, false), .ld 25 (.t 6) 2 true⟩,
    ⟨some (23, false), .ca (some 26) 36 [(.t 24), (.t 25)]⟩,
    ⟨some (23, false), .un 27 .not (.t 26)⟩,
    ⟨none, .pk 28 (.t 23) (.c (.bool true)) (.t 27)⟩])
  (.cond (.t 28) (.seq (.ops [⟨none, .mv 4 (.c (.bool false))⟩])
    (.ret))
    (.skip)))
  (.seq (.seq (.ops [⟨none, .mv 8 (.c (.int .i64 0))⟩])
  (.block 0 (.loop (.seq (.seq (.ops [⟨none, .mv 29 (.t 8)⟩,
    ⟨none, .mv 30 (.t 1)⟩,
    ⟨none, .ln 31 .sl (.t 30)⟩,
    ⟨none, .bi 32 .lss (.t 29) (.t 31)⟩])
  (.cond (.t 32) (.skip)
    (.exit 0)))
  (.seq (.block 1 (.ops [⟨none, .mv 35 (.t 5)⟩,
    ⟨none, .mv 36 (.t 1)⟩,
    ⟨none, .mv 37 (.t 8)⟩,
    ⟨none, .ia 38 (.t 36) (.t 37) 13⟩,
    ⟨none, .ld 39 (.t 38) 13 true⟩,
    ⟨none, .ca (some 40) 14 [(.t 35), (.t 39)]⟩]))
  (.ops [⟨none, .mv 33 (.t 8)⟩,
    ⟨none, .bi 34 .add (.t 33) (.c (.int .i64 1))⟩,
    ⟨none, .mv 8 (.t 34)⟩]))))))
  (.seq (.ops [⟨none, .mv 41 (.t 7)⟩,
    ⟨none, .ca (some 42) 25 [(.t 41)]⟩,
    ⟨none, .mv 9 (.t 42)⟩])
  (.seq (.seq (.ops [⟨none, .mv 10 (.c (.int .i64 0))⟩])
  (.block 2 (.loop (.seq (.seq (.ops [⟨none, .mv 43 (.t 10)⟩,
    ⟨none, .mv 44 (.t 9)⟩,
    ⟨none, .ln 45 .sl (.t 44)⟩,
    ⟨none, .bi 46 .lss (.t 43) (.t 45)⟩])
  (.cond (.t 46) (.skip)
    (.exit 2)))
  (.seq (.block 3 (.seq (.seq (.ops [⟨none, .mv 11 (.c (.int .i64 0))⟩])
  (.block 4 (.loop (.seq (.seq (.ops [⟨none, .mv 49 (.t 11)⟩,
    ⟨none, .mv 50 (.t 9)⟩,
    ⟨none, .mv 51 (.t 10)⟩,
    ⟨none, .ia 52 (.t 50) (.t 51) 13⟩,
    ⟨none, .fa 53 (.t 52) 3⟩,
    ⟨none, .ld 54 (.t 53) 1 false⟩,
    ⟨none, .ln 55 .sl (.t 54)⟩,
    ⟨none, .bi 56 .lss (.t 49) (.t 55)⟩])
  (.cond (.t 56) (.skip)
    (.exit 4)))
  (.seq (.block 5 (.ops [⟨none, .mv 59 (.t 9)⟩,
    ⟨none, .mv 60 (.t 10)⟩,
    ⟨none, .ia 61 (.t 59) (.t 60) 13⟩,
    ⟨none, .fa 62 (.t 61) 3⟩,
    ⟨none, .ld 63 (.t 62) 1 false⟩,
    ⟨none, .mv 64 (.t 11)⟩,
    ⟨none, .ia 65 (.t 63) (.t 64) 1⟩,
    ⟨none, .sn (.t 65) (.c (.int .i64 (-7))) 1 9⟩]))
  (.ops [⟨none, .mv 57 (.t 11)⟩,
    ⟨none, .bi 58 .add (.t 57) (.c (.int .i64 1))⟩,
    ⟨none, .mv 11 (.t 58)⟩]))))))
  (.ops [⟨none, .mv 66 (.t 9)⟩,
    ⟨none, .mv 67 (.t 10)⟩,
    ⟨none, .bld 68 [.int .i64 0, .int .i64 0, .int .i64 0, .sl true .pub 0 [], .int .i64 0, .int .i64 0, .int .i64 0, .int .i64 0, .int .i64 0, .int .i64 0, .int .i64 0, .str [], .str []] []⟩,
    ⟨none, .ia 69 (.t 66) (.t 67) 13⟩,
    ⟨none, .se (.t 69) (.t 68) 13⟩])))
  (.ops [⟨none, .mv 47 (.t 10)⟩,
    ⟨none, .bi 48 .add (.t 47) (.c (.int .i64 1))⟩,
    ⟨none, .mv 10 (.t 48)⟩]))))))
  (.seq (.ops [⟨none, .mv 70 (.t 7)⟩,
    ⟨none, .ca (some 71) 39 [(.t 70)]⟩,
    ⟨none, .mv 12 (.t 71)⟩])
  (.seq (.seq (.ops [⟨none, .mv 13 (.c (.int .i64 0))⟩])
  (.block 6 (.loop (.seq (.seq (.ops [⟨none, .mv 72 (.t 13)⟩,
    ⟨none, .mv 73 (.t 12)⟩,
    ⟨none, .ln 74 .sl (.t 73)⟩,
    ⟨none, .bi 75 .lss (.t 72) (.t 74)⟩])
  (.cond (.t 75) (.skip)
    (.exit 6)))
  (.seq (.block 7 (.ops [⟨none, .mv 78 (.t 12)⟩,
    ⟨none, .mv 79 (.t 13)⟩,
    ⟨none, .ia 80 (.t 78) (.t 79) 1⟩,
    ⟨none, .se (.t 80) (.c (.int .i64 (-7))) 1⟩]))
  (.ops [⟨none, .mv 76 (.t 13)⟩,
    ⟨none, .bi 77 .add (.t 76) (.c (.int .i64 1))⟩,
    ⟨none, .mv 13 (.t 77)⟩]))))))
  (.seq (.ops [⟨none, .mv 81 (.t 7)⟩,
    ⟨none, .ld 82 (.t 6) 2 true⟩,
    ⟨none, .ca (some 83) 36 [(.t 81), (.t 82)]⟩,
    ⟨none, .mv 84 (.t 83)⟩,
    ⟨some (84, true), .ca (some 85) 19 []⟩,
    ⟨none, .pk 86 (.t 84) (.t 85) (.c (.bool false))⟩,
    ⟨none, .mv 4 (.t 86)⟩])
  (.ret))))))))))
theorem comp10 : compFn Try.prog [6, 1000065, 1000069, 1000080, 8000065009] Try.f10 = some ([.t 4], c10) := by kernel_rfl
end Go.VL.opl

namespace Go.VL.opl
open Go Go.VL Go.Proofs Go.IntWalk Go.VL.st Go.VL.row

theorem dj_step {σ τ : St} {ia ma ib mb : Nat} {sa sa' sb : V} {ova ova' ovb : List V} {Pa Pb : List (V × Cg)} {ra rb : Int} (ha : LogIs σ ia (some ma) sa ova ra Pa) (hb : LogIs σ ib (some mb) sb ovb rb Pb) (dj : ∀ j, Own ia (some ma) sa ova j → ¬ Own ib (some mb) sb ovb j) (kt : LTo σ τ ia (some ma) sa sa' ova ova') :
    LogIs τ ib (some mb) sb ovb rb Pb ∧ ∀ j, Own ia (some ma) sa' ova' j → ¬ Own ib (some mb) sb ovb j := by
  refine ⟨hb.up kt.upd fun j hj ha' => dj j ha' hj, fun j hj hbj => ?_⟩
  rcases kt.own j hj with h | h
  · exact dj j h hbj
  · have := hb.mid.own_lt hbj
    omega
/-- All, while it is written over. -/
def AI (n0 : Nat) (t : St) (qa : Nat) (es : List (List V)) (i : Nat) : Prop :=
  t.live[qa]? = some true ∧ n0 ≤ qa ∧ (∀ (j : Nat) (h : j < es.length), es[j].length = 13) ∧ ∀ (j : Nat) (h : j < es.length), i ≤ j → ∃ g q ds, es[j] = cgC (.sl false (.own q) 1 (intsV .i64 ds)) g ∧ t.live[q]? = some true ∧ n0 ≤ q ∧ q ≠ qa ∧ ds.length ≤ 2000000
theorem kill_other {l : List Bool} {q r : Nat} (h : q ≠ r) {b : Bool} (hr : l[r]? = some b) (c : Bool) : (l.set q false ++ [c])[r]? = some b := by
  have hl := (List.getElem?_eq_some_iff.1 hr).1
  rw [List.getElem?_append_left (by simpa using hl), List.getElem?_set_ne h]
  exact hr
theorem intsV_set (l : List Int) (k : Nat) (x : Int) : (intsV .i64 l).set k [.int .i64 x] = intsV .i64 (l.set k x) := by simp [intsV, List.map_set]
theorem renV_cgC (q r' : Nat) (es : List (List V)) (d : V) (g : Cg) : (cgC d g).map (renV q r' 1 es) = cgC (renV q r' 1 es d) g := rfl
/-- A time of one of them is written over. -/
theorem AI.step {n0 : Nat} {t : St} {qa : Nat} {es : List (List V)} {i q k : Nat} {g : Cg} {ds : List Int} (h : AI n0 t qa es i) (hi : i < es.length) (he : es[i] = cgC (.sl false (.own q) 1 (intsV .i64 ds)) g) (hq : t.live[q]? = some true) (hq0 : n0 ≤ q) (hqa : q ≠ qa) (hds : ds.length ≤ 2000000) (x : Int) :
    AI n0 ⟨t.objs, (t.live.set q false ++ [true]).set qa false ++ [true]⟩ (t.live.set q false ++ [true]).length (es.map (List.map (renV q t.live.length 1 (intsV .i64 (ds.set k x))))) i ∧ ∃ hi' : i < (es.map (List.map (renV q t.live.length 1 (intsV .i64 (ds.set k x))))).length, (es.map (List.map (renV q t.live.length 1 (intsV .i64 (ds.set k x)))))[i] = cgC (.sl false (.own t.live.length) 1 (intsV .i64 (ds.set k x))) g ∧ ((t.live.set q false ++ [true]).set qa false ++ [true])[t.live.length]? = some true := by
  obtain ⟨h1, h2, h3, h4⟩ := h
  have hql := (List.getElem?_eq_some_iff.1 hq).1
  have hal := (List.getElem?_eq_some_iff.1 h1).1
  have hn : ((t.live.set q false ++ [true]).set qa false ++ [true])[t.live.length]? = some true := kill_other (by omega) (live_last' _ _ _) _
  refine ⟨⟨live_last' _ _ _, by simp; omega, fun j hj => ?_, fun j hj hij => ?_⟩, by simpa using hi, ?_, hn⟩
  · rw [List.getElem_map, List.length_map]; exact h3 j (by simpa using hj)
  · have hj' : j < es.length := by simpa using hj
    obtain ⟨g', q', ds', e1, e2, e3, e4, e5⟩ := h4 j hj' hij
    rw [List.getElem_map, e1, renV_cgC]
    have hq'l := (List.getElem?_eq_some_iff.1 e2).1
    by_cases hqq : q' = q
    · subst hqq
      refine ⟨g', t.live.length, ds.set k x, ?_, hn, by omega, by simp, by simpa using hds⟩
      simp [renV_own]
    · refine ⟨g', q', ds', ?_, kill_other (Ne.symm e4) (kill_other (Ne.symm hqq) e2 _) _, e3, by simp; omega, e5⟩
      rw [renV_own, show Nat.beq q' q = false from by simpa [← Nat.beq_eq] using hqq]; rfl
  · rw [List.getElem_map, he, renV_cgC]
    simp [renV_own]
/-- One of them is written over. -/
theorem AI.next {n0 : Nat} {t : St} {qa : Nat} {es : List (List V)} {i : Nat} (h : AI n0 t qa es i) {x : List V} (hx : x.length = 13) :
    AI n0 ⟨t.objs, t.live.set qa false ++ [true]⟩ t.live.length (es.set i x) (i + 1) := by
  obtain ⟨h1, h2, h3, h4⟩ := h
  have hal := (List.getElem?_eq_some_iff.1 h1).1
  refine ⟨live_last' _ _ _, by omega, fun j hj => ?_, fun j hj hij => ?_⟩
  · rw [List.getElem_set]
    split
    · exact hx
    · exact h3 j (by simpa using hj)
  · obtain ⟨g', q', ds', e1, e2, e3, e4, e5⟩ := h4 j (by simpa using hj) (by omega)
    have := (List.getElem?_eq_some_iff.1 e2).1
    exact ⟨g', q', ds', by rw [List.getElem_set_ne (by omega)]; exact e1, kill_other (Ne.symm e4) e2 _, e3, by omega, e5⟩
section
variable {σ : St} {v v2 : V} {gs hs : List Cg}
set_option maxRecDepth 100000 in
set_option maxHeartbeats 16000000 in
theorem clones_law (hv : ArgC v gs) (hv2 : ArgC v2 hs) : CallA Try.prog 10 [v, v2] σ fun w _ => w = .bool true := by
  obtain ⟨⟨l, rfl, hva, hds⟩, hgl, hgb⟩ := id hv2
  obtain ⟨b, R, z, rfl, -, -⟩ := hva σ
  rw [List.length_map] at hgl
  have hcl := cgsV_len l
  refine fn_at Try.func10 (by decide) comp10 rfl fun Q q1 q2 => ?_
  simp -implicitDefEqProofs only [go_sem, Nat.reduceBEq, Nat.reduceAdd, eq_self, true_and, and_true, and_self, List.getElem?_cons_zero, List.getElem?_cons_succ, Nat.reduceLeDiff, Nat.zero_add, Nat.reduceSub, Nat.le_refl, c10]
  refine call_at (filled_ok (room := 50) rfl (hv.rd _) hv.2.1 hv.2.2) ?_
  rintro w τ1 ⟨ix, mx, sx, ovx, Px, u, rfl, hLx, hPx, hu, e1, -, -⟩
  refine ⟨kept_none, ?_⟩
  obtain ⟨bu, Ru, zu, esu, rfl⟩ := hu.isSl
  have hgd := logR_good gs 50
  have hPl : Px.length ≤ 50 := by
    have := logR_room gs 50
    rw [← hPx, map2_len] at this
    exact this
  generalize logR gs 50 = L at hPx hu hgd
  subst hPx
  simp -implicitDefEqProofs only [go_sem, Nat.reduceBEq, Nat.reduceAdd, eq_self, true_and, and_true, and_self, List.getElem?_cons_zero, List.getElem?_cons_succ, Nat.reduceLeDiff, Nat.zero_add, Nat.reduceSub, Nat.le_refl, flats, V.flat]
  refine call_at (clone_ok hLx rfl (by omega)) ?_
  rintro w τ2 ⟨iz, mz, sz, ovz, Pz, rfl, hLz, hPz, e2, hzo, hzf⟩
  refine ⟨kept_none, ?_⟩
  have hPzl : Pz.length ≤ 50 := by
    have := congrArg List.length hPz
    rw [map2_len, map2_len] at this
    omega
  have hdj : ∀ j, Own ix (some mx) sx ovx j → ¬ Own iz (some mz) sz ovz j := fun j h1 h2 => by
    have := hLx.mid.own_lt h1
    have := hzo j h2
    omega
  have hu2 := hu.ext e2
  rw [← hPz] at hu2
  have htd := told_ok hLz (by omega) hu2
  simp -implicitDefEqProofs only [go_sem, Nat.reduceBEq, Nat.reduceAdd, eq_self, true_and, and_true, and_self, List.getElem?_cons_zero, List.getElem?_cons_succ, Nat.reduceLeDiff, Nat.zero_add, Nat.reduceSub, Nat.le_refl, Nat.lt_irrefl]
  refine call_at htd ?_
  rintro w τ3 ⟨rfl, e3⟩
  refine ⟨kept_none, ?_⟩
  have hLx3 := (hLx.ext e2).ext e3
  have hLz3 := hLz.ext e3
  have hu3 := hu2.ext e3
  clear hLx hLz hu hu2 htd hzf hzo
  simp -implicitDefEqProofs only [go_sem, Nat.reduceBEq, Nat.reduceAdd, eq_self, true_and, and_true, and_self, List.getElem?_cons_zero, List.getElem?_cons_succ, Nat.reduceLeDiff, Nat.zero_add, Nat.reduceSub, Nat.le_refl, Bool.not_true, hcl]
  refine loop_at (fun (y : Nat) => ⟨[(1, .v (.sl b R z (cgsV l))), (5, .v (.ptr (some (ix, 0)))), (6, .loc 6 0), (7, .v (.ptr (some (iz, 0)))), (8, .v (.int .i64 ((y : Nat) : Int)))], [(6, [.int .i64 50, .sl bu Ru zu esu])]⟩)
    (fun y t => y ≤ l.length ∧ RdC t (.sl bu Ru zu esu) (cgL Pz) ∧ LogIs t iz (some mz) sz ovz 50 Pz ∧ ∃ s ov P, LogIs t ix (some mx) s ov 50 P ∧ P.length ≤ 50 ∧ ∀ j, Own ix (some mx) s ov j → ¬ Own iz (some mz) sz ovz j) (fun y => l.length - y) 0 ?_ ?_ ?_
  · refine .inr ?_
    simp -implicitDefEqProofs only [go_sem, Nat.reduceBEq, Nat.reduceAdd, eq_self, true_and, and_true, and_self, List.getElem?_cons_zero, List.getElem?_cons_succ, Nat.reduceLeDiff, Nat.zero_add, Nat.reduceSub, Nat.le_refl, Nat.lt_irrefl]
    try exact ⟨rfl, rfl⟩
    try exact rfl
  · exact ⟨Nat.zero_le _, hu3, hLz3, sx, ovx, Px, hLx3, hPl, hdj⟩
  rintro y t ⟨g1, g2, g3, s, ov, P, g4, g5, g6⟩ Z z1 z2 z3
  clear hu3 hLz3 hLx3 hdj
  simp -implicitDefEqProofs only [go_sem, Nat.reduceBEq, Nat.reduceAdd, eq_self, true_and, and_true, and_self, List.getElem?_cons_zero, List.getElem?_cons_succ, Nat.reduceLeDiff, Nat.zero_add, Nat.reduceSub, Nat.le_refl, hcl]
  cases hc : decide ((y : Int) < l.length)
  case true =>
    have hi : y < l.length := by have := of_decide_eq_true hc; omega
    have hget := cgsV_get hi
    have hwy : IntKind.i64.wrap ((y : Int) + 1) = ((y + 1 : Nat) : Int) := by rw [i64_in _ (by omega)]; omega
    obtain ⟨k1, k2⟩ := rdl (hva t) (cgsV_ne hi)
    have hdi := hds _ (List.getElem_mem hi)
    have hbi := hgb _ (List.mem_map_of_mem (List.getElem_mem hi))
    generalize l[y] = p at hget hdi hbi
    obtain ⟨d2, g⟩ := p
    simp only at hget hdi hbi
    have had := add_ok g4 (by omega) (hdi t) (by omega)
    simp only [cgV, cgC] at had
    simp -implicitDefEqProofs only [go_sem, Nat.reduceBEq, Nat.reduceAdd, eq_self, true_and, and_true, and_self, List.getElem?_cons_zero, List.getElem?_cons_succ, Nat.reduceLeDiff, Nat.zero_add, Nat.reduceSub, Nat.le_refl, hc, hcl, hget, cgC]
    refine ⟨⟨by omega, by omega, k2⟩, k1, ?_⟩
    refine call_at had ?_
    rintro w t1 ⟨rfl, s1, ov1, P1, h1, hP1, kt, hnw⟩
    refine ⟨kept_none, ?_⟩
    obtain ⟨m1, m2⟩ := dj_step g4 g3 g6 kt
    have hP1l : P1.length ≤ 50 := by
      have h5 := congrArg List.length hP1
      have h6 := addR_room (L := cgL P) (room := 50) (g := g) (by rw [map2_len]; exact g5)
      rw [map2_len] at h5
      omega
    simp -implicitDefEqProofs only [go_sem, Nat.reduceBEq, Nat.reduceAdd, eq_self, true_and, and_true, and_self, List.getElem?_cons_zero, List.getElem?_cons_succ, Nat.reduceLeDiff, Nat.zero_add, Nat.reduceSub, Nat.le_refl, hwy]
    refine z1 (y + 1) _ _ (.inr ?_) (by omega) ⟨by omega, ?_, m1, s1, ov1, P1, h1, hP1l, m2⟩
    · simp -implicitDefEqProofs only [go_sem, Nat.reduceBEq, Nat.reduceAdd, eq_self, true_and, and_true, and_self, List.getElem?_cons_zero, List.getElem?_cons_succ, Nat.reduceLeDiff, Nat.zero_add, Nat.reduceSub, Nat.le_refl, Nat.lt_irrefl]
      try exact ⟨rfl, rfl⟩
      try exact rfl
    · obtain ⟨l', p1, p2, p3⟩ := g2; exact ⟨l', p1, rdS_up p2 kt.upd, fun p hp => rdS_up (p3 p hp) kt.upd⟩
  simp -implicitDefEqProofs only [go_sem, Nat.reduceBEq, Nat.reduceAdd, eq_self, true_and, and_true, and_self, List.getElem?_cons_zero, List.getElem?_cons_succ, Nat.reduceLeDiff, Nat.zero_add, Nat.reduceSub, Nat.le_refl, hc]
  refine z2 _ _ _ ?_
  clear z1 z2 z3 g4 g5 g6
  simp -implicitDefEqProofs only [go_sem, Nat.reduceBEq, Nat.reduceAdd, eq_self, true_and, and_true, and_self, List.getElem?_cons_zero, List.getElem?_cons_succ, Nat.reduceLeDiff, Nat.zero_add, Nat.reduceSub, Nat.le_refl, Nat.lt_irrefl]
  refine call_at (all_ok g3 (by omega)) ?_
  rintro w t1 ⟨⟨O, hF, hO⟩, e5⟩
  refine ⟨kept_none, ?_⟩
  have hOl : O.length ≤ 50 := by
    have := congrArg List.length hO
    rw [map2_len, map2_len] at this
    omega
  have hOd : ∀ p ∈ O, p.2.deps.length ≤ 64 := fun p hp => g3.good.deps p.2 (by rw [← hO]; exact List.mem_map_of_mem hp)
  obtain ⟨lu, hlu1, hlu2, hlu3⟩ := id g2
  have hur : ∀ q r' s' es', t.live.length ≤ q → renV q r' s' es' (.sl bu Ru zu esu) = .sl bu Ru zu esu := fun q r' s' es' hq => by
    obtain ⟨_, _, _, e, -, -⟩ := id hlu2
    cases e
    exact renV_old hlu2 hq
  have hn0 : ∃ n0, n0 = t.live.length := ⟨_, rfl⟩
  obtain ⟨n0, hn0⟩ := hn0
  have hlt : decide (((0 : Nat) : Int) < ((0 : Nat) : Int)) = false := rfl
  simp -implicitDefEqProofs only [go_sem, Nat.reduceBEq, Nat.reduceAdd, eq_self, true_and, and_true, and_self, List.getElem?_cons_zero, List.getElem?_cons_succ, Nat.reduceLeDiff, Nat.zero_add, Nat.reduceSub, Nat.le_refl, Nat.lt_irrefl]
  refine loop_at (fun (y : Nat × V) => ⟨[(6, .loc 6 0), (7, .v (.ptr (some (iz, 0)))), (9, .v y.2), (10, .v (.int .i64 ((y.1 : Nat) : Int)))], [(6, [.int .i64 50, .sl bu Ru zu esu])]⟩)
    (fun y t' => y.1 ≤ O.length ∧ Ext t t' ∧ (((∃ z, y.2 = .sl true .pub z []) ∧ O.length = 0) ∨ ∃ qa es, y.2 = .sl false (.own qa) 13 es ∧ es.length = O.length ∧ AI t.live.length t' qa es y.1)) (fun y => O.length - y.1) (0, w) (.inr ?_) ?_ ?_
  · simp -implicitDefEqProofs only [go_sem, Nat.reduceBEq, Nat.reduceAdd, eq_self, true_and, and_true, and_self, List.getElem?_cons_zero, List.getElem?_cons_succ, Nat.reduceLeDiff, Nat.zero_add, Nat.reduceSub, Nat.le_refl, Nat.lt_irrefl]
    try exact ⟨rfl, rfl⟩
    try exact rfl
  · refine ⟨Nat.zero_le _, e5, ?_⟩
    rcases hF.1 with ⟨rfl, z, rfl⟩ | ⟨q, rfl, k1, k2, k3⟩
    · exact .inl ⟨⟨z, rfl⟩, rfl⟩
    · refine .inr ⟨q, _, rfl, cgsV_len O, k1, k2, fun j hj => ?_, fun j hj _ => ?_⟩
      · simp [cgsV, cgC]
      · have hj' : j < O.length := by simpa [cgsV] using hj
        obtain ⟨q', p1, p2, p3⟩ := hF.2 _ (List.getElem_mem hj')
        refine ⟨O[j].2, q', O[j].2.deps, by simp only [cgsV, List.getElem_map]; rw [p1], p2, p3, fun e => ?_, by have := hOd _ (List.getElem_mem hj'); omega⟩
        subst e
        exact k3 _ (List.getElem_mem hj') _ _ p1
  rintro ⟨y, w'⟩ t' ⟨f1, f2, f3⟩ X x1 x2 x3
  simp only at f1 f3
  rcases f3 with ⟨⟨z, rfl⟩, f3⟩ | ⟨qa, es, rfl, f3, f4⟩
  case' inl =>
    have hy0 : y = 0 := by omega
    subst hy0
    simp -implicitDefEqProofs only [go_sem, Nat.reduceBEq, Nat.reduceAdd, eq_self, true_and, and_true, and_self, List.getElem?_cons_zero, List.getElem?_cons_succ, Nat.reduceLeDiff, Nat.zero_add, Nat.reduceSub, Nat.le_refl, hlt]
    refine x2 _ _ _ ?_
    clear x1 x2 x3
    simp -implicitDefEqProofs only [go_sem, Nat.reduceBEq, Nat.reduceAdd, eq_self, true_and, and_true, and_self, List.getElem?_cons_zero, List.getElem?_cons_succ, Nat.reduceLeDiff, Nat.zero_add, Nat.reduceSub, Nat.le_refl, Nat.lt_irrefl]
  case' inr =>
    simp -implicitDefEqProofs only [go_sem, Nat.reduceBEq, Nat.reduceAdd, eq_self, true_and, and_true, and_self, List.getElem?_cons_zero, List.getElem?_cons_succ, Nat.reduceLeDiff, Nat.zero_add, Nat.reduceSub, Nat.le_refl, Nat.lt_irrefl]
    cases hc : decide ((y : Int) < es.length)
    case true =>
      have hi : y < es.length := by have := of_decide_eq_true hc; omega
      have hwy : IntKind.i64.wrap ((y : Int) + 1) = ((y + 1 : Nat) : Int) := by rw [i64_in _ (by omega)]; omega
      obtain ⟨g, q, ds, a1, a2, a3, a4, a5⟩ := f4.2.2.2 y hi (Nat.le_refl _)
      simp -implicitDefEqProofs only [go_sem, Nat.reduceBEq, Nat.reduceAdd, eq_self, true_and, and_true, and_self, List.getElem?_cons_zero, List.getElem?_cons_succ, Nat.reduceLeDiff, Nat.zero_add, Nat.reduceSub, Nat.le_refl, hc]
      refine loop_at (fun (u : Nat × Nat × List (List V)) => ⟨[(6, .loc 6 0), (7, .v (.ptr (some (iz, 0)))), (9, .v (.sl false (.own u.2.1) 13 u.2.2)), (10, .v (.int .i64 ((y : Nat) : Int))), (11, .v (.int .i64 ((u.1 : Nat) : Int)))], [(6, [.int .i64 50, .sl bu Ru zu esu])]⟩)
        (fun u t2 => u.1 ≤ ds.length ∧ Ext t t2 ∧ u.2.2.length = O.length ∧ AI t.live.length t2 u.2.1 u.2.2 y ∧ ∃ q g ds2, ∃ h : y < u.2.2.length, u.2.2[y] = cgC (.sl false (.own q) 1 (intsV .i64 ds2)) g ∧ ds2.length = ds.length ∧ t2.live[q]? = some true ∧ t.live.length ≤ q ∧ q ≠ u.2.1) (fun u => ds.length - u.1) (0, qa, es) (.inr ?_) ?_ ?_
      · simp -implicitDefEqProofs only [go_sem, Nat.reduceBEq, Nat.reduceAdd, eq_self, true_and, and_true, and_self, List.getElem?_cons_zero, List.getElem?_cons_succ, Nat.reduceLeDiff, Nat.zero_add, Nat.reduceSub, Nat.le_refl, Nat.lt_irrefl]
        try exact ⟨rfl, rfl⟩
        try exact rfl
      · exact ⟨Nat.zero_le _, f2, f3, f4, q, g, ds, hi, a1, rfl, a2, a3, a4⟩
      rintro ⟨k, qb, eb⟩ t2 ⟨b1, b2, b3, b4, q2', g2', ds2, hb, b5, b6, b7, b8, b9⟩ Y y1 y2 y3
      simp only at b1 b3 b4 hb b5 b9
      have hget : eb[((y : Nat) : Int).toNat]?.getD [] = cgC (.sl false (.own q2') 1 (intsV .i64 ds2)) g2' := by rw [Int.toNat_natCast, List.getElem?_eq_getElem hb]; exact b5
      have hget2 : eb[((y : Nat) : Int).toNat]? = some (cgC (.sl false (.own q2') 1 (intsV .i64 ds2)) g2') := by rw [Int.toNat_natCast, List.getElem?_eq_getElem hb, b5]
      simp -implicitDefEqProofs only [go_sem, Nat.reduceBEq, Nat.reduceAdd, eq_self, true_and, and_true, and_self, List.getElem?_cons_zero, List.getElem?_cons_succ, Nat.reduceLeDiff, Nat.zero_add, Nat.reduceSub, Nat.le_refl, hget, cgC, intsV_len]
      refine ⟨⟨by omega, by omega⟩, b4.1, ?_⟩
      cases hd : decide ((k : Int) < ds2.length)
      case true =>
        have hk : k < ds2.length := by have := of_decide_eq_true hd; omega
        have hwk : IntKind.i64.wrap ((k : Int) + 1) = ((k + 1 : Nat) : Int) := by rw [i64_in _ (by omega)]; omega
        have hgk : (intsV .i64 ds2)[((k : Nat) : Int).toNat]? = some [.int .i64 ds2[k]] := by simp [intsV, hk]
        have hne : Nat.beq qb q2' = false := by simpa [← Nat.beq_eq] using Ne.symm b9
        have hqq : Nat.beq q2' q2' = true := by simp
        have hqb : Nat.beq qb qb = true := by simp
        have hset : (intsV .i64 ds2).set ((k : Nat) : Int).toNat [.int .i64 (-7)] = intsV .i64 (ds2.set k (-7)) := by rw [Int.toNat_natCast, intsV_set]
        have hu1 : ∀ r' s' es', renV q2' r' s' es' (.sl bu Ru zu esu) = .sl bu Ru zu esu := fun r' s' es' => hur q2' r' s' es' b8
        have hu2 : ∀ r' s' es', renV qb r' s' es' (.sl bu Ru zu esu) = .sl bu Ru zu esu := fun r' s' es' => hur qb r' s' es' b4.2.1
        have hst := b4.step (k := k) hb b5 b7 b8 b9 (by omega) (-7)
        simp -implicitDefEqProofs only [go_sem, Nat.reduceBEq, Nat.reduceAdd, eq_self, true_and, and_true, and_self, List.getElem?_cons_zero, List.getElem?_cons_succ, Nat.reduceLeDiff, Nat.zero_add, Nat.reduceSub, Nat.le_refl, hd, hget, cgC, intsV_len, hgk, hne, hqq, hqb, hset, hu1, hu2, hwk]
        obtain ⟨s1, s2, s3, s4⟩ := hst
        refine ⟨⟨by omega, by omega⟩, b4.1, ⟨by omega, by omega⟩, ⟨b7, kill_other (Ne.symm b9).symm b4.1 _⟩, ?_⟩
        refine y1 (k + 1, _, _) _ _ (.inr ?_) (by simp only; omega) ⟨by simp only; omega, ext_kill (ext_kill b2 b8) b4.2.1, by simp only [List.length_map]; exact b3, s1, _, _, _, s2, s3, by simpa using b6, s4, by have := b2.llen; omega, by simp⟩
        · simp -implicitDefEqProofs only [go_sem, Nat.reduceBEq, Nat.reduceAdd, eq_self, true_and, and_true, and_self, List.getElem?_cons_zero, List.getElem?_cons_succ, Nat.reduceLeDiff, Nat.zero_add, Nat.reduceSub, Nat.le_refl, Nat.lt_irrefl]
          try exact ⟨rfl, rfl⟩
          try exact rfl
      simp -implicitDefEqProofs only [go_sem, Nat.reduceBEq, Nat.reduceAdd, eq_self, true_and, and_true, and_self, List.getElem?_cons_zero, List.getElem?_cons_succ, Nat.reduceLeDiff, Nat.zero_add, Nat.reduceSub, Nat.le_refl, hd]
      refine y2 _ _ _ ?_
      clear y1 y2 y3 hd
      have hu2 : ∀ r' s' es', renV qb r' s' es' (.sl bu Ru zu esu) = .sl bu Ru zu esu := fun r' s' es' => hur qb r' s' es' b4.2.1
      have hqb : (qb == qb) = true := by simp
      have hget3 : eb[y]? = some (cgC (.sl false (.own q2') 1 (intsV .i64 ds2)) g2') := by rw [List.getElem?_eq_getElem hb, b5]
      simp -implicitDefEqProofs only [go_sem, Nat.reduceBEq, Nat.reduceAdd, eq_self, true_and, and_true, and_self, List.getElem?_cons_zero, List.getElem?_cons_succ, Nat.reduceLeDiff, Nat.zero_add, Nat.reduceSub, Nat.le_refl, hget3, hwy, cgC, hqb, hu2, List.drop, Int.toNat_natCast]
      refine ⟨by omega, b4.1, ?_⟩
      refine x1 (y + 1, .sl false (.own t2.live.length) 13 (eb.set y [.int .i64 0, .int .i64 0, .int .i64 0, .sl true .pub 0 [], .int .i64 0, .int .i64 0, .int .i64 0, .int .i64 0, .int .i64 0, .int .i64 0, .int .i64 0, .str [], .str []])) _ _ (.inr ?_) (by simp only; omega) ⟨by simp only; omega, ext_kill b2 b4.2.1, .inr ⟨_, _, rfl, by simpa using b3, b4.next rfl⟩⟩
      · simp -implicitDefEqProofs only [go_sem, Nat.reduceBEq, Nat.reduceAdd, eq_self, true_and, and_true, and_self, List.getElem?_cons_zero, List.getElem?_cons_succ, Nat.reduceLeDiff, Nat.zero_add, Nat.reduceSub, Nat.le_refl, Nat.lt_irrefl]
        try exact ⟨rfl, rfl⟩
        try exact rfl
    simp -implicitDefEqProofs only [go_sem, Nat.reduceBEq, Nat.reduceAdd, eq_self, true_and, and_true, and_self, List.getElem?_cons_zero, List.getElem?_cons_succ, Nat.reduceLeDiff, Nat.zero_add, Nat.reduceSub, Nat.le_refl, hc]
    refine x2 _ _ _ ?_
    clear x1 x2 x3 hc
    simp -implicitDefEqProofs only [go_sem, Nat.reduceBEq, Nat.reduceAdd, eq_self, true_and, and_true, and_self, List.getElem?_cons_zero, List.getElem?_cons_succ, Nat.reduceLeDiff, Nat.zero_add, Nat.reduceSub, Nat.le_refl, Nat.lt_irrefl]
  all_goals
    have hLzt := g3.ext f2
    refine call_at (pclock_new hLzt) ?_
    rintro wc τc ⟨⟨out, zc, htr, rc, rfl, hrc, hrcl⟩, ec⟩
    refine ⟨ec.kept, ?_⟩
    have e8 := f2.trans ec
    have hzl := f2.llen
    have hol : out.length ≤ 64 := by
      have := congrArg List.length htr.1
      rw [cnts_len, List.length_append] at this
      omega
    simp -implicitDefEqProofs only [go_sem, Nat.reduceBEq, Nat.reduceAdd, eq_self, true_and, and_true, and_self, List.getElem?_cons_zero, List.getElem?_cons_succ, Nat.reduceLeDiff, Nat.zero_add, Nat.reduceSub, Nat.le_refl, Nat.lt_irrefl]
    refine loop_at (fun (u : Nat × Nat × List Int) => ⟨[(6, .loc 6 0), (7, .v (.ptr (some (iz, 0)))), (12, .v (.sl false (.own u.2.1) 1 (intsV .i64 u.2.2))), (13, .v (.int .i64 ((u.1 : Nat) : Int)))], [(6, [.int .i64 50, .sl bu Ru zu esu])]⟩)
      (fun u t2 => u.1 ≤ out.length ∧ Ext t t2 ∧ u.2.2.length = out.length ∧ t2.live[u.2.1]? = some true ∧ t.live.length ≤ u.2.1) (fun u => out.length - u.1) (0, rc, out) (.inr ?_) ?_ ?_
    · simp -implicitDefEqProofs only [go_sem, Nat.reduceBEq, Nat.reduceAdd, eq_self, true_and, and_true, and_self, List.getElem?_cons_zero, List.getElem?_cons_succ, Nat.reduceLeDiff, Nat.zero_add, Nat.reduceSub, Nat.le_refl, Nat.lt_irrefl]
      try exact ⟨rfl, rfl⟩
      try exact rfl
    · exact ⟨Nat.zero_le _, e8, rfl, hrc, by simp only; omega⟩
    rintro ⟨k, qb, dd⟩ t2 ⟨b1, b2, b3, b4, b5⟩ Y y1 y2 y3
    simp only at b1 b3 b4 b5
    simp -implicitDefEqProofs only [go_sem, Nat.reduceBEq, Nat.reduceAdd, eq_self, true_and, and_true, and_self, List.getElem?_cons_zero, List.getElem?_cons_succ, Nat.reduceLeDiff, Nat.zero_add, Nat.reduceSub, Nat.le_refl, intsV_len]
    cases hd : decide ((k : Int) < dd.length)
    case true =>
      have hk : k < dd.length := by have := of_decide_eq_true hd; omega
      have hwk : IntKind.i64.wrap ((k : Int) + 1) = ((k + 1 : Nat) : Int) := by rw [i64_in _ (by omega)]; omega
      have hgk : (intsV .i64 dd)[k]? = some [.int .i64 dd[k]] := by simp [intsV, hk]
      have hqb : Nat.beq qb qb = true := by simp
      have hqb2 : (qb == qb) = true := by simp
      have hset : (intsV .i64 dd).set k [.int .i64 (-7)] = intsV .i64 (dd.set k (-7)) := by rw [intsV_set]
      have hu2 : ∀ r' s' es', renV qb r' s' es' (.sl bu Ru zu esu) = .sl bu Ru zu esu := fun r' s' es' => hur qb r' s' es' b5
      simp -implicitDefEqProofs only [go_sem, Nat.reduceBEq, Nat.reduceAdd, eq_self, true_and, and_true, and_self, List.getElem?_cons_zero, List.getElem?_cons_succ, Nat.reduceLeDiff, Nat.zero_add, Nat.reduceSub, Nat.le_refl, hd, intsV_len, Int.toNat_natCast, hgk, hqb, hqb2, hset, hu2, hwk]
      refine ⟨⟨by omega, by omega⟩, b4, ?_⟩
      refine y1 (k + 1, t2.live.length, dd.set k (-7)) _ _ (.inr ?_) (by simp only; omega) ⟨by simp only; omega, ext_kill b2 b5, by simpa using b3, live_last' _ _ _, by have := b2.llen; simp only; omega⟩
      · simp -implicitDefEqProofs only [go_sem, Nat.reduceBEq, Nat.reduceAdd, eq_self, true_and, and_true, and_self, List.getElem?_cons_zero, List.getElem?_cons_succ, Nat.reduceLeDiff, Nat.zero_add, Nat.reduceSub, Nat.le_refl, Nat.lt_irrefl]
        try exact ⟨rfl, rfl⟩
        try exact rfl
    simp -implicitDefEqProofs only [go_sem, Nat.reduceBEq, Nat.reduceAdd, eq_self, true_and, and_true, and_self, List.getElem?_cons_zero, List.getElem?_cons_succ, Nat.reduceLeDiff, Nat.zero_add, Nat.reduceSub, Nat.le_refl, hd]
    refine y2 _ _ _ ?_
    clear y1 y2 y3 hd
    simp -implicitDefEqProofs only [go_sem, Nat.reduceBEq, Nat.reduceAdd, eq_self, true_and, and_true, and_self, List.getElem?_cons_zero, List.getElem?_cons_succ, Nat.reduceLeDiff, Nat.zero_add, Nat.reduceSub, Nat.le_refl, flats, V.flat]
    refine call_at (told_ok (g3.ext b2) (by omega) (g2.ext b2)) ?_
    rintro w9 τ9 ⟨rfl, e9⟩
    refine ⟨e9.kept, ?_⟩
    simp -implicitDefEqProofs only [go_sem, Nat.reduceBEq, Nat.reduceAdd, eq_self, true_and, and_true, and_self, List.getElem?_cons_zero, List.getElem?_cons_succ, Nat.reduceLeDiff, Nat.zero_add, Nat.reduceSub, Nat.le_refl, Nat.lt_irrefl]
    refine call_at awake_ok ?_
    rintro w10 τ10 ⟨rfl, e10⟩
    refine ⟨e10.kept, ?_⟩
    simp -implicitDefEqProofs only [go_sem, Nat.reduceBEq, Nat.reduceAdd, eq_self, true_and, and_true, and_self, List.getElem?_cons_zero, List.getElem?_cons_succ, Nat.reduceLeDiff, Nat.zero_add, Nat.reduceSub, Nat.le_refl, Nat.lt_irrefl]
    refine q2 _ _ ?_
    simp -implicitDefEqProofs only [go_sem, Nat.reduceBEq, Nat.reduceAdd, eq_self, true_and, and_true, and_self, List.getElem?_cons_zero, List.getElem?_cons_succ, Nat.reduceLeDiff, Nat.zero_add, Nat.reduceSub, Nat.le_refl, Nat.lt_irrefl]
end
end Go.VL.opl

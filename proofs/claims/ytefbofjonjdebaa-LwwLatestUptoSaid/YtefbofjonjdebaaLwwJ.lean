/- lww: LwwLatest: the program answers. -/
import Derived.Test.YtefbofjonjdebaaLwwI
set_option linter.unusedVariables false
set_option linter.unusedSimpArgs false
set_option linter.unusedSimpArgs false
namespace Go.VL.lww
open Go Go.VL Go.Proofs Go.IntWalk

theorem get_some {S : List Rg} {r w : Rg} (h : S.find? (sameK r) = some w) : getR S r = w := by unfold getR; rw [h]; rfl

def same7 (u w : Rg) : Bool := V.eqs (regC u) (regC w)
theorem same7_self (w : Rg) : same7 w w = true := by
  obtain ⟨b1, b2, b3, b4, b5, b6, b7⟩ := w
  simp [same7, regC, V.eqs, V.eq]
def was (w : Rg) (l : List Rg) : Bool := l.any fun u => same7 u w
theorem was_mem {w : Rg} {l : List Rg} (h : w ∈ l) : was w l = true := List.any_eq_true.2 ⟨w, h, same7_self w⟩

section
variable {σ : St} {r : Rg} {l : List Rg} {v : V}
set_option maxRecDepth 100000 in
set_option maxHeartbeats 3200000 in
theorem latest_ok (hv : RdS σ v 7 (regsV l)) (hlen : ∀ r ∈ l, r.name.length < 4611686018427387904) (hl : l.length ≤ 268435456) :
    CallA Try.prog 4 [v] σ fun w _ => w = .bool true := by
  obtain ⟨b, R, z, rfl, -, -⟩ := id hv
  refine fn_at Try.func4 (by decide) comp4 rfl fun Q q1 q2 => ?_
  simp -implicitDefEqProofs only [go_sem, Nat.reduceBEq, Nat.reduceAdd, eq_self, true_and, and_true, and_self, List.getElem?_cons_zero, List.getElem?_cons_succ, Nat.reduceLeDiff, Nat.zero_add, Nat.reduceSub, Nat.le_refl, c4]
  refine call_at (laid_ok hv hlen hl) ?_
  rintro v τ ⟨i0, m, x, rfl, hr, -, he, -⟩
  refine ⟨kept_none, ?_⟩
  have hL := latest_puts (l.take 200)
  generalize puts (l.take 200) = S at hr hL
  have hlenL : (l.take 200).length ≤ 200 := by rw [List.length_take]; omega
  have hlen2 : ∀ r ∈ l.take 200, r.name.length < 4611686018427387904 := fun r hr => hlen r (List.mem_of_mem_take hr)
  have hz := rd_z hv
  have hl4 := regsV_length l
  simp -implicitDefEqProofs only [go_sem, Nat.reduceBEq, Nat.reduceAdd, eq_self, true_and, and_true, and_self, List.getElem?_cons_zero, List.getElem?_cons_succ, Nat.reduceLeDiff, Nat.zero_add, Nat.reduceSub, Nat.le_refl, Nat.lt_irrefl]
  refine cut_at (fun G τ' => τ' = τ ∧ ∃ b' R' z', G = ⟨[(0, .v (.sl b' R' z' (regsV (l.take 200)))), (3, .v (.ptr (some (i0, 0))))], []⟩ ∧ RdS τ (.sl b' R' z' (regsV (l.take 200))) 7 (regsV (l.take 200))) ?_ ?_
  · intro Z z1 z2 z3
    simp -implicitDefEqProofs only [go_sem, Nat.reduceBEq, Nat.reduceAdd, eq_self, true_and, and_true, and_self, List.getElem?_cons_zero, List.getElem?_cons_succ, Nat.reduceLeDiff, Nat.zero_add, Nat.reduceSub, Nat.le_refl, Nat.lt_irrefl]
    refine CondW_b (fun hc => ?_) (fun hc => ?_)
    · have hc := of_decide_eq_true hc
      simp -implicitDefEqProofs only [go_sem, Nat.reduceBEq, Nat.reduceAdd, eq_self, true_and, and_true, and_self, List.getElem?_cons_zero, List.getElem?_cons_succ, Nat.reduceLeDiff, Nat.zero_add, Nat.reduceSub, Nat.le_refl, Nat.lt_irrefl]
      have ht : List.take (Int.toNat 200) (regsV l) = regsV (l.take 200) := by simp [regsV, List.map_take]
      refine ⟨⟨hz, by decide, by decide, by show 200 ≤ _; omega⟩, ?_⟩
      rw [ht]
      refine z1 _ _ _ (.inr ?_) ⟨rfl, b, R.toView, z, rfl, ?_⟩
      · simp -implicitDefEqProofs only [go_sem, Nat.reduceBEq, Nat.reduceAdd, eq_self, true_and, and_true, and_self, List.getElem?_cons_zero, List.getElem?_cons_succ, Nat.reduceLeDiff, Nat.zero_add, Nat.reduceSub, Nat.le_refl, Nat.lt_irrefl]
      · have h2 := hv.ext he
        obtain ⟨_, _, _, e, h3, h4⟩ := h2
        cases e
        refine ⟨_, _, _, rfl, fun hb => ?_, h4.imp_right fun x => ⟨rd_toView x.1, x.2⟩⟩
        have := h3 hb
        rw [this] at hc
        simp at hc
    · have hc := of_decide_eq_false hc
      simp -implicitDefEqProofs only [go_sem, Nat.reduceBEq, Nat.reduceAdd, eq_self, true_and, and_true, and_self, List.getElem?_cons_zero, List.getElem?_cons_succ, Nat.reduceLeDiff, Nat.zero_add, Nat.reduceSub, Nat.le_refl, Nat.lt_irrefl]
      have ht : l.take 200 = l := List.take_of_length_le (by omega)
      refine z1 _ _ _ (.inr ?_) ⟨rfl, b, R, z, rfl, ?_⟩
      · rw [ht]; simp -implicitDefEqProofs only [go_sem, Nat.reduceBEq, Nat.reduceAdd, eq_self, true_and, and_true, and_self, List.getElem?_cons_zero, List.getElem?_cons_succ, Nat.reduceLeDiff, Nat.zero_add, Nat.reduceSub, Nat.le_refl, Nat.lt_irrefl]
      · rw [ht]; exact hv.ext he
  generalize l.take 200 = L at hL hlenL hlen2
  rintro G τ' ⟨rfl, b', R', z', rfl, hs⟩
  simp -implicitDefEqProofs only [go_sem, Nat.reduceBEq, Nat.reduceAdd, eq_self, true_and, and_true, and_self, List.getElem?_cons_zero, List.getElem?_cons_succ, Nat.reduceLeDiff, Nat.zero_add, Nat.reduceSub, Nat.le_refl, Nat.lt_irrefl]
  refine loop_at (fun (i : Nat) => ⟨[(0, .v (.sl b' R' z' (regsV L))), (3, .v (.ptr (some (i0, 0)))), (5, .v (.int .i64 i))], []⟩)
    (fun i τ1 => i ≤ L.length ∧ Ext τ' τ1) (fun i => L.length - i) 0 ?_ ?_ ?_
  · exact .inr (by simp -implicitDefEqProofs only [go_sem, Nat.reduceBEq, Nat.reduceAdd, eq_self, true_and, and_true, and_self, List.getElem?_cons_zero, List.getElem?_cons_succ, Nat.reduceLeDiff, Nat.zero_add, Nat.reduceSub, Nat.le_refl, Nat.lt_irrefl]; trivial)
  · exact ⟨Nat.zero_le _, Ext.refl _⟩
  rintro i τ1 ⟨g1, g2⟩ Z z1 z2 z3
  simp -implicitDefEqProofs only [go_sem, Nat.reduceBEq, Nat.reduceAdd, eq_self, true_and, and_true, and_self, List.getElem?_cons_zero, List.getElem?_cons_succ, Nat.reduceLeDiff, Nat.zero_add, Nat.reduceSub, Nat.le_refl, Nat.lt_irrefl]
  refine CondW_b (fun hcc => ?_) (fun hcc => ?_)
  case refine_2 =>
    simp -implicitDefEqProofs only [go_sem, Nat.reduceBEq, Nat.reduceAdd, eq_self, true_and, and_true, and_self, List.getElem?_cons_zero, List.getElem?_cons_succ, Nat.reduceLeDiff, Nat.zero_add, Nat.reduceSub, Nat.le_refl, Nat.lt_irrefl]
    refine z2 _ _ _ ?_
    simp -implicitDefEqProofs only [go_sem, Nat.reduceBEq, Nat.reduceAdd, eq_self, true_and, and_true, and_self, List.getElem?_cons_zero, List.getElem?_cons_succ, Nat.reduceLeDiff, Nat.zero_add, Nat.reduceSub, Nat.le_refl, Nat.lt_irrefl]
    refine call_at awake_ok ?_
    rintro v τ2 ⟨rfl, he2⟩
    refine ⟨kept_none, ?_⟩
    simp -implicitDefEqProofs only [go_sem, Nat.reduceBEq, Nat.reduceAdd, eq_self, true_and, and_true, and_self, List.getElem?_cons_zero, List.getElem?_cons_succ, Nat.reduceLeDiff, Nat.zero_add, Nat.reduceSub, Nat.le_refl, Nat.lt_irrefl]
    refine q2 _ _ ?_
    simp -implicitDefEqProofs only [go_sem, Nat.reduceBEq, Nat.reduceAdd, eq_self, true_and, and_true, and_self, List.getElem?_cons_zero, List.getElem?_cons_succ, Nat.reduceLeDiff, Nat.zero_add, Nat.reduceSub, Nat.le_refl, Nat.lt_irrefl]
  have hi : i < L.length := by simpa [regsV_length] using hcc
  obtain ⟨k1, k2⟩ := rdl (hs.ext g2) (by cases L <;> simp [regsV] at hi ⊢)
  have hget := regsV_get hi
  have hib : (i : Int) < (regsV L).length := by rw [regsV_length]; omega
  have hmem := List.getElem_mem hi
  generalize L[i] = y at hget hmem
  have hyl := hlen2 y hmem
  simp -implicitDefEqProofs only [go_sem, Nat.reduceBEq, Nat.reduceAdd, eq_self, true_and, and_true, and_self, List.getElem?_cons_zero, List.getElem?_cons_succ, Nat.reduceLeDiff, Nat.zero_add, Nat.reduceSub, Nat.le_refl, hget, regC]
  refine cut_at (fun G τ2 => G = ⟨[(0, .v (.sl b' R' z' (regsV L))), (3, .v (.ptr (some (i0, 0)))), (5, .v (.int .i64 i))], []⟩ ∧ Ext τ1 τ2) ?_ ?_
  case refine_2 =>
    rintro G τ2 ⟨rfl, he2⟩
    simp -implicitDefEqProofs only [go_sem, Nat.reduceBEq, Nat.reduceAdd, eq_self, true_and, and_true, and_self, List.getElem?_cons_zero, List.getElem?_cons_succ, Nat.reduceLeDiff, Nat.zero_add, Nat.reduceSub, Nat.le_refl, Nat.lt_irrefl]
    refine z1 (i + 1) _ _ (.inr ?_) (by omega) ⟨by omega, g2.trans he2⟩
    simp -implicitDefEqProofs only [go_sem, Nat.reduceBEq, Nat.reduceAdd, eq_self, true_and, and_true, and_self, List.getElem?_cons_zero, List.getElem?_cons_succ, Nat.reduceLeDiff, Nat.zero_add, Nat.reduceSub, Nat.le_refl, Nat.lt_irrefl]
    rw [i64_in _ (by omega)]; simp
  intro Y y1 y2 y3
  simp -implicitDefEqProofs only [go_sem, Nat.reduceBEq, Nat.reduceAdd, eq_self, true_and, and_true, and_self, List.getElem?_cons_zero, List.getElem?_cons_succ, Nat.reduceLeDiff, Nat.zero_add, Nat.reduceSub, Nat.le_refl, hget, regC]
  refine ⟨⟨by omega, hib, k2⟩, k1, call_at (rcheck_ok (r := y) hyl) ?_⟩
  rintro v τ2 ⟨rfl, rfl⟩
  refine ⟨kept_none, ?_⟩
  simp -implicitDefEqProofs only [go_sem, Nat.reduceBEq, Nat.reduceAdd, eq_self, true_and, and_true, and_self, List.getElem?_cons_zero, List.getElem?_cons_succ, Nat.reduceLeDiff, Nat.zero_add, Nat.reduceSub, Nat.le_refl, Nat.lt_irrefl]
  refine CondW_b (fun hk => ?_) (fun hk => ?_)
  · simp -implicitDefEqProofs only [go_sem, Nat.reduceBEq, Nat.reduceAdd, eq_self, true_and, and_true, and_self, List.getElem?_cons_zero, List.getElem?_cons_succ, Nat.reduceLeDiff, Nat.zero_add, Nat.reduceSub, Nat.le_refl, Nat.lt_irrefl]
    refine y1 _ _ _ (.inr ?_) ⟨rfl, Ext.refl _⟩
    simp -implicitDefEqProofs only [go_sem, Nat.reduceBEq, Nat.reduceAdd, eq_self, true_and, and_true, and_self, List.getElem?_cons_zero, List.getElem?_cons_succ, Nat.reduceLeDiff, Nat.zero_add, Nat.reduceSub, Nat.le_refl, Nat.lt_irrefl]
  have hk : chk y = 0 := by simpa using hk
  obtain ⟨w, hw1, hw2⟩ := hL.2 y hmem hk
  have hgw := get_some hw1
  have hwm := hL.1 w (List.mem_of_find?_eq_some hw1)
  simp -implicitDefEqProofs only [go_sem, Nat.reduceBEq, Nat.reduceAdd, eq_self, true_and, and_true, and_self, List.getElem?_cons_zero, List.getElem?_cons_succ, Nat.reduceLeDiff, Nat.zero_add, Nat.reduceSub, Nat.le_refl, hget, regC]
  have hgt := fun (τx : St) (he : Ext τ2 τx) => get_ok (r := y) (hr.ext (g2.trans he))
  rw [hgw, hw1] at hgt
  simp only [stV, Option.isSome_some] at hgt
  have hlast : ∀ (a : List AObj) x, (a ++ [x])[a.length]? = some x := fun a x => by simp
  refine ⟨⟨⟨by omega, hib, k2⟩, k1, ⟨by omega, hib, k2⟩, k1, call_at (hgt τ2 (Ext.refl _)) ?_⟩, ⟨by omega, hib, k2⟩, k1, ⟨by omega, hib, k2⟩, k1, call_at (hgt _ (ext_obj τ2 _)) ?_⟩
  case' refine_1 =>
    rintro v τ3 ⟨rfl, he3, -⟩
    refine ⟨he3.kept, ?_⟩
    simp -implicitDefEqProofs only [go_sem, Nat.reduceBEq, Nat.reduceAdd, eq_self, true_and, and_true, and_self, List.getElem?_cons_zero, List.getElem?_cons_succ, Nat.reduceLeDiff, Nat.zero_add, Nat.reduceSub, Nat.le_refl, hlast, regV, regC]
    have hp : (({ objs := τ3.objs ++ [.cells [.int .i64 0, .int .i64 0, .str [], .int .i64 0, .int .i64 0, .str [], .bool false]], live := τ3.live } : St).setC τ3.objs.length (regC w)).objs[τ3.objs.length]? = some (.cells (regC w)) := by
      show ((τ3.objs ++ [_]).set _ _)[_]? = _
      simp
    have he4 := he3.trans (ext_cell (σ := τ3) (.cells [.int .i64 0, .int .i64 0, .str [], .int .i64 0, .int .i64 0, .str [], .bool false]) (regC w))
    generalize τ3.objs.length = p at hp he4
  case' refine_2 =>
    rintro v τ3 ⟨rfl, he3, -⟩
    refine ⟨he3.kept, ?_⟩
    have ho := he3.objs _ _ (hlast _ _)
    simp -implicitDefEqProofs only [go_sem, Nat.reduceBEq, Nat.reduceAdd, eq_self, true_and, and_true, and_self, List.getElem?_cons_zero, List.getElem?_cons_succ, Nat.reduceLeDiff, Nat.zero_add, Nat.reduceSub, Nat.le_refl, ho, regV, regC]
    have hp : (τ3.setC τ2.objs.length (regC w)).objs[τ2.objs.length]? = some (.cells (regC w)) := by
      show (τ3.objs.set _ _)[_]? = _
      have := (List.getElem?_eq_some_iff.1 ho).1
      simp [this]
    have he4 := ext_set ((ext_obj τ2 _).trans he3) (Nat.le_refl _) (cs := regC w)
    generalize τ2.objs.length = p at hp he4
  all_goals
    simp only [regC] at hp he4
    revert hp he4
    generalize St.setC _ _ _ = τ4
    intro hp he4
    have k4 := rdl (hs.ext (g2.trans he4)) (by cases L <;> simp [regsV] at hi ⊢)
    simp -implicitDefEqProofs only [go_sem, Nat.reduceBEq, Nat.reduceAdd, eq_self, true_and, and_true, and_self, List.getElem?_cons_zero, List.getElem?_cons_succ, Nat.reduceLeDiff, Nat.zero_add, Nat.reduceSub, Nat.le_refl, hget, regC, hp, regV]
    refine ⟨⟨by omega, hib, k2⟩, k4.1, call_at (wins_ok (a := y) (b := w)) ?_⟩
    rintro v τ5 ⟨rfl, rfl⟩
    refine ⟨(Ext.refl _).kept, ?_⟩
    simp -implicitDefEqProofs only [go_sem, Nat.reduceBEq, Nat.reduceAdd, eq_self, true_and, and_true, and_self, List.getElem?_cons_zero, List.getElem?_cons_succ, Nat.reduceLeDiff, Nat.zero_add, Nat.reduceSub, Nat.le_refl, hw2]
    refine loop_at (fun (k : Nat) => ⟨[(0, .v (.sl b' R' z' (regsV L))), (3, .v (.ptr (some (i0, 0)))), (5, .v (.int .i64 i)), (6, .v (.ptr (some (p, 0)))), (8, .v (.bool (was w (L.take k)))), (9, .v (.int .i64 k))], []⟩)
      (fun k τ6 => k ≤ L.length ∧ τ6 = τ5) (fun k => L.length - k) 0 ?_ ?_ ?_
    · exact .inr (by simp -implicitDefEqProofs only [go_sem, Nat.reduceBEq, Nat.reduceAdd, eq_self, true_and, and_true, and_self, List.getElem?_cons_zero, List.getElem?_cons_succ, Nat.reduceLeDiff, Nat.zero_add, Nat.reduceSub, Nat.le_refl, List.take_zero, was, List.any_nil]; trivial)
    · exact ⟨Nat.zero_le _, rfl⟩
    rintro k τ6 ⟨g3, rfl⟩ X x1 x2 x3
    simp -implicitDefEqProofs only [go_sem, Nat.reduceBEq, Nat.reduceAdd, eq_self, true_and, and_true, and_self, List.getElem?_cons_zero, List.getElem?_cons_succ, Nat.reduceLeDiff, Nat.zero_add, Nat.reduceSub, Nat.le_refl, Nat.lt_irrefl]
    refine CondW_b (fun hkk => ?_) (fun hkk => ?_)
    · have hki : k < L.length := by simpa [regsV_length] using hkk
      have hgetk := regsV_get hki
      have htkk : L.take (k + 1) = L.take k ++ [L[k]] := List.take_succ_eq_append_getElem hki
      generalize L[k] = u at hgetk htkk
      have hib2 : (k : Int) < (regsV L).length := by rw [regsV_length]; omega
      have hcmp : was w (L.take (k + 1)) = (was w (L.take k) || same7 u w) := by
        rw [htkk]; simp [was]
      simp only [same7, regC] at hcmp
      have hw64 : IntKind.i64.wrap ((k : Int) + 1) = ((k + 1 : Nat) : Int) := by rw [i64_in _ (by omega)]; omega
      cases hin : was w (L.take k) <;> rw [hin] at hcmp
      · simp -implicitDefEqProofs only [go_sem, Nat.reduceBEq, Nat.reduceAdd, eq_self, true_and, and_true, and_self, List.getElem?_cons_zero, List.getElem?_cons_succ, Nat.reduceLeDiff, Nat.zero_add, Nat.reduceSub, Nat.le_refl, hgetk, regC, hp]
        refine ⟨⟨by omega, hib2, k2⟩, k4.1, ?_⟩
        refine x1 (k + 1) _ _ (.inr ?_) (by omega) ⟨by omega, rfl⟩
        rw [Bool.false_or] at hcmp
        simp -implicitDefEqProofs only [go_sem, Nat.reduceBEq, Nat.reduceAdd, eq_self, true_and, and_true, and_self, List.getElem?_cons_zero, List.getElem?_cons_succ, Nat.reduceLeDiff, Nat.zero_add, Nat.reduceSub, Nat.le_refl, hw64, hcmp]
      · simp -implicitDefEqProofs only [go_sem, Nat.reduceBEq, Nat.reduceAdd, eq_self, true_and, and_true, and_self, List.getElem?_cons_zero, List.getElem?_cons_succ, Nat.reduceLeDiff, Nat.zero_add, Nat.reduceSub, Nat.le_refl, hgetk, regC, hp]
        refine x1 (k + 1) _ _ (.inr ?_) (by omega) ⟨by omega, rfl⟩
        rw [Bool.true_or] at hcmp
        simp -implicitDefEqProofs only [go_sem, Nat.reduceBEq, Nat.reduceAdd, eq_self, true_and, and_true, and_self, List.getElem?_cons_zero, List.getElem?_cons_succ, Nat.reduceLeDiff, Nat.zero_add, Nat.reduceSub, Nat.le_refl, hw64, hcmp]
    · have hki : ¬ k < L.length := by simpa [regsV_length] using hkk
      have hfull : was w (L.take k) = true := by rw [List.take_of_length_le (by omega)]; exact was_mem hwm
      simp -implicitDefEqProofs only [go_sem, Nat.reduceBEq, Nat.reduceAdd, eq_self, true_and, and_true, and_self, List.getElem?_cons_zero, List.getElem?_cons_succ, Nat.reduceLeDiff, Nat.zero_add, Nat.reduceSub, Nat.le_refl, Nat.lt_irrefl]
      refine x2 _ _ _ ?_
      simp -implicitDefEqProofs only [go_sem, Nat.reduceBEq, Nat.reduceAdd, eq_self, true_and, and_true, and_self, List.getElem?_cons_zero, List.getElem?_cons_succ, Nat.reduceLeDiff, Nat.zero_add, Nat.reduceSub, Nat.le_refl, hfull]
      refine y1 _ _ _ (.inr ?_) ⟨rfl, he4⟩
      simp -implicitDefEqProofs only [go_sem, Nat.reduceBEq, Nat.reduceAdd, eq_self, true_and, and_true, and_self, List.getElem?_cons_zero, List.getElem?_cons_succ, Nat.reduceLeDiff, Nat.zero_add, Nat.reduceSub, Nat.le_refl, Nat.lt_irrefl]
end
end Go.VL.lww

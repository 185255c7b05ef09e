import Derived.Test.YtkahnkemijlgkaaB2
import Derived.ReadAgain
set_option linter.unusedVariables false
set_option linter.unusedSimpArgs false
namespace Go.VL.rga
open Go Go.VL Go.Proofs Go.IntWalk Go.VL.st Go.VL.row

theorem find_addE {k z : V} {es : List (V × V)} (hk : V.eq k k = true) : (find k (Go.VL.addE k z es)).getD z = (find k es).getD z := by
  unfold Go.VL.addE
  cases h : find k es with
  | some v => simp [h]
  | none =>
    have : ∀ es : List (V × V), find k es = none → find k (es ++ [(k, z)]) = some z := by
      intro es
      induction es with
      | nil => intro _; simp [find, hk]
      | cons p r ih =>
        intro h
        simp only [find] at h
        simp only [List.cons_append, find]
        cases hp : V.eq k p.1 <;> rw [hp] at h
        · simp only [cond_false] at h ⊢; exact ih h
        · cases h
    simp only [this es h]
    rfl
theorem upd_addE {k z v : V} {es : List (V × V)} (hk : V.eq k k = true) : upd k v (Go.VL.addE k z es) = upd k v es := by
  unfold Go.VL.addE
  cases h : find k es with
  | some v => rfl
  | none =>
    have : ∀ es : List (V × V), find k es = none → upd k v (es ++ [(k, z)]) = upd k v es := by
      intro es
      induction es with
      | nil => intro _; simp [upd, hk]
      | cons p r ih =>
        intro h
        simp only [find] at h
        simp only [List.cons_append, upd]
        cases hp : V.eq k p.1 <;> rw [hp] at h
        · simp only [cond_false] at h ⊢; rw [ih h]
        · cases h
    exact this es h
theorem find_addE' {k z : V} {es : List (V × V)} (hk : V.eq k k = true) : find k (Go.VL.addE k z es) = some ((find k es).getD z) := by
  unfold Go.VL.addE
  cases h : find k es with
  | some v => simp [h]
  | none =>
    have : ∀ es : List (V × V), find k es = none → find k (es ++ [(k, z)]) = some z := by
      intro es
      induction es with
      | nil => intro _; simp [find, hk]
      | cons p r ih =>
        intro h
        simp only [find] at h
        simp only [List.cons_append, find]
        cases hp : V.eq k p.1 <;> rw [hp] at h
        · simp only [cond_false] at h ⊢; exact ih h
        · cases h
    simp only [this es h]
    rfl
theorem set_two {τ : St} {a : Nat} {o1 o2 o3 : AObj} (h : τ.objs[a]? = some o3) : ((τ.setA a o1).setA a o2).objs[a]? = some o2 := by
  show ((τ.objs.set a o1).set a o2)[a]? = _
  rw [List.getElem?_set_self (by rw [List.length_set]; exact (List.getElem?_eq_some_iff.1 h).1)]
theorem key_self (x : Sp) : V.eq (.agg [.int .i64 x.c, .int .i64 x.r]) (.agg [.int .i64 x.c, .int .i64 x.r]) = true := by
  simp only [V.eq, sp_eqs, decide_true]
def cntA (S : List Sl) (x : Sp) : Nat := (S.filter fun s => decide (s.a = x)).length
theorem cntA_pos {S : List Sl} {x : Sp} : decide ((cntA S x : Int) = 0) = !hasB S x := by
  rw [Bool.eq_iff_iff, decide_eq_true_eq, Bool.not_eq_true']
  unfold cntA
  cases h : hasB S x
  · simp only [iff_true]
    have : (S.filter fun s => decide (s.a = x)) = [] := by
      rw [List.filter_eq_nil_iff]
      intro s hs h2
      have := hasB_iff.2 ⟨s, hs, of_decide_eq_true h2⟩
      rw [h] at this; cases this
    rw [this]; rfl
  · obtain ⟨s, hs, e⟩ := hasB_iff.1 h
    have := List.length_pos_of_mem ((List.mem_filter (p := fun s : Sl => decide (s.a = x))).2 ⟨hs, by simp [e]⟩)
    simp only [reduceCtorEq, iff_false]
    intro h0
    omega
theorem cntA_snoc {S : List Sl} {s : Sl} {x : Sp} : cntA (S ++ [s]) x = if x = s.a then cntA S x + 1 else cntA S x := by
  unfold cntA
  rw [List.filter_append, List.length_append]
  by_cases h : x = s.a
  · simp [h]
  · simp [h, Ne.symm h]
theorem cntA_le (S : List Sl) (x : Sp) : cntA S x ≤ S.length := List.length_filter_le _ _
def updK (x : Sp) (p : Nat × List Sl) : Kl → Kl
  | [] => [(x, p)]
  | y :: T => bif decide (x = y.1) then (x, p) :: T else y :: updK x p T
theorem upd_K (x : Sp) (p : Nat × List Sl) : ∀ T : Kl, upd (.agg [.int .i64 x.c, .int .i64 x.r]) (.sl false (.own p.1) 4 (slsV p.2)) (entsK T) = entsK (updK x p T)
  | [] => rfl
  | y :: T => by
    have ih := upd_K x p T
    simp only [entsK] at ih
    simp only [entsK, List.map_cons, upd, key_eq, updK, ih]
    cases decide (x = y.1) <;> rfl
theorem updK_look (x : Sp) (p : Nat × List Sl) (z : Sp) : ∀ T : Kl, lookK z (updK x p T) = if z = x then some p else lookK z T
  | [] => by
    simp only [updK, lookK]
    by_cases h : z = x <;> simp [h]
  | y :: T => by
    simp only [updK]
    by_cases h : x = y.1
    · simp only [h, decide_true, cond_true, lookK]
      by_cases hz : z = y.1 <;> simp [hz]
    · simp only [h, decide_false, cond_false, lookK, updK_look x p z T]
      by_cases hz : z = y.1
      · have : z ≠ x := fun e => h (e ▸ hz)
        simp [hz, Ne.symm h]
      · simp [hz]
def kidsF (O L : List Sl) (x : Sp) : List Sl := L.filter fun s => decide (upS O s = x)
theorem kidsF_snoc {O L : List Sl} {s : Sl} {x : Sp} : kidsF O (L ++ [s]) x = if x = upS O s then kidsF O L x ++ [s] else kidsF O L x := by
  unfold kidsF
  rw [List.filter_append]
  by_cases h : x = upS O s
  · simp [h]
  · simp [h, Ne.symm h]
/-- The map of kids, so far. -/
structure KI (n0 : Nat) (live : List Bool) (O L : List Sl) (T : Kl) : Prop where
  is : ∀ x q es, lookK x T = some (q, es) → es = kidsF O L x ∧ live[q]? = some true ∧ n0 ≤ q
  no : ∀ x, lookK x T = none → kidsF O L x = []
  inj : ∀ x y q es es', lookK x T = some (q, es) → lookK y T = some (q, es') → x = y
theorem KI.step {n0 : Nat} {live live' : List Bool} {O L : List Sl} {T : Kl} (h : KI n0 live O L T) {s : Sl} {q' : Nat} {es0 : List Sl} (he : es0 = kidsF O L (upS O s)) (hq : live'[q']? = some true) (hn : n0 ≤ q') (hnew : live.length ≤ q')
    (hk : ∀ y r es, y ≠ upS O s → lookK y T = some (r, es) → live[r]? = some true → live'[r]? = some true) : KI n0 live' O (L ++ [s]) (updK (upS O s) (q', es0 ++ [s]) T) := by
  have hlt : ∀ y r es, lookK y T = some (r, es) → r ≠ q' := fun y r es h1 e => by
    have := (List.getElem?_eq_some_iff.1 (h.is y r es h1).2.1).1
    omega
  refine ⟨fun x q es hx => ?_, fun x hx => ?_, fun x y q es es' hx hy => ?_⟩
  · rw [updK_look] at hx
    by_cases e : x = upS O s
    · rw [if_pos e] at hx
      cases hx
      refine ⟨?_, hq, hn⟩
      rw [kidsF_snoc, if_pos e, he, e]
    · rw [if_neg e] at hx
      obtain ⟨h1, h2, h3⟩ := h.is x q es hx
      exact ⟨by rw [kidsF_snoc, if_neg e]; exact h1, hk x q es e hx h2, h3⟩
  · rw [updK_look] at hx
    by_cases e : x = upS O s
    · rw [if_pos e] at hx; cases hx
    · rw [if_neg e] at hx
      rw [kidsF_snoc, if_neg e]; exact h.no x hx
  · rw [updK_look] at hx hy
    by_cases e : x = upS O s <;> by_cases e2 : y = upS O s
    · rw [e, e2]
    · rw [if_pos e] at hx; rw [if_neg e2] at hy
      cases hx
      exact absurd rfl (hlt _ _ _ hy)
    · rw [if_neg e] at hx; rw [if_pos e2] at hy
      cases hy
      exact absurd rfl (hlt _ _ _ hx)
    · rw [if_neg e] at hx; rw [if_neg e2] at hy
      exact h.inj x y q es es' hx hy
theorem KI.good {n0 : Nat} {live : List Bool} {O : List Sl} {T : Kl} (hS : Fine O) (h : KI n0 live O O T) : GoodK O T := by
  refine ⟨fun x q es hx => ?_, fun x q es hx s => ?_, fun x hx s hs e => ?_, h.inj⟩
  · rw [(h.is x q es hx).1]
    exact hS.nd.sublist (List.filter_sublist.map _)
  · rw [(h.is x q es hx).1]
    simp [kidsF]
  · have := h.no x hx
    have hm : s ∈ kidsF O O x := List.mem_filter.2 ⟨hs, by simp [e]⟩
    rw [this] at hm; cases hm
/-- One more of a kind. -/
theorem CntIs.more {σ τ : St} {m : Nat} {f g : Sp → Nat} (h : CntIs σ m f) {x : Sp} (hg : ∀ y, g y = if y = x then f x + 1 else f y) {es : List (V × V)} {ver ver' : Nat} (ho : σ.objs[m]? = some (.mp KL es ver))
    (hτ : τ.objs[m]? = some (.mp KL (upd (.agg [.int .i64 x.c, .int .i64 x.r]) (.int .i64 ((f x + 1 : Nat) : Int)) es) ver')) : CntIs τ m g := by
  obtain ⟨T, v0, h1, h2, h3⟩ := h
  rw [h1] at ho
  cases ho
  rw [upd_N] at hτ
  refine ⟨_, _, hτ, updN_nd h2, fun y => ?_⟩
  rw [updN_look, hg]
  split
  · rfl
  · exact h3 y
section
variable {σ : St} {s : V} {O : List Sl}
set_option maxRecDepth 100000 in
set_option maxHeartbeats 6400000 in
theorem sorted_ok (hS : Fine O) (hl : O.length ≤ 1000) (hr : RowOf σ s 4 (slsV O)) (hne : O ≠ []) :
    CallA Try.prog 36 [s] σ fun v σ' => ∃ out, Ord O out ∧ RowOf σ' v 4 (slsV out) ∧ Ext σ σ' ∧ ∀ j n cap z, v = .osl j n cap z → σ.objs.length ≤ j := by
  refine fn_at Try.func36 (by decide) comp36 rfl fun Q q1 q2 => ?_
  rcases hr with ⟨R, q, rfl, he⟩ | ⟨j, cap, rfl, ho, -, hc⟩
  · exact absurd (by simpa [slsV] using he) hne
  have hlm : (slsV O).length = O.length := slsV_length O
  simp -implicitDefEqProofs only [go_sem, Nat.reduceBEq, Nat.reduceAdd, eq_self, true_and, and_true, and_self, List.getElem?_cons_zero, List.getElem?_cons_succ, Nat.reduceLeDiff, Nat.zero_add, Nat.reduceSub, Nat.le_refl, c36]
  refine loop_at (fun (y : Nat) => ⟨[(0, .v (.osl j (slsV O).length cap 4)), (3, .v (.map (some σ.objs.length))), (13, .v (.osl j (slsV O).length cap 4)), (14, .v (.int .i64 O.length)), (15, .v (.int .i64 y))], []⟩)
    (fun y τ => y ≤ O.length ∧ Ext σ τ ∧ CntIs τ σ.objs.length (cntA (O.take y))) (fun y => O.length - y) 0 ?_ ?_ ?_
  · refine .inr ?_
    simp -implicitDefEqProofs only [go_sem, Nat.reduceBEq, Nat.reduceAdd, eq_self, true_and, and_true, and_self, List.getElem?_cons_zero, List.getElem?_cons_succ, Nat.reduceLeDiff, Nat.zero_add, Nat.reduceSub, Nat.le_refl, hlm]
    try trivial
    try simp
  · exact ⟨Nat.zero_le _, ext_obj _ _, [], 0, by simp [entsN], by simp, fun _ => rfl⟩
  · rintro i τ ⟨g1, g2, g3⟩ Z z1 z2 z3
    have ho' := g2.objs _ _ ho
    simp -implicitDefEqProofs only [go_sem, Nat.reduceBEq, Nat.reduceAdd, eq_self, true_and, and_true, and_self, List.getElem?_cons_zero, List.getElem?_cons_succ, Nat.reduceLeDiff, Nat.zero_add, Nat.reduceSub, Nat.le_refl, Nat.lt_irrefl]
    refine CondW_b (fun hcc => ?_) (fun hcc => ?_)
    · have hi : i < O.length := by simpa using hcc
      have hget := row_drop0 hi
      have hb : (i : Int) < (slsV O).length := by rw [hlm]; omega
      have hw : IntKind.i64.wrap ((i : Int) + 1) = ((i + 1 : Nat) : Int) := by rw [i64_in _ (by omega)]; omega
      have hst1 : O.take (i + 1) = O.take i ++ [O[i]] := List.take_succ_eq_append_getElem hi
      generalize O[i] = d at *
      obtain ⟨es, ver, h2, hf⟩ := g3.find
      have hfx := hf d.a
      have hk : keyFits KL (.agg [.int .i64 d.a.c, .int .i64 d.a.r]) = true := rfl
      have hcl := cntA_le (O.take i) d.a
      have hwc : IntKind.i64.wrap ((cntA (O.take i) d.a : Int) + 1) = ((cntA (O.take i) d.a + 1 : Nat) : Int) := by rw [i64_in _ (by rw [List.length_take] at hcl; omega)]; omega
      have hks := key_self d.a
      have hfa := find_addE' (z := .int .i64 0) (es := es) hks
      rw [hfx] at hfa
      have hua := upd_addE (z := .int .i64 0) (v := .int .i64 ((cntA (O.take i) d.a + 1 : Nat) : Int)) (es := es) hks
      have hmq : ∀ n : Nat, (τ.setA σ.objs.length (.mq KL (Go.VL.addE (.agg [.int .i64 d.a.c, .int .i64 d.a.r]) (.int .i64 0) es) (ver + 1) n (.agg [.int .i64 d.a.c, .int .i64 d.a.r]))).objs[σ.objs.length]? = some _ := fun n => setA_at h2
      have next : ∀ (F : Fr) (τ2 : St), FrLe ⟨[(0, .v (.osl j (slsV O).length cap 4)), (3, .v (.map (some σ.objs.length))), (13, .v (.osl j (slsV O).length cap 4)), (14, .v (.int .i64 O.length)), (15, .v (.int .i64 ((i + 1 : Nat) : Int)))], []⟩ F → Ext σ τ2 →
          (∃ v', τ2.objs[σ.objs.length]? = some (.mp KL (upd (.agg [.int .i64 d.a.c, .int .i64 d.a.r]) (.int .i64 ((cntA (O.take i) d.a + 1 : Nat) : Int)) es) v')) → Z .normal F τ2 := by
        rintro F τ2 hF hE ⟨v', hv'⟩
        exact z1 (i + 1) F τ2 hF (by omega) ⟨by omega, hE, g3.more (x := d.a) (fun y => by rw [hst1, cntA_snoc]; split <;> first | rfl | (rename_i hh; rw [hh])) h2 hv'⟩
      have fin : ∀ n : Nat, ∃ v', ((τ.setA σ.objs.length (.mq KL (Go.VL.addE (.agg [.int .i64 d.a.c, .int .i64 d.a.r]) (.int .i64 0) es) (ver + 1) n (.agg [.int .i64 d.a.c, .int .i64 d.a.r]))).setM σ.objs.length KL (upd (.agg [.int .i64 d.a.c, .int .i64 d.a.r]) (.int .i64 ((cntA (O.take i) d.a + 1 : Nat) : Int)) (Go.VL.addE (.agg [.int .i64 d.a.c, .int .i64 d.a.r]) (.int .i64 0) es)) (ver + 1 + 1)).objs[σ.objs.length]? =
          some (.mp KL (upd (.agg [.int .i64 d.a.c, .int .i64 d.a.r]) (.int .i64 ((cntA (O.take i) d.a + 1 : Nat) : Int)) es) v') := fun n => by
        refine ⟨ver + 1 + 1, ?_⟩
        show ((τ.setA _ _).setA _ (.mp _ _ _)).objs[_]? = _
        rw [set_two h2, hua]
      have hex : ∀ o1 o2 : AObj, Ext σ ((τ.setA σ.objs.length o1).setA σ.objs.length o2) := fun o1 o2 => ext_setA (ext_setA g2 (Nat.le_refl _)) (Nat.le_refl _)
      simp -implicitDefEqProofs only [go_sem, Nat.reduceBEq, Nat.reduceAdd, eq_self, true_and, and_true, and_self, List.getElem?_cons_zero, List.getElem?_cons_succ, Nat.reduceLeDiff, Nat.zero_add, Nat.reduceSub, Nat.le_refl, ho', hget, Int.toNat_natCast, Nat.add_zero, slC]
      refine ⟨⟨by omega, hb⟩, ?_, ?_⟩
      · cases hfo : find (.agg [.int .i64 d.a.c, .int .i64 d.a.r]) es with
        | none =>
          rw [hfo] at hfx
          have hc0 : cntA (O.take i) d.a = 0 := by
            simp only [Option.getD_none, V.int.injEq, true_and] at hfx
            omega
          have hw01 : IntKind.i64.wrap (0 + 1) = ((cntA (O.take i) d.a + 1 : Nat) : Int) := by rw [hc0]; rfl
          simp -implicitDefEqProofs only [go_sem, Nat.reduceBEq, Nat.reduceAdd, eq_self, true_and, and_true, and_self, List.getElem?_cons_zero, List.getElem?_cons_succ, Nat.reduceLeDiff, Nat.zero_add, Nat.reduceSub, Nat.le_refl, h2, hfo, hk]
          refine me_at h2 hk fun n => ?_
          simp -implicitDefEqProofs only [go_sem, Nat.reduceBEq, Nat.reduceAdd, eq_self, true_and, and_true, and_self, List.getElem?_cons_zero, List.getElem?_cons_succ, Nat.reduceLeDiff, Nat.zero_add, Nat.reduceSub, Nat.le_refl, hmq, hw01]
          refine next _ _ (.inr ?_) (hex _ _) (fin n)
          simp -implicitDefEqProofs only [go_sem, Nat.reduceBEq, Nat.reduceAdd, eq_self, true_and, and_true, and_self, List.getElem?_cons_zero, List.getElem?_cons_succ, Nat.reduceLeDiff, Nat.zero_add, Nat.reduceSub, Nat.le_refl, hw]
          try trivial
        | some w =>
          rw [hfo] at hfx
          simp only [Option.getD_some] at hfx
          subst hfx
          simp -implicitDefEqProofs only [go_sem, Nat.reduceBEq, Nat.reduceAdd, eq_self, true_and, and_true, and_self, List.getElem?_cons_zero, List.getElem?_cons_succ, Nat.reduceLeDiff, Nat.zero_add, Nat.reduceSub, Nat.le_refl, h2, hfo, hk]
          refine me_at h2 hk fun n => ?_
          simp -implicitDefEqProofs only [go_sem, Nat.reduceBEq, Nat.reduceAdd, eq_self, true_and, and_true, and_self, List.getElem?_cons_zero, List.getElem?_cons_succ, Nat.reduceLeDiff, Nat.zero_add, Nat.reduceSub, Nat.le_refl, hmq, hwc]
          refine next _ _ (.inr ?_) (hex _ _) (fin n)
          simp -implicitDefEqProofs only [go_sem, Nat.reduceBEq, Nat.reduceAdd, eq_self, true_and, and_true, and_self, List.getElem?_cons_zero, List.getElem?_cons_succ, Nat.reduceLeDiff, Nat.zero_add, Nat.reduceSub, Nat.le_refl, hw]
          try trivial
      · refine me_at h2 hk fun n => ?_
        simp -implicitDefEqProofs only [go_sem, Nat.reduceBEq, Nat.reduceAdd, eq_self, true_and, and_true, and_self, List.getElem?_cons_zero, List.getElem?_cons_succ, Nat.reduceLeDiff, Nat.zero_add, Nat.reduceSub, Nat.le_refl, hmq, hfa, hk, hwc]
        refine next _ _ (.inr ?_) (hex _ _) (fin n)
        simp -implicitDefEqProofs only [go_sem, Nat.reduceBEq, Nat.reduceAdd, eq_self, true_and, and_true, and_self, List.getElem?_cons_zero, List.getElem?_cons_succ, Nat.reduceLeDiff, Nat.zero_add, Nat.reduceSub, Nat.le_refl, hw]
        try trivial
    · have hi : ¬ i < O.length := by simpa using hcc
      rw [List.take_of_length_le (by omega)] at g3
      have hcl : ∀ (A : List AObj) x, (A ++ [x])[A.length]? = some x := by simp
      simp -implicitDefEqProofs only [go_sem, Nat.reduceBEq, Nat.reduceAdd, eq_self, true_and, and_true, and_self, List.getElem?_cons_zero, List.getElem?_cons_succ, Nat.reduceLeDiff, Nat.zero_add, Nat.reduceSub, Nat.le_refl, Nat.lt_irrefl]
      refine z2 _ _ _ ?_
      simp -implicitDefEqProofs only [go_sem, Nat.reduceBEq, Nat.reduceAdd, eq_self, true_and, and_true, and_self, List.getElem?_cons_zero, List.getElem?_cons_succ, Nat.reduceLeDiff, Nat.zero_add, Nat.reduceSub, Nat.le_refl, hcl]
      have m1 : ((St.mk (τ.objs ++ [AObj.mp KL [] 0] ++ [AObj.cells [.map none]]) τ.live).setC (τ.objs ++ [AObj.mp KL [] 0]).length [.map (some τ.objs.length)]).objs[(τ.objs ++ [AObj.mp KL [] 0]).length]? = some (.cells [.map (some τ.objs.length)]) := by
        show ((τ.objs ++ [AObj.mp KL [] 0] ++ [AObj.cells [.map none]]).set _ _)[_]? = _
        rw [List.getElem?_set_self (by simp)]
      have m2 : ((St.mk (τ.objs ++ [AObj.mp KL [] 0] ++ [AObj.cells [.map none]]) τ.live).setC (τ.objs ++ [AObj.mp KL [] 0]).length [.map (some τ.objs.length)]).objs[τ.objs.length]? = some (.mp KL [] 0) := by
        show ((τ.objs ++ [AObj.mp KL [] 0] ++ [AObj.cells [.map none]]).set _ _)[_]? = _
        rw [List.getElem?_set_ne (by simp), List.getElem?_append_left (by simp)]
        simp
      have m3 : Ext τ ((St.mk (τ.objs ++ [AObj.mp KL [] 0] ++ [AObj.cells [.map none]]) τ.live).setC (τ.objs ++ [AObj.mp KL [] 0]).length [.map (some τ.objs.length)]) :=
        ext_set (((ext_obj τ _).trans (ext_obj _ _))) (by simp)
      have m4 : (τ.objs ++ [AObj.mp KL [] 0]).length ≠ τ.objs.length := by simp
      have m5 : τ.objs.length ≤ (τ.objs ++ [AObj.mp KL [] 0]).length := by simp
      generalize ((St.mk (τ.objs ++ [AObj.mp KL [] 0] ++ [AObj.cells [.map none]]) τ.live).setC (τ.objs ++ [AObj.mp KL [] 0]).length [.map (some τ.objs.length)]) = τ2 at *
      generalize (τ.objs ++ [AObj.mp KL [] 0]).length = kb at *
      have g4 : CntIs τ2 σ.objs.length (cntA O) := g3.up (P := fun _ => False) (.of m3) fun h => h
      have hab : σ.objs.length < τ.objs.length := by
        obtain ⟨es, ver, h2, -⟩ := g3.find
        exact (List.getElem?_eq_some_iff.1 h2).1
      have g5 := g2.trans m3
      generalize τ.objs.length = b at *
      clear g3
      refine loop_at (fun (y : Nat × Kl) => ⟨[(3, .v (.map (some σ.objs.length))), (6, .v (.ptr (some (kb, 0)))), (28, .v (.osl j (slsV O).length cap 4)), (29, .v (.int .i64 O.length)), (30, .v (.int .i64 y.1))], []⟩)
        (fun y τ => y.1 ≤ O.length ∧ Ext σ τ ∧ CntIs τ σ.objs.length (cntA O) ∧ τ.objs[kb]? = some (.cells [.map (some b)]) ∧ (∃ ver, τ.objs[b]? = some (.mp KL (entsK y.2) ver)) ∧ KI σ.live.length τ.live O (O.take y.1) y.2) (fun y => O.length - y.1) (0, []) ?_ ?_ ?_
      · refine .inr ?_
        simp -implicitDefEqProofs only [go_sem, Nat.reduceBEq, Nat.reduceAdd, eq_self, true_and, and_true, and_self, List.getElem?_cons_zero, List.getElem?_cons_succ, Nat.reduceLeDiff, Nat.zero_add, Nat.reduceSub, Nat.le_refl, hlm]
        try trivial
        try simp
      · exact ⟨Nat.zero_le _, g5, g4, m1, ⟨0, m2⟩, fun x q es h => (by cases h), fun x _ => rfl, fun x y q es es' h => (by cases h)⟩
      rintro ⟨i, T⟩ τ3 ⟨j1, j2, j3, j4, ⟨ver, j5⟩, j6⟩ Y y1 y2 y3
      simp only at j1 j5 j6
      have ho' := j2.objs _ _ ho
      simp -implicitDefEqProofs only [go_sem, Nat.reduceBEq, Nat.reduceAdd, eq_self, true_and, and_true, and_self, List.getElem?_cons_zero, List.getElem?_cons_succ, Nat.reduceLeDiff, Nat.zero_add, Nat.reduceSub, Nat.le_refl, Nat.lt_irrefl]
      refine CondW_b (fun hcc => ?_) (fun hcc => ?_)
      · have hi : i < O.length := by simpa using hcc
        have hget := row_drop0 hi
        have hb : (i : Int) < (slsV O).length := by rw [hlm]; omega
        have hw : IntKind.i64.wrap ((i : Int) + 1) = ((i + 1 : Nat) : Int) := by rw [i64_in _ (by omega)]; omega
        have hst1 : O.take (i + 1) = O.take i ++ [O[i]] := List.take_succ_eq_append_getElem hi
        generalize O[i] = d at *
        simp -implicitDefEqProofs only [go_sem, Nat.reduceBEq, Nat.reduceAdd, eq_self, true_and, and_true, and_self, List.getElem?_cons_zero, List.getElem?_cons_succ, Nat.reduceLeDiff, Nat.zero_add, Nat.reduceSub, Nat.le_refl, ho', hget, Int.toNat_natCast, Nat.add_zero, slC]
        refine ⟨⟨by omega, hb⟩, ?_⟩
        refine cut_at (fun G τ'' => τ'' = τ3 ∧ G = ⟨[(3, .v (.map (some σ.objs.length))), (6, .v (.ptr (some (kb, 0)))), (8, .loc 8 0), (9, .loc 9 0), (28, .v (.osl j (slsV O).length cap 4)), (29, .v (.int .i64 O.length)), (30, .v (.int .i64 i))], [(8, slC d), (9, spC (upS O d))]⟩) ?_ ?_
        · intro X x1 x2 x3
          obtain ⟨es, ver', h2, hf⟩ := j3.find
          have hfx := hf d.u
          have hcp := cntA_pos (S := O) (x := d.u)
          have hku : keyFits KL (.agg [.int .i64 d.u.c, .int .i64 d.u.r]) = true := rfl
          have h00 : decide ((0 : Int) = 0) = true := by decide
          have hupf : hasB O d.u = false → upS O d = zs := fun h => by simp [upS, h]
          have hupt : hasB O d.u = true → upS O d = d.u := fun h => by simp [upS, h]
          cases hfo : find (.agg [.int .i64 d.u.c, .int .i64 d.u.r]) es with
          | none =>
            rw [hfo] at hfx
            have hc0 : cntA O d.u = 0 := by
              simp only [Option.getD_none, V.int.injEq, true_and] at hfx
              omega
            rw [hc0] at hcp
            have hb0 : hasB O d.u = false := by
              cases h : hasB O d.u
              · rfl
              · rw [h] at hcp; simp at hcp
            rw [hupf hb0] at x1
            simp -implicitDefEqProofs only [go_sem, Nat.reduceBEq, Nat.reduceAdd, eq_self, true_and, and_true, and_self, List.getElem?_cons_zero, List.getElem?_cons_succ, Nat.reduceLeDiff, Nat.zero_add, Nat.reduceSub, Nat.le_refl, h2, hfo, hku, h00]
            refine x1 _ _ _ (.inr ?_) ⟨rfl, rfl⟩
            simp -implicitDefEqProofs only [go_sem, Nat.reduceBEq, Nat.reduceAdd, eq_self, true_and, and_true, and_self, List.getElem?_cons_zero, List.getElem?_cons_succ, Nat.reduceLeDiff, Nat.zero_add, Nat.reduceSub, Nat.le_refl, slC, spC, zs]
            try trivial
          | some w =>
            rw [hfo] at hfx
            simp only [Option.getD_some] at hfx
            subst hfx
            cases hb0 : hasB O d.u
            · rw [hb0] at hcp
              rw [hupf hb0] at x1
              simp -implicitDefEqProofs only [go_sem, Nat.reduceBEq, Nat.reduceAdd, eq_self, true_and, and_true, and_self, List.getElem?_cons_zero, List.getElem?_cons_succ, Nat.reduceLeDiff, Nat.zero_add, Nat.reduceSub, Nat.le_refl, h2, hfo, hku, hcp, Bool.not_false]
              refine x1 _ _ _ (.inr ?_) ⟨rfl, rfl⟩
              simp -implicitDefEqProofs only [go_sem, Nat.reduceBEq, Nat.reduceAdd, eq_self, true_and, and_true, and_self, List.getElem?_cons_zero, List.getElem?_cons_succ, Nat.reduceLeDiff, Nat.zero_add, Nat.reduceSub, Nat.le_refl, slC, spC, zs]
              try trivial
            · rw [hb0] at hcp
              rw [hupt hb0] at x1
              simp -implicitDefEqProofs only [go_sem, Nat.reduceBEq, Nat.reduceAdd, eq_self, true_and, and_true, and_self, List.getElem?_cons_zero, List.getElem?_cons_succ, Nat.reduceLeDiff, Nat.zero_add, Nat.reduceSub, Nat.le_refl, h2, hfo, hku, hcp, Bool.not_true]
              refine x1 _ _ _ (.inr ?_) ⟨rfl, rfl⟩
              simp -implicitDefEqProofs only [go_sem, Nat.reduceBEq, Nat.reduceAdd, eq_self, true_and, and_true, and_self, List.getElem?_cons_zero, List.getElem?_cons_succ, Nat.reduceLeDiff, Nat.zero_add, Nat.reduceSub, Nat.le_refl, slC, spC, zs]
              try trivial
        · rintro G τ4 ⟨rfl, rfl⟩
          generalize hu : upS O d = u at *
          have hku : keyFits KL (.agg [.int .i64 u.c, .int .i64 u.r]) = true := rfl
          have hks := key_self u
          have hfk := find_K u T
          have j5' : (St.mk τ4.objs (τ4.live ++ [true])).objs[b]? = some (.mp KL (entsK T) ver) := j5
          have hmq : ∀ (o : AObj), ((St.mk τ4.objs (τ4.live ++ [true])).setA b o).objs[b]? = some o := fun o => setA_at j5'
          have hua := fun v => upd_addE (z := .sl true .pub 0 []) (v := v) (es := entsK T) hks
          have hbl : τ4.objs.length > b := (List.getElem?_eq_some_iff.1 j5).1
          have hkb : kb ≠ b := m4
          have next : ∀ (F : Fr) (τ5 : St) (q' v' : Nat) (es0 : List Sl) (x : AObj), FrLe ⟨[(3, .v (.map (some σ.objs.length))), (6, .v (.ptr (some (kb, 0)))), (28, .v (.osl j (slsV O).length cap 4)), (29, .v (.int .i64 O.length)), (30, .v (.int .i64 ((i + 1 : Nat) : Int)))], []⟩ F →
              τ5.objs = (τ4.objs.set b x).set b (.mp KL (upd (.agg [.int .i64 u.c, .int .i64 u.r]) (.sl false (.own q') 4 (slsV (es0 ++ [d]))) (Go.VL.addE (.agg [.int .i64 u.c, .int .i64 u.r]) (.sl true .pub 0 []) (entsK T))) v') → Ext σ τ5 →
              KI σ.live.length τ5.live O (O.take (i + 1)) (updK u (q', es0 ++ [d]) T) → Y .normal F τ5 := by
            intro F τ5 q' v' es0 x hF ho5 hE hKI
            have hn : ∀ k, k ≠ b → τ5.objs[k]? = τ4.objs[k]? := fun k hk => by
              rw [ho5, List.getElem?_set_ne (Ne.symm hk), List.getElem?_set_ne (Ne.symm hk)]
            obtain ⟨T', v2, c1, c2⟩ := j3
            refine y1 (i + 1, _) F τ5 hF (by simp only; omega) ⟨by simp only; omega, hE, ⟨T', v2, by rw [hn _ (by omega)]; exact c1, c2⟩, by rw [hn _ hkb]; exact j4, ⟨v', ?_⟩, hKI⟩
            rw [ho5, List.getElem?_set_self (by rw [List.length_set]; exact hbl), hua]
            have := upd_K u (q', es0 ++ [d]) T
            simp only at this
            rw [this]
          simp -implicitDefEqProofs only [go_sem, Nat.reduceBEq, Nat.reduceAdd, eq_self, true_and, and_true, and_self, List.getElem?_cons_zero, List.getElem?_cons_succ, Nat.reduceLeDiff, Nat.zero_add, Nat.reduceSub, Nat.le_refl, slC, spC, j4]
          refine me_at j5' hku fun n => ?_
          have e0 := ext_push (b := true) j2
          cases hlk : lookK u T with
          | none =>
            rw [hlk] at hfk
            simp -implicitDefEqProofs only [go_sem, Nat.reduceBEq, Nat.reduceAdd, eq_self, true_and, and_true, and_self, List.getElem?_cons_zero, List.getElem?_cons_succ, Nat.reduceLeDiff, Nat.zero_add, Nat.reduceSub, Nat.le_refl, hfk, Option.map_none, Option.getD_none, hmq]
            refine ⟨⟨.inl trivial, rfl, .inr (live_last _ _), .inl trivial⟩, ?_⟩
            refine next _ _ (τ4.live ++ [true]).length (ver + 1 + 1) [] _ (.inr ?_) rfl (ext_push (ext_setA (ext_setA e0 (by omega)) (by omega))) ?_
            · simp -implicitDefEqProofs only [go_sem, Nat.reduceBEq, Nat.reduceAdd, eq_self, true_and, and_true, and_self, List.getElem?_cons_zero, List.getElem?_cons_succ, Nat.reduceLeDiff, Nat.zero_add, Nat.reduceSub, Nat.le_refl, hw]
              try trivial
            · rw [hst1, ← hu]
              refine j6.step (s := d) (es0 := []) (by rw [hu]; exact (j6.no u hlk).symm) (live_last _ _) ?_ (by simp) fun y r es' _ _ h => ?_
              · have := j2.llen; simp only [List.length_append, List.length_cons, List.length_nil]; omega
              · exact (ext_live ⟨τ4.objs, τ4.live ++ [true]⟩ true).live _ ((ext_live ⟨τ4.objs, τ4.live⟩ true).live _ h)
          | some p =>
            obtain ⟨q, es⟩ := p
            rw [hlk] at hfk
            obtain ⟨f1, f2, f3⟩ := j6.is u q es hlk
            have hel : es.length ≤ 1000 := by
              have := List.length_filter_le (fun s => decide (upS O s = u)) (O.take i)
              rw [f1]
              show (List.filter _ _).length ≤ _
              rw [List.length_take] at this
              omega
            simp -implicitDefEqProofs only [go_sem, Nat.reduceBEq, Nat.reduceAdd, eq_self, true_and, and_true, and_self, List.getElem?_cons_zero, List.getElem?_cons_succ, Nat.reduceLeDiff, Nat.zero_add, Nat.reduceSub, Nat.le_refl, hfk, Option.map_some, Option.getD_some, hmq]
            refine ⟨⟨.inr trivial, .inr ((ext_live ⟨τ4.objs, τ4.live⟩ true).live _ f2), ⟨.inr (live_last _ _), .inl trivial⟩, by rw [slsV_length]; omega⟩, ?_⟩
            refine next _ _ (τ4.live ++ [true]).length (ver + 1 + 1) es _ (.inr ?_) (by simp only [slsV, List.map_append, List.map_cons, List.map_nil, slC]; rfl) (ext_kill (ext_setA (ext_setA e0 (by omega)) (by omega)) f3) ?_
            · simp -implicitDefEqProofs only [go_sem, Nat.reduceBEq, Nat.reduceAdd, eq_self, true_and, and_true, and_self, List.getElem?_cons_zero, List.getElem?_cons_succ, Nat.reduceLeDiff, Nat.zero_add, Nat.reduceSub, Nat.le_refl, hw]
              try trivial
            · rw [hst1, ← hu]
              refine j6.step (s := d) (es0 := es) (by rw [hu]; exact f1) (live_last' _ _ _) ?_ (by simp) fun y r es' hy hl h => ?_
              · have := j2.llen; simp only [List.length_append, List.length_cons, List.length_nil]; omega
              · refine set_ne_live (fun e => ?_) ((ext_live ⟨τ4.objs, τ4.live⟩ true).live _ h) true
                subst e
                exact hy (by rw [hu]; exact j6.inj _ _ _ _ _ hl hlk)
      · have hi : ¬ i < O.length := by simpa using hcc
        rw [List.take_of_length_le (by omega)] at j6
        simp -implicitDefEqProofs only [go_sem, Nat.reduceBEq, Nat.reduceAdd, eq_self, true_and, and_true, and_self, List.getElem?_cons_zero, List.getElem?_cons_succ, Nat.reduceLeDiff, Nat.zero_add, Nat.reduceSub, Nat.le_refl, Nat.lt_irrefl]
        refine y2 _ _ _ ?_
        simp -implicitDefEqProofs only [go_sem, Nat.reduceBEq, Nat.reduceAdd, eq_self, true_and, and_true, and_self, List.getElem?_cons_zero, List.getElem?_cons_succ, Nat.reduceLeDiff, Nat.zero_add, Nat.reduceSub, Nat.le_refl, hcl]
        have hne1 : (τ3.objs ++ [AObj.cells [.sl true .pub 0 []]]).length ≠ τ3.objs.length := by simp
        have hbl : b < τ3.objs.length := (List.getElem?_eq_some_iff.1 j5).1
        have hkl : kb < τ3.objs.length := (List.getElem?_eq_some_iff.1 j4).1
        have n1 : ((St.mk (τ3.objs ++ [AObj.cells [.sl true .pub 0 []]] ++ [AObj.cells [.nilf]]) τ3.live).setC (τ3.objs ++ [AObj.cells [.sl true .pub 0 []]]).length [.fn 46 [.ptr (some (kb, 0)), .ptr (some (τ3.objs.length, 0)), .ptr (some ((τ3.objs ++ [AObj.cells [.sl true .pub 0 []]]).length, 0))]]).objs[(τ3.objs ++ [AObj.cells [.sl true .pub 0 []]]).length]? =
            some (.cells [.fn 46 [.ptr (some (kb, 0)), .ptr (some (τ3.objs.length, 0)), .ptr (some ((τ3.objs ++ [AObj.cells [.sl true .pub 0 []]]).length, 0))]]) := by
          show ((τ3.objs ++ [AObj.cells [.sl true .pub 0 []]] ++ [AObj.cells [.nilf]]).set _ _)[_]? = _
          rw [List.getElem?_set_self (by simp)]
        have n2 : ((St.mk (τ3.objs ++ [AObj.cells [.sl true .pub 0 []]] ++ [AObj.cells [.nilf]]) τ3.live).setC (τ3.objs ++ [AObj.cells [.sl true .pub 0 []]]).length [.fn 46 [.ptr (some (kb, 0)), .ptr (some (τ3.objs.length, 0)), .ptr (some ((τ3.objs ++ [AObj.cells [.sl true .pub 0 []]]).length, 0))]]).objs[τ3.objs.length]? = some (.cells [.sl true .pub 0 []]) := by
          show ((τ3.objs ++ [AObj.cells [.sl true .pub 0 []]] ++ [AObj.cells [.nilf]]).set _ _)[_]? = _
          rw [List.getElem?_set_ne (by simp), List.getElem?_append_left (by simp)]
          simp
        have n3 : Ext τ3 ((St.mk (τ3.objs ++ [AObj.cells [.sl true .pub 0 []]] ++ [AObj.cells [.nilf]]) τ3.live).setC (τ3.objs ++ [AObj.cells [.sl true .pub 0 []]]).length [.fn 46 [.ptr (some (kb, 0)), .ptr (some (τ3.objs.length, 0)), .ptr (some ((τ3.objs ++ [AObj.cells [.sl true .pub 0 []]]).length, 0))]]) :=
          ext_set (((ext_obj τ3 _).trans (ext_obj _ _))) (by simp)
        have n4 : ((St.mk (τ3.objs ++ [AObj.cells [.sl true .pub 0 []]] ++ [AObj.cells [.nilf]]) τ3.live).setC (τ3.objs ++ [AObj.cells [.sl true .pub 0 []]]).length [.fn 46 [.ptr (some (kb, 0)), .ptr (some (τ3.objs.length, 0)), .ptr (some ((τ3.objs ++ [AObj.cells [.sl true .pub 0 []]]).length, 0))]]).live = τ3.live := rfl
        simp -implicitDefEqProofs only [go_sem, Nat.reduceBEq, Nat.reduceAdd, eq_self, true_and, and_true, and_self, List.getElem?_cons_zero, List.getElem?_cons_succ, Nat.reduceLeDiff, Nat.zero_add, Nat.reduceSub, Nat.le_refl, n1]
        generalize ((St.mk (τ3.objs ++ [AObj.cells [.sl true .pub 0 []]] ++ [AObj.cells [.nilf]]) τ3.live).setC (τ3.objs ++ [AObj.cells [.sl true .pub 0 []]]).length [.fn 46 [.ptr (some (kb, 0)), .ptr (some (τ3.objs.length, 0)), .ptr (some ((τ3.objs ++ [AObj.cells [.sl true .pub 0 []]]).length, 0))]]) = τ4 at *
        generalize (τ3.objs ++ [AObj.cells [.sl true .pub 0 []]]).length = wb at *
        have hE : Env τ4 kb τ3.objs.length wb b ver T := ⟨n3.objs _ _ j4, n1, n3.objs _ _ j5, fun x q es hx => by
          have := (List.getElem?_eq_some_iff.1 (j6.is x q es hx).2.1).1
          rw [n4]; exact this, by omega, hne1, by omega⟩
        refine call_at (walk_ok hS (j6.good hS) hl (O.length + 1) τ4 zs [] _ [] (.inl ⟨rfl, Nat.le_refl _⟩) (.inl ⟨rfl, rfl⟩) hE n2 (.inl ⟨_, _, rfl, rfl⟩) ?_ fun y q es hy _ => by rw [n4]; exact (j6.is y q es hy).2.1) ?_
        · have : (O.length + 1) * (O.length + 1 + 1) ≤ 1001 * 1002 := Nat.mul_le_mul (by omega) (by omega)
          simp only [List.length_nil]; omega
        rintro v τ5 ⟨wo', out, hD, p1, p2, p3, p4⟩
        refine ⟨kept_none, ?_⟩
        simp -implicitDefEqProofs only [go_sem, Nat.reduceBEq, Nat.reduceAdd, eq_self, true_and, and_true, and_self, List.getElem?_cons_zero, List.getElem?_cons_succ, Nat.reduceLeDiff, Nat.zero_add, Nat.reduceSub, Nat.le_refl, p1]
        refine q2 _ _ ?_
        simp -implicitDefEqProofs only [go_sem, Nat.reduceBEq, Nat.reduceAdd, eq_self, true_and, and_true, and_self, List.getElem?_cons_zero, List.getElem?_cons_succ, Nat.reduceLeDiff, Nat.zero_add, Nat.reduceSub, Nat.le_refl, Nat.lt_irrefl]
        refine ⟨out, dfs_ord hS hD, p2, ?_, fun j n cap z e => ?_⟩
        · have h4 := j2.trans n3
          refine ⟨fun k o hk => p3.objs k o (fun h => ?_) (h4.objs k o hk), fun r hr => p3.live r (fun h => ?_) (h4.live r hr), Nat.le_trans h4.olen p3.olen, Nat.le_trans h4.llen p3.llen⟩
          · rcases h with h | ⟨_, _, _, h⟩
            · have := (List.getElem?_eq_some_iff.1 hk).1
              have := j2.olen
              omega
            · cases h
          · obtain ⟨y, es, h1, -⟩ := h
            have := (j6.is y r es h1).2.2
            have := (List.getElem?_eq_some_iff.1 hr).1
            omega
        · rcases p4 _ _ _ _ e with ⟨_, _, h⟩ | h
          · cases h
          · have := (j2.trans n3).olen
            omega
end
end Go.VL.rga

namespace Go.VL.rga
open Go Go.VL Go.Proofs Go.IntWalk Go.VL.st Go.VL.row

/-- What there is of a row behind a call. -/
structure RowToS (σ σ' : St) (i u k : Nat) (s s' : V) : Prop where
  upd : UpdS (Own i u k s) σ σ'
  own : ∀ j, Own i u k s' j → Own i u k s j ∨ σ.objs.length ≤ j
theorem RowToS.refl (σ : St) (i u k : Nat) (s : V) : RowToS σ σ i u k s s := ⟨.refl _ _, fun _ h => .inl h⟩
theorem RowToS.trans {a b c : St} {i u k : Nat} {s s' s'' : V} (h : RowToS a b i u k s s') (k' : RowToS b c i u k s' s'') : RowToS a c i u k s s'' :=
  ⟨h.upd.trans k'.upd h.own, fun j hj => (k'.own j hj).elim (h.own j) fun hl => .inr (Nat.le_trans h.upd.olen hl)⟩
/-- A row in the midst of an addition. -/
structure Mid (σ τ : St) (i u k : Nat) (s s1 : V) (O1 : List Sl) (fu fh : Sp → Nat) : Prop where
  cells : τ.objs[i]? = some (.cells [s1, .map (some u), .map (some k)])
  row : RowOf τ s1 4 (slsV O1)
  und : CntIs τ u fu
  has : CntIs τ k fh
  to : RowToS σ τ i u k s s1
theorem CntIs.at {τ : St} {m : Nat} {f : Sp → Nat} (h : CntIs τ m f) : ∃ ms ver, τ.objs[m]? = some (.mp KL ms ver) := by
  obtain ⟨T, ver, h1, -⟩ := h
  exact ⟨_, _, h1⟩
theorem updS_two {τ : St} {m : Nat} {o1 o2 : AObj} : UpdS (fun j => j = m) τ ((τ.setA m o1).setA m o2) := by
  refine ⟨fun j o hj hx => ?_, fun _ h => h, ?_, Nat.le_refl _⟩
  · rw [setA_ne hj, setA_ne hj]; exact hx
  · show _ ≤ ((τ.objs.set m _).set m _).length
    rw [List.length_set, List.length_set]; exact Nat.le_refl _
theorem Mid.moreH {σ τ τ' : St} {i u k : Nat} {s s1 : V} {O1 : List Sl} {fu fh fh' : Sp → Nat} (h : Mid σ τ i u k s s1 O1 fu fh) (hne : u ≠ k) (hu : UpdS (fun j => j = k) τ τ') (hk : CntIs τ' k fh') : Mid σ τ' i u k s s1 O1 fu fh' := by
  obtain ⟨ms, ver, h1⟩ := h.has.at
  refine ⟨hu.objs _ _ (fun e => ?_) h.cells, rowOf_up h.row hu fun j n cap z e => ?_, h.und.up hu hne, hk, ?_⟩
  · rw [← e, h.cells] at h1; cases h1
  · rintro rfl
    rcases h.row with ⟨R, q, hs, -⟩ | ⟨j', cap', hs, h4, -⟩
    · rw [e] at hs; cases hs
    · rw [e] at hs
      cases hs
      rw [h1] at h4; cases h4
  · exact h.to.trans ⟨⟨fun j o hj x => hu.objs j o (fun e => hj (.inr (.inr (.inl e)))) x, hu.live, hu.olen, hu.llen⟩, fun j hj => .inl hj⟩
theorem Mid.moreU {σ τ τ' : St} {i u k : Nat} {s s1 : V} {O1 : List Sl} {fu fu' fh : Sp → Nat} (h : Mid σ τ i u k s s1 O1 fu fh) (hne : u ≠ k) (hu : UpdS (fun j => j = u) τ τ') (hk : CntIs τ' u fu') : Mid σ τ' i u k s s1 O1 fu' fh := by
  obtain ⟨ms, ver, h1⟩ := h.und.at
  refine ⟨hu.objs _ _ (fun e => ?_) h.cells, rowOf_up h.row hu fun j n cap z e => ?_, hk, h.has.up hu (Ne.symm hne), ?_⟩
  · rw [← e, h.cells] at h1; cases h1
  · rintro rfl
    rcases h.row with ⟨R, q, hs, -⟩ | ⟨j', cap', hs, h4, -⟩
    · rw [e] at hs; cases hs
    · rw [e] at hs
      cases hs
      rw [h1] at h4; cases h4
  · exact h.to.trans ⟨⟨fun j o hj x => hu.objs j o (fun e => hj (.inr (.inl e))) x, hu.live, hu.olen, hu.llen⟩, fun j hj => .inl hj⟩
theorem cntU_snoc {S : List Sl} {s : Sl} {x : Sp} : cntU (S ++ [s]) x = if x = s.u then cntU S x + 1 else cntU S x := by
  unfold cntU
  rw [List.filter_append, List.length_append]
  by_cases h : x = s.u
  · simp [h]
  · simp [h, Ne.symm h]
theorem cntH_snoc {S : List Sl} {s : Sl} (h : hasB S s.a = false) {x : Sp} : cntH (S ++ [s]) x = if x = s.a then cntH S s.a + 1 else cntH S x := by
  unfold cntH
  rw [hasB_app]
  by_cases e : x = s.a
  · subst e; simp [h]
  · simp [e, Ne.symm e]
theorem mid_ins {σ τ τ' : St} {i u k jj n cap : Nat} {s : V} {O O1 S : List Sl} (h : RowIs τ i u k s O S) (hE : Ext σ τ) (hto : RowTo ⟨τ.objs, τ.live ++ [true]⟩ s τ') (hr : RowOf τ' (.osl jj n cap 4) 4 (slsV O1))
    (hjj : (∃ n' cap', s = .osl jj n' cap' 4) ∨ τ.objs.length ≤ jj) : τ'.objs[i]? = some (.cells [s, .map (some u), .map (some k)]) ∧ Mid σ (τ'.setC i [.osl jj n cap 4, .map (some u), .map (some k)]) i u k s (.osl jj n cap 4) O1 (cntU S) (cntH S) := by
  obtain ⟨t1, t2, t3⟩ := hto
  have hrow := h.row
  have hi : τ'.objs[i]? = some (.cells [s, .map (some u), .map (some k)]) := t3 _ _ (rowOf_ne hrow h.cells) h.cells
  obtain ⟨mu, vu, u1⟩ := h.und.at
  obtain ⟨mh, vh, k1⟩ := h.has.at
  have hui : u ≠ i := fun e => by rw [e, h.cells] at u1; cases u1
  have hki : k ≠ i := fun e => by rw [e, h.cells] at k1; cases k1
  have hil := (List.getElem?_eq_some_iff.1 hi).1
  have hu0 : UpdS (fun j => ∃ n cap z, s = .osl j n cap z) τ τ' := ⟨fun j o hj ho => t3 j o (fun n cap z e => hj ⟨n, cap, z, e⟩) ho, fun r hr => by rw [t1]; exact (ext_live τ true).live r hr, t2, by rw [t1]; simp⟩
  have hu : UpdS (fun j => j = i) τ' (τ'.setC i [.osl jj n cap 4, .map (some u), .map (some k)]) := updS_setC
  refine ⟨hi, setC_get hil, rowOf_up hr hu fun j n' cap' z e => ?_, ?_, ?_, ⟨?_, ?_⟩⟩
  · rintro rfl
    exact rowOf_ne hr hi _ _ _ e
  · exact (h.und.up hu0 (fun ⟨n, cap, z, e⟩ => rowOf_nm hrow u1 _ _ _ e)).up hu hui
  · exact (h.has.up hu0 (fun ⟨n, cap, z, e⟩ => rowOf_nm hrow k1 _ _ _ e)).up hu hki
  · exact (((UpdS.of (S := Own i u k s) hE).trans hu0 fun j hj => .inl (.inr (.inr (.inr hj)))).trans hu fun j hj => .inl (.inl hj))
  · rintro j (hj | hj | hj | ⟨n', cap', z, hj⟩)
    · exact .inl (.inl hj)
    · exact .inl (.inr (.inl hj))
    · exact .inl (.inr (.inr (.inl hj)))
    · cases hj
      rcases hjj with ⟨n2, cap2, hj⟩ | hj
      · exact .inl (.inr (.inr (.inr ⟨_, _, _, hj⟩)))
      · exact .inr (Nat.le_trans hE.olen hj)
section
variable {σ : St} {i u k : Nat} {s : V} {O S : List Sl} {a b : Sp}
set_option maxRecDepth 100000 in
theorem add_nil : CallA Try.prog 16 [.ptr none, spV a, spV b] σ fun v σ' => v = .int .i64 7 ∧ σ' = σ := by
  refine fn_at Try.func16 (by decide) comp16 rfl fun Q q1 q2 => ?_
  simp -implicitDefEqProofs only [go_sem, Nat.reduceBEq, Nat.reduceAdd, eq_self, true_and, and_true, and_self, List.getElem?_cons_zero, List.getElem?_cons_succ, Nat.reduceLeDiff, Nat.zero_add, Nat.reduceSub, Nat.le_refl, c16, spV, spC]
  refine q2 _ _ ?_
  simp -implicitDefEqProofs only [go_sem, Nat.reduceBEq, Nat.reduceAdd, eq_self, true_and, and_true, and_self, List.getElem?_cons_zero, List.getElem?_cons_succ, Nat.reduceLeDiff, Nat.zero_add, Nat.reduceSub, Nat.le_refl, Nat.lt_irrefl]
  try first | exact ⟨trivial, trivial⟩ | exact ⟨trivial, rfl⟩ | exact ⟨rfl, rfl⟩ | exact ⟨rfl, trivial⟩ | trivial
set_option maxHeartbeats 6400000 in
set_option maxRecDepth 100000 in
theorem add_ok (h : RowIs σ i u k s O S) (hl : S.length ≤ 900) :
    CallA Try.prog 16 [.ptr (some (i, 0)), spV a, spV b] σ fun v σ' => v = .int .i64 (addE S ⟨a, b⟩) ∧ ∃ s' O', RowIs σ' i u k s' O' (addW S ⟨a, b⟩) ∧ RowToS σ σ' i u k s s' := by
  have hlen := h.len
  have h1 := h.cells
  refine fn_at Try.func16 (by decide) comp16 rfl fun Q q1 q2 => ?_
  simp -implicitDefEqProofs only [go_sem, Nat.reduceBEq, Nat.reduceAdd, eq_self, true_and, and_true, and_self, List.getElem?_cons_zero, List.getElem?_cons_succ, Nat.reduceLeDiff, Nat.zero_add, Nat.reduceSub, Nat.le_refl, c16, spV, spC]
  refine call_at (slot_ok (t := ⟨a, b⟩)) ?_
  rintro v τ ⟨rfl, rfl⟩
  refine ⟨kept_none, ?_⟩
  unfold addE addW at q2
  cases hok : okS ⟨a, b⟩ <;> rw [hok] at q2
  · simp -implicitDefEqProofs only [go_sem, Nat.reduceBEq, Nat.reduceAdd, eq_self, true_and, and_true, and_self, List.getElem?_cons_zero, List.getElem?_cons_succ, Nat.reduceLeDiff, Nat.zero_add, Nat.reduceSub, Nat.le_refl, hok]
    refine q2 _ _ ?_
    simp -implicitDefEqProofs only [go_sem, Nat.reduceBEq, Nat.reduceAdd, eq_self, true_and, and_true, and_self, List.getElem?_cons_zero, List.getElem?_cons_succ, Nat.reduceLeDiff, Nat.zero_add, Nat.reduceSub, Nat.le_refl, Nat.lt_irrefl]
    exact ⟨s, O, h, .refl _ _ _ _ _⟩
  simp -implicitDefEqProofs only [go_sem, Nat.reduceBEq, Nat.reduceAdd, eq_self, true_and, and_true, and_self, List.getElem?_cons_zero, List.getElem?_cons_succ, Nat.reduceLeDiff, Nat.zero_add, Nat.reduceSub, Nat.le_refl, hok]
  refine call_at (has_ok (x := a) h) ?_
  rintro v τ1 ⟨rfl, rfl⟩
  refine ⟨kept_none, ?_⟩
  cases hh : hasB S a <;> rw [hh] at q2
  case true =>
    simp -implicitDefEqProofs only [go_sem, Nat.reduceBEq, Nat.reduceAdd, eq_self, true_and, and_true, and_self, List.getElem?_cons_zero, List.getElem?_cons_succ, Nat.reduceLeDiff, Nat.zero_add, Nat.reduceSub, Nat.le_refl, hh]
    refine q2 _ _ ?_
    simp -implicitDefEqProofs only [go_sem, Nat.reduceBEq, Nat.reduceAdd, eq_self, true_and, and_true, and_self, List.getElem?_cons_zero, List.getElem?_cons_succ, Nat.reduceLeDiff, Nat.zero_add, Nat.reduceSub, Nat.le_refl, Nat.lt_irrefl]
    exact ⟨s, O, h, .refl _ _ _ _ _⟩
  obtain ⟨es, ver, h2, hf⟩ := h.und.find
  have hka : keyFits KL (.agg [.int .i64 a.c, .int .i64 a.r]) = true := rfl
  have hkb : keyFits KL (.agg [.int .i64 b.c, .int .i64 b.r]) = true := rfl
  have hfx := hf a
  have hpos := cntU_pos (S := S) (x := a)
  generalize hwt : (S.any fun s => decide (s.u = a)) = wt at *
  have hor : ∀ w, find (.agg [.int .i64 a.c, .int .i64 a.r]) es = w → (w = none ∧ decide ((0 : Int) > 0) = wt) ∨ (w = some (.int .i64 (cntU S a))) := by
    rintro w rfl
    cases hfo : find (.agg [.int .i64 a.c, .int .i64 a.r]) es with
    | none =>
      rw [hfo] at hfx
      simp only [Option.getD_none, V.int.injEq, true_and] at hfx
      exact .inl ⟨rfl, by rw [← hpos, ← hfx]⟩
    | some w =>
      rw [hfo] at hfx
      simp only [Option.getD_some] at hfx
      exact .inr (by rw [hfx])
  have hS := h.fine
  have hwI : ∀ n : Nat, n ≤ 1000000 → IntKind.i64.wrap ((n : Int) + 1) = ((n + 1 : Nat) : Int) := fun n hn => by rw [i64_in _ (by omega)]; omega
  simp -implicitDefEqProofs only [go_sem, Nat.reduceBEq, Nat.reduceAdd, eq_self, true_and, and_true, and_self, List.getElem?_cons_zero, List.getElem?_cons_succ, Nat.reduceLeDiff, Nat.zero_add, Nat.reduceSub, Nat.le_refl, hh]
  rcases hor _ rfl with ⟨hfo, h0⟩ | hfo
  rotate_left
  · simp -implicitDefEqProofs only [go_sem, Nat.reduceBEq, Nat.reduceAdd, eq_self, true_and, and_true, and_self, List.getElem?_cons_zero, List.getElem?_cons_succ, Nat.reduceLeDiff, Nat.zero_add, Nat.reduceSub, Nat.le_refl, h1, h2, hfo, hka, hpos]
    refine cut_at (fun G τ2 => Ext τ1 τ2 ∧ ∃ j : Nat, ((hasB S b = false ∧ j = 0) ∨ ∃ (p : Nat) (hp : p < O.length), O[p].a = b ∧ j = p + 1) ∧ G = ⟨[(0, .v (.ptr (some (i, 0)))), (4, .loc 4 0), (5, .loc 5 0), (7, .loc 7 0), (8, .v (.bool wt)), (9, .v (.int .i64 j))], [(4, spC a), (5, spC b), (7, slC ⟨a, b⟩)]⟩) ?_ ?_
    · intro Z z1 z2 z3
      simp -implicitDefEqProofs only [go_sem, Nat.reduceBEq, Nat.reduceAdd, eq_self, true_and, and_true, and_self, List.getElem?_cons_zero, List.getElem?_cons_succ, Nat.reduceLeDiff, Nat.zero_add, Nat.reduceSub, Nat.le_refl, Nat.lt_irrefl]
      refine call_at (has_ok (x := b) h) ?_
      rintro v τ2 ⟨rfl, rfl⟩
      refine ⟨kept_none, ?_⟩
      cases hb : hasB S b
      · simp -implicitDefEqProofs only [go_sem, Nat.reduceBEq, Nat.reduceAdd, eq_self, true_and, and_true, and_self, List.getElem?_cons_zero, List.getElem?_cons_succ, Nat.reduceLeDiff, Nat.zero_add, Nat.reduceSub, Nat.le_refl, hb]
        refine z1 _ _ _ (.inr ?_) ⟨.refl _, 0, .inl ⟨hb, rfl⟩, rfl⟩
        simp -implicitDefEqProofs only [go_sem, Nat.reduceBEq, Nat.reduceAdd, eq_self, true_and, and_true, and_self, List.getElem?_cons_zero, List.getElem?_cons_succ, Nat.reduceLeDiff, Nat.zero_add, Nat.reduceSub, Nat.le_refl, spC, slC]
        rfl
      · simp -implicitDefEqProofs only [go_sem, Nat.reduceBEq, Nat.reduceAdd, eq_self, true_and, and_true, and_self, List.getElem?_cons_zero, List.getElem?_cons_succ, Nat.reduceLeDiff, Nat.zero_add, Nat.reduceSub, Nat.le_refl, hb]
        refine call_at (place_ok (x := b) h (by omega)) ?_
        rintro v τ3 ⟨hat, he3, hl3⟩
        refine ⟨kept_none, ?_⟩
        rcases hat with ⟨hn, -⟩ | ⟨p, hp, hpe, -, rfl⟩
        · exact absurd (by rw [hasB_ord h.ord, decide_eq_true_eq] at hb; exact hb) hn
        have hp' : p < O.length := by simpa [stampsL] using hp
        simp -implicitDefEqProofs only [go_sem, Nat.reduceBEq, Nat.reduceAdd, eq_self, true_and, and_true, and_self, List.getElem?_cons_zero, List.getElem?_cons_succ, Nat.reduceLeDiff, Nat.zero_add, Nat.reduceSub, Nat.le_refl, hwI p (by omega)]
        refine z1 _ _ _ (.inr ?_) ⟨he3, p + 1, .inr ⟨p, hp', by simpa [stampsL] using hpe, rfl⟩, rfl⟩
        simp -implicitDefEqProofs only [go_sem, Nat.reduceBEq, Nat.reduceAdd, eq_self, true_and, and_true, and_self, List.getElem?_cons_zero, List.getElem?_cons_succ, Nat.reduceLeDiff, Nat.zero_add, Nat.reduceSub, Nat.le_refl, spC, slC]
        try trivial
    · rintro G τ2 ⟨he, j, hj, rfl⟩
      have hjl : j ≤ O.length := by rcases hj with ⟨-, rfl⟩ | ⟨p, hp, -, rfl⟩ <;> omega
      simp -implicitDefEqProofs only [go_sem, Nat.reduceBEq, Nat.reduceAdd, eq_self, true_and, and_true, and_self, List.getElem?_cons_zero, List.getElem?_cons_succ, Nat.reduceLeDiff, Nat.zero_add, Nat.reduceSub, Nat.le_refl, Nat.lt_irrefl]
      refine loop_at (fun (y : Nat) => ⟨[(0, .v (.ptr (some (i, 0)))), (4, .loc 4 0), (5, .loc 5 0), (7, .loc 7 0), (8, .v (.bool wt)), (9, .v (.int .i64 y))], [(4, spC a), (5, spC b), (7, slC ⟨a, b⟩)]⟩)
        (fun y τ => j ≤ y ∧ y ≤ O.length ∧ Ext τ1 τ ∧ ∀ (m : Nat) (hm : m < O.length), j ≤ m → m < y → less a O[m].a = true) (fun y => O.length - y) j ?_ ?_ ?_
      · refine .inr ?_
        simp -implicitDefEqProofs only [go_sem, Nat.reduceBEq, Nat.reduceAdd, eq_self, true_and, and_true, and_self, List.getElem?_cons_zero, List.getElem?_cons_succ, Nat.reduceLeDiff, Nat.zero_add, Nat.reduceSub, Nat.le_refl, Nat.lt_irrefl]
        try trivial
      · exact ⟨Nat.le_refl _, hjl, he, fun m hm h1 h2 => by omega⟩
      rintro y τ3 ⟨g0, g1, g2, g3⟩ Z z1 z2 z3
      have h3 := h.ext g2
      have h31 := h3.cells
      have hlm : (slsV O).length = O.length := slsV_length O
      have hcase : (∃ h : y < O.length, less a O[y].a = true) ∨ (∃ h : y < O.length, less a O[y].a = false) ∨ ¬ y < O.length := by
        by_cases hyl : y < O.length
        · cases h : less a O[y].a
          · exact .inr (.inl ⟨hyl, h⟩)
          · exact .inl ⟨hyl, h⟩
        · exact .inr (.inr hyl)
      rcases hcase with ⟨hi, hls⟩ | ⟨hi, hls⟩ | hyl
      · have hd : decide ((y : Int) < (slsV O).length) = true := by rw [hlm]; simp; omega
        have hget := row_drop0 hi
        have hb : (y : Int) < (slsV O).length := by rw [hlm]; omega
        have hw : IntKind.i64.wrap ((y : Int) + 1) = ((y + 1 : Nat) : Int) := hwI y (by omega)
        rcases id h3.row with ⟨R, q, rfl, he'⟩ | ⟨j', cap, rfl, ho, -, hc⟩
        · have hD : O = [] := by simpa [slsV] using he'
          exact absurd hi (by rw [hD]; simp)
        have g3' : ∀ (m : Nat) (hm : m < O.length), j ≤ m → m < y + 1 → less a O[m].a = true := fun m hm k1 k2 => by
          rcases Nat.lt_or_ge m y with h | h
          · exact g3 m hm k1 h
          · have : m = y := by omega
            subst this; exact hls
        generalize O[y] = d at *
        simp -implicitDefEqProofs only [go_sem, Nat.reduceBEq, Nat.reduceAdd, eq_self, true_and, and_true, and_self, List.getElem?_cons_zero, List.getElem?_cons_succ, Nat.reduceLeDiff, Nat.zero_add, Nat.reduceSub, Nat.le_refl, h31, hd, ho, hget, Int.toNat_natCast, Nat.add_zero, slC, spC]
        refine ⟨⟨by omega, hb⟩, ?_⟩
        refine call_at (less_ok (a := a) (b := d.a)) ?_
        rintro v τ' ⟨rfl, rfl⟩
        refine ⟨(Ext.refl _).kept, ?_⟩
        simp -implicitDefEqProofs only [go_sem, Nat.reduceBEq, Nat.reduceAdd, eq_self, true_and, and_true, and_self, List.getElem?_cons_zero, List.getElem?_cons_succ, Nat.reduceLeDiff, Nat.zero_add, Nat.reduceSub, Nat.le_refl, hls, hw]
        refine z1 (y + 1) _ _ (.inr ?_) (by omega) ⟨by omega, by omega, g2, g3'⟩
        simp -implicitDefEqProofs only [go_sem, Nat.reduceBEq, Nat.reduceAdd, eq_self, true_and, and_true, and_self, List.getElem?_cons_zero, List.getElem?_cons_succ, Nat.reduceLeDiff, Nat.zero_add, Nat.reduceSub, Nat.le_refl, Nat.lt_irrefl]
        exact ⟨rfl, rfl, rfl⟩
      · have hd : decide ((y : Int) < (slsV O).length) = true := by rw [hlm]; simp; omega
        have hget := row_drop0 hi
        have hb : (y : Int) < (slsV O).length := by rw [hlm]; omega
        have hst : ∀ h : y < O.length, less a O[y].a = false := fun _ => hls
        rcases id h3.row with ⟨R, q, rfl, he'⟩ | ⟨j', cap, rfl, ho, -, hc⟩
        · have hD : O = [] := by simpa [slsV] using he'
          exact absurd hi (by rw [hD]; simp)
        generalize hd' : O[y] = d at hls hget
        simp -implicitDefEqProofs only [go_sem, Nat.reduceBEq, Nat.reduceAdd, eq_self, true_and, and_true, and_self, List.getElem?_cons_zero, List.getElem?_cons_succ, Nat.reduceLeDiff, Nat.zero_add, Nat.reduceSub, Nat.le_refl, h31, hd, ho, hget, Int.toNat_natCast, Nat.add_zero, slC, spC]
        refine ⟨⟨by omega, hb⟩, ?_⟩
        refine call_at (less_ok (a := a) (b := d.a)) ?_
        rintro v τ' ⟨hτ', rfl⟩
        have hτ' := hτ'.symm
        subst hτ'
        refine ⟨(Ext.refl _).kept, ?_⟩
        simp -implicitDefEqProofs only [go_sem, Nat.reduceBEq, Nat.reduceAdd, eq_self, true_and, and_true, and_self, List.getElem?_cons_zero, List.getElem?_cons_succ, Nat.reduceLeDiff, Nat.zero_add, Nat.reduceSub, Nat.le_refl, hls]
        refine z2 _ _ _ ?_
        generalize hs0 : V.osl j' (slsV O).length cap 4 = s at *
        clear ho hc hb hget h31 h3 hd' hls hs0
        have h3 := h.ext g2
        have h31 := h3.cells
        simp -implicitDefEqProofs only [go_sem, Nat.reduceBEq, Nat.reduceAdd, eq_self, true_and, and_true, and_self, List.getElem?_cons_zero, List.getElem?_cons_succ, Nat.reduceLeDiff, Nat.zero_add, Nat.reduceSub, Nat.le_refl, h31, slC, spC]
        have hlit : (⟨τ3.objs, τ3.live ++ [true]⟩ : St).live[τ3.live.length]? = some true := by simp
        have hrow : RowOf ⟨τ3.objs, τ3.live ++ [true]⟩ s 4 (slsV O) := h3.row
        refine call_at (ins_ok (x := slC ⟨a, b⟩) hrow (i := y) (by rw [slsV_length]; exact g1) (by rw [slsV_length]; omega) hlit rfl) ?_
        rintro v τ4 ⟨hr4, hto4, jj, cap, rfl, hjj⟩
        have hO1 : (slsV O).take y ++ slC ⟨a, b⟩ :: (slsV O).drop y = slsV (O.take y ++ ⟨a, b⟩ :: O.drop y) := by simp [slsV, List.map_take, List.map_drop]
        rw [hO1] at hr4
        obtain ⟨hci, hm⟩ := mid_ins h3 g2 hto4 hr4 hjj
        have hi3 := rowOf_ne h3.row h31
        refine ⟨fun L hL => by cases hL; exact ⟨fun q hq o ho => by rw [List.mem_singleton] at hq; subst hq; exact hto4.2.2 _ o (fun n cap z e => hi3 n cap z e) ho, fun r hr => by rw [hto4.1]; exact hr⟩, ?_⟩
        have hord : wt = false → Ord (S ++ [⟨a, b⟩]) (O.take y ++ ⟨a, b⟩ :: O.drop y) := fun hw => by
          refine add_ord (s := ⟨a, b⟩) hS h.ord hok hh (fun t ht e => ?_) hj g0 g1 (fun m hm' => g3 m hm') hst
          have : (S.any fun s => decide (s.u = a)) = true := List.any_eq_true.2 ⟨t, ht, by simp [e]⟩
          rw [hwt, hw] at this; cases this
        have hmem : ∀ t, t ∈ O.take y ++ ⟨a, b⟩ :: O.drop y ↔ t ∈ S ++ [⟨a, b⟩] := fun t => by
          rw [List.mem_append, List.mem_cons, List.mem_append, List.mem_singleton, ← h.ord.mem t]
          conv => rhs; rw [← List.take_append_drop y O, List.mem_append]
          constructor
          · rintro (h | h | h)
            · exact .inl (.inl h)
            · exact .inr h
            · exact .inl (.inr h)
          · rintro ((h | h) | h)
            · exact .inl h
            · exact .inr (.inr h)
            · exact .inr (.inl h)
        have hl1 : (O.take y ++ (⟨a, b⟩ : Sl) :: O.drop y).length = O.length + 1 := by simp only [List.length_append, List.length_cons, List.length_take, List.length_drop]; omega
        have hfine := fine_add hS hok hh
        have hnd1 : ((O.take y ++ (⟨a, b⟩ : Sl) :: O.drop y).map (·.a)).Nodup := by
          have hp : (O.take y ++ (⟨a, b⟩ : Sl) :: O.drop y).Perm (S ++ [⟨a, b⟩]) := by
            refine (List.perm_middle.trans ?_)
            rw [List.take_append_drop]
            refine (List.Perm.cons _ ?_).trans (List.perm_append_comm (l₁ := [(⟨a, b⟩ : Sl)]) (l₂ := S))
            exact (List.perm_ext_iff_of_nodup (h.ord.perm_len hS) hS.nodup).2 h.ord.mem
          exact (hp.map _).nodup_iff.2 hfine.nd
        have hne1 : O.take y ++ (⟨a, b⟩ : Sl) :: O.drop y ≠ [] := by simp
        simp -implicitDefEqProofs only [go_sem, Nat.reduceBEq, Nat.reduceAdd, eq_self, true_and, and_true, and_self, List.getElem?_cons_zero, List.getElem?_cons_succ, Nat.reduceLeDiff, Nat.zero_add, Nat.reduceSub, Nat.le_refl, hci, flats, V.flat]
        generalize O.take y ++ (⟨a, b⟩ : Sl) :: O.drop y = O1 at *
        generalize τ4.setC i [.osl jj ((slsV O).length + 1) cap 4, .map (some u), .map (some k)] = τ5 at *
        generalize V.osl jj ((slsV O).length + 1) cap 4 = s1 at *
        clear z1 z2 z3 hto4 hci g3 hst
        refine cut_at (fun G τ => G = ⟨[(0, .v (.ptr (some (i, 0)))), (5, .loc 5 0), (8, .v (.bool wt))], [(5, spC b)]⟩ ∧ Mid τ1 τ i u k s s1 O1 (cntU S) (cntH (S ++ [⟨a, b⟩]))) ?_ ?_
        · intro X x1 x2 x3
          have hcl := hm.cells
          obtain ⟨es5, ver5, h5, hf5⟩ := hm.has.find
          have hfx5 := hf5 a
          have hk5 : keyFits KL (.agg [.int .i64 a.c, .int .i64 a.r]) = true := rfl
          have hc5 : cntH S a ≤ 1000 := by unfold cntH; cases hasB S a <;> simp
          generalize hc : cntH S a = c at *
          have hwc : IntKind.i64.wrap ((c : Int) + 1) = ((c + 1 : Nat) : Int) := by rw [i64_in _ (by omega)]; omega
          have hks := key_self a
          have hfa := find_addE' (z := .int .i64 0) (es := es5) hks
          rw [hfx5] at hfa
          have hua := upd_addE (z := .int .i64 0) (v := .int .i64 ((c + 1 : Nat) : Int)) (es := es5) hks
          have hmq : ∀ n : Nat, (τ5.setA k (.mq KL (Go.VL.addE (.agg [.int .i64 a.c, .int .i64 a.r]) (.int .i64 0) es5) (ver5 + 1) n (.agg [.int .i64 a.c, .int .i64 a.r]))).objs[k]? = some _ := fun n => setA_at h5
          have next : ∀ (F : Fr) (n : Nat), FrLe ⟨[(0, .v (.ptr (some (i, 0)))), (5, .loc 5 0), (8, .v (.bool wt))], [(5, spC b)]⟩ F →
              X .normal F ((τ5.setA k (.mq KL (Go.VL.addE (.agg [.int .i64 a.c, .int .i64 a.r]) (.int .i64 0) es5) (ver5 + 1) n (.agg [.int .i64 a.c, .int .i64 a.r]))).setM k KL (upd (.agg [.int .i64 a.c, .int .i64 a.r]) (.int .i64 ((c + 1 : Nat) : Int)) (Go.VL.addE (.agg [.int .i64 a.c, .int .i64 a.r]) (.int .i64 0) es5)) (ver5 + 1 + 1)) := by
            intro F n hF
            refine x1 _ _ _ hF ⟨rfl, hm.moreH h.ne updS_two ?_⟩
            refine CntIs.more (x := a) (f := cntH S) hm.has (fun y => by rw [cntH_snoc hh] <;> first | rfl | (by_cases hy : y = a <;> simp [hy])) h5 (ver' := ver5 + 1 + 1) ?_
            rw [hc]
            show ((τ5.setA _ _).setA _ (.mp _ _ _)).objs[_]? = _
            rw [set_two h5, hua]
          simp -implicitDefEqProofs only [go_sem, Nat.reduceBEq, Nat.reduceAdd, eq_self, true_and, and_true, and_self, List.getElem?_cons_zero, List.getElem?_cons_succ, Nat.reduceLeDiff, Nat.zero_add, Nat.reduceSub, Nat.le_refl, hcl, spC]
          refine ⟨?_, ?_⟩
          · cases hfo5 : find (.agg [.int .i64 a.c, .int .i64 a.r]) es5 with
            | none =>
              rw [hfo5] at hfx5
              have hc0 : c = 0 := by
                simp only [Option.getD_none, V.int.injEq, true_and] at hfx5
                omega
              have hw01 : IntKind.i64.wrap (0 + 1) = ((c + 1 : Nat) : Int) := by rw [hc0]; rfl
              simp -implicitDefEqProofs only [go_sem, Nat.reduceBEq, Nat.reduceAdd, eq_self, true_and, and_true, and_self, List.getElem?_cons_zero, List.getElem?_cons_succ, Nat.reduceLeDiff, Nat.zero_add, Nat.reduceSub, Nat.le_refl, h5, hfo5, hk5, spC]
              refine me_at h5 hk5 fun n => ?_
              simp -implicitDefEqProofs only [go_sem, Nat.reduceBEq, Nat.reduceAdd, eq_self, true_and, and_true, and_self, List.getElem?_cons_zero, List.getElem?_cons_succ, Nat.reduceLeDiff, Nat.zero_add, Nat.reduceSub, Nat.le_refl, hmq, hw01, spC]
              refine next _ _ (.inr ?_)
              simp -implicitDefEqProofs only [go_sem, Nat.reduceBEq, Nat.reduceAdd, eq_self, true_and, and_true, and_self, List.getElem?_cons_zero, List.getElem?_cons_succ, Nat.reduceLeDiff, Nat.zero_add, Nat.reduceSub, Nat.le_refl, spC]
              try exact rfl
            | some w =>
              rw [hfo5] at hfx5
              simp only [Option.getD_some] at hfx5
              subst hfx5
              simp -implicitDefEqProofs only [go_sem, Nat.reduceBEq, Nat.reduceAdd, eq_self, true_and, and_true, and_self, List.getElem?_cons_zero, List.getElem?_cons_succ, Nat.reduceLeDiff, Nat.zero_add, Nat.reduceSub, Nat.le_refl, h5, hfo5, hk5, spC]
              refine me_at h5 hk5 fun n => ?_
              simp -implicitDefEqProofs only [go_sem, Nat.reduceBEq, Nat.reduceAdd, eq_self, true_and, and_true, and_self, List.getElem?_cons_zero, List.getElem?_cons_succ, Nat.reduceLeDiff, Nat.zero_add, Nat.reduceSub, Nat.le_refl, hmq, hwc, spC]
              refine next _ _ (.inr ?_)
              simp -implicitDefEqProofs only [go_sem, Nat.reduceBEq, Nat.reduceAdd, eq_self, true_and, and_true, and_self, List.getElem?_cons_zero, List.getElem?_cons_succ, Nat.reduceLeDiff, Nat.zero_add, Nat.reduceSub, Nat.le_refl, spC]
              try exact rfl
          · refine me_at h5 hk5 fun n => ?_
            simp -implicitDefEqProofs only [go_sem, Nat.reduceBEq, Nat.reduceAdd, eq_self, true_and, and_true, and_self, List.getElem?_cons_zero, List.getElem?_cons_succ, Nat.reduceLeDiff, Nat.zero_add, Nat.reduceSub, Nat.le_refl, hmq, hfa, hk5, hwc, spC]
            refine next _ _ (.inr ?_)
            simp -implicitDefEqProofs only [go_sem, Nat.reduceBEq, Nat.reduceAdd, eq_self, true_and, and_true, and_self, List.getElem?_cons_zero, List.getElem?_cons_succ, Nat.reduceLeDiff, Nat.zero_add, Nat.reduceSub, Nat.le_refl, spC]
            try exact rfl
        clear hm
        clear τ5
        rintro _ τ5 ⟨rfl, hm⟩
        refine cut_at (fun G τ => G = ⟨[(0, .v (.ptr (some (i, 0)))), (8, .v (.bool wt))], []⟩ ∧ Mid τ1 τ i u k s s1 O1 (cntU (S ++ [⟨a, b⟩])) (cntH (S ++ [⟨a, b⟩]))) ?_ ?_
        · intro X x1 x2 x3
          have hcl := hm.cells
          obtain ⟨es5, ver5, h5, hf5⟩ := hm.und.find
          have hfx5 := hf5 b
          have hk5 : keyFits KL (.agg [.int .i64 b.c, .int .i64 b.r]) = true := rfl
          have hc5 : cntU S b ≤ 1000 := Nat.le_trans (List.length_filter_le _ _) (by omega)
          generalize hc : cntU S b = c at *
          have hwc : IntKind.i64.wrap ((c : Int) + 1) = ((c + 1 : Nat) : Int) := by rw [i64_in _ (by omega)]; omega
          have hks := key_self b
          have hfa := find_addE' (z := .int .i64 0) (es := es5) hks
          rw [hfx5] at hfa
          have hua := upd_addE (z := .int .i64 0) (v := .int .i64 ((c + 1 : Nat) : Int)) (es := es5) hks
          have hmq : ∀ n : Nat, (τ5.setA u (.mq KL (Go.VL.addE (.agg [.int .i64 b.c, .int .i64 b.r]) (.int .i64 0) es5) (ver5 + 1) n (.agg [.int .i64 b.c, .int .i64 b.r]))).objs[u]? = some _ := fun n => setA_at h5
          have next : ∀ (F : Fr) (n : Nat), FrLe ⟨[(0, .v (.ptr (some (i, 0)))), (8, .v (.bool wt))], []⟩ F →
              X .normal F ((τ5.setA u (.mq KL (Go.VL.addE (.agg [.int .i64 b.c, .int .i64 b.r]) (.int .i64 0) es5) (ver5 + 1) n (.agg [.int .i64 b.c, .int .i64 b.r]))).setM u KL (upd (.agg [.int .i64 b.c, .int .i64 b.r]) (.int .i64 ((c + 1 : Nat) : Int)) (Go.VL.addE (.agg [.int .i64 b.c, .int .i64 b.r]) (.int .i64 0) es5)) (ver5 + 1 + 1)) := by
            intro F n hF
            refine x1 _ _ _ hF ⟨rfl, hm.moreU h.ne updS_two ?_⟩
            refine CntIs.more (x := b) (f := cntU S) hm.und (fun y => by rw [cntU_snoc] <;> first | rfl | (by_cases hy : y = b <;> simp [hy])) h5 (ver' := ver5 + 1 + 1) ?_
            rw [hc]
            show ((τ5.setA _ _).setA _ (.mp _ _ _)).objs[_]? = _
            rw [set_two h5, hua]
          simp -implicitDefEqProofs only [go_sem, Nat.reduceBEq, Nat.reduceAdd, eq_self, true_and, and_true, and_self, List.getElem?_cons_zero, List.getElem?_cons_succ, Nat.reduceLeDiff, Nat.zero_add, Nat.reduceSub, Nat.le_refl, hcl, spC]
          refine ⟨?_, ?_⟩
          · cases hfo5 : find (.agg [.int .i64 b.c, .int .i64 b.r]) es5 with
            | none =>
              rw [hfo5] at hfx5
              have hc0 : c = 0 := by
                simp only [Option.getD_none, V.int.injEq, true_and] at hfx5
                omega
              have hw01 : IntKind.i64.wrap (0 + 1) = ((c + 1 : Nat) : Int) := by rw [hc0]; rfl
              simp -implicitDefEqProofs only [go_sem, Nat.reduceBEq, Nat.reduceAdd, eq_self, true_and, and_true, and_self, List.getElem?_cons_zero, List.getElem?_cons_succ, Nat.reduceLeDiff, Nat.zero_add, Nat.reduceSub, Nat.le_refl, h5, hfo5, hk5, spC]
              refine me_at h5 hk5 fun n => ?_
              simp -implicitDefEqProofs only [go_sem, Nat.reduceBEq, Nat.reduceAdd, eq_self, true_and, and_true, and_self, List.getElem?_cons_zero, List.getElem?_cons_succ, Nat.reduceLeDiff, Nat.zero_add, Nat.reduceSub, Nat.le_refl, hmq, hw01, spC]
              refine next _ _ (.inr ?_)
              simp -implicitDefEqProofs only [go_sem, Nat.reduceBEq, Nat.reduceAdd, eq_self, true_and, and_true, and_self, List.getElem?_cons_zero, List.getElem?_cons_succ, Nat.reduceLeDiff, Nat.zero_add, Nat.reduceSub, Nat.le_refl, spC]
              try exact rfl
            | some w =>
              rw [hfo5] at hfx5
              simp only [Option.getD_some] at hfx5
              subst hfx5
              simp -implicitDefEqProofs only [go_sem, Nat.reduceBEq, Nat.reduceAdd, eq_self, true_and, and_true, and_self, List.getElem?_cons_zero, List.getElem?_cons_succ, Nat.reduceLeDiff, Nat.zero_add, Nat.reduceSub, Nat.le_refl, h5, hfo5, hk5, spC]
              refine me_at h5 hk5 fun n => ?_
              simp -implicitDefEqProofs only [go_sem, Nat.reduceBEq, Nat.reduceAdd, eq_self, true_and, and_true, and_self, List.getElem?_cons_zero, List.getElem?_cons_succ, Nat.reduceLeDiff, Nat.zero_add, Nat.reduceSub, Nat.le_refl, hmq, hwc, spC]
              refine next _ _ (.inr ?_)
              simp -implicitDefEqProofs only [go_sem, Nat.reduceBEq, Nat.reduceAdd, eq_self, true_and, and_true, and_self, List.getElem?_cons_zero, List.getElem?_cons_succ, Nat.reduceLeDiff, Nat.zero_add, Nat.reduceSub, Nat.le_refl, spC]
              try exact rfl
          · refine me_at h5 hk5 fun n => ?_
            simp -implicitDefEqProofs only [go_sem, Nat.reduceBEq, Nat.reduceAdd, eq_self, true_and, and_true, and_self, List.getElem?_cons_zero, List.getElem?_cons_succ, Nat.reduceLeDiff, Nat.zero_add, Nat.reduceSub, Nat.le_refl, hmq, hfa, hk5, hwc, spC]
            refine next _ _ (.inr ?_)
            simp -implicitDefEqProofs only [go_sem, Nat.reduceBEq, Nat.reduceAdd, eq_self, true_and, and_true, and_self, List.getElem?_cons_zero, List.getElem?_cons_succ, Nat.reduceLeDiff, Nat.zero_add, Nat.reduceSub, Nat.le_refl, spC]
            try exact rfl
        rintro _ τ6 ⟨rfl, hm⟩
        refine cut_at (fun G τ => G = ⟨[], []⟩ ∧ ∃ s' O', RowIs τ i u k s' O' (S ++ [⟨a, b⟩]) ∧ RowToS τ1 τ i u k s s') ?_ ?_
        · intro X x1 x2 x3
          cases hwt' : wt
          · simp -implicitDefEqProofs only [go_sem, Nat.reduceBEq, Nat.reduceAdd, eq_self, true_and, and_true, and_self, List.getElem?_cons_zero, List.getElem?_cons_succ, Nat.reduceLeDiff, Nat.zero_add, Nat.reduceSub, Nat.le_refl, Nat.lt_irrefl]
            refine x1 _ _ _ (.inr ?_) ⟨rfl, s1, O1, ⟨hm.cells, hm.row, hm.und, hm.has, h.ne, hfine, hord hwt'⟩, hm.to⟩
            simp -implicitDefEqProofs only [go_sem, Nat.reduceBEq, Nat.reduceAdd, eq_self, true_and, and_true, and_self, List.getElem?_cons_zero, List.getElem?_cons_succ, Nat.reduceLeDiff, Nat.zero_add, Nat.reduceSub, Nat.le_refl, Nat.lt_irrefl]
          · have hcl := hm.cells
            have hf1 : Fine O1 := ⟨hnd1, fun t ht => hfine.up t ((hmem t).1 ht), fun t ht => hfine.nz t ((hmem t).1 ht)⟩
            simp -implicitDefEqProofs only [go_sem, Nat.reduceBEq, Nat.reduceAdd, eq_self, true_and, and_true, and_self, List.getElem?_cons_zero, List.getElem?_cons_succ, Nat.reduceLeDiff, Nat.zero_add, Nat.reduceSub, Nat.le_refl, hcl]
            refine call_at (sorted_ok hf1 (by omega) hm.row hne1) ?_
            rintro v τ7 ⟨out, hout, hr7, he7, hn7⟩
            refine ⟨kept_none, ?_⟩
            have hc7 := he7.objs _ _ hcl
            have hv : cellsOf v = some [v] := by rcases hr7 with ⟨R, q, rfl, -⟩ | ⟨j, cap, rfl, -⟩ <;> rfl
            have hil := (List.getElem?_eq_some_iff.1 hc7).1
            have hfin : ∃ s' O', RowIs (τ7.setC i [v, .map (some u), .map (some k)]) i u k s' O' (S ++ [⟨a, b⟩]) ∧ RowToS τ1 (τ7.setC i [v, .map (some u), .map (some k)]) i u k s s' := by
              have hu7 : UpdS (fun j => j = i) τ7 (τ7.setC i [v, .map (some u), .map (some k)]) := updS_setC
              obtain ⟨mu, vu, u1⟩ := (hm.und.up (P := fun _ => False) (.of he7) fun h => h).at
              obtain ⟨mh, vh, k1⟩ := (hm.has.up (P := fun _ => False) (.of he7) fun h => h).at
              have hui : u ≠ i := fun e => by rw [e, hc7] at u1; cases u1
              have hki : k ≠ i := fun e => by rw [e, hc7] at k1; cases k1
              refine ⟨v, out, ⟨setC_get hil, rowOf_up hr7 hu7 fun j n cap z e => ?_, (hm.und.up (P := fun _ => False) (.of he7) fun h => h).up hu7 hui, (hm.has.up (P := fun _ => False) (.of he7) fun h => h).up hu7 hki, h.ne, hfine, hout.congr hmem⟩, ⟨?_, ?_⟩⟩
              · rintro rfl
                exact rowOf_ne hr7 hc7 _ _ _ e
              · exact ((hm.to.upd.trans (UpdS.of (S := fun _ => False) he7) fun _ h => h.elim).trans hu7 fun j hj => .inl (.inl hj))
              · rintro j (hj | hj | hj | ⟨n', cap', z, hj⟩)
                · exact .inl (.inl hj)
                · exact .inl (.inr (.inl hj))
                · exact .inl (.inr (.inr (.inl hj)))
                · exact .inr (Nat.le_trans hm.to.upd.olen (hn7 _ _ _ _ hj))
            rcases hr7 with ⟨R, q, rfl, -⟩ | ⟨j', cap', rfl, -⟩
            all_goals
              simp -implicitDefEqProofs only [go_sem, Nat.reduceBEq, Nat.reduceAdd, eq_self, true_and, and_true, and_self, List.getElem?_cons_zero, List.getElem?_cons_succ, Nat.reduceLeDiff, Nat.zero_add, Nat.reduceSub, Nat.le_refl, hc7, flats, V.flat]
              refine x1 _ _ _ (.inr ?_) ⟨rfl, hfin⟩
              simp -implicitDefEqProofs only [go_sem, Nat.reduceBEq, Nat.reduceAdd, eq_self, true_and, and_true, and_self, List.getElem?_cons_zero, List.getElem?_cons_succ, Nat.reduceLeDiff, Nat.zero_add, Nat.reduceSub, Nat.le_refl, Nat.lt_irrefl]
        rintro _ τ7 ⟨rfl, hfin⟩
        simp -implicitDefEqProofs only [go_sem, Nat.reduceBEq, Nat.reduceAdd, eq_self, true_and, and_true, and_self, List.getElem?_cons_zero, List.getElem?_cons_succ, Nat.reduceLeDiff, Nat.zero_add, Nat.reduceSub, Nat.le_refl, Nat.lt_irrefl]
        refine q2 _ _ ?_
        simp -implicitDefEqProofs only [go_sem, Nat.reduceBEq, Nat.reduceAdd, eq_self, true_and, and_true, and_self, List.getElem?_cons_zero, List.getElem?_cons_succ, Nat.reduceLeDiff, Nat.zero_add, Nat.reduceSub, Nat.le_refl, Nat.lt_irrefl]
        exact hfin
      · have hd : decide ((y : Int) < (slsV O).length) = false := by rw [hlm]; simp; omega
        have hd0 : decide ((y : Int) < ((0 : Nat) : Int)) = false := by simp
        have hst : ∀ h : y < O.length, less a O[y].a = false := fun h => absurd h hyl
        rcases id h3.row with ⟨R, q, rfl, he'⟩ | ⟨j', cap, rfl, ho, -, hc⟩
        · simp -implicitDefEqProofs only [go_sem, Nat.reduceBEq, Nat.reduceAdd, eq_self, true_and, and_true, and_self, List.getElem?_cons_zero, List.getElem?_cons_succ, Nat.reduceLeDiff, Nat.zero_add, Nat.reduceSub, Nat.le_refl, h31, hd0]
          refine z2 _ _ _ ?_
          generalize hs0 : V.sl true R q [] = s at *
          clear h31 h3 hs0
          have h3 := h.ext g2
          have h31 := h3.cells
          simp -implicitDefEqProofs only [go_sem, Nat.reduceBEq, Nat.reduceAdd, eq_self, true_and, and_true, and_self, List.getElem?_cons_zero, List.getElem?_cons_succ, Nat.reduceLeDiff, Nat.zero_add, Nat.reduceSub, Nat.le_refl, h31, slC, spC]
          have hlit : (⟨τ3.objs, τ3.live ++ [true]⟩ : St).live[τ3.live.length]? = some true := by simp
          have hrow : RowOf ⟨τ3.objs, τ3.live ++ [true]⟩ s 4 (slsV O) := h3.row
          refine call_at (ins_ok (x := slC ⟨a, b⟩) hrow (i := y) (by rw [slsV_length]; exact g1) (by rw [slsV_length]; omega) hlit rfl) ?_
          rintro v τ4 ⟨hr4, hto4, jj, cap, rfl, hjj⟩
          have hO1 : (slsV O).take y ++ slC ⟨a, b⟩ :: (slsV O).drop y = slsV (O.take y ++ ⟨a, b⟩ :: O.drop y) := by simp [slsV, List.map_take, List.map_drop]
          rw [hO1] at hr4
          obtain ⟨hci, hm⟩ := mid_ins h3 g2 hto4 hr4 hjj
          have hi3 := rowOf_ne h3.row h31
          refine ⟨fun L hL => by cases hL; exact ⟨fun q hq o ho => by rw [List.mem_singleton] at hq; subst hq; exact hto4.2.2 _ o (fun n cap z e => hi3 n cap z e) ho, fun r hr => by rw [hto4.1]; exact hr⟩, ?_⟩
          have hord : wt = false → Ord (S ++ [⟨a, b⟩]) (O.take y ++ ⟨a, b⟩ :: O.drop y) := fun hw => by
            refine add_ord (s := ⟨a, b⟩) hS h.ord hok hh (fun t ht e => ?_) hj g0 g1 (fun m hm' => g3 m hm') hst
            have : (S.any fun s => decide (s.u = a)) = true := List.any_eq_true.2 ⟨t, ht, by simp [e]⟩
            rw [hwt, hw] at this; cases this
          have hmem : ∀ t, t ∈ O.take y ++ ⟨a, b⟩ :: O.drop y ↔ t ∈ S ++ [⟨a, b⟩] := fun t => by
            rw [List.mem_append, List.mem_cons, List.mem_append, List.mem_singleton, ← h.ord.mem t]
            conv => rhs; rw [← List.take_append_drop y O, List.mem_append]
            constructor
            · rintro (h | h | h)
              · exact .inl (.inl h)
              · exact .inr h
              · exact .inl (.inr h)
            · rintro ((h | h) | h)
              · exact .inl h
              · exact .inr (.inr h)
              · exact .inr (.inl h)
          have hl1 : (O.take y ++ (⟨a, b⟩ : Sl) :: O.drop y).length = O.length + 1 := by simp only [List.length_append, List.length_cons, List.length_take, List.length_drop]; omega
          have hfine := fine_add hS hok hh
          have hnd1 : ((O.take y ++ (⟨a, b⟩ : Sl) :: O.drop y).map (·.a)).Nodup := by
            have hp : (O.take y ++ (⟨a, b⟩ : Sl) :: O.drop y).Perm (S ++ [⟨a, b⟩]) := by
              refine (List.perm_middle.trans ?_)
              rw [List.take_append_drop]
              refine (List.Perm.cons _ ?_).trans (List.perm_append_comm (l₁ := [(⟨a, b⟩ : Sl)]) (l₂ := S))
              exact (List.perm_ext_iff_of_nodup (h.ord.perm_len hS) hS.nodup).2 h.ord.mem
            exact (hp.map _).nodup_iff.2 hfine.nd
          have hne1 : O.take y ++ (⟨a, b⟩ : Sl) :: O.drop y ≠ [] := by simp
          simp -implicitDefEqProofs only [go_sem, Nat.reduceBEq, Nat.reduceAdd, eq_self, true_and, and_true, and_self, List.getElem?_cons_zero, List.getElem?_cons_succ, Nat.reduceLeDiff, Nat.zero_add, Nat.reduceSub, Nat.le_refl, hci, flats, V.flat]
          generalize O.take y ++ (⟨a, b⟩ : Sl) :: O.drop y = O1 at *
          generalize τ4.setC i [.osl jj ((slsV O).length + 1) cap 4, .map (some u), .map (some k)] = τ5 at *
          generalize V.osl jj ((slsV O).length + 1) cap 4 = s1 at *
          clear z1 z2 z3 hto4 hci g3 hst
          refine cut_at (fun G τ => G = ⟨[(0, .v (.ptr (some (i, 0)))), (5, .loc 5 0), (8, .v (.bool wt))], [(5, spC b)]⟩ ∧ Mid τ1 τ i u k s s1 O1 (cntU S) (cntH (S ++ [⟨a, b⟩]))) ?_ ?_
          · intro X x1 x2 x3
            have hcl := hm.cells
            obtain ⟨es5, ver5, h5, hf5⟩ := hm.has.find
            have hfx5 := hf5 a
            have hk5 : keyFits KL (.agg [.int .i64 a.c, .int .i64 a.r]) = true := rfl
            have hc5 : cntH S a ≤ 1000 := by unfold cntH; cases hasB S a <;> simp
            generalize hc : cntH S a = c at *
            have hwc : IntKind.i64.wrap ((c : Int) + 1) = ((c + 1 : Nat) : Int) := by rw [i64_in _ (by omega)]; omega
            have hks := key_self a
            have hfa := find_addE' (z := .int .i64 0) (es := es5) hks
            rw [hfx5] at hfa
            have hua := upd_addE (z := .int .i64 0) (v := .int .i64 ((c + 1 : Nat) : Int)) (es := es5) hks
            have hmq : ∀ n : Nat, (τ5.setA k (.mq KL (Go.VL.addE (.agg [.int .i64 a.c, .int .i64 a.r]) (.int .i64 0) es5) (ver5 + 1) n (.agg [.int .i64 a.c, .int .i64 a.r]))).objs[k]? = some _ := fun n => setA_at h5
            have next : ∀ (F : Fr) (n : Nat), FrLe ⟨[(0, .v (.ptr (some (i, 0)))), (5, .loc 5 0), (8, .v (.bool wt))], [(5, spC b)]⟩ F →
                X .normal F ((τ5.setA k (.mq KL (Go.VL.addE (.agg [.int .i64 a.c, .int .i64 a.r]) (.int .i64 0) es5) (ver5 + 1) n (.agg [.int .i64 a.c, .int .i64 a.r]))).setM k KL (upd (.agg [.int .i64 a.c, .int .i64 a.r]) (.int .i64 ((c + 1 : Nat) : Int)) (Go.VL.addE (.agg [.int .i64 a.c, .int .i64 a.r]) (.int .i64 0) es5)) (ver5 + 1 + 1)) := by
              intro F n hF
              refine x1 _ _ _ hF ⟨rfl, hm.moreH h.ne updS_two ?_⟩
              refine CntIs.more (x := a) (f := cntH S) hm.has (fun y => by rw [cntH_snoc hh] <;> first | rfl | (by_cases hy : y = a <;> simp [hy])) h5 (ver' := ver5 + 1 + 1) ?_
              rw [hc]
              show ((τ5.setA _ _).setA _ (.mp _ _ _)).objs[_]? = _
              rw [set_two h5, hua]
            simp -implicitDefEqProofs only [go_sem, Nat.reduceBEq, Nat.reduceAdd, eq_self, true_and, and_true, and_self, List.getElem?_cons_zero, List.getElem?_cons_succ, Nat.reduceLeDiff, Nat.zero_add, Nat.reduceSub, Nat.le_refl, hcl, spC]
            refine ⟨?_, ?_⟩
            · cases hfo5 : find (.agg [.int .i64 a.c, .int .i64 a.r]) es5 with
              | none =>
                rw [hfo5] at hfx5
                have hc0 : c = 0 := by
                  simp only [Option.getD_none, V.int.injEq, true_and] at hfx5
                  omega
                have hw01 : IntKind.i64.wrap (0 + 1) = ((c + 1 : Nat) : Int) := by rw [hc0]; rfl
                simp -implicitDefEqProofs only [go_sem, Nat.reduceBEq, Nat.reduceAdd, eq_self, true_and, and_true, and_self, List.getElem?_cons_zero, List.getElem?_cons_succ, Nat.reduceLeDiff, Nat.zero_add, Nat.reduceSub, Nat.le_refl, h5, hfo5, hk5, spC]
                refine me_at h5 hk5 fun n => ?_
                simp -implicitDefEqProofs only [go_sem, Nat.reduceBEq, Nat.reduceAdd, eq_self, true_and, and_true, and_self, List.getElem?_cons_zero, List.getElem?_cons_succ, Nat.reduceLeDiff, Nat.zero_add, Nat.reduceSub, Nat.le_refl, hmq, hw01, spC]
                refine next _ _ (.inr ?_)
                simp -implicitDefEqProofs only [go_sem, Nat.reduceBEq, Nat.reduceAdd, eq_self, true_and, and_true, and_self, List.getElem?_cons_zero, List.getElem?_cons_succ, Nat.reduceLeDiff, Nat.zero_add, Nat.reduceSub, Nat.le_refl, spC]
                try exact rfl
              | some w =>
                rw [hfo5] at hfx5
                simp only [Option.getD_some] at hfx5
                subst hfx5
                simp -implicitDefEqProofs only [go_sem, Nat.reduceBEq, Nat.reduceAdd, eq_self, true_and, and_true, and_self, List.getElem?_cons_zero, List.getElem?_cons_succ, Nat.reduceLeDiff, Nat.zero_add, Nat.reduceSub, Nat.le_refl, h5, hfo5, hk5, spC]
                refine me_at h5 hk5 fun n => ?_
                simp -implicitDefEqProofs only [go_sem, Nat.reduceBEq, Nat.reduceAdd, eq_self, true_and, and_true, and_self, List.getElem?_cons_zero, List.getElem?_cons_succ, Nat.reduceLeDiff, Nat.zero_add, Nat.reduceSub, Nat.le_refl, hmq, hwc, spC]
                refine next _ _ (.inr ?_)
                simp -implicitDefEqProofs only [go_sem, Nat.reduceBEq, Nat.reduceAdd, eq_self, true_and, and_true, and_self, List.getElem?_cons_zero, List.getElem?_cons_succ, Nat.reduceLeDiff, Nat.zero_add, Nat.reduceSub, Nat.le_refl, spC]
                try exact rfl
            · refine me_at h5 hk5 fun n => ?_
              simp -implicitDefEqProofs only [go_sem, Nat.reduceBEq, Nat.reduceAdd, eq_self, true_and, and_true, and_self, List.getElem?_cons_zero, List.getElem?_cons_succ, Nat.reduceLeDiff, Nat.zero_add, Nat.reduceSub, Nat.le_refl, hmq, hfa, hk5, hwc, spC]
              refine next _ _ (.inr ?_)
              simp -implicitDefEqProofs only [go_sem, Nat.reduceBEq, Nat.reduceAdd, eq_self, true_and, and_true, and_self, List.getElem?_cons_zero, List.getElem?_cons_succ, Nat.reduceLeDiff, Nat.zero_add, Nat.reduceSub, Nat.le_refl, spC]
              try exact rfl
          clear hm
          clear τ5
          rintro _ τ5 ⟨rfl, hm⟩
          refine cut_at (fun G τ => G = ⟨[(0, .v (.ptr (some (i, 0)))), (8, .v (.bool wt))], []⟩ ∧ Mid τ1 τ i u k s s1 O1 (cntU (S ++ [⟨a, b⟩])) (cntH (S ++ [⟨a, b⟩]))) ?_ ?_
          · intro X x1 x2 x3
            have hcl := hm.cells
            obtain ⟨es5, ver5, h5, hf5⟩ := hm.und.find
            have hfx5 := hf5 b
            have hk5 : keyFits KL (.agg [.int .i64 b.c, .int .i64 b.r]) = true := rfl
            have hc5 : cntU S b ≤ 1000 := Nat.le_trans (List.length_filter_le _ _) (by omega)
            generalize hc : cntU S b = c at *
            have hwc : IntKind.i64.wrap ((c : Int) + 1) = ((c + 1 : Nat) : Int) := by rw [i64_in _ (by omega)]; omega
            have hks := key_self b
            have hfa := find_addE' (z := .int .i64 0) (es := es5) hks
            rw [hfx5] at hfa
            have hua := upd_addE (z := .int .i64 0) (v := .int .i64 ((c + 1 : Nat) : Int)) (es := es5) hks
            have hmq : ∀ n : Nat, (τ5.setA u (.mq KL (Go.VL.addE (.agg [.int .i64 b.c, .int .i64 b.r]) (.int .i64 0) es5) (ver5 + 1) n (.agg [.int .i64 b.c, .int .i64 b.r]))).objs[u]? = some _ := fun n => setA_at h5
            have next : ∀ (F : Fr) (n : Nat), FrLe ⟨[(0, .v (.ptr (some (i, 0)))), (8, .v (.bool wt))], []⟩ F →
                X .normal F ((τ5.setA u (.mq KL (Go.VL.addE (.agg [.int .i64 b.c, .int .i64 b.r]) (.int .i64 0) es5) (ver5 + 1) n (.agg [.int .i64 b.c, .int .i64 b.r]))).setM u KL (upd (.agg [.int .i64 b.c, .int .i64 b.r]) (.int .i64 ((c + 1 : Nat) : Int)) (Go.VL.addE (.agg [.int .i64 b.c, .int .i64 b.r]) (.int .i64 0) es5)) (ver5 + 1 + 1)) := by
              intro F n hF
              refine x1 _ _ _ hF ⟨rfl, hm.moreU h.ne updS_two ?_⟩
              refine CntIs.more (x := b) (f := cntU S) hm.und (fun y => by rw [cntU_snoc] <;> first | rfl | (by_cases hy : y = b <;> simp [hy])) h5 (ver' := ver5 + 1 + 1) ?_
              rw [hc]
              show ((τ5.setA _ _).setA _ (.mp _ _ _)).objs[_]? = _
              rw [set_two h5, hua]
            simp -implicitDefEqProofs only [go_sem, Nat.reduceBEq, Nat.reduceAdd, eq_self, true_and, and_true, and_self, List.getElem?_cons_zero, List.getElem?_cons_succ, Nat.reduceLeDiff, Nat.zero_add, Nat.reduceSub, Nat.le_refl, hcl, spC]
            refine ⟨?_, ?_⟩
            · cases hfo5 : find (.agg [.int .i64 b.c, .int .i64 b.r]) es5 with
              | none =>
                rw [hfo5] at hfx5
                have hc0 : c = 0 := by
                  simp only [Option.getD_none, V.int.injEq, true_and] at hfx5
                  omega
                have hw01 : IntKind.i64.wrap (0 + 1) = ((c + 1 : Nat) : Int) := by rw [hc0]; rfl
                simp -implicitDefEqProofs only [go_sem, Nat.reduceBEq, Nat.reduceAdd, eq_self, true_and, and_true, and_self, List.getElem?_cons_zero, List.getElem?_cons_succ, Nat.reduceLeDiff, Nat.zero_add, Nat.reduceSub, Nat.le_refl, h5, hfo5, hk5, spC]
                refine me_at h5 hk5 fun n => ?_
                simp -implicitDefEqProofs only [go_sem, Nat.reduceBEq, Nat.reduceAdd, eq_self, true_and, and_true, and_self, List.getElem?_cons_zero, List.getElem?_cons_succ, Nat.reduceLeDiff, Nat.zero_add, Nat.reduceSub, Nat.le_refl, hmq, hw01, spC]
                refine next _ _ (.inr ?_)
                simp -implicitDefEqProofs only [go_sem, Nat.reduceBEq, Nat.reduceAdd, eq_self, true_and, and_true, and_self, List.getElem?_cons_zero, List.getElem?_cons_succ, Nat.reduceLeDiff, Nat.zero_add, Nat.reduceSub, Nat.le_refl, spC]
                try exact rfl
              | some w =>
                rw [hfo5] at hfx5
                simp only [Option.getD_some] at hfx5
                subst hfx5
                simp -implicitDefEqProofs only [go_sem, Nat.reduceBEq, Nat.reduceAdd, eq_self, true_and, and_true, and_self, List.getElem?_cons_zero, List.getElem?_cons_succ, Nat.reduceLeDiff, Nat.zero_add, Nat.reduceSub, Nat.le_refl, h5, hfo5, hk5, spC]
                refine me_at h5 hk5 fun n => ?_
                simp -implicitDefEqProofs only [go_sem, Nat.reduceBEq, Nat.reduceAdd, eq_self, true_and, and_true, and_self, List.getElem?_cons_zero, List.getElem?_cons_succ, Nat.reduceLeDiff, Nat.zero_add, Nat.reduceSub, Nat.le_refl, hmq, hwc, spC]
                refine next _ _ (.inr ?_)
                simp -implicitDefEqProofs only [go_sem, Nat.reduceBEq, Nat.reduceAdd, eq_self, true_and, and_true, and_self, List.getElem?_cons_zero, List.getElem?_cons_succ, Nat.reduceLeDiff, Nat.zero_add, Nat.reduceSub, Nat.le_refl, spC]
                try exact rfl
            · refine me_at h5 hk5 fun n => ?_
              simp -implicitDefEqProofs only [go_sem, Nat.reduceBEq, Nat.reduceAdd, eq_self, true_and, and_true, and_self, List.getElem?_cons_zero, List.getElem?_cons_succ, Nat.reduceLeDiff, Nat.zero_add, Nat.reduceSub, Nat.le_refl, hmq, hfa, hk5, hwc, spC]
              refine next _ _ (.inr ?_)
              simp -implicitDefEqProofs only [go_sem, Nat.reduceBEq, Nat.reduceAdd, eq_self, true_and, and_true, and_self, List.getElem?_cons_zero, List.getElem?_cons_succ, Nat.reduceLeDiff, Nat.zero_add, Nat.reduceSub, Nat.le_refl, spC]
              try exact rfl
          rintro _ τ6 ⟨rfl, hm⟩
          refine cut_at (fun G τ => G = ⟨[], []⟩ ∧ ∃ s' O', RowIs τ i u k s' O' (S ++ [⟨a, b⟩]) ∧ RowToS τ1 τ i u k s s') ?_ ?_
          · intro X x1 x2 x3
            cases hwt' : wt
            · simp -implicitDefEqProofs only [go_sem, Nat.reduceBEq, Nat.reduceAdd, eq_self, true_and, and_true, and_self, List.getElem?_cons_zero, List.getElem?_cons_succ, Nat.reduceLeDiff, Nat.zero_add, Nat.reduceSub, Nat.le_refl, Nat.lt_irrefl]
              refine x1 _ _ _ (.inr ?_) ⟨rfl, s1, O1, ⟨hm.cells, hm.row, hm.und, hm.has, h.ne, hfine, hord hwt'⟩, hm.to⟩
              simp -implicitDefEqProofs only [go_sem, Nat.reduceBEq, Nat.reduceAdd, eq_self, true_and, and_true, and_self, List.getElem?_cons_zero, List.getElem?_cons_succ, Nat.reduceLeDiff, Nat.zero_add, Nat.reduceSub, Nat.le_refl, Nat.lt_irrefl]
            · have hcl := hm.cells
              have hf1 : Fine O1 := ⟨hnd1, fun t ht => hfine.up t ((hmem t).1 ht), fun t ht => hfine.nz t ((hmem t).1 ht)⟩
              simp -implicitDefEqProofs only [go_sem, Nat.reduceBEq, Nat.reduceAdd, eq_self, true_and, and_true, and_self, List.getElem?_cons_zero, List.getElem?_cons_succ, Nat.reduceLeDiff, Nat.zero_add, Nat.reduceSub, Nat.le_refl, hcl]
              refine call_at (sorted_ok hf1 (by omega) hm.row hne1) ?_
              rintro v τ7 ⟨out, hout, hr7, he7, hn7⟩
              refine ⟨kept_none, ?_⟩
              have hc7 := he7.objs _ _ hcl
              have hv : cellsOf v = some [v] := by rcases hr7 with ⟨R, q, rfl, -⟩ | ⟨j, cap, rfl, -⟩ <;> rfl
              have hil := (List.getElem?_eq_some_iff.1 hc7).1
              have hfin : ∃ s' O', RowIs (τ7.setC i [v, .map (some u), .map (some k)]) i u k s' O' (S ++ [⟨a, b⟩]) ∧ RowToS τ1 (τ7.setC i [v, .map (some u), .map (some k)]) i u k s s' := by
                have hu7 : UpdS (fun j => j = i) τ7 (τ7.setC i [v, .map (some u), .map (some k)]) := updS_setC
                obtain ⟨mu, vu, u1⟩ := (hm.und.up (P := fun _ => False) (.of he7) fun h => h).at
                obtain ⟨mh, vh, k1⟩ := (hm.has.up (P := fun _ => False) (.of he7) fun h => h).at
                have hui : u ≠ i := fun e => by rw [e, hc7] at u1; cases u1
                have hki : k ≠ i := fun e => by rw [e, hc7] at k1; cases k1
                refine ⟨v, out, ⟨setC_get hil, rowOf_up hr7 hu7 fun j n cap z e => ?_, (hm.und.up (P := fun _ => False) (.of he7) fun h => h).up hu7 hui, (hm.has.up (P := fun _ => False) (.of he7) fun h => h).up hu7 hki, h.ne, hfine, hout.congr hmem⟩, ⟨?_, ?_⟩⟩
                · rintro rfl
                  exact rowOf_ne hr7 hc7 _ _ _ e
                · exact ((hm.to.upd.trans (UpdS.of (S := fun _ => False) he7) fun _ h => h.elim).trans hu7 fun j hj => .inl (.inl hj))
                · rintro j (hj | hj | hj | ⟨n', cap', z, hj⟩)
                  · exact .inl (.inl hj)
                  · exact .inl (.inr (.inl hj))
                  · exact .inl (.inr (.inr (.inl hj)))
                  · exact .inr (Nat.le_trans hm.to.upd.olen (hn7 _ _ _ _ hj))
              rcases hr7 with ⟨R, q, rfl, -⟩ | ⟨j', cap', rfl, -⟩
              all_goals
                simp -implicitDefEqProofs only [go_sem, Nat.reduceBEq, Nat.reduceAdd, eq_self, true_and, and_true, and_self, List.getElem?_cons_zero, List.getElem?_cons_succ, Nat.reduceLeDiff, Nat.zero_add, Nat.reduceSub, Nat.le_refl, hc7, flats, V.flat]
                refine x1 _ _ _ (.inr ?_) ⟨rfl, hfin⟩
                simp -implicitDefEqProofs only [go_sem, Nat.reduceBEq, Nat.reduceAdd, eq_self, true_and, and_true, and_self, List.getElem?_cons_zero, List.getElem?_cons_succ, Nat.reduceLeDiff, Nat.zero_add, Nat.reduceSub, Nat.le_refl, Nat.lt_irrefl]
          rintro _ τ7 ⟨rfl, hfin⟩
          simp -implicitDefEqProofs only [go_sem, Nat.reduceBEq, Nat.reduceAdd, eq_self, true_and, and_true, and_self, List.getElem?_cons_zero, List.getElem?_cons_succ, Nat.reduceLeDiff, Nat.zero_add, Nat.reduceSub, Nat.le_refl, Nat.lt_irrefl]
          refine q2 _ _ ?_
          simp -implicitDefEqProofs only [go_sem, Nat.reduceBEq, Nat.reduceAdd, eq_self, true_and, and_true, and_self, List.getElem?_cons_zero, List.getElem?_cons_succ, Nat.reduceLeDiff, Nat.zero_add, Nat.reduceSub, Nat.le_refl, Nat.lt_irrefl]
          exact hfin
        · simp -implicitDefEqProofs only [go_sem, Nat.reduceBEq, Nat.reduceAdd, eq_self, true_and, and_true, and_self, List.getElem?_cons_zero, List.getElem?_cons_succ, Nat.reduceLeDiff, Nat.zero_add, Nat.reduceSub, Nat.le_refl, h31, hd]
          refine z2 _ _ _ ?_
          generalize hs0 : V.osl j' (slsV O).length cap 4 = s at *
          clear ho hc h31 h3 hs0
          have h3 := h.ext g2
          have h31 := h3.cells
          simp -implicitDefEqProofs only [go_sem, Nat.reduceBEq, Nat.reduceAdd, eq_self, true_and, and_true, and_self, List.getElem?_cons_zero, List.getElem?_cons_succ, Nat.reduceLeDiff, Nat.zero_add, Nat.reduceSub, Nat.le_refl, h31, slC, spC]
          have hlit : (⟨τ3.objs, τ3.live ++ [true]⟩ : St).live[τ3.live.length]? = some true := by simp
          have hrow : RowOf ⟨τ3.objs, τ3.live ++ [true]⟩ s 4 (slsV O) := h3.row
          refine call_at (ins_ok (x := slC ⟨a, b⟩) hrow (i := y) (by rw [slsV_length]; exact g1) (by rw [slsV_length]; omega) hlit rfl) ?_
          rintro v τ4 ⟨hr4, hto4, jj, cap, rfl, hjj⟩
          have hO1 : (slsV O).take y ++ slC ⟨a, b⟩ :: (slsV O).drop y = slsV (O.take y ++ ⟨a, b⟩ :: O.drop y) := by simp [slsV, List.map_take, List.map_drop]
          rw [hO1] at hr4
          obtain ⟨hci, hm⟩ := mid_ins h3 g2 hto4 hr4 hjj
          have hi3 := rowOf_ne h3.row h31
          refine ⟨fun L hL => by cases hL; exact ⟨fun q hq o ho => by rw [List.mem_singleton] at hq; subst hq; exact hto4.2.2 _ o (fun n cap z e => hi3 n cap z e) ho, fun r hr => by rw [hto4.1]; exact hr⟩, ?_⟩
          have hord : wt = false → Ord (S ++ [⟨a, b⟩]) (O.take y ++ ⟨a, b⟩ :: O.drop y) := fun hw => by
            refine add_ord (s := ⟨a, b⟩) hS h.ord hok hh (fun t ht e => ?_) hj g0 g1 (fun m hm' => g3 m hm') hst
            have : (S.any fun s => decide (s.u = a)) = true := List.any_eq_true.2 ⟨t, ht, by simp [e]⟩
            rw [hwt, hw] at this; cases this
          have hmem : ∀ t, t ∈ O.take y ++ ⟨a, b⟩ :: O.drop y ↔ t ∈ S ++ [⟨a, b⟩] := fun t => by
            rw [List.mem_append, List.mem_cons, List.mem_append, List.mem_singleton, ← h.ord.mem t]
            conv => rhs; rw [← List.take_append_drop y O, List.mem_append]
            constructor
            · rintro (h | h | h)
              · exact .inl (.inl h)
              · exact .inr h
              · exact .inl (.inr h)
            · rintro ((h | h) | h)
              · exact .inl h
              · exact .inr (.inr h)
              · exact .inr (.inl h)
          have hl1 : (O.take y ++ (⟨a, b⟩ : Sl) :: O.drop y).length = O.length + 1 := by simp only [List.length_append, List.length_cons, List.length_take, List.length_drop]; omega
          have hfine := fine_add hS hok hh
          have hnd1 : ((O.take y ++ (⟨a, b⟩ : Sl) :: O.drop y).map (·.a)).Nodup := by
            have hp : (O.take y ++ (⟨a, b⟩ : Sl) :: O.drop y).Perm (S ++ [⟨a, b⟩]) := by
              refine (List.perm_middle.trans ?_)
              rw [List.take_append_drop]
              refine (List.Perm.cons _ ?_).trans (List.perm_append_comm (l₁ := [(⟨a, b⟩ : Sl)]) (l₂ := S))
              exact (List.perm_ext_iff_of_nodup (h.ord.perm_len hS) hS.nodup).2 h.ord.mem
            exact (hp.map _).nodup_iff.2 hfine.nd
          have hne1 : O.take y ++ (⟨a, b⟩ : Sl) :: O.drop y ≠ [] := by simp
          simp -implicitDefEqProofs only [go_sem, Nat.reduceBEq, Nat.reduceAdd, eq_self, true_and, and_true, and_self, List.getElem?_cons_zero, List.getElem?_cons_succ, Nat.reduceLeDiff, Nat.zero_add, Nat.reduceSub, Nat.le_refl, hci, flats, V.flat]
          generalize O.take y ++ (⟨a, b⟩ : Sl) :: O.drop y = O1 at *
          generalize τ4.setC i [.osl jj ((slsV O).length + 1) cap 4, .map (some u), .map (some k)] = τ5 at *
          generalize V.osl jj ((slsV O).length + 1) cap 4 = s1 at *
          clear z1 z2 z3 hto4 hci g3 hst
          refine cut_at (fun G τ => G = ⟨[(0, .v (.ptr (some (i, 0)))), (5, .loc 5 0), (8, .v (.bool wt))], [(5, spC b)]⟩ ∧ Mid τ1 τ i u k s s1 O1 (cntU S) (cntH (S ++ [⟨a, b⟩]))) ?_ ?_
          · intro X x1 x2 x3
            have hcl := hm.cells
            obtain ⟨es5, ver5, h5, hf5⟩ := hm.has.find
            have hfx5 := hf5 a
            have hk5 : keyFits KL (.agg [.int .i64 a.c, .int .i64 a.r]) = true := rfl
            have hc5 : cntH S a ≤ 1000 := by unfold cntH; cases hasB S a <;> simp
            generalize hc : cntH S a = c at *
            have hwc : IntKind.i64.wrap ((c : Int) + 1) = ((c + 1 : Nat) : Int) := by rw [i64_in _ (by omega)]; omega
            have hks := key_self a
            have hfa := find_addE' (z := .int .i64 0) (es := es5) hks
            rw [hfx5] at hfa
            have hua := upd_addE (z := .int .i64 0) (v := .int .i64 ((c + 1 : Nat) : Int)) (es := es5) hks
            have hmq : ∀ n : Nat, (τ5.setA k (.mq KL (Go.VL.addE (.agg [.int .i64 a.c, .int .i64 a.r]) (.int .i64 0) es5) (ver5 + 1) n (.agg [.int .i64 a.c, .int .i64 a.r]))).objs[k]? = some _ := fun n => setA_at h5
            have next : ∀ (F : Fr) (n : Nat), FrLe ⟨[(0, .v (.ptr (some (i, 0)))), (5, .loc 5 0), (8, .v (.bool wt))], [(5, spC b)]⟩ F →
                X .normal F ((τ5.setA k (.mq KL (Go.VL.addE (.agg [.int .i64 a.c, .int .i64 a.r]) (.int .i64 0) es5) (ver5 + 1) n (.agg [.int .i64 a.c, .int .i64 a.r]))).setM k KL (upd (.agg [.int .i64 a.c, .int .i64 a.r]) (.int .i64 ((c + 1 : Nat) : Int)) (Go.VL.addE (.agg [.int .i64 a.c, .int .i64 a.r]) (.int .i64 0) es5)) (ver5 + 1 + 1)) := by
              intro F n hF
              refine x1 _ _ _ hF ⟨rfl, hm.moreH h.ne updS_two ?_⟩
              refine CntIs.more (x := a) (f := cntH S) hm.has (fun y => by rw [cntH_snoc hh] <;> first | rfl | (by_cases hy : y = a <;> simp [hy])) h5 (ver' := ver5 + 1 + 1) ?_
              rw [hc]
              show ((τ5.setA _ _).setA _ (.mp _ _ _)).objs[_]? = _
              rw [set_two h5, hua]
            simp -implicitDefEqProofs only [go_sem, Nat.reduceBEq, Nat.reduceAdd, eq_self, true_and, and_true, and_self, List.getElem?_cons_zero, List.getElem?_cons_succ, Nat.reduceLeDiff, Nat.zero_add, Nat.reduceSub, Nat.le_refl, hcl, spC]
            refine ⟨?_, ?_⟩
            · cases hfo5 : find (.agg [.int .i64 a.c, .int .i64 a.r]) es5 with
              | none =>
                rw [hfo5] at hfx5
                have hc0 : c = 0 := by
                  simp only [Option.getD_none, V.int.injEq, true_and] at hfx5
                  omega
                have hw01 : IntKind.i64.wrap (0 + 1) = ((c + 1 : Nat) : Int) := by rw [hc0]; rfl
                simp -implicitDefEqProofs only [go_sem, Nat.reduceBEq, Nat.reduceAdd, eq_self, true_and, and_true, and_self, List.getElem?_cons_zero, List.getElem?_cons_succ, Nat.reduceLeDiff, Nat.zero_add, Nat.reduceSub, Nat.le_refl, h5, hfo5, hk5, spC]
                refine me_at h5 hk5 fun n => ?_
                simp -implicitDefEqProofs only [go_sem, Nat.reduceBEq, Nat.reduceAdd, eq_self, true_and, and_true, and_self, List.getElem?_cons_zero, List.getElem?_cons_succ, Nat.reduceLeDiff, Nat.zero_add, Nat.reduceSub, Nat.le_refl, hmq, hw01, spC]
                refine next _ _ (.inr ?_)
                simp -implicitDefEqProofs only [go_sem, Nat.reduceBEq, Nat.reduceAdd, eq_self, true_and, and_true, and_self, List.getElem?_cons_zero, List.getElem?_cons_succ, Nat.reduceLeDiff, Nat.zero_add, Nat.reduceSub, Nat.le_refl, spC]
                try exact rfl
              | some w =>
                rw [hfo5] at hfx5
                simp only [Option.getD_some] at hfx5
                subst hfx5
                simp -implicitDefEqProofs only [go_sem, Nat.reduceBEq, Nat.reduceAdd, eq_self, true_and, and_true, and_self, List.getElem?_cons_zero, List.getElem?_cons_succ, Nat.reduceLeDiff, Nat.zero_add, Nat.reduceSub, Nat.le_refl, h5, hfo5, hk5, spC]
                refine me_at h5 hk5 fun n => ?_
                simp -implicitDefEqProofs only [go_sem, Nat.reduceBEq, Nat.reduceAdd, eq_self, true_and, and_true, and_self, List.getElem?_cons_zero, List.getElem?_cons_succ, Nat.reduceLeDiff, Nat.zero_add, Nat.reduceSub, Nat.le_refl, hmq, hwc, spC]
                refine next _ _ (.inr ?_)
                simp -implicitDefEqProofs only [go_sem, Nat.reduceBEq, Nat.reduceAdd, eq_self, true_and, and_true, and_self, List.getElem?_cons_zero, List.getElem?_cons_succ, Nat.reduceLeDiff, Nat.zero_add, Nat.reduceSub, Nat.le_refl, spC]
                try exact rfl
            · refine me_at h5 hk5 fun n => ?_
              simp -implicitDefEqProofs only [go_sem, Nat.reduceBEq, Nat.reduceAdd, eq_self, true_and, and_true, and_self, List.getElem?_cons_zero, List.getElem?_cons_succ, Nat.reduceLeDiff, Nat.zero_add, Nat.reduceSub, Nat.le_refl, hmq, hfa, hk5, hwc, spC]
              refine next _ _ (.inr ?_)
              simp -implicitDefEqProofs only [go_sem, Nat.reduceBEq, Nat.reduceAdd, eq_self, true_and, and_true, and_self, List.getElem?_cons_zero, List.getElem?_cons_succ, Nat.reduceLeDiff, Nat.zero_add, Nat.reduceSub, Nat.le_refl, spC]
              try exact rfl
          clear hm
          clear τ5
          rintro _ τ5 ⟨rfl, hm⟩
          refine cut_at (fun G τ => G = ⟨[(0, .v (.ptr (some (i, 0)))), (8, .v (.bool wt))], []⟩ ∧ Mid τ1 τ i u k s s1 O1 (cntU (S ++ [⟨a, b⟩])) (cntH (S ++ [⟨a, b⟩]))) ?_ ?_
          · intro X x1 x2 x3
            have hcl := hm.cells
            obtain ⟨es5, ver5, h5, hf5⟩ := hm.und.find
            have hfx5 := hf5 b
            have hk5 : keyFits KL (.agg [.int .i64 b.c, .int .i64 b.r]) = true := rfl
            have hc5 : cntU S b ≤ 1000 := Nat.le_trans (List.length_filter_le _ _) (by omega)
            generalize hc : cntU S b = c at *
            have hwc : IntKind.i64.wrap ((c : Int) + 1) = ((c + 1 : Nat) : Int) := by rw [i64_in _ (by omega)]; omega
            have hks := key_self b
            have hfa := find_addE' (z := .int .i64 0) (es := es5) hks
            rw [hfx5] at hfa
            have hua := upd_addE (z := .int .i64 0) (v := .int .i64 ((c + 1 : Nat) : Int)) (es := es5) hks
            have hmq : ∀ n : Nat, (τ5.setA u (.mq KL (Go.VL.addE (.agg [.int .i64 b.c, .int .i64 b.r]) (.int .i64 0) es5) (ver5 + 1) n (.agg [.int .i64 b.c, .int .i64 b.r]))).objs[u]? = some _ := fun n => setA_at h5
            have next : ∀ (F : Fr) (n : Nat), FrLe ⟨[(0, .v (.ptr (some (i, 0)))), (8, .v (.bool wt))], []⟩ F →
                X .normal F ((τ5.setA u (.mq KL (Go.VL.addE (.agg [.int .i64 b.c, .int .i64 b.r]) (.int .i64 0) es5) (ver5 + 1) n (.agg [.int .i64 b.c, .int .i64 b.r]))).setM u KL (upd (.agg [.int .i64 b.c, .int .i64 b.r]) (.int .i64 ((c + 1 : Nat) : Int)) (Go.VL.addE (.agg [.int .i64 b.c, .int .i64 b.r]) (.int .i64 0) es5)) (ver5 + 1 + 1)) := by
              intro F n hF
              refine x1 _ _ _ hF ⟨rfl, hm.moreU h.ne updS_two ?_⟩
              refine CntIs.more (x := b) (f := cntU S) hm.und (fun y => by rw [cntU_snoc] <;> first | rfl | (by_cases hy : y = b <;> simp [hy])) h5 (ver' := ver5 + 1 + 1) ?_
              rw [hc]
              show ((τ5.setA _ _).setA _ (.mp _ _ _)).objs[_]? = _
              rw [set_two h5, hua]
            simp -implicitDefEqProofs only [go_sem, Nat.reduceBEq, Nat.reduceAdd, eq_self, true_and, and_true, and_self, List.getElem?_cons_zero, List.getElem?_cons_succ, Nat.reduceLeDiff, Nat.zero_add, Nat.reduceSub, Nat.le_refl, hcl, spC]
            refine ⟨?_, ?_⟩
            · cases hfo5 : find (.agg [.int .i64 b.c, .int .i64 b.r]) es5 with
              | none =>
                rw [hfo5] at hfx5
                have hc0 : c = 0 := by
                  simp only [Option.getD_none, V.int.injEq, true_and] at hfx5
                  omega
                have hw01 : IntKind.i64.wrap (0 + 1) = ((c + 1 : Nat) : Int) := by rw [hc0]; rfl
                simp -implicitDefEqProofs only [go_sem, Nat.reduceBEq, Nat.reduceAdd, eq_self, true_and, and_true, and_self, List.getElem?_cons_zero, List.getElem?_cons_succ, Nat.reduceLeDiff, Nat.zero_add, Nat.reduceSub, Nat.le_refl, h5, hfo5, hk5, spC]
                refine me_at h5 hk5 fun n => ?_
                simp -implicitDefEqProofs only [go_sem, Nat.reduceBEq, Nat.reduceAdd, eq_self, true_and, and_true, and_self, List.getElem?_cons_zero, List.getElem?_cons_succ, Nat.reduceLeDiff, Nat.zero_add, Nat.reduceSub, Nat.le_refl, hmq, hw01, spC]
                refine next _ _ (.inr ?_)
                simp -implicitDefEqProofs only [go_sem, Nat.reduceBEq, Nat.reduceAdd, eq_self, true_and, and_true, and_self, List.getElem?_cons_zero, List.getElem?_cons_succ, Nat.reduceLeDiff, Nat.zero_add, Nat.reduceSub, Nat.le_refl, spC]
                try exact rfl
              | some w =>
                rw [hfo5] at hfx5
                simp only [Option.getD_some] at hfx5
                subst hfx5
                simp -implicitDefEqProofs only [go_sem, Nat.reduceBEq, Nat.reduceAdd, eq_self, true_and, and_true, and_self, List.getElem?_cons_zero, List.getElem?_cons_succ, Nat.reduceLeDiff, Nat.zero_add, Nat.reduceSub, Nat.le_refl, h5, hfo5, hk5, spC]
                refine me_at h5 hk5 fun n => ?_
                simp -implicitDefEqProofs only [go_sem, Nat.reduceBEq, Nat.reduceAdd, eq_self, true_and, and_true, and_self, List.getElem?_cons_zero, List.getElem?_cons_succ, Nat.reduceLeDiff, Nat.zero_add, Nat.reduceSub, Nat.le_refl, hmq, hwc, spC]
                refine next _ _ (.inr ?_)
                simp -implicitDefEqProofs only [go_sem, Nat.reduceBEq, Nat.reduceAdd, eq_self, true_and, and_true, and_self, List.getElem?_cons_zero, List.getElem?_cons_succ, Nat.reduceLeDiff, Nat.zero_add, Nat.reduceSub, Nat.le_refl, spC]
                try exact rfl
            · refine me_at h5 hk5 fun n => ?_
              simp -implicitDefEqProofs only [go_sem, Nat.reduceBEq, Nat.reduceAdd, eq_self, true_and, and_true, and_self, List.getElem?_cons_zero, List.getElem?_cons_succ, Nat.reduceLeDiff, Nat.zero_add, Nat.reduceSub, Nat.le_refl, hmq, hfa, hk5, hwc, spC]
              refine next _ _ (.inr ?_)
              simp -implicitDefEqProofs only [go_sem, Nat.reduceBEq, Nat.reduceAdd, eq_self, true_and, and_true, and_self, List.getElem?_cons_zero, List.getElem?_cons_succ, Nat.reduceLeDiff, Nat.zero_add, Nat.reduceSub, Nat.le_refl, spC]
              try exact rfl
          rintro _ τ6 ⟨rfl, hm⟩
          refine cut_at (fun G τ => G = ⟨[], []⟩ ∧ ∃ s' O', RowIs τ i u k s' O' (S ++ [⟨a, b⟩]) ∧ RowToS τ1 τ i u k s s') ?_ ?_
          · intro X x1 x2 x3
            cases hwt' : wt
            · simp -implicitDefEqProofs only [go_sem, Nat.reduceBEq, Nat.reduceAdd, eq_self, true_and, and_true, and_self, List.getElem?_cons_zero, List.getElem?_cons_succ, Nat.reduceLeDiff, Nat.zero_add, Nat.reduceSub, Nat.le_refl, Nat.lt_irrefl]
              refine x1 _ _ _ (.inr ?_) ⟨rfl, s1, O1, ⟨hm.cells, hm.row, hm.und, hm.has, h.ne, hfine, hord hwt'⟩, hm.to⟩
              simp -implicitDefEqProofs only [go_sem, Nat.reduceBEq, Nat.reduceAdd, eq_self, true_and, and_true, and_self, List.getElem?_cons_zero, List.getElem?_cons_succ, Nat.reduceLeDiff, Nat.zero_add, Nat.reduceSub, Nat.le_refl, Nat.lt_irrefl]
            · have hcl := hm.cells
              have hf1 : Fine O1 := ⟨hnd1, fun t ht => hfine.up t ((hmem t).1 ht), fun t ht => hfine.nz t ((hmem t).1 ht)⟩
              simp -implicitDefEqProofs only [go_sem, Nat.reduceBEq, Nat.reduceAdd, eq_self, true_and, and_true, and_self, List.getElem?_cons_zero, List.getElem?_cons_succ, Nat.reduceLeDiff, Nat.zero_add, Nat.reduceSub, Nat.le_refl, hcl]
              refine call_at (sorted_ok hf1 (by omega) hm.row hne1) ?_
              rintro v τ7 ⟨out, hout, hr7, he7, hn7⟩
              refine ⟨kept_none, ?_⟩
              have hc7 := he7.objs _ _ hcl
              have hv : cellsOf v = some [v] := by rcases hr7 with ⟨R, q, rfl, -⟩ | ⟨j, cap, rfl, -⟩ <;> rfl
              have hil := (List.getElem?_eq_some_iff.1 hc7).1
              have hfin : ∃ s' O', RowIs (τ7.setC i [v, .map (some u), .map (some k)]) i u k s' O' (S ++ [⟨a, b⟩]) ∧ RowToS τ1 (τ7.setC i [v, .map (some u), .map (some k)]) i u k s s' := by
                have hu7 : UpdS (fun j => j = i) τ7 (τ7.setC i [v, .map (some u), .map (some k)]) := updS_setC
                obtain ⟨mu, vu, u1⟩ := (hm.und.up (P := fun _ => False) (.of he7) fun h => h).at
                obtain ⟨mh, vh, k1⟩ := (hm.has.up (P := fun _ => False) (.of he7) fun h => h).at
                have hui : u ≠ i := fun e => by rw [e, hc7] at u1; cases u1
                have hki : k ≠ i := fun e => by rw [e, hc7] at k1; cases k1
                refine ⟨v, out, ⟨setC_get hil, rowOf_up hr7 hu7 fun j n cap z e => ?_, (hm.und.up (P := fun _ => False) (.of he7) fun h => h).up hu7 hui, (hm.has.up (P := fun _ => False) (.of he7) fun h => h).up hu7 hki, h.ne, hfine, hout.congr hmem⟩, ⟨?_, ?_⟩⟩
                · rintro rfl
                  exact rowOf_ne hr7 hc7 _ _ _ e
                · exact ((hm.to.upd.trans (UpdS.of (S := fun _ => False) he7) fun _ h => h.elim).trans hu7 fun j hj => .inl (.inl hj))
                · rintro j (hj | hj | hj | ⟨n', cap', z, hj⟩)
                  · exact .inl (.inl hj)
                  · exact .inl (.inr (.inl hj))
                  · exact .inl (.inr (.inr (.inl hj)))
                  · exact .inr (Nat.le_trans hm.to.upd.olen (hn7 _ _ _ _ hj))
              rcases hr7 with ⟨R, q, rfl, -⟩ | ⟨j', cap', rfl, -⟩
              all_goals
                simp -implicitDefEqProofs only [go_sem, Nat.reduceBEq, Nat.reduceAdd, eq_self, true_and, and_true, and_self, List.getElem?_cons_zero, List.getElem?_cons_succ, Nat.reduceLeDiff, Nat.zero_add, Nat.reduceSub, Nat.le_refl, hc7, flats, V.flat]
                refine x1 _ _ _ (.inr ?_) ⟨rfl, hfin⟩
                simp -implicitDefEqProofs only [go_sem, Nat.reduceBEq, Nat.reduceAdd, eq_self, true_and, and_true, and_self, List.getElem?_cons_zero, List.getElem?_cons_succ, Nat.reduceLeDiff, Nat.zero_add, Nat.reduceSub, Nat.le_refl, Nat.lt_irrefl]
          rintro _ τ7 ⟨rfl, hfin⟩
          simp -implicitDefEqProofs only [go_sem, Nat.reduceBEq, Nat.reduceAdd, eq_self, true_and, and_true, and_self, List.getElem?_cons_zero, List.getElem?_cons_succ, Nat.reduceLeDiff, Nat.zero_add, Nat.reduceSub, Nat.le_refl, Nat.lt_irrefl]
          refine q2 _ _ ?_
          simp -implicitDefEqProofs only [go_sem, Nat.reduceBEq, Nat.reduceAdd, eq_self, true_and, and_true, and_self, List.getElem?_cons_zero, List.getElem?_cons_succ, Nat.reduceLeDiff, Nat.zero_add, Nat.reduceSub, Nat.le_refl, Nat.lt_irrefl]
          exact hfin
  · simp -implicitDefEqProofs only [go_sem, Nat.reduceBEq, Nat.reduceAdd, eq_self, true_and, and_true, and_self, List.getElem?_cons_zero, List.getElem?_cons_succ, Nat.reduceLeDiff, Nat.zero_add, Nat.reduceSub, Nat.le_refl, h1, h2, hfo, hka, h0]
    refine cut_at (fun G τ2 => Ext τ1 τ2 ∧ ∃ j : Nat, ((hasB S b = false ∧ j = 0) ∨ ∃ (p : Nat) (hp : p < O.length), O[p].a = b ∧ j = p + 1) ∧ G = ⟨[(0, .v (.ptr (some (i, 0)))), (4, .loc 4 0), (5, .loc 5 0), (7, .loc 7 0), (8, .v (.bool wt)), (9, .v (.int .i64 j))], [(4, spC a), (5, spC b), (7, slC ⟨a, b⟩)]⟩) ?_ ?_
    · intro Z z1 z2 z3
      simp -implicitDefEqProofs only [go_sem, Nat.reduceBEq, Nat.reduceAdd, eq_self, true_and, and_true, and_self, List.getElem?_cons_zero, List.getElem?_cons_succ, Nat.reduceLeDiff, Nat.zero_add, Nat.reduceSub, Nat.le_refl, Nat.lt_irrefl]
      refine call_at (has_ok (x := b) h) ?_
      rintro v τ2 ⟨rfl, rfl⟩
      refine ⟨kept_none, ?_⟩
      cases hb : hasB S b
      · simp -implicitDefEqProofs only [go_sem, Nat.reduceBEq, Nat.reduceAdd, eq_self, true_and, and_true, and_self, List.getElem?_cons_zero, List.getElem?_cons_succ, Nat.reduceLeDiff, Nat.zero_add, Nat.reduceSub, Nat.le_refl, hb]
        refine z1 _ _ _ (.inr ?_) ⟨.refl _, 0, .inl ⟨hb, rfl⟩, rfl⟩
        simp -implicitDefEqProofs only [go_sem, Nat.reduceBEq, Nat.reduceAdd, eq_self, true_and, and_true, and_self, List.getElem?_cons_zero, List.getElem?_cons_succ, Nat.reduceLeDiff, Nat.zero_add, Nat.reduceSub, Nat.le_refl, spC, slC]
        rfl
      · simp -implicitDefEqProofs only [go_sem, Nat.reduceBEq, Nat.reduceAdd, eq_self, true_and, and_true, and_self, List.getElem?_cons_zero, List.getElem?_cons_succ, Nat.reduceLeDiff, Nat.zero_add, Nat.reduceSub, Nat.le_refl, hb]
        refine call_at (place_ok (x := b) h (by omega)) ?_
        rintro v τ3 ⟨hat, he3, hl3⟩
        refine ⟨kept_none, ?_⟩
        rcases hat with ⟨hn, -⟩ | ⟨p, hp, hpe, -, rfl⟩
        · exact absurd (by rw [hasB_ord h.ord, decide_eq_true_eq] at hb; exact hb) hn
        have hp' : p < O.length := by simpa [stampsL] using hp
        simp -implicitDefEqProofs only [go_sem, Nat.reduceBEq, Nat.reduceAdd, eq_self, true_and, and_true, and_self, List.getElem?_cons_zero, List.getElem?_cons_succ, Nat.reduceLeDiff, Nat.zero_add, Nat.reduceSub, Nat.le_refl, hwI p (by omega)]
        refine z1 _ _ _ (.inr ?_) ⟨he3, p + 1, .inr ⟨p, hp', by simpa [stampsL] using hpe, rfl⟩, rfl⟩
        simp -implicitDefEqProofs only [go_sem, Nat.reduceBEq, Nat.reduceAdd, eq_self, true_and, and_true, and_self, List.getElem?_cons_zero, List.getElem?_cons_succ, Nat.reduceLeDiff, Nat.zero_add, Nat.reduceSub, Nat.le_refl, spC, slC]
        try trivial
    · rintro G τ2 ⟨he, j, hj, rfl⟩
      have hjl : j ≤ O.length := by rcases hj with ⟨-, rfl⟩ | ⟨p, hp, -, rfl⟩ <;> omega
      simp -implicitDefEqProofs only [go_sem, Nat.reduceBEq, Nat.reduceAdd, eq_self, true_and, and_true, and_self, List.getElem?_cons_zero, List.getElem?_cons_succ, Nat.reduceLeDiff, Nat.zero_add, Nat.reduceSub, Nat.le_refl, Nat.lt_irrefl]
      refine loop_at (fun (y : Nat) => ⟨[(0, .v (.ptr (some (i, 0)))), (4, .loc 4 0), (5, .loc 5 0), (7, .loc 7 0), (8, .v (.bool wt)), (9, .v (.int .i64 y))], [(4, spC a), (5, spC b), (7, slC ⟨a, b⟩)]⟩)
        (fun y τ => j ≤ y ∧ y ≤ O.length ∧ Ext τ1 τ ∧ ∀ (m : Nat) (hm : m < O.length), j ≤ m → m < y → less a O[m].a = true) (fun y => O.length - y) j ?_ ?_ ?_
      · refine .inr ?_
        simp -implicitDefEqProofs only [go_sem, Nat.reduceBEq, Nat.reduceAdd, eq_self, true_and, and_true, and_self, List.getElem?_cons_zero, List.getElem?_cons_succ, Nat.reduceLeDiff, Nat.zero_add, Nat.reduceSub, Nat.le_refl, Nat.lt_irrefl]
        try trivial
      · exact ⟨Nat.le_refl _, hjl, he, fun m hm h1 h2 => by omega⟩
      rintro y τ3 ⟨g0, g1, g2, g3⟩ Z z1 z2 z3
      have h3 := h.ext g2
      have h31 := h3.cells
      have hlm : (slsV O).length = O.length := slsV_length O
      have hcase : (∃ h : y < O.length, less a O[y].a = true) ∨ (∃ h : y < O.length, less a O[y].a = false) ∨ ¬ y < O.length := by
        by_cases hyl : y < O.length
        · cases h : less a O[y].a
          · exact .inr (.inl ⟨hyl, h⟩)
          · exact .inl ⟨hyl, h⟩
        · exact .inr (.inr hyl)
      rcases hcase with ⟨hi, hls⟩ | ⟨hi, hls⟩ | hyl
      · have hd : decide ((y : Int) < (slsV O).length) = true := by rw [hlm]; simp; omega
        have hget := row_drop0 hi
        have hb : (y : Int) < (slsV O).length := by rw [hlm]; omega
        have hw : IntKind.i64.wrap ((y : Int) + 1) = ((y + 1 : Nat) : Int) := hwI y (by omega)
        rcases id h3.row with ⟨R, q, rfl, he'⟩ | ⟨j', cap, rfl, ho, -, hc⟩
        · have hD : O = [] := by simpa [slsV] using he'
          exact absurd hi (by rw [hD]; simp)
        have g3' : ∀ (m : Nat) (hm : m < O.length), j ≤ m → m < y + 1 → less a O[m].a = true := fun m hm k1 k2 => by
          rcases Nat.lt_or_ge m y with h | h
          · exact g3 m hm k1 h
          · have : m = y := by omega
            subst this; exact hls
        generalize O[y] = d at *
        simp -implicitDefEqProofs only [go_sem, Nat.reduceBEq, Nat.reduceAdd, eq_self, true_and, and_true, and_self, List.getElem?_cons_zero, List.getElem?_cons_succ, Nat.reduceLeDiff, Nat.zero_add, Nat.reduceSub, Nat.le_refl, h31, hd, ho, hget, Int.toNat_natCast, Nat.add_zero, slC, spC]
        refine ⟨⟨by omega, hb⟩, ?_⟩
        refine call_at (less_ok (a := a) (b := d.a)) ?_
        rintro v τ' ⟨rfl, rfl⟩
        refine ⟨(Ext.refl _).kept, ?_⟩
        simp -implicitDefEqProofs only [go_sem, Nat.reduceBEq, Nat.reduceAdd, eq_self, true_and, and_true, and_self, List.getElem?_cons_zero, List.getElem?_cons_succ, Nat.reduceLeDiff, Nat.zero_add, Nat.reduceSub, Nat.le_refl, hls, hw]
        refine z1 (y + 1) _ _ (.inr ?_) (by omega) ⟨by omega, by omega, g2, g3'⟩
        simp -implicitDefEqProofs only [go_sem, Nat.reduceBEq, Nat.reduceAdd, eq_self, true_and, and_true, and_self, List.getElem?_cons_zero, List.getElem?_cons_succ, Nat.reduceLeDiff, Nat.zero_add, Nat.reduceSub, Nat.le_refl, Nat.lt_irrefl]
        exact ⟨rfl, rfl, rfl⟩
      · have hd : decide ((y : Int) < (slsV O).length) = true := by rw [hlm]; simp; omega
        have hget := row_drop0 hi
        have hb : (y : Int) < (slsV O).length := by rw [hlm]; omega
        have hst : ∀ h : y < O.length, less a O[y].a = false := fun _ => hls
        rcases id h3.row with ⟨R, q, rfl, he'⟩ | ⟨j', cap, rfl, ho, -, hc⟩
        · have hD : O = [] := by simpa [slsV] using he'
          exact absurd hi (by rw [hD]; simp)
        generalize hd' : O[y] = d at hls hget
        simp -implicitDefEqProofs only [go_sem, Nat.reduceBEq, Nat.reduceAdd, eq_self, true_and, and_true, and_self, List.getElem?_cons_zero, List.getElem?_cons_succ, Nat.reduceLeDiff, Nat.zero_add, Nat.reduceSub, Nat.le_refl, h31, hd, ho, hget, Int.toNat_natCast, Nat.add_zero, slC, spC]
        refine ⟨⟨by omega, hb⟩, ?_⟩
        refine call_at (less_ok (a := a) (b := d.a)) ?_
        rintro v τ' ⟨hτ', rfl⟩
        have hτ' := hτ'.symm
        subst hτ'
        refine ⟨(Ext.refl _).kept, ?_⟩
        simp -implicitDefEqProofs only [go_sem, Nat.reduceBEq, Nat.reduceAdd, eq_self, true_and, and_true, and_self, List.getElem?_cons_zero, List.getElem?_cons_succ, Nat.reduceLeDiff, Nat.zero_add, Nat.reduceSub, Nat.le_refl, hls]
        refine z2 _ _ _ ?_
        generalize hs0 : V.osl j' (slsV O).length cap 4 = s at *
        clear ho hc hb hget h31 h3 hd' hls hs0
        have h3 := h.ext g2
        have h31 := h3.cells
        simp -implicitDefEqProofs only [go_sem, Nat.reduceBEq, Nat.reduceAdd, eq_self, true_and, and_true, and_self, List.getElem?_cons_zero, List.getElem?_cons_succ, Nat.reduceLeDiff, Nat.zero_add, Nat.reduceSub, Nat.le_refl, h31, slC, spC]
        have hlit : (⟨τ3.objs, τ3.live ++ [true]⟩ : St).live[τ3.live.length]? = some true := by simp
        have hrow : RowOf ⟨τ3.objs, τ3.live ++ [true]⟩ s 4 (slsV O) := h3.row
        refine call_at (ins_ok (x := slC ⟨a, b⟩) hrow (i := y) (by rw [slsV_length]; exact g1) (by rw [slsV_length]; omega) hlit rfl) ?_
        rintro v τ4 ⟨hr4, hto4, jj, cap, rfl, hjj⟩
        have hO1 : (slsV O).take y ++ slC ⟨a, b⟩ :: (slsV O).drop y = slsV (O.take y ++ ⟨a, b⟩ :: O.drop y) := by simp [slsV, List.map_take, List.map_drop]
        rw [hO1] at hr4
        obtain ⟨hci, hm⟩ := mid_ins h3 g2 hto4 hr4 hjj
        have hi3 := rowOf_ne h3.row h31
        refine ⟨fun L hL => by cases hL; exact ⟨fun q hq o ho => by rw [List.mem_singleton] at hq; subst hq; exact hto4.2.2 _ o (fun n cap z e => hi3 n cap z e) ho, fun r hr => by rw [hto4.1]; exact hr⟩, ?_⟩
        have hord : wt = false → Ord (S ++ [⟨a, b⟩]) (O.take y ++ ⟨a, b⟩ :: O.drop y) := fun hw => by
          refine add_ord (s := ⟨a, b⟩) hS h.ord hok hh (fun t ht e => ?_) hj g0 g1 (fun m hm' => g3 m hm') hst
          have : (S.any fun s => decide (s.u = a)) = true := List.any_eq_true.2 ⟨t, ht, by simp [e]⟩
          rw [hwt, hw] at this; cases this
        have hmem : ∀ t, t ∈ O.take y ++ ⟨a, b⟩ :: O.drop y ↔ t ∈ S ++ [⟨a, b⟩] := fun t => by
          rw [List.mem_append, List.mem_cons, List.mem_append, List.mem_singleton, ← h.ord.mem t]
          conv => rhs; rw [← List.take_append_drop y O, List.mem_append]
          constructor
          · rintro (h | h | h)
            · exact .inl (.inl h)
            · exact .inr h
            · exact .inl (.inr h)
          · rintro ((h | h) | h)
            · exact .inl h
            · exact .inr (.inr h)
            · exact .inr (.inl h)
        have hl1 : (O.take y ++ (⟨a, b⟩ : Sl) :: O.drop y).length = O.length + 1 := by simp only [List.length_append, List.length_cons, List.length_take, List.length_drop]; omega
        have hfine := fine_add hS hok hh
        have hnd1 : ((O.take y ++ (⟨a, b⟩ : Sl) :: O.drop y).map (·.a)).Nodup := by
          have hp : (O.take y ++ (⟨a, b⟩ : Sl) :: O.drop y).Perm (S ++ [⟨a, b⟩]) := by
            refine (List.perm_middle.trans ?_)
            rw [List.take_append_drop]
            refine (List.Perm.cons _ ?_).trans (List.perm_append_comm (l₁ := [(⟨a, b⟩ : Sl)]) (l₂ := S))
            exact (List.perm_ext_iff_of_nodup (h.ord.perm_len hS) hS.nodup).2 h.ord.mem
          exact (hp.map _).nodup_iff.2 hfine.nd
        have hne1 : O.take y ++ (⟨a, b⟩ : Sl) :: O.drop y ≠ [] := by simp
        simp -implicitDefEqProofs only [go_sem, Nat.reduceBEq, Nat.reduceAdd, eq_self, true_and, and_true, and_self, List.getElem?_cons_zero, List.getElem?_cons_succ, Nat.reduceLeDiff, Nat.zero_add, Nat.reduceSub, Nat.le_refl, hci, flats, V.flat]
        generalize O.take y ++ (⟨a, b⟩ : Sl) :: O.drop y = O1 at *
        generalize τ4.setC i [.osl jj ((slsV O).length + 1) cap 4, .map (some u), .map (some k)] = τ5 at *
        generalize V.osl jj ((slsV O).length + 1) cap 4 = s1 at *
        clear z1 z2 z3 hto4 hci g3 hst
        refine cut_at (fun G τ => G = ⟨[(0, .v (.ptr (some (i, 0)))), (5, .loc 5 0), (8, .v (.bool wt))], [(5, spC b)]⟩ ∧ Mid τ1 τ i u k s s1 O1 (cntU S) (cntH (S ++ [⟨a, b⟩]))) ?_ ?_
        · intro X x1 x2 x3
          have hcl := hm.cells
          obtain ⟨es5, ver5, h5, hf5⟩ := hm.has.find
          have hfx5 := hf5 a
          have hk5 : keyFits KL (.agg [.int .i64 a.c, .int .i64 a.r]) = true := rfl
          have hc5 : cntH S a ≤ 1000 := by unfold cntH; cases hasB S a <;> simp
          generalize hc : cntH S a = c at *
          have hwc : IntKind.i64.wrap ((c : Int) + 1) = ((c + 1 : Nat) : Int) := by rw [i64_in _ (by omega)]; omega
          have hks := key_self a
          have hfa := find_addE' (z := .int .i64 0) (es := es5) hks
          rw [hfx5] at hfa
          have hua := upd_addE (z := .int .i64 0) (v := .int .i64 ((c + 1 : Nat) : Int)) (es := es5) hks
          have hmq : ∀ n : Nat, (τ5.setA k (.mq KL (Go.VL.addE (.agg [.int .i64 a.c, .int .i64 a.r]) (.int .i64 0) es5) (ver5 + 1) n (.agg [.int .i64 a.c, .int .i64 a.r]))).objs[k]? = some _ := fun n => setA_at h5
          have next : ∀ (F : Fr) (n : Nat), FrLe ⟨[(0, .v (.ptr (some (i, 0)))), (5, .loc 5 0), (8, .v (.bool wt))], [(5, spC b)]⟩ F →
              X .normal F ((τ5.setA k (.mq KL (Go.VL.addE (.agg [.int .i64 a.c, .int .i64 a.r]) (.int .i64 0) es5) (ver5 + 1) n (.agg [.int .i64 a.c, .int .i64 a.r]))).setM k KL (upd (.agg [.int .i64 a.c, .int .i64 a.r]) (.int .i64 ((c + 1 : Nat) : Int)) (Go.VL.addE (.agg [.int .i64 a.c, .int .i64 a.r]) (.int .i64 0) es5)) (ver5 + 1 + 1)) := by
            intro F n hF
            refine x1 _ _ _ hF ⟨rfl, hm.moreH h.ne updS_two ?_⟩
            refine CntIs.more (x := a) (f := cntH S) hm.has (fun y => by rw [cntH_snoc hh] <;> first | rfl | (by_cases hy : y = a <;> simp [hy])) h5 (ver' := ver5 + 1 + 1) ?_
            rw [hc]
            show ((τ5.setA _ _).setA _ (.mp _ _ _)).objs[_]? = _
            rw [set_two h5, hua]
          simp -implicitDefEqProofs only [go_sem, Nat.reduceBEq, Nat.reduceAdd, eq_self, true_and, and_true, and_self, List.getElem?_cons_zero, List.getElem?_cons_succ, Nat.reduceLeDiff, Nat.zero_add, Nat.reduceSub, Nat.le_refl, hcl, spC]
          refine ⟨?_, ?_⟩
          · cases hfo5 : find (.agg [.int .i64 a.c, .int .i64 a.r]) es5 with
            | none =>
              rw [hfo5] at hfx5
              have hc0 : c = 0 := by
                simp only [Option.getD_none, V.int.injEq, true_and] at hfx5
                omega
              have hw01 : IntKind.i64.wrap (0 + 1) = ((c + 1 : Nat) : Int) := by rw [hc0]; rfl
              simp -implicitDefEqProofs only [go_sem, Nat.reduceBEq, Nat.reduceAdd, eq_self, true_and, and_true, and_self, List.getElem?_cons_zero, List.getElem?_cons_succ, Nat.reduceLeDiff, Nat.zero_add, Nat.reduceSub, Nat.le_refl, h5, hfo5, hk5, spC]
              refine me_at h5 hk5 fun n => ?_
              simp -implicitDefEqProofs only [go_sem, Nat.reduceBEq, Nat.reduceAdd, eq_self, true_and, and_true, and_self, List.getElem?_cons_zero, List.getElem?_cons_succ, Nat.reduceLeDiff, Nat.zero_add, Nat.reduceSub, Nat.le_refl, hmq, hw01, spC]
              refine next _ _ (.inr ?_)
              simp -implicitDefEqProofs only [go_sem, Nat.reduceBEq, Nat.reduceAdd, eq_self, true_and, and_true, and_self, List.getElem?_cons_zero, List.getElem?_cons_succ, Nat.reduceLeDiff, Nat.zero_add, Nat.reduceSub, Nat.le_refl, spC]
              try exact rfl
            | some w =>
              rw [hfo5] at hfx5
              simp only [Option.getD_some] at hfx5
              subst hfx5
              simp -implicitDefEqProofs only [go_sem, Nat.reduceBEq, Nat.reduceAdd, eq_self, true_and, and_true, and_self, List.getElem?_cons_zero, List.getElem?_cons_succ, Nat.reduceLeDiff, Nat.zero_add, Nat.reduceSub, Nat.le_refl, h5, hfo5, hk5, spC]
              refine me_at h5 hk5 fun n => ?_
              simp -implicitDefEqProofs only [go_sem, Nat.reduceBEq, Nat.reduceAdd, eq_self, true_and, and_true, and_self, List.getElem?_cons_zero, List.getElem?_cons_succ, Nat.reduceLeDiff, Nat.zero_add, Nat.reduceSub, Nat.le_refl, hmq, hwc, spC]
              refine next _ _ (.inr ?_)
              simp -implicitDefEqProofs only [go_sem, Nat.reduceBEq, Nat.reduceAdd, eq_self, true_and, and_true, and_self, List.getElem?_cons_zero, List.getElem?_cons_succ, Nat.reduceLeDiff, Nat.zero_add, Nat.reduceSub, Nat.le_refl, spC]
              try exact rfl
          · refine me_at h5 hk5 fun n => ?_
            simp -implicitDefEqProofs only [go_sem, Nat.reduceBEq, Nat.reduceAdd, eq_self, true_and, and_true, and_self, List.getElem?_cons_zero, List.getElem?_cons_succ, Nat.reduceLeDiff, Nat.zero_add, Nat.reduceSub, Nat.le_refl, hmq, hfa, hk5, hwc, spC]
            refine next _ _ (.inr ?_)
            simp -implicitDefEqProofs only [go_sem, Nat.reduceBEq, Nat.reduceAdd, eq_self, true_and, and_true, and_self, List.getElem?_cons_zero, List.getElem?_cons_succ, Nat.reduceLeDiff, Nat.zero_add, Nat.reduceSub, Nat.le_refl, spC]
            try exact rfl
        clear hm
        clear τ5
        rintro _ τ5 ⟨rfl, hm⟩
        refine cut_at (fun G τ => G = ⟨[(0, .v (.ptr (some (i, 0)))), (8, .v (.bool wt))], []⟩ ∧ Mid τ1 τ i u k s s1 O1 (cntU (S ++ [⟨a, b⟩])) (cntH (S ++ [⟨a, b⟩]))) ?_ ?_
        · intro X x1 x2 x3
          have hcl := hm.cells
          obtain ⟨es5, ver5, h5, hf5⟩ := hm.und.find
          have hfx5 := hf5 b
          have hk5 : keyFits KL (.agg [.int .i64 b.c, .int .i64 b.r]) = true := rfl
          have hc5 : cntU S b ≤ 1000 := Nat.le_trans (List.length_filter_le _ _) (by omega)
          generalize hc : cntU S b = c at *
          have hwc : IntKind.i64.wrap ((c : Int) + 1) = ((c + 1 : Nat) : Int) := by rw [i64_in _ (by omega)]; omega
          have hks := key_self b
          have hfa := find_addE' (z := .int .i64 0) (es := es5) hks
          rw [hfx5] at hfa
          have hua := upd_addE (z := .int .i64 0) (v := .int .i64 ((c + 1 : Nat) : Int)) (es := es5) hks
          have hmq : ∀ n : Nat, (τ5.setA u (.mq KL (Go.VL.addE (.agg [.int .i64 b.c, .int .i64 b.r]) (.int .i64 0) es5) (ver5 + 1) n (.agg [.int .i64 b.c, .int .i64 b.r]))).objs[u]? = some _ := fun n => setA_at h5
          have next : ∀ (F : Fr) (n : Nat), FrLe ⟨[(0, .v (.ptr (some (i, 0)))), (8, .v (.bool wt))], []⟩ F →
              X .normal F ((τ5.setA u (.mq KL (Go.VL.addE (.agg [.int .i64 b.c, .int .i64 b.r]) (.int .i64 0) es5) (ver5 + 1) n (.agg [.int .i64 b.c, .int .i64 b.r]))).setM u KL (upd (.agg [.int .i64 b.c, .int .i64 b.r]) (.int .i64 ((c + 1 : Nat) : Int)) (Go.VL.addE (.agg [.int .i64 b.c, .int .i64 b.r]) (.int .i64 0) es5)) (ver5 + 1 + 1)) := by
            intro F n hF
            refine x1 _ _ _ hF ⟨rfl, hm.moreU h.ne updS_two ?_⟩
            refine CntIs.more (x := b) (f := cntU S) hm.und (fun y => by rw [cntU_snoc] <;> first | rfl | (by_cases hy : y = b <;> simp [hy])) h5 (ver' := ver5 + 1 + 1) ?_
            rw [hc]
            show ((τ5.setA _ _).setA _ (.mp _ _ _)).objs[_]? = _
            rw [set_two h5, hua]
          simp -implicitDefEqProofs only [go_sem, Nat.reduceBEq, Nat.reduceAdd, eq_self, true_and, and_true, and_self, List.getElem?_cons_zero, List.getElem?_cons_succ, Nat.reduceLeDiff, Nat.zero_add, Nat.reduceSub, Nat.le_refl, hcl, spC]
          refine ⟨?_, ?_⟩
          · cases hfo5 : find (.agg [.int .i64 b.c, .int .i64 b.r]) es5 with
            | none =>
              rw [hfo5] at hfx5
              have hc0 : c = 0 := by
                simp only [Option.getD_none, V.int.injEq, true_and] at hfx5
                omega
              have hw01 : IntKind.i64.wrap (0 + 1) = ((c + 1 : Nat) : Int) := by rw [hc0]; rfl
              simp -implicitDefEqProofs only [go_sem, Nat.reduceBEq, Nat.reduceAdd, eq_self, true_and, and_true, and_self, List.getElem?_cons_zero, List.getElem?_cons_succ, Nat.reduceLeDiff, Nat.zero_add, Nat.reduceSub, Nat.le_refl, h5, hfo5, hk5, spC]
              refine me_at h5 hk5 fun n => ?_
              simp -implicitDefEqProofs only [go_sem, Nat.reduceBEq, Nat.reduceAdd, eq_self, true_and, and_true, and_self, List.getElem?_cons_zero, List.getElem?_cons_succ, Nat.reduceLeDiff, Nat.zero_add, Nat.reduceSub, Nat.le_refl, hmq, hw01, spC]
              refine next _ _ (.inr ?_)
              simp -implicitDefEqProofs only [go_sem, Nat.reduceBEq, Nat.reduceAdd, eq_self, true_and, and_true, and_self, List.getElem?_cons_zero, List.getElem?_cons_succ, Nat.reduceLeDiff, Nat.zero_add, Nat.reduceSub, Nat.le_refl, spC]
              try exact rfl
            | some w =>
              rw [hfo5] at hfx5
              simp only [Option.getD_some] at hfx5
              subst hfx5
              simp -implicitDefEqProofs only [go_sem, Nat.reduceBEq, Nat.reduceAdd, eq_self, true_and, and_true, and_self, List.getElem?_cons_zero, List.getElem?_cons_succ, Nat.reduceLeDiff, Nat.zero_add, Nat.reduceSub, Nat.le_refl, h5, hfo5, hk5, spC]
              refine me_at h5 hk5 fun n => ?_
              simp -implicitDefEqProofs only [go_sem, Nat.reduceBEq, Nat.reduceAdd, eq_self, true_and, and_true, and_self, List.getElem?_cons_zero, List.getElem?_cons_succ, Nat.reduceLeDiff, Nat.zero_add, Nat.reduceSub, Nat.le_refl, hmq, hwc, spC]
              refine next _ _ (.inr ?_)
              simp -implicitDefEqProofs only [go_sem, Nat.reduceBEq, Nat.reduceAdd, eq_self, true_and, and_true, and_self, List.getElem?_cons_zero, List.getElem?_cons_succ, Nat.reduceLeDiff, Nat.zero_add, Nat.reduceSub, Nat.le_refl, spC]
              try exact rfl
          · refine me_at h5 hk5 fun n => ?_
            simp -implicitDefEqProofs only [go_sem, Nat.reduceBEq, Nat.reduceAdd, eq_self, true_and, and_true, and_self, List.getElem?_cons_zero, List.getElem?_cons_succ, Nat.reduceLeDiff, Nat.zero_add, Nat.reduceSub, Nat.le_refl, hmq, hfa, hk5, hwc, spC]
            refine next _ _ (.inr ?_)
            simp -implicitDefEqProofs only [go_sem, Nat.reduceBEq, Nat.reduceAdd, eq_self, true_and, and_true, and_self, List.getElem?_cons_zero, List.getElem?_cons_succ, Nat.reduceLeDiff, Nat.zero_add, Nat.reduceSub, Nat.le_refl, spC]
            try exact rfl
        rintro _ τ6 ⟨rfl, hm⟩
        refine cut_at (fun G τ => G = ⟨[], []⟩ ∧ ∃ s' O', RowIs τ i u k s' O' (S ++ [⟨a, b⟩]) ∧ RowToS τ1 τ i u k s s') ?_ ?_
        · intro X x1 x2 x3
          cases hwt' : wt
          · simp -implicitDefEqProofs only [go_sem, Nat.reduceBEq, Nat.reduceAdd, eq_self, true_and, and_true, and_self, List.getElem?_cons_zero, List.getElem?_cons_succ, Nat.reduceLeDiff, Nat.zero_add, Nat.reduceSub, Nat.le_refl, Nat.lt_irrefl]
            refine x1 _ _ _ (.inr ?_) ⟨rfl, s1, O1, ⟨hm.cells, hm.row, hm.und, hm.has, h.ne, hfine, hord hwt'⟩, hm.to⟩
            simp -implicitDefEqProofs only [go_sem, Nat.reduceBEq, Nat.reduceAdd, eq_self, true_and, and_true, and_self, List.getElem?_cons_zero, List.getElem?_cons_succ, Nat.reduceLeDiff, Nat.zero_add, Nat.reduceSub, Nat.le_refl, Nat.lt_irrefl]
          · have hcl := hm.cells
            have hf1 : Fine O1 := ⟨hnd1, fun t ht => hfine.up t ((hmem t).1 ht), fun t ht => hfine.nz t ((hmem t).1 ht)⟩
            simp -implicitDefEqProofs only [go_sem, Nat.reduceBEq, Nat.reduceAdd, eq_self, true_and, and_true, and_self, List.getElem?_cons_zero, List.getElem?_cons_succ, Nat.reduceLeDiff, Nat.zero_add, Nat.reduceSub, Nat.le_refl, hcl]
            refine call_at (sorted_ok hf1 (by omega) hm.row hne1) ?_
            rintro v τ7 ⟨out, hout, hr7, he7, hn7⟩
            refine ⟨kept_none, ?_⟩
            have hc7 := he7.objs _ _ hcl
            have hv : cellsOf v = some [v] := by rcases hr7 with ⟨R, q, rfl, -⟩ | ⟨j, cap, rfl, -⟩ <;> rfl
            have hil := (List.getElem?_eq_some_iff.1 hc7).1
            have hfin : ∃ s' O', RowIs (τ7.setC i [v, .map (some u), .map (some k)]) i u k s' O' (S ++ [⟨a, b⟩]) ∧ RowToS τ1 (τ7.setC i [v, .map (some u), .map (some k)]) i u k s s' := by
              have hu7 : UpdS (fun j => j = i) τ7 (τ7.setC i [v, .map (some u), .map (some k)]) := updS_setC
              obtain ⟨mu, vu, u1⟩ := (hm.und.up (P := fun _ => False) (.of he7) fun h => h).at
              obtain ⟨mh, vh, k1⟩ := (hm.has.up (P := fun _ => False) (.of he7) fun h => h).at
              have hui : u ≠ i := fun e => by rw [e, hc7] at u1; cases u1
              have hki : k ≠ i := fun e => by rw [e, hc7] at k1; cases k1
              refine ⟨v, out, ⟨setC_get hil, rowOf_up hr7 hu7 fun j n cap z e => ?_, (hm.und.up (P := fun _ => False) (.of he7) fun h => h).up hu7 hui, (hm.has.up (P := fun _ => False) (.of he7) fun h => h).up hu7 hki, h.ne, hfine, hout.congr hmem⟩, ⟨?_, ?_⟩⟩
              · rintro rfl
                exact rowOf_ne hr7 hc7 _ _ _ e
              · exact ((hm.to.upd.trans (UpdS.of (S := fun _ => False) he7) fun _ h => h.elim).trans hu7 fun j hj => .inl (.inl hj))
              · rintro j (hj | hj | hj | ⟨n', cap', z, hj⟩)
                · exact .inl (.inl hj)
                · exact .inl (.inr (.inl hj))
                · exact .inl (.inr (.inr (.inl hj)))
                · exact .inr (Nat.le_trans hm.to.upd.olen (hn7 _ _ _ _ hj))
            rcases hr7 with ⟨R, q, rfl, -⟩ | ⟨j', cap', rfl, -⟩
            all_goals
              simp -implicitDefEqProofs only [go_sem, Nat.reduceBEq, Nat.reduceAdd, eq_self, true_and, and_true, and_self, List.getElem?_cons_zero, List.getElem?_cons_succ, Nat.reduceLeDiff, Nat.zero_add, Nat.reduceSub, Nat.le_refl, hc7, flats, V.flat]
              refine x1 _ _ _ (.inr ?_) ⟨rfl, hfin⟩
              simp -implicitDefEqProofs only [go_sem, Nat.reduceBEq, Nat.reduceAdd, eq_self, true_and, and_true, and_self, List.getElem?_cons_zero, List.getElem?_cons_succ, Nat.reduceLeDiff, Nat.zero_add, Nat.reduceSub, Nat.le_refl, Nat.lt_irrefl]
        rintro _ τ7 ⟨rfl, hfin⟩
        simp -implicitDefEqProofs only [go_sem, Nat.reduceBEq, Nat.reduceAdd, eq_self, true_and, and_true, and_self, List.getElem?_cons_zero, List.getElem?_cons_succ, Nat.reduceLeDiff, Nat.zero_add, Nat.reduceSub, Nat.le_refl, Nat.lt_irrefl]
        refine q2 _ _ ?_
        simp -implicitDefEqProofs only [go_sem, Nat.reduceBEq, Nat.reduceAdd, eq_self, true_and, and_true, and_self, List.getElem?_cons_zero, List.getElem?_cons_succ, Nat.reduceLeDiff, Nat.zero_add, Nat.reduceSub, Nat.le_refl, Nat.lt_irrefl]
        exact hfin
      · have hd : decide ((y : Int) < (slsV O).length) = false := by rw [hlm]; simp; omega
        have hd0 : decide ((y : Int) < ((0 : Nat) : Int)) = false := by simp
        have hst : ∀ h : y < O.length, less a O[y].a = false := fun h => absurd h hyl
        rcases id h3.row with ⟨R, q, rfl, he'⟩ | ⟨j', cap, rfl, ho, -, hc⟩
        · simp -implicitDefEqProofs only [go_sem, Nat.reduceBEq, Nat.reduceAdd, eq_self, true_and, and_true, and_self, List.getElem?_cons_zero, List.getElem?_cons_succ, Nat.reduceLeDiff, Nat.zero_add, Nat.reduceSub, Nat.le_refl, h31, hd0]
          refine z2 _ _ _ ?_
          generalize hs0 : V.sl true R q [] = s at *
          clear h31 h3 hs0
          have h3 := h.ext g2
          have h31 := h3.cells
          simp -implicitDefEqProofs only [go_sem, Nat.reduceBEq, Nat.reduceAdd, eq_self, true_and, and_true, and_self, List.getElem?_cons_zero, List.getElem?_cons_succ, Nat.reduceLeDiff, Nat.zero_add, Nat.reduceSub, Nat.le_refl, h31, slC, spC]
          have hlit : (⟨τ3.objs, τ3.live ++ [true]⟩ : St).live[τ3.live.length]? = some true := by simp
          have hrow : RowOf ⟨τ3.objs, τ3.live ++ [true]⟩ s 4 (slsV O) := h3.row
          refine call_at (ins_ok (x := slC ⟨a, b⟩) hrow (i := y) (by rw [slsV_length]; exact g1) (by rw [slsV_length]; omega) hlit rfl) ?_
          rintro v τ4 ⟨hr4, hto4, jj, cap, rfl, hjj⟩
          have hO1 : (slsV O).take y ++ slC ⟨a, b⟩ :: (slsV O).drop y = slsV (O.take y ++ ⟨a, b⟩ :: O.drop y) := by simp [slsV, List.map_take, List.map_drop]
          rw [hO1] at hr4
          obtain ⟨hci, hm⟩ := mid_ins h3 g2 hto4 hr4 hjj
          have hi3 := rowOf_ne h3.row h31
          refine ⟨fun L hL => by cases hL; exact ⟨fun q hq o ho => by rw [List.mem_singleton] at hq; subst hq; exact hto4.2.2 _ o (fun n cap z e => hi3 n cap z e) ho, fun r hr => by rw [hto4.1]; exact hr⟩, ?_⟩
          have hord : wt = false → Ord (S ++ [⟨a, b⟩]) (O.take y ++ ⟨a, b⟩ :: O.drop y) := fun hw => by
            refine add_ord (s := ⟨a, b⟩) hS h.ord hok hh (fun t ht e => ?_) hj g0 g1 (fun m hm' => g3 m hm') hst
            have : (S.any fun s => decide (s.u = a)) = true := List.any_eq_true.2 ⟨t, ht, by simp [e]⟩
            rw [hwt, hw] at this; cases this
          have hmem : ∀ t, t ∈ O.take y ++ ⟨a, b⟩ :: O.drop y ↔ t ∈ S ++ [⟨a, b⟩] := fun t => by
            rw [List.mem_append, List.mem_cons, List.mem_append, List.mem_singleton, ← h.ord.mem t]
            conv => rhs; rw [← List.take_append_drop y O, List.mem_append]
            constructor
            · rintro (h | h | h)
              · exact .inl (.inl h)
              · exact .inr h
              · exact .inl (.inr h)
            · rintro ((h | h) | h)
              · exact .inl h
              · exact .inr (.inr h)
              · exact .inr (.inl h)
          have hl1 : (O.take y ++ (⟨a, b⟩ : Sl) :: O.drop y).length = O.length + 1 := by simp only [List.length_append, List.length_cons, List.length_take, List.length_drop]; omega
          have hfine := fine_add hS hok hh
          have hnd1 : ((O.take y ++ (⟨a, b⟩ : Sl) :: O.drop y).map (·.a)).Nodup := by
            have hp : (O.take y ++ (⟨a, b⟩ : Sl) :: O.drop y).Perm (S ++ [⟨a, b⟩]) := by
              refine (List.perm_middle.trans ?_)
              rw [List.take_append_drop]
              refine (List.Perm.cons _ ?_).trans (List.perm_append_comm (l₁ := [(⟨a, b⟩ : Sl)]) (l₂ := S))
              exact (List.perm_ext_iff_of_nodup (h.ord.perm_len hS) hS.nodup).2 h.ord.mem
            exact (hp.map _).nodup_iff.2 hfine.nd
          have hne1 : O.take y ++ (⟨a, b⟩ : Sl) :: O.drop y ≠ [] := by simp
          simp -implicitDefEqProofs only [go_sem, Nat.reduceBEq, Nat.reduceAdd, eq_self, true_and, and_true, and_self, List.getElem?_cons_zero, List.getElem?_cons_succ, Nat.reduceLeDiff, Nat.zero_add, Nat.reduceSub, Nat.le_refl, hci, flats, V.flat]
          generalize O.take y ++ (⟨a, b⟩ : Sl) :: O.drop y = O1 at *
          generalize τ4.setC i [.osl jj ((slsV O).length + 1) cap 4, .map (some u), .map (some k)] = τ5 at *
          generalize V.osl jj ((slsV O).length + 1) cap 4 = s1 at *
          clear z1 z2 z3 hto4 hci g3 hst
          refine cut_at (fun G τ => G = ⟨[(0, .v (.ptr (some (i, 0)))), (5, .loc 5 0), (8, .v (.bool wt))], [(5, spC b)]⟩ ∧ Mid τ1 τ i u k s s1 O1 (cntU S) (cntH (S ++ [⟨a, b⟩]))) ?_ ?_
          · intro X x1 x2 x3
            have hcl := hm.cells
            obtain ⟨es5, ver5, h5, hf5⟩ := hm.has.find
            have hfx5 := hf5 a
            have hk5 : keyFits KL (.agg [.int .i64 a.c, .int .i64 a.r]) = true := rfl
            have hc5 : cntH S a ≤ 1000 := by unfold cntH; cases hasB S a <;> simp
            generalize hc : cntH S a = c at *
            have hwc : IntKind.i64.wrap ((c : Int) + 1) = ((c + 1 : Nat) : Int) := by rw [i64_in _ (by omega)]; omega
            have hks := key_self a
            have hfa := find_addE' (z := .int .i64 0) (es := es5) hks
            rw [hfx5] at hfa
            have hua := upd_addE (z := .int .i64 0) (v := .int .i64 ((c + 1 : Nat) : Int)) (es := es5) hks
            have hmq : ∀ n : Nat, (τ5.setA k (.mq KL (Go.VL.addE (.agg [.int .i64 a.c, .int .i64 a.r]) (.int .i64 0) es5) (ver5 + 1) n (.agg [.int .i64 a.c, .int .i64 a.r]))).objs[k]? = some _ := fun n => setA_at h5
            have next : ∀ (F : Fr) (n : Nat), FrLe ⟨[(0, .v (.ptr (some (i, 0)))), (5, .loc 5 0), (8, .v (.bool wt))], [(5, spC b)]⟩ F →
                X .normal F ((τ5.setA k (.mq KL (Go.VL.addE (.agg [.int .i64 a.c, .int .i64 a.r]) (.int .i64 0) es5) (ver5 + 1) n (.agg [.int .i64 a.c, .int .i64 a.r]))).setM k KL (upd (.agg [.int .i64 a.c, .int .i64 a.r]) (.int .i64 ((c + 1 : Nat) : Int)) (Go.VL.addE (.agg [.int .i64 a.c, .int .i64 a.r]) (.int .i64 0) es5)) (ver5 + 1 + 1)) := by
              intro F n hF
              refine x1 _ _ _ hF ⟨rfl, hm.moreH h.ne updS_two ?_⟩
              refine CntIs.more (x := a) (f := cntH S) hm.has (fun y => by rw [cntH_snoc hh] <;> first | rfl | (by_cases hy : y = a <;> simp [hy])) h5 (ver' := ver5 + 1 + 1) ?_
              rw [hc]
              show ((τ5.setA _ _).setA _ (.mp _ _ _)).objs[_]? = _
              rw [set_two h5, hua]
            simp -implicitDefEqProofs only [go_sem, Nat.reduceBEq, Nat.reduceAdd, eq_self, true_and, and_true, and_self, List.getElem?_cons_zero, List.getElem?_cons_succ, Nat.reduceLeDiff, Nat.zero_add, Nat.reduceSub, Nat.le_refl, hcl, spC]
            refine ⟨?_, ?_⟩
            · cases hfo5 : find (.agg [.int .i64 a.c, .int .i64 a.r]) es5 with
              | none =>
                rw [hfo5] at hfx5
                have hc0 : c = 0 := by
                  simp only [Option.getD_none, V.int.injEq, true_and] at hfx5
                  omega
                have hw01 : IntKind.i64.wrap (0 + 1) = ((c + 1 : Nat) : Int) := by rw [hc0]; rfl
                simp -implicitDefEqProofs only [go_sem, Nat.reduceBEq, Nat.reduceAdd, eq_self, true_and, and_true, and_self, List.getElem?_cons_zero, List.getElem?_cons_succ, Nat.reduceLeDiff, Nat.zero_add, Nat.reduceSub, Nat.le_refl, h5, hfo5, hk5, spC]
                refine me_at h5 hk5 fun n => ?_
                simp -implicitDefEqProofs only [go_sem, Nat.reduceBEq, Nat.reduceAdd, eq_self, true_and, and_true, and_self, List.getElem?_cons_zero, List.getElem?_cons_succ, Nat.reduceLeDiff, Nat.zero_add, Nat.reduceSub, Nat.le_refl, hmq, hw01, spC]
                refine next _ _ (.inr ?_)
                simp -implicitDefEqProofs only [go_sem, Nat.reduceBEq, Nat.reduceAdd, eq_self, true_and, and_true, and_self, List.getElem?_cons_zero, List.getElem?_cons_succ, Nat.reduceLeDiff, Nat.zero_add, Nat.reduceSub, Nat.le_refl, spC]
                try exact rfl
              | some w =>
                rw [hfo5] at hfx5
                simp only [Option.getD_some] at hfx5
                subst hfx5
                simp -implicitDefEqProofs only [go_sem, Nat.reduceBEq, Nat.reduceAdd, eq_self, true_and, and_true, and_self, List.getElem?_cons_zero, List.getElem?_cons_succ, Nat.reduceLeDiff, Nat.zero_add, Nat.reduceSub, Nat.le_refl, h5, hfo5, hk5, spC]
                refine me_at h5 hk5 fun n => ?_
                simp -implicitDefEqProofs only [go_sem, Nat.reduceBEq, Nat.reduceAdd, eq_self, true_and, and_true, and_self, List.getElem?_cons_zero, List.getElem?_cons_succ, Nat.reduceLeDiff, Nat.zero_add, Nat.reduceSub, Nat.le_refl, hmq, hwc, spC]
                refine next _ _ (.inr ?_)
                simp -implicitDefEqProofs only [go_sem, Nat.reduceBEq, Nat.reduceAdd, eq_self, true_and, and_true, and_self, List.getElem?_cons_zero, List.getElem?_cons_succ, Nat.reduceLeDiff, Nat.zero_add, Nat.reduceSub, Nat.le_refl, spC]
                try exact rfl
            · refine me_at h5 hk5 fun n => ?_
              simp -implicitDefEqProofs only [go_sem, Nat.reduceBEq, Nat.reduceAdd, eq_self, true_and, and_true, and_self, List.getElem?_cons_zero, List.getElem?_cons_succ, Nat.reduceLeDiff, Nat.zero_add, Nat.reduceSub, Nat.le_refl, hmq, hfa, hk5, hwc, spC]
              refine next _ _ (.inr ?_)
              simp -implicitDefEqProofs only [go_sem, Nat.reduceBEq, Nat.reduceAdd, eq_self, true_and, and_true, and_self, List.getElem?_cons_zero, List.getElem?_cons_succ, Nat.reduceLeDiff, Nat.zero_add, Nat.reduceSub, Nat.le_refl, spC]
              try exact rfl
          clear hm
          clear τ5
          rintro _ τ5 ⟨rfl, hm⟩
          refine cut_at (fun G τ => G = ⟨[(0, .v (.ptr (some (i, 0)))), (8, .v (.bool wt))], []⟩ ∧ Mid τ1 τ i u k s s1 O1 (cntU (S ++ [⟨a, b⟩])) (cntH (S ++ [⟨a, b⟩]))) ?_ ?_
          · intro X x1 x2 x3
            have hcl := hm.cells
            obtain ⟨es5, ver5, h5, hf5⟩ := hm.und.find
            have hfx5 := hf5 b
            have hk5 : keyFits KL (.agg [.int .i64 b.c, .int .i64 b.r]) = true := rfl
            have hc5 : cntU S b ≤ 1000 := Nat.le_trans (List.length_filter_le _ _) (by omega)
            generalize hc : cntU S b = c at *
            have hwc : IntKind.i64.wrap ((c : Int) + 1) = ((c + 1 : Nat) : Int) := by rw [i64_in _ (by omega)]; omega
            have hks := key_self b
            have hfa := find_addE' (z := .int .i64 0) (es := es5) hks
            rw [hfx5] at hfa
            have hua := upd_addE (z := .int .i64 0) (v := .int .i64 ((c + 1 : Nat) : Int)) (es := es5) hks
            have hmq : ∀ n : Nat, (τ5.setA u (.mq KL (Go.VL.addE (.agg [.int .i64 b.c, .int .i64 b.r]) (.int .i64 0) es5) (ver5 + 1) n (.agg [.int .i64 b.c, .int .i64 b.r]))).objs[u]? = some _ := fun n => setA_at h5
            have next : ∀ (F : Fr) (n : Nat), FrLe ⟨[(0, .v (.ptr (some (i, 0)))), (8, .v (.bool wt))], []⟩ F →
                X .normal F ((τ5.setA u (.mq KL (Go.VL.addE (.agg [.int .i64 b.c, .int .i64 b.r]) (.int .i64 0) es5) (ver5 + 1) n (.agg [.int .i64 b.c, .int .i64 b.r]))).setM u KL (upd (.agg [.int .i64 b.c, .int .i64 b.r]) (.int .i64 ((c + 1 : Nat) : Int)) (Go.VL.addE (.agg [.int .i64 b.c, .int .i64 b.r]) (.int .i64 0) es5)) (ver5 + 1 + 1)) := by
              intro F n hF
              refine x1 _ _ _ hF ⟨rfl, hm.moreU h.ne updS_two ?_⟩
              refine CntIs.more (x := b) (f := cntU S) hm.und (fun y => by rw [cntU_snoc] <;> first | rfl | (by_cases hy : y = b <;> simp [hy])) h5 (ver' := ver5 + 1 + 1) ?_
              rw [hc]
              show ((τ5.setA _ _).setA _ (.mp _ _ _)).objs[_]? = _
              rw [set_two h5, hua]
            simp -implicitDefEqProofs only [go_sem, Nat.reduceBEq, Nat.reduceAdd, eq_self, true_and, and_true, and_self, List.getElem?_cons_zero, List.getElem?_cons_succ, Nat.reduceLeDiff, Nat.zero_add, Nat.reduceSub, Nat.le_refl, hcl, spC]
            refine ⟨?_, ?_⟩
            · cases hfo5 : find (.agg [.int .i64 b.c, .int .i64 b.r]) es5 with
              | none =>
                rw [hfo5] at hfx5
                have hc0 : c = 0 := by
                  simp only [Option.getD_none, V.int.injEq, true_and] at hfx5
                  omega
                have hw01 : IntKind.i64.wrap (0 + 1) = ((c + 1 : Nat) : Int) := by rw [hc0]; rfl
                simp -implicitDefEqProofs only [go_sem, Nat.reduceBEq, Nat.reduceAdd, eq_self, true_and, and_true, and_self, List.getElem?_cons_zero, List.getElem?_cons_succ, Nat.reduceLeDiff, Nat.zero_add, Nat.reduceSub, Nat.le_refl, h5, hfo5, hk5, spC]
                refine me_at h5 hk5 fun n => ?_
                simp -implicitDefEqProofs only [go_sem, Nat.reduceBEq, Nat.reduceAdd, eq_self, true_and, and_true, and_self, List.getElem?_cons_zero, List.getElem?_cons_succ, Nat.reduceLeDiff, Nat.zero_add, Nat.reduceSub, Nat.le_refl, hmq, hw01, spC]
                refine next _ _ (.inr ?_)
                simp -implicitDefEqProofs only [go_sem, Nat.reduceBEq, Nat.reduceAdd, eq_self, true_and, and_true, and_self, List.getElem?_cons_zero, List.getElem?_cons_succ, Nat.reduceLeDiff, Nat.zero_add, Nat.reduceSub, Nat.le_refl, spC]
                try exact rfl
              | some w =>
                rw [hfo5] at hfx5
                simp only [Option.getD_some] at hfx5
                subst hfx5
                simp -implicitDefEqProofs only [go_sem, Nat.reduceBEq, Nat.reduceAdd, eq_self, true_and, and_true, and_self, List.getElem?_cons_zero, List.getElem?_cons_succ, Nat.reduceLeDiff, Nat.zero_add, Nat.reduceSub, Nat.le_refl, h5, hfo5, hk5, spC]
                refine me_at h5 hk5 fun n => ?_
                simp -implicitDefEqProofs only [go_sem, Nat.reduceBEq, Nat.reduceAdd, eq_self, true_and, and_true, and_self, List.getElem?_cons_zero, List.getElem?_cons_succ, Nat.reduceLeDiff, Nat.zero_add, Nat.reduceSub, Nat.le_refl, hmq, hwc, spC]
                refine next _ _ (.inr ?_)
                simp -implicitDefEqProofs only [go_sem, Nat.reduceBEq, Nat.reduceAdd, eq_self, true_and, and_true, and_self, List.getElem?_cons_zero, List.getElem?_cons_succ, Nat.reduceLeDiff, Nat.zero_add, Nat.reduceSub, Nat.le_refl, spC]
                try exact rfl
            · refine me_at h5 hk5 fun n => ?_
              simp -implicitDefEqProofs only [go_sem, Nat.reduceBEq, Nat.reduceAdd, eq_self, true_and, and_true, and_self, List.getElem?_cons_zero, List.getElem?_cons_succ, Nat.reduceLeDiff, Nat.zero_add, Nat.reduceSub, Nat.le_refl, hmq, hfa, hk5, hwc, spC]
              refine next _ _ (.inr ?_)
              simp -implicitDefEqProofs only [go_sem, Nat.reduceBEq, Nat.reduceAdd, eq_self, true_and, and_true, and_self, List.getElem?_cons_zero, List.getElem?_cons_succ, Nat.reduceLeDiff, Nat.zero_add, Nat.reduceSub, Nat.le_refl, spC]
              try exact rfl
          rintro _ τ6 ⟨rfl, hm⟩
          refine cut_at (fun G τ => G = ⟨[], []⟩ ∧ ∃ s' O', RowIs τ i u k s' O' (S ++ [⟨a, b⟩]) ∧ RowToS τ1 τ i u k s s') ?_ ?_
          · intro X x1 x2 x3
            cases hwt' : wt
            · simp -implicitDefEqProofs only [go_sem, Nat.reduceBEq, Nat.reduceAdd, eq_self, true_and, and_true, and_self, List.getElem?_cons_zero, List.getElem?_cons_succ, Nat.reduceLeDiff, Nat.zero_add, Nat.reduceSub, Nat.le_refl, Nat.lt_irrefl]
              refine x1 _ _ _ (.inr ?_) ⟨rfl, s1, O1, ⟨hm.cells, hm.row, hm.und, hm.has, h.ne, hfine, hord hwt'⟩, hm.to⟩
              simp -implicitDefEqProofs only [go_sem, Nat.reduceBEq, Nat.reduceAdd, eq_self, true_and, and_true, and_self, List.getElem?_cons_zero, List.getElem?_cons_succ, Nat.reduceLeDiff, Nat.zero_add, Nat.reduceSub, Nat.le_refl, Nat.lt_irrefl]
            · have hcl := hm.cells
              have hf1 : Fine O1 := ⟨hnd1, fun t ht => hfine.up t ((hmem t).1 ht), fun t ht => hfine.nz t ((hmem t).1 ht)⟩
              simp -implicitDefEqProofs only [go_sem, Nat.reduceBEq, Nat.reduceAdd, eq_self, true_and, and_true, and_self, List.getElem?_cons_zero, List.getElem?_cons_succ, Nat.reduceLeDiff, Nat.zero_add, Nat.reduceSub, Nat.le_refl, hcl]
              refine call_at (sorted_ok hf1 (by omega) hm.row hne1) ?_
              rintro v τ7 ⟨out, hout, hr7, he7, hn7⟩
              refine ⟨kept_none, ?_⟩
              have hc7 := he7.objs _ _ hcl
              have hv : cellsOf v = some [v] := by rcases hr7 with ⟨R, q, rfl, -⟩ | ⟨j, cap, rfl, -⟩ <;> rfl
              have hil := (List.getElem?_eq_some_iff.1 hc7).1
              have hfin : ∃ s' O', RowIs (τ7.setC i [v, .map (some u), .map (some k)]) i u k s' O' (S ++ [⟨a, b⟩]) ∧ RowToS τ1 (τ7.setC i [v, .map (some u), .map (some k)]) i u k s s' := by
                have hu7 : UpdS (fun j => j = i) τ7 (τ7.setC i [v, .map (some u), .map (some k)]) := updS_setC
                obtain ⟨mu, vu, u1⟩ := (hm.und.up (P := fun _ => False) (.of he7) fun h => h).at
                obtain ⟨mh, vh, k1⟩ := (hm.has.up (P := fun _ => False) (.of he7) fun h => h).at
                have hui : u ≠ i := fun e => by rw [e, hc7] at u1; cases u1
                have hki : k ≠ i := fun e => by rw [e, hc7] at k1; cases k1
                refine ⟨v, out, ⟨setC_get hil, rowOf_up hr7 hu7 fun j n cap z e => ?_, (hm.und.up (P := fun _ => False) (.of he7) fun h => h).up hu7 hui, (hm.has.up (P := fun _ => False) (.of he7) fun h => h).up hu7 hki, h.ne, hfine, hout.congr hmem⟩, ⟨?_, ?_⟩⟩
                · rintro rfl
                  exact rowOf_ne hr7 hc7 _ _ _ e
                · exact ((hm.to.upd.trans (UpdS.of (S := fun _ => False) he7) fun _ h => h.elim).trans hu7 fun j hj => .inl (.inl hj))
                · rintro j (hj | hj | hj | ⟨n', cap', z, hj⟩)
                  · exact .inl (.inl hj)
                  · exact .inl (.inr (.inl hj))
                  · exact .inl (.inr (.inr (.inl hj)))
                  · exact .inr (Nat.le_trans hm.to.upd.olen (hn7 _ _ _ _ hj))
              rcases hr7 with ⟨R, q, rfl, -⟩ | ⟨j', cap', rfl, -⟩
              all_goals
                simp -implicitDefEqProofs only [go_sem, Nat.reduceBEq, Nat.reduceAdd, eq_self, true_and, and_true, and_self, List.getElem?_cons_zero, List.getElem?_cons_succ, Nat.reduceLeDiff, Nat.zero_add, Nat.reduceSub, Nat.le_refl, hc7, flats, V.flat]
                refine x1 _ _ _ (.inr ?_) ⟨rfl, hfin⟩
                simp -implicitDefEqProofs only [go_sem, Nat.reduceBEq, Nat.reduceAdd, eq_self, true_and, and_true, and_self, List.getElem?_cons_zero, List.getElem?_cons_succ, Nat.reduceLeDiff, Nat.zero_add, Nat.reduceSub, Nat.le_refl, Nat.lt_irrefl]
          rintro _ τ7 ⟨rfl, hfin⟩
          simp -implicitDefEqProofs only [go_sem, Nat.reduceBEq, Nat.reduceAdd, eq_self, true_and, and_true, and_self, List.getElem?_cons_zero, List.getElem?_cons_succ, Nat.reduceLeDiff, Nat.zero_add, Nat.reduceSub, Nat.le_refl, Nat.lt_irrefl]
          refine q2 _ _ ?_
          simp -implicitDefEqProofs only [go_sem, Nat.reduceBEq, Nat.reduceAdd, eq_self, true_and, and_true, and_self, List.getElem?_cons_zero, List.getElem?_cons_succ, Nat.reduceLeDiff, Nat.zero_add, Nat.reduceSub, Nat.le_refl, Nat.lt_irrefl]
          exact hfin
        · simp -implicitDefEqProofs only [go_sem, Nat.reduceBEq, Nat.reduceAdd, eq_self, true_and, and_true, and_self, List.getElem?_cons_zero, List.getElem?_cons_succ, Nat.reduceLeDiff, Nat.zero_add, Nat.reduceSub, Nat.le_refl, h31, hd]
          refine z2 _ _ _ ?_
          generalize hs0 : V.osl j' (slsV O).length cap 4 = s at *
          clear ho hc h31 h3 hs0
          have h3 := h.ext g2
          have h31 := h3.cells
          simp -implicitDefEqProofs only [go_sem, Nat.reduceBEq, Nat.reduceAdd, eq_self, true_and, and_true, and_self, List.getElem?_cons_zero, List.getElem?_cons_succ, Nat.reduceLeDiff, Nat.zero_add, Nat.reduceSub, Nat.le_refl, h31, slC, spC]
          have hlit : (⟨τ3.objs, τ3.live ++ [true]⟩ : St).live[τ3.live.length]? = some true := by simp
          have hrow : RowOf ⟨τ3.objs, τ3.live ++ [true]⟩ s 4 (slsV O) := h3.row
          refine call_at (ins_ok (x := slC ⟨a, b⟩) hrow (i := y) (by rw [slsV_length]; exact g1) (by rw [slsV_length]; omega) hlit rfl) ?_
          rintro v τ4 ⟨hr4, hto4, jj, cap, rfl, hjj⟩
          have hO1 : (slsV O).take y ++ slC ⟨a, b⟩ :: (slsV O).drop y = slsV (O.take y ++ ⟨a, b⟩ :: O.drop y) := by simp [slsV, List.map_take, List.map_drop]
          rw [hO1] at hr4
          obtain ⟨hci, hm⟩ := mid_ins h3 g2 hto4 hr4 hjj
          have hi3 := rowOf_ne h3.row h31
          refine ⟨fun L hL => by cases hL; exact ⟨fun q hq o ho => by rw [List.mem_singleton] at hq; subst hq; exact hto4.2.2 _ o (fun n cap z e => hi3 n cap z e) ho, fun r hr => by rw [hto4.1]; exact hr⟩, ?_⟩
          have hord : wt = false → Ord (S ++ [⟨a, b⟩]) (O.take y ++ ⟨a, b⟩ :: O.drop y) := fun hw => by
            refine add_ord (s := ⟨a, b⟩) hS h.ord hok hh (fun t ht e => ?_) hj g0 g1 (fun m hm' => g3 m hm') hst
            have : (S.any fun s => decide (s.u = a)) = true := List.any_eq_true.2 ⟨t, ht, by simp [e]⟩
            rw [hwt, hw] at this; cases this
          have hmem : ∀ t, t ∈ O.take y ++ ⟨a, b⟩ :: O.drop y ↔ t ∈ S ++ [⟨a, b⟩] := fun t => by
            rw [List.mem_append, List.mem_cons, List.mem_append, List.mem_singleton, ← h.ord.mem t]
            conv => rhs; rw [← List.take_append_drop y O, List.mem_append]
            constructor
            · rintro (h | h | h)
              · exact .inl (.inl h)
              · exact .inr h
              · exact .inl (.inr h)
            · rintro ((h | h) | h)
              · exact .inl h
              · exact .inr (.inr h)
              · exact .inr (.inl h)
          have hl1 : (O.take y ++ (⟨a, b⟩ : Sl) :: O.drop y).length = O.length + 1 := by simp only [List.length_append, List.length_cons, List.length_take, List.length_drop]; omega
          have hfine := fine_add hS hok hh
          have hnd1 : ((O.take y ++ (⟨a, b⟩ : Sl) :: O.drop y).map (·.a)).Nodup := by
            have hp : (O.take y ++ (⟨a, b⟩ : Sl) :: O.drop y).Perm (S ++ [⟨a, b⟩]) := by
              refine (List.perm_middle.trans ?_)
              rw [List.take_append_drop]
              refine (List.Perm.cons _ ?_).trans (List.perm_append_comm (l₁ := [(⟨a, b⟩ : Sl)]) (l₂ := S))
              exact (List.perm_ext_iff_of_nodup (h.ord.perm_len hS) hS.nodup).2 h.ord.mem
            exact (hp.map _).nodup_iff.2 hfine.nd
          have hne1 : O.take y ++ (⟨a, b⟩ : Sl) :: O.drop y ≠ [] := by simp
          simp -implicitDefEqProofs only [go_sem, Nat.reduceBEq, Nat.reduceAdd, eq_self, true_and, and_true, and_self, List.getElem?_cons_zero, List.getElem?_cons_succ, Nat.reduceLeDiff, Nat.zero_add, Nat.reduceSub, Nat.le_refl, hci, flats, V.flat]
          generalize O.take y ++ (⟨a, b⟩ : Sl) :: O.drop y = O1 at *
          generalize τ4.setC i [.osl jj ((slsV O).length + 1) cap 4, .map (some u), .map (some k)] = τ5 at *
          generalize V.osl jj ((slsV O).length + 1) cap 4 = s1 at *
          clear z1 z2 z3 hto4 hci g3 hst
          refine cut_at (fun G τ => G = ⟨[(0, .v (.ptr (some (i, 0)))), (5, .loc 5 0), (8, .v (.bool wt))], [(5, spC b)]⟩ ∧ Mid τ1 τ i u k s s1 O1 (cntU S) (cntH (S ++ [⟨a, b⟩]))) ?_ ?_
          · intro X x1 x2 x3
            have hcl := hm.cells
            obtain ⟨es5, ver5, h5, hf5⟩ := hm.has.find
            have hfx5 := hf5 a
            have hk5 : keyFits KL (.agg [.int .i64 a.c, .int .i64 a.r]) = true := rfl
            have hc5 : cntH S a ≤ 1000 := by unfold cntH; cases hasB S a <;> simp
            generalize hc : cntH S a = c at *
            have hwc : IntKind.i64.wrap ((c : Int) + 1) = ((c + 1 : Nat) : Int) := by rw [i64_in _ (by omega)]; omega
            have hks := key_self a
            have hfa := find_addE' (z := .int .i64 0) (es := es5) hks
            rw [hfx5] at hfa
            have hua := upd_addE (z := .int .i64 0) (v := .int .i64 ((c + 1 : Nat) : Int)) (es := es5) hks
            have hmq : ∀ n : Nat, (τ5.setA k (.mq KL (Go.VL.addE (.agg [.int .i64 a.c, .int .i64 a.r]) (.int .i64 0) es5) (ver5 + 1) n (.agg [.int .i64 a.c, .int .i64 a.r]))).objs[k]? = some _ := fun n => setA_at h5
            have next : ∀ (F : Fr) (n : Nat), FrLe ⟨[(0, .v (.ptr (some (i, 0)))), (5, .loc 5 0), (8, .v (.bool wt))], [(5, spC b)]⟩ F →
                X .normal F ((τ5.setA k (.mq KL (Go.VL.addE (.agg [.int .i64 a.c, .int .i64 a.r]) (.int .i64 0) es5) (ver5 + 1) n (.agg [.int .i64 a.c, .int .i64 a.r]))).setM k KL (upd (.agg [.int .i64 a.c, .int .i64 a.r]) (.int .i64 ((c + 1 : Nat) : Int)) (Go.VL.addE (.agg [.int .i64 a.c, .int .i64 a.r]) (.int .i64 0) es5)) (ver5 + 1 + 1)) := by
              intro F n hF
              refine x1 _ _ _ hF ⟨rfl, hm.moreH h.ne updS_two ?_⟩
              refine CntIs.more (x := a) (f := cntH S) hm.has (fun y => by rw [cntH_snoc hh] <;> first | rfl | (by_cases hy : y = a <;> simp [hy])) h5 (ver' := ver5 + 1 + 1) ?_
              rw [hc]
              show ((τ5.setA _ _).setA _ (.mp _ _ _)).objs[_]? = _
              rw [set_two h5, hua]
            simp -implicitDefEqProofs only [go_sem, Nat.reduceBEq, Nat.reduceAdd, eq_self, true_and, and_true, and_self, List.getElem?_cons_zero, List.getElem?_cons_succ, Nat.reduceLeDiff, Nat.zero_add, Nat.reduceSub, Nat.le_refl, hcl, spC]
            refine ⟨?_, ?_⟩
            · cases hfo5 : find (.agg [.int .i64 a.c, .int .i64 a.r]) es5 with
              | none =>
                rw [hfo5] at hfx5
                have hc0 : c = 0 := by
                  simp only [Option.getD_none, V.int.injEq, true_and] at hfx5
                  omega
                have hw01 : IntKind.i64.wrap (0 + 1) = ((c + 1 : Nat) : Int) := by rw [hc0]; rfl
                simp -implicitDefEqProofs only [go_sem, Nat.reduceBEq, Nat.reduceAdd, eq_self, true_and, and_true, and_self, List.getElem?_cons_zero, List.getElem?_cons_succ, Nat.reduceLeDiff, Nat.zero_add, Nat.reduceSub, Nat.le_refl, h5, hfo5, hk5, spC]
                refine me_at h5 hk5 fun n => ?_
                simp -implicitDefEqProofs only [go_sem, Nat.reduceBEq, Nat.reduceAdd, eq_self, true_and, and_true, and_self, List.getElem?_cons_zero, List.getElem?_cons_succ, Nat.reduceLeDiff, Nat.zero_add, Nat.reduceSub, Nat.le_refl, hmq, hw01, spC]
                refine next _ _ (.inr ?_)
                simp -implicitDefEqProofs only [go_sem, Nat.reduceBEq, Nat.reduceAdd, eq_self, true_and, and_true, and_self, List.getElem?_cons_zero, List.getElem?_cons_succ, Nat.reduceLeDiff, Nat.zero_add, Nat.reduceSub, Nat.le_refl, spC]
                try exact rfl
              | some w =>
                rw [hfo5] at hfx5
                simp only [Option.getD_some] at hfx5
                subst hfx5
                simp -implicitDefEqProofs only [go_sem, Nat.reduceBEq, Nat.reduceAdd, eq_self, true_and, and_true, and_self, List.getElem?_cons_zero, List.getElem?_cons_succ, Nat.reduceLeDiff, Nat.zero_add, Nat.reduceSub, Nat.le_refl, h5, hfo5, hk5, spC]
                refine me_at h5 hk5 fun n => ?_
                simp -implicitDefEqProofs only [go_sem, Nat.reduceBEq, Nat.reduceAdd, eq_self, true_and, and_true, and_self, List.getElem?_cons_zero, List.getElem?_cons_succ, Nat.reduceLeDiff, Nat.zero_add, Nat.reduceSub, Nat.le_refl, hmq, hwc, spC]
                refine next _ _ (.inr ?_)
                simp -implicitDefEqProofs only [go_sem, Nat.reduceBEq, Nat.reduceAdd, eq_self, true_and, and_true, and_self, List.getElem?_cons_zero, List.getElem?_cons_succ, Nat.reduceLeDiff, Nat.zero_add, Nat.reduceSub, Nat.le_refl, spC]
                try exact rfl
            · refine me_at h5 hk5 fun n => ?_
              simp -implicitDefEqProofs only [go_sem, Nat.reduceBEq, Nat.reduceAdd, eq_self, true_and, and_true, and_self, List.getElem?_cons_zero, List.getElem?_cons_succ, Nat.reduceLeDiff, Nat.zero_add, Nat.reduceSub, Nat.le_refl, hmq, hfa, hk5, hwc, spC]
              refine next _ _ (.inr ?_)
              simp -implicitDefEqProofs only [go_sem, Nat.reduceBEq, Nat.reduceAdd, eq_self, true_and, and_true, and_self, List.getElem?_cons_zero, List.getElem?_cons_succ, Nat.reduceLeDiff, Nat.zero_add, Nat.reduceSub, Nat.le_refl, spC]
              try exact rfl
          clear hm
          clear τ5
          rintro _ τ5 ⟨rfl, hm⟩
          refine cut_at (fun G τ => G = ⟨[(0, .v (.ptr (some (i, 0)))), (8, .v (.bool wt))], []⟩ ∧ Mid τ1 τ i u k s s1 O1 (cntU (S ++ [⟨a, b⟩])) (cntH (S ++ [⟨a, b⟩]))) ?_ ?_
          · intro X x1 x2 x3
            have hcl := hm.cells
            obtain ⟨es5, ver5, h5, hf5⟩ := hm.und.find
            have hfx5 := hf5 b
            have hk5 : keyFits KL (.agg [.int .i64 b.c, .int .i64 b.r]) = true := rfl
            have hc5 : cntU S b ≤ 1000 := Nat.le_trans (List.length_filter_le _ _) (by omega)
            generalize hc : cntU S b = c at *
            have hwc : IntKind.i64.wrap ((c : Int) + 1) = ((c + 1 : Nat) : Int) := by rw [i64_in _ (by omega)]; omega
            have hks := key_self b
            have hfa := find_addE' (z := .int .i64 0) (es := es5) hks
            rw [hfx5] at hfa
            have hua := upd_addE (z := .int .i64 0) (v := .int .i64 ((c + 1 : Nat) : Int)) (es := es5) hks
            have hmq : ∀ n : Nat, (τ5.setA u (.mq KL (Go.VL.addE (.agg [.int .i64 b.c, .int .i64 b.r]) (.int .i64 0) es5) (ver5 + 1) n (.agg [.int .i64 b.c, .int .i64 b.r]))).objs[u]? = some _ := fun n => setA_at h5
            have next : ∀ (F : Fr) (n : Nat), FrLe ⟨[(0, .v (.ptr (some (i, 0)))), (8, .v (.bool wt))], []⟩ F →
                X .normal F ((τ5.setA u (.mq KL (Go.VL.addE (.agg [.int .i64 b.c, .int .i64 b.r]) (.int .i64 0) es5) (ver5 + 1) n (.agg [.int .i64 b.c, .int .i64 b.r]))).setM u KL (upd (.agg [.int .i64 b.c, .int .i64 b.r]) (.int .i64 ((c + 1 : Nat) : Int)) (Go.VL.addE (.agg [.int .i64 b.c, .int .i64 b.r]) (.int .i64 0) es5)) (ver5 + 1 + 1)) := by
              intro F n hF
              refine x1 _ _ _ hF ⟨rfl, hm.moreU h.ne updS_two ?_⟩
              refine CntIs.more (x := b) (f := cntU S) hm.und (fun y => by rw [cntU_snoc] <;> first | rfl | (by_cases hy : y = b <;> simp [hy])) h5 (ver' := ver5 + 1 + 1) ?_
              rw [hc]
              show ((τ5.setA _ _).setA _ (.mp _ _ _)).objs[_]? = _
              rw [set_two h5, hua]
            simp -implicitDefEqProofs only [go_sem, Nat.reduceBEq, Nat.reduceAdd, eq_self, true_and, and_true, and_self, List.getElem?_cons_zero, List.getElem?_cons_succ, Nat.reduceLeDiff, Nat.zero_add, Nat.reduceSub, Nat.le_refl, hcl, spC]
            refine ⟨?_, ?_⟩
            · cases hfo5 : find (.agg [.int .i64 b.c, .int .i64 b.r]) es5 with
              | none =>
                rw [hfo5] at hfx5
                have hc0 : c = 0 := by
                  simp only [Option.getD_none, V.int.injEq, true_and] at hfx5
                  omega
                have hw01 : IntKind.i64.wrap (0 + 1) = ((c + 1 : Nat) : Int) := by rw [hc0]; rfl
                simp -implicitDefEqProofs only [go_sem, Nat.reduceBEq, Nat.reduceAdd, eq_self, true_and, and_true, and_self, List.getElem?_cons_zero, List.getElem?_cons_succ, Nat.reduceLeDiff, Nat.zero_add, Nat.reduceSub, Nat.le_refl, h5, hfo5, hk5, spC]
                refine me_at h5 hk5 fun n => ?_
                simp -implicitDefEqProofs only [go_sem, Nat.reduceBEq, Nat.reduceAdd, eq_self, true_and, and_true, and_self, List.getElem?_cons_zero, List.getElem?_cons_succ, Nat.reduceLeDiff, Nat.zero_add, Nat.reduceSub, Nat.le_refl, hmq, hw01, spC]
                refine next _ _ (.inr ?_)
                simp -implicitDefEqProofs only [go_sem, Nat.reduceBEq, Nat.reduceAdd, eq_self, true_and, and_true, and_self, List.getElem?_cons_zero, List.getElem?_cons_succ, Nat.reduceLeDiff, Nat.zero_add, Nat.reduceSub, Nat.le_refl, spC]
                try exact rfl
              | some w =>
                rw [hfo5] at hfx5
                simp only [Option.getD_some] at hfx5
                subst hfx5
                simp -implicitDefEqProofs only [go_sem, Nat.reduceBEq, Nat.reduceAdd, eq_self, true_and, and_true, and_self, List.getElem?_cons_zero, List.getElem?_cons_succ, Nat.reduceLeDiff, Nat.zero_add, Nat.reduceSub, Nat.le_refl, h5, hfo5, hk5, spC]
                refine me_at h5 hk5 fun n => ?_
                simp -implicitDefEqProofs only [go_sem, Nat.reduceBEq, Nat.reduceAdd, eq_self, true_and, and_true, and_self, List.getElem?_cons_zero, List.getElem?_cons_succ, Nat.reduceLeDiff, Nat.zero_add, Nat.reduceSub, Nat.le_refl, hmq, hwc, spC]
                refine next _ _ (.inr ?_)
                simp -implicitDefEqProofs only [go_sem, Nat.reduceBEq, Nat.reduceAdd, eq_self, true_and, and_true, and_self, List.getElem?_cons_zero, List.getElem?_cons_succ, Nat.reduceLeDiff, Nat.zero_add, Nat.reduceSub, Nat.le_refl, spC]
                try exact rfl
            · refine me_at h5 hk5 fun n => ?_
              simp -implicitDefEqProofs only [go_sem, Nat.reduceBEq, Nat.reduceAdd, eq_self, true_and, and_true, and_self, List.getElem?_cons_zero, List.getElem?_cons_succ, Nat.reduceLeDiff, Nat.zero_add, Nat.reduceSub, Nat.le_refl, hmq, hfa, hk5, hwc, spC]
              refine next _ _ (.inr ?_)
              simp -implicitDefEqProofs only [go_sem, Nat.reduceBEq, Nat.reduceAdd, eq_self, true_and, and_true, and_self, List.getElem?_cons_zero, List.getElem?_cons_succ, Nat.reduceLeDiff, Nat.zero_add, Nat.reduceSub, Nat.le_refl, spC]
              try exact rfl
          rintro _ τ6 ⟨rfl, hm⟩
          refine cut_at (fun G τ => G = ⟨[], []⟩ ∧ ∃ s' O', RowIs τ i u k s' O' (S ++ [⟨a, b⟩]) ∧ RowToS τ1 τ i u k s s') ?_ ?_
          · intro X x1 x2 x3
            cases hwt' : wt
            · simp -implicitDefEqProofs only [go_sem, Nat.reduceBEq, Nat.reduceAdd, eq_self, true_and, and_true, and_self, List.getElem?_cons_zero, List.getElem?_cons_succ, Nat.reduceLeDiff, Nat.zero_add, Nat.reduceSub, Nat.le_refl, Nat.lt_irrefl]
              refine x1 _ _ _ (.inr ?_) ⟨rfl, s1, O1, ⟨hm.cells, hm.row, hm.und, hm.has, h.ne, hfine, hord hwt'⟩, hm.to⟩
              simp -implicitDefEqProofs only [go_sem, Nat.reduceBEq, Nat.reduceAdd, eq_self, true_and, and_true, and_self, List.getElem?_cons_zero, List.getElem?_cons_succ, Nat.reduceLeDiff, Nat.zero_add, Nat.reduceSub, Nat.le_refl, Nat.lt_irrefl]
            · have hcl := hm.cells
              have hf1 : Fine O1 := ⟨hnd1, fun t ht => hfine.up t ((hmem t).1 ht), fun t ht => hfine.nz t ((hmem t).1 ht)⟩
              simp -implicitDefEqProofs only [go_sem, Nat.reduceBEq, Nat.reduceAdd, eq_self, true_and, and_true, and_self, List.getElem?_cons_zero, List.getElem?_cons_succ, Nat.reduceLeDiff, Nat.zero_add, Nat.reduceSub, Nat.le_refl, hcl]
              refine call_at (sorted_ok hf1 (by omega) hm.row hne1) ?_
              rintro v τ7 ⟨out, hout, hr7, he7, hn7⟩
              refine ⟨kept_none, ?_⟩
              have hc7 := he7.objs _ _ hcl
              have hv : cellsOf v = some [v] := by rcases hr7 with ⟨R, q, rfl, -⟩ | ⟨j, cap, rfl, -⟩ <;> rfl
              have hil := (List.getElem?_eq_some_iff.1 hc7).1
              have hfin : ∃ s' O', RowIs (τ7.setC i [v, .map (some u), .map (some k)]) i u k s' O' (S ++ [⟨a, b⟩]) ∧ RowToS τ1 (τ7.setC i [v, .map (some u), .map (some k)]) i u k s s' := by
                have hu7 : UpdS (fun j => j = i) τ7 (τ7.setC i [v, .map (some u), .map (some k)]) := updS_setC
                obtain ⟨mu, vu, u1⟩ := (hm.und.up (P := fun _ => False) (.of he7) fun h => h).at
                obtain ⟨mh, vh, k1⟩ := (hm.has.up (P := fun _ => False) (.of he7) fun h => h).at
                have hui : u ≠ i := fun e => by rw [e, hc7] at u1; cases u1
                have hki : k ≠ i := fun e => by rw [e, hc7] at k1; cases k1
                refine ⟨v, out, ⟨setC_get hil, rowOf_up hr7 hu7 fun j n cap z e => ?_, (hm.und.up (P := fun _ => False) (.of he7) fun h => h).up hu7 hui, (hm.has.up (P := fun _ => False) (.of he7) fun h => h).up hu7 hki, h.ne, hfine, hout.congr hmem⟩, ⟨?_, ?_⟩⟩
                · rintro rfl
                  exact rowOf_ne hr7 hc7 _ _ _ e
                · exact ((hm.to.upd.trans (UpdS.of (S := fun _ => False) he7) fun _ h => h.elim).trans hu7 fun j hj => .inl (.inl hj))
                · rintro j (hj | hj | hj | ⟨n', cap', z, hj⟩)
                  · exact .inl (.inl hj)
                  · exact .inl (.inr (.inl hj))
                  · exact .inl (.inr (.inr (.inl hj)))
                  · exact .inr (Nat.le_trans hm.to.upd.olen (hn7 _ _ _ _ hj))
              rcases hr7 with ⟨R, q, rfl, -⟩ | ⟨j', cap', rfl, -⟩
              all_goals
                simp -implicitDefEqProofs only [go_sem, Nat.reduceBEq, Nat.reduceAdd, eq_self, true_and, and_true, and_self, List.getElem?_cons_zero, List.getElem?_cons_succ, Nat.reduceLeDiff, Nat.zero_add, Nat.reduceSub, Nat.le_refl, hc7, flats, V.flat]
                refine x1 _ _ _ (.inr ?_) ⟨rfl, hfin⟩
                simp -implicitDefEqProofs only [go_sem, Nat.reduceBEq, Nat.reduceAdd, eq_self, true_and, and_true, and_self, List.getElem?_cons_zero, List.getElem?_cons_succ, Nat.reduceLeDiff, Nat.zero_add, Nat.reduceSub, Nat.le_refl, Nat.lt_irrefl]
          rintro _ τ7 ⟨rfl, hfin⟩
          simp -implicitDefEqProofs only [go_sem, Nat.reduceBEq, Nat.reduceAdd, eq_self, true_and, and_true, and_self, List.getElem?_cons_zero, List.getElem?_cons_succ, Nat.reduceLeDiff, Nat.zero_add, Nat.reduceSub, Nat.le_refl, Nat.lt_irrefl]
          refine q2 _ _ ?_
          simp -implicitDefEqProofs only [go_sem, Nat.reduceBEq, Nat.reduceAdd, eq_self, true_and, and_true, and_self, List.getElem?_cons_zero, List.getElem?_cons_succ, Nat.reduceLeDiff, Nat.zero_add, Nat.reduceSub, Nat.le_refl, Nat.lt_irrefl]
          exact hfin
end
end Go.VL.rga

namespace Go.VL.rga
open Go Go.VL Go.Proofs Go.IntWalk Go.VL.st Go.VL.row

/-- What a row brings to append. -/
theorem elts_row {σ : St} {y : V} {z : Nat} {es : List (List V)} (h : RowOf σ y z es) : ∃ p : Prop × List (List V), elts σ z y = some p ∧ p.1 ∧ p.2 = es := by
  rcases h with ⟨R, q, rfl, rfl⟩ | ⟨j, cap, rfl, h1, h2, h3⟩
  · exact ⟨_, rfl, ⟨.inl rfl, .inr rfl⟩, rfl⟩
  · refine ⟨(z = z ∧ z = z ∧ es.length * z ≤ es.flatten.length, chunk z es.length es.flatten), ?_, ⟨rfl, rfl, ?_⟩, chunk_flat h2⟩
    · simp only [elts, h1, eltO]
    · rw [flat_len' h2]; exact Nat.le_refl _
/-- append of a row to nothing: a new row. -/
theorem ao_copy {σ : St} {y : V} {z n0 : Nat} {R0 : R} {es : List (List V)} (h : RowOf σ y z es) (hl : es.length ≤ 1073741824) :
    AoV σ z true (.sl true R0 n0 []) y fun v σ' => RowOf σ' v z es ∧ Ext σ σ' ∧ σ'.live = σ.live ∧ (∀ k n cap z', v = .osl k n cap z' → σ.objs.length ≤ k) ∧ V.flat v = true ∧ (v = .sl true .pub 0 [] ∨ ∃ k n cap z', v = .osl k n cap z') := by
  obtain ⟨p, hp, p1, p2⟩ := elts_row h
  have hz : ∀ x ∈ es, x.length = z := by
    rcases h with ⟨R, q, rfl, rfl⟩ | ⟨j, cap, rfl, h1, h2, h3⟩
    · simp
    · exact h2
  unfold AoV
  rw [hp]
  refine ⟨rfl, p1, by rw [p2]; exact hl, fun e => ?_, fun e cap hc1 hc2 => ?_⟩
  · rw [p2] at e
    subst e
    exact ⟨.inl ⟨_, _, rfl, rfl⟩, .refl _, rfl, (fun k n cap z' h => by cases h), rfl, .inl rfl⟩
  · rw [p2] at hc1 ⊢
    refine ⟨.inr ⟨_, cap, rfl, by simp, hz, hc1⟩, ext_obj _ _, rfl, fun k n cap' z' h => ?_, rfl, .inr ⟨_, _, _, _, rfl⟩⟩
    cases h
    exact Nat.le_refl _
/-- append of a row to nothing: a new slice. -/
theorem ao_own {σ : St} {y : V} {z n0 : Nat} {es : List (List V)} (h : RowOf σ y z es) (hl : es.length ≤ 1073741824) :
    AoV σ z false (.sl true .pub n0 []) y fun v σ' => (∃ b r, v = .sl b r z es) ∧ RdS σ' v z es ∧ Ext σ σ' := by
  obtain ⟨p, hp, p1, p2⟩ := elts_row h
  unfold AoV
  rw [hp]
  refine ⟨.inl rfl, ⟨rfl, p1, by rw [p2]; simpa using hl⟩, ?_⟩
  rw [p2]
  refine ⟨⟨_, _, rfl⟩, ⟨_, _, _, rfl, fun hb => ?_, ?_⟩, ext_push (.refl _)⟩
  · simpa using hb
  · cases es with
    | nil => exact .inl rfl
    | cons x es => exact .inr ⟨live_last _ _, rfl⟩
def AccS (n : Nat) (τ : St) (w : V) (l : List Sp) : Prop := (l = [] ∧ w = .sl true .pub 0 []) ∨ ∃ q, w = .sl false (.own q) 2 (spsV l) ∧ τ.live[q]? = some true ∧ n ≤ q
theorem AccS.rd {n : Nat} {τ : St} {w : V} {l : List Sp} (h : AccS n τ w l) : RdS τ w 2 (spsV l) := by
  rcases h with ⟨rfl, rfl⟩ | ⟨q, rfl, h1, h2⟩
  · exact ⟨true, .pub, 0, rfl, by simp [spsV], .inl rfl⟩
  · exact ⟨false, .own q, 2, rfl, by simp, .inr ⟨h1, rfl⟩⟩
theorem rdS_lv {τ τ' : St} {v : V} {s : Nat} {es : List (List V)} (h : RdS τ v s es) (e : ∀ r : Nat, τ.live[r]? = some true → τ'.live[r]? = some true) : RdS τ' v s es := by
  obtain ⟨b', r', s', h1, h2, h3⟩ := h
  refine ⟨b', r', s', h1, h2, h3.imp_right fun y => ⟨?_, y.2⟩⟩
  have := y.1
  cases r' with
  | pub => trivial
  | own q => exact e q this
  | view q => exact e q this
theorem setC_ne {τ : St} {i j : Nat} {cs : List V} (h : j ≠ i) : (τ.setC i cs).objs[j]? = τ.objs[j]? := setA_ne (o := .cells cs) h
theorem kill_keep {l : List Bool} {n q : Nat} (hq : n ≤ q) {p : Nat} (hp : p < n) {b c : Bool} (h : l[p]? = some true) : ((l ++ [b]).set q false ++ [c])[p]? = some true := by
  have h1 := (List.getElem?_eq_some_iff.1 h).1
  rw [List.getElem?_append_left (by simp; omega), List.getElem?_set_ne (by omega), List.getElem?_append_left h1]
  exact h
section
variable {σ : St} {i u k j y : Nat} {s : V} {O S W : List Sl} {w : V}
set_option maxRecDepth 100000 in
theorem each_nil : CallA Try.prog 30 [.ptr none] σ fun v σ' => Ext σ σ' ∧ ∃ j w, v = .fn 39 [.ptr (some (j, 0))] ∧ σ.objs.length ≤ j ∧ σ'.objs[j]? = some (.cells [w]) ∧ RdS σ' w 4 (slsV []) := by
  refine fn_at Try.func30 (by decide) comp30 rfl fun Q q1 q2 => ?_
  simp -implicitDefEqProofs only [go_sem, Nat.reduceBEq, Nat.reduceAdd, eq_self, true_and, and_true, and_self, List.getElem?_cons_zero, List.getElem?_cons_succ, Nat.reduceLeDiff, Nat.zero_add, Nat.reduceSub, Nat.le_refl, c30]
  refine cut_dup ?_
  simp -implicitDefEqProofs only [go_sem, Nat.reduceBEq, Nat.reduceAdd, eq_self, true_and, and_true, and_self, List.getElem?_cons_zero, List.getElem?_cons_succ, Nat.reduceLeDiff, Nat.zero_add, Nat.reduceSub, Nat.le_refl, Nat.lt_irrefl]
  refine q2 _ _ ?_
  simp -implicitDefEqProofs only [go_sem, Nat.reduceBEq, Nat.reduceAdd, eq_self, true_and, and_true, and_self, List.getElem?_cons_zero, List.getElem?_cons_succ, Nat.reduceLeDiff, Nat.zero_add, Nat.reduceSub, Nat.le_refl, Nat.lt_irrefl]
  exact ⟨ext_obj _ _, _, .sl true .pub 0 [], rfl, Nat.le_refl _, by simp, ⟨true, .pub, 0, rfl, fun _ => rfl, .inl rfl⟩⟩
set_option maxRecDepth 100000 in
theorem each_ok (h : RowIs σ i u k s O S) (hl : S.length ≤ 1000000) :
    CallA Try.prog 30 [.ptr (some (i, 0))] σ fun v σ' => Ext σ σ' ∧ ∃ j w, v = .fn 39 [.ptr (some (j, 0))] ∧ σ.objs.length ≤ j ∧ σ'.objs[j]? = some (.cells [w]) ∧ RdS σ' w 4 (slsV O) := by
  have hlen := h.len
  refine fn_at Try.func30 (by decide) comp30 rfl fun Q q1 q2 => ?_
  have he := ext_obj σ (.cells [.sl true .pub 0 []])
  have h := h.ext he
  have h1 := h.cells
  have h2 : (σ.objs ++ [AObj.cells [.sl true .pub 0 []]])[σ.objs.length]? = some (.cells [.sl true .pub 0 []]) := by simp
  simp -implicitDefEqProofs only [go_sem, Nat.reduceBEq, Nat.reduceAdd, eq_self, true_and, and_true, and_self, List.getElem?_cons_zero, List.getElem?_cons_succ, Nat.reduceLeDiff, Nat.zero_add, Nat.reduceSub, Nat.le_refl, c30]
  refine cut_dup ?_
  simp -implicitDefEqProofs only [go_sem, Nat.reduceBEq, Nat.reduceAdd, eq_self, true_and, and_true, and_self, List.getElem?_cons_zero, List.getElem?_cons_succ, Nat.reduceLeDiff, Nat.zero_add, Nat.reduceSub, Nat.le_refl, h1, h2]
  refine ao_at (ao_own h.row (by rw [slsV_length]; omega)) ?_
  rintro v τ ⟨⟨b, r, rfl⟩, h4, h5⟩
  refine ⟨h5.kept, ?_⟩
  have h3 := h5.objs _ _ h2
  have hlt := (List.getElem?_eq_some_iff.1 h3).1
  simp -implicitDefEqProofs only [go_sem, Nat.reduceBEq, Nat.reduceAdd, eq_self, true_and, and_true, and_self, List.getElem?_cons_zero, List.getElem?_cons_succ, Nat.reduceLeDiff, Nat.zero_add, Nat.reduceSub, Nat.le_refl, h3, flats, V.flat]
  refine q2 _ _ ?_
  simp -implicitDefEqProofs only [go_sem, Nat.reduceBEq, Nat.reduceAdd, eq_self, true_and, and_true, and_self, List.getElem?_cons_zero, List.getElem?_cons_succ, Nat.reduceLeDiff, Nat.zero_add, Nat.reduceSub, Nat.le_refl, Nat.lt_irrefl]
  have hex : Ext σ (τ.setC σ.objs.length [.sl b r 4 (slsV O)]) := ext_set (he.trans h5) (Nat.le_refl _)
  exact ⟨hex, _, _, rfl, Nat.le_refl _, setC_get hlt, h4⟩
set_option maxRecDepth 100000 in
set_option maxHeartbeats 1000000 in
theorem each1_ok (J : List Sl → St → Prop) (K : St → Prop) (hj : σ.objs[j]? = some (.cells [w])) (hw : RdS σ w 4 (slsV W)) (hW : W.length ≤ 100000)
    (hst : J W σ) (hJ : ∀ R τ, J R τ → ∀ q : Nat, σ.live[q]? = some true → τ.live[q]? = some true)
    (hY : ∀ a R τ, J (a :: R) τ → YldA Try.prog y [slV a] τ fun v τ2 => v = .bool true ∧ J R τ2 ∨ v = .bool false ∧ K τ2) (h0 : ∀ τ, J [] τ → K τ) :
    CallA Try.prog 39 [yv y, .ptr (some (j, 0))] σ fun _ σ' => K σ' := by
  obtain ⟨b, R, z, rfl, -, -⟩ := id hw
  refine fn_at Try.func39 (by decide) comp39 rfl fun Q q1 q2 => ?_
  simp -implicitDefEqProofs only [go_sem, Nat.reduceBEq, Nat.reduceAdd, eq_self, true_and, and_true, and_self, List.getElem?_cons_zero, List.getElem?_cons_succ, Nat.reduceLeDiff, Nat.zero_add, Nat.reduceSub, Nat.le_refl, c39, hj]
  refine loop_at (fun (k : Nat) => ⟨[(0, .v (yv y)), (5, .v (.sl b R z (slsV W))), (6, .v (.int .i64 (slsV W).length)), (7, .v (.int .i64 k))], []⟩)
    (fun k τ => k ≤ W.length ∧ J (W.drop k) τ) (fun k => W.length - k) 0 ?_ ?_ ?_
  · refine .inr ?_
    simp -implicitDefEqProofs only [go_sem, Nat.reduceBEq, Nat.reduceAdd, eq_self, true_and, and_true, and_self, List.getElem?_cons_zero, List.getElem?_cons_succ, Nat.reduceLeDiff, Nat.zero_add, Nat.reduceSub, Nat.le_refl, Nat.lt_irrefl]
    try trivial
  · exact ⟨Nat.zero_le _, hst⟩
  rintro k τ ⟨g1, g2⟩ Z z1 z2 z3
  have hWl := slsV_length W
  simp -implicitDefEqProofs only [go_sem, Nat.reduceBEq, Nat.reduceAdd, eq_self, true_and, and_true, and_self, List.getElem?_cons_zero, List.getElem?_cons_succ, Nat.reduceLeDiff, Nat.zero_add, Nat.reduceSub, Nat.le_refl, Nat.lt_irrefl]
  refine CondW_b (fun hc => ?_) (fun hc => ?_)
  · have hk : k < W.length := by simpa [slsV_length] using hc
    obtain ⟨k1, k2⟩ := rdl (rdS_lv hw (hJ _ _ g2)) (by cases W <;> simp [slsV] at hk ⊢)
    have hget := slsV_get hk
    have hib : (k : Int) < (slsV W).length := by omega
    rw [List.drop_eq_getElem_cons hk] at g2
    generalize W[k] = a at hget g2
    simp -implicitDefEqProofs only [go_sem, Nat.reduceBEq, Nat.reduceAdd, eq_self, true_and, and_true, and_self, List.getElem?_cons_zero, List.getElem?_cons_succ, Nat.reduceLeDiff, Nat.zero_add, Nat.reduceSub, Nat.le_refl, hget, slC]
    refine ⟨⟨by omega, hib, k2⟩, k1, ?_⟩
    refine yld_at (hY a _ τ g2) ?_
    rintro v τ3 (⟨rfl, c1⟩ | ⟨rfl, c1⟩)
    · refine ⟨kept_none, ?_⟩
      simp -implicitDefEqProofs only [go_sem, Nat.reduceBEq, Nat.reduceAdd, eq_self, true_and, and_true, and_self, List.getElem?_cons_zero, List.getElem?_cons_succ, Nat.reduceLeDiff, Nat.zero_add, Nat.reduceSub, Nat.le_refl, Bool.not_true]
      refine z1 (k + 1) _ _ (.inr ?_) (by omega) ⟨by omega, c1⟩
      simp -implicitDefEqProofs only [go_sem, Nat.reduceBEq, Nat.reduceAdd, eq_self, true_and, and_true, and_self, List.getElem?_cons_zero, List.getElem?_cons_succ, Nat.reduceLeDiff, Nat.zero_add, Nat.reduceSub, Nat.le_refl, Nat.lt_irrefl]
      rw [i64_in _ (by omega)]; simp
    · refine ⟨kept_none, ?_⟩
      simp -implicitDefEqProofs only [go_sem, Nat.reduceBEq, Nat.reduceAdd, eq_self, true_and, and_true, and_self, List.getElem?_cons_zero, List.getElem?_cons_succ, Nat.reduceLeDiff, Nat.zero_add, Nat.reduceSub, Nat.le_refl, Bool.not_false]
      refine z3 _ _ ?_
      simp -implicitDefEqProofs only [go_sem, Nat.reduceBEq, Nat.reduceAdd, eq_self, true_and, and_true, and_self, List.getElem?_cons_zero, List.getElem?_cons_succ, Nat.reduceLeDiff, Nat.zero_add, Nat.reduceSub, Nat.le_refl, Nat.lt_irrefl]
      refine q2 _ _ ?_
      simp -implicitDefEqProofs only [go_sem, Nat.reduceBEq, Nat.reduceAdd, eq_self, true_and, and_true, and_self, List.getElem?_cons_zero, List.getElem?_cons_succ, Nat.reduceLeDiff, Nat.zero_add, Nat.reduceSub, Nat.le_refl, Nat.lt_irrefl]
      exact c1
  · have hk : ¬ k < W.length := by simpa [slsV_length] using hc
    rw [List.drop_of_length_le (by omega)] at g2
    simp -implicitDefEqProofs only [go_sem, Nat.reduceBEq, Nat.reduceAdd, eq_self, true_and, and_true, and_self, List.getElem?_cons_zero, List.getElem?_cons_succ, Nat.reduceLeDiff, Nat.zero_add, Nat.reduceSub, Nat.le_refl, Nat.lt_irrefl]
    refine z2 _ _ _ ?_
    simp -implicitDefEqProofs only [go_sem, Nat.reduceBEq, Nat.reduceAdd, eq_self, true_and, and_true, and_self, List.getElem?_cons_zero, List.getElem?_cons_succ, Nat.reduceLeDiff, Nat.zero_add, Nat.reduceSub, Nat.le_refl, Nat.lt_irrefl]
    refine q1 _ _ ?_
    simp -implicitDefEqProofs only [go_sem, Nat.reduceBEq, Nat.reduceAdd, eq_self, true_and, and_true, and_self, List.getElem?_cons_zero, List.getElem?_cons_succ, Nat.reduceLeDiff, Nat.zero_add, Nat.reduceSub, Nat.le_refl, Nat.lt_irrefl]
    exact h0 _ g2
set_option maxRecDepth 100000 in
set_option maxHeartbeats 1000000 in
theorem order_of {p : V} (hl : O.length ≤ 100000) (he : ∀ σ1, Ext σ σ1 → CallA Try.prog 30 [p] σ1 fun v σ' => Ext σ1 σ' ∧ ∃ j w, v = .fn 39 [.ptr (some (j, 0))] ∧ σ1.objs.length ≤ j ∧ σ'.objs[j]? = some (.cells [w]) ∧ RdS σ' w 4 (slsV O)) :
    CallA Try.prog 13 [p] σ fun v σ' => AccS σ.live.length σ' v (stampsL O) ∧ Ext σ σ' := by
  refine fn_at Try.func13 (by decide) comp13 rfl fun Q q1 q2 => ?_
  simp -implicitDefEqProofs only [go_sem, Nat.reduceBEq, Nat.reduceAdd, eq_self, true_and, and_true, and_self, List.getElem?_cons_zero, List.getElem?_cons_succ, Nat.reduceLeDiff, Nat.zero_add, Nat.reduceSub, Nat.le_refl, c13]
  have e0 := ext_obj σ (.cells [.sl true .pub 0 []])
  have h0 : (σ.objs ++ [AObj.cells [.sl true .pub 0 []]])[σ.objs.length]? = some (.cells [.sl true .pub 0 []]) := by simp
  have hl0 : (σ.objs ++ [AObj.cells [.sl true .pub 0 []]]).length = σ.objs.length + 1 := by simp
  refine call_at (he _ e0) ?_
  rintro v τ ⟨e1, j, w, rfl, hjl, hj, hw⟩
  refine ⟨kept_none, ?_⟩
  have hp := e1.objs _ _ h0
  have hll := (e0.trans e1).llen
  have hol := (e0.trans e1).olen
  have e2 := e0.trans e1
  have hle := (List.getElem?_eq_some_iff.1 hp).1
  simp -implicitDefEqProofs only [go_sem, Nat.reduceBEq, Nat.reduceAdd, eq_self, true_and, and_true, and_self, List.getElem?_cons_zero, List.getElem?_cons_succ, Nat.reduceLeDiff, Nat.zero_add, Nat.reduceSub, Nat.le_refl, Nat.lt_irrefl]
  refine range_at ?_
  intro yl i0 r0 r1 r2 r3 hi hyy
  have e3 := ext_obj τ r0
  have hr0 : (⟨τ.objs ++ [r0], τ.live⟩ : St).objs[i0]? = some r0 := by rw [← hi]; simp
  refine CallA.mono (each1_ok (W := O)
    (fun R t => ∃ D w, O = D ++ R ∧ AccS τ.live.length t w (stampsL D) ∧ Ext σ t ∧ t.objs[σ.objs.length]? = some (.cells [w]) ∧ t.objs[i0]? = some r0 ∧ (∀ q : Nat, τ.live[q]? = some true → t.live[q]? = some true) ∧ τ.live.length ≤ t.live.length)
    (fun t => t.objs[i0]? = some r0 ∧ Ext σ t ∧ ∃ w, t.objs[σ.objs.length]? = some (.cells [w]) ∧ AccS τ.live.length t w (stampsL O))
    (e3.objs _ _ hj) (hw.ext e3) hl ?_ ?_ ?_ ?_) ?_
  · exact ⟨[], _, rfl, .inl ⟨rfl, rfl⟩, e2.trans e3, e3.objs _ _ hp, hr0, fun _ h => h, Nat.le_refl _⟩
  · rintro R t ⟨D, w, -, -, -, -, -, h, -⟩
    exact h
  · rintro a R t ⟨D, w, s1, s2, s3, s4, s5, s6, s7⟩
    refine hyy t _ _ s5 rfl fun Y0 y0 => ?_
    simp -implicitDefEqProofs only [go_sem, Nat.reduceBEq, Nat.reduceAdd, eq_self, true_and, and_true, and_self, List.getElem?_cons_zero, List.getElem?_cons_succ, Nat.reduceLeDiff, Nat.zero_add, Nat.reduceSub, Nat.le_refl, rndF, setPs, dropL, slV, slC]
    refine y0 _ _ s5 fun Y y1 y2 y3 => ?_
    clear y0 Y0
    have b3 := ext_setA s3 (i := i0) (o := r1) (by omega)
    have b4 : (t.setA i0 r1).objs[σ.objs.length]? = _ := (setA_ne (by omega)).trans s4
    have b5 : (t.setA i0 r1).objs[i0]? = some r1 := setA_at s5
    have b6 : ∀ q : Nat, τ.live[q]? = some true → (t.setA i0 r1).live[q]? = some true := s6
    have b7 : τ.live.length ≤ (t.setA i0 r1).live.length := s7
    have b2 : AccS τ.live.length (t.setA i0 r1) w (stampsL D) := s2
    generalize t.setA i0 r1 = t2 at b2 b3 b4 b5 b6 b7 ⊢
    clear s2 s3 s4 s5 s6 s7 hyy
    have hst : stampsL (D ++ [a]) = stampsL D ++ [a.a] := by simp [stampsL]
    have hDl : D.length ≤ 100000 := by have := congrArg List.length s1; simp only [List.length_append] at this; omega
    have hal : (spsV (stampsL D)).length = D.length := by simp [spsV, stampsL]
    have s1' : O = (D ++ [a]) ++ R := by rw [s1]; simp
    rcases b2 with ⟨hd, rfl⟩ | ⟨q, rfl, hq, hn⟩
    · have hap : spsV (stampsL (D ++ [a])) = [[.int .i64 a.a.c, .int .i64 a.a.r]] := by rw [hst, hd]; rfl
      simp -implicitDefEqProofs only [go_sem, Nat.reduceBEq, Nat.reduceAdd, eq_self, true_and, and_true, and_self, List.getElem?_cons_zero, List.getElem?_cons_succ, Nat.reduceLeDiff, Nat.zero_add, Nat.reduceSub, Nat.le_refl, b4]
      refine ⟨⟨.inl trivial, rfl, .inr (live_last _ _), .inl trivial⟩, ?_⟩
      have ex1 : Ext σ ⟨t2.objs, (t2.live ++ [true]) ++ [true]⟩ := ext_push (ext_push b3)
      have hl2 : ((t2.live ++ [true]) ++ [true])[t2.live.length + 1]? = some true := by simp
      have hll2 : ((t2.live ++ [true]) ++ [true]).length = t2.live.length + 2 := by simp
      refine y1 _ _ ?_ (.inl ⟨rfl, D ++ [a], .sl false (.own (t2.live.length + 1)) 2 (spsV (stampsL (D ++ [a]))), s1', .inr ⟨_, rfl, hl2, by omega⟩, ext_setA (ext_set ex1 (by omega)) (by omega), ?_, ?_, ?_, ?_⟩)
      · rw [setC_ne (by omega)]; exact b5
      · rw [setA_ne (by omega), setC_get (by show _ < t2.objs.length; exact (List.getElem?_eq_some_iff.1 b4).1), hap]
        simp
      · exact setA_at (o' := r1) (by rw [setC_ne (by omega)]; exact b5)
      · intro q h
        show ((t2.live ++ [true]) ++ [true])[q]? = some true
        have h0 := b6 q h
        have h1 := (List.getElem?_eq_some_iff.1 h0).1
        rw [List.getElem?_append_left (by simp; omega), List.getElem?_append_left h1]; exact h0
      · show _ ≤ ((t2.live ++ [true]) ++ [true]).length
        omega
    · have hap : spsV (stampsL (D ++ [a])) = spsV (stampsL D) ++ [[.int .i64 a.a.c, .int .i64 a.a.r]] := by rw [hst]; simp [spsV, spC]
      simp -implicitDefEqProofs only [go_sem, Nat.reduceBEq, Nat.reduceAdd, eq_self, true_and, and_true, and_self, List.getElem?_cons_zero, List.getElem?_cons_succ, Nat.reduceLeDiff, Nat.zero_add, Nat.reduceSub, Nat.le_refl, b4]
      refine ⟨⟨.inr trivial, .inr ((ext_live _ _).live _ hq), ⟨.inr (live_last _ _), .inl trivial⟩, by rw [hal]; omega⟩, ?_⟩
      have ex1 := ext_kill (ext_push b3 (b := true)) (r := q) (b := true) (by omega)
      have hl2 := live_last' (t2.live ++ [true]) q true
      refine y1 _ _ ?_ (.inl ⟨rfl, D ++ [a], .sl false (.own (t2.live ++ [true]).length) 2 (spsV (stampsL (D ++ [a]))), s1', .inr ⟨_, rfl, hl2, by simp only [List.length_append, List.length_singleton]; omega⟩, ext_setA (ext_set ex1 (by omega)) (by omega), ?_, ?_, ?_, ?_⟩)
      · rw [setC_ne (by omega)]; exact b5
      · rw [setA_ne (by omega), setC_get (by show _ < t2.objs.length; exact (List.getElem?_eq_some_iff.1 b4).1), hap]
      · exact setA_at (o' := r1) (by rw [setC_ne (by omega)]; exact b5)
      · intro p h
        exact kill_keep hn (List.getElem?_eq_some_iff.1 h).1 (b6 p h)
      · show _ ≤ ((kill (t2.live ++ [true]) (.own q) ++ [true]).length)
        simp only [kill, List.length_append, List.length_singleton, List.length_set]; omega
  · rintro t ⟨D, w, s1, s2, s3, s4, s5, s6, s7⟩
    rw [List.append_nil] at s1
    subst s1
    exact ⟨s5, s3, w, s4, s2⟩
  · rintro v t ⟨h1, h2, w, h3, h4⟩
    refine .inl ⟨h1, ?_⟩
    simp -implicitDefEqProofs only [go_sem, Nat.reduceBEq, Nat.reduceAdd, eq_self, true_and, and_true, and_self, List.getElem?_cons_zero, List.getElem?_cons_succ, Nat.reduceLeDiff, Nat.zero_add, Nat.reduceSub, Nat.le_refl, Nat.lt_irrefl]
    have h3' : (t.setA i0 (r3 .normal)).objs[σ.objs.length]? = _ := (setA_ne (by omega)).trans h3
    have h2' := ext_setA h2 (i := i0) (o := r3 .normal) (by omega)
    have h4' : AccS σ.live.length (t.setA i0 (r3 .normal)) w (stampsL O) := h4.imp_right fun ⟨q, e1, e2, e3⟩ => ⟨q, e1, e2, Nat.le_trans hll e3⟩
    generalize t.setA i0 (r3 .normal) = t2 at h2' h3' h4' ⊢
    have fin : ∀ F, sget 2 F.s = .v w → Q .ret F t2 := fun F hF => by
      refine q2 _ _ ?_
      simp -implicitDefEqProofs only [go_sem, Nat.reduceBEq, Nat.reduceAdd, eq_self, true_and, and_true, and_self, List.getElem?_cons_zero, List.getElem?_cons_succ, Nat.reduceLeDiff, Nat.zero_add, Nat.reduceSub, Nat.le_refl, hF]
      exact ⟨h4', h2'⟩
    rcases id h4' with ⟨-, rfl⟩ | ⟨q, rfl, -⟩
    all_goals
      simp -implicitDefEqProofs only [go_sem, Nat.reduceBEq, Nat.reduceAdd, eq_self, true_and, and_true, and_self, List.getElem?_cons_zero, List.getElem?_cons_succ, Nat.reduceLeDiff, Nat.zero_add, Nat.reduceSub, Nat.le_refl, h3']
      exact fin _ rfl
theorem order_ok (h : RowIs σ i u k s O S) (hl : S.length ≤ 100000) : CallA Try.prog 13 [.ptr (some (i, 0))] σ fun v σ' => AccS σ.live.length σ' v (stampsL O) ∧ Ext σ σ' :=
  order_of (by rw [h.len]; exact hl) fun _ he => each_ok (h.ext he) (by omega)
theorem order_nil : CallA Try.prog 13 [.ptr none] σ fun v σ' => AccS σ.live.length σ' v [] ∧ Ext σ σ' :=
  order_of (O := []) (by simp) fun _ _ => each_nil
end
end Go.VL.rga

namespace Go.VL.rga
open Go Go.VL Go.Proofs Go.IntWalk Go.VL.st Go.VL.row

/-- What stands just ahead. -/
def AheadIs (l : List Sp) (x y : Sp) : Prop := (x ∉ l ∧ y = zs) ∨ ∃ (k : Nat) (h : k < l.length), l[k] = x ∧ x ∉ l.take k ∧ ((k = 0 ∧ y = zs) ∨ ∃ (k' : Nat) (h' : k' < l.length), k = k' + 1 ∧ l[k'] = y)
theorem entsN_split {T : Nl} {a b : List (V × V)} {x : V × V} (h : entsN T = a ++ x :: b) : ∃ (u : Nl) (r : Sp × Nat) (w : Nl), T = u ++ r :: w ∧ a = entsN u ∧ x = (spV r.1, .int .i64 r.2) ∧ b = entsN w := by
  unfold entsN at h
  rw [List.map_eq_append_iff] at h
  obtain ⟨u, w', h1, h2, h3⟩ := h
  rw [List.map_eq_cons_iff] at h3
  obtain ⟨r, w, rfl, h4, h5⟩ := h3
  exact ⟨u, r, w, h1, h2.symm, h4.symm, h5.symm⟩
theorem entsN_nil {T : Nl} (h : entsN T = []) : T = [] := by simpa [entsN] using h
theorem memN_look {x : Sp} {p : Nat} : ∀ {T : Nl}, (T.map (·.1)).Nodup → (x, p) ∈ T → lookN x T = some p
  | [], _, h => by cases h
  | y :: T, hn, h => by
    rw [List.map_cons, List.nodup_cons] at hn
    simp only [lookN]
    rcases List.mem_cons.1 h with h | h
    · subst h; simp
    · have : x ≠ y.1 := fun e => hn.1 (List.mem_map.2 ⟨_, h, e⟩)
      simp only [this, decide_false, cond_false]
      exact memN_look hn.2 h
/-- A map in the midst of being copied: what is left, what there is. -/
structure CopI (f : Sp → Nat) (lf T : Nl) : Prop where
  look : ∀ y, (lookN y T).getD 0 = if y ∈ lf.map (·.1) then 0 else f y
  nd : (T.map (·.1)).Nodup
  lnd : (lf.map (·.1)).Nodup
  is : ∀ y ∈ lf, f y.1 = y.2
theorem CopI.start {f : Sp → Nat} {T T0 : Nl} (hn : (T.map (·.1)).Nodup) (hf : ∀ x, (lookN x T).getD 0 = f x) (h0n : (T0.map (·.1)).Nodup) (h0 : ∀ x, (lookN x T0).getD 0 = 0) : CopI f T T0 := by
  refine ⟨fun y => ?_, h0n, hn, fun y hy => ?_⟩
  · rw [h0]
    split
    · rfl
    · rename_i hy
      rw [← hf, lookN_mem.2 hy]; rfl
  · rw [← hf, memN_look hn hy]; rfl
theorem CopI.step {f : Sp → Nat} {u w T : Nl} {r : Sp × Nat} (h : CopI f (u ++ r :: w) T) : CopI f (u ++ w) (updN r.1 r.2 T) := by
  have g7 := h.lnd
  rw [List.map_append, List.map_cons, List.nodup_append, List.nodup_cons] at g7
  refine ⟨fun y => ?_, updN_nd h.nd, ?_, fun y hy => h.is y (by simp only [List.mem_append, List.mem_cons] at hy ⊢; exact hy.imp_right .inr)⟩
  · have := h.look y
    rw [updN_look]
    by_cases hy : y = r.1
    · rw [if_pos hy, hy, if_neg ?_, h.is r (by simp)]
      · rfl
      · rw [List.map_append, List.mem_append]
        rintro (h | h)
        · exact g7.2.2 _ h _ (List.mem_cons_self ..) rfl
        · exact g7.2.1.1 h
    · rw [if_neg hy, this]
      simp only [List.map_append, List.map_cons, List.mem_append, List.mem_cons, hy, false_or]
  · rw [List.map_append, List.nodup_append]
    exact ⟨g7.1, g7.2.1.2, fun a ha b hb => g7.2.2 a ha b (List.mem_cons.2 (.inr hb))⟩
section
variable {σ : St} {i u k j y : Nat} {s : V} {O S W : List Sl} {w : V} {x : Sp}
set_option maxRecDepth 100000 in
theorem ahead_nil : CallA Try.prog 28 [.ptr none, spV x] σ fun v σ' => v = .tup [spV zs, .bool false] ∧ σ' = σ := by
  refine fn_at Try.func28 (by decide) comp28 rfl fun Q q1 q2 => ?_
  simp -implicitDefEqProofs only [go_sem, Nat.reduceBEq, Nat.reduceAdd, eq_self, true_and, and_true, and_self, List.getElem?_cons_zero, List.getElem?_cons_succ, Nat.reduceLeDiff, Nat.zero_add, Nat.reduceSub, Nat.le_refl, c28, spV, spC]
  refine call_at (has_nil (x := x)) ?_
  rintro v τ ⟨rfl, rfl⟩
  refine ⟨kept_none, ?_⟩
  simp -implicitDefEqProofs only [go_sem, Nat.reduceBEq, Nat.reduceAdd, eq_self, true_and, and_true, and_self, List.getElem?_cons_zero, List.getElem?_cons_succ, Nat.reduceLeDiff, Nat.zero_add, Nat.reduceSub, Nat.le_refl, Bool.not_false]
  refine q2 _ _ ?_
  simp -implicitDefEqProofs only [go_sem, Nat.reduceBEq, Nat.reduceAdd, eq_self, true_and, and_true, and_self, List.getElem?_cons_zero, List.getElem?_cons_succ, Nat.reduceLeDiff, Nat.zero_add, Nat.reduceSub, Nat.le_refl, Nat.lt_irrefl]
  rfl
set_option maxRecDepth 100000 in
set_option maxHeartbeats 1000000 in
theorem ahead_ok (h : RowIs σ i u k s O S) (hn : S.length ≤ 1000000) : CallA Try.prog 28 [.ptr (some (i, 0)), spV x] σ fun v σ' => (∃ y, v = .tup [spV y, .bool (hasB S x)] ∧ AheadIs (stampsL O) x y) ∧ Ext σ σ' := by
  have hlen := h.len
  have hls : (stampsL O).length = O.length := by simp [stampsL]
  refine fn_at Try.func28 (by decide) comp28 rfl fun Q q1 q2 => ?_
  simp -implicitDefEqProofs only [go_sem, Nat.reduceBEq, Nat.reduceAdd, eq_self, true_and, and_true, and_self, List.getElem?_cons_zero, List.getElem?_cons_succ, Nat.reduceLeDiff, Nat.zero_add, Nat.reduceSub, Nat.le_refl, c28, spV, spC]
  refine call_at (has_ok (x := x) h) ?_
  rintro v τ ⟨rfl, rfl⟩
  refine ⟨kept_none, ?_⟩
  have hb' := hasB_ord h.ord x
  cases hb : hasB S x <;> rw [hb] at q2 hb'
  · simp -implicitDefEqProofs only [go_sem, Nat.reduceBEq, Nat.reduceAdd, eq_self, true_and, and_true, and_self, List.getElem?_cons_zero, List.getElem?_cons_succ, Nat.reduceLeDiff, Nat.zero_add, Nat.reduceSub, Nat.le_refl, Bool.not_false]
    refine q2 _ _ ?_
    simp -implicitDefEqProofs only [go_sem, Nat.reduceBEq, Nat.reduceAdd, eq_self, true_and, and_true, and_self, List.getElem?_cons_zero, List.getElem?_cons_succ, Nat.reduceLeDiff, Nat.zero_add, Nat.reduceSub, Nat.le_refl, Nat.lt_irrefl]
    exact ⟨⟨zs, rfl, .inl ⟨by simpa using hb'.symm, rfl⟩⟩, .refl _⟩
  simp -implicitDefEqProofs only [go_sem, Nat.reduceBEq, Nat.reduceAdd, eq_self, true_and, and_true, and_self, List.getElem?_cons_zero, List.getElem?_cons_succ, Nat.reduceLeDiff, Nat.zero_add, Nat.reduceSub, Nat.le_refl, Bool.not_true]
  refine call_at (place_ok (x := x) h (by omega)) ?_
  rintro v τ3 ⟨hat, he3, hl3⟩
  refine ⟨kept_none, ?_⟩
  rcases hat with ⟨hn, -⟩ | ⟨p, hp, hpe, hpt, rfl⟩
  · exact absurd (by simpa using hb'.symm) hn
  cases p with
  | zero =>
    have h0 : decide (((0 : Nat) : Int) > 0) = false := by decide
    simp -implicitDefEqProofs only [go_sem, Nat.reduceBEq, Nat.reduceAdd, eq_self, true_and, and_true, and_self, List.getElem?_cons_zero, List.getElem?_cons_succ, Nat.reduceLeDiff, Nat.zero_add, Nat.reduceSub, Nat.le_refl, h0]
    refine q2 _ _ ?_
    simp -implicitDefEqProofs only [go_sem, Nat.reduceBEq, Nat.reduceAdd, eq_self, true_and, and_true, and_self, List.getElem?_cons_zero, List.getElem?_cons_succ, Nat.reduceLeDiff, Nat.zero_add, Nat.reduceSub, Nat.le_refl, Nat.lt_irrefl]
    exact ⟨⟨zs, rfl, .inr ⟨0, hp, hpe, hpt, .inl ⟨rfl, rfl⟩⟩⟩, he3⟩
  | succ p =>
    have h0 : decide (((p + 1 : Nat) : Int) > 0) = true := by rw [decide_eq_true_eq]; omega
    have hw : IntKind.i64.wrap (((p + 1 : Nat) : Int) - 1) = (p : Int) := by rw [i64_in _ (by omega)]; omega
    have hi : p < O.length := by omega
    have h3 := h.ext he3
    have h31 := h3.cells
    have hpa : (stampsL O)[p]'(by omega) = O[p].a := by simp [stampsL]
    rcases h3.row with ⟨R, q, rfl, he⟩ | ⟨j', cap, rfl, ho, -, hc⟩
    · have hD : O = [] := by simpa [slsV] using he
      subst hD
      exact absurd hi (by simp)
    have hlm : (slsV O).length = O.length := slsV_length O
    have hget := row_drop0 hi
    have hb : (p : Int) < (slsV O).length := by rw [hlm]; omega
    generalize O[p] = d at *
    simp -implicitDefEqProofs only [go_sem, Nat.reduceBEq, Nat.reduceAdd, eq_self, true_and, and_true, and_self, List.getElem?_cons_zero, List.getElem?_cons_succ, Nat.reduceLeDiff, Nat.zero_add, Nat.reduceSub, Nat.le_refl, h0, h31, hw, ho, hget, Int.toNat_natCast, Nat.add_zero, slC]
    refine ⟨⟨by omega, hb⟩, ?_⟩
    refine q2 _ _ ?_
    simp -implicitDefEqProofs only [go_sem, Nat.reduceBEq, Nat.reduceAdd, eq_self, true_and, and_true, and_self, List.getElem?_cons_zero, List.getElem?_cons_succ, Nat.reduceLeDiff, Nat.zero_add, Nat.reduceSub, Nat.le_refl, Nat.lt_irrefl]
    exact ⟨⟨d.a, rfl, .inr ⟨p + 1, hp, hpe, hpt, .inr ⟨p, by omega, rfl, hpa⟩⟩⟩, he3⟩
theorem rowOf_nm' {τ : St} {w : V} {z b : Nat} {es : List (List V)} {lv : List LK} {ms : List (V × V)} {ver : Nat} (h : RowOf τ w z es) (hb : τ.objs[b]? = some (.mp lv ms ver)) : ∀ n cap z', w ≠ .osl b n cap z' := by
  intro n cap z' e
  rcases h with ⟨R, q, hs, -⟩ | ⟨j', cap', hs, h4, -⟩
  · rw [e] at hs; cases hs
  · rw [e] at hs
    cases hs
    rw [hb] at h4; cases h4
/-- The clone in the midst: its row, the map that is filled, the other one. -/
structure CopS (σ τ : St) (i1 mu mk d : Nat) (v : V) (O : List Sl) (f : Sp → Nat) (lf T : Nl) (ver : Nat) : Prop where
  ext : Ext σ τ
  cells : τ.objs[i1]? = some (.cells [v, .map (some mu), .map (some mk)])
  row : RowOf τ v 4 (slsV O)
  map : τ.objs[d]? = some (.mp KL (entsN T) ver)
  cop : CopI f lf T
theorem CopS.next {σ τ : St} {i1 mu mk d : Nat} {v : V} {O : List Sl} {f : Sp → Nat} {lf lf' T T' : Nl} {ver : Nat} (h : CopS σ τ i1 mu mk d v O f lf T ver) (hd : σ.objs.length ≤ d) (hc : CopI f lf' T') :
    CopS σ (τ.setM d KL (entsN T') (ver + 1)) i1 mu mk d v O f lf' T' (ver + 1) := by
  have hu : UpdS (fun k => k = d) τ (τ.setM d KL (entsN T') (ver + 1)) := updS_setM
  refine ⟨hu.toExt h.ext (by rintro j rfl; exact hd), hu.objs _ _ (fun e => ?_) h.cells, rowOf_up h.row hu fun j n cap z e => ?_, ?_, hc⟩
  · have := h.map
    rw [← e, h.cells] at this; cases this
  · rintro rfl
    exact rowOf_nm' h.row h.map _ _ _ e
  · show (τ.objs.set d _)[d]? = _
    rw [List.getElem?_set_self (List.getElem?_eq_some_iff.1 h.map).1]
theorem CopS.iter {σ τ : St} {i1 mu mk d a : Nat} {v : V} {O : List Sl} {f : Sp → Nat} {lf T : Nl} {ver : Nat} (h : CopS σ τ i1 mu mk d v O f lf T ver) {o : AObj} (ha : σ.objs.length ≤ a) (hn : ∀ o', τ.objs[a]? = some o' → ∃ m l c, o' = .it m l c) :
    CopS σ (τ.setA a o) i1 mu mk d v O f lf T ver := by
  have hu : UpdS (fun k => k = a) τ (τ.setA a o) := ⟨fun j o hj hx => (setA_ne hj).trans hx, fun _ h => h, by show _ ≤ (τ.objs.set _ _).length; rw [List.length_set]; exact Nat.le_refl _, Nat.le_refl _⟩
  refine ⟨hu.toExt h.ext (by rintro j rfl; exact ha), hu.objs _ _ (fun e => ?_) h.cells, rowOf_up h.row hu fun j n cap z e => ?_, hu.objs _ _ (fun e => ?_) h.map, h.cop⟩
  · obtain ⟨_, _, _, e2⟩ := hn _ (e ▸ h.cells)
    cases e2
  · rintro rfl
    rcases h.row with ⟨R, q, hs, -⟩ | ⟨j', cap', hs, h4, -⟩
    · rw [e] at hs; cases hs
    · rw [e] at hs
      cases hs
      obtain ⟨_, _, _, e2⟩ := hn _ h4
      cases e2
  · obtain ⟨_, _, _, e2⟩ := hn _ (e ▸ h.map)
    cases e2
theorem CopS.ext' {σ τ τ' : St} {i1 mu mk d : Nat} {v : V} {O : List Sl} {f : Sp → Nat} {lf T : Nl} {ver : Nat} (h : CopS σ τ i1 mu mk d v O f lf T ver) (he : Ext τ τ') : CopS σ τ' i1 mu mk d v O f lf T ver :=
  ⟨h.ext.trans he, he.objs _ _ h.cells, rowOf_up h.row (.of (S := fun _ => False) he) fun _ _ _ _ _ h => h, he.objs _ _ h.map, h.cop⟩
theorem CopS.fin {σ τ : St} {i1 mu mk d : Nat} {v : V} {O : List Sl} {f : Sp → Nat} {T : Nl} {ver : Nat} (h : CopS σ τ i1 mu mk d v O f [] T ver) : CntIs τ d f :=
  ⟨T, ver, h.map, h.cop.nd, fun x => by rw [h.cop.look]; rfl⟩
set_option maxRecDepth 100000 in
theorem clone_nil : CallA Try.prog 31 [.ptr none] σ fun v σ' => v = .ptr none ∧ σ' = σ := by
  refine fn_at Try.func31 (by decide) comp31 rfl fun Q q1 q2 => ?_
  simp -implicitDefEqProofs only [go_sem, Nat.reduceBEq, Nat.reduceAdd, eq_self, true_and, and_true, and_self, List.getElem?_cons_zero, List.getElem?_cons_succ, Nat.reduceLeDiff, Nat.zero_add, Nat.reduceSub, Nat.le_refl, c31]
  refine q2 _ _ ?_
  simp -implicitDefEqProofs only [go_sem, Nat.reduceBEq, Nat.reduceAdd, eq_self, true_and, and_true, and_self, List.getElem?_cons_zero, List.getElem?_cons_succ, Nat.reduceLeDiff, Nat.zero_add, Nat.reduceSub, Nat.le_refl, Nat.lt_irrefl]
  try exact ⟨rfl, rfl⟩
set_option maxRecDepth 100000 in
set_option maxHeartbeats 3200000 in
theorem clone_ok (h : RowIs σ i u k s O S) (hl : S.length ≤ 1000000) :
    CallA Try.prog 31 [.ptr (some (i, 0))] σ fun v σ' => ∃ i1 u1 k1 s1, v = .ptr (some (i1, 0)) ∧ RowIs σ' i1 u1 k1 s1 O S ∧ Ext σ σ' ∧ ∀ j, Own i1 u1 k1 s1 j → σ.objs.length ≤ j := by
  have hlen := h.len
  refine fn_at Try.func31 (by decide) comp31 rfl fun Q q1 q2 => ?_
  simp -implicitDefEqProofs only [go_sem, Nat.reduceBEq, Nat.reduceAdd, eq_self, true_and, and_true, and_self, List.getElem?_cons_zero, List.getElem?_cons_succ, Nat.reduceLeDiff, Nat.zero_add, Nat.reduceSub, Nat.le_refl, c31]
  refine call_at new_ok ?_
  rintro v τ0 ⟨rfl, hn0, he0, hl0⟩
  refine ⟨kept_none, ?_⟩
  generalize hi1e : σ.objs.length + 2 = i1 at *
  generalize hu1e : σ.objs.length + 1 = k1 at *
  have ht0 := h.ext he0
  have c1 := hn0.cells
  have c0 := ht0.cells
  simp -implicitDefEqProofs only [go_sem, Nat.reduceBEq, Nat.reduceAdd, eq_self, true_and, and_true, and_self, List.getElem?_cons_zero, List.getElem?_cons_succ, Nat.reduceLeDiff, Nat.zero_add, Nat.reduceSub, Nat.le_refl, c1, c0]
  refine ao_at (ao_copy ht0.row (by rw [slsV_length]; omega)) ?_
  rintro v τ1 ⟨hrow, he1, hl1, hfr, hfl, hv⟩
  refine ⟨he1.kept, ?_⟩
  have c1' := he1.objs _ _ c1
  have hlt1 := (List.getElem?_eq_some_iff.1 c1').1
  have hu2 : UpdS (fun k => k = i1) τ1 (τ1.setC i1 [v, .map (some σ.objs.length), .map (some k1)]) := updS_setC
  have he2 : Ext σ (τ1.setC i1 [v, .map (some σ.objs.length), .map (some k1)]) := hu2.toExt (he0.trans he1) (by rintro j rfl; omega)
  have hcur : (τ1.setC i1 [v, .map (some σ.objs.length), .map (some k1)]).objs[i1]? = some (.cells [v, .map (some σ.objs.length), .map (some k1)]) := setC_get hlt1
  have hrow2 : RowOf (τ1.setC i1 [v, .map (some σ.objs.length), .map (some k1)]) v 4 (slsV O) := by
    refine rowOf_up hrow hu2 fun k n cap z e => ?_
    have := hfr k n cap z e
    have h2 : i1 < τ0.objs.length := (List.getElem?_eq_some_iff.1 c1).1
    omega
  obtain ⟨Tu, vu, mu, nu, fu⟩ := h.und
  obtain ⟨Tk, vk, mk, nk, fk⟩ := h.has
  obtain ⟨Tu0, vu0, mu0, nu0, fu0⟩ := hn0.und
  obtain ⟨Tk0, vk0, mk0, nk0, fk0⟩ := hn0.has
  have hul : u < σ.objs.length := (List.getElem?_eq_some_iff.1 mu).1
  have hkl : k < σ.objs.length := (List.getElem?_eq_some_iff.1 mk).1
  have mu0 := hu2.objs _ _ (by omega) (he1.objs _ _ mu0)
  have mk0 := hu2.objs _ _ (by omega) (he1.objs _ _ mk0)
  have hCu : CopS σ (τ1.setC i1 [v, .map (some σ.objs.length), .map (some k1)]) i1 σ.objs.length k1 σ.objs.length v O (cntU S) Tu Tu0 vu0 :=
    ⟨he2, hcur, hrow2, mu0, CopI.start nu fu nu0 fun x => by rw [fu0]; rfl⟩
  have hci := he2.objs _ _ h.cells
  have hmu := he2.objs _ _ mu
  generalize hτ2 : τ1.setC i1 [v, .map (some σ.objs.length), .map (some k1)] = τ2 at *
  have h2l : i1 < τ2.objs.length := (List.getElem?_eq_some_iff.1 hcur).1
  have hgo : ∀ F : Fr, FrLe ⟨[(0, .v (.ptr (some (i, 0)))), (3, .v (.ptr (some (i1, 0))))], []⟩ F → True := fun _ _ => trivial
  obtain ⟨v', hv'⟩ : ∃ v', v' = v := ⟨_, rfl⟩
  rw [← hv'] at hCu hrow2
  have hfr' : ∀ (k_1 n cap z' : Nat), v' = V.osl k_1 n cap z' → σ.objs.length ≤ k_1 := fun k n cap z e => by have := hfr k n cap z (hv' ▸ e); have := he0.olen; omega
  clear hv' hfr hrow hcur hrow2 hu2
  rcases hv with hv | ⟨k0, n', cap', z', hv⟩
  all_goals
    subst hv
    simp -implicitDefEqProofs only [go_sem, Nat.reduceBEq, Nat.reduceAdd, eq_self, true_and, and_true, and_self, List.getElem?_cons_zero, List.getElem?_cons_succ, Nat.reduceLeDiff, Nat.zero_add, Nat.reduceSub, Nat.le_refl, c1', flats, V.flat]
    rw [hτ2]
    simp -implicitDefEqProofs only [go_sem, Nat.reduceBEq, Nat.reduceAdd, eq_self, true_and, and_true, and_self, List.getElem?_cons_zero, List.getElem?_cons_succ, Nat.reduceLeDiff, Nat.zero_add, Nat.reduceSub, Nat.le_refl, hci, hmu]
    refine loop_at (fun (x : Nl × Nl × Nat) => ⟨[(0, .v (.ptr (some (i, 0)))), (3, .v (.ptr (some (i1, 0)))), (27, .v (.ptr (some (τ2.objs.length, 0))))], []⟩)
      (fun x τ => CopS σ τ i1 σ.objs.length k1 σ.objs.length v' O (cntU S) x.1 x.2.1 x.2.2 ∧ τ.objs[k1]? = some (.mp KL (entsN Tk0) vk0) ∧
        (∃ cur, τ.objs[τ2.objs.length]? = some (.it (some (u, vu)) (entsN x.1) cur))) (fun x => x.1.length) (Tu, Tu0, vu0) ?_ ?_ ?_
    · refine .inr ?_
      simp -implicitDefEqProofs only [go_sem, Nat.reduceBEq, Nat.reduceAdd, eq_self, true_and, and_true, and_self, List.getElem?_cons_zero, List.getElem?_cons_succ, Nat.reduceLeDiff, Nat.zero_add, Nat.reduceSub, Nat.le_refl, Nat.lt_irrefl]
      try trivial
    · have e := ext_obj τ2 (.it (some (u, vu)) (entsN Tu) none)
      exact ⟨hCu.ext' e, e.objs _ _ mk0, none, by simp⟩
    rintro ⟨lf, T', ver'⟩ τ ⟨g1, g2, cur, g3⟩ Z z1 z2 z3
    simp only at g1 g3
    have gm := g1.ext.objs _ _ mu
    simp -implicitDefEqProofs only [go_sem, Nat.reduceBEq, Nat.reduceAdd, eq_self, true_and, and_true, and_self, List.getElem?_cons_zero, List.getElem?_cons_succ, Nat.reduceLeDiff, Nat.zero_add, Nat.reduceSub, Nat.le_refl, Nat.lt_irrefl]
    refine nx_at g3 (by rw [gm]; exact rfl) (fun hn => ?_) (fun a x b hx => ?_)
    · simp -implicitDefEqProofs only [go_sem, Nat.reduceBEq, Nat.reduceAdd, eq_self, true_and, and_true, and_self, List.getElem?_cons_zero, List.getElem?_cons_succ, Nat.reduceLeDiff, Nat.zero_add, Nat.reduceSub, Nat.le_refl, Nat.lt_irrefl]
      refine z2 _ _ _ ?_
      simp -implicitDefEqProofs only [go_sem, Nat.reduceBEq, Nat.reduceAdd, eq_self, true_and, and_true, and_self, List.getElem?_cons_zero, List.getElem?_cons_succ, Nat.reduceLeDiff, Nat.zero_add, Nat.reduceSub, Nat.le_refl, Nat.lt_irrefl]
      have hlf := entsN_nil hn
      subst hlf
      have gci := g1.ext.objs _ _ h.cells
      have gmk := g1.ext.objs _ _ mk
      have hfu := g1.fin
      have hCk : CopS σ τ i1 σ.objs.length k1 k1 v' O (cntH S) Tk Tk0 vk0 :=
        ⟨g1.ext, g1.cells, g1.row, g2, CopI.start nk fk nk0 fun x => by rw [fk0]; rfl⟩
      have hkτ : k1 < τ.objs.length := (List.getElem?_eq_some_iff.1 g2).1
      clear z1 z2 z3 gm g3 g1 g2 hn
      simp -implicitDefEqProofs only [go_sem, Nat.reduceBEq, Nat.reduceAdd, eq_self, true_and, and_true, and_self, List.getElem?_cons_zero, List.getElem?_cons_succ, Nat.reduceLeDiff, Nat.zero_add, Nat.reduceSub, Nat.le_refl, gci, gmk]
      refine loop_at (fun (x : Nl × Nl × Nat) => ⟨[(0, .v (.ptr (some (i, 0)))), (3, .v (.ptr (some (i1, 0)))), (43, .v (.ptr (some (τ.objs.length, 0))))], []⟩)
        (fun x t => CopS σ t i1 σ.objs.length k1 k1 v' O (cntH S) x.1 x.2.1 x.2.2 ∧ CntIs t σ.objs.length (cntU S) ∧
          (∃ cur, t.objs[τ.objs.length]? = some (.it (some (k, vk)) (entsN x.1) cur))) (fun x => x.1.length) (Tk, Tk0, vk0) ?_ ?_ ?_
      · refine .inr ?_
        simp -implicitDefEqProofs only [go_sem, Nat.reduceBEq, Nat.reduceAdd, eq_self, true_and, and_true, and_self, List.getElem?_cons_zero, List.getElem?_cons_succ, Nat.reduceLeDiff, Nat.zero_add, Nat.reduceSub, Nat.le_refl, Nat.lt_irrefl]
        try trivial
      · have e := ext_obj τ (.it (some (k, vk)) (entsN Tk) none)
        exact ⟨hCk.ext' e, hfu.up (P := fun _ => False) (.of e) fun h => h, none, by simp⟩
      rintro ⟨lf, T', ver'⟩ t ⟨g1, g2, cur, g3⟩ Z z1 z2 z3
      simp only at g1 g3
      have gm := g1.ext.objs _ _ mk
      obtain ⟨tu, tv, tu1, tu2⟩ := id g2
      have hti : σ.objs.length ≠ τ.objs.length := fun e => by rw [e, g3] at tu1; cases tu1
      simp -implicitDefEqProofs only [go_sem, Nat.reduceBEq, Nat.reduceAdd, eq_self, true_and, and_true, and_self, List.getElem?_cons_zero, List.getElem?_cons_succ, Nat.reduceLeDiff, Nat.zero_add, Nat.reduceSub, Nat.le_refl, Nat.lt_irrefl]
      refine nx_at g3 (by rw [gm]; exact rfl) (fun hn => ?_) (fun a x b hx => ?_)
      · simp -implicitDefEqProofs only [go_sem, Nat.reduceBEq, Nat.reduceAdd, eq_self, true_and, and_true, and_self, List.getElem?_cons_zero, List.getElem?_cons_succ, Nat.reduceLeDiff, Nat.zero_add, Nat.reduceSub, Nat.le_refl, Nat.lt_irrefl]
        refine z2 _ _ _ ?_
        simp -implicitDefEqProofs only [go_sem, Nat.reduceBEq, Nat.reduceAdd, eq_self, true_and, and_true, and_self, List.getElem?_cons_zero, List.getElem?_cons_succ, Nat.reduceLeDiff, Nat.zero_add, Nat.reduceSub, Nat.le_refl, Nat.lt_irrefl]
        have hlf := entsN_nil hn
        subst hlf
        refine q2 _ _ ?_
        simp -implicitDefEqProofs only [go_sem, Nat.reduceBEq, Nat.reduceAdd, eq_self, true_and, and_true, and_self, List.getElem?_cons_zero, List.getElem?_cons_succ, Nat.reduceLeDiff, Nat.zero_add, Nat.reduceSub, Nat.le_refl, Nat.lt_irrefl]
        refine ⟨i1, _, _, v', rfl, ⟨g1.cells, g1.row, g2, g1.fin, by omega, h.fine, h.ord⟩, g1.ext, ?_⟩
        rintro j (rfl | rfl | rfl | ⟨n, cap, z', e⟩)
        · omega
        · exact Nat.le_refl _
        · omega
        · exact hfr' j n cap z' e
      · obtain ⟨u', r, w, rfl, rfl, rfl, rfl⟩ := entsN_split hx
        have k1' := g1.iter (a := τ.objs.length) (o := .it (some (k, vk)) (entsN u' ++ entsN w) (some (spV r.1, .int .i64 r.2))) (by omega) (fun o' ho => by rw [g3] at ho; cases ho; exact ⟨_, _, _, rfl⟩)
        have k9 := setA_at (o := .it (some (k, vk)) (entsN u' ++ entsN w) (some (spV r.1, .int .i64 r.2))) g3
        have k2 : CntIs (t.setA τ.objs.length (.it (some (k, vk)) (entsN u' ++ entsN w) (some (spV r.1, .int .i64 r.2)))) σ.objs.length (cntU S) := by
          obtain ⟨T2, v2, c1, c2⟩ := g2
          exact ⟨T2, v2, (setA_ne hti).trans c1, c2⟩
        have km := k1'.ext.objs _ _ mk
        generalize (t.setA τ.objs.length (.it (some (k, vk)) (entsN u' ++ entsN w) (some (spV r.1, .int .i64 r.2)))) = t3 at k9 k1' k2 km
        have hv1 : isV (some (AObj.mp KL (entsN Tk) vk)) vk := rfl
        have hk : keyFits [.agg, .int .i64, .int .i64] (.agg [.int .i64 r.1.c, .int .i64 r.1.r]) = true := rfl
        have hup := upd_N r.1 r.2 T'
        have c3 := k1'.cells
        have c4 := k1'.map
        simp -implicitDefEqProofs only [go_sem, Nat.reduceBEq, Nat.reduceAdd, eq_self, true_and, and_true, and_self, List.getElem?_cons_zero, List.getElem?_cons_succ, Nat.reduceLeDiff, Nat.zero_add, Nat.reduceSub, Nat.le_refl, k9, km, hv1, spV, spC, c3, c4, hk]
        rw [hup]
        have k5 := k1'.next (lf' := u' ++ w) (T' := updN r.1 r.2 T') (by omega) k1'.cop.step
        have hu3 : UpdS (fun j => j = k1) t3 (t3.setM k1 KL (entsN (updN r.1 r.2 T')) (ver' + 1)) := updS_setM
        refine z1 (u' ++ w, updN r.1 r.2 T', ver' + 1) _ _ (.inr ?_) (by simp only [List.length_append, List.length_cons]; omega) ⟨k5, k2.up hu3 (by omega), some (spV r.1, .int .i64 r.2), by have := hu3.objs _ _ (by omega) k9; simp only [entsN, List.map_append] at this ⊢; exact this⟩
        simp -implicitDefEqProofs only [go_sem, Nat.reduceBEq, Nat.reduceAdd, eq_self, true_and, and_true, and_self, List.getElem?_cons_zero, List.getElem?_cons_succ, Nat.reduceLeDiff, Nat.zero_add, Nat.reduceSub, Nat.le_refl, Nat.lt_irrefl]
        try trivial
    · obtain ⟨u', r, w, rfl, rfl, rfl, rfl⟩ := entsN_split hx
      have k1' := g1.iter (a := τ2.objs.length) (o := .it (some (u, vu)) (entsN u' ++ entsN w) (some (spV r.1, .int .i64 r.2))) (by omega) (fun o' ho => by rw [g3] at ho; cases ho; exact ⟨_, _, _, rfl⟩)
      have k9 := setA_at (o := .it (some (u, vu)) (entsN u' ++ entsN w) (some (spV r.1, .int .i64 r.2))) g3
      have k2 : (τ.setA τ2.objs.length (.it (some (u, vu)) (entsN u' ++ entsN w) (some (spV r.1, .int .i64 r.2)))).objs[k1]? = _ := (setA_ne (by omega)).trans g2
      have km := k1'.ext.objs _ _ mu
      generalize (τ.setA τ2.objs.length (.it (some (u, vu)) (entsN u' ++ entsN w) (some (spV r.1, .int .i64 r.2)))) = τ3 at k9 k1' k2 km
      have hv1 : isV (some (AObj.mp KL (entsN Tu) vu)) vu := rfl
      have hk : keyFits [.agg, .int .i64, .int .i64] (.agg [.int .i64 r.1.c, .int .i64 r.1.r]) = true := rfl
      have hup := upd_N r.1 r.2 T'
      have c3 := k1'.cells
      have c4 := k1'.map
      simp -implicitDefEqProofs only [go_sem, Nat.reduceBEq, Nat.reduceAdd, eq_self, true_and, and_true, and_self, List.getElem?_cons_zero, List.getElem?_cons_succ, Nat.reduceLeDiff, Nat.zero_add, Nat.reduceSub, Nat.le_refl, k9, km, hv1, spV, spC, c3, c4, hk]
      rw [hup]
      have k5 := k1'.next (lf' := u' ++ w) (T' := updN r.1 r.2 T') (Nat.le_refl _) k1'.cop.step
      have hu3 : UpdS (fun k => k = σ.objs.length) τ3 (τ3.setM σ.objs.length KL (entsN (updN r.1 r.2 T')) (ver' + 1)) := updS_setM
      refine z1 (u' ++ w, updN r.1 r.2 T', ver' + 1) _ _ (.inr ?_) (by simp only [List.length_append, List.length_cons]; omega) ⟨k5, hu3.objs _ _ (by omega) k2, some (spV r.1, .int .i64 r.2), by have := hu3.objs _ _ (by omega) k9; simp only [entsN, List.map_append] at this ⊢; exact this⟩
      simp -implicitDefEqProofs only [go_sem, Nat.reduceBEq, Nat.reduceAdd, eq_self, true_and, and_true, and_self, List.getElem?_cons_zero, List.getElem?_cons_succ, Nat.reduceLeDiff, Nat.zero_add, Nat.reduceSub, Nat.le_refl, Nat.lt_irrefl]
      try trivial
end
end Go.VL.rga

namespace Go.VL.rga
open Go Go.VL Go.Proofs Go.IntWalk Go.VL.st

theorem Path.ne {S : List Sl} {x : Sp} (h : Path S x []) : False := by
  obtain ⟨q, e⟩ := h.last
  cases q <;> cases e
theorem up_way {S : List Sl} (hS : Fine S) {s : Sl} (hs : s ∈ S) : ∃ P, Path S s.a (P ++ [s.a]) ∧ ((¬ Has S s.u ∧ P = []) ∨ Path S s.u P) := by
  by_cases hu : Has S s.u
  · obtain ⟨P, hP⟩ := hS.path hu
    exact ⟨P, .kid hs hP, .inr hP⟩
  · exact ⟨[], .root hs hu, .inl ⟨hu, rfl⟩⟩
theorem between {S : List Sl} (hS : Fine S) {s : Sl} {x : Sp} (hs : s ∈ S) (hx : Bef S x s.a) (hb : Has S s.u → Bef S s.u x) :
    ∃ t ∈ S, (t.a = x ∨ less t.a x = true) ∧ less s.a t.a = true ∧ (Has S s.u → t.u = s.u) := by
  obtain ⟨P, hP, hc⟩ := up_way hS hs
  obtain ⟨l, m, h1, h2, h3⟩ := hx
  rw [h2.uniq hS hP] at h3
  clear h2
  have fin : ∀ c r, l = P ++ c :: r → ∃ t ∈ S, (t.a = x ∨ less t.a x = true) ∧ less s.a t.a = true ∧ (Has S s.u → t.u = s.u) := by
    rintro c r rfl
    rw [plt_app] at h3
    have hl : less s.a c = true := by
      rcases h3 with h | ⟨-, h⟩
      · exact h
      · cases r <;> exact h.elim
    obtain ⟨k1, k2⟩ := h1.part hS P c r rfl
    obtain ⟨t, ht, rfl, hk⟩ := path_snoc k1
    refine ⟨t, ht, k2, hl, fun hu => ?_⟩
    rcases hc with ⟨hn, -⟩ | hc
    · exact (hn hu).elim
    · rcases hk with ⟨-, e⟩ | ⟨q, hq, e⟩
      · have : P = [] := by
          cases P with
          | nil => rfl
          | cons a P => simp at e
        rw [this] at hc
        exact hc.ne.elim
      · obtain ⟨rfl, -⟩ := List.append_inj' e rfl
        obtain ⟨q1, e1⟩ := hc.last
        obtain ⟨q2, e2⟩ := hq.last
        rw [e1] at e2
        have := (List.append_inj' e2 rfl).2
        simp only [List.cons.injEq, and_true] at this
        exact this.symm
  rcases hc with ⟨hn, rfl⟩ | hc'
  · cases l with
    | nil => exact h1.ne.elim
    | cons c r => exact fin c r rfl
  · obtain ⟨l', m', k1, k2, k3⟩ := hb hc'.has
    rw [k1.uniq hS hc', k2.uniq hS h1] at k3
    rcases plt_cases k3 with ⟨c, r, e⟩ | ⟨q, a, b, r1, r2, e1, e2, hl⟩
    · exact fin c r e
    · exfalso
      rw [e1, e2, List.append_assoc, plt_app, List.cons_append] at h3
      rcases h3 with h | ⟨h, -⟩
      · have := less_trans h hl
        rw [less_irr] at this; cases this
      · rw [h, less_irr] at hl; cases hl
section
variable {S O w : List Sl} {s : Sl}
theorem Ord.at (hO : Ord S O) {i j : Nat} (hj : j < O.length) (hij : i < j) : Bef S (O[i]'(by omega)).a O[j].a :=
  List.pairwise_iff_getElem.1 hO.srt i j (by omega) hj hij
theorem Ord.nd (hS : Fine S) (hO : Ord S O) {i j : Nat} (hi : i < O.length) (hj : j < O.length) (e : O[i].a = O[j].a) : i = j := by
  rcases Nat.lt_trichotomy i j with h | h | h
  · have := hO.at hj h
    rw [e] at this
    exact (this.irr hS).elim
  · exact h
  · have := hO.at hi h
    rw [e] at this
    exact (this.irr hS).elim
/-- A slot stands behind its After. -/
theorem behind_up (hS : Fine S) (hO : Ord S O) {p q : Nat} (hp : p < O.length) (hq : q < O.length) (e : O[q].a = O[p].u) : q < p := by
  have hs := (hO.mem _).1 (List.getElem_mem hp)
  have hu : Has S O[p].u := ⟨O[q], (hO.mem _).1 (List.getElem_mem hq), e⟩
  obtain ⟨P, hP⟩ := hS.path hu
  have hb : Bef S O[q].a O[p].a := ⟨P, P ++ [O[p].a], by rw [e]; exact hP, .kid hs hP, plt_pre _ _ _⟩
  rcases Nat.lt_trichotomy q p with h | h | h
  · exact h
  · subst h
    exact (hb.irr hS).elim
  · exact ((hb.trans hS (hO.at hq h)).irr hS).elim
/-- What stands between is later, and beneath another one that was put behind the same. -/
theorem behind_all (hS : Fine S) (hO : Ord S O) {p k : Nat} (hp : p < O.length) (hk : k < p) (hq : ∀ (q : Nat) (h : q < O.length), O[q].a = O[p].u → q < k) :
    less O[p].a (O[k]'(by omega)).a = true ∧ (Has S O[p].u → ∃ t ∈ S, t.u = O[p].u ∧ less O[p].a t.a = true) := by
  have hs := (hO.mem _).1 (List.getElem_mem hp)
  obtain ⟨t, ht, h1, h2, h3⟩ := between hS hs (hO.at hp hk) fun ⟨t, ht, e⟩ => by
    obtain ⟨q, hq', rfl⟩ := List.getElem_of_mem ((hO.mem t).2 ht)
    have := hO.at (by omega) (hq q hq' e)
    rw [e] at this
    exact this
  refine ⟨?_, fun hu => ⟨t, ht, h3 hu, h2⟩⟩
  rcases h1 with e | h1
  · rw [← e]; exact h2
  · exact less_trans h2 h1
/-- A slot that is later than all others. -/
theorem latest_law {x y : Sp} (hS : Fine (w ++ [s])) (hO : Ord (w ++ [s]) O) (hl : ∀ t ∈ w, less t.a s.a = true) {p : Nat} (hp : p < O.length) (he : O[p].a = s.a) :
    (p = 0 ∧ hasB w s.u = false) ∨ ∃ q, ∃ (h : q < O.length), p = q + 1 ∧ O[q].a = s.u ∧ hasB w s.u = true := by
  have hm : s ∈ w ++ [s] := by simp
  have hps : O[p] = s := hS.uniq ((hO.mem _).1 (List.getElem_mem hp)) hm he
  have hnl : ∀ (k : Nat) (h : k < O.length), less s.a O[k].a = false := fun k h => by
    have := (hO.mem _).1 (List.getElem_mem h)
    rcases List.mem_append.1 this with h1 | h1
    · cases h2 : less s.a O[k].a
      · rfl
      · have := less_trans (hl _ h1) h2
        rw [less_irr] at this; cases this
    · rw [List.mem_singleton] at h1
      rw [h1]; exact less_irr _
  have hsu : s.u ≠ s.a := fun e => by
    by_cases hz : s.u = zs
    · exact hS.nz s hm (e ▸ hz)
    · have := hS.up s hm hz
      rw [e, less_irr] at this; cases this
  by_cases hu : ∃ (q : Nat) (h : q < O.length), O[q].a = s.u
  · obtain ⟨q, hq, e⟩ := hu
    have hqp := behind_up hS hO hp hq (by rw [hps]; exact e)
    right
    refine ⟨q, hq, ?_, e, hasB_iff.2 ?_⟩
    · rcases Nat.lt_or_ge (q + 1) p with h | h
      · have := (behind_all hS hO (k := q + 1) hp h fun q' h' e' => by
          have := hO.nd hS h' hq (e'.trans (by rw [hps]; exact e.symm))
          omega).1
        rw [he] at this
        rw [hnl] at this; cases this
      · omega
    · have := (hO.mem _).1 (List.getElem_mem hq)
      rcases List.mem_append.1 this with h1 | h1
      · exact ⟨_, h1, e⟩
      · rw [List.mem_singleton] at h1
        rw [h1] at e
        exact (hsu e.symm).elim
  · left
    have h0 : p = 0 := by
      rcases Nat.eq_zero_or_pos p with h | h
      · exact h
      · have := (behind_all hS hO (k := 0) hp h fun q' h' e' => (hu ⟨q', h', e'.trans (by rw [hps])⟩).elim).1
        rw [he, hnl] at this; cases this
    refine ⟨h0, ?_⟩
    cases h : hasB w s.u
    · rfl
    · obtain ⟨t, ht, e⟩ := hasB_iff.1 h
      obtain ⟨q, hq, rfl⟩ := List.getElem_of_mem ((hO.mem t).2 (List.mem_append.2 (.inl ht)))
      exact (hu ⟨q, hq, e⟩).elim
/-- One more, behind which none was put, leaves the others as they were. -/
theorem keeps_law {O' : List Sl} (hS : Fine w) (hS' : Fine (w ++ [s])) (hO : Ord w O) (hO' : Ord (w ++ [s]) O') (hx : ∀ t ∈ w, t.u ≠ s.a) {p : Nat} (hp : p < O'.length) (he : O'[p].a = s.a) :
    O'.take p ++ O'.drop (p + 1) = O := by
  have hm : ∀ t, t ∈ w ++ [s] ↔ t = s ∨ t ∈ w := fun t => by simp [or_comm]
  have hps : O'[p] = s := hS'.uniq ((hO'.mem _).1 (List.getElem_mem hp)) ((hm s).2 (.inl rfl)) he
  have hsub : (O'.take p ++ O'.drop (p + 1)).Sublist O' := by
    conv => rhs; rw [← List.take_append_drop p O']
    exact (List.Sublist.refl _).append (by rw [List.drop_eq_getElem_cons hp]; exact List.sublist_cons_self _ _)
  have hns : s ∉ O'.take p ++ O'.drop (p + 1) := by
    intro h
    have hnd : (O'.take p ++ O'[p] :: O'.drop (p + 1)).Nodup := by
      rw [← List.drop_eq_getElem_cons hp, List.take_append_drop]; exact hO'.perm_len hS'
    rw [List.nodup_append, List.nodup_cons, hps] at hnd
    rcases List.mem_append.1 h with h | h
    · exact hnd.2.2 s h s (List.mem_cons_self ..) rfl
    · exact hnd.2.1.1 h
  have hmem : ∀ t, t ∈ O'.take p ++ O'.drop (p + 1) ↔ t ∈ w := fun t => by
    constructor
    · intro h
      rcases (hm t).1 ((hO'.mem t).1 (hsub.subset h)) with rfl | h1
      · exact (hns h).elim
      · exact h1
    · intro h
      have := (hO'.mem t).2 ((hm t).2 (.inr h))
      rw [← List.take_append_drop p O', List.drop_eq_getElem_cons hp, hps] at this
      rcases List.mem_append.1 this with h1 | h1
      · exact List.mem_append.2 (.inl h1)
      · rcases List.mem_cons.1 h1 with rfl | h1
        · have hh := hS'.nd
          rw [List.map_append, List.nodup_append] at hh
          exact (hh.2.2 t.a (List.mem_map_of_mem h) t.a (by simp) rfl).elim
        · exact List.mem_append.2 (.inr h1)
  refine Ord.uniq hS ?_ hO.srt fun t => by rw [hmem, hO.mem]
  have h1 := hO'.srt.sublist hsub
  refine h1.imp_of_mem fun {t r} ht hr hb => ?_
  obtain ⟨l, m, k1, k2, k3⟩ := hb
  obtain ⟨l', k4⟩ := hS.path ⟨t, (hmem t).1 ht, rfl⟩
  obtain ⟨m', k5⟩ := hS.path ⟨r, (hmem r).1 hr, rfl⟩
  exact ⟨l', m', k4, k5, by rw [← k1.uniq hS' (k4.more hm hx), ← k2.uniq hS' (k5.more hm hx)]; exact k3⟩
end
end Go.VL.rga

namespace Go.VL.rga
open Go Go.VL Go.Proofs
/-- topiary/topiarylaw12.RgaKeeps: 2 parameters, 93 slots. -/
def c3 : C :=
  .seq (.ops [⟨none, .bxL 3 (.t 1)⟩,
    ⟨none, .mv 4 (.c (.bool false))⟩])
  (.seq (.ops [⟨none, .mv 13 (.t 0)⟩,
    ⟨none, .ca (some 14) 12 [(.t 13)]⟩,
    ⟨none, .mv 12 (.t 14)⟩,
    ⟨none, .ex 15 (.t 12) 0⟩,
    ⟨none, .ex 16 (.t 12) 1⟩,
    ⟨none, .mv 5 (.t 15)⟩,
    ⟨none, .mv 6 (.t 16)⟩])
  (.seq (.ops [⟨none, .mv 17 (.t 5)⟩,
    ⟨none, .ca (some 18) 13 [(.t 17)]⟩,
    ⟨none, .mv 7 (.t 18)⟩])
  (.seq (.seq (.ops [⟨none, .mv 8 (.c (.int .i64 0))⟩])
  (.block 0 (.loop (.seq (.seq (.ops [⟨none, .mv 19 (.t 8)⟩,
    ⟨none, .mv 20 (.t 6)⟩,
    ⟨none, .ln 21 .sl (.t 20)⟩,
    ⟨none, .bi 22 .lss (.t 19) (.t 21)⟩])
  (.cond (.t 22) (.skip)
    (.exit 0)))
  (.seq (.block 1 (.seq (.opsD [⟨none, .mv 25 (.t 6)⟩,
    ⟨none, .mv 26 (.t 8)⟩,
    ⟨none, .ia 27 (.t 25) (.t 26) 4⟩,
    ⟨none, .fa 28 (.t 27) 2⟩,
    ⟨none, .ld 29 (.t 28) 2 true⟩,
    ⟨none, .fa 30 (.t 3) 0⟩,
    ⟨none, .ld 31 (.t 30) 2 true⟩,
    ⟨none, .be 32 false [.int .i64, .int .i64] (.t 29) (.t 31)⟩])
  (.cond (.t 32) (.seq (.ops [⟨none, .ca (some 33) 14 []⟩,
      ⟨none, .mv 4 (.t 33)⟩])
    (.ret))
    (.skip))))
  (.ops [⟨none, .mv 23 (.t 8)⟩,
    ⟨none, .bi 24 .add (.t 23) (.c (.int .i64 1))⟩,
    ⟨none, .mv 8 (.t 24)⟩]))))))
  (.seq (.seq (.ops [⟨none, .fa 34 (.t 3) 2⟩,
    ⟨none, .ld 35 (.t 34) 2 true⟩,
    ⟨none, .bld 36 [.int .i64 0, .int .i64 0] []⟩,
    ⟨none, .be 37 true [.int .i64, .int .i64] (.t 35) (.t 36)⟩,
    ⟨none, .mv 38 (.t 37)⟩,
    ⟨some (38, true), .mv 39 (.t 5)⟩,
    ⟨some (38, true), .fa 40 (.t 3) 2⟩,
    ⟨some (38, true), .ld 41 (.t 40) 2 true⟩,
    ⟨some (38, true), .ca (some 42) 15 [(.t 39), (.t 41)]⟩,
    ⟨some (38, true), .un 43 .not (.t 42)⟩,
    ⟨none, .pk 44 (.t 38) (.t 43) (.c (.bool false))⟩])
  (.cond (.t 44) (.seq (.ops [⟨none, .ca (some 45) 14 []⟩,
      ⟨none, .mv 4 (.t 45)⟩])
    (.ret))
    (.skip)))
  (.seq (.seq (.ops [⟨none, .mv 46 (.t 5)⟩,
    ⟨none, .fa 47 (.t 3) 0⟩,
    ⟨none, .ld 48 (.t 47) 2 true⟩,
    ⟨none, .fa 49 (.t 3) 2⟩,
    ⟨none, .ld 50 (.t 49) 2 true⟩,
    ⟨none, .ca (some 51) 16 [(.t 46), (.t 48), (.t 50)]⟩,
    ⟨none, .bi 52 .neq (.t 51) (.c (.int .i64 0))⟩])
  (.cond (.t 52) (.seq (.ops [⟨none, .mv 53 (.t 5)⟩,
      ⟨none, .ca (some 54) 13 [(.t 53)]⟩,
      ⟨none, .mv 55 (.t 7)⟩,
      ⟨none, .ca (some 56) 17 [(.t 54), (.t 55)]⟩,
      ⟨none, .mv 57 (.t 56)⟩,
      ⟨some (57, true), .ca (some 58) 14 []⟩,
      ⟨none, .pk 59 (.t 57) (.t 58) (.c (.bool false))⟩,
      ⟨none, .mv 4 (.t 59)⟩])
    (.ret))
    (.skip)))
  (.seq (.ops [⟨none, .mv 60 (.t 5)⟩,
    ⟨none, .ca (some 61) 13 [(.t 60)]⟩,
    ⟨none, .mv 9 (.t 61)⟩])
  (.seq (.ops [⟨none, .mv 62 (.t 9)⟩,
    ⟨none, .fa 63 (.t 3) 0⟩,
    ⟨none, .ld 64 (.t 63) 2 true⟩,
    ⟨none, .ca (some 65) 18 [(.t 62), (.t 64)]⟩,
    ⟨none, .mv 10 (.t 65)⟩])
  (.seq (.seq (.ops [⟨none, .mv 66 (.t 10)⟩,
    ⟨none, .bi 67 .lss (.t 66) (.c (.int .i64 0))⟩,
    ⟨none, .mv 68 (.t 67)⟩,
    ⟨some (68, false), .mv 69 (.t 9)⟩,
    ⟨some (68, false), .ln 70 .sl (.t 69)⟩,
    ⟨some (68, false), .mv 71 (.t 7)⟩,
    ⟨some (68, false), .ln 72 .sl (.t 71)⟩,
    ⟨some (68, false), .bi 73 .add (.t 72) (.c (.int .i64 1))⟩,
    ⟨some (68, false), .bi 74 .neq (.t 70) (.t 73)⟩,
    ⟨none, .pk 75 (.t 68) (.c (.bool true)) (.t 74)⟩])
  (.cond (.t 75) (.seq (.ops [⟨none, .mv 4 (.c (.bool false))⟩])
    (.ret))
    (.skip)))
  (.seq (.ops [⟨none, .lit 76 2 []⟩,
    ⟨none, .mv 77 (.t 9)⟩,
    ⟨none, .mv 78 (.t 10)⟩,
    ⟨none, .sl 79 2 (.t 77) none (some (.t 78))⟩,
    ⟨none, .ap 80 2 (.t 76) (.t 79)⟩,
    ⟨none, .mv 11 (.t 80)⟩])
  (.seq (.ops [⟨none, .mv 81 (.t 11)⟩,
    ⟨none, .mv 82 (.t 9)⟩,
    ⟨none, .mv 83 (.t 10)⟩,
    ⟨none, .bi 84 .add (.t 83) (.c (.int .i64 1))⟩,
    ⟨none, .sl 85 2 (.t 82) (some (.t 84)) none⟩,
    ⟨none, .ap 86 2 (.t 81) (.t 85)⟩,
    ⟨none, .mv 11 (.t 86)⟩])
  (.seq (.ops [⟨none, .mv 87 (.t 11)⟩,
    ⟨none, .mv 88 (.t 7)⟩,
    ⟨none, .ca (some 89) 17 [(.t 87), (.t 88)]⟩,
    ⟨none, .mv 90 (.t 89)⟩,
    ⟨some (90, true), .ca (some 91) 14 []⟩,
    ⟨none, .pk 92 (.t 90) (.t 91) (.c (.bool false))⟩,
    ⟨none, .mv 4 (.t 92)⟩])
  (.ret))))))))))))
theorem comp3 : compFn Try.prog [3] Try.f3 = some ([.t 4], c3) := by kernel_rfl
/-- topiary/topiarylaw12.RgaBehind: 1 parameters, 82 slots. -/
def c4 : C :=
  .seq (.ops [⟨none, .mv 2 (.c (.bool false))⟩])
  (.seq (.ops [⟨none, .mv 11 (.t 0)⟩,
    ⟨none, .ca (some 12) 12 [(.t 11)]⟩,
    ⟨none, .mv 10 (.t 12)⟩,
    ⟨none, .ex 13 (.t 10) 0⟩,
    ⟨none, .ex 14 (.t 10) 1⟩,
    ⟨none, .mv 3 (.t 13)⟩,
    ⟨none, .mv 4 (.t 14)⟩])
  (.seq (.ops [⟨none, .mv 15 (.t 3)⟩,
    ⟨none, .ca (some 16) 13 [(.t 15)]⟩,
    ⟨none, .mv 5 (.t 16)⟩])
  (.seq (.seq (.ops [⟨none, .mv 6 (.c (.int .i64 0))⟩])
  (.block 0 (.loop (.seq (.seq (.ops [⟨none, .mv 17 (.t 6)⟩,
    ⟨none, .mv 18 (.t 4)⟩,
    ⟨none, .ln 19 .sl (.t 18)⟩,
    ⟨none, .bi 20 .lss (.t 17) (.t 19)⟩])
  (.cond (.t 20) (.skip)
    (.exit 0)))
  (.seq (.block 1 (.seq (.ops [⟨none, .mv 23 (.t 5)⟩,
    ⟨none, .mv 24 (.t 4)⟩,
    ⟨none, .mv 25 (.t 6)⟩,
    ⟨none, .ia 26 (.t 24) (.t 25) 4⟩,
    ⟨none, .fa 27 (.t 26) 0⟩,
    ⟨none, .ld 28 (.t 27) 2 true⟩,
    ⟨none, .ca (some 29) 18 [(.t 23), (.t 28)]⟩,
    ⟨none, .mv 7 (.t 29)⟩])
  (.seq (.ops [⟨none, .mv 30 (.t 5)⟩,
    ⟨none, .mv 31 (.t 4)⟩,
    ⟨none, .mv 32 (.t 6)⟩,
    ⟨none, .ia 33 (.t 31) (.t 32) 4⟩,
    ⟨none, .fa 34 (.t 33) 2⟩,
    ⟨none, .ld 35 (.t 34) 2 true⟩,
    ⟨none, .ca (some 36) 18 [(.t 30), (.t 35)]⟩,
    ⟨none, .mv 8 (.t 36)⟩])
  (.seq (.seq (.ops [⟨none, .mv 37 (.t 7)⟩,
    ⟨none, .bi 38 .lss (.t 37) (.c (.int .i64 0))⟩,
    ⟨none, .mv 39 (.t 38)⟩,
    ⟨some (39, false), .mv 40 (.t 8)⟩,
    ⟨some (39, false), .mv 41 (.t 7)⟩,
    ⟨some (39, false), .bi 42 .geq (.t 40) (.t 41)⟩,
    ⟨none, .pk 43 (.t 39) (.c (.bool true)) (.t 42)⟩,
    ⟨none, .mv 44 (.t 43)⟩,
    ⟨some (44, false), .mv 45 (.t 4)⟩,
    ⟨some (44, false), .mv 46 (.t 4)⟩,
    ⟨some (44, false), .mv 47 (.t 6)⟩,
    ⟨some (44, false), .ia 48 (.t 46) (.t 47) 4⟩,
    ⟨some (44, false), .fa 49 (.t 48) 2⟩,
    ⟨some (44, false), .ld 50 (.t 49) 2 true⟩,
    ⟨some (44, false), .ca (some 51) 19 [(.t 45), (.t 50)]⟩,
    ⟨some (44, false), .mv 52 (.t 8)⟩,
    ⟨some (44, false), .bi 53 .geq (.t 52) (.c (.int .i64 0))⟩,
    ⟨some (44, false), .bq 54 true .bool (.t 51) (.t 53)⟩,
    ⟨none, .pk 55 (.t 44) (.c (.bool true)) (.t 54)⟩])
  (.cond (.t 55) (.seq (.ops [⟨none, .mv 2 (.c (.bool false))⟩])
    (.ret))
    (.skip)))
  (.seq (.ops [⟨none, .mv 56 (.t 8)⟩,
    ⟨none, .bi 57 .add (.t 56) (.c (.int .i64 1))⟩,
    ⟨none, .mv 9 (.t 57)⟩])
  (.block 2 (.loop (.seq (.seq (.ops [⟨none, .mv 58 (.t 9)⟩,
    ⟨none, .mv 59 (.t 7)⟩,
    ⟨none, .bi 60 .lss (.t 58) (.t 59)⟩])
  (.cond (.t 60) (.skip)
    (.exit 2)))
  (.seq (.block 3 (.seq (.opsD [⟨none, .mv 63 (.t 4)⟩,
    ⟨none, .mv 64 (.t 6)⟩,
    ⟨none, .ia 65 (.t 63) (.t 64) 4⟩,
    ⟨none, .fa 66 (.t 65) 0⟩,
    ⟨none, .ld 67 (.t 66) 2 true⟩,
    ⟨none, .mv 68 (.t 5)⟩,
    ⟨none, .mv 69 (.t 9)⟩,
    ⟨none, .ia 70 (.t 68) (.t 69) 2⟩,
    ⟨none, .ld 71 (.t 70) 2 true⟩,
    ⟨none, .ca (some 72) 20 [(.t 67), (.t 71)]⟩,
    ⟨none, .un 73 .not (.t 72)⟩])
  (.cond (.t 73) (.seq (.ops [⟨none, .mv 2 (.c (.bool false))⟩])
    (.ret))
    (.skip))))
  (.ops [⟨none, .mv 61 (.t 9)⟩,
    ⟨none, .bi 62 .add (.t 61) (.c (.int .i64 1))⟩,
    ⟨none, .mv 9 (.t 62)⟩]))))))))))
  (.ops [⟨none, .mv 21 (.t 6)⟩,
    ⟨none, .bi 22 .add (.t 21) (.c (.int .i64 1))⟩,
    ⟨none, .mv 6 (.t 22)⟩]))))))
  (.seq (.ops [⟨none, .mv 74 (.t 5)⟩,
    ⟨none, .ln 75 .sl (.t 74)⟩,
    ⟨none, .mv 76 (.t 4)⟩,
    ⟨none, .ln 77 .sl (.t 76)⟩,
    ⟨none, .bi 78 .eql (.t 75) (.t 77)⟩,
    ⟨none, .mv 79 (.t 78)⟩,
    ⟨some (79, true), .ca (some 80) 14 []⟩,
    ⟨none, .pk 81 (.t 79) (.t 80) (.c (.bool false))⟩,
    ⟨none, .mv 2 (.t 81)⟩])
  (.ret)))))
theorem comp4 : compFn Try.prog [] Try.f4 = some ([.t 2], c4) := by kernel_rfl
/-- topiary/topiarylaw12.RgaRuns: 3 parameters, 216 slots. -/
def c5 : C :=
  .seq (.ops [⟨none, .bxL 4 (.t 1)⟩,
    ⟨none, .mv 6 (.c (.bool false))⟩])
  (.seq (.ops [⟨none, .mv 25 (.t 0)⟩,
    ⟨none, .ca (some 26) 12 [(.t 25)]⟩,
    ⟨none, .mv 24 (.t 26)⟩,
    ⟨none, .ex 27 (.t 24) 0⟩,
    ⟨none, .ex 28 (.t 24) 1⟩,
    ⟨none, .mv 7 (.t 27)⟩,
    ⟨none, .mv 8 (.t 28)⟩])
  (.seq (.ops [⟨none, .fa 29 (.t 4) 0⟩,
    ⟨none, .ld 30 (.t 29) 1 false⟩,
    ⟨none, .cI 31 .u64 (.t 30)⟩,
    ⟨none, .bi 32 .rem (.t 31) (.c (.int .u64 12))⟩,
    ⟨none, .cI 33 .i64 (.t 32)⟩,
    ⟨none, .mv 9 (.t 33)⟩])
  (.seq (.ops [⟨none, .fa 34 (.t 4) 1⟩,
    ⟨none, .ld 35 (.t 34) 1 false⟩,
    ⟨none, .cI 36 .u64 (.t 35)⟩,
    ⟨none, .bi 37 .rem (.t 36) (.c (.int .u64 12))⟩,
    ⟨none, .cI 38 .i64 (.t 37)⟩,
    ⟨none, .mv 10 (.t 38)⟩])
  (.seq (.ops [⟨none, .bld 39 [.int .i64 0, .int .i64 0] []⟩,
    ⟨none, .alL 11 [.int .i64 0, .int .i64 0]⟩,
    ⟨none, .st (.t 11) (.t 39) 2⟩])
  (.cut (.seq (.ops [⟨none, .mv 40 (.t 8)⟩,
    ⟨none, .ln 41 .sl (.t 40)⟩,
    ⟨none, .bi 42 .gtr (.t 41) (.c (.int .i64 0))⟩,
    ⟨none, .mv 43 (.t 42)⟩,
    ⟨some (43, true), .fa 44 (.t 4) 4⟩,
    ⟨some (43, true), .ld 45 (.t 44) 1 false⟩,
    ⟨some (43, true), .un 46 .not (.t 45)⟩,
    ⟨none, .pk 47 (.t 43) (.t 46) (.c (.bool false))⟩])
  (.cond (.t 47) (.ops [⟨none, .mv 48 (.t 8)⟩,
      ⟨none, .mv 49 (.t 8)⟩,
      ⟨none, .ln 50 .sl (.t 49)⟩,
      ⟨none, .bi 51 .sub (.t 50) (.c (.int .i64 1))⟩,
      ⟨none, .ia 52 (.t 48) (.t 51) 4⟩,
      ⟨none, .fa 53 (.t 52) 0⟩,
      ⟨none, .ld 54 (.t 53) 2 true⟩,
      ⟨none, .st (.t 11) (.t 54) 2⟩])
    (.skip)))
  (.seq (.ops [⟨none, .mv 12 (.c (.int .i64 0))⟩])
  (.seq (.ops [⟨none, .mv 13 (.c (.bool false))⟩])
  (.seq (.seq (.ops [⟨none, .mv 14 (.c (.int .i64 0))⟩])
  (.block 0 (.loop (.seq (.seq (.ops [⟨none, .mv 55 (.t 14)⟩,
    ⟨none, .mv 56 (.t 8)⟩,
    ⟨none, .ln 57 .sl (.t 56)⟩,
    ⟨none, .bi 58 .lss (.t 55) (.t 57)⟩])
  (.cond (.t 58) (.skip)
    (.exit 0)))
  (.seq (.block 1 (.seq (.ops [⟨none, .mv 61 (.t 12)⟩,
    ⟨none, .mv 62 (.t 8)⟩,
    ⟨none, .mv 63 (.t 14)⟩,
    ⟨none, .ia 64 (.t 62) (.t 63) 4⟩,
    ⟨none, .fa 65 (.t 64) 0⟩,
    ⟨none, .fa 66 (.t 65) 0⟩,
    ⟨none, .ld 67 (.t 66) 1 false⟩,
    ⟨none, .mx 68 (.t 61) (.t 67)⟩,
    ⟨none, .mv 12 (.t 68)⟩])
  (.ops [⟨none, .mv 69 (.t 13)⟩,
    ⟨none, .mv 70 (.t 69)⟩,
    ⟨some (70, false), .mv 71 (.t 8)⟩,
    ⟨some (70, false), .mv 72 (.t 14)⟩,
    ⟨some (70, false), .ia 73 (.t 71) (.t 72) 4⟩,
    ⟨some (70, false), .fa 74 (.t 73) 0⟩,
    ⟨some (70, false), .fa 75 (.t 74) 1⟩,
    ⟨some (70, false), .ld 76 (.t 75) 1 false⟩,
    ⟨some (70, false), .bi 77 .eql (.t 76) (.c (.int .i64 20))⟩,
    ⟨none, .pk 78 (.t 70) (.c (.bool true)) (.t 77)⟩,
    ⟨none, .mv 79 (.t 78)⟩,
    ⟨some (79, false), .mv 80 (.t 8)⟩,
    ⟨some (79, false), .mv 81 (.t 14)⟩,
    ⟨some (79, false), .ia 82 (.t 80) (.t 81) 4⟩,
    ⟨some (79, false), .fa 83 (.t 82) 0⟩,
    ⟨some (79, false), .fa 84 (.t 83) 1⟩,
    ⟨some (79, false), .ld 85 (.t 84) 1 false⟩,
    ⟨some (79, false), .bi 86 .eql (.t 85) (.c (.int .i64 21))⟩,
    ⟨none, .pk 87 (.t 79) (.c (.bool true)) (.t 86)⟩,
    ⟨none, .mv 13 (.t 87)⟩])))
  (.ops [⟨none, .mv 59 (.t 14)⟩,
    ⟨none, .bi 60 .add (.t 59) (.c (.int .i64 1))⟩,
    ⟨none, .mv 14 (.t 60)⟩]))))))
  (.seq (.seq (.ops [⟨none, .mv 88 (.t 12)⟩,
    ⟨none, .bi 89 .gtr (.t 88) (.c (.int .i64 1099511627576))⟩,
    ⟨none, .mv 90 (.t 89)⟩,
    ⟨some (90, false), .mv 91 (.t 13)⟩,
    ⟨none, .pk 92 (.t 90) (.c (.bool true)) (.t 91)⟩])
  (.cond (.t 92) (.seq (.ops [⟨none, .ca (some 93) 14 []⟩,
      ⟨none, .mv 6 (.t 93)⟩])
    (.ret))
    (.skip)))
  (.seq (.ops [⟨none, .lit 94 4 []⟩,
    ⟨none, .mv 15 (.t 94)⟩])
  (.seq (.ops [⟨none, .lit 95 4 []⟩,
    ⟨none, .mv 16 (.t 95)⟩])
  (.seq (.ops [⟨none, .ld 96 (.t 11) 2 true⟩,
    ⟨none, .alL 17 [.int .i64 0, .int .i64 0]⟩,
    ⟨none, .st (.t 17) (.t 96) 2⟩])
  (.seq (.seq (.ops [⟨none, .mv 18 (.c (.int .i64 0))⟩])
  (.block 2 (.loop (.seq (.seq (.ops [⟨none, .mv 97 (.t 18)⟩,
    ⟨none, .mv 98 (.t 9)⟩,
    ⟨none, .bi 99 .lss (.t 97) (.t 98)⟩])
  (.cond (.t 99) (.skip)
    (.exit 2)))
  (.seq (.block 3 (.seq (.ops [⟨none, .mv 102 (.t 12)⟩,
    ⟨none, .bi 103 .add (.t 102) (.c (.int .i64 1))⟩,
    ⟨none, .fa 104 (.t 4) 2⟩,
    ⟨none, .ld 105 (.t 104) 1 false⟩,
    ⟨none, .cI 106 .u64 (.t 105)⟩,
    ⟨none, .bi 107 .rem (.t 106) (.c (.int .u64 50))⟩,
    ⟨none, .cI 108 .i64 (.t 107)⟩,
    ⟨none, .bi 109 .add (.t 103) (.t 108)⟩,
    ⟨none, .mv 110 (.t 18)⟩,
    ⟨none, .bi 111 .add (.t 109) (.t 110)⟩,
    ⟨none, .bld 112 [.int .i64 0, .int .i64 0] [(0, 1, (.t 111)), (1, 1, (.c (.int .i64 20)))]⟩,
    ⟨none, .ld 113 (.t 17) 2 true⟩,
    ⟨none, .bld 114 [.int .i64 0, .int .i64 0, .int .i64 0, .int .i64 0] [(0, 2, (.t 112)), (2, 2, (.t 113))]⟩,
    ⟨none, .alL 19 [.int .i64 0, .int .i64 0, .int .i64 0, .int .i64 0]⟩,
    ⟨none, .st (.t 19) (.t 114) 4⟩])
  (.seq (.ops [⟨none, .mv 115 (.t 15)⟩,
    ⟨none, .ld 116 (.t 19) 4 true⟩,
    ⟨none, .lit 117 4 [(.t 116)]⟩,
    ⟨none, .ap 118 4 (.t 115) (.t 117)⟩,
    ⟨none, .mv 15 (.t 118)⟩])
  (.ops [⟨none, .fa 119 (.t 19) 0⟩,
    ⟨none, .ld 120 (.t 119) 2 true⟩,
    ⟨none, .st (.t 17) (.t 120) 2⟩]))))
  (.ops [⟨none, .mv 100 (.t 18)⟩,
    ⟨none, .bi 101 .add (.t 100) (.c (.int .i64 1))⟩,
    ⟨none, .mv 18 (.t 101)⟩]))))))
  (.seq (.ops [⟨none, .ld 121 (.t 11) 2 true⟩,
    ⟨none, .st (.t 17) (.t 121) 2⟩])
  (.seq (.seq (.ops [⟨none, .mv 20 (.c (.int .i64 0))⟩])
  (.block 4 (.loop (.seq (.seq (.ops [⟨none, .mv 122 (.t 20)⟩,
    ⟨none, .mv 123 (.t 10)⟩,
    ⟨none, .bi 124 .lss (.t 122) (.t 123)⟩])
  (.cond (.t 124) (.skip)
    (.exit 4)))
  (.seq (.block 5 (.seq (.ops [⟨none, .mv 127 (.t 12)⟩,
    ⟨none, .bi 128 .add (.t 127) (.c (.int .i64 1))⟩,
    ⟨none, .fa 129 (.t 4) 3⟩,
    ⟨none, .ld 130 (.t 129) 1 false⟩,
    ⟨none, .cI 131 .u64 (.t 130)⟩,
    ⟨none, .bi 132 .rem (.t 131) (.c (.int .u64 50))⟩,
    ⟨none, .cI 133 .i64 (.t 132)⟩,
    ⟨none, .bi 134 .add (.t 128) (.t 133)⟩,
    ⟨none, .mv 135 (.t 20)⟩,
    ⟨none, .bi 136 .add (.t 134) (.t 135)⟩,
    ⟨none, .bld 137 [.int .i64 0, .int .i64 0] [(0, 1, (.t 136)), (1, 1, (.c (.int .i64 21)))]⟩,
    ⟨none, .ld 138 (.t 17) 2 true⟩,
    ⟨none, .bld 139 [.int .i64 0, .int .i64 0, .int .i64 0, .int .i64 0] [(0, 2, (.t 137)), (2, 2, (.t 138))]⟩,
    ⟨none, .alL 21 [.int .i64 0, .int .i64 0, .int .i64 0, .int .i64 0]⟩,
    ⟨none, .st (.t 21) (.t 139) 4⟩])
  (.seq (.ops [⟨none, .mv 140 (.t 16)⟩,
    ⟨none, .ld 141 (.t 21) 4 true⟩,
    ⟨none, .lit 142 4 [(.t 141)]⟩,
    ⟨none, .ap 143 4 (.t 140) (.t 142)⟩,
    ⟨none, .mv 16 (.t 143)⟩])
  (.ops [⟨none, .fa 144 (.t 21) 0⟩,
    ⟨none, .ld 145 (.t 144) 2 true⟩,
    ⟨none, .st (.t 17) (.t 145) 2⟩]))))
  (.ops [⟨none, .mv 125 (.t 20)⟩,
    ⟨none, .bi 126 .add (.t 125) (.c (.int .i64 1))⟩,
    ⟨none, .mv 20 (.t 126)⟩]))))))
  (.seq (.seq (.ops [⟨none, .mv 22 (.c (.int .i64 0))⟩])
  (.block 6 (.loop (.seq (.seq (.ops [⟨none, .mv 146 (.t 15)⟩,
    ⟨none, .ln 147 .sl (.t 146)⟩,
    ⟨none, .mv 148 (.t 16)⟩,
    ⟨none, .ln 149 .sl (.t 148)⟩,
    ⟨none, .bi 150 .add (.t 147) (.t 149)⟩,
    ⟨none, .bi 151 .gtr (.t 150) (.c (.int .i64 0))⟩])
  (.cond (.t 151) (.skip)
    (.exit 6)))
  (.cut (.block 7 (.seq (.ops [⟨none, .mv 154 (.t 16)⟩,
    ⟨none, .ln 155 .sl (.t 154)⟩,
    ⟨none, .bi 156 .eql (.t 155) (.c (.int .i64 0))⟩,
    ⟨none, .mv 157 (.t 156)⟩,
    ⟨some (157, false), .mv 158 (.t 15)⟩,
    ⟨some (157, false), .ln 159 .sl (.t 158)⟩,
    ⟨some (157, false), .bi 160 .gtr (.t 159) (.c (.int .i64 0))⟩,
    ⟨some (157, false), .mv 161 (.t 160)⟩,
    ⟨some (161, true), .mv 162 (.t 22)⟩,
    ⟨some (161, true), .mv 163 (.t 2)⟩,
    ⟨some (161, true), .ln 164 .sl (.t 163)⟩,
    ⟨some (161, true), .bi 165 .lss (.t 162) (.t 164)⟩,
    ⟨some (157, false), .pk 166 (.t 161) (.t 165) (.c (.bool false))⟩,
    ⟨some (157, false), .mv 167 (.t 166)⟩,
    ⟨some (167, true), .mv 168 (.t 2)⟩,
    ⟨some (167, true), .mv 169 (.t 22)⟩,
    ⟨some (167, true), .ia 170 (.t 168) (.t 169) 1⟩,
    ⟨some (167, true), .ld 171 (.t 170) 1 false⟩,
    ⟨some (167, true), .bi 172 .rem (.t 171) (.c (.int .i64 2))⟩,
    ⟨some (167, true), .bi 173 .eql (.t 172) (.c (.int .i64 0))⟩,
    ⟨some (157, false), .pk 174 (.t 167) (.t 173) (.c (.bool false))⟩,
    ⟨none, .pk 175 (.t 157) (.c (.bool true)) (.t 174)⟩,
    ⟨none, .mv 23 (.t 175)⟩])
  (.seq (.ops [⟨none, .mv 176 (.t 23)⟩])
  (.cond (.t 176) (.seq (.seq (.opsD [⟨none, .mv 177 (.t 7)⟩,
      ⟨none, .mv 178 (.t 15)⟩,
      ⟨none, .ia 179 (.t 178) (.c (.int .i64 0)) 4⟩,
      ⟨none, .fa 180 (.t 179) 0⟩,
      ⟨none, .ld 181 (.t 180) 2 true⟩,
      ⟨none, .mv 182 (.t 15)⟩,
      ⟨none, .ia 183 (.t 182) (.c (.int .i64 0)) 4⟩,
      ⟨none, .fa 184 (.t 183) 2⟩,
      ⟨none, .ld 185 (.t 184) 2 true⟩,
      ⟨none, .ca (some 186) 16 [(.t 177), (.t 181), (.t 185)]⟩,
      ⟨none, .bi 187 .neq (.t 186) (.c (.int .i64 0))⟩])
    (.cond (.t 187) (.seq (.ops [⟨none, .mv 6 (.c (.bool false))⟩])
      (.ret))
      (.skip)))
    (.ops [⟨none, .mv 188 (.t 15)⟩,
      ⟨none, .sl 189 4 (.t 188) (some (.c (.int .i64 1))) none⟩,
      ⟨none, .mv 15 (.t 189)⟩]))
    (.seq (.seq (.opsD [⟨none, .mv 190 (.t 7)⟩,
      ⟨none, .mv 191 (.t 16)⟩,
      ⟨none, .ia 192 (.t 191) (.c (.int .i64 0)) 4⟩,
      ⟨none, .fa 193 (.t 192) 0⟩,
      ⟨none, .ld 194 (.t 193) 2 true⟩,
      ⟨none, .mv 195 (.t 16)⟩,
      ⟨none, .ia 196 (.t 195) (.c (.int .i64 0)) 4⟩,
      ⟨none, .fa 197 (.t 196) 2⟩,
      ⟨none, .ld 198 (.t 197) 2 true⟩,
      ⟨none, .ca (some 199) 16 [(.t 190), (.t 194), (.t 198)]⟩,
      ⟨none, .bi 200 .neq (.t 199) (.c (.int .i64 0))⟩])
    (.cond (.t 200) (.seq (.ops [⟨none, .mv 6 (.c (.bool false))⟩])
      (.ret))
      (.skip)))
    (.ops [⟨none, .mv 201 (.t 16)⟩,
      ⟨none, .sl 202 4 (.t 201) (some (.c (.int .i64 1))) none⟩,
      ⟨none, .mv 16 (.t 202)⟩]))))))
  (.ops [⟨none, .mv 152 (.t 22)⟩,
    ⟨none, .bi 153 .add (.t 152) (.c (.int .i64 1))⟩,
    ⟨none, .mv 22 (.t 153)⟩]))))))
  (.seq (.ops [⟨none, .mv 203 (.t 7)⟩,
    ⟨none, .ca (some 204) 13 [(.t 203)]⟩,
    ⟨none, .mv 205 (.t 9)⟩,
    ⟨none, .ca (some 206) 21 [(.t 204), (.c (.int .i64 20)), (.t 205)]⟩,
    ⟨none, .mv 207 (.t 206)⟩,
    ⟨some (207, true), .mv 208 (.t 7)⟩,
    ⟨some (207, true), .ca (some 209) 13 [(.t 208)]⟩,
    ⟨some (207, true), .mv 210 (.t 10)⟩,
    ⟨some (207, true), .ca (some 211) 21 [(.t 209), (.c (.int .i64 21)), (.t 210)]⟩,
    ⟨none, .pk 212 (.t 207) (.t 211) (.c (.bool false))⟩,
    ⟨none, .mv 213 (.t 212)⟩,
    ⟨some (213, true), .ca (some 214) 14 []⟩,
    ⟨none, .pk 215 (.t 213) (.t 214) (.c (.bool false))⟩,
    ⟨none, .mv 6 (.t 215)⟩])
  (.ret))))))))))))))))))
theorem comp5 : compFn Try.prog [4, 11, 17, 19, 21] Try.f5 = some ([.t 6], c5) := by kernel_rfl
/-- topiary/topiarylaw12.RgaAdds: 1 parameters, 61 slots. -/
def c6 : C :=
  .seq (.ops [⟨none, .mv 2 (.c (.bool false))⟩])
  (.seq (.ops [⟨none, .ca (some 8) 22 []⟩,
    ⟨none, .mv 3 (.t 8)⟩])
  (.seq (.seq (.ops [⟨none, .mv 9 (.t 3)⟩,
    ⟨none, .bq 10 false .ptr (.t 9) (.c (.ptr none))⟩])
  (.cond (.t 10) (.seq (.ops [⟨none, .mv 2 (.c (.bool false))⟩])
    (.ret))
    (.skip)))
  (.seq (.ops [⟨none, .lit 11 4 []⟩,
    ⟨none, .mv 4 (.t 11)⟩])
  (.seq (.ops [⟨none, .mv 12 (.t 0)⟩,
    ⟨none, .ca (some 13) 23 [(.t 12)]⟩,
    ⟨none, .mv 0 (.t 13)⟩])
  (.seq (.seq (.ops [⟨none, .mv 5 (.c (.int .i64 0))⟩])
  (.block 0 (.loop (.seq (.seq (.ops [⟨none, .mv 14 (.t 5)⟩,
    ⟨none, .mv 15 (.t 0)⟩,
    ⟨none, .ln 16 .sl (.t 15)⟩,
    ⟨none, .bi 17 .lss (.t 14) (.t 16)⟩])
  (.cond (.t 17) (.skip)
    (.exit 0)))
  (.seq (.block 1 (.seq (.ops [⟨none, .mv 21 (.t 4)⟩,
    ⟨none, .mv 22 (.t 0)⟩,
    ⟨none, .mv 23 (.t 5)⟩,
    ⟨none, .ia 24 (.t 22) (.t 23) 4⟩,
    ⟨none, .ld 25 (.t 24) 4 true⟩,
    ⟨none, .ca (some 26) 24 [(.t 21), (.t 25)]⟩,
    ⟨none, .mv 20 (.t 26)⟩,
    ⟨none, .ex 27 (.t 20) 0⟩,
    ⟨none, .ex 28 (.t 20) 1⟩,
    ⟨none, .mv 6 (.t 27)⟩,
    ⟨none, .mv 7 (.t 28)⟩])
  (.seq (.ops [⟨none, .mv 29 (.t 6)⟩,
    ⟨none, .mv 4 (.t 29)⟩])
  (.seq (.opsD [⟨none, .mv 30 (.t 3)⟩,
    ⟨none, .mv 31 (.t 0)⟩,
    ⟨none, .mv 32 (.t 5)⟩,
    ⟨none, .ia 33 (.t 31) (.t 32) 4⟩,
    ⟨none, .fa 34 (.t 33) 0⟩,
    ⟨none, .ld 35 (.t 34) 2 true⟩,
    ⟨none, .mv 36 (.t 0)⟩,
    ⟨none, .mv 37 (.t 5)⟩,
    ⟨none, .ia 38 (.t 36) (.t 37) 4⟩,
    ⟨none, .fa 39 (.t 38) 2⟩,
    ⟨none, .ld 40 (.t 39) 2 true⟩,
    ⟨none, .mv 42 (.t 7)⟩,
    ⟨none, .ca (some 41) 16 [(.t 30), (.t 35), (.t 40)]⟩,
    ⟨none, .bi 43 .neq (.t 41) (.t 42)⟩,
    ⟨none, .mv 44 (.t 43)⟩,
    ⟨some (44, false), .mv 45 (.t 3)⟩,
    ⟨some (44, false), .mv 47 (.t 4)⟩,
    ⟨some (44, false), .ln 48 .sl (.t 47)⟩,
    ⟨some (44, false), .ca (some 46) 25 [(.t 45)]⟩,
    ⟨some (44, false), .bi 49 .neq (.t 46) (.t 48)⟩,
    ⟨none, .pk 50 (.t 44) (.c (.bool true)) (.t 49)⟩,
    ⟨none, .mv 51 (.t 50)⟩,
    ⟨some (51, false), .mv 52 (.t 3)⟩,
    ⟨some (51, false), .mv 54 (.t 4)⟩,
    ⟨some (51, false), .ca (some 53) 13 [(.t 52)]⟩,
    ⟨some (51, false), .ca (some 55) 27 [(.t 54)]⟩,
    ⟨some (51, false), .ca (some 56) 26 [(.t 55)]⟩,
    ⟨some (51, false), .ca (some 57) 17 [(.t 53), (.t 56)]⟩,
    ⟨some (51, false), .un 58 .not (.t 57)⟩,
    ⟨none, .pk 59 (.t 51) (.c (.bool true)) (.t 58)⟩])
  (.cond (.t 59) (.seq (.ops [⟨none, .mv 2 (.c (.bool false))⟩])
    (.ret))
    (.skip))))))
  (.ops [⟨none, .mv 18 (.t 5)⟩,
    ⟨none, .bi 19 .add (.t 18) (.c (.int .i64 1))⟩,
    ⟨none, .mv 5 (.t 19)⟩]))))))
  (.seq (.ops [⟨none, .ca (some 60) 14 []⟩,
    ⟨none, .mv 2 (.t 60)⟩])
  (.ret)))))))
theorem comp6 : compFn Try.prog [] Try.f6 = some ([.t 2], c6) := by kernel_rfl
/-- topiary/topiarylaw12.RgaAny: 2 parameters, 81 slots. -/
def c7 : C :=
  .seq (.ops [⟨none, .mv 4 (.c (.bool false))⟩])
  (.seq (.ops [⟨none, .mv 13 (.t 0)⟩,
    ⟨none, .ca (some 14) 12 [(.t 13)]⟩,
    ⟨none, .mv 12 (.t 14)⟩,
    ⟨none, .ex 15 (.t 12) 0⟩,
    ⟨none, .ex 16 (.t 12) 1⟩,
    ⟨none, .mv 5 (.t 15)⟩,
    ⟨none, .mv 6 (.t 16)⟩])
  (.seq (.ops [⟨none, .ca (some 17) 22 []⟩,
    ⟨none, .mv 7 (.t 17)⟩])
  (.seq (.seq (.ops [⟨none, .mv 18 (.t 7)⟩,
    ⟨none, .bq 19 false .ptr (.t 18) (.c (.ptr none))⟩])
  (.cond (.t 19) (.seq (.ops [⟨none, .mv 4 (.c (.bool false))⟩])
    (.ret))
    (.skip)))
  (.seq (.ops [⟨none, .lit 20 4 []⟩,
    ⟨none, .mv 21 (.t 6)⟩,
    ⟨none, .ap 22 4 (.t 20) (.t 21)⟩,
    ⟨none, .mv 8 (.t 22)⟩])
  (.seq (.seq (.ops [⟨none, .mv 9 (.c (.int .i64 0))⟩])
  (.block 0 (.loop (.seq (.seq (.ops [⟨none, .mv 23 (.t 8)⟩,
    ⟨none, .ln 24 .sl (.t 23)⟩,
    ⟨none, .bi 25 .gtr (.t 24) (.c (.int .i64 0))⟩])
  (.cond (.t 25) (.skip)
    (.exit 0)))
  (.seq (.block 1 (.seq (.ops [⟨none, .mv 10 (.c (.int .i64 0))⟩])
  (.cut (.seq (.ops [⟨none, .mv 28 (.t 9)⟩,
    ⟨none, .mv 29 (.t 1)⟩,
    ⟨none, .ln 30 .sl (.t 29)⟩,
    ⟨none, .bi 31 .lss (.t 28) (.t 30)⟩])
  (.cond (.t 31) (.ops [⟨none, .mv 32 (.t 1)⟩,
      ⟨none, .mv 33 (.t 9)⟩,
      ⟨none, .ia 34 (.t 32) (.t 33) 1⟩,
      ⟨none, .ld 35 (.t 34) 1 false⟩,
      ⟨none, .cI 36 .u64 (.t 35)⟩,
      ⟨none, .mv 37 (.t 8)⟩,
      ⟨none, .ln 38 .sl (.t 37)⟩,
      ⟨none, .cI 39 .u64 (.t 38)⟩,
      ⟨none, .bi 40 .rem (.t 36) (.t 39)⟩,
      ⟨none, .cI 41 .i64 (.t 40)⟩,
      ⟨none, .mv 10 (.t 41)⟩])
    (.skip)))
  (.seq (.seq (.opsD [⟨none, .mv 42 (.t 7)⟩,
    ⟨none, .mv 43 (.t 8)⟩,
    ⟨none, .mv 44 (.t 10)⟩,
    ⟨none, .ia 45 (.t 43) (.t 44) 4⟩,
    ⟨none, .fa 46 (.t 45) 0⟩,
    ⟨none, .ld 47 (.t 46) 2 true⟩,
    ⟨none, .mv 48 (.t 8)⟩,
    ⟨none, .mv 49 (.t 10)⟩,
    ⟨none, .ia 50 (.t 48) (.t 49) 4⟩,
    ⟨none, .fa 51 (.t 50) 2⟩,
    ⟨none, .ld 52 (.t 51) 2 true⟩,
    ⟨none, .ca (some 53) 16 [(.t 42), (.t 47), (.t 52)]⟩,
    ⟨none, .bi 54 .neq (.t 53) (.c (.int .i64 0))⟩])
  (.cond (.t 54) (.seq (.ops [⟨none, .mv 4 (.c (.bool false))⟩])
    (.ret))
    (.skip)))
  (.seq (.ops [⟨none, .lit 55 4 []⟩,
    ⟨none, .mv 56 (.t 8)⟩,
    ⟨none, .mv 57 (.t 10)⟩,
    ⟨none, .sl 58 4 (.t 56) none (some (.t 57))⟩,
    ⟨none, .ap 59 4 (.t 55) (.t 58)⟩,
    ⟨none, .mv 11 (.t 59)⟩])
  (.ops [⟨none, .mv 60 (.t 11)⟩,
    ⟨none, .mv 61 (.t 8)⟩,
    ⟨none, .mv 62 (.t 10)⟩,
    ⟨none, .bi 63 .add (.t 62) (.c (.int .i64 1))⟩,
    ⟨none, .sl 64 4 (.t 61) (some (.t 63)) none⟩,
    ⟨none, .ap 65 4 (.t 60) (.t 64)⟩,
    ⟨none, .mv 8 (.t 65)⟩]))))))
  (.ops [⟨none, .mv 26 (.t 9)⟩,
    ⟨none, .bi 27 .add (.t 26) (.c (.int .i64 1))⟩,
    ⟨none, .mv 9 (.t 27)⟩]))))))
  (.seq (.ops [⟨none, .mv 66 (.t 7)⟩,
    ⟨none, .ca (some 67) 13 [(.t 66)]⟩,
    ⟨none, .mv 68 (.t 5)⟩,
    ⟨none, .ca (some 69) 13 [(.t 68)]⟩,
    ⟨none, .ca (some 70) 17 [(.t 67), (.t 69)]⟩,
    ⟨none, .mv 71 (.t 70)⟩,
    ⟨some (71, true), .mv 72 (.t 7)⟩,
    ⟨some (71, true), .ca (some 73) 25 [(.t 72)]⟩,
    ⟨some (71, true), .mv 74 (.t 6)⟩,
    ⟨some (71, true), .ln 75 .sl (.t 74)⟩,
    ⟨some (71, true), .bi 76 .eql (.t 73) (.t 75)⟩,
    ⟨none, .pk 77 (.t 71) (.t 76) (.c (.bool false))⟩,
    ⟨none, .mv 78 (.t 77)⟩,
    ⟨some (78, true), .ca (some 79) 14 []⟩,
    ⟨none, .pk 80 (.t 78) (.t 79) (.c (.bool false))⟩,
    ⟨none, .mv 4 (.t 80)⟩])
  (.ret)))))))
theorem comp7 : compFn Try.prog [] Try.f7 = some ([.t 4], c7) := by kernel_rfl
/-- topiary/topiarylaw12.RgaAsks: 2 parameters, 58 slots. -/
def c8 : C :=
  .seq (.ops [⟨none, .bxL 3 (.t 1)⟩,
    ⟨none, .mv 4 (.c (.bool false))⟩])
  (.seq (.ops [⟨none, .mv 12 (.t 0)⟩,
    ⟨none, .ca (some 13) 12 [(.t 12)]⟩,
    ⟨none, .mv 11 (.t 13)⟩,
    ⟨none, .ex 14 (.t 11) 0⟩,
    ⟨none, .ex 15 (.t 11) 1⟩,
    ⟨none, .mv 5 (.t 14)⟩,
    ⟨none, .mv 6 (.t 15)⟩])
  (.seq (.ops [⟨none, .mv 16 (.t 6)⟩,
    ⟨none, .ca (some 17) 27 [(.t 16)]⟩,
    ⟨none, .ca (some 18) 26 [(.t 17)]⟩,
    ⟨none, .mv 7 (.t 18)⟩])
  (.seq (.ops [⟨none, .mv 19 (.t 7)⟩,
    ⟨none, .ld 20 (.t 3) 2 true⟩,
    ⟨none, .ca (some 21) 18 [(.t 19), (.t 20)]⟩,
    ⟨none, .mv 8 (.t 21)⟩])
  (.seq (.ops [⟨none, .mv 23 (.t 5)⟩,
    ⟨none, .ld 24 (.t 3) 2 true⟩,
    ⟨none, .ca (some 25) 28 [(.t 23), (.t 24)]⟩,
    ⟨none, .mv 22 (.t 25)⟩,
    ⟨none, .ex 26 (.t 22) 0⟩,
    ⟨none, .ex 27 (.t 22) 1⟩,
    ⟨none, .alL 9 [.int .i64 0, .int .i64 0]⟩,
    ⟨none, .st (.t 9) (.t 26) 2⟩,
    ⟨none, .mv 10 (.t 27)⟩])
  (.seq (.seq (.ops [⟨none, .mv 28 (.t 5)⟩,
    ⟨none, .ld 29 (.t 3) 2 true⟩,
    ⟨none, .ca (some 30) 15 [(.t 28), (.t 29)]⟩,
    ⟨none, .mv 31 (.t 8)⟩,
    ⟨none, .bi 32 .geq (.t 31) (.c (.int .i64 0))⟩,
    ⟨none, .bq 33 true .bool (.t 30) (.t 32)⟩,
    ⟨none, .mv 34 (.t 33)⟩,
    ⟨some (34, false), .mv 35 (.t 10)⟩,
    ⟨some (34, false), .mv 36 (.t 8)⟩,
    ⟨some (34, false), .bi 37 .geq (.t 36) (.c (.int .i64 0))⟩,
    ⟨some (34, false), .bq 38 true .bool (.t 35) (.t 37)⟩,
    ⟨none, .pk 39 (.t 34) (.c (.bool true)) (.t 38)⟩])
  (.cond (.t 39) (.seq (.ops [⟨none, .mv 4 (.c (.bool false))⟩])
    (.ret))
    (.skip)))
  (.seq (.seq (.ops [⟨none, .mv 40 (.t 8)⟩,
    ⟨none, .bi 41 .gtr (.t 40) (.c (.int .i64 0))⟩])
  (.cond (.t 41) (.seq (.opsD [⟨none, .ld 42 (.t 9) 2 true⟩,
      ⟨none, .mv 43 (.t 7)⟩,
      ⟨none, .mv 44 (.t 8)⟩,
      ⟨none, .bi 45 .sub (.t 44) (.c (.int .i64 1))⟩,
      ⟨none, .ia 46 (.t 43) (.t 45) 2⟩,
      ⟨none, .ld 47 (.t 46) 2 true⟩,
      ⟨none, .be 48 false [.int .i64, .int .i64] (.t 42) (.t 47)⟩,
      ⟨none, .mv 49 (.t 48)⟩,
      ⟨some (49, true), .ca (some 50) 14 []⟩,
      ⟨none, .pk 51 (.t 49) (.t 50) (.c (.bool false))⟩,
      ⟨none, .mv 4 (.t 51)⟩])
    (.ret))
    (.skip)))
  (.seq (.ops [⟨none, .ld 52 (.t 9) 2 true⟩,
    ⟨none, .bld 53 [.int .i64 0, .int .i64 0] []⟩,
    ⟨none, .be 54 false [.int .i64, .int .i64] (.t 52) (.t 53)⟩,
    ⟨none, .mv 55 (.t 54)⟩,
    ⟨some (55, true), .ca (some 56) 14 []⟩,
    ⟨none, .pk 57 (.t 55) (.t 56) (.c (.bool false))⟩,
    ⟨none, .mv 4 (.t 57)⟩])
  (.ret))))))))
theorem comp8 : compFn Try.prog [3, 9] Try.f8 = some ([.t 4], c8) := by kernel_rfl
/-- topiary/topiarylaw12.RgaLatest: 2 parameters, 61 slots. -/
def c9 : C :=
  .seq (.ops [⟨none, .bxL 3 (.t 1)⟩,
    ⟨none, .mv 4 (.c (.bool false))⟩])
  (.seq (.ops [⟨none, .mv 11 (.t 0)⟩,
    ⟨none, .ca (some 12) 12 [(.t 11)]⟩,
    ⟨none, .mv 10 (.t 12)⟩,
    ⟨none, .ex 13 (.t 10) 0⟩,
    ⟨none, .ex 14 (.t 10) 1⟩,
    ⟨none, .mv 5 (.t 13)⟩,
    ⟨none, .mv 6 (.t 14)⟩])
  (.seq (.ops [⟨none, .bld 15 [.int .i64 0, .int .i64 0] [(0, 1, (.c (.int .i64 1099511627776))), (1, 1, (.c (.int .i64 63)))]⟩,
    ⟨none, .alL 7 [.int .i64 0, .int .i64 0]⟩,
    ⟨none, .st (.t 7) (.t 15) 2⟩])
  (.seq (.seq (.ops [⟨none, .mv 16 (.t 5)⟩,
    ⟨none, .ld 17 (.t 7) 2 true⟩,
    ⟨none, .ld 18 (.t 3) 2 true⟩,
    ⟨none, .ca (some 19) 16 [(.t 16), (.t 17), (.t 18)]⟩,
    ⟨none, .bi 20 .neq (.t 19) (.c (.int .i64 0))⟩])
  (.cond (.t 20) (.seq (.ops [⟨none, .mv 21 (.t 6)⟩,
      ⟨none, .ld 22 (.t 7) 2 true⟩,
      ⟨none, .ca (some 23) 19 [(.t 21), (.t 22)]⟩,
      ⟨none, .mv 24 (.t 23)⟩,
      ⟨some (24, false), .ld 25 (.t 7) 2 true⟩,
      ⟨some (24, false), .ld 26 (.t 3) 2 true⟩,
      ⟨some (24, false), .bld 27 [.int .i64 0, .int .i64 0, .int .i64 0, .int .i64 0] [(0, 2, (.t 25)), (2, 2, (.t 26))]⟩,
      ⟨some (24, false), .ca (some 28) 29 [(.t 27)]⟩,
      ⟨some (24, false), .un 29 .not (.t 28)⟩,
      ⟨none, .pk 30 (.t 24) (.c (.bool true)) (.t 29)⟩,
      ⟨none, .mv 31 (.t 30)⟩,
      ⟨some (31, true), .ca (some 32) 14 []⟩,
      ⟨none, .pk 33 (.t 31) (.t 32) (.c (.bool false))⟩,
      ⟨none, .mv 4 (.t 33)⟩])
    (.ret))
    (.skip)))
  (.seq (.ops [⟨none, .mv 35 (.t 5)⟩,
    ⟨none, .ld 36 (.t 7) 2 true⟩,
    ⟨none, .ca (some 37) 28 [(.t 35), (.t 36)]⟩,
    ⟨none, .mv 34 (.t 37)⟩,
    ⟨none, .ex 38 (.t 34) 0⟩,
    ⟨none, .ex 39 (.t 34) 1⟩,
    ⟨none, .alL 8 [.int .i64 0, .int .i64 0]⟩,
    ⟨none, .st (.t 8) (.t 38) 2⟩,
    ⟨none, .mv 9 (.t 39)⟩])
  (.seq (.seq (.ops [⟨none, .mv 40 (.t 6)⟩,
    ⟨none, .ld 41 (.t 3) 2 true⟩,
    ⟨none, .ca (some 42) 19 [(.t 40), (.t 41)]⟩])
  (.cond (.t 42) (.seq (.ops [⟨none, .mv 43 (.t 9)⟩,
      ⟨none, .mv 44 (.t 43)⟩,
      ⟨some (44, true), .ld 45 (.t 8) 2 true⟩,
      ⟨some (44, true), .ld 46 (.t 3) 2 true⟩,
      ⟨some (44, true), .be 47 false [.int .i64, .int .i64] (.t 45) (.t 46)⟩,
      ⟨none, .pk 48 (.t 44) (.t 47) (.c (.bool false))⟩,
      ⟨none, .mv 49 (.t 48)⟩,
      ⟨some (49, true), .ca (some 50) 14 []⟩,
      ⟨none, .pk 51 (.t 49) (.t 50) (.c (.bool false))⟩,
      ⟨none, .mv 4 (.t 51)⟩])
    (.ret))
    (.skip)))
  (.seq (.ops [⟨none, .mv 52 (.t 9)⟩,
    ⟨none, .mv 53 (.t 52)⟩,
    ⟨some (53, true), .ld 54 (.t 8) 2 true⟩,
    ⟨some (53, true), .bld 55 [.int .i64 0, .int .i64 0] []⟩,
    ⟨some (53, true), .be 56 false [.int .i64, .int .i64] (.t 54) (.t 55)⟩,
    ⟨none, .pk 57 (.t 53) (.t 56) (.c (.bool false))⟩,
    ⟨none, .mv 58 (.t 57)⟩,
    ⟨some (58, true), .ca (some 59) 14 []⟩,
    ⟨none, .pk 60 (.t 58) (.t 59) (.c (.bool false))⟩,
    ⟨none, .mv 4 (.t 60)⟩])
  (.ret)))))))
theorem comp9 : compFn Try.prog [3, 7, 8] Try.f9 = some ([.t 4], c9) := by kernel_rfl
/-- topiary/topiarylaw12.RgaGoes: 2 parameters, 95 slots. -/
def c10 : C :=
  .seq (.ops [⟨none, .bxH 3 (.t 1)⟩,
    ⟨none, .alH 4 [.bool false]⟩])
  (.seq (.ops [⟨none, .mv 15 (.t 0)⟩,
    ⟨none, .ca (some 16) 12 [(.t 15)]⟩,
    ⟨none, .mv 14 (.t 16)⟩,
    ⟨none, .ex 17 (.t 14) 0⟩,
    ⟨none, .ex 18 (.t 14) 1⟩,
    ⟨none, .mv 5 (.t 17)⟩,
    ⟨none, .mv 6 (.t 18)⟩])
  (.seq (.ops [⟨none, .mv 19 (.t 5)⟩,
    ⟨none, .ca (some 20) 30 [(.t 19)]⟩,
    ⟨none, .mv 7 (.t 20)⟩])
  (.seq (.ops [⟨none, .mv 21 (.t 5)⟩,
    ⟨none, .ca (some 22) 31 [(.t 21)]⟩,
    ⟨none, .mv 8 (.t 22)⟩])
  (.seq (.seq (.ops [⟨none, .mv 23 (.t 7)⟩,
    ⟨none, .bq 24 false .fn (.t 23) (.c (.nilf))⟩,
    ⟨none, .mv 25 (.t 24)⟩,
    ⟨some (25, false), .mv 26 (.t 8)⟩,
    ⟨some (25, false), .bq 27 false .ptr (.t 26) (.c (.ptr none))⟩,
    ⟨none, .pk 28 (.t 25) (.c (.bool true)) (.t 27)⟩])
  (.cond (.t 28) (.seq (.ops [⟨none, .st (.t 4) (.c (.bool false)) 1⟩])
    (.ret))
    (.skip)))
  (.seq (.ops [⟨none, .mv 29 (.t 5)⟩,
    ⟨none, .bld 30 [.int .i64 0, .int .i64 0] [(0, 1, (.c (.int .i64 1099511627776))), (1, 1, (.c (.int .i64 7)))]⟩,
    ⟨none, .bld 31 [.int .i64 0, .int .i64 0] []⟩,
    ⟨none, .ca (some 32) 16 [(.t 29), (.t 30), (.t 31)]⟩])
  (.seq (.ops [⟨none, .mv 33 (.t 6)⟩,
    ⟨none, .ca (some 34) 27 [(.t 33)]⟩,
    ⟨none, .alH 9 [.sl true .pub 0 []]⟩,
    ⟨none, .st (.t 9) (.t 34) 1⟩])
  (.seq (.ops [⟨none, .alH 10 [.int .i64 0]⟩,
    ⟨none, .st (.t 10) (.c (.int .i64 0)) 1⟩])
  (.cut (.seq (.ops [⟨none, .mv 35 (.t 7)⟩])
  (.block 0 (.range (.t 35) [36] (.ops [⟨none, .alL 11 [.int .i64 0, .int .i64 0, .int .i64 0, .int .i64 0]⟩,
    ⟨none, .st (.t 11) (.t 36) 4⟩])
  (.block 1 (.seq (.seq (.ops [⟨none, .ld 37 (.t 10) 1 false⟩,
    ⟨none, .ld 38 (.t 3) 1 false⟩,
    ⟨none, .bi 39 .eql (.t 37) (.t 38)⟩])
  (.cond (.t 39) (.exit 0)
    (.skip)))
  (.seq (.seq (.opsD [⟨none, .ld 40 (.t 10) 1 false⟩,
    ⟨none, .ld 41 (.t 9) 1 false⟩,
    ⟨none, .ln 42 .sl (.t 41)⟩,
    ⟨none, .bi 43 .geq (.t 40) (.t 42)⟩,
    ⟨none, .mv 44 (.t 43)⟩,
    ⟨some (44, false), .ld 45 (.t 11) 4 true⟩,
    ⟨some (44, false), .ld 46 (.t 9) 1 false⟩,
    ⟨some (44, false), .ld 47 (.t 10) 1 false⟩,
    ⟨some (44, false), .ia 48 (.t 46) (.t 47) 4⟩,
    ⟨some (44, false), .ld 49 (.t 48) 4 true⟩,
    ⟨some (44, false), .be 50 true [.int .i64, .int .i64, .int .i64, .int .i64] (.t 45) (.t 49)⟩,
    ⟨none, .pk 51 (.t 44) (.c (.bool true)) (.t 50)⟩])
  (.cond (.t 51) (.seq (.ops [⟨none, .st (.t 4) (.c (.bool false)) 1⟩])
    (.ret))
    (.skip)))
  (.ops [⟨none, .ld 52 (.t 10) 1 false⟩,
    ⟨none, .bi 53 .add (.t 52) (.c (.int .i64 1))⟩,
    ⟨none, .st (.t 10) (.t 53) 1⟩])))))))
  (.seq (.ops [⟨none, .alH 12 [.int .i64 0]⟩,
    ⟨none, .st (.t 12) (.c (.int .i64 0)) 1⟩])
  (.seq (.seq (.ops [⟨none, .mv 54 (.t 7)⟩])
  (.block 2 (.range (.t 54) [55] (.ops [⟨none, .alL 13 [.int .i64 0, .int .i64 0, .int .i64 0, .int .i64 0]⟩,
    ⟨none, .st (.t 13) (.t 55) 4⟩])
  (.block 3 (.seq (.seq (.opsD [⟨none, .ld 56 (.t 12) 1 false⟩,
    ⟨none, .ld 57 (.t 9) 1 false⟩,
    ⟨none, .ln 58 .sl (.t 57)⟩,
    ⟨none, .bi 59 .geq (.t 56) (.t 58)⟩,
    ⟨none, .mv 60 (.t 59)⟩,
    ⟨some (60, false), .ld 61 (.t 13) 4 true⟩,
    ⟨some (60, false), .ld 62 (.t 9) 1 false⟩,
    ⟨some (60, false), .ld 63 (.t 12) 1 false⟩,
    ⟨some (60, false), .ia 64 (.t 62) (.t 63) 4⟩,
    ⟨some (60, false), .ld 65 (.t 64) 4 true⟩,
    ⟨some (60, false), .be 66 true [.int .i64, .int .i64, .int .i64, .int .i64] (.t 61) (.t 65)⟩,
    ⟨none, .pk 67 (.t 60) (.c (.bool true)) (.t 66)⟩])
  (.cond (.t 67) (.seq (.ops [⟨none, .st (.t 4) (.c (.bool false)) 1⟩])
    (.ret))
    (.skip)))
  (.ops [⟨none, .ld 68 (.t 12) 1 false⟩,
    ⟨none, .bi 69 .add (.t 68) (.c (.int .i64 1))⟩,
    ⟨none, .st (.t 12) (.t 69) 1⟩]))))))
  (.seq (.opsD [⟨none, .ld 70 (.t 12) 1 false⟩,
    ⟨none, .ld 71 (.t 9) 1 false⟩,
    ⟨none, .ln 72 .sl (.t 71)⟩,
    ⟨none, .bi 73 .eql (.t 70) (.t 72)⟩,
    ⟨none, .mv 74 (.t 73)⟩,
    ⟨some (74, true), .ld 75 (.t 10) 1 false⟩,
    ⟨some (74, true), .ld 76 (.t 9) 1 false⟩,
    ⟨some (74, true), .ln 77 .sl (.t 76)⟩,
    ⟨some (74, true), .bi 78 .eql (.t 75) (.t 77)⟩,
    ⟨some (74, true), .mv 79 (.t 78)⟩,
    ⟨some (79, false), .ld 80 (.t 10) 1 false⟩,
    ⟨some (79, false), .ld 81 (.t 3) 1 false⟩,
    ⟨some (79, false), .bi 82 .eql (.t 80) (.t 81)⟩,
    ⟨some (74, true), .pk 83 (.t 79) (.c (.bool true)) (.t 82)⟩,
    ⟨none, .pk 84 (.t 74) (.t 83) (.c (.bool false))⟩,
    ⟨none, .mv 85 (.t 84)⟩,
    ⟨some (85, true), .mv 86 (.t 8)⟩,
    ⟨some (85, true), .ld 88 (.t 9) 1 false⟩,
    ⟨some (85, true), .ca (some 87) 13 [(.t 86)]⟩,
    ⟨some (85, true), .ca (some 89) 26 [(.t 88)]⟩,
    ⟨some (85, true), .ca (some 90) 17 [(.t 87), (.t 89)]⟩,
    ⟨none, .pk 91 (.t 85) (.t 90) (.c (.bool false))⟩,
    ⟨none, .mv 92 (.t 91)⟩,
    ⟨some (92, true), .ca (some 93) 14 []⟩,
    ⟨none, .pk 94 (.t 92) (.t 93) (.c (.bool false))⟩,
    ⟨none, .st (.t 4) (.t 94) 1⟩])
  (.ret))))))))))))
theorem comp10 : compFn Try.prog [11, 13] Try.f10 = some ([.c 4 1 false], c10) := by kernel_rfl
/-- topiary/topiarylaw12.RgaNil: 1 parameters, 62 slots. -/
def c11 : C :=
  .seq (.ops [⟨none, .bxL 1 (.t 0)⟩,
    ⟨none, .alH 2 [.bool false]⟩])
  (.seq (.ops [⟨none, .mv 3 (.c (.ptr none))⟩])
  (.seq (.ops [⟨none, .mv 8 (.t 3)⟩,
    ⟨none, .fa 9 (.t 1) 0⟩,
    ⟨none, .ld 10 (.t 9) 2 true⟩,
    ⟨none, .ca (some 11) 28 [(.t 8), (.t 10)]⟩,
    ⟨none, .mv 7 (.t 11)⟩,
    ⟨none, .ex 12 (.t 7) 0⟩,
    ⟨none, .ex 13 (.t 7) 1⟩,
    ⟨none, .alL 4 [.int .i64 0, .int .i64 0]⟩,
    ⟨none, .st (.t 4) (.t 12) 2⟩,
    ⟨none, .mv 5 (.t 13)⟩])
  (.seq (.ops [⟨none, .mv 14 (.t 3)⟩,
    ⟨none, .ca (some 15) 30 [(.t 14)]⟩,
    ⟨none, .mv 6 (.t 15)⟩])
  (.seq (.seq (.ops [⟨none, .mv 16 (.t 6)⟩,
    ⟨none, .bq 17 false .fn (.t 16) (.c (.nilf))⟩])
  (.cond (.t 17) (.seq (.ops [⟨none, .st (.t 2) (.c (.bool false)) 1⟩])
    (.ret))
    (.skip)))
  (.seq (.seq (.ops [⟨none, .mv 18 (.t 6)⟩])
  (.block 0 (.range (.t 18) [19] (.skip)
  (.block 1 (.seq (.ops [⟨none, .st (.t 2) (.c (.bool false)) 1⟩])
  (.ret))))))
  (.seq (.ops [⟨none, .mv 20 (.t 3)⟩,
    ⟨none, .fa 21 (.t 1) 0⟩,
    ⟨none, .ld 22 (.t 21) 2 true⟩,
    ⟨none, .fa 23 (.t 1) 2⟩,
    ⟨none, .ld 24 (.t 23) 2 true⟩,
    ⟨none, .ca (some 25) 16 [(.t 20), (.t 22), (.t 24)]⟩,
    ⟨none, .bi 26 .eql (.t 25) (.c (.int .i64 7))⟩,
    ⟨none, .mv 27 (.t 26)⟩,
    ⟨some (27, true), .mv 28 (.t 3)⟩,
    ⟨some (27, true), .fa 29 (.t 1) 0⟩,
    ⟨some (27, true), .ld 30 (.t 29) 2 true⟩,
    ⟨some (27, true), .ca (some 31) 15 [(.t 28), (.t 30)]⟩,
    ⟨some (27, true), .un 32 .not (.t 31)⟩,
    ⟨none, .pk 33 (.t 27) (.t 32) (.c (.bool false))⟩,
    ⟨none, .mv 34 (.t 33)⟩,
    ⟨some (34, true), .mv 35 (.t 3)⟩,
    ⟨some (34, true), .ca (some 36) 25 [(.t 35)]⟩,
    ⟨some (34, true), .bi 37 .eql (.t 36) (.c (.int .i64 0))⟩,
    ⟨none, .pk 38 (.t 34) (.t 37) (.c (.bool false))⟩,
    ⟨none, .mv 39 (.t 38)⟩,
    ⟨some (39, true), .mv 40 (.t 3)⟩,
    ⟨some (39, true), .ca (some 41) 13 [(.t 40)]⟩,
    ⟨some (39, true), .ln 42 .sl (.t 41)⟩,
    ⟨some (39, true), .bi 43 .eql (.t 42) (.c (.int .i64 0))⟩,
    ⟨none, .pk 44 (.t 39) (.t 43) (.c (.bool false))⟩,
    ⟨none, .mv 45 (.t 44)⟩,
    ⟨some (45, true), .ld 46 (.t 4) 2 true⟩,
    ⟨some (45, true), .bld 47 [.int .i64 0, .int .i64 0] []⟩,
    ⟨some (45, true), .be 48 false [.int .i64, .int .i64] (.t 46) (.t 47)⟩,
    ⟨none, .pk 49 (.t 45) (.t 48) (.c (.bool false))⟩,
    ⟨none, .mv 50 (.t 49)⟩,
    ⟨some (50, true), .mv 51 (.t 5)⟩,
    ⟨some (50, true), .un 52 .not (.t 51)⟩,
    ⟨none, .pk 53 (.t 50) (.t 52) (.c (.bool false))⟩,
    ⟨none, .mv 54 (.t 53)⟩,
    ⟨some (54, true), .mv 55 (.t 3)⟩,
    ⟨some (54, true), .ca (some 56) 31 [(.t 55)]⟩,
    ⟨some (54, true), .bq 57 false .ptr (.t 56) (.c (.ptr none))⟩,
    ⟨none, .pk 58 (.t 54) (.t 57) (.c (.bool false))⟩,
    ⟨none, .mv 59 (.t 58)⟩,
    ⟨some (59, true), .ca (some 60) 14 []⟩,
    ⟨none, .pk 61 (.t 59) (.t 60) (.c (.bool false))⟩,
    ⟨none, .st (.t 2) (.t 61) 1⟩])
  (.ret)))))))
theorem comp11 : compFn Try.prog [1, 4] Try.f11 = some ([.c 2 1 false], c11) := by kernel_rfl
/-- topiary/topiarylaw12.laid: 1 parameters, 40 slots. -/
def c12 : C :=
  .seq (.ops [⟨none, .mv 2 (.c (.ptr none))⟩,
    ⟨none, .mv 3 (.c (.sl true .pub 4 []))⟩])
  (.seq (.ops [⟨none, .ca (some 7) 22 []⟩,
    ⟨none, .mv 4 (.t 7)⟩])
  (.seq (.ops [⟨none, .lit 8 4 []⟩,
    ⟨none, .mv 5 (.t 8)⟩])
  (.seq (.ops [⟨none, .mv 9 (.t 0)⟩,
    ⟨none, .ca (some 10) 23 [(.t 9)]⟩,
    ⟨none, .mv 0 (.t 10)⟩])
  (.seq (.seq (.ops [⟨none, .mv 6 (.c (.int .i64 0))⟩])
  (.block 0 (.loop (.seq (.seq (.ops [⟨none, .mv 11 (.t 6)⟩,
    ⟨none, .mv 12 (.t 0)⟩,
    ⟨none, .ln 13 .sl (.t 12)⟩,
    ⟨none, .bi 14 .lss (.t 11) (.t 13)⟩])
  (.cond (.t 14) (.skip)
    (.exit 0)))
  (.seq (.block 1 (.seq (.opsD [⟨none, .mv 17 (.t 4)⟩,
    ⟨none, .mv 18 (.t 0)⟩,
    ⟨none, .mv 19 (.t 6)⟩,
    ⟨none, .ia 20 (.t 18) (.t 19) 4⟩,
    ⟨none, .fa 21 (.t 20) 0⟩,
    ⟨none, .ld 22 (.t 21) 2 true⟩,
    ⟨none, .mv 23 (.t 0)⟩,
    ⟨none, .mv 24 (.t 6)⟩,
    ⟨none, .ia 25 (.t 23) (.t 24) 4⟩,
    ⟨none, .fa 26 (.t 25) 2⟩,
    ⟨none, .ld 27 (.t 26) 2 true⟩,
    ⟨none, .ca (some 28) 16 [(.t 17), (.t 22), (.t 27)]⟩])
  (.ops [⟨none, .mv 30 (.t 5)⟩,
    ⟨none, .mv 31 (.t 0)⟩,
    ⟨none, .mv 32 (.t 6)⟩,
    ⟨none, .ia 33 (.t 31) (.t 32) 4⟩,
    ⟨none, .ld 34 (.t 33) 4 true⟩,
    ⟨none, .ca (some 35) 24 [(.t 30), (.t 34)]⟩,
    ⟨none, .mv 29 (.t 35)⟩,
    ⟨none, .ex 36 (.t 29) 0⟩,
    ⟨none, .ex 37 (.t 29) 1⟩,
    ⟨none, .mv 5 (.t 36)⟩])))
  (.ops [⟨none, .mv 15 (.t 6)⟩,
    ⟨none, .bi 16 .add (.t 15) (.c (.int .i64 1))⟩,
    ⟨none, .mv 6 (.t 16)⟩]))))))
  (.seq (.ops [⟨none, .mv 38 (.t 4)⟩,
    ⟨none, .mv 39 (.t 5)⟩,
    ⟨none, .mv 2 (.t 38)⟩,
    ⟨none, .mv 3 (.t 39)⟩])
  (.ret))))))
theorem comp12 : compFn Try.prog [] Try.f12 = some ([.t 2, .t 3], c12) := by kernel_rfl
end Go.VL.rga

namespace Go.VL
open Go

section
variable {H : Type} {enc : TypeId × Value → H} {P : Program} {w w' : World} {base : Nat} {sp : Nat → Bool} {held : Bool}

theorem OldKept.same {W W' : World} (h : OldKept W W') {p : MemPlace} (hp : p.block < W.heap.size) : W.sameAt W' p := by
  have h1 : W.heap[p.block]? = some W.heap[p.block] := Array.getElem?_eq_getElem hp
  have h2 := h.heap _ _ h1
  cases p with
  | cell b off =>
    simp only [MemPlace.block] at h1 h2
    simp only [World.sameAt, World.cell?, h1, h2]
  | map b =>
    simp only [MemPlace.block] at h1 h2
    simp only [World.sameAt, h1, h2]

theorem trodAll_old : ∀ {ts : List TypeId} {vs : List Value} {ds : List (DataW H)} {ps : List MemPlace}, DataW.TrodAll enc P w base sp held ts vs ds ps → (∀ p ∈ ps, w.sameAt w' p) → DataW.TrodAll enc P w' base sp held ts vs ds ps
  | [], [], [], _, h, _ => h
  | _ :: _, _ :: _, _ :: _, _, ⟨p, q, ⟨n, h1⟩, h2, e⟩, hs =>
    ⟨p, q, ⟨n, DataW.trod_carry n _ _ _ h1 (fun x hx => hs x (by rw [e]; exact List.mem_append_left _ hx))⟩, trodAll_old h2 (fun x hx => hs x (by rw [e]; exact List.mem_append_right _ hx)), e⟩
end
end Go.VL

namespace Go.VL
open Go

/-- Cells that were there from the start. -/
theorem pub_cells {W : World} {a : Addr} {vs : List Value} (h : ∀ (i : Nat) v, vs[i]? = some v → W.cell? ⟨a.block, a.off + i, none⟩ = some v) : pubAt (g0 W) a.block a.off vs := by
  intro i v hv
  have hc := h i v hv
  simp only [g0, pubOf]
  unfold World.cell? at hc
  cases hb : W.heap[a.block]? with
  | none => rw [hb] at hc; cases hc
  | some o =>
    rw [hb] at hc
    cases o with
    | cells c e z => simpa using hc
    | _ => cases hc

theorem repE_ints {γ : G} (k : IntKind) : ∀ (zs : List Int), RepE γ 1 (intsV k zs) (zs.map fun n => Value.int k n)
  | [] => by simp [intsV, RepE]
  | z :: r => by
    simp only [intsV, List.map_cons, RepE]
    exact ⟨[.int k z], r.map fun n => Value.int k n, rfl, rfl, by simp only [RepL]; exact ⟨_, _, rfl, by simp only [Rep], rfl⟩, repE_ints k r, by simp [Value.oneCell']⟩

/-- A slice of numbers that was there. -/
theorem arg_ints {W : World} {k : IntKind} {a : Addr} {len cap : Nat} {zs : List Int} (hsp : a.spot = none) (hl : zs.length = len) (hc : len ≤ cap) (h : ∀ i, i < zs.length → W.cell? (a.add i) = some (.int k (zs.getD i 0))) :
    Rep (g0 W) (.sl false .pub 1 (intsV k zs)) (.slice (some a) len cap) := by
  simp only [Rep, intsV_length]
  refine ⟨a, cap, zs.map fun n => Value.int k n, by rw [hl], .inr hsp, by omega, pub_cells fun i v hv => ?_, repE_ints k zs⟩
  rw [List.getElem?_map] at hv
  cases hz : zs[i]? with
  | none => rw [hz] at hv; cases hv
  | some z =>
    rw [hz] at hv
    have hi := (List.getElem?_eq_some_iff.1 hz).1
    have := h i hi
    obtain ⟨b, o, s⟩ := a
    simp only at hsp
    subst hsp
    simp only [Option.map_some, Option.some.injEq] at hv
    subst hv
    have hd : zs.getD i 0 = z := by simp [List.getD, hz]
    rw [hd] at this
    rwa [add_spot rfl] at this

theorem repE_strs {γ : G} : ∀ (ss : List ByteArray), RepE γ 1 (ss.map fun s => [V.str s.data.toList]) (ss.map Value.string)
  | [] => by simp [RepE]
  | s :: r => by
    simp only [List.map_cons, RepE]
    exact ⟨[.string s], r.map Value.string, rfl, rfl, by simp only [RepL]; exact ⟨_, _, rfl, by simp only [Rep], rfl⟩, repE_strs r, by simp [Value.oneCell']⟩

/-- A slice of texts that was there. -/
theorem arg_strs {W : World} {a : Addr} {len cap : Nat} {ss : List ByteArray} (hsp : a.spot = none) (hl : ss.length = len) (hc : len ≤ cap) (h : ∀ i, i < ss.length → W.cell? (a.add i) = some (.string (ss.getD i ByteArray.empty))) :
    Rep (g0 W) (.sl false .pub 1 (ss.map fun s => [V.str s.data.toList])) (.slice (some a) len cap) := by
  simp only [Rep, List.length_map]
  refine ⟨a, cap, ss.map Value.string, by rw [hl], .inr hsp, by omega, pub_cells fun i v hv => ?_, repE_strs ss⟩
  rw [List.getElem?_map] at hv
  cases hz : ss[i]? with
  | none => rw [hz] at hv; cases hv
  | some z =>
    rw [hz] at hv
    have hi := (List.getElem?_eq_some_iff.1 hz).1
    have := h i hi
    obtain ⟨b, o, s⟩ := a
    simp only at hsp
    subst hsp
    simp only [Option.map_some, Option.some.injEq] at hv
    subst hv
    have hd : ss.getD i ByteArray.empty = z := by simp [List.getD, hz]
    rw [hd] at this
    rwa [add_spot rfl] at this
end Go.VL

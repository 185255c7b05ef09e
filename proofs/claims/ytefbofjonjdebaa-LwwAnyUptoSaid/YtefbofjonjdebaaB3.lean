import Derived.Test.YtefbofjonjdebaaB2
set_option linter.unusedVariables false
set_option linter.unusedSimpArgs false
namespace Go.VL.lww
open Go Go.VL Go.Proofs Go.IntWalk

theorem u64w (n : Int) : IntKind.u64.wrap n = n % 18446744073709551616 := by simp [IntKind.wrap, IntKind.bits, IntKind.signed]
theorem idx_of (o : Int) {n : Nat} (h : 0 < n) (hn : n ≤ 268435456) : ∃ i : Nat, i < n ∧ IntKind.i64.wrap ((IntKind.u64.wrap o).tmod (IntKind.u64.wrap n)) = i := by
  rw [u64w, u64w]
  obtain ⟨a, ha⟩ := Int.eq_ofNat_of_zero_le (Int.emod_nonneg o (b := 18446744073709551616) (by decide))
  have e : (n : Int) % 18446744073709551616 = n := Int.emod_eq_of_lt (by omega) (by omega)
  rw [ha, e, tmod_nat]
  have := Nat.mod_lt a h
  exact ⟨a % n, this, by rw [i64_in _ (by omega)]⟩
theorem regsV_take (l : List Rg) (i : Nat) : (regsV l).take i = regsV (l.take i) := by simp [regsV, List.map_take]
theorem regsV_drop (l : List Rg) (i : Nat) : (regsV l).drop i = regsV (l.drop i) := by simp [regsV, List.map_drop]
theorem mem_rest {R : List Rg} {i : Nat} (h : i < R.length) (x : Rg) : x ∈ R ↔ x = R[i] ∨ x ∈ R.take i ++ R.drop (i + 1) := by
  have e : R = R.take i ++ R[i] :: R.drop (i + 1) := by rw [← List.drop_eq_getElem_cons h, List.take_append_drop]
  conv => lhs; rw [e]
  simp only [List.mem_append, List.mem_cons]
  constructor
  · rintro (h | h | h)
    · exact .inr (.inl h)
    · exact .inl h
    · exact .inr (.inr h)
  · rintro (h | h | h)
    · exact .inr (.inl h)
    · exact .inl h
    · exact .inr (.inr h)
theorem putR_length (T : List Rg) (r : Rg) : (putR T r).length ≤ T.length + 1 := by
  have hu : ∀ (r : Rg) (S : List Rg), (updR r S).length ≤ S.length + 1 := by
    intro r S
    induction S with
    | nil => simp [updR]
    | cons x S ih =>
      unfold updR
      cases sameK r x <;> simp only [cond_true, cond_false, List.length_cons] <;> omega
  have := hu r T
  unfold putR
  cases decide (chk r = 0) <;> simp only [cond_true, cond_false]
  · omega
  · cases T.find? (sameK r) with
    | none => simp only [List.length_append, List.length_singleton]; omega
    | some w => cases hv : wins r w <;> simp only [hv, cond_true, cond_false] <;> omega

section
variable {σ : St} {l : List Rg} {os : List Int} {v u : V}
set_option maxRecDepth 100000 in
set_option maxHeartbeats 6400000 in
theorem any_ok (hv : RdS σ v 7 (regsV l)) (hu : RdS σ u 1 (intsV .i64 os)) (hlen : ∀ r ∈ l, r.name.length < 4611686018427387904) (hl : l.length ≤ 268435456) :
    CallA Try.prog 6 [v, u] σ fun w _ => w = .bool true := by
  obtain ⟨b, R, z, rfl, -, -⟩ := id hv
  obtain ⟨ub, uR, uz, rfl, -, -⟩ := id hu
  refine fn_at Try.func6 (by decide) comp6 rfl fun Q q1 q2 => ?_
  simp -implicitDefEqProofs only [go_sem, Nat.reduceBEq, Nat.reduceAdd, eq_self, true_and, and_true, and_self, List.getElem?_cons_zero, List.getElem?_cons_succ, Nat.reduceLeDiff, Nat.zero_add, Nat.reduceSub, Nat.le_refl, c6]
  refine call_at (laid_ok hv hlen hl) ?_
  rintro v τ0 ⟨ix, mx, wx, rfl, hx, hw, he, -⟩
  refine ⟨kept_none, ?_⟩
  obtain ⟨hH, hC, hle⟩ := has_puts _ (l.take 200) rfl
  have hlenL : (l.take 200).length ≤ 200 := by rw [List.length_take]; omega
  have hcl := rputs_length (l.take 200)
  have hnm : ∀ r ∈ l.take 200, r.name.length < 4611686018427387904 := fun r hr => hlen r (List.mem_of_mem_take hr)
  generalize puts (l.take 200) = Tx at hx hH hle
  generalize rputs (l.take 200) = S at hw hC hcl
  have hv0 := hv.ext he
  have hu0 := hu.ext he
  simp -implicitDefEqProofs only [go_sem, Nat.reduceBEq, Nat.reduceAdd, eq_self, true_and, and_true, and_self, List.getElem?_cons_zero, List.getElem?_cons_succ, Nat.reduceLeDiff, Nat.zero_add, Nat.reduceSub, Nat.le_refl, Nat.lt_irrefl]
  refine call_at new_ok ?_
  rintro v τ1 ⟨rfl, hy, he1, hlv1⟩
  refine ⟨kept_none, ?_⟩
  have hxi : ix < τ0.objs.length := by obtain ⟨_, h1, _⟩ := hx; exact (List.getElem?_eq_some_iff.1 h1).1
  have hv1 := hv0.ext he1
  have hz := rd_z hv
  simp -implicitDefEqProofs only [go_sem, Nat.reduceBEq, Nat.reduceAdd, eq_self, true_and, and_true, and_self, List.getElem?_cons_zero, List.getElem?_cons_succ, Nat.reduceLeDiff, Nat.zero_add, Nat.reduceSub, Nat.le_refl, Nat.lt_irrefl]
  refine cut_at (fun G τ' => τ' = τ1 ∧ ∃ b' R' z', G = ⟨[(0, .v (.sl b' R' z' (regsV (l.take 200)))), (1, .v (.sl ub uR uz (intsV .i64 os))), (5, .v (.ptr (some (ix, 0)))), (6, .v wx), (7, .v (.ptr (some (τ0.objs.length + 1, 0))))], []⟩ ∧ RdS τ1 (.sl b' R' z' (regsV (l.take 200))) 7 (regsV (l.take 200))) ?_ ?_
  · intro Z z1 z2 z3
    simp -implicitDefEqProofs only [go_sem, Nat.reduceBEq, Nat.reduceAdd, eq_self, true_and, and_true, and_self, List.getElem?_cons_zero, List.getElem?_cons_succ, Nat.reduceLeDiff, Nat.zero_add, Nat.reduceSub, Nat.le_refl, Nat.lt_irrefl]
    refine CondW_b (fun hc => ?_) (fun hc => ?_)
    · have hc := of_decide_eq_true hc
      have hc2 : (200 : Int) < (regsV l).length := by omega
      have ht : List.take (Int.toNat 200) (regsV l) = regsV (l.take 200) := by simp [regsV, List.map_take]
      simp -implicitDefEqProofs only [go_sem, Nat.reduceBEq, Nat.reduceAdd, eq_self, true_and, and_true, and_self, List.getElem?_cons_zero, List.getElem?_cons_succ, Nat.reduceLeDiff, Nat.zero_add, Nat.reduceSub, Nat.le_refl, Nat.lt_irrefl]
      refine ⟨⟨hz, by decide, by decide, by show 200 ≤ _; omega⟩, ?_⟩
      rw [ht]
      refine z1 _ _ _ (.inr ?_) ⟨rfl, b, R.toView, z, rfl, ?_⟩
      · simp -implicitDefEqProofs only [go_sem, Nat.reduceBEq, Nat.reduceAdd, eq_self, true_and, and_true, and_self, List.getElem?_cons_zero, List.getElem?_cons_succ, Nat.reduceLeDiff, Nat.zero_add, Nat.reduceSub, Nat.le_refl, Nat.lt_irrefl]
        try trivial
      · obtain ⟨_, _, _, e, h3, h4⟩ := hv1
        cases e
        refine ⟨_, _, _, rfl, fun hb => ?_, h4.imp_right fun x => ⟨rd_toView x.1, x.2⟩⟩
        have := h3 hb
        rw [this] at hc2
        simp at hc2
    · have hc := of_decide_eq_false hc
      have ht : l.take 200 = l := List.take_of_length_le (by have := regsV_length l; omega)
      simp -implicitDefEqProofs only [go_sem, Nat.reduceBEq, Nat.reduceAdd, eq_self, true_and, and_true, and_self, List.getElem?_cons_zero, List.getElem?_cons_succ, Nat.reduceLeDiff, Nat.zero_add, Nat.reduceSub, Nat.le_refl, Nat.lt_irrefl]
      refine z1 _ _ _ (.inr ?_) ⟨rfl, b, R, z, rfl, ?_⟩
      · rw [ht]; simp -implicitDefEqProofs only [go_sem, Nat.reduceBEq, Nat.reduceAdd, eq_self, true_and, and_true, and_self, List.getElem?_cons_zero, List.getElem?_cons_succ, Nat.reduceLeDiff, Nat.zero_add, Nat.reduceSub, Nat.le_refl, Nat.lt_irrefl]
        try trivial
      · rw [ht]; exact hv1
  generalize l.take 200 = L at hH hC hle hlenL hcl hnm
  rintro G τ' ⟨rfl, b', R', z', rfl, hs⟩
  obtain ⟨hsb, hsz⟩ := rd_src (hs.ext (ext_live τ' true))
  simp -implicitDefEqProofs only [go_sem, Nat.reduceBEq, Nat.reduceAdd, eq_self, true_and, and_true, and_self, List.getElem?_cons_zero, List.getElem?_cons_succ, Nat.reduceLeDiff, Nat.zero_add, Nat.reduceSub, Nat.le_refl, Nat.lt_irrefl]
  have hL0 : (regsV L).length = L.length := regsV_length L
  refine ⟨⟨.inr trivial, .inr (live_last _ _), ⟨hsb, hsz⟩, by rw [hL0]; omega⟩, ?_⟩
  refine loop_at (fun (x : List Rg × V × Nat) => ⟨[(1, .v (.sl ub uR uz (intsV .i64 os))), (5, .v (.ptr (some (ix, 0)))), (6, .v wx), (7, .v (.ptr (some (τ0.objs.length + 1, 0)))), (8, .v x.2.1), (9, .v (.int .i64 x.2.2))], []⟩)
    (fun x τ => x.2.2 + x.1.length ≤ 200 ∧ Ext τ0 τ ∧ RdS τ x.2.1 7 (regsV x.1) ∧ ∃ D T, Has D T ∧ T.length + 2 * x.1.length ≤ 400 ∧ IsRegs τ (τ0.objs.length + 1) τ0.objs.length T ∧ ∀ y, y ∈ D ∨ y ∈ x.1 ↔ y ∈ L) (fun x => x.1.length)
    (L, .sl false (.own (τ'.live ++ [true]).length) 7 (regsV L), 0) ?_ ?_ ?_
  · refine .inr ?_
    simp -implicitDefEqProofs only [go_sem, Nat.reduceBEq, Nat.reduceAdd, eq_self, true_and, and_true, and_self, List.getElem?_cons_zero, List.getElem?_cons_succ, Nat.reduceLeDiff, Nat.zero_add, Nat.reduceSub, Nat.le_refl, Bool.false_and, List.nil_append]
    try trivial
  · refine ⟨by simp only; omega, ?_, ⟨false, _, 7, rfl, by simp, .inr ⟨?_, rfl⟩⟩, [], [], .nil, by simp only [List.length_nil]; omega, ?_, by simp⟩
    · exact ext_kill (ext_push he1) (by have := he1.llen; omega)
    · exact live_last' _ _ _
    · exact ⟨hy.choose, hy.choose_spec.1, hy.choose_spec.2⟩
  clear hs hsb hsz hL0 hy hv1 he1 hlv1 hv0 hz
  rintro ⟨Rr, w, t⟩ τ ⟨g1, g2, g3, D, T, g4, g5, g6, g7⟩ Z z1 z2 z3
  simp only at g1 g3 g5 g7
  obtain ⟨wb, wR, wz, rfl, -, -⟩ := id g3
  have hRl := regsV_length Rr
  simp -implicitDefEqProofs only [go_sem, Nat.reduceBEq, Nat.reduceAdd, eq_self, true_and, and_true, and_self, List.getElem?_cons_zero, List.getElem?_cons_succ, Nat.reduceLeDiff, Nat.zero_add, Nat.reduceSub, Nat.le_refl, Nat.lt_irrefl]
  refine CondW_b (fun hc => ?_) (fun hc => ?_)
  case refine_2 =>
    have hc := of_decide_eq_false hc
    have hR0 : Rr = [] := by
      cases Rr with
      | nil => rfl
      | cons a b => exfalso; simp only [regsV, List.map_cons, List.length_cons] at hc; omega
    subst hR0
    have hD : ∀ y, y ∈ D ↔ y ∈ L := fun y => by have := g7 y; simpa using this
    simp -implicitDefEqProofs only [go_sem, Nat.reduceBEq, Nat.reduceAdd, eq_self, true_and, and_true, and_self, List.getElem?_cons_zero, List.getElem?_cons_succ, Nat.reduceLeDiff, Nat.zero_add, Nat.reduceSub, Nat.le_refl, Nat.lt_irrefl]
    refine z2 _ _ _ ?_
    have hx2 := hx.ext g2
    simp -implicitDefEqProofs only [go_sem, Nat.reduceBEq, Nat.reduceAdd, eq_self, true_and, and_true, and_self, List.getElem?_cons_zero, List.getElem?_cons_succ, Nat.reduceLeDiff, Nat.zero_add, Nat.reduceSub, Nat.le_refl, Nat.lt_irrefl]
    refine call_at (all_ok hx2 hH (by omega)) ?_
    rintro va τ2 ⟨A, a1, a2, a3, a4⟩
    refine ⟨kept_none, ?_⟩
    have eA := a1.uniq hC
    subst eA
    simp -implicitDefEqProofs only [go_sem, Nat.reduceBEq, Nat.reduceAdd, eq_self, true_and, and_true, and_self, List.getElem?_cons_zero, List.getElem?_cons_succ, Nat.reduceLeDiff, Nat.zero_add, Nat.reduceSub, Nat.le_refl, Nat.lt_irrefl]
    refine call_at (all_ok (g6.ext a4) g4 (by simp only [List.length_nil] at g5; omega)) ?_
    rintro vb τ3 ⟨B, b1, b2, b3, b4⟩
    refine ⟨kept_none, ?_⟩
    have eB := (b1.congr hD).uniq hC
    subst eB
    simp -implicitDefEqProofs only [go_sem, Nat.reduceBEq, Nat.reduceAdd, eq_self, true_and, and_true, and_self, List.getElem?_cons_zero, List.getElem?_cons_succ, Nat.reduceLeDiff, Nat.zero_add, Nat.reduceSub, Nat.le_refl, Nat.lt_irrefl]
    refine call_at (same_ok (a3.ext b4) b3 (by omega)) ?_
    rintro v τ4 ⟨rfl, rfl⟩
    refine ⟨kept_none, ?_⟩
    simp -implicitDefEqProofs only [go_sem, Nat.reduceBEq, Nat.reduceAdd, eq_self, true_and, and_true, and_self, List.getElem?_cons_zero, List.getElem?_cons_succ, Nat.reduceLeDiff, Nat.zero_add, Nat.reduceSub, Nat.le_refl, Nat.lt_irrefl]
    refine call_at (all_ok ((g6.ext a4).ext b4) g4 (by simp only [List.length_nil] at g5; omega)) ?_
    rintro vc τ5 ⟨C, c1, c2, c3, c4⟩
    refine ⟨kept_none, ?_⟩
    have eC := (c1.congr hD).uniq hC
    rw [eC] at c3
    simp -implicitDefEqProofs only [go_sem, Nat.reduceBEq, Nat.reduceAdd, eq_self, true_and, and_true, and_self, List.getElem?_cons_zero, List.getElem?_cons_succ, Nat.reduceLeDiff, Nat.zero_add, Nat.reduceSub, Nat.le_refl, Nat.lt_irrefl]
    refine call_at (same_ok c3 ((((hw.ext g2).ext a4).ext b4).ext c4) (by omega)) ?_
    rintro v τ6 ⟨rfl, rfl⟩
    refine ⟨kept_none, ?_⟩
    simp -implicitDefEqProofs only [go_sem, Nat.reduceBEq, Nat.reduceAdd, eq_self, true_and, and_true, and_self, List.getElem?_cons_zero, List.getElem?_cons_succ, Nat.reduceLeDiff, Nat.zero_add, Nat.reduceSub, Nat.le_refl, Nat.lt_irrefl]
    refine call_at awake_ok ?_
    rintro v τ7 ⟨rfl, he7⟩
    refine ⟨kept_none, ?_⟩
    simp -implicitDefEqProofs only [go_sem, Nat.reduceBEq, Nat.reduceAdd, eq_self, true_and, and_true, and_self, List.getElem?_cons_zero, List.getElem?_cons_succ, Nat.reduceLeDiff, Nat.zero_add, Nat.reduceSub, Nat.le_refl, Nat.lt_irrefl]
    refine q2 _ _ ?_
    simp -implicitDefEqProofs only [go_sem, Nat.reduceBEq, Nat.reduceAdd, eq_self, true_and, and_true, and_self, List.getElem?_cons_zero, List.getElem?_cons_succ, Nat.reduceLeDiff, Nat.zero_add, Nat.reduceSub, Nat.le_refl, Nat.lt_irrefl]
  have hc := of_decide_eq_true hc
  have hRp : 0 < Rr.length := by omega
  simp -implicitDefEqProofs only [go_sem, Nat.reduceBEq, Nat.reduceAdd, eq_self, true_and, and_true, and_self, List.getElem?_cons_zero, List.getElem?_cons_succ, Nat.reduceLeDiff, Nat.zero_add, Nat.reduceSub, Nat.le_refl, Nat.lt_irrefl]
  refine cut_at (fun G τ2 => τ2 = τ ∧ ∃ i : Nat, i < Rr.length ∧ G = ⟨[(1, .v (.sl ub uR uz (intsV .i64 os))), (5, .v (.ptr (some (ix, 0)))), (6, .v wx), (7, .v (.ptr (some (τ0.objs.length + 1, 0)))), (8, .v (.sl wb wR wz (regsV Rr))), (9, .v (.int .i64 t)), (10, .v (.int .i64 i))], []⟩) ?_ ?_
  · intro Y y1 y2 y3
    simp -implicitDefEqProofs only [go_sem, Nat.reduceBEq, Nat.reduceAdd, eq_self, true_and, and_true, and_self, List.getElem?_cons_zero, List.getElem?_cons_succ, Nat.reduceLeDiff, Nat.zero_add, Nat.reduceSub, Nat.le_refl, Nat.lt_irrefl]
    refine CondW_b (fun ho => ?_) (fun ho => ?_)
    · have ho' : t < os.length := by have := of_decide_eq_true ho; simp only [intsV, List.length_map] at this; omega
      obtain ⟨k1, k2⟩ := rdl (hu0.ext g2) (by cases os <;> simp [intsV] at ho' ⊢)
      have hib : (t : Int) < (intsV .i64 os).length := by simp only [intsV, List.length_map]; omega
      have hget := intsV_get (k := .i64) ho'
      obtain ⟨i, hi, e⟩ := idx_of os[t] hRp (by omega)
      simp -implicitDefEqProofs only [go_sem, Nat.reduceBEq, Nat.reduceAdd, eq_self, true_and, and_true, and_self, List.getElem?_cons_zero, List.getElem?_cons_succ, Nat.reduceLeDiff, Nat.zero_add, Nat.reduceSub, Nat.le_refl, hget]
      refine ⟨⟨by omega, hib, k2⟩, k1, ?_, ?_⟩
      · rw [hRl, u64w]; omega
      · rw [hRl, e]
        refine y1 _ _ _ (.inr ?_) ⟨rfl, i, hi, rfl⟩
        simp -implicitDefEqProofs only [go_sem, Nat.reduceBEq, Nat.reduceAdd, eq_self, true_and, and_true, and_self, List.getElem?_cons_zero, List.getElem?_cons_succ, Nat.reduceLeDiff, Nat.zero_add, Nat.reduceSub, Nat.le_refl, Nat.lt_irrefl]
        try trivial
    · simp -implicitDefEqProofs only [go_sem, Nat.reduceBEq, Nat.reduceAdd, eq_self, true_and, and_true, and_self, List.getElem?_cons_zero, List.getElem?_cons_succ, Nat.reduceLeDiff, Nat.zero_add, Nat.reduceSub, Nat.le_refl, Nat.lt_irrefl]
      refine y1 _ _ _ (.inr ?_) ⟨rfl, 0, hRp, rfl⟩
      simp -implicitDefEqProofs only [go_sem, Nat.reduceBEq, Nat.reduceAdd, eq_self, true_and, and_true, and_self, List.getElem?_cons_zero, List.getElem?_cons_succ, Nat.reduceLeDiff, Nat.zero_add, Nat.reduceSub, Nat.le_refl, Nat.lt_irrefl]
      try trivial
  rintro G τ2 ⟨rfl, i, hi, rfl⟩
  have hgi := regsV_get hi
  have hg0 := regsV_get hRp
  have hmem := mem_rest hi
  have hmi : Rr[i] ∈ L := (g7 _).1 (.inr (List.getElem_mem hi))
  have hm0 : Rr[0] ∈ L := (g7 _).1 (.inr (List.getElem_mem hRp))
  have hm0r : Rr[0] ∈ Rr := List.getElem_mem hRp
  generalize Rr[i] = yi at hgi hmem hmi
  generalize Rr[0] = y0 at hg0 hm0 hm0r
  obtain ⟨k1, k2⟩ := rdl g3 (by cases Rr <;> simp [regsV] at hi ⊢)
  have hib : (i : Int) < (regsV Rr).length := by omega
  have hib0 : (0 : Int) < (regsV Rr).length := by omega
  have ht0 : (0 : Int).toNat = 0 := rfl
  simp only [Int.ofNat_zero, Int.cast_ofNat_Int, ht0] at hg0
  simp -implicitDefEqProofs only [go_sem, Nat.reduceBEq, Nat.reduceAdd, eq_self, true_and, and_true, and_self, List.getElem?_cons_zero, List.getElem?_cons_succ, Nat.reduceLeDiff, Nat.zero_add, Nat.reduceSub, Nat.le_refl, hgi, regC]
  refine ⟨⟨by omega, hib, k2⟩, k1, call_at (put_ok (r := yi) g6 (hnm _ hmi)) ?_⟩
  rintro v τ3 ⟨rfl, p1, p2, p3⟩
  refine ⟨kept_none, ?_⟩
  have e3 := p3 τ0 g2 (Nat.le_refl _)
  have g33 := rdS_live g3 p2
  have k13 := (rdl g33 (by cases Rr <;> simp [regsV] at hi ⊢)).1
  simp -implicitDefEqProofs only [go_sem, Nat.reduceBEq, Nat.reduceAdd, eq_self, true_and, and_true, and_self, List.getElem?_cons_zero, List.getElem?_cons_succ, Nat.reduceLeDiff, Nat.zero_add, Nat.reduceSub, Nat.le_refl, ht0, hg0, regC]
  refine ⟨⟨by omega, hib0, k2⟩, k13, call_at (put_ok (r := y0) p1 (hnm _ hm0)) ?_⟩
  rintro v τ4 ⟨rfl, p4, p5, p6⟩
  refine ⟨kept_none, ?_⟩
  have e4 := p6 τ0 e3 (Nat.le_refl _)
  have g34 := rdS_live g33 p5
  obtain ⟨k14, -⟩ := rdl g34 (by cases Rr <;> simp [regsV] at hi ⊢)
  have hwi : IntKind.i64.wrap ((i : Int) + 1) = ((i + 1 : Nat) : Int) := by rw [i64_in _ (by omega)]; omega
  simp -implicitDefEqProofs only [go_sem, Nat.reduceBEq, Nat.reduceAdd, eq_self, true_and, and_true, and_self, List.getElem?_cons_zero, List.getElem?_cons_succ, Nat.reduceLeDiff, Nat.zero_add, Nat.reduceSub, Nat.le_refl, Nat.lt_irrefl]
  have x5 := ext_live τ4 true
  have x6 : Ext τ4 ⟨τ4.objs, kill (τ4.live ++ [true]) (.own τ4.live.length) ++ [true]⟩ := ext_kill x5 (Nat.le_refl _)
  have hne : regsV Rr ≠ [] := by cases Rr <;> simp [regsV] at hi ⊢
  have k15 := (rdl (g34.ext x5) hne).1
  have k16 := (rdl (g34.ext x6) hne).1
  have hl1 : (Rr.take i).length ≤ 200 := by rw [List.length_take]; omega
  have hl2 : (Rr.drop (i + 1)).length ≤ 200 := by rw [List.length_drop]; omega
  have hl3 : (Rr.take i ++ Rr.drop (i + 1)).length + 1 = Rr.length := by rw [List.length_append, List.length_take, List.length_drop]; omega
  simp only [hwi, Int.toNat_natCast, List.take_length, regsV_take, regsV_drop, regsV_append]
  refine ⟨⟨.inr k2, by omega, by omega, by omega⟩, ⟨.inr trivial, .inr (live_last _ _), ⟨.inr (rd_toView k15), .inl k2⟩, by rw [regsV_length]; omega⟩, ⟨.inr k2, by omega, by omega⟩,
    ⟨.inr trivial, .inr (live_last' _ _ _), ⟨.inr (rd_toView k16), .inl k2⟩, by rw [regsV_length, regsV_length]; omega⟩, ?_⟩
  have p1l := putR_length T yi
  have p2l := putR_length (putR T yi) y0
  refine z1 (Rr.take i ++ Rr.drop (i + 1), .sl false (.own (kill (τ4.live ++ [true]) (.own τ4.live.length) ++ [true]).length) 7 (regsV (Rr.take i ++ Rr.drop (i + 1))), t + 1) _ _ (.inr ?_) (by simp only; omega) ⟨by simp only; omega, ?_, ⟨false, _, 7, rfl, by simp, .inr ⟨?_, rfl⟩⟩, D ++ [yi] ++ [y0], putR (putR T yi) y0, (g4.put yi).put y0, by simp only; omega, ?_, fun y => ?_⟩
  · simp -implicitDefEqProofs only [go_sem, Nat.reduceBEq, Nat.reduceAdd, eq_self, true_and, and_true, and_self, List.getElem?_cons_zero, List.getElem?_cons_succ, Nat.reduceLeDiff, Nat.zero_add, Nat.reduceSub, Nat.le_refl, Nat.lt_irrefl]
    rw [i64_in _ (by omega)]; simp
  · exact e4.trans (ext_kill x6 (by simp))
  · exact live_last' _ _ _
  · exact p4.ext (ext_kill x6 (by simp))
  · rw [← g7 y, hmem y]
    simp only [List.mem_append, List.mem_singleton]
    constructor
    · rintro (((h | h) | h) | h)
      · exact .inl h
      · exact .inr (.inl h)
      · subst h
        exact .inr (by simpa only [List.mem_append] using (hmem y).1 hm0r)
      · exact .inr (.inr h)
    · rintro (h | h | h)
      · exact .inl (.inl (.inl h))
      · exact .inl (.inl (.inr h))
      · exact .inr h
end
end Go.VL.lww

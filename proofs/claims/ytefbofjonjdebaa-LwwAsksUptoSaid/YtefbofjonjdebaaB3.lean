import Derived.Test.YtefbofjonjdebaaB2
set_option linter.unusedVariables false
set_option linter.unusedSimpArgs false
namespace Go.VL.lww
open Go Go.VL Go.Proofs Go.IntWalk

theorem u64w (n : Int) : IntKind.u64.wrap n = n % 18446744073709551616 := by simp [IntKind.wrap, IntKind.bits, IntKind.signed]
theorem idx_of (o : Int) {n : Nat} (h : 0 < n) (hn : n ≤ 268435456) : ∃ i : Nat, i < n ∧ IntKind.i64.wrap ((IntKind.u64.wrap o).tmod (IntKind.u64.wrap n)) = i := by
  rw [u64w, u64w]
  obtain ⟨a, ha⟩ := Int.eq_ofNat_of_zero_le (Int.emod_nonneg o (b := 18446744073709551616) (by decide))
  have e : (n : Int) % 18446744073709551616 = n := Int.emod_eq_of_lt (by omega) (by omega)
  rw [ha, e, tmod_nat]
  have := Nat.mod_lt a h
  exact ⟨a % n, this, by rw [i64_in _ (by omega)]⟩
theorem regsV_take (l : List Rg) (i : Nat) : (regsV l).take i = regsV (l.take i) := by simp [regsV, List.map_take]
theorem regsV_drop (l : List Rg) (i : Nat) : (regsV l).drop i = regsV (l.drop i) := by simp [regsV, List.map_drop]
theorem mem_rest {R : List Rg} {i : Nat} (h : i < R.length) (x : Rg) : x ∈ R ↔ x = R[i] ∨ x ∈ R.take i ++ R.drop (i + 1) := by
  have e : R = R.take i ++ R[i] :: R.drop (i + 1) := by rw [← List.drop_eq_getElem_cons h, List.take_append_drop]
  conv => lhs; rw [e]
  simp only [List.mem_append, List.mem_cons]
  constructor
  · rintro (h | h | h)
    · exact .inr (.inl h)
    · exact .inl h
    · exact .inr (.inr h)
  · rintro (h | h | h)
    · exact .inr (.inl h)
    · exact .inl h
    · exact .inr (.inr h)
theorem putR_length (T : List Rg) (r : Rg) : (putR T r).length ≤ T.length + 1 := by
  have hu : ∀ (r : Rg) (S : List Rg), (updR r S).length ≤ S.length + 1 := by
    intro r S
    induction S with
    | nil => simp [updR]
    | cons x S ih =>
      unfold updR
      cases sameK r x <;> simp only [cond_true, cond_false, List.length_cons] <;> omega
  have := hu r T
  unfold putR
  cases decide (chk r = 0) <;> simp only [cond_true, cond_false]
  · omega
  · cases T.find? (sameK r) with
    | none => simp only [List.length_append, List.length_singleton]; omega
    | some w => cases hv : wins r w <;> simp only [hv, cond_true, cond_false] <;> omega

section
variable {σ : St} {l : List Rg} {os : List Int} {v u : V}
set_option maxRecDepth 100000 in
set_option maxHeartbeats 6400000 in
theorem any_ok (hv : RdS σ v 7 (regsV l)) (hu : RdS σ u 1 (intsV .i64 os)) (hlen : ∀ r ∈ l, r.name.length < 4611686018427387904) (hl : l.length ≤ 268435456) :
    CallA Try.prog 6 [v, u] σ fun w _ => w = .bool true := by
  obtain ⟨b, R, z, rfl, -, -⟩ := id hv
  obtain ⟨ub, uR, uz, rfl, -, -⟩ := id hu
  refine fn_at Try.func6 (by decide) comp6 rfl fun Q q1 q2 => ?_
  simp -implicitDefEqProofs only [go_sem, Nat.reduceBEq, Nat.reduceAdd, eq_self, true_and, and_true, and_self, List.getElem?_cons_zero, List.getElem?_cons_succ, Nat.reduceLeDiff, Nat.zero_add, Nat.reduceSub, Nat.le_refl, c6]
  refine call_at (laid_ok hv hlen hl) ?_
  rintro v τ0 ⟨ix, mx, wx, rfl, hx, hw, he, -⟩
  refine ⟨kept_none, ?_⟩
  obtain ⟨hH, hC, hle⟩ := has_puts _ (l.take 200) rfl
  have hlenL : (l.take 200).length ≤ 200 := by rw [List.length_take]; omega
  have hcl := rputs_length (l.take 200)
  have hnm : ∀ r ∈ l.take 200, r.name.length < 4611686018427387904 := fun r hr => hlen r (List.mem_of_mem_take hr)
  generalize puts (l.take 200) = Tx at hx hH hle
  generalize rputs (l.take 200) = S at hw hC hcl
  have hv0 := hv.ext he
  have hu0 := hu.ext he
  simp -implicitDefEqProofs only [go_sem, Nat.reduceBEq, Nat.reduceAdd, eq_self, true_and, and_true, and_self, List.getElem?_cons_zero, List.getElem?_cons_succ, Nat.reduceLeDiff, Nat.zero_add, Nat.reduceSub, Nat.le_refl, Nat.lt_irrefl]
  refine call_at new_ok ?_
  rintro v τ1 ⟨rfl, hy, he1, hlv1⟩
  refine ⟨kept_none, ?_⟩
  have hxi : ix < τ0.objs.length := by obtain ⟨_, h1, _⟩ := hx; exact (List.getElem?_eq_some_iff.1 h1).1
  have hv1 := hv0.ext he1
  have hz := rd_z hv
  simp -implicitDefEqProofs only [go_sem, Nat.reduceBEq, Nat.reduceAdd, eq_self, true_and, and_true, and_self, List.getElem?_cons_zero, List.getElem?_cons_succ, Nat.reduceLeDiff, Nat.zero_add, Nat.reduceSub, Nat.le_refl, Nat.lt_irrefl]
  refine cut_at (fun G τ' => τ' = τ1 ∧ ∃ b' R' z', G = ⟨[(0, .v (.sl b' R' z' (regsV (l.take 200)))), (1, .v (.sl ub uR uz (intsV .i64 os))), (5, .v (.ptr (some (ix, 0)))), (6, .v wx), (7, .v (.ptr (some (τ0.objs.length + 1, 0))))], []⟩ ∧ RdS τ1 (.sl b' R' z' (regsV (l.take 200))) 7 (regsV (l.take 200))) ?_ ?_
  · intro Z z1 z2 z3
    simp -implicitDefEqProofs only [go_sem, Nat.reduceBEq, Nat.reduceAdd, eq_self, true_and, and_true, and_self, List.getElem?_cons_zero, List.getElem?_cons_succ, Nat.reduceLeDiff, Nat.zero_add, Nat.reduceSub, Nat.le_refl, Nat.lt_irrefl]
    refine CondW_b (fun hc => ?_) (fun hc => ?_)
    · have hc := of_decide_eq_true hc
      have hc2 : (200 : Int) < (regsV l).length := by omega
      have ht : List.take (Int.toNat 200) (regsV l) = regsV (l.take 200) := by simp [regsV, List.map_take]
      simp -implicitDefEqProofs only [go_sem, Nat.reduceBEq, Nat.reduceAdd, eq_self, true_and, and_true, and_self, List.getElem?_cons_zero, List.getElem?_cons_succ, Nat.reduceLeDiff, Nat.zero_add, Nat.reduceSub, Nat.le_refl, Nat.lt_irrefl]
      refine ⟨⟨hz, by decide, by decide, by show 200 ≤ _; omega⟩, ?_⟩
      rw [ht]
      refine z1 _ _ _ (.inr ?_) ⟨rfl, b, R.toView, z, rfl, ?_⟩
      · simp -implicitDefEqProofs only [go_sem, Nat.reduceBEq, Nat.reduceAdd, eq_self, true_and, and_true, and_self, List.getElem?_cons_zero, List.getElem?_cons_succ, Nat.reduceLeDiff, Nat.zero_add, Nat.reduceSub, Nat.le_refl, Nat.lt_irrefl]
        try trivial
      · obtain ⟨_, _, _, e, h3, h4⟩ := hv1
        cases e
        refine ⟨_, _, _, rfl, fun hb => ?_, h4.imp_right fun x => ⟨rd_toView x.1, x.2⟩⟩
        have := h3 hb
        rw [this] at hc2
        simp at hc2
    · have hc := of_decide_eq_false hc
      have ht : l.take 200 = l := List.take_of_length_le (by have := regsV_length l; omega)
      simp -implicitDefEqProofs only [go_sem, Nat.reduceBEq, Nat.reduceAdd, eq_self, true_and, and_true, and_self, List.getElem?_cons_zero, List.getElem?_cons_succ, Nat.reduceLeDiff, Nat.zero_add, Nat.reduceSub, Nat.le_refl, Nat.lt_irrefl]
      refine z1 _ _ _ (.inr ?_) ⟨rfl, b, R, z, rfl, ?_⟩
      · rw [ht]; simp -implicitDefEqProofs only [go_sem, Nat.reduceBEq, Nat.reduceAdd, eq_self, true_and, and_true, and_self, List.getElem?_cons_zero, List.getElem?_cons_succ, Nat.reduceLeDiff, Nat.zero_add, Nat.reduceSub, Nat.le_refl, Nat.lt_irrefl]
        try trivial
      · rw [ht]; exact hv1
  generalize l.take 200 = L at hH hC hle hlenL hcl hnm
  rintro G τ' ⟨rfl, b', R', z', rfl, hs⟩
  obtain ⟨hsb, hsz⟩ := rd_src (hs.ext (ext_live τ' true))
  simp -implicitDefEqProofs only [go_sem, Nat.reduceBEq, Nat.reduceAdd, eq_self, true_and, and_true, and_self, List.getElem?_cons_zero, List.getElem?_cons_succ, Nat.reduceLeDiff, Nat.zero_add, Nat.reduceSub, Nat.le_refl, Nat.lt_irrefl]
  have hL0 : (regsV L).length = L.length := regsV_length L
  refine ⟨⟨.inr trivial, .inr (live_last _ _), ⟨hsb, hsz⟩, by rw [hL0]; omega⟩, ?_⟩
  refine loop_at (fun (x : List Rg × V × Nat) => ⟨[(1, .v (.sl ub uR uz (intsV .i64 os))), (5, .v (.ptr (some (ix, 0)))), (6, .v wx), (7, .v (.ptr (some (τ0.objs.length + 1, 0)))), (8, .v x.2.1), (9, .v (.int .i64 x.2.2))], []⟩)
    (fun x τ => x.2.2 + x.1.length ≤ 200 ∧ Ext τ0 τ ∧ RdS τ x.2.1 7 (regsV x.1) ∧ ∃ D T, Has D T ∧ T.length + 2 * x.1.length ≤ 400 ∧ IsRegs τ (τ0.objs.length + 1) τ0.objs.length T ∧ ∀ y, y ∈ D ∨ y ∈ x.1 ↔ y ∈ L) (fun x => x.1.length)
    (L, .sl false (.own (τ'.live ++ [true]).length) 7 (regsV L), 0) ?_ ?_ ?_
  · refine .inr ?_
    simp -implicitDefEqProofs only [go_sem, Nat.reduceBEq, Nat.reduceAdd, eq_self, true_and, and_true, and_self, List.getElem?_cons_zero, List.getElem?_cons_succ, Nat.reduceLeDiff, Nat.zero_add, Nat.reduceSub, Nat.le_refl, Bool.false_and, List.nil_append]
    try trivial
  · refine ⟨by simp only; omega, ?_, ⟨false, _, 7, rfl, by simp, .inr ⟨?_, rfl⟩⟩, [], [], .nil, by simp only [List.length_nil]; omega, ?_, by simp⟩
    · exact ext_kill (ext_push he1) (by have := he1.llen; omega)
    · exact live_last' _ _ _
    · exact ⟨hy.choose, hy.choose_spec.1, hy.choose_spec.2⟩
  clear hs hsb hsz hL0 hy hv1 he1 hlv1 hv0 hz
  rintro ⟨Rr, w, t⟩ τ ⟨g1, g2, g3, D, T, g4, g5, g6, g7⟩ Z z1 z2 z3
  simp only at g1 g3 g5 g7
  obtain ⟨wb, wR, wz, rfl, -, -⟩ := id g3
  have hRl := regsV_length Rr
  simp -implicitDefEqProofs only [go_sem, Nat.reduceBEq, Nat.reduceAdd, eq_self, true_and, and_true, and_self, List.getElem?_cons_zero, List.getElem?_cons_succ, Nat.reduceLeDiff, Nat.zero_add, Nat.reduceSub, Nat.le_refl, Nat.lt_irrefl]
  refine CondW_b (fun hc => ?_) (fun hc => ?_)
  case refine_2 =>
    have hc := of_decide_eq_false hc
    have hR0 : Rr = [] := by
      cases Rr with
      | nil => rfl
      | cons a b => exfalso; simp only [regsV, List.map_cons, List.length_cons] at hc; omega
    subst hR0
    have hD : ∀ y, y ∈ D ↔ y ∈ L := fun y => by have := g7 y; simpa using this
    simp -implicitDefEqProofs only [go_sem, Nat.reduceBEq, Nat.reduceAdd, eq_self, true_and, and_true, and_self, List.getElem?_cons_zero, List.getElem?_cons_succ, Nat.reduceLeDiff, Nat.zero_add, Nat.reduceSub, Nat.le_refl, Nat.lt_irrefl]
    refine z2 _ _ _ ?_
    have hx2 := hx.ext g2
    simp -implicitDefEqProofs only [go_sem, Nat.reduceBEq, Nat.reduceAdd, eq_self, true_and, and_true, and_self, List.getElem?_cons_zero, List.getElem?_cons_succ, Nat.reduceLeDiff, Nat.zero_add, Nat.reduceSub, Nat.le_refl, Nat.lt_irrefl]
    refine call_at (all_ok hx2 hH (by omega)) ?_
    rintro va τ2 ⟨A, a1, a2, a3, a4⟩
    refine ⟨kept_none, ?_⟩
    have eA := a1.uniq hC
    subst eA
    simp -implicitDefEqProofs only [go_sem, Nat.reduceBEq, Nat.reduceAdd, eq_self, true_and, and_true, and_self, List.getElem?_cons_zero, List.getElem?_cons_succ, Nat.reduceLeDiff, Nat.zero_add, Nat.reduceSub, Nat.le_refl, Nat.lt_irrefl]
    refine call_at (all_ok (g6.ext a4) g4 (by simp only [List.length_nil] at g5; omega)) ?_
    rintro vb τ3 ⟨B, b1, b2, b3, b4⟩
    refine ⟨kept_none, ?_⟩
    have eB := (b1.congr hD).uniq hC
    subst eB
    simp -implicitDefEqProofs only [go_sem, Nat.reduceBEq, Nat.reduceAdd, eq_self, true_and, and_true, and_self, List.getElem?_cons_zero, List.getElem?_cons_succ, Nat.reduceLeDiff, Nat.zero_add, Nat.reduceSub, Nat.le_refl, Nat.lt_irrefl]
    refine call_at (same_ok (a3.ext b4) b3 (by omega)) ?_
    rintro v τ4 ⟨rfl, rfl⟩
    refine ⟨kept_none, ?_⟩
    simp -implicitDefEqProofs only [go_sem, Nat.reduceBEq, Nat.reduceAdd, eq_self, true_and, and_true, and_self, List.getElem?_cons_zero, List.getElem?_cons_succ, Nat.reduceLeDiff, Nat.zero_add, Nat.reduceSub, Nat.le_refl, Nat.lt_irrefl]
    refine call_at (all_ok ((g6.ext a4).ext b4) g4 (by simp only [List.length_nil] at g5; omega)) ?_
    rintro vc τ5 ⟨C, c1, c2, c3, c4⟩
    refine ⟨kept_none, ?_⟩
    have eC := (c1.congr hD).uniq hC
    rw [eC] at c3
    simp -implicitDefEqProofs only [go_sem, Nat.reduceBEq, Nat.reduceAdd, eq_self, true_and, and_true, and_self, List.getElem?_cons_zero, List.getElem?_cons_succ, Nat.reduceLeDiff, Nat.zero_add, Nat.reduceSub, Nat.le_refl, Nat.lt_irrefl]
    refine call_at (same_ok c3 ((((hw.ext g2).ext a4).ext b4).ext c4) (by omega)) ?_
    rintro v τ6 ⟨rfl, rfl⟩
    refine ⟨kept_none, ?_⟩
    simp -implicitDefEqProofs only [go_sem, Nat.reduceBEq, Nat.reduceAdd, eq_self, true_and, and_true, and_self, List.getElem?_cons_zero, List.getElem?_cons_succ, Nat.reduceLeDiff, Nat.zero_add, Nat.reduceSub, Nat.le_refl, Nat.lt_irrefl]
    refine call_at awake_ok ?_
    rintro v τ7 ⟨rfl, he7⟩
    refine ⟨kept_none, ?_⟩
    simp -implicitDefEqProofs only [go_sem, Nat.reduceBEq, Nat.reduceAdd, eq_self, true_and, and_true, and_self, List.getElem?_cons_zero, List.getElem?_cons_succ, Nat.reduceLeDiff, Nat.zero_add, Nat.reduceSub, Nat.le_refl, Nat.lt_irrefl]
    refine q2 _ _ ?_
    simp -implicitDefEqProofs only [go_sem, Nat.reduceBEq, Nat.reduceAdd, eq_self, true_and, and_true, and_self, List.getElem?_cons_zero, List.getElem?_cons_succ, Nat.reduceLeDiff, Nat.zero_add, Nat.reduceSub, Nat.le_refl, Nat.lt_irrefl]
  have hc := of_decide_eq_true hc
  have hRp : 0 < Rr.length := by omega
  simp -implicitDefEqProofs only [go_sem, Nat.reduceBEq, Nat.reduceAdd, eq_self, true_and, and_true, and_self, List.getElem?_cons_zero, List.getElem?_cons_succ, Nat.reduceLeDiff, Nat.zero_add, Nat.reduceSub, Nat.le_refl, Nat.lt_irrefl]
  refine cut_at (fun G τ2 => τ2 = τ ∧ ∃ i : Nat, i < Rr.length ∧ G = ⟨[(1, .v (.sl ub uR uz (intsV .i64 os))), (5, .v (.ptr (some (ix, 0)))), (6, .v wx), (7, .v (.ptr (some (τ0.objs.length + 1, 0)))), (8, .v (.sl wb wR wz (regsV Rr))), (9, .v (.int .i64 t)), (10, .v (.int .i64 i))], []⟩) ?_ ?_
  · intro Y y1 y2 y3
    simp -implicitDefEqProofs only [go_sem, Nat.reduceBEq, Nat.reduceAdd, eq_self, true_and, and_true, and_self, List.getElem?_cons_zero, List.getElem?_cons_succ, Nat.reduceLeDiff, Nat.zero_add, Nat.reduceSub, Nat.le_refl, Nat.lt_irrefl]
    refine CondW_b (fun ho => ?_) (fun ho => ?_)
    · have ho' : t < os.length := by have := of_decide_eq_true ho; simp only [intsV, List.length_map] at this; omega
      obtain ⟨k1, k2⟩ := rdl (hu0.ext g2) (by cases os <;> simp [intsV] at ho' ⊢)
      have hib : (t : Int) < (intsV .i64 os).length := by simp only [intsV, List.length_map]; omega
      have hget := intsV_get (k := .i64) ho'
      obtain ⟨i, hi, e⟩ := idx_of os[t] hRp (by omega)
      simp -implicitDefEqProofs only [go_sem, Nat.reduceBEq, Nat.reduceAdd, eq_self, true_and, and_true, and_self, List.getElem?_cons_zero, List.getElem?_cons_succ, Nat.reduceLeDiff, Nat.zero_add, Nat.reduceSub, Nat.le_refl, hget]
      refine ⟨⟨by omega, hib, k2⟩, k1, ?_, ?_⟩
      · rw [hRl, u64w]; omega
      · rw [hRl, e]
        refine y1 _ _ _ (.inr ?_) ⟨rfl, i, hi, rfl⟩
        simp -implicitDefEqProofs only [go_sem, Nat.reduceBEq, Nat.reduceAdd, eq_self, true_and, and_true, and_self, List.getElem?_cons_zero, List.getElem?_cons_succ, Nat.reduceLeDiff, Nat.zero_add, Nat.reduceSub, Nat.le_refl, Nat.lt_irrefl]
        try trivial
    · simp -implicitDefEqProofs only [go_sem, Nat.reduceBEq, Nat.reduceAdd, eq_self, true_and, and_true, and_self, List.getElem?_cons_zero, List.getElem?_cons_succ, Nat.reduceLeDiff, Nat.zero_add, Nat.reduceSub, Nat.le_refl, Nat.lt_irrefl]
      refine y1 _ _ _ (.inr ?_) ⟨rfl, 0, hRp, rfl⟩
      simp -implicitDefEqProofs only [go_sem, Nat.reduceBEq, Nat.reduceAdd, eq_self, true_and, and_true, and_self, List.getElem?_cons_zero, List.getElem?_cons_succ, Nat.reduceLeDiff, Nat.zero_add, Nat.reduceSub, Nat.le_refl, Nat.lt_irrefl]
      try trivial
  rintro G τ2 ⟨rfl, i, hi, rfl⟩
  have hgi := regsV_get hi
  have hg0 := regsV_get hRp
  have hmem := mem_rest hi
  have hmi : Rr[i] ∈ L := (g7 _).1 (.inr (List.getElem_mem hi))
  have hm0 : Rr[0] ∈ L := (g7 _).1 (.inr (List.getElem_mem hRp))
  have hm0r : Rr[0] ∈ Rr := List.getElem_mem hRp
  generalize Rr[i] = yi at hgi hmem hmi
  generalize Rr[0] = y0 at hg0 hm0 hm0r
  obtain ⟨k1, k2⟩ := rdl g3 (by cases Rr <;> simp [regsV] at hi ⊢)
  have hib : (i : Int) < (regsV Rr).length := by omega
  have hib0 : (0 : Int) < (regsV Rr).length := by omega
  have ht0 : (0 : Int).toNat = 0 := rfl
  simp only [Int.ofNat_zero, Int.cast_ofNat_Int, ht0] at hg0
  simp -implicitDefEqProofs only [go_sem, Nat.reduceBEq, Nat.reduceAdd, eq_self, true_and, and_true, and_self, List.getElem?_cons_zero, List.getElem?_cons_succ, Nat.reduceLeDiff, Nat.zero_add, Nat.reduceSub, Nat.le_refl, hgi, regC]
  refine ⟨⟨by omega, hib, k2⟩, k1, call_at (put_ok (r := yi) g6 (hnm _ hmi)) ?_⟩
  rintro v τ3 ⟨rfl, p1, p2, p3⟩
  refine ⟨kept_none, ?_⟩
  have e3 := p3 τ0 g2 (Nat.le_refl _)
  have g33 := rdS_live g3 p2
  have k13 := (rdl g33 (by cases Rr <;> simp [regsV] at hi ⊢)).1
  simp -implicitDefEqProofs only [go_sem, Nat.reduceBEq, Nat.reduceAdd, eq_self, true_and, and_true, and_self, List.getElem?_cons_zero, List.getElem?_cons_succ, Nat.reduceLeDiff, Nat.zero_add, Nat.reduceSub, Nat.le_refl, ht0, hg0, regC]
  refine ⟨⟨by omega, hib0, k2⟩, k13, call_at (put_ok (r := y0) p1 (hnm _ hm0)) ?_⟩
  rintro v τ4 ⟨rfl, p4, p5, p6⟩
  refine ⟨kept_none, ?_⟩
  have e4 := p6 τ0 e3 (Nat.le_refl _)
  have g34 := rdS_live g33 p5
  obtain ⟨k14, -⟩ := rdl g34 (by cases Rr <;> simp [regsV] at hi ⊢)
  have hwi : IntKind.i64.wrap ((i : Int) + 1) = ((i + 1 : Nat) : Int) := by rw [i64_in _ (by omega)]; omega
  simp -implicitDefEqProofs only [go_sem, Nat.reduceBEq, Nat.reduceAdd, eq_self, true_and, and_true, and_self, List.getElem?_cons_zero, List.getElem?_cons_succ, Nat.reduceLeDiff, Nat.zero_add, Nat.reduceSub, Nat.le_refl, Nat.lt_irrefl]
  have x5 := ext_live τ4 true
  have x6 : Ext τ4 ⟨τ4.objs, kill (τ4.live ++ [true]) (.own τ4.live.length) ++ [true]⟩ := ext_kill x5 (Nat.le_refl _)
  have hne : regsV Rr ≠ [] := by cases Rr <;> simp [regsV] at hi ⊢
  have k15 := (rdl (g34.ext x5) hne).1
  have k16 := (rdl (g34.ext x6) hne).1
  have hl1 : (Rr.take i).length ≤ 200 := by rw [List.length_take]; omega
  have hl2 : (Rr.drop (i + 1)).length ≤ 200 := by rw [List.length_drop]; omega
  have hl3 : (Rr.take i ++ Rr.drop (i + 1)).length + 1 = Rr.length := by rw [List.length_append, List.length_take, List.length_drop]; omega
  simp only [hwi, Int.toNat_natCast, List.take_length, regsV_take, regsV_drop, regsV_append]
  refine ⟨⟨.inr k2, by omega, by omega, by omega⟩, ⟨.inr trivial, .inr (live_last _ _), ⟨.inr (rd_toView k15), .inl k2⟩, by rw [regsV_length]; omega⟩, ⟨.inr k2, by omega, by omega⟩,
    ⟨.inr trivial, .inr (live_last' _ _ _), ⟨.inr (rd_toView k16), .inl k2⟩, by rw [regsV_length, regsV_length]; omega⟩, ?_⟩
  have p1l := putR_length T yi
  have p2l := putR_length (putR T yi) y0
  refine z1 (Rr.take i ++ Rr.drop (i + 1), .sl false (.own (kill (τ4.live ++ [true]) (.own τ4.live.length) ++ [true]).length) 7 (regsV (Rr.take i ++ Rr.drop (i + 1))), t + 1) _ _ (.inr ?_) (by simp only; omega) ⟨by simp only; omega, ?_, ⟨false, _, 7, rfl, by simp, .inr ⟨?_, rfl⟩⟩, D ++ [yi] ++ [y0], putR (putR T yi) y0, (g4.put yi).put y0, by simp only; omega, ?_, fun y => ?_⟩
  · simp -implicitDefEqProofs only [go_sem, Nat.reduceBEq, Nat.reduceAdd, eq_self, true_and, and_true, and_self, List.getElem?_cons_zero, List.getElem?_cons_succ, Nat.reduceLeDiff, Nat.zero_add, Nat.reduceSub, Nat.le_refl, Nat.lt_irrefl]
    rw [i64_in _ (by omega)]; simp
  · exact e4.trans (ext_kill x6 (by simp))
  · exact live_last' _ _ _
  · exact p4.ext (ext_kill x6 (by simp))
  · rw [← g7 y, hmem y]
    simp only [List.mem_append, List.mem_singleton]
    constructor
    · rintro (((h | h) | h) | h)
      · exact .inl h
      · exact .inr (.inl h)
      · subst h
        exact .inr (by simpa only [List.mem_append] using (hmem y).1 hm0r)
      · exact .inr (.inr h)
    · rintro (h | h | h)
      · exact .inl (.inl (.inl h))
      · exact .inl (.inl (.inr h))
      · exact .inr h
end
end Go.VL.lww

namespace Go.VL.lww
open Go Go.VL Go.Proofs Go.IntWalk

/-- One object at most is another. -/
structure UpdM (m : Nat) (σ τ : St) : Prop where
  objs : ∀ (j : Nat) (o : AObj), j ≠ m → σ.objs[j]? = some o → τ.objs[j]? = some o
  live : ∀ r : Nat, σ.live[r]? = some true → τ.live[r]? = some true
  olen : σ.objs.length ≤ τ.objs.length
  llen : σ.live.length ≤ τ.live.length
theorem UpdM.refl (m : Nat) (σ : St) : UpdM m σ σ := ⟨fun _ _ _ h => h, fun _ h => h, Nat.le_refl _, Nat.le_refl _⟩
theorem UpdM.trans {m : Nat} {a b c : St} (h : UpdM m a b) (k : UpdM m b c) : UpdM m a c :=
  ⟨fun j o hj x => k.objs j o hj (h.objs j o hj x), fun r x => k.live r (h.live r x), Nat.le_trans h.olen k.olen, Nat.le_trans h.llen k.llen⟩
theorem UpdM.of {m : Nat} {a b : St} (h : Ext a b) : UpdM m a b := ⟨fun j o _ x => h.objs j o x, h.live, h.olen, h.llen⟩
theorem UpdM.ext {m : Nat} {s a b : St} (h : UpdM m a b) (k : Ext s a) (hm : s.objs.length ≤ m) : Ext s b :=
  ⟨fun j o x => h.objs j o (by have := (List.getElem?_eq_some_iff.1 x).1; omega) (k.objs j o x), fun r x => h.live r (k.live r x), Nat.le_trans k.olen h.olen, Nat.le_trans k.llen h.llen⟩
theorem rdS_lv {τ τ' : St} {v : V} {s : Nat} {es : List (List V)} (h : RdS τ v s es) (e : ∀ r : Nat, τ.live[r]? = some true → τ'.live[r]? = some true) : RdS τ' v s es := by
  obtain ⟨b', r', s', h1, h2, h3⟩ := h
  refine ⟨b', r', s', h1, h2, h3.imp_right fun y => ⟨?_, y.2⟩⟩
  have := y.1
  cases r' with
  | pub => trivial
  | own q => exact e q this
  | view q => exact e q this
theorem IsRegs.upd {m' i m : Nat} {σ τ : St} {T : List Rg} (h : IsRegs σ i m T) (hu : UpdM m' σ τ) (hi : i ≠ m') (hm : m ≠ m') : IsRegs τ i m T := by
  obtain ⟨ver, h1, h2⟩ := h
  exact ⟨ver, hu.objs _ _ hi h1, hu.objs _ _ hm h2⟩

section
variable {σ : St} {r : Rg} {i m : Nat} {l : List Rg}
set_option maxRecDepth 100000 in
set_option maxHeartbeats 1600000 in
theorem putU_ok (h : IsRegs σ i m l) (hlen : r.name.length < 4611686018427387904) :
    CallA Try.prog 20 [.ptr (some (i, 0)), regV r] σ fun v σ' => v = .int .i64 (chk r) ∧ IsRegs σ' i m (putR l r) ∧ σ'.live = σ.live ∧ UpdM m σ σ' := by
  obtain ⟨ver, h1, h2⟩ := h
  refine fn_at Try.func20 (by decide) comp20 rfl fun Q q1 q2 => ?_
  simp -implicitDefEqProofs only [go_sem, Nat.reduceBEq, Nat.reduceAdd, eq_self, true_and, and_self, c20, regV, regC]
  refine call_at (check_ok hlen) ?_
  rintro v τ ⟨rfl, rfl⟩
  refine ⟨kept_none, ?_⟩
  cases hc : decide (chk r = 0)
  case false =>
    simp -implicitDefEqProofs only [go_sem, Nat.reduceBEq, Nat.reduceAdd, eq_self, true_and, and_self, hc]
    refine q2 _ _ ?_
    simp -implicitDefEqProofs only [go_sem, Nat.reduceBEq, Nat.reduceAdd]
    refine ⟨trivial, ?_, trivial, UpdM.refl _ _⟩
    unfold putR
    rw [hc]
    exact ⟨ver, h1, h2⟩
  have hk : keyFits [.agg, .int .i64, .int .i64, .str] (.agg [.int .i64 r.nc, .int .i64 r.nr, .str r.name]) = true := rfl
  have hf : find (.agg [.int .i64 r.nc, .int .i64 r.nr, .str r.name]) (ents l) = (l.find? (sameK r)).map regV := find_ents r l
  have hlast : ∀ x, (τ.objs ++ [x])[τ.objs.length]? = some x := fun x => by simp
  have h2' : τ.objs[m]? = some (.mp [.agg, .int .i64, .int .i64, .str] (ents l) ver) := h2
  have hil := (List.getElem?_eq_some_iff.1 h1).1
  have hml := (List.getElem?_eq_some_iff.1 h2).1
  have old : ∀ x cs (j : Nat) o, τ.objs[j]? = some o → ((St.mk (τ.objs ++ [x]) τ.live).setC τ.objs.length cs).objs[j]? = some o := by
    intro x cs j o hj
    have := (List.getElem?_eq_some_iff.1 hj).1
    show ((τ.objs ++ [x]).set _ _)[j]? = _
    rw [List.getElem?_set_ne (by omega), List.getElem?_append_left this]
    exact hj
  have oi := fun x cs => old x cs i _ h1
  have om := fun x cs => old x cs m _ h2'
  have ol : ∀ x cs, ((St.mk (τ.objs ++ [x]) τ.live).setC τ.objs.length cs).objs[τ.objs.length]? = some (.cells cs) := by
    intro x cs
    show ((τ.objs ++ [x]).set _ _)[_]? = _
    simp
  have hext : ∀ x cs, UpdM m τ ((St.mk (τ.objs ++ [x]) τ.live).setC τ.objs.length cs) := by
    intro x cs
    refine ⟨fun j o _ hj => old x cs j o hj, fun _ h => h, ?_, Nat.le_refl _⟩
    show _ ≤ ((τ.objs ++ [x]).set _ _).length
    simp
  have hsetM : ∀ (τ1 : St) es ver, UpdM m τ τ1 → UpdM m τ (τ1.setM m [.agg, .int .i64, .int .i64, .str] es ver) := by
    intro τ1 es ver h
    refine ⟨fun j o hne hj => ?_, h.live, ?_, h.llen⟩
    · show (τ1.objs.set _ _)[j]? = _
      rw [List.getElem?_set_ne (Ne.symm hne)]
      exact h.objs j o hne hj
    · show _ ≤ (τ1.objs.set _ _).length
      rw [List.length_set]; exact h.olen
  have him : i ≠ m := by
    intro e
    rw [e, h2] at h1
    cases h1
  have hu : upd (.agg [.int .i64 r.nc, .int .i64 r.nr, .str r.name]) (.agg [.int .i64 r.nc, .int .i64 r.nr, .str r.name, .int .i64 r.ac, .int .i64 r.ar, .str r.val, .bool r.gone]) (ents l) = ents (updR r l) := upd_ents r l
  have fin : ∀ x cs, IsRegs (((St.mk (τ.objs ++ [x]) τ.live).setC τ.objs.length cs).setM m [.agg, .int .i64, .int .i64, .str] (ents (updR r l)) (ver + 1)) i m (updR r l) := by
    intro x cs
    refine ⟨ver + 1, ?_, ?_⟩
    · show ((((St.mk (τ.objs ++ [x]) τ.live).setC τ.objs.length cs).objs.set m _))[i]? = _
      rw [List.getElem?_set_ne (Ne.symm him)]
      exact oi x cs
    · show ((((St.mk (τ.objs ++ [x]) τ.live).setC τ.objs.length cs).objs.set m _))[m]? = _
      rw [List.getElem?_set_self (List.getElem?_eq_some_iff.1 (om x cs)).1]
      rfl
  simp -implicitDefEqProofs only [go_sem, Nat.reduceBEq, Nat.reduceAdd, eq_self, true_and, and_self, hc, Nat.reduceLeDiff, Nat.zero_add, Nat.reduceSub]
  cases hfi : l.find? (sameK r) with
  | none =>
    rw [hfi] at hf
    simp only [Option.map_none] at hf
    refine cut_dup ?_
    simp -implicitDefEqProofs only [go_sem, Nat.reduceBEq, Nat.reduceAdd, eq_self, true_and, and_self, List.getElem?_cons_zero, List.getElem?_cons_succ, Nat.reduceLeDiff, Nat.zero_add, Nat.reduceSub, h1, h2', hk, hf, hlast, oi, om, ol, hu, Nat.le_refl]
    refine q2 _ _ ?_
    simp -implicitDefEqProofs only [go_sem, Nat.reduceBEq, Nat.reduceAdd, eq_self, true_and, and_self, hc]
    have hp : putR l r = updR r l := by rw [updR_none r hfi]; unfold putR; rw [hc, hfi]; rfl
    rw [hp]
    exact ⟨by simp only [decide_eq_true_eq] at hc; rw [hc], fin _ _, rfl, hsetM _ _ _ (hext _ _)⟩
  | some w =>
    rw [hfi] at hf
    simp only [Option.map_some] at hf
    refine cut_dup ?_
    simp -implicitDefEqProofs only [go_sem, Nat.reduceBEq, Nat.reduceAdd, eq_self, true_and, and_self, List.getElem?_cons_zero, List.getElem?_cons_succ, Nat.reduceLeDiff, Nat.zero_add, Nat.reduceSub, h1, h2', hk, hf, hlast, oi, om, ol, regV, regC, Nat.le_refl]
    refine call_at (wins_ok (a := r) (b := w)) ?_
    rintro v τ2 ⟨rfl, rfl⟩
    refine ⟨kept_none, ?_⟩
    cases hw : wins r w
    case false =>
      simp -implicitDefEqProofs only [go_sem, Nat.reduceBEq, Nat.reduceAdd, eq_self, true_and, and_self, List.getElem?_cons_zero, List.getElem?_cons_succ, Nat.reduceLeDiff, Nat.zero_add, Nat.reduceSub, Nat.le_refl, hw]
      refine q2 _ _ ?_
      simp -implicitDefEqProofs only [go_sem, Nat.reduceBEq, Nat.reduceAdd, eq_self, true_and, and_self, List.getElem?_cons_zero, List.getElem?_cons_succ, Nat.reduceLeDiff, Nat.zero_add, Nat.reduceSub, Nat.le_refl, hc]
      have hp : putR l r = l := by unfold putR; rw [hc, hfi]; simp only [cond_true, hw, cond_false]
      rw [hp]
      exact ⟨by simp only [decide_eq_true_eq] at hc; rw [hc], ⟨ver, oi _ _, om _ _⟩, rfl, hext _ _⟩
    case true =>
      simp -implicitDefEqProofs only [go_sem, Nat.reduceBEq, Nat.reduceAdd, eq_self, true_and, and_self, List.getElem?_cons_zero, List.getElem?_cons_succ, Nat.reduceLeDiff, Nat.zero_add, Nat.reduceSub, Nat.le_refl, hw, oi, om, ol, hk, hu]
      refine q2 _ _ ?_
      simp -implicitDefEqProofs only [go_sem, Nat.reduceBEq, Nat.reduceAdd, eq_self, true_and, and_self, List.getElem?_cons_zero, List.getElem?_cons_succ, Nat.reduceLeDiff, Nat.zero_add, Nat.reduceSub, Nat.le_refl, hc]
      have hp : putR l r = updR r l := by unfold putR; rw [hc, hfi]; simp only [cond_true, hw]
      rw [hp]
      exact ⟨by simp only [decide_eq_true_eq] at hc; rw [hc], fin _ _, rfl, hsetM _ _ _ (hext _ _)⟩
end
section
variable {σ : St} {i m j y : Nat} {L T : List Rg}
theorem regs_ok {x : V} (hx : x = .ptr none ∨ ∃ i, x = .ptr (some (i, 0))) : CallA Try.prog 40 [x] σ fun v σ' => v = .fn 46 [.ptr (some (σ.objs.length, 0))] ∧ σ' = ⟨σ.objs ++ [.cells [x]], σ.live⟩ := by
  rcases hx with rfl | ⟨i, rfl⟩
  all_goals
    refine fn_at Try.func40 (by decide) comp40 rfl fun Q q1 q2 => ?_
    simp -implicitDefEqProofs only [go_sem, Nat.reduceBEq, Nat.reduceAdd, eq_self, true_and, and_true, and_self, List.getElem?_cons_zero, List.getElem?_cons_succ, Nat.reduceLeDiff, Nat.zero_add, Nat.reduceSub, Nat.le_refl, c40]
    refine q2 _ _ ?_
    simp -implicitDefEqProofs only [go_sem, Nat.reduceBEq, Nat.reduceAdd, eq_self, true_and, and_true, and_self, List.getElem?_cons_zero, List.getElem?_cons_succ, Nat.reduceLeDiff, Nat.zero_add, Nat.reduceSub, Nat.le_refl, Nat.lt_irrefl]
    try exact ⟨rfl, rfl⟩
theorem regs1_nil (hj : σ.objs[j]? = some (.cells [.ptr none])) : CallA Try.prog 46 [yv y, .ptr (some (j, 0))] σ fun _ σ' => σ' = σ := by
  refine fn_at Try.func46 (by decide) comp46 rfl fun Q q1 q2 => ?_
  simp -implicitDefEqProofs only [go_sem, Nat.reduceBEq, Nat.reduceAdd, eq_self, true_and, and_true, and_self, List.getElem?_cons_zero, List.getElem?_cons_succ, Nat.reduceLeDiff, Nat.zero_add, Nat.reduceSub, Nat.le_refl, c46, hj]
  refine call_at all_nil ?_
  rintro v τ ⟨rfl, rfl⟩
  refine ⟨kept_none, ?_⟩
  simp -implicitDefEqProofs only [go_sem, Nat.reduceBEq, Nat.reduceAdd, eq_self, true_and, and_true, and_self, List.getElem?_cons_zero, List.getElem?_cons_succ, Nat.reduceLeDiff, Nat.zero_add, Nat.reduceSub, Nat.le_refl, Nat.lt_irrefl]
  refine loop_at (fun (_ : Unit) => ⟨[(6, .v (.sl true .pub 7 [])), (7, .v (.int .i64 0)), (8, .v (.int .i64 0))], []⟩) (fun _ τ' => τ' = τ) (fun _ => 0) () ?_ rfl ?_
  · refine .inr ?_
    simp -implicitDefEqProofs only [go_sem, Nat.reduceBEq, Nat.reduceAdd, eq_self, true_and, and_true, and_self, List.getElem?_cons_zero, List.getElem?_cons_succ, Nat.reduceLeDiff, Nat.zero_add, Nat.reduceSub, Nat.le_refl, Nat.lt_irrefl]
    try trivial
  rintro ⟨⟩ τ' rfl Z z1 z2 z3
  have hd : decide ((0 : Int) < 0) = false := by decide
  simp -implicitDefEqProofs only [go_sem, Nat.reduceBEq, Nat.reduceAdd, eq_self, true_and, and_true, and_self, List.getElem?_cons_zero, List.getElem?_cons_succ, Nat.reduceLeDiff, Nat.zero_add, Nat.reduceSub, Nat.le_refl, hd]
  refine z2 _ _ _ ?_
  simp -implicitDefEqProofs only [go_sem, Nat.reduceBEq, Nat.reduceAdd, eq_self, true_and, and_true, and_self, List.getElem?_cons_zero, List.getElem?_cons_succ, Nat.reduceLeDiff, Nat.zero_add, Nat.reduceSub, Nat.le_refl, Nat.lt_irrefl]
  refine q1 _ _ ?_
  simp -implicitDefEqProofs only [go_sem, Nat.reduceBEq, Nat.reduceAdd, eq_self, true_and, and_true, and_self, List.getElem?_cons_zero, List.getElem?_cons_succ, Nat.reduceLeDiff, Nat.zero_add, Nat.reduceSub, Nat.le_refl, Nat.lt_irrefl]
  try rfl

set_option maxRecDepth 100000 in
set_option maxHeartbeats 1000000 in
/-- What goes over the registers' rows, one by one. -/
theorem regs1_ok (J : St → List Rg → St → Prop) (K : St → Prop) (hx : IsRegs σ i m T) (hH : Has L T) (hlen : T.length ≤ 268435456) (hj : σ.objs[j]? = some (.cells [.ptr (some (i, 0))]))
    (hst : ∀ S σ1, Canon L S → S.length = T.length → Ext σ σ1 → J σ1 S σ1) (hJ : ∀ σ1 S τ, J σ1 S τ → ∀ q : Nat, σ1.live[q]? = some true → τ.live[q]? = some true)
    (hY : ∀ σ1 r S τ, J σ1 (r :: S) τ → YldA Try.prog y [regV r] τ fun v τ2 => v = .bool true ∧ J σ1 S τ2) (h0 : ∀ σ1 τ, J σ1 [] τ → K τ) :
    CallA Try.prog 46 [yv y, .ptr (some (j, 0))] σ fun _ σ' => K σ' := by
  refine fn_at Try.func46 (by decide) comp46 rfl fun Q q1 q2 => ?_
  simp -implicitDefEqProofs only [go_sem, Nat.reduceBEq, Nat.reduceAdd, eq_self, true_and, and_true, and_self, List.getElem?_cons_zero, List.getElem?_cons_succ, Nat.reduceLeDiff, Nat.zero_add, Nat.reduceSub, Nat.le_refl, c46, hj]
  refine call_at (all_ok hx hH hlen) ?_
  rintro va σ1 ⟨S, a1, a2, a3, a4⟩
  refine ⟨kept_none, ?_⟩
  have hJ0 := hst S σ1 a1 a2 a4
  obtain ⟨b, R, z, rfl, -, -⟩ := id a3
  simp -implicitDefEqProofs only [go_sem, Nat.reduceBEq, Nat.reduceAdd, eq_self, true_and, and_true, and_self, List.getElem?_cons_zero, List.getElem?_cons_succ, Nat.reduceLeDiff, Nat.zero_add, Nat.reduceSub, Nat.le_refl, Nat.lt_irrefl]
  refine loop_at (fun (k : Nat) => ⟨[(0, .v (yv y)), (6, .v (.sl b R z (regsV S))), (7, .v (.int .i64 (regsV S).length)), (8, .v (.int .i64 k))], []⟩)
    (fun k τ => k ≤ S.length ∧ J σ1 (S.drop k) τ) (fun k => S.length - k) 0 ?_ ?_ ?_
  · refine .inr ?_
    simp -implicitDefEqProofs only [go_sem, Nat.reduceBEq, Nat.reduceAdd, eq_self, true_and, and_true, and_self, List.getElem?_cons_zero, List.getElem?_cons_succ, Nat.reduceLeDiff, Nat.zero_add, Nat.reduceSub, Nat.le_refl, Nat.lt_irrefl]
    try trivial
  · exact ⟨Nat.zero_le _, hJ0⟩
  rintro k τ ⟨g1, g2⟩ Z z1 z2 z3
  have hSl := regsV_length S
  simp -implicitDefEqProofs only [go_sem, Nat.reduceBEq, Nat.reduceAdd, eq_self, true_and, and_true, and_self, List.getElem?_cons_zero, List.getElem?_cons_succ, Nat.reduceLeDiff, Nat.zero_add, Nat.reduceSub, Nat.le_refl, Nat.lt_irrefl]
  refine CondW_b (fun hc => ?_) (fun hc => ?_)
  · have hk : k < S.length := by simpa [regsV_length] using hc
    obtain ⟨k1, k2⟩ := rdl (rdS_lv a3 (hJ _ _ _ g2)) (by cases S <;> simp [regsV] at hk ⊢)
    have hget := regsV_get hk
    have hib : (k : Int) < (regsV S).length := by omega
    rw [List.drop_eq_getElem_cons hk] at g2
    generalize S[k] = r at hget g2
    simp -implicitDefEqProofs only [go_sem, Nat.reduceBEq, Nat.reduceAdd, eq_self, true_and, and_true, and_self, List.getElem?_cons_zero, List.getElem?_cons_succ, Nat.reduceLeDiff, Nat.zero_add, Nat.reduceSub, Nat.le_refl, hget, regC]
    refine ⟨⟨by omega, hib, k2⟩, k1, ?_⟩
    refine yld_at (hY σ1 r _ τ g2) ?_
    rintro v τ3 ⟨rfl, c1⟩
    refine ⟨kept_none, ?_⟩
    simp -implicitDefEqProofs only [go_sem, Nat.reduceBEq, Nat.reduceAdd, eq_self, true_and, and_true, and_self, List.getElem?_cons_zero, List.getElem?_cons_succ, Nat.reduceLeDiff, Nat.zero_add, Nat.reduceSub, Nat.le_refl, Bool.not_true]
    refine z1 (k + 1) _ _ (.inr ?_) (by omega) ⟨by omega, c1⟩
    simp -implicitDefEqProofs only [go_sem, Nat.reduceBEq, Nat.reduceAdd, eq_self, true_and, and_true, and_self, List.getElem?_cons_zero, List.getElem?_cons_succ, Nat.reduceLeDiff, Nat.zero_add, Nat.reduceSub, Nat.le_refl, Nat.lt_irrefl]
    rw [i64_in _ (by omega)]; simp
  · have hk : ¬ k < S.length := by simpa [regsV_length] using hc
    rw [List.drop_of_length_le (by omega)] at g2
    simp -implicitDefEqProofs only [go_sem, Nat.reduceBEq, Nat.reduceAdd, eq_self, true_and, and_true, and_self, List.getElem?_cons_zero, List.getElem?_cons_succ, Nat.reduceLeDiff, Nat.zero_add, Nat.reduceSub, Nat.le_refl, Nat.lt_irrefl]
    refine z2 _ _ _ ?_
    simp -implicitDefEqProofs only [go_sem, Nat.reduceBEq, Nat.reduceAdd, eq_self, true_and, and_true, and_self, List.getElem?_cons_zero, List.getElem?_cons_succ, Nat.reduceLeDiff, Nat.zero_add, Nat.reduceSub, Nat.le_refl, Nat.lt_irrefl]
    refine q1 _ _ ?_
    simp -implicitDefEqProofs only [go_sem, Nat.reduceBEq, Nat.reduceAdd, eq_self, true_and, and_true, and_self, List.getElem?_cons_zero, List.getElem?_cons_succ, Nat.reduceLeDiff, Nat.zero_add, Nat.reduceSub, Nat.le_refl, Nat.lt_irrefl]
    exact h0 _ _ g2
end
end Go.VL.lww

namespace Go.VL.lww
open Go Go.VL Go.Proofs Go.IntWalk

theorem alH_get {a : List AObj} {x : AObj} : (a ++ [x])[a.length]? = some x := by simp
theorem updM_setA {m i : Nat} {a b : St} (h : UpdM m a b) (hi : a.objs.length ≤ i) {o : AObj} : UpdM m a (b.setA i o) :=
  ⟨fun j x hj e => by
    have := (List.getElem?_eq_some_iff.1 e).1
    rw [setA_ne (by omega)]; exact h.objs j x hj e, h.live, by
    show _ ≤ (b.objs.set i _).length
    rw [List.length_set]; exact h.olen, h.llen⟩
theorem isRegs_setA {σ : St} {i m j : Nat} {o : AObj} {T : List Rg} (h : IsRegs σ i m T) (hi : i ≠ j) (hm : m ≠ j) : IsRegs (σ.setA j o) i m T := by
  obtain ⟨ver, h1, h2⟩ := h
  exact ⟨ver, (setA_ne hi).trans h1, (setA_ne hm).trans h2⟩

section
variable {σ : St} {i m i2 m2 : Nat} {L T L2 T2 : List Rg} {r : Rg}
theorem merge_nil {y : V} : CallA Try.prog 28 [.ptr none, y] σ fun v σ' => v = .int .i64 7 ∧ Ext σ σ' := by
  refine fn_at Try.func28 (by decide) comp28 rfl fun Q q1 q2 => ?_
  simp -implicitDefEqProofs only [go_sem, Nat.reduceBEq, Nat.reduceAdd, eq_self, true_and, and_true, and_self, List.getElem?_cons_zero, List.getElem?_cons_succ, Nat.reduceLeDiff, Nat.zero_add, Nat.reduceSub, Nat.le_refl, c28, alH_get]
  refine q2 _ _ ?_
  simp -implicitDefEqProofs only [go_sem, Nat.reduceBEq, Nat.reduceAdd, eq_self, true_and, and_true, and_self, List.getElem?_cons_zero, List.getElem?_cons_succ, Nat.reduceLeDiff, Nat.zero_add, Nat.reduceSub, Nat.le_refl, Nat.lt_irrefl]
  exact ext_obj σ _
set_option maxRecDepth 100000 in
set_option maxHeartbeats 1000000 in
theorem merge_ynil (hx : IsRegs σ i m T) : CallA Try.prog 28 [.ptr (some (i, 0)), .ptr none] σ fun v σ' => v = .int .i64 0 ∧ Ext σ σ' := by
  refine fn_at Try.func28 (by decide) comp28 rfl fun Q q1 q2 => ?_
  simp -implicitDefEqProofs only [go_sem, Nat.reduceBEq, Nat.reduceAdd, eq_self, true_and, and_true, and_self, List.getElem?_cons_zero, List.getElem?_cons_succ, Nat.reduceLeDiff, Nat.zero_add, Nat.reduceSub, Nat.le_refl, c28, alH_get]
  refine call_at (regs_ok (.inl rfl)) ?_
  rintro v τ ⟨rfl, rfl⟩
  refine ⟨kept_none, ?_⟩
  simp -implicitDefEqProofs only [go_sem, Nat.reduceBEq, Nat.reduceAdd, eq_self, true_and, and_true, and_self, List.getElem?_cons_zero, List.getElem?_cons_succ, Nat.reduceLeDiff, Nat.zero_add, Nat.reduceSub, Nat.le_refl, Nat.lt_irrefl]
  refine range_at ?_
  intro yl i0 r0 r1 r2 r3 hi hy
  refine CallA.mono (regs1_nil ?_) ?_
  · show ((_ ++ [_]) ++ [_])[_]? = _
    rw [List.getElem?_append_left (by simp)]; simp
  rintro v τ rfl
  refine .inl ⟨?_, ?_⟩
  · rw [← hi]; exact alH_get
  simp -implicitDefEqProofs only [go_sem, Nat.reduceBEq, Nat.reduceAdd, eq_self, true_and, and_true, and_self, List.getElem?_cons_zero, List.getElem?_cons_succ, Nat.reduceLeDiff, Nat.zero_add, Nat.reduceSub, Nat.le_refl, Nat.lt_irrefl]
  refine q2 _ _ ?_
  simp -implicitDefEqProofs only [go_sem, Nat.reduceBEq, Nat.reduceAdd, eq_self, true_and, and_true, and_self, List.getElem?_cons_zero, List.getElem?_cons_succ, Nat.reduceLeDiff, Nat.zero_add, Nat.reduceSub, Nat.le_refl, Nat.lt_irrefl]
  refine ext_setA (((ext_obj σ _).trans (ext_obj _ _)).trans (ext_obj _ _)) ?_
  rw [← hi]; simp only [List.length_append]; omega

set_option maxRecDepth 100000 in
set_option maxHeartbeats 4000000 in
theorem merge_ok (hx : IsRegs σ i m T) (hy : IsRegs σ i2 m2 T2) (hne : m ≠ m2) (hH : Has L T) (hH2 : Has L2 T2) (hT : T.length ≤ 100000) (hT2 : T2.length ≤ 100000) (hlen : ∀ r ∈ L2, r.name.length < 4611686018427387904) :
    CallA Try.prog 28 [.ptr (some (i, 0)), .ptr (some (i2, 0))] σ fun v σ' => v = .int .i64 0 ∧ UpdM m σ σ' ∧ ∃ T', IsRegs σ' i m T' ∧ Has (L ++ L2) T' ∧ T'.length ≤ T.length + T2.length := by
  have hil : i < σ.objs.length := by obtain ⟨_, h1, _⟩ := hx; exact (List.getElem?_eq_some_iff.1 h1).1
  have hml : m < σ.objs.length := by obtain ⟨_, _, h1⟩ := hx; exact (List.getElem?_eq_some_iff.1 h1).1
  have him : i ≠ m := by
    obtain ⟨_, h1, h2⟩ := hx
    intro e; rw [e, h2] at h1; cases h1
  refine fn_at Try.func28 (by decide) comp28 rfl fun Q q1 q2 => ?_
  simp -implicitDefEqProofs only [go_sem, Nat.reduceBEq, Nat.reduceAdd, eq_self, true_and, and_true, and_self, List.getElem?_cons_zero, List.getElem?_cons_succ, Nat.reduceLeDiff, Nat.zero_add, Nat.reduceSub, Nat.le_refl, c28, alH_get]
  refine call_at (regs_ok (.inr ⟨_, rfl⟩)) ?_
  rintro v τ ⟨rfl, rfl⟩
  refine ⟨kept_none, ?_⟩
  have e0 := (ext_obj σ (.cells [.ptr (some (i, 0))])).trans (ext_obj ⟨σ.objs ++ [.cells [.ptr (some (i, 0))]], σ.live⟩ (.cells [.ptr (some (i2, 0))]))
  have hp0 : (σ.objs ++ [.cells [.ptr (some (i, 0))]] ++ [.cells [.ptr (some (i2, 0))]])[σ.objs.length]? = some (.cells [.ptr (some (i, 0))]) := by
    rw [List.getElem?_append_left (by simp)]; simp
  have hp1 : (σ.objs ++ [.cells [.ptr (some (i, 0))]] ++ [.cells [.ptr (some (i2, 0))]])[σ.objs.length + 1]? = some (.cells [.ptr (some (i2, 0))]) := by
    simp
  have hlen0 : (σ.objs ++ [AObj.cells [.ptr (some (i, 0))]]).length = σ.objs.length + 1 := by simp
  simp only [hlen0]
  generalize hτ : (St.mk (σ.objs ++ [.cells [.ptr (some (i, 0))]] ++ [.cells [.ptr (some (i2, 0))]]) σ.live) = τ at e0 ⊢
  have hp0 : τ.objs[σ.objs.length]? = some (.cells [.ptr (some (i, 0))]) := by rw [← hτ]; exact hp0
  have hp1 : τ.objs[σ.objs.length + 1]? = some (.cells [.ptr (some (i2, 0))]) := by rw [← hτ]; exact hp1
  have hτl : τ.objs.length = σ.objs.length + 2 := by rw [← hτ]; simp
  clear hτ hlen0
  simp -implicitDefEqProofs only [go_sem, Nat.reduceBEq, Nat.reduceAdd, eq_self, true_and, and_true, and_self, List.getElem?_cons_zero, List.getElem?_cons_succ, Nat.reduceLeDiff, Nat.zero_add, Nat.reduceSub, Nat.le_refl, Nat.lt_irrefl]
  refine range_at ?_
  intro yl i0 r0 r1 r2 r3 hi hyy
  have e1 := ext_obj τ r0
  have hi0 : i0 = σ.objs.length + 2 := by omega
  have hr0 : (⟨τ.objs ++ [r0], τ.live⟩ : St).objs[i0]? = some r0 := by rw [← hi]; exact alH_get
  refine CallA.mono (regs1_ok (L := L2) (T := T2) (i := i2) (m := m2)
    (fun σ1 S t => ∃ S0 D T', Canon L2 S0 ∧ S0.length = T2.length ∧ S0 = D ++ S ∧ Has (L ++ D) T' ∧ IsRegs t i m T' ∧ T'.length ≤ T.length + D.length ∧ UpdM m σ t ∧ t.objs[σ.objs.length]? = some (.cells [.ptr (some (i, 0))]) ∧ t.objs[i0]? = some r0 ∧ (∀ q : Nat, σ1.live[q]? = some true → t.live[q]? = some true))
    (fun t => t.objs[i0]? = some r0 ∧ UpdM m σ t ∧ ∃ T', IsRegs t i m T' ∧ Has (L ++ L2) T' ∧ T'.length ≤ T.length + T2.length)
    (hy.ext (e0.trans e1)) hH2 (by omega) (e1.objs _ _ hp1) ?_ ?_ ?_ ?_) ?_
  · rintro S σ1 s1 s2 s3
    refine ⟨S, [], T, s1, s2, rfl, by simpa using hH, (hx.ext (e0.trans e1)).ext s3, by simp, .of ((e0.trans e1).trans s3), s3.objs _ _ (e1.objs _ _ hp0), s3.objs _ _ hr0, fun _ h => h⟩
  · rintro σ1 S t ⟨S0, D, T', -, -, -, -, -, -, -, -, -, h⟩
    exact h
  · rintro σ1 r S t ⟨S0, D, T', s1, s2, s3, s4, s5, s6, s7, s8, s9, s10⟩
    refine hyy t _ _ s9 rfl fun Y0 y0 => ?_
    simp -implicitDefEqProofs only [go_sem, Nat.reduceBEq, Nat.reduceAdd, eq_self, true_and, and_true, and_self, List.getElem?_cons_zero, List.getElem?_cons_succ, Nat.reduceLeDiff, Nat.zero_add, Nat.reduceSub, Nat.le_refl, rndF, setPs, dropL, regV, regC]
    refine y0 _ _ s9 fun Y y1 y2 y3 => ?_
    clear y0 Y0
    have b5 := isRegs_setA (o := r1) s5 (show i ≠ i0 by omega) (show m ≠ i0 by omega)
    have b7 := updM_setA (o := r1) s7 (i := i0) (by omega)
    have b8 : (t.setA i0 r1).objs[σ.objs.length]? = _ := (setA_ne (by omega)).trans s8
    have b9 : (t.setA i0 r1).objs[i0]? = some r1 := setA_at s9
    have b10 : ∀ q : Nat, σ1.live[q]? = some true → (t.setA i0 r1).live[q]? = some true := s10
    generalize t.setA i0 r1 = t2 at b5 b7 b8 b9 b10 ⊢
    clear s5 s7 s8 s9 s10 hyy
    have hrm : r ∈ L2 := (s1.lst.1 r (by rw [s3]; simp)).1
    simp -implicitDefEqProofs only [go_sem, Nat.reduceBEq, Nat.reduceAdd, eq_self, true_and, and_true, and_self, List.getElem?_cons_zero, List.getElem?_cons_succ, Nat.reduceLeDiff, Nat.zero_add, Nat.reduceSub, Nat.le_refl, b8]
    refine call_at (putU_ok (r := r) b5 (hlen r hrm)) ?_
    rintro v t3 ⟨rfl, c1, c2, c3⟩
    refine ⟨kept_none, ?_⟩
    simp -implicitDefEqProofs only [go_sem, Nat.reduceBEq, Nat.reduceAdd, eq_self, true_and, and_true, and_self, List.getElem?_cons_zero, List.getElem?_cons_succ, Nat.reduceLeDiff, Nat.zero_add, Nat.reduceSub, Nat.le_refl, Nat.lt_irrefl]
    have c4 := c3.objs _ _ (show i0 ≠ m by omega) b9
    refine y1 _ _ c4 ⟨rfl, S0, D ++ [r], putR T' r, s1, s2, by rw [s3]; simp, by rw [← List.append_assoc]; exact s4.put r, isRegs_setA c1 (by omega) (by omega), ?_, updM_setA (b7.trans c3) (by omega), ?_, setA_at c4, fun q h => c3.live q (b10 q h)⟩
    · have := putR_length T' r
      simp only [List.length_append, List.length_singleton]; omega
    · rw [setA_ne (by omega)]; exact c3.objs _ _ (by omega) b8
  · rintro σ1 t ⟨S0, D, T', s1, s2, s3, s4, s5, s6, s7, s8, s9, s10⟩
    rw [List.append_nil] at s3
    subst s3
    exact ⟨s9, s7, T', s5, ⟨s4.lst.merge s1.lst, s4.kd⟩, by omega⟩
  · rintro v t ⟨h1, h2, T', h3, h4, h5⟩
    refine .inl ⟨h1, ?_⟩
    simp -implicitDefEqProofs only [go_sem, Nat.reduceBEq, Nat.reduceAdd, eq_self, true_and, and_true, and_self, List.getElem?_cons_zero, List.getElem?_cons_succ, Nat.reduceLeDiff, Nat.zero_add, Nat.reduceSub, Nat.le_refl, Nat.lt_irrefl]
    refine q2 _ _ ?_
    simp -implicitDefEqProofs only [go_sem, Nat.reduceBEq, Nat.reduceAdd, eq_self, true_and, and_true, and_self, List.getElem?_cons_zero, List.getElem?_cons_succ, Nat.reduceLeDiff, Nat.zero_add, Nat.reduceSub, Nat.le_refl, Nat.lt_irrefl]
    exact ⟨updM_setA h2 (by omega), T', isRegs_setA h3 (by omega) (by omega), h4, h5⟩

theorem clone_nil : CallA Try.prog 27 [.ptr none] σ fun v σ' => σ' = σ ∧ v = .ptr none := by
  refine fn_at Try.func27 (by decide) comp27 rfl fun Q q1 q2 => ?_
  simp -implicitDefEqProofs only [go_sem, Nat.reduceBEq, Nat.reduceAdd, eq_self, true_and, and_true, and_self, List.getElem?_cons_zero, List.getElem?_cons_succ, Nat.reduceLeDiff, Nat.zero_add, Nat.reduceSub, Nat.le_refl, c27]
  refine q2 _ _ ?_
  simp -implicitDefEqProofs only [go_sem, Nat.reduceBEq, Nat.reduceAdd, eq_self, true_and, and_true, and_self, List.getElem?_cons_zero, List.getElem?_cons_succ, Nat.reduceLeDiff, Nat.zero_add, Nat.reduceSub, Nat.le_refl, Nat.lt_irrefl]
  try exact ⟨rfl, rfl⟩
set_option maxRecDepth 100000 in
set_option maxHeartbeats 1000000 in
theorem clone_ok (hx : IsRegs σ i m T) (hH : Has L T) (hT : T.length ≤ 100000) (hlen : ∀ r ∈ L, r.name.length < 4611686018427387904) :
    CallA Try.prog 27 [.ptr (some (i, 0))] σ fun v σ' => Ext σ σ' ∧ ∃ i' m' T', v = .ptr (some (i', 0)) ∧ σ.objs.length ≤ i' ∧ σ.objs.length ≤ m' ∧ IsRegs σ' i' m' T' ∧ Has L T' ∧ T'.length ≤ T.length := by
  have hml : m < σ.objs.length := by obtain ⟨_, _, h1⟩ := hx; exact (List.getElem?_eq_some_iff.1 h1).1
  refine fn_at Try.func27 (by decide) comp27 rfl fun Q q1 q2 => ?_
  simp -implicitDefEqProofs only [go_sem, Nat.reduceBEq, Nat.reduceAdd, eq_self, true_and, and_true, and_self, List.getElem?_cons_zero, List.getElem?_cons_succ, Nat.reduceLeDiff, Nat.zero_add, Nat.reduceSub, Nat.le_refl, c27]
  refine call_at new_ok ?_
  rintro v τ ⟨rfl, hr, he, hlv⟩
  refine ⟨kept_none, ?_⟩
  simp -implicitDefEqProofs only [go_sem, Nat.reduceBEq, Nat.reduceAdd, eq_self, true_and, and_true, and_self, List.getElem?_cons_zero, List.getElem?_cons_succ, Nat.reduceLeDiff, Nat.zero_add, Nat.reduceSub, Nat.le_refl, Nat.lt_irrefl]
  refine call_at (merge_ok hr (hx.ext he) (by omega) .nil hH (by simp) hT hlen) ?_
  rintro v τ2 ⟨rfl, h1, T', h2, h3, h4⟩
  refine ⟨kept_none, ?_⟩
  simp -implicitDefEqProofs only [go_sem, Nat.reduceBEq, Nat.reduceAdd, eq_self, true_and, and_true, and_self, List.getElem?_cons_zero, List.getElem?_cons_succ, Nat.reduceLeDiff, Nat.zero_add, Nat.reduceSub, Nat.le_refl, Nat.lt_irrefl]
  refine q2 _ _ ?_
  simp -implicitDefEqProofs only [go_sem, Nat.reduceBEq, Nat.reduceAdd, eq_self, true_and, and_true, and_self, List.getElem?_cons_zero, List.getElem?_cons_succ, Nat.reduceLeDiff, Nat.zero_add, Nat.reduceSub, Nat.le_refl, Nat.lt_irrefl]
  refine ⟨h1.ext he (Nat.le_refl _), _, σ.objs.length, T', rfl, by omega, by omega, h2, by simpa using h3, by simpa using h4⟩

set_option maxRecDepth 100000 in
set_option maxHeartbeats 1000000 in
theorem each_nil {node : List V} : CallA Try.prog 26 [.ptr none, .agg node] σ fun v σ' => Ext σ σ' ∧ ∃ j, v = .fn 41 [.ptr (some (j, 0))] ∧ σ'.objs[j]? = some (.cells [.sl true .pub 0 []]) := by
  refine fn_at Try.func26 (by decide) comp26 rfl fun Q q1 q2 => ?_
  simp -implicitDefEqProofs only [go_sem, Nat.reduceBEq, Nat.reduceAdd, eq_self, true_and, and_true, and_self, List.getElem?_cons_zero, List.getElem?_cons_succ, Nat.reduceLeDiff, Nat.zero_add, Nat.reduceSub, Nat.le_refl, c26]
  refine call_at (regs_ok (.inl rfl)) ?_
  rintro v τ ⟨rfl, rfl⟩
  refine ⟨kept_none, ?_⟩
  simp -implicitDefEqProofs only [go_sem, Nat.reduceBEq, Nat.reduceAdd, eq_self, true_and, and_true, and_self, List.getElem?_cons_zero, List.getElem?_cons_succ, Nat.reduceLeDiff, Nat.zero_add, Nat.reduceSub, Nat.le_refl, Nat.lt_irrefl]
  refine range_at ?_
  intro yl i0 r0 r1 r2 r3 hi hy
  refine CallA.mono (regs1_nil ?_) ?_
  · simp
  rintro v τ rfl
  refine .inl ⟨?_, ?_⟩
  · rw [← hi]; exact alH_get
  simp -implicitDefEqProofs only [go_sem, Nat.reduceBEq, Nat.reduceAdd, eq_self, true_and, and_true, and_self, List.getElem?_cons_zero, List.getElem?_cons_succ, Nat.reduceLeDiff, Nat.zero_add, Nat.reduceSub, Nat.le_refl, Nat.lt_irrefl]
  refine q2 _ _ ?_
  simp -implicitDefEqProofs only [go_sem, Nat.reduceBEq, Nat.reduceAdd, eq_self, true_and, and_true, and_self, List.getElem?_cons_zero, List.getElem?_cons_succ, Nat.reduceLeDiff, Nat.zero_add, Nat.reduceSub, Nat.le_refl, Nat.lt_irrefl]
  refine ⟨ext_setA ((((ext_obj σ _).trans (ext_obj _ _)).trans (ext_obj _ _)).trans (ext_obj _ _)) ?_, _, rfl, ?_⟩
  · rw [← hi]; simp only [List.length_append]; omega
  · rw [setA_ne (by rw [← hi]; simp)]
    simp
theorem each1_nil {y j : Nat} (hj : σ.objs[j]? = some (.cells [.sl true .pub 0 []])) : CallA Try.prog 41 [yv y, .ptr (some (j, 0))] σ fun _ σ' => σ' = σ := by
  refine fn_at Try.func41 (by decide) comp41 rfl fun Q q1 q2 => ?_
  simp -implicitDefEqProofs only [go_sem, Nat.reduceBEq, Nat.reduceAdd, eq_self, true_and, and_true, and_self, List.getElem?_cons_zero, List.getElem?_cons_succ, Nat.reduceLeDiff, Nat.zero_add, Nat.reduceSub, Nat.le_refl, c41, hj]
  refine loop_at (fun (_ : Unit) => ⟨[(6, .v (.int .i64 0)), (7, .v (.int .i64 0))], []⟩) (fun _ τ' => τ' = σ) (fun _ => 0) () ?_ rfl ?_
  · refine .inr ?_
    simp -implicitDefEqProofs only [go_sem, Nat.reduceBEq, Nat.reduceAdd, eq_self, true_and, and_true, and_self, List.getElem?_cons_zero, List.getElem?_cons_succ, Nat.reduceLeDiff, Nat.zero_add, Nat.reduceSub, Nat.le_refl, Nat.lt_irrefl]
    try trivial
  rintro ⟨⟩ τ' rfl Z z1 z2 z3
  have hd : decide ((0 : Int) < 0) = false := by decide
  simp -implicitDefEqProofs only [go_sem, Nat.reduceBEq, Nat.reduceAdd, eq_self, true_and, and_true, and_self, List.getElem?_cons_zero, List.getElem?_cons_succ, Nat.reduceLeDiff, Nat.zero_add, Nat.reduceSub, Nat.le_refl, hd]
  refine z2 _ _ _ ?_
  simp -implicitDefEqProofs only [go_sem, Nat.reduceBEq, Nat.reduceAdd, eq_self, true_and, and_true, and_self, List.getElem?_cons_zero, List.getElem?_cons_succ, Nat.reduceLeDiff, Nat.zero_add, Nat.reduceSub, Nat.le_refl, Nat.lt_irrefl]
  refine q1 _ _ ?_
  simp -implicitDefEqProofs only [go_sem, Nat.reduceBEq, Nat.reduceAdd, eq_self, true_and, and_true, and_self, List.getElem?_cons_zero, List.getElem?_cons_succ, Nat.reduceLeDiff, Nat.zero_add, Nat.reduceSub, Nat.le_refl, Nat.lt_irrefl]
  try rfl
theorem put_nil : CallA Try.prog 20 [.ptr none, regV r] σ fun v σ' => σ' = σ ∧ v = .int .i64 7 := by
  refine fn_at Try.func20 (by decide) comp20 rfl fun Q q1 q2 => ?_
  simp -implicitDefEqProofs only [go_sem, Nat.reduceBEq, Nat.reduceAdd, eq_self, true_and, and_true, and_self, List.getElem?_cons_zero, List.getElem?_cons_succ, Nat.reduceLeDiff, Nat.zero_add, Nat.reduceSub, Nat.le_refl, c20, regV, regC]
  refine q2 _ _ ?_
  simp -implicitDefEqProofs only [go_sem, Nat.reduceBEq, Nat.reduceAdd, eq_self, true_and, and_true, and_self, List.getElem?_cons_zero, List.getElem?_cons_succ, Nat.reduceLeDiff, Nat.zero_add, Nat.reduceSub, Nat.le_refl, Nat.lt_irrefl]
  try exact ⟨rfl, rfl⟩
theorem get_nil {a b : V} : CallA Try.prog 17 [.ptr none, .agg [a, b], .str r.name] σ fun v σ' => Ext σ σ' ∧ v = .tup [regV zeroR, .bool false] := by
  refine fn_at Try.func17 (by decide) comp17 rfl fun Q q1 q2 => ?_
  simp -implicitDefEqProofs only [go_sem, Nat.reduceBEq, Nat.reduceAdd, eq_self, true_and, and_true, and_self, List.getElem?_cons_zero, List.getElem?_cons_succ, Nat.reduceLeDiff, Nat.zero_add, Nat.reduceSub, Nat.le_refl, c17]
  refine q2 _ _ ?_
  simp -implicitDefEqProofs only [go_sem, Nat.reduceBEq, Nat.reduceAdd, eq_self, true_and, and_true, and_self, List.getElem?_cons_zero, List.getElem?_cons_succ, Nat.reduceLeDiff, Nat.zero_add, Nat.reduceSub, Nat.le_refl, regV, regC, zeroR]
  exact Ext.refl _
theorem value_nil {a b : V} : CallA Try.prog 24 [.ptr none, .agg [a, b], .str r.name] σ fun v σ' => Ext σ σ' ∧ v = .str [] := by
  refine fn_at Try.func24 (by decide) comp24 rfl fun Q q1 q2 => ?_
  simp -implicitDefEqProofs only [go_sem, Nat.reduceBEq, Nat.reduceAdd, eq_self, true_and, and_true, and_self, List.getElem?_cons_zero, List.getElem?_cons_succ, Nat.reduceLeDiff, Nat.zero_add, Nat.reduceSub, Nat.le_refl, c24]
  refine call_at get_nil ?_
  rintro v τ ⟨he, rfl⟩
  refine ⟨kept_none, ?_⟩
  simp -implicitDefEqProofs only [go_sem, Nat.reduceBEq, Nat.reduceAdd, eq_self, true_and, and_true, and_self, List.getElem?_cons_zero, List.getElem?_cons_succ, Nat.reduceLeDiff, Nat.zero_add, Nat.reduceSub, Nat.le_refl, regV, regC, zeroR]
  refine q2 _ _ ?_
  simp -implicitDefEqProofs only [go_sem, Nat.reduceBEq, Nat.reduceAdd, eq_self, true_and, and_true, and_self, List.getElem?_cons_zero, List.getElem?_cons_succ, Nat.reduceLeDiff, Nat.zero_add, Nat.reduceSub, Nat.le_refl, Nat.lt_irrefl]
  exact he
set_option maxRecDepth 100000 in
set_option maxHeartbeats 3200000 in
theorem nil_ok (hr : r.name.length < 4611686018427387904) : CallA Try.prog 10 [regV r] σ fun v σ' => v = .bool true := by
  refine fn_at Try.func10 (by decide) comp10 rfl fun Q q1 q2 => ?_
  simp -implicitDefEqProofs only [go_sem, Nat.reduceBEq, Nat.reduceAdd, eq_self, true_and, and_true, and_self, List.getElem?_cons_zero, List.getElem?_cons_succ, Nat.reduceLeDiff, Nat.zero_add, Nat.reduceSub, Nat.le_refl, c10, regV, regC]
  refine call_at (get_nil (r := r)) ?_
  rintro v τ ⟨e1, rfl⟩
  refine ⟨kept_none, ?_⟩
  simp -implicitDefEqProofs only [go_sem, Nat.reduceBEq, Nat.reduceAdd, eq_self, true_and, and_true, and_self, List.getElem?_cons_zero, List.getElem?_cons_succ, Nat.reduceLeDiff, Nat.zero_add, Nat.reduceSub, Nat.le_refl, regV, regC, zeroR]
  refine call_at each_nil ?_
  rintro v τ2 ⟨e2, j, rfl, hj⟩
  refine ⟨kept_none, ?_⟩
  simp -implicitDefEqProofs only [go_sem, Nat.reduceBEq, Nat.reduceAdd, eq_self, true_and, and_true, and_self, List.getElem?_cons_zero, List.getElem?_cons_succ, Nat.reduceLeDiff, Nat.zero_add, Nat.reduceSub, Nat.le_refl, Nat.lt_irrefl]
  refine range_at ?_
  intro yl i0 r0 r1 r2 r3 hi hy
  refine CallA.mono (each1_nil (j := j) ((ext_obj τ2 r0).objs _ _ hj)) ?_
  rintro v τ3 rfl
  refine .inl ⟨?_, ?_⟩
  · rw [← hi]; exact alH_get
  have e0 := ext_obj σ (.cells [.bool false])
  have hn : ∀ τ, Ext ⟨σ.objs ++ [.cells [.bool false]], σ.live⟩ τ → τ.objs[σ.objs.length]? = some (.cells [.bool false]) := fun τ h => h.objs _ _ alH_get
  have e3 : Ext ⟨σ.objs ++ [.cells [.bool false]], σ.live⟩ ((St.mk (τ2.objs ++ [r0]) τ2.live).setA i0 (r3 .normal)) := by
    refine ext_setA ((e1.trans e2).trans (ext_obj τ2 r0)) ?_
    have h1 := (e1.trans e2).olen
    omega
  generalize (St.mk (τ2.objs ++ [r0]) τ2.live).setA i0 (r3 .normal) = τ3 at e3 ⊢
  have hpt : regV r = .agg [.int .i64 r.nc, .int .i64 r.nr, .str r.name, .int .i64 r.ac, .int .i64 r.ar, .str r.val, .bool r.gone] := rfl
  simp -implicitDefEqProofs only [go_sem, Nat.reduceBEq, Nat.reduceAdd, eq_self, true_and, and_true, and_self, List.getElem?_cons_zero, List.getElem?_cons_succ, Nat.reduceLeDiff, Nat.zero_add, Nat.reduceSub, Nat.le_refl, Nat.lt_irrefl]
  refine call_at (hpt ▸ put_nil (r := r)) ?_
  rintro v τ4 ⟨rfl, rfl⟩
  refine ⟨kept_none, ?_⟩
  simp -implicitDefEqProofs only [go_sem, Nat.reduceBEq, Nat.reduceAdd, eq_self, true_and, and_true, and_self, List.getElem?_cons_zero, List.getElem?_cons_succ, Nat.reduceLeDiff, Nat.zero_add, Nat.reduceSub, Nat.le_refl, Nat.lt_irrefl]
  refine call_at merge_nil ?_
  rintro v τ5 ⟨rfl, e5⟩
  refine ⟨kept_none, ?_⟩
  have hb : (([] : List UInt8) == [] && (([] : List UInt8) == [] && false == false)) = true := rfl
  simp -implicitDefEqProofs only [go_sem, Nat.reduceBEq, Nat.reduceAdd, eq_self, true_and, and_true, and_self, List.getElem?_cons_zero, List.getElem?_cons_succ, Nat.reduceLeDiff, Nat.zero_add, Nat.reduceSub, Nat.le_refl, V.eqs, V.eq, hb]
  refine call_at (value_nil (r := r)) ?_
  rintro v τ6 ⟨e6, rfl⟩
  refine ⟨kept_none, ?_⟩
  simp -implicitDefEqProofs only [go_sem, Nat.reduceBEq, Nat.reduceAdd, eq_self, true_and, and_true, and_self, List.getElem?_cons_zero, List.getElem?_cons_succ, Nat.reduceLeDiff, Nat.zero_add, Nat.reduceSub, Nat.le_refl, Nat.lt_irrefl]
  refine call_at all_nil ?_
  rintro v τ7 ⟨rfl, rfl⟩
  refine ⟨kept_none, ?_⟩
  have hz0 : decide (((0 : Nat) : Int) = 0) = true := by decide
  simp -implicitDefEqProofs only [go_sem, Nat.reduceBEq, Nat.reduceAdd, eq_self, true_and, and_true, and_self, List.getElem?_cons_zero, List.getElem?_cons_succ, Nat.reduceLeDiff, Nat.zero_add, Nat.reduceSub, Nat.le_refl, hz0, List.length_nil]
  refine call_at clone_nil ?_
  rintro v τ8 ⟨rfl, rfl⟩
  refine ⟨kept_none, ?_⟩
  simp -implicitDefEqProofs only [go_sem, Nat.reduceBEq, Nat.reduceAdd, eq_self, true_and, and_true, and_self, List.getElem?_cons_zero, List.getElem?_cons_succ, Nat.reduceLeDiff, Nat.zero_add, Nat.reduceSub, Nat.le_refl, Nat.lt_irrefl]
  refine call_at awake_ok ?_
  rintro v τ9 ⟨rfl, e9⟩
  refine ⟨kept_none, ?_⟩
  have hn9 := hn τ9 (((e3.trans e5).trans e6).trans e9)
  simp -implicitDefEqProofs only [go_sem, Nat.reduceBEq, Nat.reduceAdd, eq_self, true_and, and_true, and_self, List.getElem?_cons_zero, List.getElem?_cons_succ, Nat.reduceLeDiff, Nat.zero_add, Nat.reduceSub, Nat.le_refl, hn9]
  refine q2 _ _ ?_
  have hn10 := setC_get (σ := τ9) (cs := [.bool true]) (List.getElem?_eq_some_iff.1 hn9).1
  simp -implicitDefEqProofs only [go_sem, Nat.reduceBEq, Nat.reduceAdd, eq_self, true_and, and_true, and_self, List.getElem?_cons_zero, List.getElem?_cons_succ, Nat.reduceLeDiff, Nat.zero_add, Nat.reduceSub, Nat.le_refl, hn10]
end
end Go.VL.lww

namespace Go.VL.lww
open Go Go.VL Go.Proofs Go.IntWalk

/-- The document's Merge. -/
def rmerge (S S2 : List Rg) : List Rg := S2.foldl rputR S
theorem rmerge_snoc (S S2 : List Rg) (r : Rg) : rmerge S (S2 ++ [r]) = rputR (rmerge S S2) r := by simp [rmerge]
theorem rmerge_canon {L S : List Rg} (h : Canon L S) : ∀ (n : Nat) (S2 : List Rg), S2.length = n → Canon (L ++ S2) (rmerge S S2) ∧ (rmerge S S2).length ≤ S.length + 2 * n
  | 0, l, e => by rw [List.length_eq_zero_iff.1 e]; simpa [rmerge] using h
  | n + 1, l, e => by
    obtain ⟨a, b, rfl⟩ : ∃ a b, l = a ++ [b] := ⟨l.dropLast, l.getLast (by intro h; rw [h] at e; simp at e), (List.dropLast_concat_getLast _).symm⟩
    obtain ⟨h1, h2⟩ := rmerge_canon h n a (by simpa using e)
    rw [rmerge_snoc, ← List.append_assoc]
    have := rputR_length b (rmerge S a)
    exact ⟨h1.put b, by omega⟩
theorem Canon.merge {L S M S2 : List Rg} (h : Canon L S) (h2 : Canon M S2) : Canon (L ++ M) (rmerge S S2) :=
  ⟨(rmerge_canon h _ S2 rfl).1.lst.merge h2.lst, (rmerge_canon h _ S2 rfl).1.srt⟩

section
variable {σ : St} {S S2 : List Rg} {v w : V}
set_option maxRecDepth 100000 in
set_option maxHeartbeats 1000000 in
theorem rmerge_ok (hv : RdS σ v 7 (regsV S)) (hw : RdS σ w 7 (regsV S2)) (hS : S.length ≤ 100000) (hS2 : S2.length ≤ 100000) (hlen : ∀ r ∈ S2, r.name.length < 4611686018427387904) :
    CallA Try.prog 29 [v, w] σ fun x σ' => Ext σ σ' ∧ RdS σ' x 7 (regsV (rmerge S S2)) := by
  obtain ⟨b, R, z, rfl, -, -⟩ := id hv
  obtain ⟨b', R', z', rfl, -, -⟩ := id hw
  refine fn_at Try.func29 (by decide) comp29 rfl fun Q q1 q2 => ?_
  simp -implicitDefEqProofs only [go_sem, Nat.reduceBEq, Nat.reduceAdd, eq_self, true_and, and_true, and_self, List.getElem?_cons_zero, List.getElem?_cons_succ, Nat.reduceLeDiff, Nat.zero_add, Nat.reduceSub, Nat.le_refl, c29]
  refine loop_at (fun (x : Nat × V) => ⟨[(0, .v x.2), (1, .v (.sl b' R' z' (regsV S2))), (5, .v (.int .i64 x.1))], []⟩)
    (fun x τ => x.1 ≤ S2.length ∧ Ext σ τ ∧ RdS τ x.2 7 (regsV (rmerge S (S2.take x.1))) ∧ (rmerge S (S2.take x.1)).length ≤ S.length + 2 * x.1) (fun x => S2.length - x.1) (0, .sl b R z (regsV S)) ?_ ?_ ?_
  · refine .inr ?_
    simp -implicitDefEqProofs only [go_sem, Nat.reduceBEq, Nat.reduceAdd, eq_self, true_and, and_true, and_self, List.getElem?_cons_zero, List.getElem?_cons_succ, Nat.reduceLeDiff, Nat.zero_add, Nat.reduceSub, Nat.le_refl, Nat.lt_irrefl]
    try trivial
  · exact ⟨Nat.zero_le _, Ext.refl _, by simpa [rmerge] using hv, by simp [rmerge]⟩
  rintro ⟨i, u⟩ τ ⟨g1, g2, g3, g4⟩ Z z1 z2 z3
  simp only at g1 g3 g4
  obtain ⟨ub, uR, uz, rfl, -, -⟩ := id g3
  have hSl := regsV_length S2
  simp -implicitDefEqProofs only [go_sem, Nat.reduceBEq, Nat.reduceAdd, eq_self, true_and, and_true, and_self, List.getElem?_cons_zero, List.getElem?_cons_succ, Nat.reduceLeDiff, Nat.zero_add, Nat.reduceSub, Nat.le_refl, Nat.lt_irrefl]
  refine CondW_b (fun hc => ?_) (fun hc => ?_)
  · have hi : i < S2.length := by simpa [regsV_length] using hc
    obtain ⟨k1, k2⟩ := rdl (hw.ext g2) (by cases S2 <;> simp [regsV] at hi ⊢)
    have hget := regsV_get hi
    have hib : (i : Int) < (regsV S2).length := by omega
    have htk : S2.take (i + 1) = S2.take i ++ [S2[i]] := List.take_succ_eq_append_getElem hi
    have hnm := hlen _ (List.getElem_mem hi)
    generalize S2[i] = r at hget htk hnm
    have hrl := rputR_length r (rmerge S (S2.take i))
    simp -implicitDefEqProofs only [go_sem, Nat.reduceBEq, Nat.reduceAdd, eq_self, true_and, and_true, and_self, List.getElem?_cons_zero, List.getElem?_cons_succ, Nat.reduceLeDiff, Nat.zero_add, Nat.reduceSub, Nat.le_refl, hget, regC]
    refine ⟨⟨by omega, hib, k2⟩, k1, call_at (rput_ok (r := r) (l := rmerge S (S2.take i)) g3 hnm (by omega)) ?_⟩
    rintro v τ2 ⟨⟨y, rfl, y1, y2⟩, he2, ho2⟩
    refine ⟨kept_none, ?_⟩
    rw [← rmerge_snoc, ← htk] at y1 hrl
    simp -implicitDefEqProofs only [go_sem, Nat.reduceBEq, Nat.reduceAdd, eq_self, true_and, and_true, and_self, List.getElem?_cons_zero, List.getElem?_cons_succ, Nat.reduceLeDiff, Nat.zero_add, Nat.reduceSub, Nat.le_refl, Nat.lt_irrefl]
    refine z1 (i + 1, y) _ _ (.inr ?_) (by simp only; omega) ⟨by simp only; omega, g2.trans he2, y1, by simp only; omega⟩
    simp -implicitDefEqProofs only [go_sem, Nat.reduceBEq, Nat.reduceAdd, eq_self, true_and, and_true, and_self, List.getElem?_cons_zero, List.getElem?_cons_succ, Nat.reduceLeDiff, Nat.zero_add, Nat.reduceSub, Nat.le_refl, Nat.lt_irrefl]
    rw [i64_in _ (by omega)]; simp
  · have hi : ¬ i < S2.length := by simpa [regsV_length] using hc
    simp -implicitDefEqProofs only [go_sem, Nat.reduceBEq, Nat.reduceAdd, eq_self, true_and, and_true, and_self, List.getElem?_cons_zero, List.getElem?_cons_succ, Nat.reduceLeDiff, Nat.zero_add, Nat.reduceSub, Nat.le_refl, Nat.lt_irrefl]
    refine z2 _ _ _ ?_
    simp -implicitDefEqProofs only [go_sem, Nat.reduceBEq, Nat.reduceAdd, eq_self, true_and, and_true, and_self, List.getElem?_cons_zero, List.getElem?_cons_succ, Nat.reduceLeDiff, Nat.zero_add, Nat.reduceSub, Nat.le_refl, Nat.lt_irrefl]
    refine q2 _ _ ?_
    simp -implicitDefEqProofs only [go_sem, Nat.reduceBEq, Nat.reduceAdd, eq_self, true_and, and_true, and_self, List.getElem?_cons_zero, List.getElem?_cons_succ, Nat.reduceLeDiff, Nat.zero_add, Nat.reduceSub, Nat.le_refl, Nat.lt_irrefl]
    refine ⟨g2, ?_⟩
    rw [List.take_of_length_le (by omega)] at g3 ⊢
    exact g3
end

/-- Registers: where they lie, what was put, how many at most. -/
structure E where
  i : Nat
  m : Nat
  L : List Rg
  n : Nat
def OkE (σ : St) (e : E) : Prop := (∃ T, IsRegs σ e.i e.m T ∧ Has e.L T ∧ T.length ≤ e.n) ∧ ∀ r ∈ e.L, r.name.length < 4611686018427387904
theorem OkE.lt {σ : St} {e : E} (h : OkE σ e) : e.m < σ.objs.length := by
  obtain ⟨⟨T, ⟨_, _, h1⟩, _⟩, _⟩ := h
  exact (List.getElem?_eq_some_iff.1 h1).1
theorem OkE.ext {σ τ : St} {e : E} (h : OkE σ e) (he : Ext σ τ) : OkE τ e := by
  obtain ⟨⟨T, h1, h2⟩, h3⟩ := h
  exact ⟨⟨T, h1.ext he, h2⟩, h3⟩
theorem OkE.upd {σ τ : St} {e e' : E} (h : OkE σ e) (h' : OkE σ e') (hm : e.m ≠ e'.m) (hu : UpdM e'.m σ τ) : OkE τ e := by
  obtain ⟨⟨T, h1, h2⟩, h3⟩ := h
  obtain ⟨⟨_, ⟨_, _, k⟩, _⟩, _⟩ := h'
  refine ⟨⟨T, h1.upd hu (fun x => ?_) hm, h2⟩, h3⟩
  obtain ⟨_, h1, _⟩ := h1
  rw [x, k] at h1; cases h1
/-- What is there. -/
structure Ctx (σ : St) (es : List E) (ss : List (V × List Rg)) : Prop where
  ok : ∀ e ∈ es, OkE σ e
  pw : es.Pairwise fun a b => a.m ≠ b.m
  rd : ∀ s ∈ ss, RdS σ s.1 7 (regsV s.2)
theorem Ctx.ext {σ τ : St} {es : List E} {ss : List (V × List Rg)} (h : Ctx σ es ss) (he : Ext σ τ) : Ctx τ es ss := ⟨fun e x => (h.ok e x).ext he, h.pw, fun s x => (h.rd s x).ext he⟩
theorem Ctx.add {σ τ : St} {es : List E} {ss : List (V × List Rg)} (h : Ctx σ es ss) (he : Ext σ τ) {e : E} (hk : OkE τ e) (hm : σ.objs.length ≤ e.m) : Ctx τ (e :: es) ss := by
  have h' := h.ext he
  refine ⟨fun x hx => ?_, List.pairwise_cons.2 ⟨fun x hx => ?_, h.pw⟩, h'.rd⟩
  · rcases List.mem_cons.1 hx with rfl | hx
    · exact hk
    · exact h'.ok x hx
  · have := (h.ok x hx).lt
    omega
theorem Ctx.slice {σ τ : St} {es : List E} {ss : List (V × List Rg)} (h : Ctx σ es ss) (he : Ext σ τ) {v : V} {S : List Rg} (hk : RdS τ v 7 (regsV S)) : Ctx τ es ((v, S) :: ss) := by
  have h' := h.ext he
  refine ⟨h'.ok, h'.pw, fun x hx => ?_⟩
  rcases List.mem_cons.1 hx with rfl | hx
  · exact hk
  · exact h'.rd x hx
theorem Ctx.set {σ τ : St} {ss : List (V × List Rg)} {e e' : E} {a b : List E} (h : Ctx σ (a ++ e :: b) ss) (hu : UpdM e.m σ τ) (hk : OkE τ e') (hm : e'.m = e.m) : Ctx τ (a ++ e' :: b) ss := by
  have hp := h.pw
  rw [List.pairwise_append, List.pairwise_cons] at hp
  obtain ⟨p1, ⟨p2, p3⟩, p4⟩ := hp
  have hk0 := h.ok e (by simp)
  refine ⟨fun x hx => ?_, ?_, fun s hs => rdS_lv (h.rd s hs) hu.live⟩
  · rcases List.mem_append.1 hx with hx | hx
    · exact (h.ok x (by simp [hx])).upd hk0 (p4 x hx e (by simp)) hu
    · rcases List.mem_cons.1 hx with rfl | hx
      · exact hk
      · exact (h.ok x (by simp [hx])).upd hk0 (Ne.symm (p2 x hx)) hu
  · rw [List.pairwise_append, List.pairwise_cons]
    refine ⟨p1, ⟨fun x hx => by rw [hm]; exact p2 x hx, p3⟩, fun x hx y hy => ?_⟩
    rcases List.mem_cons.1 hy with rfl | hy
    · rw [hm]; exact p4 x hx e (by simp)
    · exact p4 x hx y (by simp [hy])

section
variable {σ : St} {e e' : E}
theorem mergeE {es : List E} {ss : List (V × List Rg)} {a b : List E} (h : Ctx σ (a ++ e :: b) ss) (h2 : e' ∈ a ++ b) (hn : e.n ≤ 100000) (hn2 : e'.n ≤ 100000) :
    CallA Try.prog 28 [.ptr (some (e.i, 0)), .ptr (some (e'.i, 0))] σ fun v σ' => v = .int .i64 0 ∧ Ctx σ' (a ++ ⟨e.i, e.m, e.L ++ e'.L, e.n + e'.n⟩ :: b) ss := by
  obtain ⟨⟨T, k1, k2, k3⟩, k4⟩ := h.ok e (by simp)
  obtain ⟨⟨T2, j1, j2, j3⟩, j4⟩ := h.ok e' (by
    rcases List.mem_append.1 h2 with h2 | h2
    · simp [h2]
    · simp [h2])
  have hne : e.m ≠ e'.m := by
    have hp := h.pw
    rw [List.pairwise_append, List.pairwise_cons] at hp
    obtain ⟨p1, ⟨p2, p3⟩, p4⟩ := hp
    rcases List.mem_append.1 h2 with h2 | h2
    · exact Ne.symm (p4 e' h2 e (by simp))
    · exact p2 e' h2
  refine CallA.mono (merge_ok k1 j1 hne k2 j2 (by omega) (by omega) j4) ?_
  rintro v σ' ⟨rfl, hu, T', t1, t2, t3⟩
  refine ⟨rfl, h.set hu ⟨⟨T', t1, t2, by simp only; omega⟩, fun r hr => ?_⟩ rfl⟩
  rcases List.mem_append.1 hr with hr | hr
  · exact k4 r hr
  · exact j4 r hr
theorem cloneE {es : List E} {ss : List (V × List Rg)} (h : Ctx σ es ss) (h2 : e ∈ es) (hn : e.n ≤ 100000) :
    CallA Try.prog 27 [.ptr (some (e.i, 0))] σ fun v σ' => ∃ i' m', v = .ptr (some (i', 0)) ∧ Ctx σ' (⟨i', m', e.L, e.n⟩ :: es) ss := by
  obtain ⟨⟨T, k1, k2, k3⟩, k4⟩ := h.ok e h2
  refine CallA.mono (clone_ok k1 k2 (by omega) k4) ?_
  rintro v σ' ⟨he, i', m', T', rfl, h3, h4, h5, h6, h7⟩
  exact ⟨i', m', rfl, h.add he ⟨⟨T', h5, h6, by simp only; omega⟩, k4⟩ h4⟩
theorem allE {es : List E} {ss : List (V × List Rg)} (h : Ctx σ es ss) (h2 : e ∈ es) (hn : e.n ≤ 100000) {S : List Rg} (hS : Canon e.L S) :
    CallA Try.prog 22 [.ptr (some (e.i, 0))] σ fun v σ' => Ctx σ' es ((v, S) :: ss) := by
  obtain ⟨⟨T, k1, k2, k3⟩, k4⟩ := h.ok e h2
  refine CallA.mono (all_ok k1 k2 (by omega)) ?_
  rintro v σ' ⟨S', h3, h4, h5, h6⟩
  rw [h3.uniq hS] at h5
  exact h.slice h6 h5
theorem sameE {es : List E} {ss : List (V × List Rg)} {v w : V} {S : List Rg} (h : Ctx σ es ss) (h1 : (v, S) ∈ ss) (h2 : (w, S) ∈ ss) (hS : S.length ≤ 268435456) : CallA Try.prog 21 [v, w] σ fun x σ' => σ' = σ ∧ x = .bool true :=
  same_ok (h.rd _ h1) (h.rd _ h2) hS
theorem laidE {es : List E} {ss : List (V × List Rg)} (h : Ctx σ es ss) {v : V} {l : List Rg} (hv : RdS σ v 7 (regsV l)) (hlen : ∀ r ∈ l, r.name.length < 4611686018427387904) (hl : l.length ≤ 268435456) :
    CallA Try.prog 16 [v] σ fun w σ' => ∃ i m x S, w = .tup [.ptr (some (i, 0)), x] ∧ Canon (l.take 200) S ∧ S.length ≤ 400 ∧ Ext σ σ' ∧ Ctx σ' (⟨i, m, l.take 200, 200⟩ :: es) ((x, S) :: ss) := by
  refine CallA.mono (laid_ok hv hlen hl) ?_
  rintro w σ' ⟨i, m, x, rfl, h1, h2, h3, h4⟩
  obtain ⟨c1, c2, c3⟩ := has_puts _ (l.take 200) rfl
  have h5 := rputs_length (l.take 200)
  have h6 : (l.take 200).length ≤ 200 := by rw [List.length_take]; omega
  exact ⟨i, m, x, _, rfl, c2, by omega, h3, (h.add h3 ⟨⟨_, h1, c1, by simp only; omega⟩, fun r hr => hlen r (List.mem_of_mem_take hr)⟩ h4).slice (.refl _) h2⟩
theorem ynilE {es : List E} {ss : List (V × List Rg)} (h : Ctx σ es ss) (h2 : e ∈ es) : CallA Try.prog 28 [.ptr (some (e.i, 0)), .ptr none] σ fun v σ' => v = .int .i64 0 ∧ Ctx σ' es ss := by
  obtain ⟨⟨T, k1, k2, k3⟩, k4⟩ := h.ok e h2
  refine CallA.mono (merge_ynil k1) ?_
  rintro v σ' ⟨rfl, he⟩
  exact ⟨rfl, h.ext he⟩
end
section
variable {σ : St} {l l2 l3 : List Rg} {v w u : V}
set_option maxRecDepth 100000 in
set_option maxHeartbeats 6400000 in
theorem merges_ok (hv : RdS σ v 7 (regsV l)) (hw : RdS σ w 7 (regsV l2)) (hu : RdS σ u 7 (regsV l3)) (hlen : ∀ r ∈ l, r.name.length < 4611686018427387904) (hl : l.length ≤ 268435456)
    (hlen2 : ∀ r ∈ l2, r.name.length < 4611686018427387904) (hl2 : l2.length ≤ 268435456) (hlen3 : ∀ r ∈ l3, r.name.length < 4611686018427387904) (hl3 : l3.length ≤ 268435456) :
    CallA Try.prog 9 [v, w, u] σ fun x _ => x = .bool true := by
  refine fn_at Try.func9 (by decide) comp9 rfl fun Q q1 q2 => ?_
  simp -implicitDefEqProofs only [go_sem, Nat.reduceBEq, Nat.reduceAdd, eq_self, true_and, and_true, and_self, List.getElem?_cons_zero, List.getElem?_cons_succ, Nat.reduceLeDiff, Nat.zero_add, Nat.reduceSub, Nat.le_refl, c9]
  have c0 : Ctx σ [] [] := ⟨by simp, .nil, by simp⟩
  refine call_at (laidE c0 hv hlen hl) ?_
  rintro _ τ1 ⟨ix, mx, x, S1, rfl, s1, n1, e1, c1⟩
  refine ⟨kept_none, ?_⟩
  simp -implicitDefEqProofs only [go_sem, Nat.reduceBEq, Nat.reduceAdd, eq_self, true_and, and_true, and_self, List.getElem?_cons_zero, List.getElem?_cons_succ, Nat.reduceLeDiff, Nat.zero_add, Nat.reduceSub, Nat.le_refl, Nat.lt_irrefl]
  refine call_at (laidE c1 (hw.ext e1) hlen2 hl2) ?_
  rintro _ τ2 ⟨iy, my, y, S2, rfl, s2, n2, e2, c2⟩
  refine ⟨kept_none, ?_⟩
  simp -implicitDefEqProofs only [go_sem, Nat.reduceBEq, Nat.reduceAdd, eq_self, true_and, and_true, and_self, List.getElem?_cons_zero, List.getElem?_cons_succ, Nat.reduceLeDiff, Nat.zero_add, Nat.reduceSub, Nat.le_refl, Nat.lt_irrefl]
  refine call_at (laidE c2 (hu.ext (e1.trans e2)) hlen3 hl3) ?_
  rintro _ τ3 ⟨iz, mz, z, S3, rfl, s3, n3, e3, c3⟩
  refine ⟨kept_none, ?_⟩
  have hn2 : ∀ r ∈ S2, r.name.length < 4611686018427387904 := fun r hr => hlen2 r (List.mem_of_mem_take (s2.lst.1 r hr).1)
  have hn3 : ∀ r ∈ S3, r.name.length < 4611686018427387904 := fun r hr => hlen3 r (List.mem_of_mem_take (s3.lst.1 r hr).1)
  generalize l.take 200 = A at s1 c1 c2 c3
  generalize l2.take 200 = B at s2 c2 c3
  generalize l3.take 200 = C at s3 c3
  have s12 := s1.merge s2
  have n12 := (rmerge_canon s1 _ S2 rfl).2
  have s123 := s12.merge s3
  have n123 := (rmerge_canon s12 _ S3 rfl).2
  clear c0 c1 c2 e1 e2 e3 hv hw hu hlen hl hlen2 hl2 hlen3 hl3
  simp -implicitDefEqProofs only [go_sem, Nat.reduceBEq, Nat.reduceAdd, eq_self, true_and, and_true, and_self, List.getElem?_cons_zero, List.getElem?_cons_succ, Nat.reduceLeDiff, Nat.zero_add, Nat.reduceSub, Nat.le_refl, Nat.lt_irrefl]
  refine call_at (cloneE (e := ⟨ix, mx, A, 200⟩) c3 (by simp) (by simp)) ?_
  rintro _ τ4 ⟨ixy, mxy, rfl, c4⟩
  refine ⟨kept_none, ?_⟩
  clear c3
  simp -implicitDefEqProofs only [go_sem, Nat.reduceBEq, Nat.reduceAdd, eq_self, true_and, and_true, and_self, List.getElem?_cons_zero, List.getElem?_cons_succ, Nat.reduceLeDiff, Nat.zero_add, Nat.reduceSub, Nat.le_refl, Nat.lt_irrefl]
  refine call_at (cloneE (e := ⟨iy, my, B, 200⟩) c4 (by simp) (by simp)) ?_
  rintro _ τ5 ⟨iyx, myx, rfl, c5⟩
  refine ⟨kept_none, ?_⟩
  clear c4
  simp -implicitDefEqProofs only [go_sem, Nat.reduceBEq, Nat.reduceAdd, eq_self, true_and, and_true, and_self, List.getElem?_cons_zero, List.getElem?_cons_succ, Nat.reduceLeDiff, Nat.zero_add, Nat.reduceSub, Nat.le_refl, Nat.lt_irrefl]
  refine call_at (mergeE (a := [⟨iyx, myx, B, 200⟩]) (e := ⟨ixy, mxy, A, 200⟩) (e' := ⟨iy, my, B, 200⟩) (es := []) c5 (by simp) (by simp) (by simp)) ?_
  rintro _ τ6 ⟨rfl, c6⟩
  refine ⟨kept_none, ?_⟩
  clear c5
  have hne0 : decide ((0 : Int) = 0) = true := by decide
  simp -implicitDefEqProofs only [go_sem, Nat.reduceBEq, Nat.reduceAdd, eq_self, true_and, and_true, and_self, List.getElem?_cons_zero, List.getElem?_cons_succ, Nat.reduceLeDiff, Nat.zero_add, Nat.reduceSub, Nat.le_refl, hne0, Bool.not_true]
  refine call_at (mergeE (a := []) (e := ⟨iyx, myx, B, 200⟩) (e' := ⟨ix, mx, A, 200⟩) (es := []) c6 (by simp) (by simp) (by simp)) ?_
  rintro _ τ7 ⟨rfl, c7⟩
  refine ⟨kept_none, ?_⟩
  clear c6
  simp only [List.nil_append, List.cons_append] at c7
  simp -implicitDefEqProofs only [go_sem, Nat.reduceBEq, Nat.reduceAdd, eq_self, true_and, and_true, and_self, List.getElem?_cons_zero, List.getElem?_cons_succ, Nat.reduceLeDiff, Nat.zero_add, Nat.reduceSub, Nat.le_refl, hne0, Bool.not_true]
  refine call_at (rmerge_ok (S := S1) (S2 := S2) (c7.rd (x, S1) (by simp)) (c7.rd (y, S2) (by simp)) (by omega) (by omega) hn2) ?_
  rintro both τ8 ⟨e8, hb⟩
  refine ⟨kept_none, ?_⟩
  have c8 := c7.slice e8 hb
  clear c7 e8 hb
  simp -implicitDefEqProofs only [go_sem, Nat.reduceBEq, Nat.reduceAdd, eq_self, true_and, and_true, and_self, List.getElem?_cons_zero, List.getElem?_cons_succ, Nat.reduceLeDiff, Nat.zero_add, Nat.reduceSub, Nat.le_refl, Nat.lt_irrefl]
  refine call_at (allE (e := ⟨ixy, mxy, A ++ B, 400⟩) c8 (by simp) (by simp) s12) ?_
  rintro v1 τ9 c9
  refine ⟨kept_none, ?_⟩
  simp -implicitDefEqProofs only [go_sem, Nat.reduceBEq, Nat.reduceAdd, eq_self, true_and, and_true, and_self, List.getElem?_cons_zero, List.getElem?_cons_succ, Nat.reduceLeDiff, Nat.zero_add, Nat.reduceSub, Nat.le_refl, Nat.lt_irrefl]
  refine call_at (sameE (S := rmerge S1 S2) c9 (by simp) (by simp) (by omega)) ?_
  rintro _ τ ⟨rfl, rfl⟩
  refine ⟨kept_none, ?_⟩
  clear c8
  simp -implicitDefEqProofs only [go_sem, Nat.reduceBEq, Nat.reduceAdd, eq_self, true_and, and_true, and_self, List.getElem?_cons_zero, List.getElem?_cons_succ, Nat.reduceLeDiff, Nat.zero_add, Nat.reduceSub, Nat.le_refl, Bool.not_true]
  refine call_at (allE (e := ⟨iyx, myx, B ++ A, 400⟩) c9 (by simp) (by simp) (s12.congr fun r => by simp only [List.mem_append]; exact Or.comm)) ?_
  rintro v2 τ10 c10
  refine ⟨kept_none, ?_⟩
  simp -implicitDefEqProofs only [go_sem, Nat.reduceBEq, Nat.reduceAdd, eq_self, true_and, and_true, and_self, List.getElem?_cons_zero, List.getElem?_cons_succ, Nat.reduceLeDiff, Nat.zero_add, Nat.reduceSub, Nat.le_refl, Nat.lt_irrefl]
  refine call_at (sameE (S := rmerge S1 S2) c10 (by simp) (by simp) (by omega)) ?_
  rintro _ τ ⟨rfl, rfl⟩
  refine ⟨kept_none, ?_⟩
  clear c9
  simp -implicitDefEqProofs only [go_sem, Nat.reduceBEq, Nat.reduceAdd, eq_self, true_and, and_true, and_self, List.getElem?_cons_zero, List.getElem?_cons_succ, Nat.reduceLeDiff, Nat.zero_add, Nat.reduceSub, Nat.le_refl, Bool.not_true]
  refine call_at (mergeE (a := [⟨iyx, myx, B ++ A, 400⟩]) (e := ⟨ixy, mxy, A ++ B, 400⟩) (e' := ⟨iy, my, B, 200⟩) (es := []) c10 (by simp) (by simp) (by simp)) ?_
  rintro _ τ11 ⟨rfl, c11⟩
  refine ⟨kept_none, ?_⟩
  clear c10
  simp only [List.nil_append, List.cons_append] at c11
  simp -implicitDefEqProofs only [go_sem, Nat.reduceBEq, Nat.reduceAdd, eq_self, true_and, and_true, and_self, List.getElem?_cons_zero, List.getElem?_cons_succ, Nat.reduceLeDiff, Nat.zero_add, Nat.reduceSub, Nat.le_refl, hne0, Bool.not_true]
  refine call_at (allE (e := ⟨ixy, mxy, A ++ B ++ B, 600⟩) c11 (by simp) (by simp) (s12.congr fun r => by simp only [List.mem_append, or_assoc, or_self])) ?_
  rintro v3 τ12 c12
  refine ⟨kept_none, ?_⟩
  simp -implicitDefEqProofs only [go_sem, Nat.reduceBEq, Nat.reduceAdd, eq_self, true_and, and_true, and_self, List.getElem?_cons_zero, List.getElem?_cons_succ, Nat.reduceLeDiff, Nat.zero_add, Nat.reduceSub, Nat.le_refl, Nat.lt_irrefl]
  refine call_at (sameE (S := rmerge S1 S2) c12 (by simp) (by simp) (by omega)) ?_
  rintro _ τ ⟨rfl, rfl⟩
  refine ⟨kept_none, ?_⟩
  clear c11
  simp -implicitDefEqProofs only [go_sem, Nat.reduceBEq, Nat.reduceAdd, eq_self, true_and, and_true, and_self, List.getElem?_cons_zero, List.getElem?_cons_succ, Nat.reduceLeDiff, Nat.zero_add, Nat.reduceSub, Nat.le_refl, Bool.not_true]
  refine call_at (cloneE (e := ⟨iy, my, B, 200⟩) c12 (by simp) (by simp)) ?_
  rintro _ τ13 ⟨iyz, myz, rfl, c13⟩
  refine ⟨kept_none, ?_⟩
  clear c12
  simp -implicitDefEqProofs only [go_sem, Nat.reduceBEq, Nat.reduceAdd, eq_self, true_and, and_true, and_self, List.getElem?_cons_zero, List.getElem?_cons_succ, Nat.reduceLeDiff, Nat.zero_add, Nat.reduceSub, Nat.le_refl, Nat.lt_irrefl]
  refine call_at (mergeE (a := []) (e := ⟨iyz, myz, B, 200⟩) (e' := ⟨iz, mz, C, 200⟩) (es := []) c13 (by simp) (by simp) (by simp)) ?_
  rintro _ τ14 ⟨rfl, c14⟩
  refine ⟨kept_none, ?_⟩
  clear c13
  simp only [List.nil_append, List.cons_append] at c14
  simp -implicitDefEqProofs only [go_sem, Nat.reduceBEq, Nat.reduceAdd, eq_self, true_and, and_true, and_self, List.getElem?_cons_zero, List.getElem?_cons_succ, Nat.reduceLeDiff, Nat.zero_add, Nat.reduceSub, Nat.le_refl, hne0, Bool.not_true]
  refine call_at (mergeE (a := [⟨iyz, myz, B ++ C, 400⟩, ⟨iyx, myx, B ++ A, 400⟩]) (e := ⟨ixy, mxy, A ++ B ++ B, 600⟩) (e' := ⟨iz, mz, C, 200⟩) (es := []) c14 (by simp) (by simp) (by simp)) ?_
  rintro _ τ15 ⟨rfl, c15⟩
  refine ⟨kept_none, ?_⟩
  clear c14
  simp only [List.nil_append, List.cons_append] at c15
  simp -implicitDefEqProofs only [go_sem, Nat.reduceBEq, Nat.reduceAdd, eq_self, true_and, and_true, and_self, List.getElem?_cons_zero, List.getElem?_cons_succ, Nat.reduceLeDiff, Nat.zero_add, Nat.reduceSub, Nat.le_refl, hne0, Bool.not_true]
  refine call_at (mergeE (a := [⟨iyz, myz, B ++ C, 400⟩, ⟨iyx, myx, B ++ A, 400⟩, ⟨ixy, mxy, A ++ B ++ B ++ C, 800⟩, ⟨iz, mz, C, 200⟩, ⟨iy, my, B, 200⟩]) (e := ⟨ix, mx, A, 200⟩) (e' := ⟨iyz, myz, B ++ C, 400⟩) (es := []) c15 (by simp) (by simp) (by simp)) ?_
  rintro _ τ16 ⟨rfl, c16⟩
  refine ⟨kept_none, ?_⟩
  clear c15
  simp only [List.nil_append, List.cons_append] at c16
  simp -implicitDefEqProofs only [go_sem, Nat.reduceBEq, Nat.reduceAdd, eq_self, true_and, and_true, and_self, List.getElem?_cons_zero, List.getElem?_cons_succ, Nat.reduceLeDiff, Nat.zero_add, Nat.reduceSub, Nat.le_refl, hne0, Bool.not_true]
  refine call_at (ynilE (e := ⟨ixy, mxy, A ++ B ++ B ++ C, 800⟩) c16 (by simp)) ?_
  rintro _ τ17 ⟨rfl, c17⟩
  refine ⟨kept_none, ?_⟩
  clear c16
  simp -implicitDefEqProofs only [go_sem, Nat.reduceBEq, Nat.reduceAdd, eq_self, true_and, and_true, and_self, List.getElem?_cons_zero, List.getElem?_cons_succ, Nat.reduceLeDiff, Nat.zero_add, Nat.reduceSub, Nat.le_refl, hne0, Bool.not_true]
  have sx : Canon (A ++ (B ++ C)) (rmerge (rmerge S1 S2) S3) := by rw [← List.append_assoc]; exact s123
  have sxy : Canon (A ++ B ++ B ++ C) (rmerge (rmerge S1 S2) S3) := s123.congr fun r => by simp only [List.mem_append, or_assoc, or_self_left]
  refine call_at (allE (e := ⟨ix, mx, A ++ (B ++ C), 600⟩) c17 (by simp) (by simp) sx) ?_
  rintro v4 τ18 c18
  refine ⟨kept_none, ?_⟩
  clear c17
  simp -implicitDefEqProofs only [go_sem, Nat.reduceBEq, Nat.reduceAdd, eq_self, true_and, and_true, and_self, List.getElem?_cons_zero, List.getElem?_cons_succ, Nat.reduceLeDiff, Nat.zero_add, Nat.reduceSub, Nat.le_refl, Nat.lt_irrefl]
  refine call_at (allE (e := ⟨ixy, mxy, A ++ B ++ B ++ C, 800⟩) c18 (by simp) (by simp) sxy) ?_
  rintro v5 τ19 c19
  refine ⟨kept_none, ?_⟩
  clear c18
  simp -implicitDefEqProofs only [go_sem, Nat.reduceBEq, Nat.reduceAdd, eq_self, true_and, and_true, and_self, List.getElem?_cons_zero, List.getElem?_cons_succ, Nat.reduceLeDiff, Nat.zero_add, Nat.reduceSub, Nat.le_refl, Nat.lt_irrefl]
  refine call_at (sameE (S := rmerge (rmerge S1 S2) S3) c19 (by simp) (by simp) (by omega)) ?_
  rintro _ τ ⟨rfl, rfl⟩
  refine ⟨kept_none, ?_⟩
  simp -implicitDefEqProofs only [go_sem, Nat.reduceBEq, Nat.reduceAdd, eq_self, true_and, and_true, and_self, List.getElem?_cons_zero, List.getElem?_cons_succ, Nat.reduceLeDiff, Nat.zero_add, Nat.reduceSub, Nat.le_refl, Nat.lt_irrefl]
  refine call_at (allE (e := ⟨ixy, mxy, A ++ B ++ B ++ C, 800⟩) c19 (by simp) (by simp) sxy) ?_
  rintro v6 τ20 c20
  refine ⟨kept_none, ?_⟩
  clear c19
  simp -implicitDefEqProofs only [go_sem, Nat.reduceBEq, Nat.reduceAdd, eq_self, true_and, and_true, and_self, List.getElem?_cons_zero, List.getElem?_cons_succ, Nat.reduceLeDiff, Nat.zero_add, Nat.reduceSub, Nat.le_refl, Nat.lt_irrefl]
  refine call_at (rmerge_ok (S := rmerge S1 S2) (S2 := S3) (c20.rd (both, rmerge S1 S2) (by simp)) (c20.rd (z, S3) (by simp)) (by omega) (by omega) hn3) ?_
  rintro bu τ21 ⟨e21, hbu⟩
  refine ⟨kept_none, ?_⟩
  have c21 := c20.slice e21 hbu
  clear c20 e21 hbu
  simp -implicitDefEqProofs only [go_sem, Nat.reduceBEq, Nat.reduceAdd, eq_self, true_and, and_true, and_self, List.getElem?_cons_zero, List.getElem?_cons_succ, Nat.reduceLeDiff, Nat.zero_add, Nat.reduceSub, Nat.le_refl, Nat.lt_irrefl]
  refine call_at (sameE (S := rmerge (rmerge S1 S2) S3) c21 (by simp) (by simp) (by omega)) ?_
  rintro _ τ ⟨rfl, rfl⟩
  refine ⟨kept_none, ?_⟩
  simp -implicitDefEqProofs only [go_sem, Nat.reduceBEq, Nat.reduceAdd, eq_self, true_and, and_true, and_self, List.getElem?_cons_zero, List.getElem?_cons_succ, Nat.reduceLeDiff, Nat.zero_add, Nat.reduceSub, Nat.le_refl, Nat.lt_irrefl]
  refine call_at (allE (e := ⟨iy, my, B, 200⟩) c21 (by simp) (by simp) s2) ?_
  rintro v7 τ22 c22
  refine ⟨kept_none, ?_⟩
  clear c21
  simp -implicitDefEqProofs only [go_sem, Nat.reduceBEq, Nat.reduceAdd, eq_self, true_and, and_true, and_self, List.getElem?_cons_zero, List.getElem?_cons_succ, Nat.reduceLeDiff, Nat.zero_add, Nat.reduceSub, Nat.le_refl, Nat.lt_irrefl]
  refine call_at (sameE (S := S2) c22 (by simp) (by simp) (by omega)) ?_
  rintro _ τ ⟨rfl, rfl⟩
  refine ⟨kept_none, ?_⟩
  simp -implicitDefEqProofs only [go_sem, Nat.reduceBEq, Nat.reduceAdd, eq_self, true_and, and_true, and_self, List.getElem?_cons_zero, List.getElem?_cons_succ, Nat.reduceLeDiff, Nat.zero_add, Nat.reduceSub, Nat.le_refl, Nat.lt_irrefl]
  refine call_at (allE (e := ⟨iz, mz, C, 200⟩) c22 (by simp) (by simp) s3) ?_
  rintro v8 τ23 c23
  refine ⟨kept_none, ?_⟩
  clear c22
  simp -implicitDefEqProofs only [go_sem, Nat.reduceBEq, Nat.reduceAdd, eq_self, true_and, and_true, and_self, List.getElem?_cons_zero, List.getElem?_cons_succ, Nat.reduceLeDiff, Nat.zero_add, Nat.reduceSub, Nat.le_refl, Nat.lt_irrefl]
  refine call_at (sameE (S := S3) c23 (by simp) (by simp) (by omega)) ?_
  rintro _ τ ⟨rfl, rfl⟩
  refine ⟨kept_none, ?_⟩
  simp -implicitDefEqProofs only [go_sem, Nat.reduceBEq, Nat.reduceAdd, eq_self, true_and, and_true, and_self, List.getElem?_cons_zero, List.getElem?_cons_succ, Nat.reduceLeDiff, Nat.zero_add, Nat.reduceSub, Nat.le_refl, Nat.lt_irrefl]
  refine call_at awake_ok ?_
  rintro _ τ24 ⟨rfl, e24⟩
  refine ⟨kept_none, ?_⟩
  simp -implicitDefEqProofs only [go_sem, Nat.reduceBEq, Nat.reduceAdd, eq_self, true_and, and_true, and_self, List.getElem?_cons_zero, List.getElem?_cons_succ, Nat.reduceLeDiff, Nat.zero_add, Nat.reduceSub, Nat.le_refl, Nat.lt_irrefl]
  refine q2 _ _ ?_
  simp -implicitDefEqProofs only [go_sem, Nat.reduceBEq, Nat.reduceAdd, eq_self, true_and, and_true, and_self, List.getElem?_cons_zero, List.getElem?_cons_succ, Nat.reduceLeDiff, Nat.zero_add, Nat.reduceSub, Nat.le_refl, Nat.lt_irrefl]
end
end Go.VL.lww

namespace Go.VL.lww
open Go Go.VL Go.Proofs Go.IntWalk

theorem Sorted.kd {S : List Rg} (h : Sorted S) : KD S := h.imp fun h => ahead_ne h
theorem lst_sub {L S T : List Rg} (h : Lst L S) (k : KD S) (h' : Lst L T) {w : Rg} (hw : w ∈ S) : w ∈ T := by
  obtain ⟨a1, a2⟩ := h.1 w hw
  obtain ⟨u, b1, b2, b3⟩ := h'.2 w a1 a2
  obtain ⟨c1, c2⟩ := h'.1 u b1
  obtain ⟨v, d1, d2, d3⟩ := h.2 u c1 c2
  have e := k.one hw d1 (sameK_trans b2 d2)
  subst e
  rw [wins_total b2 a2 c2 b3 d3]; exact b1
theorem find_eq {L S T : List Rg} (h : Lst L S) (k : KD S) (h' : Lst L T) (k' : KD T) (r : Rg) : S.find? (sameK r) = T.find? (sameK r) := by
  cases hs : S.find? (sameK r) with
  | none =>
    have hn : ∀ x ∈ S, sameK r x = false := fun x hx => by simpa using List.find?_eq_none.1 hs x hx
    exact (List.find?_eq_none.2 fun x hx => by simp [hn x (lst_sub h' k' h hx)]).symm
  | some w =>
    have hw := List.mem_of_find?_eq_some hs
    have hk : sameK r w = true := by simpa using List.find?_some hs
    cases ht : T.find? (sameK r) with
    | none => have := List.find?_eq_none.1 ht w (lst_sub h k h' hw); rw [hk] at this; exact absurd rfl this
    | some u =>
      have hu := List.mem_of_find?_eq_some ht
      have hku : sameK r u = true := by simpa using List.find?_some ht
      rw [k'.one (lst_sub h k h' hw) hu (sameK_trans (by rw [sameK_comm]; exact hk) hku)]

def onN (r x : Rg) : Bool := (decide (x.nc = r.nc) && decide (x.nr = r.nr)) && (!decide (x.name = []) && !x.gone)
def attC (a : List UInt8 × List UInt8) : List V := [.str a.1, .str a.2]
def attsV (l : List (List UInt8 × List UInt8)) : List (List V) := l.map attC
def attrs (r : Rg) (S : List Rg) : List (List UInt8 × List UInt8) := (S.filter (onN r)).map fun x => (x.name, x.val)
theorem attrs_snoc (r x : Rg) (S : List Rg) : attrs r (S ++ [x]) = bif onN r x then attrs r S ++ [(x.name, x.val)] else attrs r S := by
  unfold attrs
  cases h : onN r x <;> simp [List.filter_append, h]
theorem attrs_len (r : Rg) (S : List Rg) : (attrs r S).length ≤ S.length := by
  unfold attrs; rw [List.length_map]; exact List.length_filter_le _ _
theorem attsV_len (l : List (List UInt8 × List UInt8)) : (attsV l).length = l.length := by simp [attsV]
theorem attsV_get {l : List (List UInt8 × List UInt8)} {i : Nat} (h : i < l.length) : (attsV l)[((i : Nat) : Int).toNat]?.getD [] = attC l[i] := by simp [attsV, h]
def AccA (n : Nat) (τ : St) (w : V) (l : List (List UInt8 × List UInt8)) : Prop := (l = [] ∧ w = .sl true .pub 0 []) ∨ ∃ q, w = .sl false (.own q) 2 (attsV l) ∧ τ.live[q]? = some true ∧ n ≤ q
theorem AccA.rd {n : Nat} {τ : St} {w : V} {l : List (List UInt8 × List UInt8)} (h : AccA n τ w l) : RdS τ w 2 (attsV l) := by
  rcases h with ⟨rfl, rfl⟩ | ⟨q, rfl, h1, h2⟩
  · exact ⟨true, .pub, 0, rfl, by simp [attsV], .inl rfl⟩
  · exact ⟨false, .own q, 2, rfl, by simp, .inr ⟨h1, rfl⟩⟩

section
variable {σ : St} {r : Rg} {S : List Rg} {v : V}
set_option maxRecDepth 100000 in
set_option maxHeartbeats 1600000 in
theorem rget_ok (hv : RdS σ v 7 (regsV S)) (hS : S.length ≤ 100000) :
    CallA Try.prog 23 [v, .agg [.int .i64 r.nc, .int .i64 r.nr], .str r.name] σ fun w σ' => σ' = σ ∧ w = .tup [regV (getR S r), .bool (S.find? (sameK r)).isSome] := by
  obtain ⟨b, R, z, rfl, -, -⟩ := id hv
  refine fn_at Try.func23 (by decide) comp23 rfl fun Q q1 q2 => ?_
  have q3 : ∀ (F : Fr) (x : Rg) (c : Bool), lget 6 F.l = some (regC x) → sget 6 F.s = .loc 6 0 → sget 7 F.s = .v (.bool c) → getR S r = x → (S.find? (sameK r)).isSome = c → Q .ret F σ := by
    intro F x c h1 h2 h3 h4 h5
    refine q2 _ _ ?_
    rw [h4, h5]
    have hs : ∀ x, sget 0 (sset 0 x F.s) = x := fun x => by simp [sget_sset]
    simp -implicitDefEqProofs only [go_sem, Nat.reduceBEq, Nat.reduceAdd, eq_self, true_and, and_true, and_self, List.getElem?_cons_zero, List.getElem?_cons_succ, Nat.reduceLeDiff, Nat.zero_add, Nat.reduceSub, Nat.le_refl, h1, h2, h3, regC, regV, hs]
  clear q1 q2
  simp -implicitDefEqProofs only [go_sem, Nat.reduceBEq, Nat.reduceAdd, eq_self, true_and, and_true, and_self, List.getElem?_cons_zero, List.getElem?_cons_succ, Nat.reduceLeDiff, Nat.zero_add, Nat.reduceSub, Nat.le_refl, c23]
  refine loop_at (fun (i : Nat) => ⟨[(0, .v (.sl b R z (regsV S))), (2, .v (.str r.name)), (4, .loc 4 0), (6, .loc 6 0), (7, .v (.bool false)), (8, .v (.int .i64 i))], [(4, [.int .i64 r.nc, .int .i64 r.nr]), (6, regC zeroR)]⟩)
    (fun i τ => i ≤ S.length ∧ τ = σ ∧ S.find? (sameK r) = (S.drop i).find? (sameK r)) (fun i => S.length - i) 0 ?_ ?_ ?_
  · refine .inr ?_
    simp -implicitDefEqProofs only [go_sem, Nat.reduceBEq, Nat.reduceAdd, eq_self, true_and, and_true, and_self, List.getElem?_cons_zero, List.getElem?_cons_succ, Nat.reduceLeDiff, Nat.zero_add, Nat.reduceSub, Nat.le_refl, regC, zeroR]
    try trivial
  · exact ⟨Nat.zero_le _, rfl, by simp⟩
  rintro i τ ⟨g1, rfl, g3⟩ Z z1 z2 z3
  have hSl := regsV_length S
  simp -implicitDefEqProofs only [go_sem, Nat.reduceBEq, Nat.reduceAdd, eq_self, true_and, and_true, and_self, List.getElem?_cons_zero, List.getElem?_cons_succ, Nat.reduceLeDiff, Nat.zero_add, Nat.reduceSub, Nat.le_refl, Nat.lt_irrefl]
  refine CondW_b (fun hc => ?_) (fun hc => ?_)
  · have hi : i < S.length := by simpa [regsV_length] using hc
    obtain ⟨k1, k2⟩ := rdl hv (by cases S <;> simp [regsV] at hi ⊢)
    have hget := regsV_get hi
    have hib : (i : Int) < (regsV S).length := by omega
    rw [List.drop_eq_getElem_cons hi] at g3
    generalize S[i] = x at hget g3
    have hsame : sameK r x = ((decide (x.nc = r.nc) && decide (x.nr = r.nr)) && decide (x.name = r.name)) := by rw [sameK_comm]; simp [sameK, Bool.and_assoc]
    have hw64 : IntKind.i64.wrap ((i : Int) + 1) = ((i + 1 : Nat) : Int) := by rw [i64_in _ (by omega)]; omega
    cases h1 : (decide (x.nc = r.nc) && decide (x.nr = r.nr)) <;> rw [h1] at hsame
    case' true => cases h2 : decide (x.name = r.name) <;> rw [h2] at hsame
    case true.true =>
      rw [List.find?_cons, hsame] at g3
      simp -implicitDefEqProofs only [go_sem, Nat.reduceBEq, Nat.reduceAdd, eq_self, true_and, and_true, and_self, List.getElem?_cons_zero, List.getElem?_cons_succ, Nat.reduceLeDiff, Nat.zero_add, Nat.reduceSub, Nat.le_refl, hget, regC, zeroR, V.eqs, V.eq, Bool.and_true, h1, h2]
      repeat refine ⟨⟨by omega, hib, k2⟩, k1, ?_⟩
      refine z3 _ _ ?_
      simp -implicitDefEqProofs only [go_sem, Nat.reduceBEq, Nat.reduceAdd, eq_self, true_and, and_true, and_self, List.getElem?_cons_zero, List.getElem?_cons_succ, Nat.reduceLeDiff, Nat.zero_add, Nat.reduceSub, Nat.le_refl, Nat.lt_irrefl]
      refine q3 _ x true rfl rfl rfl ?_ ?_
      · unfold getR; rw [g3]; rfl
      · rw [g3]; rfl
    all_goals
      rw [List.find?_cons, hsame] at g3
      first
        | simp -implicitDefEqProofs only [go_sem, Nat.reduceBEq, Nat.reduceAdd, eq_self, true_and, and_true, and_self, List.getElem?_cons_zero, List.getElem?_cons_succ, Nat.reduceLeDiff, Nat.zero_add, Nat.reduceSub, Nat.le_refl, hget, regC, zeroR, V.eqs, V.eq, Bool.and_true, h1, h2]
        | simp -implicitDefEqProofs only [go_sem, Nat.reduceBEq, Nat.reduceAdd, eq_self, true_and, and_true, and_self, List.getElem?_cons_zero, List.getElem?_cons_succ, Nat.reduceLeDiff, Nat.zero_add, Nat.reduceSub, Nat.le_refl, hget, regC, zeroR, V.eqs, V.eq, Bool.and_true, h1]
      repeat refine ⟨⟨by omega, hib, k2⟩, k1, ?_⟩
      refine z1 (i + 1) _ _ (.inr ?_) (by omega) ⟨by omega, rfl, by simpa using g3⟩
      simp -implicitDefEqProofs only [go_sem, Nat.reduceBEq, Nat.reduceAdd, eq_self, true_and, and_true, and_self, List.getElem?_cons_zero, List.getElem?_cons_succ, Nat.reduceLeDiff, Nat.zero_add, Nat.reduceSub, Nat.le_refl, hw64, regC, zeroR]
      try trivial
  · have hi : ¬ i < S.length := by simpa [regsV_length] using hc
    rw [List.drop_of_length_le (by omega)] at g3
    simp -implicitDefEqProofs only [go_sem, Nat.reduceBEq, Nat.reduceAdd, eq_self, true_and, and_true, and_self, List.getElem?_cons_zero, List.getElem?_cons_succ, Nat.reduceLeDiff, Nat.zero_add, Nat.reduceSub, Nat.le_refl, regC, zeroR]
    refine z2 _ _ _ ?_
    simp -implicitDefEqProofs only [go_sem, Nat.reduceBEq, Nat.reduceAdd, eq_self, true_and, and_true, and_self, List.getElem?_cons_zero, List.getElem?_cons_succ, Nat.reduceLeDiff, Nat.zero_add, Nat.reduceSub, Nat.le_refl, Nat.lt_irrefl]
    refine q3 _ zeroR false rfl rfl rfl ?_ ?_
    · unfold getR; rw [g3]; rfl
    · rw [g3]; rfl

set_option maxRecDepth 100000 in
set_option maxHeartbeats 3200000 in
theorem attrs_ok (hv : RdS σ v 7 (regsV S)) (hS : S.length ≤ 100000) :
    CallA Try.prog 25 [v, .agg [.int .i64 r.nc, .int .i64 r.nr]] σ fun w σ' => Ext σ σ' ∧ RdS σ' w 2 (attsV (attrs r S)) := by
  obtain ⟨b, R, z, rfl, -, -⟩ := id hv
  refine fn_at Try.func25 (by decide) comp25 rfl fun Q q1 q2 => ?_
  clear q1
  simp -implicitDefEqProofs only [go_sem, Nat.reduceBEq, Nat.reduceAdd, eq_self, true_and, and_true, and_self, List.getElem?_cons_zero, List.getElem?_cons_succ, Nat.reduceLeDiff, Nat.zero_add, Nat.reduceSub, Nat.le_refl, c25]
  refine loop_at (fun (x : Nat × Nat) => ⟨[(0, .v (.sl b R z (regsV S))), (3, .loc 3 0), (5, .v (.sl false (.own x.2) 2 (attsV (attrs r (S.take x.1))))), (6, .v (.int .i64 x.1))], [(3, [.int .i64 r.nc, .int .i64 r.nr])]⟩)
    (fun x τ => x.1 ≤ S.length ∧ Ext σ τ ∧ τ.live[x.2]? = some true ∧ σ.live.length ≤ x.2) (fun x => S.length - x.1) (0, σ.live.length) ?_ ?_ ?_
  · refine .inr ?_
    simp -implicitDefEqProofs only [go_sem, Nat.reduceBEq, Nat.reduceAdd, eq_self, true_and, and_true, and_self, List.getElem?_cons_zero, List.getElem?_cons_succ, Nat.reduceLeDiff, Nat.zero_add, Nat.reduceSub, Nat.le_refl, attrs, attsV, List.take_zero, List.filter_nil, List.map_nil]
    try trivial
  · exact ⟨Nat.zero_le _, ext_live σ true, live_last _ _, Nat.le_refl _⟩
  rintro ⟨i, q⟩ τ ⟨g1, g2, g3, g4⟩ Z z1 z2 z3
  simp only at g1 g3 g4
  have hSl := regsV_length S
  simp -implicitDefEqProofs only [go_sem, Nat.reduceBEq, Nat.reduceAdd, eq_self, true_and, and_true, and_self, List.getElem?_cons_zero, List.getElem?_cons_succ, Nat.reduceLeDiff, Nat.zero_add, Nat.reduceSub, Nat.le_refl, Nat.lt_irrefl]
  refine CondW_b (fun hc => ?_) (fun hc => ?_)
  · have hi : i < S.length := by simpa [regsV_length] using hc
    obtain ⟨k1, k2⟩ := rdl (hv.ext g2) (by cases S <;> simp [regsV] at hi ⊢)
    have hget := regsV_get hi
    have hib : (i : Int) < (regsV S).length := by omega
    have hal := attrs_len r (S.take i)
    have hal2 : (attrs r (S.take i)).length ≤ 100000 := by rw [List.length_take] at hal; omega
    have htk : S.take (i + 1) = S.take i ++ [S[i]] := List.take_succ_eq_append_getElem hi
    generalize S[i] = x at hget htk
    have hst := attrs_snoc r x (S.take i)
    rw [← htk] at hst
    have hw64 : IntKind.i64.wrap ((i : Int) + 1) = ((i + 1 : Nat) : Int) := by rw [i64_in _ (by omega)]; omega
    have hon : onN r x = ((decide (x.nc = r.nc) && decide (x.nr = r.nr)) && (!decide (x.name = []) && !x.gone)) := rfl
    have hx5 := ext_live τ true
    have k5 := (rdl ((hv.ext g2).ext hx5) (by cases S <;> simp [regsV] at hi ⊢)).1
    simp -implicitDefEqProofs only [go_sem, Nat.reduceBEq, Nat.reduceAdd, eq_self, true_and, and_true, and_self, List.getElem?_cons_zero, List.getElem?_cons_succ, Nat.reduceLeDiff, Nat.zero_add, Nat.reduceSub, Nat.le_refl, Nat.lt_irrefl]
    refine cut_dup ?_
    cases h1 : (decide (x.nc = r.nc) && decide (x.nr = r.nr)) <;> rw [h1] at hon
    case' true => cases h2 : decide (x.name = []) <;> rw [h2] at hon
    case' true.false => cases h3 : x.gone <;> rw [h3] at hon
    case true.false.false =>
      rw [hon] at hst
      simp -implicitDefEqProofs only [go_sem, Nat.reduceBEq, Nat.reduceAdd, eq_self, true_and, and_true, and_self, List.getElem?_cons_zero, List.getElem?_cons_succ, Nat.reduceLeDiff, Nat.zero_add, Nat.reduceSub, Nat.le_refl, hget, regC, V.eqs, V.eq, Bool.and_true, h1, h2, h3, Bool.not_false]
      repeat refine ⟨⟨by omega, hib, k2⟩, k1, ?_⟩
      refine ⟨⟨.inr trivial, .inr (hx5.live _ g3), ⟨.inr (live_last _ _), .inl trivial⟩, by rw [attsV_len]; omega⟩, ?_⟩
      refine z1 (i + 1, (τ.live ++ [true]).length) _ _ (.inr ?_) (by simp only; omega) ⟨by simp only; omega, ext_kill (g2.trans hx5) g4, live_last' _ _ _, by have := g2.llen; simp only [List.length_append, List.length_singleton]; omega⟩
      simp only [Bool.not_false, Bool.and_self, cond_true] at hst
      simp -implicitDefEqProofs only [go_sem, Nat.reduceBEq, Nat.reduceAdd, eq_self, true_and, and_true, and_self, List.getElem?_cons_zero, List.getElem?_cons_succ, Nat.reduceLeDiff, Nat.zero_add, Nat.reduceSub, Nat.le_refl, hw64, hst, attsV, attC, List.map_append, List.map_cons, List.map_nil]
      try trivial
    all_goals
      have hon' : onN r x = false := by rw [hon]; rfl
      rw [hon'] at hst
      simp only [cond_false] at hst
      first
        | simp -implicitDefEqProofs only [go_sem, Nat.reduceBEq, Nat.reduceAdd, eq_self, true_and, and_true, and_self, List.getElem?_cons_zero, List.getElem?_cons_succ, Nat.reduceLeDiff, Nat.zero_add, Nat.reduceSub, Nat.le_refl, hget, regC, V.eqs, V.eq, Bool.and_true, h1, h2, h3, Bool.not_true, Bool.not_false]
        | simp -implicitDefEqProofs only [go_sem, Nat.reduceBEq, Nat.reduceAdd, eq_self, true_and, and_true, and_self, List.getElem?_cons_zero, List.getElem?_cons_succ, Nat.reduceLeDiff, Nat.zero_add, Nat.reduceSub, Nat.le_refl, hget, regC, V.eqs, V.eq, Bool.and_true, h1, h2, Bool.not_true, Bool.not_false]
        | simp -implicitDefEqProofs only [go_sem, Nat.reduceBEq, Nat.reduceAdd, eq_self, true_and, and_true, and_self, List.getElem?_cons_zero, List.getElem?_cons_succ, Nat.reduceLeDiff, Nat.zero_add, Nat.reduceSub, Nat.le_refl, hget, regC, V.eqs, V.eq, Bool.and_true, h1, Bool.not_true, Bool.not_false]
      repeat refine ⟨⟨by omega, hib, k2⟩, k1, ?_⟩
      refine z1 (i + 1, q) _ _ (.inr ?_) (by simp only; omega) ⟨by simp only; omega, g2, g3, g4⟩
      simp -implicitDefEqProofs only [go_sem, Nat.reduceBEq, Nat.reduceAdd, eq_self, true_and, and_true, and_self, List.getElem?_cons_zero, List.getElem?_cons_succ, Nat.reduceLeDiff, Nat.zero_add, Nat.reduceSub, Nat.le_refl, hw64, hst]
      try trivial
  · have hi : ¬ i < S.length := by simpa [regsV_length] using hc
    simp -implicitDefEqProofs only [go_sem, Nat.reduceBEq, Nat.reduceAdd, eq_self, true_and, and_true, and_self, List.getElem?_cons_zero, List.getElem?_cons_succ, Nat.reduceLeDiff, Nat.zero_add, Nat.reduceSub, Nat.le_refl, Nat.lt_irrefl]
    refine z2 _ _ _ ?_
    simp -implicitDefEqProofs only [go_sem, Nat.reduceBEq, Nat.reduceAdd, eq_self, true_and, and_true, and_self, List.getElem?_cons_zero, List.getElem?_cons_succ, Nat.reduceLeDiff, Nat.zero_add, Nat.reduceSub, Nat.le_refl, Nat.lt_irrefl]
    refine q2 _ _ ?_
    simp -implicitDefEqProofs only [go_sem, Nat.reduceBEq, Nat.reduceAdd, eq_self, true_and, and_true, and_self, List.getElem?_cons_zero, List.getElem?_cons_succ, Nat.reduceLeDiff, Nat.zero_add, Nat.reduceSub, Nat.le_refl, Nat.lt_irrefl]
    rw [List.take_of_length_le (by omega)]
    exact ⟨g2, ⟨false, .own q, 2, rfl, by simp, .inr ⟨g3, rfl⟩⟩⟩
end
end Go.VL.lww

namespace Go.VL.lww
open Go Go.VL Go.Proofs Go.IntWalk

theorem setC_ne {τ : St} {i j : Nat} {cs : List V} (h : j ≠ i) : (τ.setC i cs).objs[j]? = τ.objs[j]? := setA_ne (o := .cells cs) h
theorem kill_keep {l : List Bool} {n q : Nat} (hq : n ≤ q) {p : Nat} (hp : p < n) {b c : Bool} (h : l[p]? = some true) : ((l ++ [b]).set q false ++ [c])[p]? = some true := by
  have h1 := (List.getElem?_eq_some_iff.1 h).1
  rw [List.getElem?_append_left (by simp; omega), List.getElem?_set_ne (by omega), List.getElem?_append_left h1]
  exact h
section
variable {σ : St} {i m j y : Nat} {r : Rg} {L T S : List Rg}
set_option maxRecDepth 100000 in
set_option maxHeartbeats 4000000 in
theorem each_ok (hx : IsRegs σ i m T) (hH : Has L T) (hT : T.length ≤ 100000) (hS : Canon L S) :
    CallA Try.prog 26 [.ptr (some (i, 0)), .agg [.int .i64 r.nc, .int .i64 r.nr]] σ fun v σ' => Ext σ σ' ∧ ∃ j w, v = .fn 41 [.ptr (some (j, 0))] ∧ σ.objs.length ≤ j ∧ σ'.objs[j]? = some (.cells [w]) ∧ RdS σ' w 2 (attsV (attrs r S)) := by
  have hil : i < σ.objs.length := by obtain ⟨_, h1, _⟩ := hx; exact (List.getElem?_eq_some_iff.1 h1).1
  have hml : m < σ.objs.length := by obtain ⟨_, _, h1⟩ := hx; exact (List.getElem?_eq_some_iff.1 h1).1
  refine fn_at Try.func26 (by decide) comp26 rfl fun Q q1 q2 => ?_
  clear q1
  simp -implicitDefEqProofs only [go_sem, Nat.reduceBEq, Nat.reduceAdd, eq_self, true_and, and_true, and_self, List.getElem?_cons_zero, List.getElem?_cons_succ, Nat.reduceLeDiff, Nat.zero_add, Nat.reduceSub, Nat.le_refl, c26]
  refine call_at (regs_ok (.inr ⟨_, rfl⟩)) ?_
  rintro v τ ⟨rfl, rfl⟩
  refine ⟨kept_none, ?_⟩
  have e0 : Ext σ ⟨σ.objs ++ [.cells [.int .i64 r.nc, .int .i64 r.nr]] ++ [.cells [.sl true .pub 0 []]] ++ [.cells [.ptr (some (i, 0))]], σ.live⟩ := ((ext_obj σ _).trans (ext_obj _ _)).trans (ext_obj _ _)
  have hp0 : (σ.objs ++ [.cells [.int .i64 r.nc, .int .i64 r.nr]] ++ [.cells [.sl true .pub 0 []]] ++ [.cells [.ptr (some (i, 0))]])[σ.objs.length]? = some (.cells [.int .i64 r.nc, .int .i64 r.nr]) := by
    rw [List.getElem?_append_left (by simp), List.getElem?_append_left (by simp)]; simp
  have hp1 : (σ.objs ++ [.cells [.int .i64 r.nc, .int .i64 r.nr]] ++ [.cells [.sl true .pub 0 []]] ++ [.cells [.ptr (some (i, 0))]])[σ.objs.length + 1]? = some (.cells [.sl true .pub 0 []]) := by
    rw [List.getElem?_append_left (by simp)]; simp
  have hp2 : (σ.objs ++ [.cells [.int .i64 r.nc, .int .i64 r.nr]] ++ [.cells [.sl true .pub 0 []]] ++ [.cells [.ptr (some (i, 0))]])[σ.objs.length + 2]? = some (.cells [.ptr (some (i, 0))]) := by
    simp
  have hl1 : (σ.objs ++ [AObj.cells [.int .i64 r.nc, .int .i64 r.nr]]).length = σ.objs.length + 1 := by simp
  have hl2 : (σ.objs ++ [AObj.cells [.int .i64 r.nc, .int .i64 r.nr]] ++ [AObj.cells [.sl true .pub 0 []]]).length = σ.objs.length + 2 := by simp
  simp only [hl1, hl2]
  generalize hτ : (St.mk (σ.objs ++ [.cells [.int .i64 r.nc, .int .i64 r.nr]] ++ [.cells [.sl true .pub 0 []]] ++ [.cells [.ptr (some (i, 0))]]) σ.live) = τ at e0 ⊢
  have hp0 : τ.objs[σ.objs.length]? = some (.cells [.int .i64 r.nc, .int .i64 r.nr]) := by rw [← hτ]; exact hp0
  have hp1 : τ.objs[σ.objs.length + 1]? = some (.cells [.sl true .pub 0 []]) := by rw [← hτ]; exact hp1
  have hp2 : τ.objs[σ.objs.length + 2]? = some (.cells [.ptr (some (i, 0))]) := by rw [← hτ]; exact hp2
  have hτl : τ.objs.length = σ.objs.length + 3 := by rw [← hτ]; simp
  clear hτ hl1 hl2
  simp -implicitDefEqProofs only [go_sem, Nat.reduceBEq, Nat.reduceAdd, eq_self, true_and, and_true, and_self, List.getElem?_cons_zero, List.getElem?_cons_succ, Nat.reduceLeDiff, Nat.zero_add, Nat.reduceSub, Nat.le_refl, Nat.lt_irrefl]
  refine range_at ?_
  intro yl i0 r0 r1 r2 r3 hi hyy
  have e1 := ext_obj τ r0
  have hi0 : i0 = σ.objs.length + 3 := by omega
  have hr0 : (⟨τ.objs ++ [r0], τ.live⟩ : St).objs[i0]? = some r0 := by rw [← hi]; exact alH_get
  refine CallA.mono (regs1_ok (L := L) (T := T) (i := i) (m := m)
    (fun σ1 R t => ∃ D w, S = D ++ R ∧ AccA σ1.live.length t w (attrs r D) ∧ S.length ≤ 100000 ∧ Ext σ t ∧ σ.live.length ≤ σ1.live.length ∧ σ1.live.length ≤ t.live.length ∧ t.objs[σ.objs.length]? = some (.cells [.int .i64 r.nc, .int .i64 r.nr]) ∧ t.objs[σ.objs.length + 1]? = some (.cells [w]) ∧ t.objs[i0]? = some r0 ∧ (∀ q : Nat, σ1.live[q]? = some true → t.live[q]? = some true))
    (fun t => t.objs[i0]? = some r0 ∧ Ext σ t ∧ ∃ w, t.objs[σ.objs.length + 1]? = some (.cells [w]) ∧ RdS t w 2 (attsV (attrs r S)))
    (hx.ext (e0.trans e1)) hH (by omega) (e1.objs _ _ hp2) ?_ ?_ ?_ ?_) ?_
  · rintro S' σ1 s1 s2 s3
    have e : S' = S := s1.uniq hS
    refine ⟨[], .sl true .pub 0 [], by rw [e]; rfl, .inl ⟨rfl, rfl⟩, by rw [← e]; omega, (e0.trans e1).trans s3, ((e0.trans e1).trans s3).llen, Nat.le_refl _, s3.objs _ _ (e1.objs _ _ hp0), s3.objs _ _ (e1.objs _ _ hp1), s3.objs _ _ hr0, fun _ h => h⟩
  · rintro σ1 R t ⟨D, w, -, -, -, -, -, -, -, -, -, h⟩
    exact h
  · rintro σ1 x R t ⟨D, w, s1, s2, s3, s4, s5, s6, s7, s8, s9, s10⟩
    refine hyy t _ _ s9 rfl fun Y0 y0 => ?_
    simp -implicitDefEqProofs only [go_sem, Nat.reduceBEq, Nat.reduceAdd, eq_self, true_and, and_true, and_self, List.getElem?_cons_zero, List.getElem?_cons_succ, Nat.reduceLeDiff, Nat.zero_add, Nat.reduceSub, Nat.le_refl, rndF, setPs, dropL, regV, regC]
    refine y0 _ _ s9 fun Y y1 y2 y3 => ?_
    clear y0 Y0
    have b4 := ext_setA s4 (i := i0) (o := r1) (by omega)
    have b7 : (t.setA i0 r1).objs[σ.objs.length]? = _ := (setA_ne (by omega)).trans s7
    have b8 : (t.setA i0 r1).objs[σ.objs.length + 1]? = _ := (setA_ne (by omega)).trans s8
    have b9 : (t.setA i0 r1).objs[i0]? = some r1 := setA_at s9
    have b10 : ∀ q : Nat, σ1.live[q]? = some true → (t.setA i0 r1).live[q]? = some true := s10
    have b6 : σ1.live.length ≤ (t.setA i0 r1).live.length := s6
    have b2 : AccA σ1.live.length (t.setA i0 r1) w (attrs r D) := s2
    generalize t.setA i0 r1 = t2 at b2 b4 b6 b7 b8 b9 b10 ⊢
    clear s2 s4 s6 s7 s8 s9 s10 hyy
    have hst := attrs_snoc r x D
    have hDl : D.length ≤ 100000 := by have := congrArg List.length s1; simp only [List.length_append] at this; omega
    have hal := attrs_len r D
    have hon : onN r x = ((decide (x.nc = r.nc) && decide (x.nr = r.nr)) && (!decide (x.name = []) && !x.gone)) := rfl
    have s1' : S = (D ++ [x]) ++ R := by rw [s1]; simp
    -- nothing is added
    have no : ∀ F, onN r x = false → Y .normal F t2 := by
      intro F hno
      rw [hno, cond_false] at hst
      exact y1 F t2 b9 ⟨rfl, D ++ [x], w, s1', by rw [hst]; exact b2, s3, ext_setA b4 (by omega), s5, b6, (setA_ne (by omega)).trans b7, (setA_ne (by omega)).trans b8, setA_at b9, b10⟩
    cases h1 : (decide (x.nc = r.nc) && decide (x.nr = r.nr)) <;> rw [h1] at hon
    case' true => cases h2 : decide (x.name = []) <;> rw [h2] at hon
    case' true.false => cases h3 : x.gone <;> rw [h3] at hon
    case true.false.false =>
      have hy1 : onN r x = true := by rw [hon]; rfl
      rw [hy1, cond_true] at hst
      rcases b2 with ⟨hd, rfl⟩ | ⟨q, rfl, hq, hn⟩
      · have hap : attsV (attrs r (D ++ [x])) = [[.str x.name, .str x.val]] := by rw [hst, hd]; rfl
        simp -implicitDefEqProofs only [go_sem, Nat.reduceBEq, Nat.reduceAdd, eq_self, true_and, and_true, and_self, List.getElem?_cons_zero, List.getElem?_cons_succ, Nat.reduceLeDiff, Nat.zero_add, Nat.reduceSub, Nat.le_refl, b7, b8, V.eqs, V.eq, Bool.and_true, h1, h2, h3, Bool.not_false]
        refine ⟨⟨.inl trivial, rfl, .inr (live_last _ _), .inl trivial⟩, ?_⟩
        have ex1 : Ext σ ⟨t2.objs, (t2.live ++ [true]) ++ [true]⟩ := ext_push (ext_push b4)
        have hl2 : ((t2.live ++ [true]) ++ [true])[t2.live.length + 1]? = some true := by simp
        refine y1 _ _ ?_ ⟨rfl, D ++ [x], .sl false (.own (t2.live.length + 1)) 2 (attsV (attrs r (D ++ [x]))), s1', .inr ⟨_, rfl, hl2, by omega⟩, s3, ext_setA (ext_set ex1 (by omega)) (by omega), s5, ?_, ?_, ?_, ?_, ?_⟩
        · rw [setC_ne (by omega)]; exact b9
        · show _ ≤ (((t2.live ++ [true]) ++ [true]).length); simp only [List.length_append, List.length_singleton]; omega
        · rw [setA_ne (by omega), setC_ne (by omega)]; exact b7
        · rw [setA_ne (by omega), setC_get (by show _ < t2.objs.length; exact (List.getElem?_eq_some_iff.1 b8).1), hap]
          simp
        · exact setA_at (o' := r1) (by rw [setC_ne (by omega)]; exact b9)
        · intro q h
          show ((t2.live ++ [true]) ++ [true])[q]? = some true
          have h0 := b10 q h
          have h1 := (List.getElem?_eq_some_iff.1 h0).1
          rw [List.getElem?_append_left (by simp; omega), List.getElem?_append_left h1]; exact h0
      · have hap : attsV (attrs r (D ++ [x])) = attsV (attrs r D) ++ [[.str x.name, .str x.val]] := by rw [hst]; simp [attsV, attC]
        simp -implicitDefEqProofs only [go_sem, Nat.reduceBEq, Nat.reduceAdd, eq_self, true_and, and_true, and_self, List.getElem?_cons_zero, List.getElem?_cons_succ, Nat.reduceLeDiff, Nat.zero_add, Nat.reduceSub, Nat.le_refl, b7, b8, V.eqs, V.eq, Bool.and_true, h1, h2, h3, Bool.not_false]
        refine ⟨⟨.inr trivial, .inr ((ext_live _ _).live _ hq), ⟨.inr (live_last _ _), .inl trivial⟩, by rw [attsV_len]; omega⟩, ?_⟩
        have ex1 := ext_kill (ext_push b4 (b := true)) (r := q) (b := true) (by omega)
        have hl2 := live_last' (t2.live ++ [true]) q true
        refine y1 _ _ ?_ ⟨rfl, D ++ [x], .sl false (.own (t2.live ++ [true]).length) 2 (attsV (attrs r (D ++ [x]))), s1', .inr ⟨_, rfl, hl2, by simp only [List.length_append, List.length_singleton]; omega⟩, s3, ext_setA (ext_set ex1 (by omega)) (by omega), s5, ?_, ?_, ?_, ?_, ?_⟩
        · rw [setC_ne (by omega)]; exact b9
        · show _ ≤ ((kill (t2.live ++ [true]) (.own q) ++ [true]).length)
          simp only [kill, List.length_append, List.length_singleton, List.length_set]; omega
        · rw [setA_ne (by omega), setC_ne (by omega)]; exact b7
        · rw [setA_ne (by omega), setC_get (by show _ < t2.objs.length; exact (List.getElem?_eq_some_iff.1 b8).1), hap]
        · exact setA_at (o' := r1) (by rw [setC_ne (by omega)]; exact b9)
        · intro p h
          exact kill_keep hn (List.getElem?_eq_some_iff.1 h).1 (b10 p h)
    all_goals
      first
        | simp -implicitDefEqProofs only [go_sem, Nat.reduceBEq, Nat.reduceAdd, eq_self, true_and, and_true, and_self, List.getElem?_cons_zero, List.getElem?_cons_succ, Nat.reduceLeDiff, Nat.zero_add, Nat.reduceSub, Nat.le_refl, b7, b8, V.eqs, V.eq, Bool.and_true, h1, h2, h3, Bool.not_true, Bool.not_false]
        | simp -implicitDefEqProofs only [go_sem, Nat.reduceBEq, Nat.reduceAdd, eq_self, true_and, and_true, and_self, List.getElem?_cons_zero, List.getElem?_cons_succ, Nat.reduceLeDiff, Nat.zero_add, Nat.reduceSub, Nat.le_refl, b7, b8, V.eqs, V.eq, Bool.and_true, h1, h2, Bool.not_true, Bool.not_false]
        | simp -implicitDefEqProofs only [go_sem, Nat.reduceBEq, Nat.reduceAdd, eq_self, true_and, and_true, and_self, List.getElem?_cons_zero, List.getElem?_cons_succ, Nat.reduceLeDiff, Nat.zero_add, Nat.reduceSub, Nat.le_refl, b7, b8, V.eqs, V.eq, Bool.and_true, h1, Bool.not_true, Bool.not_false]
      exact no _ (by rw [hon]; rfl)
  · rintro σ1 t ⟨D, w, s1, s2, s3, s4, s5, s6, s7, s8, s9, s10⟩
    rw [List.append_nil] at s1
    subst s1
    exact ⟨s9, s4, w, s8, s2.rd⟩
  · rintro v t ⟨h1, h2, w, h3, h4⟩
    refine .inl ⟨h1, ?_⟩
    simp -implicitDefEqProofs only [go_sem, Nat.reduceBEq, Nat.reduceAdd, eq_self, true_and, and_true, and_self, List.getElem?_cons_zero, List.getElem?_cons_succ, Nat.reduceLeDiff, Nat.zero_add, Nat.reduceSub, Nat.le_refl, Nat.lt_irrefl]
    refine q2 _ _ ?_
    simp -implicitDefEqProofs only [go_sem, Nat.reduceBEq, Nat.reduceAdd, eq_self, true_and, and_true, and_self, List.getElem?_cons_zero, List.getElem?_cons_succ, Nat.reduceLeDiff, Nat.zero_add, Nat.reduceSub, Nat.le_refl, Nat.lt_irrefl]
    exact ⟨ext_setA h2 (by omega), _, w, rfl, by omega, (setA_ne (by omega)).trans h3, h4⟩

set_option maxRecDepth 100000 in
set_option maxHeartbeats 1000000 in
theorem each1_ok {W : List (List UInt8 × List UInt8)} {w : V} (J : List (List UInt8 × List UInt8) → St → Prop) (K : St → Prop) (hj : σ.objs[j]? = some (.cells [w])) (hw : RdS σ w 2 (attsV W)) (hW : W.length ≤ 100000)
    (hst : J W σ) (hJ : ∀ R τ, J R τ → ∀ q : Nat, σ.live[q]? = some true → τ.live[q]? = some true)
    (hY : ∀ a R τ, J (a :: R) τ → YldA Try.prog y [.agg (attC a)] τ fun v τ2 => v = .bool true ∧ J R τ2 ∨ v = .bool false ∧ K τ2) (h0 : ∀ τ, J [] τ → K τ) :
    CallA Try.prog 41 [yv y, .ptr (some (j, 0))] σ fun _ σ' => K σ' := by
  obtain ⟨b, R, z, rfl, -, -⟩ := id hw
  refine fn_at Try.func41 (by decide) comp41 rfl fun Q q1 q2 => ?_
  simp -implicitDefEqProofs only [go_sem, Nat.reduceBEq, Nat.reduceAdd, eq_self, true_and, and_true, and_self, List.getElem?_cons_zero, List.getElem?_cons_succ, Nat.reduceLeDiff, Nat.zero_add, Nat.reduceSub, Nat.le_refl, c41, hj]
  refine loop_at (fun (k : Nat) => ⟨[(0, .v (yv y)), (5, .v (.sl b R z (attsV W))), (6, .v (.int .i64 (attsV W).length)), (7, .v (.int .i64 k))], []⟩)
    (fun k τ => k ≤ W.length ∧ J (W.drop k) τ) (fun k => W.length - k) 0 ?_ ?_ ?_
  · refine .inr ?_
    simp -implicitDefEqProofs only [go_sem, Nat.reduceBEq, Nat.reduceAdd, eq_self, true_and, and_true, and_self, List.getElem?_cons_zero, List.getElem?_cons_succ, Nat.reduceLeDiff, Nat.zero_add, Nat.reduceSub, Nat.le_refl, Nat.lt_irrefl]
    try trivial
  · exact ⟨Nat.zero_le _, hst⟩
  rintro k τ ⟨g1, g2⟩ Z z1 z2 z3
  have hWl := attsV_len W
  simp -implicitDefEqProofs only [go_sem, Nat.reduceBEq, Nat.reduceAdd, eq_self, true_and, and_true, and_self, List.getElem?_cons_zero, List.getElem?_cons_succ, Nat.reduceLeDiff, Nat.zero_add, Nat.reduceSub, Nat.le_refl, Nat.lt_irrefl]
  refine CondW_b (fun hc => ?_) (fun hc => ?_)
  · have hk : k < W.length := by simpa [attsV_len] using hc
    obtain ⟨k1, k2⟩ := rdl (rdS_lv hw (hJ _ _ g2)) (by cases W <;> simp [attsV] at hk ⊢)
    have hget := attsV_get hk
    have hib : (k : Int) < (attsV W).length := by omega
    rw [List.drop_eq_getElem_cons hk] at g2
    generalize W[k] = a at hget g2
    simp -implicitDefEqProofs only [go_sem, Nat.reduceBEq, Nat.reduceAdd, eq_self, true_and, and_true, and_self, List.getElem?_cons_zero, List.getElem?_cons_succ, Nat.reduceLeDiff, Nat.zero_add, Nat.reduceSub, Nat.le_refl, hget, attC]
    refine ⟨⟨by omega, hib, k2⟩, k1, ?_⟩
    refine yld_at (hY a _ τ g2) ?_
    rintro v τ3 (⟨rfl, c1⟩ | ⟨rfl, c1⟩)
    · refine ⟨kept_none, ?_⟩
      simp -implicitDefEqProofs only [go_sem, Nat.reduceBEq, Nat.reduceAdd, eq_self, true_and, and_true, and_self, List.getElem?_cons_zero, List.getElem?_cons_succ, Nat.reduceLeDiff, Nat.zero_add, Nat.reduceSub, Nat.le_refl, Bool.not_true]
      refine z1 (k + 1) _ _ (.inr ?_) (by omega) ⟨by omega, c1⟩
      simp -implicitDefEqProofs only [go_sem, Nat.reduceBEq, Nat.reduceAdd, eq_self, true_and, and_true, and_self, List.getElem?_cons_zero, List.getElem?_cons_succ, Nat.reduceLeDiff, Nat.zero_add, Nat.reduceSub, Nat.le_refl, Nat.lt_irrefl]
      rw [i64_in _ (by omega)]; simp
    · refine ⟨kept_none, ?_⟩
      simp -implicitDefEqProofs only [go_sem, Nat.reduceBEq, Nat.reduceAdd, eq_self, true_and, and_true, and_self, List.getElem?_cons_zero, List.getElem?_cons_succ, Nat.reduceLeDiff, Nat.zero_add, Nat.reduceSub, Nat.le_refl, Bool.not_false]
      refine z3 _ _ ?_
      simp -implicitDefEqProofs only [go_sem, Nat.reduceBEq, Nat.reduceAdd, eq_self, true_and, and_true, and_self, List.getElem?_cons_zero, List.getElem?_cons_succ, Nat.reduceLeDiff, Nat.zero_add, Nat.reduceSub, Nat.le_refl, Nat.lt_irrefl]
      refine q2 _ _ ?_
      simp -implicitDefEqProofs only [go_sem, Nat.reduceBEq, Nat.reduceAdd, eq_self, true_and, and_true, and_self, List.getElem?_cons_zero, List.getElem?_cons_succ, Nat.reduceLeDiff, Nat.zero_add, Nat.reduceSub, Nat.le_refl, Nat.lt_irrefl]
      exact c1
  · have hk : ¬ k < W.length := by simpa [attsV_len] using hc
    rw [List.drop_of_length_le (by omega)] at g2
    simp -implicitDefEqProofs only [go_sem, Nat.reduceBEq, Nat.reduceAdd, eq_self, true_and, and_true, and_self, List.getElem?_cons_zero, List.getElem?_cons_succ, Nat.reduceLeDiff, Nat.zero_add, Nat.reduceSub, Nat.le_refl, Nat.lt_irrefl]
    refine z2 _ _ _ ?_
    simp -implicitDefEqProofs only [go_sem, Nat.reduceBEq, Nat.reduceAdd, eq_self, true_and, and_true, and_self, List.getElem?_cons_zero, List.getElem?_cons_succ, Nat.reduceLeDiff, Nat.zero_add, Nat.reduceSub, Nat.le_refl, Nat.lt_irrefl]
    refine q1 _ _ ?_
    simp -implicitDefEqProofs only [go_sem, Nat.reduceBEq, Nat.reduceAdd, eq_self, true_and, and_true, and_self, List.getElem?_cons_zero, List.getElem?_cons_succ, Nat.reduceLeDiff, Nat.zero_add, Nat.reduceSub, Nat.le_refl, Nat.lt_irrefl]
    exact h0 _ g2
end
theorem att_self (a : List UInt8 × List UInt8) : V.eqs (attC a) (attC a) = true := by simp [V.eqs, V.eq, attC]
theorem cells_ne {τ : St} {a b : Nat} {cs : List V} {k : List LK} {es : List (V × V)} {n : Nat} (h : τ.objs[a]? = some (.cells cs)) (h' : τ.objs[b]? = some (.mp k es n)) : a ≠ b := by
  intro e; rw [e, h'] at h; cases h
section
variable {σ : St} {l : List Rg} {r : Rg} {v : V} {stop : Int}
set_option maxRecDepth 100000 in
set_option maxHeartbeats 6400000 in
theorem asks_ok (hv : RdS σ v 7 (regsV l)) (hlen : ∀ r ∈ l, r.name.length < 4611686018427387904) (hl : l.length ≤ 268435456) (hr : r.name.length < 4611686018427387904) (hstop : -9223372036854775808 ≤ stop ∧ stop < 9223372036854775808) :
    CallA Try.prog 8 [v, regV r, .int .i64 stop] σ fun x _ => x = .bool true := by
  refine fn_at Try.func8 (by decide) comp8 rfl fun Q q1 q2 => ?_
  clear q1
  simp -implicitDefEqProofs only [go_sem, Nat.reduceBEq, Nat.reduceAdd, eq_self, true_and, and_true, and_self, List.getElem?_cons_zero, List.getElem?_cons_succ, Nat.reduceLeDiff, Nat.zero_add, Nat.reduceSub, Nat.le_refl, c8, regV, regC]
  have e0 : Ext σ ⟨σ.objs ++ [.cells [.int .i64 stop]] ++ [.cells [.bool false]], σ.live⟩ := (ext_obj σ _).trans (ext_obj _ _)
  have hs5 : (σ.objs ++ [.cells [.int .i64 stop]] ++ [.cells [.bool false]])[σ.objs.length]? = some (.cells [.int .i64 stop]) := by
    rw [List.getElem?_append_left (by simp)]; simp
  have hs6 : (σ.objs ++ [.cells [.int .i64 stop]] ++ [.cells [.bool false]])[σ.objs.length + 1]? = some (.cells [.bool false]) := by simp
  have hl1 : (σ.objs ++ [AObj.cells [.int .i64 stop]]).length = σ.objs.length + 1 := by simp
  simp only [hl1]
  generalize hτ : (St.mk (σ.objs ++ [.cells [.int .i64 stop]] ++ [.cells [.bool false]]) σ.live) = τ at e0 ⊢
  replace hs5 : τ.objs[σ.objs.length]? = some (.cells [.int .i64 stop]) := by rw [← hτ]; exact hs5
  replace hs6 : τ.objs[σ.objs.length + 1]? = some (.cells [.bool false]) := by rw [← hτ]; exact hs6
  clear hτ hl1
  generalize σ.objs.length = o5 at hs5 hs6 ⊢
  generalize o5 + 1 = o6 at hs6 ⊢
  refine call_at (laid_ok (hv.ext e0) hlen hl) ?_
  rintro _ τ1 ⟨ix, m, w, rfl, hx, hw, e1, -⟩
  refine ⟨kept_none, ?_⟩
  obtain ⟨hH, hC, hle⟩ := has_puts _ (l.take 200) rfl
  have hn1 := rputs_length (l.take 200)
  have hn2 : (l.take 200).length ≤ 200 := by rw [List.length_take]; omega
  generalize puts (l.take 200) = T at hx hH hle
  generalize rputs (l.take 200) = S at hw hC hn1
  generalize l.take 200 = L at hH hC hle hn1 hn2
  replace hs5 := e1.objs _ _ hs5
  replace hs6 := e1.objs _ _ hs6
  clear e0 e1 hv hlen hl
  have hfe := find_eq hH.lst hH.kd hC.lst hC.srt.kd r
  have hge : getR T r = getR S r := by unfold getR; rw [hfe]
  simp -implicitDefEqProofs only [go_sem, Nat.reduceBEq, Nat.reduceAdd, eq_self, true_and, and_true, and_self, List.getElem?_cons_zero, List.getElem?_cons_succ, Nat.reduceLeDiff, Nat.zero_add, Nat.reduceSub, Nat.le_refl, Nat.lt_irrefl]
  have hg := get_ok (r := r) hx
  simp only [stV] at hg
  rw [hge, hfe] at hg
  refine call_at hg ?_
  rintro _ τ2 ⟨rfl, e2, -⟩
  refine ⟨kept_none, ?_⟩
  simp -implicitDefEqProofs only [go_sem, Nat.reduceBEq, Nat.reduceAdd, eq_self, true_and, and_true, and_self, List.getElem?_cons_zero, List.getElem?_cons_succ, Nat.reduceLeDiff, Nat.zero_add, Nat.reduceSub, Nat.le_refl, regV, regC]
  refine call_at (rget_ok (r := r) (hw.ext e2) (by omega)) ?_
  rintro _ τ ⟨rfl, rfl⟩
  refine ⟨kept_none, ?_⟩
  have hvl := value_ok (r := r) (hx.ext e2)
  simp only [stV] at hvl
  rw [hge] at hvl
  have h7 := same7_self (getR S r)
  simp only [same7, regC] at h7
  generalize (S.find? (sameK r)).isSome = fnd
  generalize getR S r = g at hvl h7
  have hff : (fnd == fnd) = true := by cases fnd <;> rfl
  have hgg : decide (g.val = g.val) = true := by simp
  simp -implicitDefEqProofs only [go_sem, Nat.reduceBEq, Nat.reduceAdd, eq_self, true_and, and_true, and_self, List.getElem?_cons_zero, List.getElem?_cons_succ, Nat.reduceLeDiff, Nat.zero_add, Nat.reduceSub, Nat.le_refl, regV, regC, h7, hff, Bool.not_true]
  refine call_at hvl ?_
  rintro _ τ3 ⟨rfl, e3, -⟩
  refine ⟨e3.kept, ?_⟩
  replace hs5 := e3.objs _ _ (e2.objs _ _ hs5)
  replace hs6 := e3.objs _ _ (e2.objs _ _ hs6)
  replace hx := (hx.ext e2).ext e3
  replace hw := (hw.ext e2).ext e3
  clear e2 e3 hg hvl
  simp -implicitDefEqProofs only [go_sem, Nat.reduceBEq, Nat.reduceAdd, eq_self, true_and, and_true, and_self, List.getElem?_cons_zero, List.getElem?_cons_succ, Nat.reduceLeDiff, Nat.zero_add, Nat.reduceSub, Nat.le_refl, hgg, Bool.not_true]
  refine call_at (attrs_ok (r := r) hw (by omega)) ?_
  rintro ww τ4 ⟨e4, hww⟩
  obtain ⟨b, R, z, rfl, -, -⟩ := id hww
  refine ⟨kept_none, ?_⟩
  replace hs5 := e4.objs _ _ hs5
  replace hs6 := e4.objs _ _ hs6
  replace hx := hx.ext e4
  clear hw e4 hge hfe h7 hff hgg
  have hWl : (attrs r S).length ≤ 100000 := by have := attrs_len r S; omega
  simp -implicitDefEqProofs only [go_sem, Nat.reduceBEq, Nat.reduceAdd, eq_self, true_and, and_true, and_self, List.getElem?_cons_zero, List.getElem?_cons_succ, Nat.reduceLeDiff, Nat.zero_add, Nat.reduceSub, Nat.le_refl, alH_get]
  have e5 := ext_cell (σ := τ4) (.cells [.sl true .pub 0 []]) [.sl b R z (attsV (attrs r S))]
  have hs13 : ((St.mk (τ4.objs ++ [.cells [.sl true .pub 0 []]]) τ4.live).setC τ4.objs.length [.sl b R z (attsV (attrs r S))]).objs[τ4.objs.length]? = some (.cells [.sl b R z (attsV (attrs r S))]) := setC_get (by simp)
  generalize (St.mk (τ4.objs ++ [.cells [.sl true .pub 0 []]]) τ4.live).setC τ4.objs.length [.sl b R z (attsV (attrs r S))] = τ5 at e5 hs13 ⊢
  generalize τ4.objs.length = o13 at hs13 ⊢
  replace hs5 := e5.objs _ _ hs5
  replace hs6 := e5.objs _ _ hs6
  replace hx := hx.ext e5
  replace hww := hww.ext e5
  clear e5
  refine call_at (each_ok (r := r) hx hH (by omega) hC) ?_
  rintro _ τ6 ⟨e6, j, wl, rfl, -, hsj, hwl⟩
  refine ⟨kept_none, ?_⟩
  replace hs5 := e6.objs _ _ hs5
  replace hs6 := e6.objs _ _ hs6
  replace hs13 := e6.objs _ _ hs13
  replace hx := hx.ext e6
  replace hww := hww.ext e6
  clear e6
  simp -implicitDefEqProofs only [go_sem, Nat.reduceBEq, Nat.reduceAdd, eq_self, true_and, and_true, and_self, List.getElem?_cons_zero, List.getElem?_cons_succ, Nat.reduceLeDiff, Nat.zero_add, Nat.reduceSub, Nat.le_refl, Nat.lt_irrefl]
  have hzz : regV ⟨r.nc, r.nr, [122, 122], 1099511627776, 0, [], false⟩ = .agg [.int .i64 r.nc, .int .i64 r.nr, .str [122, 122], .int .i64 1099511627776, .int .i64 0, .str [], .bool false] := rfl
  refine call_at (hzz ▸ putU_ok (r := ⟨r.nc, r.nr, [122, 122], 1099511627776, 0, [], false⟩) hx (by simp)) ?_
  rintro _ τ7 ⟨rfl, -, -, u7⟩
  refine ⟨kept_none, ?_⟩
  obtain ⟨_, hi1, hm1⟩ := hx
  replace hs5 := u7.objs _ _ (cells_ne hs5 hm1) hs5
  replace hs6 := u7.objs _ _ (cells_ne hs6 hm1) hs6
  replace hs13 := u7.objs _ _ (cells_ne hs13 hm1) hs13
  replace hsj := u7.objs _ _ (cells_ne hsj hm1) hsj
  replace hww := rdS_lv hww u7.live
  replace hwl := rdS_lv hwl u7.live
  clear u7 hi1 hm1 hC hH hle hn1 hn2
  generalize attrs r S = W at hww hwl hWl hs13
  have hWV := attsV_len W
  -- the first rounds
  simp -implicitDefEqProofs only [go_sem, Nat.reduceBEq, Nat.reduceAdd, eq_self, true_and, and_true, and_self, List.getElem?_cons_zero, List.getElem?_cons_succ, Nat.reduceLeDiff, Nat.zero_add, Nat.reduceSub, Nat.le_refl, alH_get]
  have e8 := ext_cell (σ := τ7) (.cells [.int .i64 0]) [.int .i64 0]
  have hs15 : ((St.mk (τ7.objs ++ [.cells [.int .i64 0]]) τ7.live).setC τ7.objs.length [.int .i64 0]).objs[τ7.objs.length]? = some (.cells [.int .i64 0]) := setC_get (by simp)
  have hlv8 : ((St.mk (τ7.objs ++ [.cells [.int .i64 0]]) τ7.live).setC τ7.objs.length [.int .i64 0]).live = τ7.live := rfl
  have hol : ((St.mk (τ7.objs ++ [.cells [.int .i64 0]]) τ7.live).setC τ7.objs.length [.int .i64 0]).objs.length = τ7.objs.length + 1 := by
    show ((τ7.objs ++ [_]).set _ _).length = _
    simp
  generalize (St.mk (τ7.objs ++ [.cells [.int .i64 0]]) τ7.live).setC τ7.objs.length [.int .i64 0] = τ8 at e8 hs15 hol hlv8 ⊢
  have ho5 := (List.getElem?_eq_some_iff.1 hs5).1
  have ho6 := (List.getElem?_eq_some_iff.1 hs6).1
  have ho13 := (List.getElem?_eq_some_iff.1 hs13).1
  have hoj := (List.getElem?_eq_some_iff.1 hsj).1
  refine cut_at (fun G t => G = ⟨[(5, .v (.ptr (some (o5, 0)))), (6, .v (.ptr (some (o6, 0)))), (13, .v (.ptr (some (o13, 0)))), (14, .v (.fn 41 [.ptr (some (j, 0))])), (15, .v (.ptr (some (τ7.objs.length, 0))))], []⟩ ∧ Ext τ7 t ∧
    ∃ n : Nat, n ≤ W.length ∧ t.objs[τ7.objs.length]? = some (.cells [.int .i64 n]) ∧ (n = W.length ∨ (n : Int) = stop)) ?_ ?_
  · intro Z z1 z2 z3
    simp -implicitDefEqProofs only [go_sem, Nat.reduceBEq, Nat.reduceAdd, eq_self, true_and, and_true, and_self, List.getElem?_cons_zero, List.getElem?_cons_succ, Nat.reduceLeDiff, Nat.zero_add, Nat.reduceSub, Nat.le_refl, Nat.lt_irrefl]
    refine range_at ?_
    intro yl i0 r0 r1 r2 r3 hi hyy
    have e9 := ext_obj τ8 r0
    have hr0 : (⟨τ8.objs ++ [r0], τ8.live⟩ : St).objs[i0]? = some r0 := by rw [← hi]; exact alH_get
    refine CallA.mono (each1_ok (j := j) (W := W) (w := wl)
      (fun R' t => ∃ n : Nat, n ≤ W.length ∧ R' = W.drop n ∧ Ext τ7 t ∧ t.objs[τ7.objs.length]? = some (.cells [.int .i64 n]) ∧ t.objs[i0]? = some r0)
      (fun t => Ext τ7 t ∧ (t.objs[i0]? = some r0 ∧ t.objs[τ7.objs.length]? = some (.cells [.int .i64 W.length]) ∨ t.objs[i0]? = some (r2 (.exit 0)) ∧ ∃ n : Nat, n ≤ W.length ∧ t.objs[τ7.objs.length]? = some (.cells [.int .i64 n]) ∧ (n : Int) = stop))
      (e9.objs _ _ (e8.objs _ _ hsj)) ((hwl.ext e8).ext e9) hWl ⟨0, Nat.zero_le _, rfl, e8.trans e9, e9.objs _ _ hs15, hr0⟩ ?_ ?_ ?_) ?_
    · rintro R' t ⟨n, -, -, h, -⟩ q hq
      exact h.live q (by rw [← hlv8]; exact hq)
    · rintro a R' t ⟨n, s1, s2, s3, s4, s5⟩
      refine hyy t _ _ s5 rfl fun Y0 y0 => ?_
      simp -implicitDefEqProofs only [go_sem, Nat.reduceBEq, Nat.reduceAdd, eq_self, true_and, and_true, and_self, List.getElem?_cons_zero, List.getElem?_cons_succ, Nat.reduceLeDiff, Nat.zero_add, Nat.reduceSub, Nat.le_refl, rndF, setPs, dropL, attC]
      refine y0 _ _ s5 fun Y y1 y2 y3 => ?_
      clear y0 Y0
      have hnl : n < W.length := by
        have := congrArg List.length s2
        simp only [List.length_cons, List.length_drop] at this; omega
      rw [List.drop_eq_getElem_cons hnl] at s2
      obtain ⟨ea, eR⟩ := List.cons.inj s2
      have hget := attsV_get hnl
      rw [← ea] at hget
      have b3 := ext_setA s3 (i := i0) (o := r1) (by omega)
      have b4 : (t.setA i0 r1).objs[τ7.objs.length]? = _ := (setA_ne (by omega)).trans s4
      have b5 : (t.setA i0 r1).objs[i0]? = some r1 := setA_at s5
      generalize t.setA i0 r1 = t2 at b3 b4 b5 ⊢
      clear s2 s3 s4 s5 hyy
      have c5 := b3.objs _ _ hs5
      have c6 := b3.objs _ _ hs6
      have c13 := b3.objs _ _ hs13
      obtain ⟨k1, k2⟩ := rdl (hww.ext b3) (by cases W <;> simp [attsV] at hnl ⊢)
      have hib : (n : Int) < (attsV W).length := by omega
      have hge : decide (((attsV W).length : Int) ≤ n) = false := by simp; omega
      have hge2 : decide ((n : Int) ≥ (attsV W).length) = false := by simp; omega
      have hw64 : IntKind.i64.wrap ((n : Int) + 1) = ((n + 1 : Nat) : Int) := by rw [i64_in _ (by omega)]; omega
      have hself := att_self a
      simp only [attC] at hself hget
      cases hcn : decide ((n : Int) = stop)
      · simp -implicitDefEqProofs only [go_sem, Nat.reduceBEq, Nat.reduceAdd, eq_self, true_and, and_true, and_self, List.getElem?_cons_zero, List.getElem?_cons_succ, Nat.reduceLeDiff, Nat.zero_add, Nat.reduceSub, Nat.le_refl, b4, c5, c13, hcn, hge, hge2, hget, hself, Bool.not_true]
        refine ⟨⟨by omega, hib, k2⟩, k1, ?_⟩
        simp -implicitDefEqProofs only [go_sem, Nat.reduceBEq, Nat.reduceAdd, eq_self, true_and, and_true, and_self, List.getElem?_cons_zero, List.getElem?_cons_succ, Nat.reduceLeDiff, Nat.zero_add, Nat.reduceSub, Nat.le_refl, b4, hw64]
        refine y1 _ _ ?_ (.inl ⟨rfl, n + 1, by omega, eR, ext_setA (ext_set b3 (Nat.le_refl _)) (by omega), ?_, setA_at (o' := r1) (by rw [setC_ne (by omega)]; exact b5)⟩)
        · rw [setC_ne (by omega)]; exact b5
        · rw [setA_ne (by omega), setC_get (List.getElem?_eq_some_iff.1 b4).1]
      · simp -implicitDefEqProofs only [go_sem, Nat.reduceBEq, Nat.reduceAdd, eq_self, true_and, and_true, and_self, List.getElem?_cons_zero, List.getElem?_cons_succ, Nat.reduceLeDiff, Nat.zero_add, Nat.reduceSub, Nat.le_refl, b4, c5, hcn]
        exact y2 0 _ _ b5 (.inr ⟨rfl, ext_setA b3 (by omega), .inr ⟨setA_at b5, n, s1, (setA_ne (by omega)).trans b4, of_decide_eq_true hcn⟩⟩)
    · rintro t ⟨n, s1, s2, s3, s4, s5⟩
      have : n = W.length := by
        have := congrArg List.length s2
        simp only [List.length_nil, List.length_drop] at this; omega
      subst this
      exact ⟨s3, .inl ⟨s5, s4⟩⟩
    · rintro _ t ⟨h1, ⟨h2, h3⟩ | ⟨h2, n, h3, h4, h5⟩⟩
      · refine .inl ⟨h2, ?_⟩
        simp -implicitDefEqProofs only [go_sem, Nat.reduceBEq, Nat.reduceAdd, eq_self, true_and, and_true, and_self, List.getElem?_cons_zero, List.getElem?_cons_succ, Nat.reduceLeDiff, Nat.zero_add, Nat.reduceSub, Nat.le_refl, Nat.lt_irrefl]
        refine z1 _ _ _ (.inr ?_) ⟨rfl, ext_setA h1 (by omega), W.length, Nat.le_refl _, (setA_ne (by omega)).trans h3, .inl rfl⟩
        simp -implicitDefEqProofs only [go_sem, Nat.reduceBEq, Nat.reduceAdd, eq_self, true_and, and_true, and_self, List.getElem?_cons_zero, List.getElem?_cons_succ, Nat.reduceLeDiff, Nat.zero_add, Nat.reduceSub, Nat.le_refl, Nat.lt_irrefl]
        try trivial
      · refine .inr ⟨.exit 0, by simp, h2, ?_⟩
        simp -implicitDefEqProofs only [go_sem, Nat.reduceBEq, Nat.reduceAdd, eq_self, true_and, and_true, and_self, List.getElem?_cons_zero, List.getElem?_cons_succ, Nat.reduceLeDiff, Nat.zero_add, Nat.reduceSub, Nat.le_refl, Nat.lt_irrefl]
        refine z1 _ _ _ (.inr ?_) ⟨rfl, ext_setA h1 (by omega), n, h3, (setA_ne (by omega)).trans h4, .inr h5⟩
        simp -implicitDefEqProofs only [go_sem, Nat.reduceBEq, Nat.reduceAdd, eq_self, true_and, and_true, and_self, List.getElem?_cons_zero, List.getElem?_cons_succ, Nat.reduceLeDiff, Nat.zero_add, Nat.reduceSub, Nat.le_refl, Nat.lt_irrefl]
        try trivial
  rintro G τ9 ⟨rfl, e9, n1, hn, hs15', hd⟩
  have g5 := e9.objs _ _ hs5
  have g6 := e9.objs _ _ hs6
  have g13 := e9.objs _ _ hs13
  have gj := e9.objs _ _ hsj
  have gww := hww.ext e9
  have gwl := hwl.ext e9
  have ho15 := (List.getElem?_eq_some_iff.1 hs15').1
  have hn0 := e9.olen
  generalize τ7.objs.length = o15 at hs15' ho15 hn0 ⊢
  clear hs5 hs6 hs13 hsj hww hwl e8 hs15 hol hlv8 e9
  replace hs5 := g5
  replace hs6 := g6
  replace hs13 := g13
  replace hsj := gj
  replace hww := gww
  replace hwl := gwl
  clear g5 g6 g13 gj gww gwl
  simp -implicitDefEqProofs only [go_sem, Nat.reduceBEq, Nat.reduceAdd, eq_self, true_and, and_true, and_self, List.getElem?_cons_zero, List.getElem?_cons_succ, Nat.reduceLeDiff, Nat.zero_add, Nat.reduceSub, Nat.le_refl, alH_get]
  have e8 := ext_cell (σ := τ9) (.cells [.int .i64 0]) [.int .i64 0]
  have hs17 : ((St.mk (τ9.objs ++ [.cells [.int .i64 0]]) τ9.live).setC τ9.objs.length [.int .i64 0]).objs[τ9.objs.length]? = some (.cells [.int .i64 0]) := setC_get (by simp)
  have hlv8 : ((St.mk (τ9.objs ++ [.cells [.int .i64 0]]) τ9.live).setC τ9.objs.length [.int .i64 0]).live = τ9.live := rfl
  have hol : ((St.mk (τ9.objs ++ [.cells [.int .i64 0]]) τ9.live).setC τ9.objs.length [.int .i64 0]).objs.length = τ9.objs.length + 1 := by
    show ((τ9.objs ++ [_]).set _ _).length = _
    simp
  generalize (St.mk (τ9.objs ++ [.cells [.int .i64 0]]) τ9.live).setC τ9.objs.length [.int .i64 0] = τ8 at e8 hs17 hol hlv8 ⊢
  refine range_at ?_
  intro yl i0 r0 r1 r2 r3 hi hyy
  have e9 := ext_obj τ8 r0
  have hr0 : (⟨τ8.objs ++ [r0], τ8.live⟩ : St).objs[i0]? = some r0 := by rw [← hi]; exact alH_get
  refine CallA.mono (each1_ok (j := j) (W := W) (w := wl)
    (fun R' t => ∃ n : Nat, n ≤ W.length ∧ R' = W.drop n ∧ Ext τ9 t ∧ t.objs[τ9.objs.length]? = some (.cells [.int .i64 n]) ∧ t.objs[i0]? = some r0)
    (fun t => Ext τ9 t ∧ t.objs[i0]? = some r0 ∧ t.objs[τ9.objs.length]? = some (.cells [.int .i64 W.length]))
    (e9.objs _ _ (e8.objs _ _ hsj)) ((hwl.ext e8).ext e9) hWl ⟨0, Nat.zero_le _, rfl, e8.trans e9, e9.objs _ _ hs17, hr0⟩ ?_ ?_ ?_) ?_
  · rintro R' t ⟨n, -, -, h, -⟩ q hq
    exact h.live q (by rw [← hlv8]; exact hq)
  · rintro a R' t ⟨n, s1, s2, s3, s4, s5⟩
    refine hyy t _ _ s5 rfl fun Y0 y0 => ?_
    simp -implicitDefEqProofs only [go_sem, Nat.reduceBEq, Nat.reduceAdd, eq_self, true_and, and_true, and_self, List.getElem?_cons_zero, List.getElem?_cons_succ, Nat.reduceLeDiff, Nat.zero_add, Nat.reduceSub, Nat.le_refl, rndF, setPs, dropL, attC]
    refine y0 _ _ s5 fun Y y1 y2 y3 => ?_
    clear y0 Y0
    have hnl : n < W.length := by
      have := congrArg List.length s2
      simp only [List.length_cons, List.length_drop] at this; omega
    rw [List.drop_eq_getElem_cons hnl] at s2
    obtain ⟨ea, eR⟩ := List.cons.inj s2
    have hget := attsV_get hnl
    rw [← ea] at hget
    have b3 := ext_setA s3 (i := i0) (o := r1) (by omega)
    have b4 : (t.setA i0 r1).objs[τ9.objs.length]? = _ := (setA_ne (by omega)).trans s4
    have b5 : (t.setA i0 r1).objs[i0]? = some r1 := setA_at s5
    generalize t.setA i0 r1 = t2 at b3 b4 b5 ⊢
    clear s2 s3 s4 s5 hyy
    have c5 := b3.objs _ _ hs5
    have c6 := b3.objs _ _ hs6
    have c13 := b3.objs _ _ hs13
    obtain ⟨k1, k2⟩ := rdl (hww.ext b3) (by cases W <;> simp [attsV] at hnl ⊢)
    have hib : (n : Int) < (attsV W).length := by omega
    have hge : decide (((attsV W).length : Int) ≤ n) = false := by simp; omega
    have hge2 : decide ((n : Int) ≥ (attsV W).length) = false := by simp; omega
    have hw64 : IntKind.i64.wrap ((n : Int) + 1) = ((n + 1 : Nat) : Int) := by rw [i64_in _ (by omega)]; omega
    have hself := att_self a
    simp only [attC] at hself hget
    simp -implicitDefEqProofs only [go_sem, Nat.reduceBEq, Nat.reduceAdd, eq_self, true_and, and_true, and_self, List.getElem?_cons_zero, List.getElem?_cons_succ, Nat.reduceLeDiff, Nat.zero_add, Nat.reduceSub, Nat.le_refl, b4, c5, c13, hge, hge2, hget, hself, Bool.not_true]
    refine ⟨⟨by omega, hib, k2⟩, k1, ?_⟩
    simp -implicitDefEqProofs only [go_sem, Nat.reduceBEq, Nat.reduceAdd, eq_self, true_and, and_true, and_self, List.getElem?_cons_zero, List.getElem?_cons_succ, Nat.reduceLeDiff, Nat.zero_add, Nat.reduceSub, Nat.le_refl, b4, hw64]
    refine y1 _ _ ?_ (.inl ⟨rfl, n + 1, by omega, eR, ext_setA (ext_set b3 (Nat.le_refl _)) (by omega), ?_, setA_at (o' := r1) (by rw [setC_ne (by omega)]; exact b5)⟩)
    · rw [setC_ne (by omega)]; exact b5
    · rw [setA_ne (by omega), setC_get (List.getElem?_eq_some_iff.1 b4).1]
  · rintro t ⟨n, s1, s2, s3, s4, s5⟩
    have : n = W.length := by
      have := congrArg List.length s2
      simp only [List.length_nil, List.length_drop] at this; omega
    subst this
    exact ⟨s3, s5, s4⟩
  · rintro _ t ⟨h1, h2, h3⟩
    refine .inl ⟨h2, ?_⟩
    have f1 := ext_setA h1 (i := i0) (o := r3 .normal) (by omega)
    have f3 : (t.setA i0 (r3 .normal)).objs[τ9.objs.length]? = _ := (setA_ne (by omega)).trans h3
    generalize t.setA i0 (r3 .normal) = t2 at f1 f3 ⊢
    have c5 := f1.objs _ _ hs5
    have c6 := f1.objs _ _ hs6
    have c13 := f1.objs _ _ hs13
    have c15 := f1.objs _ _ hs15'
    have hle : decide ((W.length : Int) = (attsV W).length) = true := by simp [hWV]
    have fin : ∀ (F : Fr) (t3 : St), sget 6 F.s = .v (.ptr (some (o6, 0))) → t3.objs[o6]? = some (.cells [.bool true]) → Q .ret F t3 := by
      intro F t3 k1 k2
      refine q2 _ _ ?_
      have hs : ∀ x, sget 0 (sset 0 x F.s) = x := fun x => by simp [sget_sset]
      simp -implicitDefEqProofs only [go_sem, Nat.reduceBEq, Nat.reduceAdd, eq_self, true_and, and_true, and_self, List.getElem?_cons_zero, List.getElem?_cons_succ, Nat.reduceLeDiff, Nat.zero_add, Nat.reduceSub, Nat.le_refl, k1, k2, hs]
    cases hn1 : decide ((n1 : Int) = (attsV W).length)
    · have hst : decide ((n1 : Int) = stop) = true := by
        rcases hd with hd | hd
        · simp [hWV, hd] at hn1
        · simp [hd]
      simp -implicitDefEqProofs only [go_sem, Nat.reduceBEq, Nat.reduceAdd, eq_self, true_and, and_true, and_self, List.getElem?_cons_zero, List.getElem?_cons_succ, Nat.reduceLeDiff, Nat.zero_add, Nat.reduceSub, Nat.le_refl, f3, c13, c15, c5, hle, hn1, hst]
      refine call_at awake_ok ?_
      rintro _ t3 ⟨rfl, e3⟩
      refine ⟨kept_none, ?_⟩
      have d6 := e3.objs _ _ c6
      simp -implicitDefEqProofs only [go_sem, Nat.reduceBEq, Nat.reduceAdd, eq_self, true_and, and_true, and_self, List.getElem?_cons_zero, List.getElem?_cons_succ, Nat.reduceLeDiff, Nat.zero_add, Nat.reduceSub, Nat.le_refl, d6]
      exact fin _ _ rfl (setC_get (List.getElem?_eq_some_iff.1 d6).1)
    · simp -implicitDefEqProofs only [go_sem, Nat.reduceBEq, Nat.reduceAdd, eq_self, true_and, and_true, and_self, List.getElem?_cons_zero, List.getElem?_cons_succ, Nat.reduceLeDiff, Nat.zero_add, Nat.reduceSub, Nat.le_refl, f3, c13, c15, c5, hle, hn1]
      refine call_at awake_ok ?_
      rintro _ t3 ⟨rfl, e3⟩
      refine ⟨kept_none, ?_⟩
      have d6 := e3.objs _ _ c6
      simp -implicitDefEqProofs only [go_sem, Nat.reduceBEq, Nat.reduceAdd, eq_self, true_and, and_true, and_self, List.getElem?_cons_zero, List.getElem?_cons_succ, Nat.reduceLeDiff, Nat.zero_add, Nat.reduceSub, Nat.le_refl, d6]
      exact fin _ _ rfl (setC_get (List.getElem?_eq_some_iff.1 d6).1)
end
end Go.VL.lww

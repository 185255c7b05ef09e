import Derived.Test.YtcojigpknididaaB3
set_option linter.unusedVariables false
set_option linter.unusedSimpArgs false
namespace Go.VL.opl
open Go Go.VL Go.Proofs Go.IntWalk Go.VL.st Go.VL.row

theorem u64w (n : Int) : IntKind.u64.wrap n = n % 18446744073709551616 := by simp [IntKind.wrap, IntKind.bits, IntKind.signed]
theorem idx_9 (o : Int) : ∃ i : Nat, i < 9 ∧ IntKind.i64.wrap ((IntKind.u64.wrap o).tmod 9) = i := by
  rw [u64w]
  obtain ⟨a, ha⟩ := Int.eq_ofNat_of_zero_le (Int.emod_nonneg o (b := 18446744073709551616) (by decide))
  have h2 : (a : Int).tmod 9 = ((a % 9 : Nat) : Int) := by
    rw [Int.tmod_eq_emod_of_nonneg (by omega)]; omega
  rw [ha, h2]
  have := Nat.mod_lt a (show 0 < 9 by decide)
  exact ⟨a % 9, this, by rw [i64_in _ (by omega)]⟩
def boolsV (bs : List Bool) : List (List V) := bs.map fun b => [V.bool b]
theorem boolsV_len (bs : List Bool) : (boolsV bs).length = bs.length := by simp [boolsV]
theorem boolsV_get {bs : List Bool} {i : Nat} (h : i < bs.length) : (boolsV bs)[((i : Nat) : Int).toNat]?.getD [] = [V.bool bs[i]] := by simp [boolsV, h]
theorem boolsV_ne {bs : List Bool} {i : Nat} (h : i < bs.length) : boolsV bs ≠ [] := by
  intro e
  have := congrArg List.length e
  rw [boolsV_len, List.length_nil] at this
  omega
section
variable {σ τ : St} {ia ma ib mb : Nat} {sa sa' sb : V} {ova ova' ovb : List V} {Pa Pb : List (V × Cg)} {room : Int}
theorem two_step (ha : LogIs σ ia (some ma) sa ova room Pa) (hb : LogIs σ ib (some mb) sb ovb room Pb) (dj : ∀ j, Own ia (some ma) sa ova j → ¬ Own ib (some mb) sb ovb j) (kt : LTo σ τ ia (some ma) sa sa' ova ova') :
    LogIs τ ib (some mb) sb ovb room Pb ∧ ∀ j, Own ia (some ma) sa' ova' j → ¬ Own ib (some mb) sb ovb j := by
  refine ⟨hb.up kt.upd fun j hj ha' => dj j ha' hj, fun j hj hbj => ?_⟩
  rcases kt.own j hj with h | h
  · exact dj j h hbj
  · have := hb.mid.own_lt hbj
    omega
end
section
variable {σ : St} {v wv : V} {gs : List Cg} {bs : List Bool} {most : Int}
set_option maxRecDepth 100000 in
set_option maxHeartbeats 16000000 in
theorem union_law (hv : ArgC v gs) (hw : ∀ σ, RdS σ wv 1 (boolsV bs)) : CallA Try.prog 9 [.agg [v, wv], .int .i64 most] σ fun w _ => w = .bool true := by
  obtain ⟨⟨l, rfl, hva, hds⟩, hgl, hgb⟩ := hv
  obtain ⟨b, R, z, rfl, -, -⟩ := hva σ
  obtain ⟨wb, wR, wz, rfl, -, -⟩ := hw σ
  rw [List.length_map] at hgl
  refine fn_at Try.func9 (by decide) comp9 rfl fun Q q1 q2 => ?_
  have hcl := cgsV_len l
  have hbl := boolsV_len bs
  have h00 : decide ((0 : Int) = 0) = true := by decide
  simp -implicitDefEqProofs only [go_sem, Nat.reduceBEq, Nat.reduceAdd, eq_self, true_and, and_true, and_self, List.getElem?_cons_zero, List.getElem?_cons_succ, Nat.reduceLeDiff, Nat.zero_add, Nat.reduceSub, Nat.le_refl, c9]
  refine call_at (new_ok (room := 4096) rfl) ?_
  rintro w τ1 ⟨rfl, ha0, e1⟩
  refine ⟨kept_none, ?_⟩
  simp -implicitDefEqProofs only [go_sem, Nat.reduceBEq, Nat.reduceAdd, eq_self, true_and, and_true, and_self, List.getElem?_cons_zero, List.getElem?_cons_succ, Nat.reduceLeDiff, Nat.zero_add, Nat.reduceSub, Nat.le_refl, Nat.lt_irrefl]
  refine call_at (new_ok (room := 4096) rfl) ?_
  rintro w τ2 ⟨rfl, hb0, e2⟩
  refine ⟨kept_none, ?_⟩
  have ha2 := ha0.ext e2
  have hdj0 : ∀ j, Own (σ.objs.length + 1) (some σ.objs.length) (.sl true .pub 0 []) nilO j → ¬ Own (τ1.objs.length + 1) (some τ1.objs.length) (.sl true .pub 0 []) nilO j := fun j h1 h2 => by
    have := ha0.mid.own_lt h1
    rcases own_new h2 with rfl | h2
    · omega
    · cases h2; omega
  clear ha0
  simp -implicitDefEqProofs only [go_sem, Nat.reduceBEq, Nat.reduceAdd, eq_self, true_and, and_true, and_self, List.getElem?_cons_zero, List.getElem?_cons_succ, Nat.reduceLeDiff, Nat.zero_add, Nat.reduceSub, Nat.le_refl, h00, Bool.not_true, hcl]
  cases h5 : decide ((l.length : Int) > 500)
  case true =>
    simp -implicitDefEqProofs only [go_sem, Nat.reduceBEq, Nat.reduceAdd, eq_self, true_and, and_true, and_self, List.getElem?_cons_zero, List.getElem?_cons_succ, Nat.reduceLeDiff, Nat.zero_add, Nat.reduceSub, Nat.le_refl, h5]
    refine call_at awake_ok ?_
    rintro w τ5 ⟨rfl, -⟩
    refine ⟨kept_none, ?_⟩
    simp -implicitDefEqProofs only [go_sem, Nat.reduceBEq, Nat.reduceAdd, eq_self, true_and, and_true, and_self, List.getElem?_cons_zero, List.getElem?_cons_succ, Nat.reduceLeDiff, Nat.zero_add, Nat.reduceSub, Nat.le_refl, Nat.lt_irrefl]
    refine q2 _ _ ?_
    simp -implicitDefEqProofs only [go_sem, Nat.reduceBEq, Nat.reduceAdd, eq_self, true_and, and_true, and_self, List.getElem?_cons_zero, List.getElem?_cons_succ, Nat.reduceLeDiff, Nat.zero_add, Nat.reduceSub, Nat.le_refl, Nat.lt_irrefl]
  have hl5 : l.length ≤ 500 := by have := of_decide_eq_false h5; omega
  simp -implicitDefEqProofs only [go_sem, Nat.reduceBEq, Nat.reduceAdd, eq_self, true_and, and_true, and_self, List.getElem?_cons_zero, List.getElem?_cons_succ, Nat.reduceLeDiff, Nat.zero_add, Nat.reduceSub, Nat.le_refl, h5, flats, V.flat]
  generalize σ.objs.length + 1 = ia at *
  generalize σ.objs.length = ma at *
  generalize τ1.objs.length + 1 = ib at *
  generalize τ1.objs.length = mb at *
  refine loop_at (fun (y : Nat × V) => ⟨[(1, .v (.int .i64 most)), (2, .loc 2 0), (5, .v (.ptr (some (ia, 0)))), (7, .v (.ptr (some (ib, 0)))), (9, .loc 9 0), (10, .v (.int .i64 ((y.1 : Nat) : Int)))], [(2, [.sl b R z (cgsV l), .sl wb wR wz (boolsV bs)]), (9, [.int .i64 4096, y.2])]⟩)
    (fun y t => y.1 ≤ l.length ∧ RdC t y.2 (logR ((l.map (·.2)).take y.1) 4096) ∧ ∃ sa ova Pa sb ovb Pb, LogIs t ia (some ma) sa ova 4096 Pa ∧ LogIs t ib (some mb) sb ovb 4096 Pb ∧ (∀ j, Own ia (some ma) sa ova j → ¬ Own ib (some mb) sb ovb j) ∧ SubL (logR ((l.map (·.2)).take y.1) 4096) (cgL Pa) ∧ SubL (logR ((l.map (·.2)).take y.1) 4096) (cgL Pb)) (fun y => l.length - y.1) (0, .sl true .pub 0 []) ?_ ?_ ?_
  · refine .inr ?_
    simp -implicitDefEqProofs only [go_sem, Nat.reduceBEq, Nat.reduceAdd, eq_self, true_and, and_true, and_self, List.getElem?_cons_zero, List.getElem?_cons_succ, Nat.reduceLeDiff, Nat.zero_add, Nat.reduceSub, Nat.le_refl, Nat.lt_irrefl]
    try exact ⟨rfl, rfl⟩
    try exact rfl
  · exact ⟨Nat.zero_le _, ⟨[], rfl, ⟨_, _, _, rfl, fun _ => rfl, .inl rfl⟩, by intro p hp; cases hp⟩, _, _, [], _, _, [], ha2, hb0, hdj0, ⟨good_nil, fun x hx => (by cases hx), fun x hx => by cases hx⟩, ⟨good_nil, fun x hx => (by cases hx), fun x hx => by cases hx⟩⟩
  rintro ⟨y, u⟩ t ⟨g1, g2, sa, ova, Pa, sb, ovb, Pb, ga, gb, gd, gsa, gsb⟩ Z z1 z2 z3
  simp only at g1 g2 gsa gsb
  have hWl : (logR ((l.map (·.2)).take y) 4096).length ≤ 4096 := logR_room _ _
  have hgd := logR_good ((l.map (·.2)).take y) 4096
  have hPal : Pa.length ≤ 4096 := by
    have := (part_of hgd gsa.good gsa.up).len
    rw [map2_len] at this
    omega
  have hPbl : Pb.length ≤ 4096 := by
    have := (part_of hgd gsb.good gsb.up).len
    rw [map2_len] at this
    omega
  simp -implicitDefEqProofs only [go_sem, Nat.reduceBEq, Nat.reduceAdd, eq_self, true_and, and_true, and_self, List.getElem?_cons_zero, List.getElem?_cons_succ, Nat.reduceLeDiff, Nat.zero_add, Nat.reduceSub, Nat.le_refl, hcl]
  cases hc : decide ((y : Int) < l.length)
  case true =>
    have hi : y < l.length := by have := of_decide_eq_true hc; omega
    have hget := cgsV_get hi
    have hwy : IntKind.i64.wrap ((y : Int) + 1) = ((y + 1 : Nat) : Int) := by rw [i64_in _ (by omega)]; omega
    have hdi := hds _ (List.getElem_mem hi)
    have hbi := hgb _ (List.mem_map_of_mem (List.getElem_mem hi))
    have htk : logR ((l.map (·.2)).take (y + 1)) 4096 = addR (logR ((l.map (·.2)).take y) 4096) 4096 l[y].2 := by
      rw [logR_take (by simpa using hi)]; simp
    generalize l[y] = p at hget htk hdi hbi
    obtain ⟨d2, g⟩ := p
    simp only at hget htk hdi hbi
    obtain ⟨db, dr, dz, rfl, -, -⟩ := hdi t
    generalize logR ((l.map (·.2)).take y) 4096 = W at *
    generalize hW' : logR ((l.map (·.2)).take (y + 1)) 4096 = W' at htk
    simp -implicitDefEqProofs only [go_sem, Nat.reduceBEq, Nat.reduceAdd, eq_self, true_and, and_true, and_self, List.getElem?_cons_zero, List.getElem?_cons_succ, Nat.reduceLeDiff, Nat.zero_add, Nat.reduceSub, Nat.le_refl, hc]
    refine cut_at (fun G τ => ∃ u', G = ⟨[(1, .v (.int .i64 most)), (2, .loc 2 0), (5, .v (.ptr (some (ia, 0)))), (7, .v (.ptr (some (ib, 0)))), (9, .loc 9 0), (10, .v (.int .i64 ((y : Nat) : Int)))], [(2, [.sl b R z (cgsV l), .sl wb wR wz (boolsV bs)]), (9, [.int .i64 4096, u'])]⟩ ∧ RdC τ u' W' ∧ ∃ sa ova Pa sb ovb Pb, LogIs τ ia (some ma) sa ova 4096 Pa ∧ LogIs τ ib (some mb) sb ovb 4096 Pb ∧ (∀ j, Own ia (some ma) sa ova j → ¬ Own ib (some mb) sb ovb j) ∧ SubL W' (cgL Pa) ∧ SubL W' (cgL Pb)) ?_ ?_
    case refine_2 =>
      rintro G τ ⟨u', rfl, k1, sa, ova, Pa, sb, ovb, Pb, k2⟩
      simp -implicitDefEqProofs only [go_sem, Nat.reduceBEq, Nat.reduceAdd, eq_self, true_and, and_true, and_self, List.getElem?_cons_zero, List.getElem?_cons_succ, Nat.reduceLeDiff, Nat.zero_add, Nat.reduceSub, Nat.le_refl, hwy]
      refine z1 (y + 1, u') _ _ (.inr ?_) (by simp only; omega) ⟨by simp only; omega, by simp only; rw [hW']; exact k1, sa, ova, Pa, sb, ovb, Pb, by simp only; rw [hW']; exact k2⟩
      simp -implicitDefEqProofs only [go_sem, Nat.reduceBEq, Nat.reduceAdd, eq_self, true_and, and_true, and_self, List.getElem?_cons_zero, List.getElem?_cons_succ, Nat.reduceLeDiff, Nat.zero_add, Nat.reduceSub, Nat.le_refl, Nat.lt_irrefl]
      try exact ⟨rfl, rfl⟩
      try exact rfl
    intro Y y1 y2 y3
    have hWdep : ∀ h ∈ W, h.deps.length ≤ 2000000 := fun h hh => by have := hgd.deps h hh; omega
    have hra := fun τ (e : Ext t τ) => radd_ok (room := 4096) (σ := τ) (d := .sl db dr dz (intsV .i64 g.deps)) (g := g) (g2.ext e) (by omega) (hdi τ) (by omega) hWdep (by omega)
    simp only [cgV, cgC] at hra
    obtain ⟨k1, k2⟩ := rdl (hva t) (cgsV_ne hi)
    obtain ⟨b6, R6, z6, es6, rfl⟩ := g2.isSl
    have hap : ∀ (A : List AObj) x, (A ++ [x])[A.length]? = some x := by simp
    simp -implicitDefEqProofs only [go_sem, Nat.reduceBEq, Nat.reduceAdd, eq_self, true_and, and_true, and_self, List.getElem?_cons_zero, List.getElem?_cons_succ, Nat.reduceLeDiff, Nat.zero_add, Nat.reduceSub, Nat.le_refl, Nat.lt_irrefl]
    refine cut_at (fun G τ => Ext t τ ∧ ∃ j u', τ.objs[j]? = some (.cells [.int .i64 4096, u']) ∧ RdC τ u' W' ∧ G = ⟨[(1, .v (.int .i64 most)), (2, .loc 2 0), (5, .v (.ptr (some (ia, 0)))), (7, .v (.ptr (some (ib, 0)))), (9, .loc 9 0), (10, .v (.int .i64 ((y : Nat) : Int))), (11, .v (.ptr (some (j, 0)))), (12, .v (.int .i64 (whyR W 4096 g)))], [(2, [.sl b R z (cgsV l), .sl wb wR wz (boolsV bs)]), (9, [.int .i64 4096, .sl b6 R6 z6 es6])]⟩) ?_ ?_
    · intro X x1 x2 x3
      have hA1 := hra t (.refl _)
      have hA2 := hra _ (ext_obj t (.cells [.int .i64 0, .sl true .pub 0 []]))
      simp -implicitDefEqProofs only [go_sem, Nat.reduceBEq, Nat.reduceAdd, eq_self, true_and, and_true, and_self, List.getElem?_cons_zero, List.getElem?_cons_succ, Nat.reduceLeDiff, Nat.zero_add, Nat.reduceSub, Nat.le_refl, hget, cgC, hcl]
      refine ⟨⟨⟨by omega, by omega, k2⟩, k1, ?_⟩, ⟨by omega, by omega, k2⟩, k1, ?_⟩
      · refine call_at hA1 ?_
        rintro w τ3 ⟨⟨u2, rfl, hu2⟩, e3, -⟩
        refine ⟨e3.kept, ?_⟩
        obtain ⟨b3, R3, z3', es3, rfl⟩ := hu2.isSl
        have hset : ∀ cs, ((⟨τ3.objs ++ [.cells [.int .i64 0, .sl true .pub 0 []]], τ3.live⟩ : St).setC τ3.objs.length cs).objs[τ3.objs.length]? = some (.cells cs) := fun cs => setC_get (by simp)
        have e4 : ∀ cs, Ext τ3 ((⟨τ3.objs ++ [.cells [.int .i64 0, .sl true .pub 0 []]], τ3.live⟩ : St).setC τ3.objs.length cs) := fun cs => ext_set (ext_obj _ _) (Nat.le_refl _)
        simp -implicitDefEqProofs only [go_sem, Nat.reduceBEq, Nat.reduceAdd, eq_self, true_and, and_true, and_self, List.getElem?_cons_zero, List.getElem?_cons_succ, Nat.reduceLeDiff, Nat.zero_add, Nat.reduceSub, Nat.le_refl, hap, flats, V.flat]
        refine x1 _ _ _ (.inr ?_) ⟨e3.trans (e4 _), τ3.objs.length, _, hset _, by rw [htk]; exact hu2.ext (e4 _), rfl⟩
        simp -implicitDefEqProofs only [go_sem, Nat.reduceBEq, Nat.reduceAdd, eq_self, true_and, and_true, and_self, List.getElem?_cons_zero, List.getElem?_cons_succ, Nat.reduceLeDiff, Nat.zero_add, Nat.reduceSub, Nat.le_refl, Nat.lt_irrefl]
        try exact ⟨rfl, rfl⟩
        try exact rfl
      · refine call_at hA2 ?_
        rintro w τ3 ⟨⟨u2, rfl, hu2⟩, e3, -⟩
        refine ⟨e3.kept, ?_⟩
        obtain ⟨b3, R3, z3', es3, rfl⟩ := hu2.isSl
        have hold := e3.objs _ _ (hap t.objs (.cells [.int .i64 0, .sl true .pub 0 []]))
        have hset : ∀ cs, (τ3.setC t.objs.length cs).objs[t.objs.length]? = some (.cells cs) := fun cs => setC_get (List.getElem?_eq_some_iff.1 hold).1
        have e4 : ∀ cs, Ext t (τ3.setC t.objs.length cs) := fun cs => ext_set ((ext_obj _ _).trans e3) (Nat.le_refl _)
        simp -implicitDefEqProofs only [go_sem, Nat.reduceBEq, Nat.reduceAdd, eq_self, true_and, and_true, and_self, List.getElem?_cons_zero, List.getElem?_cons_succ, Nat.reduceLeDiff, Nat.zero_add, Nat.reduceSub, Nat.le_refl, hold, flats, V.flat]
        refine x1 _ _ _ (.inr ?_) ⟨e4 _, t.objs.length, _, hset _, by rw [htk]; obtain ⟨l', m1, m2, m3⟩ := hu2; exact ⟨l', m1, rdS_lv m2 fun _ h => h, fun p hp => rdS_lv (m3 p hp) fun _ h => h⟩, rfl⟩
        simp -implicitDefEqProofs only [go_sem, Nat.reduceBEq, Nat.reduceAdd, eq_self, true_and, and_true, and_self, List.getElem?_cons_zero, List.getElem?_cons_succ, Nat.reduceLeDiff, Nat.zero_add, Nat.reduceSub, Nat.le_refl, Nat.lt_irrefl]
        try exact ⟨rfl, rfl⟩
        try exact rfl
    rintro G τ3 ⟨e3, j, u', hj, hu', rfl⟩
    obtain ⟨b7, R7, z7, es7, rfl⟩ := hu'.isSl
    have ga3 := ga.ext e3
    have gb3 := gb.ext e3
    clear ga gb g2 hra
    have hWW : ∀ x ∈ W, x ∈ W' := by rw [htk]; exact addR_up
    simp -implicitDefEqProofs only [go_sem, Nat.reduceBEq, Nat.reduceAdd, eq_self, true_and, and_true, and_self, List.getElem?_cons_zero, List.getElem?_cons_succ, Nat.reduceLeDiff, Nat.zero_add, Nat.reduceSub, Nat.le_refl, hj, flats, V.flat]
    cases hw0 : decide (whyR W 4096 g = 0)
    · simp -implicitDefEqProofs only [go_sem, Nat.reduceBEq, Nat.reduceAdd, eq_self, true_and, and_true, and_self, List.getElem?_cons_zero, List.getElem?_cons_succ, Nat.reduceLeDiff, Nat.zero_add, Nat.reduceSub, Nat.le_refl, hw0, Bool.not_false]
      refine y1 _ _ _ (.inr ?_) ⟨_, rfl, hu', sa, ova, Pa, sb, ovb, Pb, ga3, gb3, gd, gsa.grow hWW, gsb.grow hWW⟩
      simp -implicitDefEqProofs only [go_sem, Nat.reduceBEq, Nat.reduceAdd, eq_self, true_and, and_true, and_self, List.getElem?_cons_zero, List.getElem?_cons_succ, Nat.reduceLeDiff, Nat.zero_add, Nat.reduceSub, Nat.le_refl, Nat.lt_irrefl]
      try exact ⟨rfl, rfl⟩
      try exact rfl
    have hgW : g ∈ W' := by rw [htk]; exact addR_new (of_decide_eq_true hw0)
    simp -implicitDefEqProofs only [go_sem, Nat.reduceBEq, Nat.reduceAdd, eq_self, true_and, and_true, and_self, List.getElem?_cons_zero, List.getElem?_cons_succ, Nat.reduceLeDiff, Nat.zero_add, Nat.reduceSub, Nat.le_refl, hw0, Bool.not_true]
    refine cut_at (fun G τ => ∃ sa ova Pa sb ovb Pb, RdC τ (.sl b7 R7 z7 es7) W' ∧ LogIs τ ia (some ma) sa ova 4096 Pa ∧ LogIs τ ib (some mb) sb ovb 4096 Pb ∧ (∀ j, Own ia (some ma) sa ova j → ¬ Own ib (some mb) sb ovb j) ∧ SubL W' (cgL Pa) ∧ SubL W (cgL Pb) ∧ G = ⟨[(1, .v (.int .i64 most)), (2, .loc 2 0), (5, .v (.ptr (some (ia, 0)))), (7, .v (.ptr (some (ib, 0)))), (9, .loc 9 0), (10, .v (.int .i64 ((y : Nat) : Int)))], [(2, [.sl b R z (cgsV l), .sl wb wR wz (boolsV bs)]), (9, [.int .i64 4096, .sl b7 R7 z7 es7])]⟩) ?_ ?_
    · intro X x1 x2 x3
      have hno : X .normal = X .normal := rfl
      have had := add_ok ga3 (by omega) (hdi τ3) (by omega)
      simp only [cgV, cgC] at had
      obtain ⟨k3, k4⟩ := rdl (hva τ3) (cgsV_ne hi)
      cases hyb : decide ((y : Int) ≥ bs.length)
      case true =>
        simp -implicitDefEqProofs only [go_sem, Nat.reduceBEq, Nat.reduceAdd, eq_self, true_and, and_true, and_self, List.getElem?_cons_zero, List.getElem?_cons_succ, Nat.reduceLeDiff, Nat.zero_add, Nat.reduceSub, Nat.le_refl, hbl, hyb, hget, cgC, hcl]
        refine ⟨⟨by omega, by omega, k4⟩, k3, ?_⟩
        refine call_at had ?_
        rintro w τ4 ⟨rfl, s1, ov1, P1, h1, hP1, kt, -⟩
        refine ⟨kept_none, ?_⟩
        obtain ⟨m1, m2⟩ := two_step ga3 gb3 gd kt
        simp -implicitDefEqProofs only [go_sem, Nat.reduceBEq, Nat.reduceAdd, eq_self, true_and, and_true, and_self, List.getElem?_cons_zero, List.getElem?_cons_succ, Nat.reduceLeDiff, Nat.zero_add, Nat.reduceSub, Nat.le_refl, Nat.lt_irrefl]
        refine x1 _ _ _ (.inr ?_) ⟨s1, ov1, P1, sb, ovb, Pb, ?_, h1, m1, m2, by rw [hP1]; exact (gsa.grow hWW).add hgW, gsb, rfl⟩
        · simp -implicitDefEqProofs only [go_sem, Nat.reduceBEq, Nat.reduceAdd, eq_self, true_and, and_true, and_self, List.getElem?_cons_zero, List.getElem?_cons_succ, Nat.reduceLeDiff, Nat.zero_add, Nat.reduceSub, Nat.le_refl, Nat.lt_irrefl]
          try exact ⟨rfl, rfl⟩
          try exact rfl
        · obtain ⟨l', m1, m2, m3⟩ := hu'; exact ⟨l', m1, rdS_up m2 kt.upd, fun p hp => rdS_up (m3 p hp) kt.upd⟩
      case false =>
        have hyi : y < bs.length := by have := of_decide_eq_false hyb; omega
        have hgb' := boolsV_get hyi
        obtain ⟨k5, k6⟩ := rdl (hw τ3) (boolsV_ne hyi)
        cases hbb : bs[y] <;> rw [hbb] at hgb'
        · simp -implicitDefEqProofs only [go_sem, Nat.reduceBEq, Nat.reduceAdd, eq_self, true_and, and_true, and_self, List.getElem?_cons_zero, List.getElem?_cons_succ, Nat.reduceLeDiff, Nat.zero_add, Nat.reduceSub, Nat.le_refl, hbl, hyb, hgb', hget, cgC, hcl]
          refine ⟨⟨by omega, by omega, k6⟩, k5, ?_⟩
          refine x1 _ _ _ (.inr ?_) ⟨sa, ova, Pa, sb, ovb, Pb, hu', ga3, gb3, gd, gsa.grow hWW, gsb, rfl⟩
          simp -implicitDefEqProofs only [go_sem, Nat.reduceBEq, Nat.reduceAdd, eq_self, true_and, and_true, and_self, List.getElem?_cons_zero, List.getElem?_cons_succ, Nat.reduceLeDiff, Nat.zero_add, Nat.reduceSub, Nat.le_refl, Nat.lt_irrefl]
          try exact ⟨rfl, rfl⟩
          try exact rfl
        · simp -implicitDefEqProofs only [go_sem, Nat.reduceBEq, Nat.reduceAdd, eq_self, true_and, and_true, and_self, List.getElem?_cons_zero, List.getElem?_cons_succ, Nat.reduceLeDiff, Nat.zero_add, Nat.reduceSub, Nat.le_refl, hbl, hyb, hgb', hget, cgC, hcl]
          refine ⟨⟨by omega, by omega, k6⟩, k5, ⟨by omega, by omega, k4⟩, k3, ?_⟩
          refine call_at had ?_
          rintro w τ4 ⟨rfl, s1, ov1, P1, h1, hP1, kt, -⟩
          refine ⟨kept_none, ?_⟩
          obtain ⟨m1, m2⟩ := two_step ga3 gb3 gd kt
          simp -implicitDefEqProofs only [go_sem, Nat.reduceBEq, Nat.reduceAdd, eq_self, true_and, and_true, and_self, List.getElem?_cons_zero, List.getElem?_cons_succ, Nat.reduceLeDiff, Nat.zero_add, Nat.reduceSub, Nat.le_refl, Nat.lt_irrefl]
          refine x1 _ _ _ (.inr ?_) ⟨s1, ov1, P1, sb, ovb, Pb, ?_, h1, m1, m2, by rw [hP1]; exact (gsa.grow hWW).add hgW, gsb, rfl⟩
          · simp -implicitDefEqProofs only [go_sem, Nat.reduceBEq, Nat.reduceAdd, eq_self, true_and, and_true, and_self, List.getElem?_cons_zero, List.getElem?_cons_succ, Nat.reduceLeDiff, Nat.zero_add, Nat.reduceSub, Nat.le_refl, Nat.lt_irrefl]
            try exact ⟨rfl, rfl⟩
            try exact rfl
          · obtain ⟨l', m1, m2, m3⟩ := hu'; exact ⟨l', m1, rdS_up m2 kt.upd, fun p hp => rdS_up (m3 p hp) kt.upd⟩
    rintro G τ4 ⟨sa4, ova4, Pa4, sb4, ovb4, Pb4, hu4, ga4, gb4, gd4, gsa4, gsb4, rfl⟩
    have hPb4l : Pb4.length ≤ 4096 := by
      have := (part_of hgd gsb4.good gsb4.up).len
      rw [map2_len] at this
      omega
    have had := add_ok gb4 (by omega) (hdi τ4) (by omega)
    simp only [cgV, cgC] at had
    obtain ⟨k3, k4⟩ := rdl (hva τ4) (cgsV_ne hi)
    have hgd4 : ∀ j, Own ib (some mb) sb4 ovb4 j → ¬ Own ia (some ma) sa4 ova4 j := fun j h1 h2 => gd4 j h2 h1
    cases hyb : decide ((y : Int) ≥ bs.length)
    case true =>
      simp -implicitDefEqProofs only [go_sem, Nat.reduceBEq, Nat.reduceAdd, eq_self, true_and, and_true, and_self, List.getElem?_cons_zero, List.getElem?_cons_succ, Nat.reduceLeDiff, Nat.zero_add, Nat.reduceSub, Nat.le_refl, hbl, hyb, hget, cgC, hcl]
      refine ⟨⟨by omega, by omega, k4⟩, k3, ?_⟩
      refine call_at had ?_
      rintro w τ5 ⟨rfl, s1, ov1, P1, h1, hP1, kt, -⟩
      refine ⟨kept_none, ?_⟩
      obtain ⟨m1, m2⟩ := two_step gb4 ga4 hgd4 kt
      simp -implicitDefEqProofs only [go_sem, Nat.reduceBEq, Nat.reduceAdd, eq_self, true_and, and_true, and_self, List.getElem?_cons_zero, List.getElem?_cons_succ, Nat.reduceLeDiff, Nat.zero_add, Nat.reduceSub, Nat.le_refl, Nat.lt_irrefl]
      refine y1 _ _ _ (.inr ?_) ⟨.sl b7 R7 z7 es7, rfl, ?_, sa4, ova4, Pa4, s1, ov1, P1, m1, h1, fun j h1 h2 => m2 j h2 h1, gsa4, by rw [hP1]; exact (gsb4.grow hWW).add hgW⟩
      · simp -implicitDefEqProofs only [go_sem, Nat.reduceBEq, Nat.reduceAdd, eq_self, true_and, and_true, and_self, List.getElem?_cons_zero, List.getElem?_cons_succ, Nat.reduceLeDiff, Nat.zero_add, Nat.reduceSub, Nat.le_refl, Nat.lt_irrefl]
        try exact ⟨rfl, rfl⟩
        try exact rfl
      · obtain ⟨l', m1, m2, m3⟩ := hu4; exact ⟨l', m1, rdS_up m2 kt.upd, fun p hp => rdS_up (m3 p hp) kt.upd⟩
    case false =>
      have hyi : y < bs.length := by have := of_decide_eq_false hyb; omega
      have hgb' := boolsV_get hyi
      obtain ⟨k5, k6⟩ := rdl (hw τ4) (boolsV_ne hyi)
      cases hbb : bs[y] <;> rw [hbb] at hgb'
      · simp -implicitDefEqProofs only [go_sem, Nat.reduceBEq, Nat.reduceAdd, eq_self, true_and, and_true, and_self, List.getElem?_cons_zero, List.getElem?_cons_succ, Nat.reduceLeDiff, Nat.zero_add, Nat.reduceSub, Nat.le_refl, hbl, hyb, hgb', hget, cgC, hcl, Bool.not_false]
        refine ⟨⟨by omega, by omega, k6⟩, k5, ⟨by omega, by omega, k4⟩, k3, ?_⟩
        refine call_at had ?_
        rintro w τ5 ⟨rfl, s1, ov1, P1, h1, hP1, kt, -⟩
        refine ⟨kept_none, ?_⟩
        obtain ⟨m1, m2⟩ := two_step gb4 ga4 hgd4 kt
        simp -implicitDefEqProofs only [go_sem, Nat.reduceBEq, Nat.reduceAdd, eq_self, true_and, and_true, and_self, List.getElem?_cons_zero, List.getElem?_cons_succ, Nat.reduceLeDiff, Nat.zero_add, Nat.reduceSub, Nat.le_refl, Nat.lt_irrefl]
        refine y1 _ _ _ (.inr ?_) ⟨.sl b7 R7 z7 es7, rfl, ?_, sa4, ova4, Pa4, s1, ov1, P1, m1, h1, fun j h1 h2 => m2 j h2 h1, gsa4, by rw [hP1]; exact (gsb4.grow hWW).add hgW⟩
        · simp -implicitDefEqProofs only [go_sem, Nat.reduceBEq, Nat.reduceAdd, eq_self, true_and, and_true, and_self, List.getElem?_cons_zero, List.getElem?_cons_succ, Nat.reduceLeDiff, Nat.zero_add, Nat.reduceSub, Nat.le_refl, Nat.lt_irrefl]
          try exact ⟨rfl, rfl⟩
          try exact rfl
        · obtain ⟨l', m1, m2, m3⟩ := hu4; exact ⟨l', m1, rdS_up m2 kt.upd, fun p hp => rdS_up (m3 p hp) kt.upd⟩
      · simp -implicitDefEqProofs only [go_sem, Nat.reduceBEq, Nat.reduceAdd, eq_self, true_and, and_true, and_self, List.getElem?_cons_zero, List.getElem?_cons_succ, Nat.reduceLeDiff, Nat.zero_add, Nat.reduceSub, Nat.le_refl, hbl, hyb, hgb', hget, cgC, hcl, Bool.not_true]
        refine ⟨⟨by omega, by omega, k6⟩, k5, ?_⟩
        refine y1 _ _ _ (.inr ?_) ⟨_, rfl, hu4, sa4, ova4, Pa4, sb4, ovb4, Pb4, ga4, gb4, gd4, gsa4, gsb4.grow hWW⟩
        simp -implicitDefEqProofs only [go_sem, Nat.reduceBEq, Nat.reduceAdd, eq_self, true_and, and_true, and_self, List.getElem?_cons_zero, List.getElem?_cons_succ, Nat.reduceLeDiff, Nat.zero_add, Nat.reduceSub, Nat.le_refl, Nat.lt_irrefl]
        try exact ⟨rfl, rfl⟩
        try exact rfl
  simp -implicitDefEqProofs only [go_sem, Nat.reduceBEq, Nat.reduceAdd, eq_self, true_and, and_true, and_self, List.getElem?_cons_zero, List.getElem?_cons_succ, Nat.reduceLeDiff, Nat.zero_add, Nat.reduceSub, Nat.le_refl, hc]
  refine z2 _ _ _ ?_
  clear z1 z2 z3 g1
  have hWl5 : (logR ((l.map (·.2)).take y) 4096).length ≤ 4096 := hWl
  have hcla := logR_cla ((l.map (·.2)).take y) 4096
  have hWnm : ∀ g ∈ logR ((l.map (·.2)).take y) 4096, g.name.length < 1048576 := fun g hg => by
    have := hgb g (List.mem_of_mem_take (logR_mem hg))
    omega
  generalize logR ((l.map (·.2)).take y) 4096 = W at *
  -- both
  obtain ⟨mo, hmo1, hmo2⟩ := idx_9 most
  have hw1 : IntKind.i64.wrap (1 + (mo : Int)) = ((1 + mo : Nat) : Int) := by rw [i64_in _ (by omega)]; omega
  have hn9 : ¬ IntKind.u64.wrap 9 = 0 := by rw [u64w]; decide
  simp -implicitDefEqProofs only [go_sem, Nat.reduceBEq, Nat.reduceAdd, eq_self, true_and, and_true, and_self, List.getElem?_cons_zero, List.getElem?_cons_succ, Nat.reduceLeDiff, Nat.zero_add, Nat.reduceSub, Nat.le_refl, hmo2, hw1]
  try refine ⟨by decide, ?_⟩
  have hUg := uni_good hgd gsa gsb
  have hUc := uni_cla gsa gsb
  have hUm := fun x => uni_mem (x := x) gsa gsb
  have hUl : (uni W (cgL Pa) (cgL Pb)).length ≤ W.length := uni_len
  generalize uni W (cgL Pa) (cgL Pb) = U at *
  have hUd : ∀ h ∈ U, h.deps.length ≤ 2000000 := fun h hh => by have := hUg.deps h hh; omega
  have hUW : ∀ x ∈ U, x ∈ W := fun x hx => ((hUm x).1 hx).elim (gsa.up x) (gsb.up x)
  refine call_at (all_ok gb (by omega)) ?_
  rintro w τ3 ⟨n1, e3⟩
  refine ⟨kept_none, ?_⟩
  have n1' := n1.rd
  obtain ⟨b3, R3, z3', es3, rfl⟩ := n1'.isSl
  simp -implicitDefEqProofs only [go_sem, Nat.reduceBEq, Nat.reduceAdd, eq_self, true_and, and_true, and_self, List.getElem?_cons_zero, List.getElem?_cons_succ, Nat.reduceLeDiff, Nat.zero_add, Nat.reduceSub, Nat.le_refl, flats, V.flat]
  refine call_at (all_ok (ga.ext e3) (by omega)) ?_
  rintro w τ4 ⟨n2, e4⟩
  refine ⟨kept_none, ?_⟩
  have e34 := e3.trans e4
  have ga4 := ga.ext e34
  have gb4 := gb.ext e34
  obtain ⟨lA, hlA, hvA, hdA⟩ := n2.rd
  obtain ⟨b4, R4, z4', rfl, -, -⟩ := id hvA
  have hcA := cgsV_len lA
  have hlAl : lA.length ≤ 4096 := by
    have := congrArg List.length hlA
    rw [map2_len, map2_len] at this
    omega
  have hgo := go_in (room := 4096) (D := cgL Pa) hUg hUc (by omega) gsb.good (fun x hx => (hUm x).2 (.inr hx)) gsa.good.srt (fun x hx => (hUm x).2 (.inl hx)) (fun x hx => ((hUm x).1 hx).symm)
  rw [← hlA] at hgo
  clear ga gb g2 n1 n2
  simp -implicitDefEqProofs only [go_sem, Nat.reduceBEq, Nat.reduceAdd, eq_self, true_and, and_true, and_self, List.getElem?_cons_zero, List.getElem?_cons_succ, Nat.reduceLeDiff, Nat.zero_add, Nat.reduceSub, Nat.le_refl, Nat.lt_irrefl]
  refine loop_at (fun (y : Nat × V) => ⟨[(1, .v (.int .i64 ((1 + mo : Nat) : Int))), (5, .v (.ptr (some (ia, 0)))), (7, .v (.ptr (some (ib, 0)))), (13, .loc 13 0), (14, .v (.sl b4 R4 z4' (cgsV lA))), (15, .v (.int .i64 ((y.1 : Nat) : Int)))], [(13, [.int .i64 4096, y.2])]⟩)
    (fun y t => y.1 ≤ lA.length ∧ Ext τ4 t ∧ RdC t y.2 (((lA.map (·.2)).take y.1).foldl (fun L g => addR L 4096 g) (cgL Pb))) (fun y => lA.length - y.1) (0, .sl b3 R3 z3' es3) ?_ ?_ ?_
  · refine .inr ?_
    simp -implicitDefEqProofs only [go_sem, Nat.reduceBEq, Nat.reduceAdd, eq_self, true_and, and_true, and_self, List.getElem?_cons_zero, List.getElem?_cons_succ, Nat.reduceLeDiff, Nat.zero_add, Nat.reduceSub, Nat.le_refl, Nat.lt_irrefl]
    try exact ⟨rfl, rfl⟩
    try exact rfl
  · exact ⟨Nat.zero_le _, .refl _, by simpa using n1'.ext e4⟩
  rintro ⟨x, u⟩ t2 ⟨f1, f2, f3⟩ Z z1 z2 z3
  simp only at f1 f3
  simp -implicitDefEqProofs only [go_sem, Nat.reduceBEq, Nat.reduceAdd, eq_self, true_and, and_true, and_self, List.getElem?_cons_zero, List.getElem?_cons_succ, Nat.reduceLeDiff, Nat.zero_add, Nat.reduceSub, Nat.le_refl, hcA]
  cases hcx : decide ((x : Int) < lA.length)
  case true =>
    have hi : x < lA.length := by have := of_decide_eq_true hcx; omega
    have hget := cgsV_get hi
    have hwx : IntKind.i64.wrap ((x : Int) + 1) = ((x + 1 : Nat) : Int) := by rw [i64_in _ (by omega)]; omega
    obtain ⟨k1, k2⟩ := rdl (hvA.ext f2) (cgsV_ne hi)
    have hdi := (hdA.ext f2) _ (List.getElem_mem hi)
    obtain ⟨a1, a2, -⟩ := hgo x (by rw [map2_len]; omega)
    have hgU : l[0]?.isSome = l[0]?.isSome := rfl
    have hpU : lA[x].2 ∈ U := (hUm _).2 (.inl (by rw [← hlA]; exact List.mem_map_of_mem (List.getElem_mem hi)))
    have htk : ((lA.map (·.2)).take (x + 1)).foldl (fun L g => addR L 4096 g) (cgL Pb) = addR (((lA.map (·.2)).take x).foldl (fun L g => addR L 4096 g) (cgL Pb)) 4096 lA[x].2 := by
      rw [List.take_succ_eq_append_getElem (by rw [map2_len]; exact hi), List.foldl_append]; simp
    generalize lA[x] = p at hget htk hdi hpU
    obtain ⟨d2, g⟩ := p
    simp only at hget htk hdi hpU
    have hupC : ∀ h ∈ ((lA.map (·.2)).take x).foldl (fun L g => addR L 4096 g) (cgL Pb), h ∈ U := fun h hh => ((a2 h).1 hh).elim (fun h' => (hUm h).2 (.inr h')) fun h' => (hUm h).2 (.inl (by rw [← hlA]; exact List.mem_of_mem_take h'))
    have hlC := (part_of hUg a1 hupC).len
    have hgnm := hWnm g (hUW g hpU)
    generalize hC : ((lA.map (·.2)).take x).foldl (fun L g => addR L 4096 g) (cgL Pb) = C at *
    obtain ⟨db, dr, dz, rfl, -, -⟩ := id hdi
    have hra := radd_ok (room := 4096) (d := .sl db dr dz (intsV .i64 g.deps)) (g := g) f3 (by omega) hdi (hUd g hpU) (fun h hh => hUd h (hupC h hh)) (by omega)
    simp only [cgV, cgC] at hra
    simp -implicitDefEqProofs only [go_sem, Nat.reduceBEq, Nat.reduceAdd, eq_self, true_and, and_true, and_self, List.getElem?_cons_zero, List.getElem?_cons_succ, Nat.reduceLeDiff, Nat.zero_add, Nat.reduceSub, Nat.le_refl, hcx, hcA, hget, cgC]
    refine ⟨⟨by omega, by omega, k2⟩, k1, ?_⟩
    refine call_at hra ?_
    rintro w t3 ⟨⟨u2, rfl, hu2⟩, e5, -⟩
    refine ⟨e5.kept, ?_⟩
    obtain ⟨b5, R5, z5, es5, rfl⟩ := hu2.isSl
    simp -implicitDefEqProofs only [go_sem, Nat.reduceBEq, Nat.reduceAdd, eq_self, true_and, and_true, and_self, List.getElem?_cons_zero, List.getElem?_cons_succ, Nat.reduceLeDiff, Nat.zero_add, Nat.reduceSub, Nat.le_refl, hwx, flats, V.flat]
    refine z1 (x + 1, _) _ _ (.inr ?_) (by simp only; omega) ⟨by simp only; omega, f2.trans e5, by simp only; rw [htk]; exact hu2⟩
    simp -implicitDefEqProofs only [go_sem, Nat.reduceBEq, Nat.reduceAdd, eq_self, true_and, and_true, and_self, List.getElem?_cons_zero, List.getElem?_cons_succ, Nat.reduceLeDiff, Nat.zero_add, Nat.reduceSub, Nat.le_refl, Nat.lt_irrefl]
    try exact ⟨rfl, rfl⟩
    try exact rfl
  have hx : x = lA.length := by have := of_decide_eq_false hcx; omega
  rw [List.take_of_length_le (by rw [map2_len]; omega)] at f3
  obtain ⟨hFg, hFm, -⟩ := hgo lA.length (by rw [map2_len]; omega)
  rw [List.take_of_length_le (by rw [map2_len]; omega)] at hFg hFm
  generalize (lA.map (·.2)).foldl (fun L g => addR L 4096 g) (cgL Pb) = Fin at f3 hFg hFm
  simp -implicitDefEqProofs only [go_sem, Nat.reduceBEq, Nat.reduceAdd, eq_self, true_and, and_true, and_self, List.getElem?_cons_zero, List.getElem?_cons_succ, Nat.reduceLeDiff, Nat.zero_add, Nat.reduceSub, Nat.le_refl, hcx]
  refine z2 _ _ _ ?_
  clear z1 z2 z3 hgo
  have ga5 := ga4.ext f2
  have gb5 := gb4.ext f2
  clear ga4 gb4 hvA hdA n1' f2
  have hPaU : ∀ x ∈ cgL Pa, x ∈ U := fun x hx => (hUm x).2 (.inl hx)
  have hPbU : ∀ x ∈ cgL Pb, x ∈ U := fun x hx => (hUm x).2 (.inr hx)
  simp -implicitDefEqProofs only [go_sem, Nat.reduceBEq, Nat.reduceAdd, eq_self, true_and, and_true, and_self, List.getElem?_cons_zero, List.getElem?_cons_succ, Nat.reduceLeDiff, Nat.zero_add, Nat.reduceSub, Nat.le_refl, Nat.lt_irrefl]
  refine call_at (pclock_ok ga5) ?_
  rintro w t3 ⟨⟨oa, za, ta, ra⟩, e6⟩
  refine ⟨kept_none, ?_⟩
  simp -implicitDefEqProofs only [go_sem, Nat.reduceBEq, Nat.reduceAdd, eq_self, true_and, and_true, and_self, List.getElem?_cons_zero, List.getElem?_cons_succ, Nat.reduceLeDiff, Nat.zero_add, Nat.reduceSub, Nat.le_refl, Nat.lt_irrefl]
  refine call_at (pclock_ok (gb5.ext e6)) ?_
  rintro w2 t4 ⟨⟨ob, zb, tb, rb⟩, e7⟩
  refine ⟨kept_none, ?_⟩
  simp -implicitDefEqProofs only [go_sem, Nat.reduceBEq, Nat.reduceAdd, eq_self, true_and, and_true, and_self, List.getElem?_cons_zero, List.getElem?_cons_succ, Nat.reduceLeDiff, Nat.zero_add, Nat.reduceSub, Nat.le_refl, Nat.lt_irrefl]
  refine call_at (rmerge_ok (ra.ext e7) rb (clock_right (by rw [map2_len]; omega) ta) (clock_right (by rw [map2_len]; omega) tb)) ?_
  rintro w3 t5 ⟨⟨wv, ow, zw, rfl, tw, rw'⟩, e8⟩
  refine ⟨kept_none, ?_⟩
  rw [mxs_uni gsa.good gsb.good hUg hUm ta tb] at tw
  have e68 := (e6.trans e7).trans e8
  have ga6 := ga5.ext e68
  have gb6 := gb5.ext e68
  have f6 := f3.ext e68
  clear ga5 gb5 f3 ta tb ra rb e6 e7 e8 e68
  have how : ow.length ≤ 64 := by
    have h1 := congrArg List.length tw.1
    rw [cnts_len, List.length_append] at h1
    omega
  simp -implicitDefEqProofs only [go_sem, Nat.reduceBEq, Nat.reduceAdd, eq_self, true_and, and_true, and_self, List.getElem?_cons_zero, List.getElem?_cons_succ, Nat.reduceLeDiff, Nat.zero_add, Nat.reduceSub, Nat.le_refl, Nat.lt_irrefl]
  refine loop_at (fun (x : Bool × List Cg) => ⟨[(1, .v (.int .i64 ((1 + mo : Nat) : Int))), (5, .v (.ptr (some (ia, 0)))), (7, .v (.ptr (some (ib, 0)))), (13, .loc 13 0), (16, .v wv), (18, .v (.bool x.1))], [(13, [.int .i64 4096, u])]⟩)
    (fun x t => RdC t u Fin ∧ RdS t wv 1 (intsV .i64 ow) ∧ LogIs t ia (some ma) sa ova 4096 Pa ∧ ∃ sb ovb Pb', LogIs t ib (some mb) sb ovb 4096 Pb' ∧ cgL Pb' = x.2 ∧ (∀ j, Own ia (some ma) sa ova j → ¬ Own ib (some mb) sb ovb j) ∧ (∀ y ∈ x.2, y ∈ U) ∧ (∀ y ∈ cgL Pb, y ∈ x.2) ∧ (x.1 = false → ∀ y ∈ cgL Pa, y ∈ x.2))
    (fun x => (bif x.1 then 1 else 0) + (U.length - x.2.length)) (true, cgL Pb) ?_ ?_ ?_
  · refine .inr ?_
    simp -implicitDefEqProofs only [go_sem, Nat.reduceBEq, Nat.reduceAdd, eq_self, true_and, and_true, and_self, List.getElem?_cons_zero, List.getElem?_cons_succ, Nat.reduceLeDiff, Nat.zero_add, Nat.reduceSub, Nat.le_refl, Nat.lt_irrefl]
    try exact ⟨rfl, rfl⟩
    try exact rfl
  · exact ⟨f6, rw', ga6, _, _, Pb, gb6, rfl, gd, hPbU, fun y h => h, fun h => by cases h⟩
  clear ga6 gb6 f6 rw' gd
  rintro ⟨more, Zc⟩ t6 ⟨f6, fw, ga6, sb6, ovb6, Pb6, gb6, hZc, gd6, hup, hBZ, hAZ⟩ Z z1 z2 z3
  simp only at hZc hup hBZ hAZ
  subst hZc
  obtain ⟨b8, R8, z8, es8, rfl⟩ := f6.isSl
  have hpU := part_of hUg gb6.good hup
  have hPb6 : Pb6.length ≤ 4096 := by
    have := hpU.len
    rw [map2_len] at this
    omega
  cases more
  case false =>
    have hZU : cgL Pb6 = Fin := srt_uniqC gb6.good.srt hFg.srt fun x => by
      rw [hFm x]
      constructor
      · intro hx
        rcases (hUm x).1 (hup x hx) with h | h
        · exact .inr (by rw [hlA]; exact h)
        · exact .inl h
      · rintro (h | h)
        · exact hBZ x h
        · exact hAZ rfl x (by rw [← hlA]; exact h)
    have hZU2 : cgL Pb6 = U := srt_uniqC gb6.good.srt hUg.srt fun x => ⟨hup x, fun hx => ((hUm x).1 hx).elim (hAZ rfl x) (hBZ x)⟩
    simp -implicitDefEqProofs only [go_sem, Nat.reduceBEq, Nat.reduceAdd, eq_self, true_and, and_true, and_self, List.getElem?_cons_zero, List.getElem?_cons_succ, Nat.reduceLeDiff, Nat.zero_add, Nat.reduceSub, Nat.le_refl, Nat.lt_irrefl]
    refine z2 _ _ _ ?_
    simp -implicitDefEqProofs only [go_sem, Nat.reduceBEq, Nat.reduceAdd, eq_self, true_and, and_true, and_self, List.getElem?_cons_zero, List.getElem?_cons_succ, Nat.reduceLeDiff, Nat.zero_add, Nat.reduceSub, Nat.le_refl, Nat.lt_irrefl]
    refine call_at (all_ok gb6 (by omega)) ?_
    rintro w t7 ⟨n7, e7⟩
    refine ⟨e7.kept, ?_⟩
    simp -implicitDefEqProofs only [go_sem, Nat.reduceBEq, Nat.reduceAdd, eq_self, true_and, and_true, and_self, List.getElem?_cons_zero, List.getElem?_cons_succ, Nat.reduceLeDiff, Nat.zero_add, Nat.reduceSub, Nat.le_refl, Nat.lt_irrefl]
    refine call_at (sameAll_ok n7.rd (f6.ext e7) (by rw [map2_len]; omega) fun g hg => by have := gb6.good.deps g hg; omega) ?_
    rintro w t8 ⟨hτ, rfl⟩
    have hτ := hτ.symm
    subst hτ
    refine ⟨(Ext.refl _).kept, ?_⟩
    rw [hZU, show decide (Fin = Fin) = true from decide_eq_true rfl]
    simp -implicitDefEqProofs only [go_sem, Nat.reduceBEq, Nat.reduceAdd, eq_self, true_and, and_true, and_self, List.getElem?_cons_zero, List.getElem?_cons_succ, Nat.reduceLeDiff, Nat.zero_add, Nat.reduceSub, Nat.le_refl, Nat.lt_irrefl]
    refine call_at (pclock_ok (gb6.ext e7)) ?_
    rintro w t8 ⟨⟨o8, z8', t8', r8⟩, e8⟩
    refine ⟨e8.kept, ?_⟩
    rw [hZU2] at t8'
    have ho8 := t8'.uniq tw
    subst ho8
    simp -implicitDefEqProofs only [go_sem, Nat.reduceBEq, Nat.reduceAdd, eq_self, true_and, and_true, and_self, List.getElem?_cons_zero, List.getElem?_cons_succ, Nat.reduceLeDiff, Nat.zero_add, Nat.reduceSub, Nat.le_refl, Nat.lt_irrefl]
    refine call_at (rsame_ok r8 ((fw.ext e7).ext e8) (by omega)) ?_
    rintro w t9 ⟨hτ, rfl⟩
    have hτ := hτ.symm
    subst hτ
    refine ⟨(Ext.refl _).kept, ?_⟩
    rw [show decide (o8 = o8) = true from decide_eq_true rfl]
    simp -implicitDefEqProofs only [go_sem, Nat.reduceBEq, Nat.reduceAdd, eq_self, true_and, and_true, and_self, List.getElem?_cons_zero, List.getElem?_cons_succ, Nat.reduceLeDiff, Nat.zero_add, Nat.reduceSub, Nat.le_refl, Nat.lt_irrefl]
    refine call_at awake_ok ?_
    rintro w t9 ⟨rfl, e9⟩
    refine ⟨e9.kept, ?_⟩
    simp -implicitDefEqProofs only [go_sem, Nat.reduceBEq, Nat.reduceAdd, eq_self, true_and, and_true, and_self, List.getElem?_cons_zero, List.getElem?_cons_succ, Nat.reduceLeDiff, Nat.zero_add, Nat.reduceSub, Nat.le_refl, Nat.lt_irrefl]
    refine q2 _ _ ?_
    simp -implicitDefEqProofs only [go_sem, Nat.reduceBEq, Nat.reduceAdd, eq_self, true_and, and_true, and_self, List.getElem?_cons_zero, List.getElem?_cons_succ, Nat.reduceLeDiff, Nat.zero_add, Nat.reduceSub, Nat.le_refl, Nat.lt_irrefl]
  simp -implicitDefEqProofs only [go_sem, Nat.reduceBEq, Nat.reduceAdd, eq_self, true_and, and_true, and_self, List.getElem?_cons_zero, List.getElem?_cons_succ, Nat.reduceLeDiff, Nat.zero_add, Nat.reduceSub, Nat.le_refl, Nat.lt_irrefl]
  refine call_at (pclock_ok gb6) ?_
  rintro w t7 ⟨⟨o7, z7, t7', r7⟩, e7⟩
  refine ⟨kept_none, ?_⟩
  have hc7 := clock_right (by rw [map2_len]; omega) t7'
  have hlk := lack hUg hPaU gb6.good hup t7'
  have hsI : sinceI o7 ((1 + mo : Nat) : Int) = 0 := by
    unfold sinceI
    rw [hc7, show decide (((1 + mo : Nat) : Int) < 1) = false by rw [decide_eq_false_iff_not]; omega]
    rfl
  have hsin := psince_ok (σ := t7) (p := .ptr (some (ia, 0))) (kv := w) (L := (cgL Pa).filter fun x => !decide (x ∈ cgL Pb6)) (k := o7) (most := ((1 + mo : Nat) : Int)) (fun hc τ' he => by
    have := each_ok ((ga6.ext e7).ext he) (by omega) (r7.ext he)
    unfold eachL at this
    rw [hc, hlk] at this
    exact this) (by have := List.length_filter_le (fun x => !decide (x ∈ cgL Pb6)) (cgL Pa); rw [map2_len] at this; omega) (fun g hg => hUd g (hPaU g (List.mem_filter.1 hg).1)) r7
  generalize hD : (cgL Pa).filter (fun x => !decide (x ∈ cgL Pb6)) = D at *
  have hDs : Srt D := by rw [← hD]; exact gsa.good.srt.filter _
  have hDU : ∀ x ∈ D, x ∈ U := fun x hx => hPaU x (by rw [← hD] at hx; exact (List.mem_filter.1 hx).1)
  have hDn : ∀ x ∈ D, x ∉ cgL Pb6 := fun x hx => by
    rw [← hD] at hx
    have := (List.mem_filter.1 hx).2
    simpa using this
  have hDl : D.length ≤ 4096 := by
    rw [← hD]
    have := List.length_filter_le (fun x => !decide (x ∈ cgL Pb6)) (cgL Pa)
    rw [map2_len] at this
    omega
  have hgo := go_in (room := 4096) (D := D) hUg hUc (by omega) gb6.good hup hDs hDU (fun x hx => by
    rcases (hUm x).1 hx with h | h
    · by_cases hz : x ∈ cgL Pb6
      · exact .inl hz
      · exact .inr (by rw [← hD]; exact List.mem_filter.2 ⟨h, by simp [hz]⟩)
    · exact .inl (hBZ x h))
  simp -implicitDefEqProofs only [go_sem, Nat.reduceBEq, Nat.reduceAdd, eq_self, true_and, and_true, and_self, List.getElem?_cons_zero, List.getElem?_cons_succ, Nat.reduceLeDiff, Nat.zero_add, Nat.reduceSub, Nat.le_refl, Nat.lt_irrefl]
  refine call_at hsin ?_
  rintro w8 t8 ⟨⟨lv, rfl, hlv⟩, e8⟩
  refine ⟨kept_none, ?_⟩
  unfold sinceQ sinceP at *
  rw [hsI] at hlv ⊢
  simp only [decide_true, cond_true, Bool.true_and, Int.toNat_natCast] at hlv ⊢
  have hlv2 := hlv.rd
  have e78 := e7.trans e8
  obtain ⟨bl, Rl, zl, esl, rfl⟩ := hlv2.isSl
  have hesl : esl.length = (D.take (1 + mo)).length := by
    obtain ⟨l', x1, ⟨_, _, _, x2, -, -⟩, -⟩ := hlv2
    cases x2
    rw [cgsV_len, ← map2_len, x1]
  have hn2 : (D.take (1 + mo)).length = min (1 + mo) D.length := List.length_take ..
  generalize hn : (D.take (1 + mo)).length = n2 at hesl hn2
  have ga8 := ga6.ext e78
  have gb8 := gb6.ext e78
  have f8 := f6.ext e78
  have fw8 := fw.ext e78
  clear ga6 gb6 f6 fw hsin hlv e7 e8 e78 r7
  have hZlen := hpU.len
  have hfin : ∀ (i : Nat), i ≤ D.length → ((D.take i).foldl (fun L g => addR L 4096 g) (cgL Pb6)).length = (cgL Pb6).length + i := fun i => by
    induction i with
    | zero => intro _; simp
    | succ i ih =>
      intro hi
      have h1 := ih (by omega)
      obtain ⟨a1, a2, a3⟩ := hgo i (by omega)
      have hni : D[i] ∉ (D.take i).foldl (fun L g => addR L 4096 g) (cgL Pb6) := fun h => by
        rcases (a2 _).1 h with h | h
        · exact hDn _ (List.getElem_mem (by omega)) h
        · obtain ⟨j, hj, e⟩ := List.mem_take_iff_getElem.1 h
          have := List.pairwise_iff_getElem.1 hDs j i (by omega) (by omega) (by omega)
          rw [e, less_irr] at this; cases this
      rw [List.take_succ_eq_append_getElem (by omega), List.foldl_append]
      show (addR _ 4096 D[i]).length = _
      rw [addR_yes (a3 (by omega) hni), putC_len, h1]
      omega
  have hwi : ∀ (i : Nat) (hi : i < D.length), whyR ((D.take i).foldl (fun L g => addR L 4096 g) (cgL Pb6)) 4096 D[i] = 0 := fun i hi => by
    obtain ⟨a1, a2, a3⟩ := hgo i (by omega)
    refine a3 hi fun h => ?_
    rcases (a2 _).1 h with h | h
    · exact hDn _ (List.getElem_mem (by omega)) h
    · obtain ⟨j, hj, e⟩ := List.mem_take_iff_getElem.1 h
      have := List.pairwise_iff_getElem.1 hDs j i (by omega) (by omega) (by omega)
      rw [e, less_irr] at this; cases this
  cases hq : decide ((D.length : Int) > ((1 + mo : Nat) : Int))
  case' false =>
    have hqd := of_decide_eq_false hq
    simp -implicitDefEqProofs only [go_sem, Nat.reduceBEq, Nat.reduceAdd, eq_self, true_and, and_true, and_self, List.getElem?_cons_zero, List.getElem?_cons_succ, Nat.reduceLeDiff, Nat.zero_add, Nat.reduceSub, Nat.le_refl, h00, Bool.not_true]
  case' true =>
    have hqd := of_decide_eq_true hq
    have hn0 : decide ((n2 : Int) = 0) = false := by rw [decide_eq_false_iff_not]; omega
    simp -implicitDefEqProofs only [go_sem, Nat.reduceBEq, Nat.reduceAdd, eq_self, true_and, and_true, and_self, List.getElem?_cons_zero, List.getElem?_cons_succ, Nat.reduceLeDiff, Nat.zero_add, Nat.reduceSub, Nat.le_refl, h00, Bool.not_true, hesl, hn0]
  all_goals
    refine loop_at (fun (y : Nat) => ⟨[(1, .v (.int .i64 ((1 + mo : Nat) : Int))), (5, .v (.ptr (some (ia, 0)))), (7, .v (.ptr (some (ib, 0)))), (13, .loc 13 0), (16, .v wv), (18, .v (.bool (decide ((D.length : Int) > ((1 + mo : Nat) : Int))))), (19, .v (.sl bl Rl zl esl)), (22, .v (.int .i64 ((y : Nat) : Int)))], [(13, [.int .i64 4096, .sl b8 R8 z8 es8])]⟩)
      (fun y t => y ≤ n2 ∧ RdC t (.sl b8 R8 z8 es8) Fin ∧ RdS t wv 1 (intsV .i64 ow) ∧ RdC t (.sl bl Rl zl esl) (D.take (1 + mo)) ∧ LogIs t ia (some ma) sa ova 4096 Pa ∧ ∃ sb ovb Pb', LogIs t ib (some mb) sb ovb 4096 Pb' ∧ cgL Pb' = (D.take y).foldl (fun L g => addR L 4096 g) (cgL Pb6) ∧ (∀ j, Own ia (some ma) sa ova j → ¬ Own ib (some mb) sb ovb j)) (fun y => n2 - y) 0 ?_ ?_ ?_
    · refine .inr ?_
      simp -implicitDefEqProofs only [go_sem, Nat.reduceBEq, Nat.reduceAdd, eq_self, true_and, and_true, and_self, List.getElem?_cons_zero, List.getElem?_cons_succ, Nat.reduceLeDiff, Nat.zero_add, Nat.reduceSub, Nat.le_refl, hq]
      try exact ⟨rfl, rfl⟩
      try exact rfl
    · exact ⟨Nat.zero_le _, f8, fw8, hlv2.ext (.refl _), ga8, sb6, ovb6, Pb6, gb8, rfl, gd6⟩
    rintro y t9 ⟨k1, k2, k3, k4, k5, sb9, ovb9, Pb9, k6, k7, k8⟩ X x1 x2 x3
    have hD9 := hfin y (by omega)
    obtain ⟨c1, c2, -⟩ := hgo y (by omega)
    have hup9 : ∀ x ∈ (D.take y).foldl (fun L g => addR L 4096 g) (cgL Pb6), x ∈ U := fun x hx => ((c2 x).1 hx).elim (hup x) fun h => hDU x (List.mem_of_mem_take h)
    have hlen9 := (part_of hUg c1 hup9).len
    simp -implicitDefEqProofs only [go_sem, Nat.reduceBEq, Nat.reduceAdd, eq_self, true_and, and_true, and_self, List.getElem?_cons_zero, List.getElem?_cons_succ, Nat.reduceLeDiff, Nat.zero_add, Nat.reduceSub, Nat.le_refl, hesl]
    cases hcy : decide ((y : Int) < n2)
    · have hy : y = n2 := by have := of_decide_eq_false hcy; omega
      simp -implicitDefEqProofs only [go_sem, Nat.reduceBEq, Nat.reduceAdd, eq_self, true_and, and_true, and_self, List.getElem?_cons_zero, List.getElem?_cons_succ, Nat.reduceLeDiff, Nat.zero_add, Nat.reduceSub, Nat.le_refl, hcy]
      refine x2 _ _ _ ?_
      simp -implicitDefEqProofs only [go_sem, Nat.reduceBEq, Nat.reduceAdd, eq_self, true_and, and_true, and_self, List.getElem?_cons_zero, List.getElem?_cons_succ, Nat.reduceLeDiff, Nat.zero_add, Nat.reduceSub, Nat.le_refl, Nat.lt_irrefl]
      refine z1 (decide ((D.length : Int) > ((1 + mo : Nat) : Int)), (D.take y).foldl (fun L g => addR L 4096 g) (cgL Pb6)) _ _ (.inr ?_) ?_ ⟨k2, k3, k5, sb9, ovb9, Pb9, k6, k7, k8, hup9, fun x hx => (c2 x).2 (.inl (hBZ x hx)), fun hf x hx => ?_⟩
      · simp -implicitDefEqProofs only [go_sem, Nat.reduceBEq, Nat.reduceAdd, eq_self, true_and, and_true, and_self, List.getElem?_cons_zero, List.getElem?_cons_succ, Nat.reduceLeDiff, Nat.zero_add, Nat.reduceSub, Nat.le_refl, Nat.lt_irrefl]
        try exact ⟨rfl, rfl⟩
        try exact rfl
      · simp only [hD9, hq]
        simp only [cond_true, cond_false]
        omega
      · simp only at hf
        have hle := of_decide_eq_false hf
        refine (c2 x).2 ?_
        by_cases hz : x ∈ cgL Pb6
        · exact .inl hz
        · refine .inr ?_
          rw [List.take_of_length_le (by omega), ← hD]
          exact List.mem_filter.2 ⟨hx, by simp [hz]⟩
    · have hyn : y < n2 := by have := of_decide_eq_true hcy; omega
      have hyD : y < D.length := by omega
      have hyT : y < (D.take (1 + mo)).length := by omega
      have hwy : IntKind.i64.wrap ((y : Int) + 1) = ((y + 1 : Nat) : Int) := by rw [i64_in _ (by omega)]; omega
      obtain ⟨d9, m1, m2, m3, -, m5, m6, -⟩ := rdC_get k4 hyT
      rw [List.getElem_take] at m1 m2
      subst m6
      have hw9 := hwi y hyD
      have hU9 := hDU _ (List.getElem_mem hyD)
      have htk : (D.take (y + 1)).foldl (fun L g => addR L 4096 g) (cgL Pb6) = addR ((D.take y).foldl (fun L g => addR L 4096 g) (cgL Pb6)) 4096 D[y] := by
        rw [List.take_succ_eq_append_getElem hyD, List.foldl_append]; rfl
      generalize D[y] = g at m1 m2 hw9 hU9 htk
      have hnm := hWnm g (hUW g hU9)
      have hP9 : Pb9.length ≤ 4096 := by
        have := congrArg List.length k7
        rw [map2_len] at this
        omega
      have had := add_ok k6 (by omega) m2 (by omega)
      rw [k7, hw9] at had
      simp only [cgV, cgC] at had
      simp -implicitDefEqProofs only [go_sem, Nat.reduceBEq, Nat.reduceAdd, eq_self, true_and, and_true, and_self, List.getElem?_cons_zero, List.getElem?_cons_succ, Nat.reduceLeDiff, Nat.zero_add, Nat.reduceSub, Nat.le_refl, hcy, hesl, Int.toNat_natCast, m1, cgC]
      refine ⟨⟨by omega, by omega⟩, m5, ?_⟩
      refine call_at had ?_
      rintro w t10 ⟨rfl, s1, ov1, P1, h1, hP1, kt, -⟩
      refine ⟨kept_none, ?_⟩
      obtain ⟨q1', q2'⟩ := two_step k6 k5 (fun j h1 h2 => k8 j h2 h1) kt
      simp -implicitDefEqProofs only [go_sem, Nat.reduceBEq, Nat.reduceAdd, eq_self, true_and, and_true, and_self, List.getElem?_cons_zero, List.getElem?_cons_succ, Nat.reduceLeDiff, Nat.zero_add, Nat.reduceSub, Nat.le_refl, h00, Bool.not_true, hwy]
      refine x1 (y + 1) _ _ (.inr ?_) (by omega) ⟨by omega, ?_, rdS_up k3 kt.upd, ?_, q1', s1, ov1, P1, h1, by rw [hP1, htk], fun j h1 h2 => q2' j h2 h1⟩
      · simp -implicitDefEqProofs only [go_sem, Nat.reduceBEq, Nat.reduceAdd, eq_self, true_and, and_true, and_self, List.getElem?_cons_zero, List.getElem?_cons_succ, Nat.reduceLeDiff, Nat.zero_add, Nat.reduceSub, Nat.le_refl, Nat.lt_irrefl]
        try exact ⟨rfl, rfl⟩
        try exact rfl
      · obtain ⟨l', p1, p2, p3⟩ := k2; exact ⟨l', p1, rdS_up p2 kt.upd, fun p hp => rdS_up (p3 p hp) kt.upd⟩
      · obtain ⟨l', p1, p2, p3⟩ := k4; exact ⟨l', p1, rdS_up p2 kt.upd, fun p hp => rdS_up (p3 p hp) kt.upd⟩
end
theorem bools_of : ∀ {es : List (List V)}, (∀ y ∈ es, T.bool.has y) → ∃ bs : List Bool, es = boolsV bs
  | [], _ => ⟨[], rfl⟩
  | y :: es, h => by
    obtain ⟨bs, rfl⟩ := bools_of (es := es) fun y hy => h y (by simp [hy])
    obtain ⟨b, rfl⟩ := h y (by simp)
    exact ⟨b :: bs, rfl⟩
theorem has_bools {xs : List V} (h : (T.sl 1 .bool).has xs) : ∃ d bs, xs = [d] ∧ ∀ σ, RdS σ d 1 (boolsV bs) := by
  rcases h with rfl | ⟨es, rfl, h⟩
  · exact ⟨_, [], rfl, fun σ => ⟨_, _, _, rfl, by simp [boolsV], .inl rfl⟩⟩
  · obtain ⟨bs, rfl⟩ := bools_of h
    exact ⟨_, bs, rfl, fun σ => ⟨_, _, _, rfl, by simp, .inr ⟨trivial, rfl⟩⟩⟩
theorem has_cgs {xs : List V} (h : (T.sl 13 (.agg CgT)).has xs) : ∃ d gs, xs = [d] ∧ (vbs xs ≤ 1048576 → ArgC d gs) := by
  rcases h with rfl | ⟨es, rfl, h⟩
  · exact ⟨_, [], rfl, fun _ => ⟨⟨[], rfl, fun σ => ⟨_, _, _, rfl, by simp [cgsV], .inl rfl⟩, by intro p hp; cases hp⟩, by simp, by intro g hg; cases hg⟩⟩
  · obtain ⟨l, rfl, h4, h5⟩ := cgs_of h
    refine ⟨_, l.map (·.2), rfl, fun hb => ?_⟩
    simp only [vbs, vb] at hb
    refine ⟨⟨l, rfl, fun σ => ⟨_, _, _, rfl, by simp, .inr ⟨trivial, rfl⟩⟩, fun p hp => (h5 p hp).1⟩, by rw [List.length_map]; omega, fun g hg => ?_⟩
    obtain ⟨p, hp, rfl⟩ := List.mem_map.1 hg
    have := (h5 p hp).2
    omega
end Go.VL.opl

import Derived.Test.YtcojigpknididaaB3
import Derived.ReadAgain
import Derived.WideKeyArgs
import Derived.ChangeArms
import Derived.OpenShut
set_option linter.unusedVariables false
set_option linter.unusedSimpArgs false
namespace Go.VL.opl
open Go Go.VL Go.Proofs Go.IntWalk Go.VL.st Go.VL.row

def addR (L : List Cg) (room : Int) (g : Cg) : List Cg := bif decide (whyR L room g = 0) then putC g L else L
def inC (k : List Int) (g : Cg) : Bool := decide (g.seq ≤ atD k g.ar)
def allR (L : List Cg) (k : List Int) : List Cg := L.filter fun g => !inC k g
theorem allR_snoc (L : List Cg) (k : List Int) (g : Cg) : allR (L ++ [g]) k = bif inC k g then allR L k else allR L k ++ [g] := by
  unfold allR
  rw [List.filter_append]
  cases h : inC k g <;> simp [List.filter, h]
theorem allR_len (L : List Cg) (k : List Int) : (allR L k).length ≤ L.length := List.length_filter_le _ _
def lastR (L : List Cg) : Int := L.foldl (fun n g => max n g.ac) 0
theorem lastR_snoc (L : List Cg) (g : Cg) : lastR (L ++ [g]) = max (lastR L) g.ac := by simp [lastR]
/-- What Since tells. -/
def sinceI (k : List Int) (most : Int) : Int := bif !decide (clockI k = 0) then clockI k else bif decide (most < 1) then 1 else 0
def sinceM (L : List Cg) (k : List Int) (most : Int) : Bool := decide (sinceI k most = 0) && decide ((allR L k).length > most)
def sinceL (L : List Cg) (k : List Int) (most : Int) : List Cg := bif decide (sinceI k most = 0) then (allR L k).take most.toNat else []
theorem rdC_take {σ : St} {b : Bool} {R : R} {z : Nat} {es : List (List V)} {gs : List Cg} {n : Nat} (h : RdC σ (.sl b R z es) gs) : RdC σ (.sl b R.toView z (es.take n)) (gs.take n) := by
  obtain ⟨l, rfl, ⟨b', R', z', e, h1, h2⟩, h3⟩ := h
  cases e
  refine ⟨l.take n, by rw [List.map_take], ⟨_, _, _, by rw [show (cgsV l).take n = cgsV (l.take n) from by simp [cgsV, List.map_take]], fun hb => ?_, h2.imp_right fun x => ⟨rd_toView x.1, x.2⟩⟩, fun p hp => h3 p (List.mem_of_mem_take hp)⟩
  have := h1 hb
  have hl : l = [] := by simpa [cgsV] using this
  subst hl; simp [cgsV]
section
variable {σ : St} {v d f u : V} {g h : Cg} {gs : List Cg} {x : Sp} {r n room most : Int} {l m k : List Int}
set_option maxRecDepth 100000 in
set_option maxHeartbeats 4000000 in
theorem radd_src {l : List (V × Cg)} (hv2 : RdS σ v 13 (cgsV l)) (hds : Rds σ l) (hlen : l.length ≤ 1000000) (hd : RdS σ d 1 (intsV .i64 g.deps)) (hdl : g.deps.length ≤ 2000000) (hgl : ∀ h ∈ l.map (·.2), h.deps.length ≤ 2000000) (hnl : g.name.length < 4611686018427387904) :
    CallA Try.prog 35 [.agg [.int .i64 room, v], cgV d g] σ fun w σ' => (∃ u, w = .tup [.agg [.int .i64 room, u], .int .i64 (whyR (l.map (·.2)) room g)] ∧ RdC σ' u (addR (l.map (·.2)) room g) ∧ (u = v ∧ addR (l.map (·.2)) room g = l.map (·.2) ∨ SrcC σ.live.length σ' l u (addR (l.map (·.2)) room g))) ∧ Ext σ σ' ∧ σ'.objs = σ.objs := by
  have hv : RdC σ v (l.map (·.2)) := ⟨l, rfl, hv2, hds⟩
  obtain ⟨b, R, z, rfl, -, -⟩ := id hv2
  obtain ⟨db, dr, dz, rfl, -, -⟩ := id hd
  refine fn_at Try.func35 (by decide) comp35 rfl fun Q q1 q2 => ?_
  have hwy := why_ok (room := room) hv (by rw [List.length_map]; omega) hd hdl hgl hnl
  simp only [cgV, cgC] at hwy
  simp -implicitDefEqProofs only [go_sem, Nat.reduceBEq, Nat.reduceAdd, eq_self, true_and, and_true, and_self, List.getElem?_cons_zero, List.getElem?_cons_succ, Nat.reduceLeDiff, Nat.zero_add, Nat.reduceSub, Nat.le_refl, c35, cgV, cgC]
  refine call_at hwy ?_
  rintro w τ ⟨rfl, e1, o1⟩
  refine ⟨kept_none, ?_⟩
  unfold addR at q1 q2
  cases hc : decide (whyR (l.map (·.2)) room g = 0) <;> rw [hc] at q2
  · simp -implicitDefEqProofs only [go_sem, Nat.reduceBEq, Nat.reduceAdd, eq_self, true_and, and_true, and_self, List.getElem?_cons_zero, List.getElem?_cons_succ, Nat.reduceLeDiff, Nat.zero_add, Nat.reduceSub, Nat.le_refl, hc, Bool.not_false]
    refine q2 _ _ ?_
    simp -implicitDefEqProofs only [go_sem, Nat.reduceBEq, Nat.reduceAdd, eq_self, true_and, and_true, and_self, List.getElem?_cons_zero, List.getElem?_cons_succ, Nat.reduceLeDiff, Nat.zero_add, Nat.reduceSub, Nat.le_refl, Nat.lt_irrefl]
    first | exact ⟨⟨_, rfl, hv.ext e1, .inl rfl⟩, e1, o1⟩ | exact ⟨⟨_, rfl, hv.ext e1, .inl ⟨rfl, rfl⟩⟩, e1, o1⟩
  · have hpu := rput_src (g := g) (hv2.ext e1) (hds.ext e1) hlen (hd.ext e1) hdl
    simp only [cgV, cgC] at hpu
    simp -implicitDefEqProofs only [go_sem, Nat.reduceBEq, Nat.reduceAdd, eq_self, true_and, and_true, and_self, List.getElem?_cons_zero, List.getElem?_cons_succ, Nat.reduceLeDiff, Nat.zero_add, Nat.reduceSub, Nat.le_refl, hc, Bool.not_true]
    refine call_at hpu ?_
    rintro w τ2 ⟨a1, asr, e2, o2⟩
    refine ⟨e2.kept, ?_⟩
    have as2 : SrcC σ.live.length τ2 l w (putC g (l.map (·.2))) := by
      obtain ⟨O, q, x1, x2, x3, x5, x6, x4⟩ := asr
      exact ⟨O, q, x1, Nat.le_trans e1.llen x2, x3, x5, x6, fun p hp => (x4 p hp).imp_right fun ⟨r, y1, y2⟩ => ⟨r, y1, Nat.le_trans e1.llen y2⟩⟩
    clear asr
    obtain ⟨l2, h1, h2, h3⟩ := id a1
    obtain ⟨b2, R2, zz2, rfl, -, -⟩ := id h2
    have h0 : whyR (l.map (·.2)) room g = 0 := of_decide_eq_true hc
    rw [h0] at q2
    simp -implicitDefEqProofs only [go_sem, Nat.reduceBEq, Nat.reduceAdd, eq_self, true_and, and_true, and_self, List.getElem?_cons_zero, List.getElem?_cons_succ, Nat.reduceLeDiff, Nat.zero_add, Nat.reduceSub, Nat.le_refl, Nat.lt_irrefl]
    refine q2 _ _ ?_
    simp -implicitDefEqProofs only [go_sem, Nat.reduceBEq, Nat.reduceAdd, eq_self, true_and, and_true, and_self, List.getElem?_cons_zero, List.getElem?_cons_succ, Nat.reduceLeDiff, Nat.zero_add, Nat.reduceSub, Nat.le_refl, Nat.lt_irrefl]
    exact ⟨⟨_, rfl, a1, .inr as2⟩, e1.trans e2, o2.trans o1⟩
theorem radd_ok (hv : RdC σ v gs) (hlen : gs.length ≤ 1000000) (hd : RdS σ d 1 (intsV .i64 g.deps)) (hdl : g.deps.length ≤ 2000000) (hgl : ∀ h ∈ gs, h.deps.length ≤ 2000000) (hnl : g.name.length < 4611686018427387904) :
    CallA Try.prog 35 [.agg [.int .i64 room, v], cgV d g] σ fun w σ' => (∃ u, w = .tup [.agg [.int .i64 room, u], .int .i64 (whyR gs room g)] ∧ RdC σ' u (addR gs room g)) ∧ Ext σ σ' ∧ σ'.objs = σ.objs := by
  obtain ⟨l, rfl, hv2, hds⟩ := hv
  exact (radd_src hv2 hds (by rwa [List.length_map] at hlen) hd hdl hgl hnl).mono fun _ _ ⟨⟨u, h1, h2, _⟩, h3⟩ => ⟨⟨u, h1, h2⟩, h3⟩
set_option maxRecDepth 100000 in
set_option maxHeartbeats 4000000 in
theorem rall_ok (hv : RdC σ v gs) (hlen : gs.length ≤ 1000000) (hk : RdS σ u 1 (intsV .i64 k)) :
    CallA Try.prog 17 [v, u] σ fun w σ' => RdC σ' w (allR gs k) ∧ Ext σ σ' ∧ σ'.objs = σ.objs := by
  obtain ⟨l, rfl, hv, hds⟩ := hv
  obtain ⟨b, R, z, rfl, -, -⟩ := id hv
  refine fn_at Try.func17 (by decide) comp17 rfl fun Q q1 q2 => ?_
  have hcl := cgsV_len l
  rw [List.length_map] at hlen
  simp -implicitDefEqProofs only [go_sem, Nat.reduceBEq, Nat.reduceAdd, eq_self, true_and, and_true, and_self, List.getElem?_cons_zero, List.getElem?_cons_succ, Nat.reduceLeDiff, Nat.zero_add, Nat.reduceSub, Nat.le_refl, c17]
  have hA0 := Acc13.new (Ext.refl σ) rfl
  refine loop_at (fun (y : Nat × List (V × Cg) × Nat) => ⟨[(0, .v (.sl b R z (cgsV l))), (1, .v u), (5, .v (.sl false (.own y.2.2) 13 (cgsV y.2.1))), (6, .v (.int .i64 y.1))], []⟩)
    (fun y t => y.1 ≤ l.length ∧ y.2.1.map (·.2) = allR ((l.map (·.2)).take y.1) k ∧ Acc13 σ t y.2.2 y.2.1) (fun y => l.length - y.1) (0, [], σ.live.length) ?_ ?_ ?_
  · refine .inr ?_
    simp -implicitDefEqProofs only [go_sem, Nat.reduceBEq, Nat.reduceAdd, eq_self, true_and, and_true, and_self, List.getElem?_cons_zero, List.getElem?_cons_succ, Nat.reduceLeDiff, Nat.zero_add, Nat.reduceSub, Nat.le_refl, Nat.lt_irrefl]
    try exact ⟨rfl, rfl⟩
  · exact ⟨Nat.zero_le _, rfl, hA0⟩
  rintro ⟨y, O, q⟩ τ ⟨g1, g2, g3⟩ Z z1 z2 z3
  simp only at g1 g2 g3
  have hOl : O.length ≤ y := by
    have := congrArg List.length g2
    have h2 := allR_len ((l.map (·.2)).take y) k
    rw [List.length_map] at this
    rw [List.length_take] at h2
    omega
  simp -implicitDefEqProofs only [go_sem, Nat.reduceBEq, Nat.reduceAdd, eq_self, true_and, and_true, and_self, List.getElem?_cons_zero, List.getElem?_cons_succ, Nat.reduceLeDiff, Nat.zero_add, Nat.reduceSub, Nat.le_refl, hcl]
  refine CondW_b (fun hcc => ?_) (fun hcc => ?_)
  · have hi : y < l.length := by simpa using hcc
    have hget := cgsV_get hi
    have hwy : IntKind.i64.wrap ((y : Int) + 1) = ((y + 1 : Nat) : Int) := by rw [i64_in _ (by omega)]; omega
    obtain ⟨k1, k2⟩ := rdl (hv.ext g3.ext) (cgsV_ne hi)
    have htk : (l.map (·.2)).take (y + 1) = (l.map (·.2)).take y ++ [l[y].2] := by rw [List.take_succ_eq_append_getElem (by simpa using hi)]; simp
    have hdi := hds _ (List.getElem_mem hi)
    generalize l[y] = p at hget htk hdi
    obtain ⟨d2, h⟩ := p
    simp only at hget htk hdi
    obtain ⟨db, dr, dz, rfl, -, -⟩ := id hdi
    have hal := allR_snoc ((l.map (·.2)).take y) k h
    rw [← htk] at hal
    have hwi := within_ok (d := .sl db dr dz (intsV .i64 h.deps)) (g := h) (hk.ext g3.ext)
    simp only [cgV, cgC] at hwi
    have hO2 := cgsV_len O
    refine cut_at (fun G τ2 => ∃ O2 q2, G = ⟨[(0, .v (.sl b R z (cgsV l))), (1, .v u), (5, .v (.sl false (.own q2) 13 (cgsV O2))), (6, .v (.int .i64 y))], []⟩ ∧ O2.map (·.2) = allR ((l.map (·.2)).take (y + 1)) k ∧ Acc13 σ τ2 q2 O2) ?_ ?_
    case refine_2 =>
      rintro G τ2 ⟨O2, q2', rfl, t1, t2⟩
      simp -implicitDefEqProofs only [go_sem, Nat.reduceBEq, Nat.reduceAdd, eq_self, true_and, and_true, and_self, List.getElem?_cons_zero, List.getElem?_cons_succ, Nat.reduceLeDiff, Nat.zero_add, Nat.reduceSub, Nat.le_refl, hwy]
      refine z1 (y + 1, O2, _) _ _ (.inr ?_) (by simp only; omega) ⟨by simp only; omega, t1, t2⟩
      simp -implicitDefEqProofs only [go_sem, Nat.reduceBEq, Nat.reduceAdd, eq_self, true_and, and_true, and_self, List.getElem?_cons_zero, List.getElem?_cons_succ, Nat.reduceLeDiff, Nat.zero_add, Nat.reduceSub, Nat.le_refl, Nat.lt_irrefl]
      try exact ⟨rfl, rfl⟩
    intro Y y1 y2 y3
    simp -implicitDefEqProofs only [go_sem, Nat.reduceBEq, Nat.reduceAdd, eq_self, true_and, and_true, and_self, List.getElem?_cons_zero, List.getElem?_cons_succ, Nat.reduceLeDiff, Nat.zero_add, Nat.reduceSub, Nat.le_refl, hcl, hget, cgC]
    refine ⟨⟨by omega, by omega, k2⟩, k1, ?_⟩
    refine call_at hwi ?_
    rintro w τ2 ⟨rfl, hτ2⟩
    have hτ2 := hτ2.symm
    subst hτ2
    refine ⟨(Ext.refl _).kept, ?_⟩
    have hin : decide (h.seq ≤ atD k h.ar) = inC k h := rfl
    rw [hin]
    cases hx : inC k h <;> rw [hx] at hal
    · simp -implicitDefEqProofs only [go_sem, Nat.reduceBEq, Nat.reduceAdd, eq_self, true_and, and_true, and_self, List.getElem?_cons_zero, List.getElem?_cons_succ, Nat.reduceLeDiff, Nat.zero_add, Nat.reduceSub, Nat.le_refl, Bool.not_false, hcl, hget, cgC]
      refine ⟨⟨by omega, by omega, k2⟩, k1, ⟨.inr trivial, .inr ((ext_live _ _).live _ g3.live), ⟨.inr (live_last _ _), .inl trivial⟩, by omega⟩, ?_⟩
      refine y1 _ _ _ (.inr ?_) ⟨O ++ [(.sl db dr dz (intsV .i64 h.deps), h)], _, rfl, ?_, g3.app (.refl _) rfl (g3.old (.refl _) hdi)⟩
      · rw [← cgsV_snoc]
        simp -implicitDefEqProofs only [go_sem, Nat.reduceBEq, Nat.reduceAdd, eq_self, true_and, and_true, and_self, List.getElem?_cons_zero, List.getElem?_cons_succ, Nat.reduceLeDiff, Nat.zero_add, Nat.reduceSub, Nat.le_refl, cgC]
        try exact ⟨rfl, rfl⟩
      · rw [hal, List.map_append, g2]; rfl
    · simp -implicitDefEqProofs only [go_sem, Nat.reduceBEq, Nat.reduceAdd, eq_self, true_and, and_true, and_self, List.getElem?_cons_zero, List.getElem?_cons_succ, Nat.reduceLeDiff, Nat.zero_add, Nat.reduceSub, Nat.le_refl, Bool.not_true]
      refine y1 _ _ _ (.inr ?_) ⟨O, _, rfl, by rw [hal, g2]; rfl, g3⟩
      simp -implicitDefEqProofs only [go_sem, Nat.reduceBEq, Nat.reduceAdd, eq_self, true_and, and_true, and_self, List.getElem?_cons_zero, List.getElem?_cons_succ, Nat.reduceLeDiff, Nat.zero_add, Nat.reduceSub, Nat.le_refl, Nat.lt_irrefl]
      try exact ⟨rfl, rfl⟩
  · rw [List.take_of_length_le (by have : ¬ y < l.length := by simpa using hcc
                                   rw [map2_len]; omega)] at g2
    have hrd := g3.rd
    rw [g2] at hrd
    simp -implicitDefEqProofs only [go_sem, Nat.reduceBEq, Nat.reduceAdd, eq_self, true_and, and_true, and_self, List.getElem?_cons_zero, List.getElem?_cons_succ, Nat.reduceLeDiff, Nat.zero_add, Nat.reduceSub, Nat.le_refl, Nat.lt_irrefl]
    refine z2 _ _ _ ?_
    simp -implicitDefEqProofs only [go_sem, Nat.reduceBEq, Nat.reduceAdd, eq_self, true_and, and_true, and_self, List.getElem?_cons_zero, List.getElem?_cons_succ, Nat.reduceLeDiff, Nat.zero_add, Nat.reduceSub, Nat.le_refl, Nat.lt_irrefl]
    refine q2 _ _ ?_
    simp -implicitDefEqProofs only [go_sem, Nat.reduceBEq, Nat.reduceAdd, eq_self, true_and, and_true, and_self, List.getElem?_cons_zero, List.getElem?_cons_succ, Nat.reduceLeDiff, Nat.zero_add, Nat.reduceSub, Nat.le_refl, Nat.lt_irrefl]
    exact ⟨hrd, g3.ext, g3.objs⟩
set_option maxRecDepth 100000 in
set_option maxHeartbeats 4000000 in
theorem rsince_ok (hv : RdC σ v gs) (hlen : gs.length ≤ 1000000) (hk : RdS σ u 1 (intsV .i64 k)) :
    CallA Try.prog 32 [v, u, .int .i64 most] σ fun w σ' => (∃ a, w = .tup [a, .bool (sinceM gs k most), .int .i64 (sinceI k most)] ∧ RdC σ' a (sinceL gs k most)) ∧ Ext σ σ' ∧ σ'.objs = σ.objs := by
  refine fn_at Try.func32 (by decide) comp32 rfl fun Q q1 q2 => ?_
  have hck := rclock_ok hk
  have hn0 : ∀ τ : St, RdC τ (.sl true .pub 13 []) [] := fun τ => ⟨[], rfl, ⟨_, _, _, rfl, fun _ => rfl, .inl rfl⟩, by intro p hp; cases hp⟩
  unfold sinceM sinceL at q1 q2
  simp -implicitDefEqProofs only [go_sem, Nat.reduceBEq, Nat.reduceAdd, eq_self, true_and, and_true, and_self, List.getElem?_cons_zero, List.getElem?_cons_succ, Nat.reduceLeDiff, Nat.zero_add, Nat.reduceSub, Nat.le_refl, c32]
  refine call_at hck ?_
  rintro w τ2 ⟨hτ2, rfl⟩
  have hτ2 := hτ2.symm
  subst hτ2
  refine ⟨(Ext.refl _).kept, ?_⟩
  cases hc : decide (clockI k = 0)
  · have hs : sinceI k most = clockI k := by unfold sinceI; rw [hc]; rfl
    rw [hs, hc] at q1 q2
    simp -implicitDefEqProofs only [go_sem, Nat.reduceBEq, Nat.reduceAdd, eq_self, true_and, and_true, and_self, List.getElem?_cons_zero, List.getElem?_cons_succ, Nat.reduceLeDiff, Nat.zero_add, Nat.reduceSub, Nat.le_refl, hc, Bool.not_false]
    refine call_at hck ?_
    rintro w τ2 ⟨hτ2, rfl⟩
    have hτ2 := hτ2.symm
    subst hτ2
    refine ⟨(Ext.refl _).kept, ?_⟩
    simp -implicitDefEqProofs only [go_sem, Nat.reduceBEq, Nat.reduceAdd, eq_self, true_and, and_true, and_self, List.getElem?_cons_zero, List.getElem?_cons_succ, Nat.reduceLeDiff, Nat.zero_add, Nat.reduceSub, Nat.le_refl, Nat.lt_irrefl]
    refine q2 _ _ ?_
    simp -implicitDefEqProofs only [go_sem, Nat.reduceBEq, Nat.reduceAdd, eq_self, true_and, and_true, and_self, List.getElem?_cons_zero, List.getElem?_cons_succ, Nat.reduceLeDiff, Nat.zero_add, Nat.reduceSub, Nat.le_refl, Nat.lt_irrefl]
    exact ⟨⟨_, rfl, hn0 _⟩, .refl _⟩
  cases hm : decide (most < 1)
  case true =>
    have hs : sinceI k most = 1 := by unfold sinceI; rw [hc, hm]; rfl
    have h10 : decide ((1 : Int) = 0) = false := by decide
    rw [hs, h10] at q1 q2
    simp -implicitDefEqProofs only [go_sem, Nat.reduceBEq, Nat.reduceAdd, eq_self, true_and, and_true, and_self, List.getElem?_cons_zero, List.getElem?_cons_succ, Nat.reduceLeDiff, Nat.zero_add, Nat.reduceSub, Nat.le_refl, hc, Bool.not_true, hm]
    refine q2 _ _ ?_
    simp -implicitDefEqProofs only [go_sem, Nat.reduceBEq, Nat.reduceAdd, eq_self, true_and, and_true, and_self, List.getElem?_cons_zero, List.getElem?_cons_succ, Nat.reduceLeDiff, Nat.zero_add, Nat.reduceSub, Nat.le_refl, Nat.lt_irrefl]
    exact ⟨⟨_, rfl, hn0 _⟩, .refl _⟩
  have hs : sinceI k most = 0 := by unfold sinceI; rw [hc, hm]; rfl
  have h00 : decide ((0 : Int) = 0) = true := by decide
  have hm1 : 1 ≤ most := by have := of_decide_eq_false hm; omega
  rw [hs, h00] at q1 q2
  simp only [Bool.true_and, cond_true] at q1 q2
  simp -implicitDefEqProofs only [go_sem, Nat.reduceBEq, Nat.reduceAdd, eq_self, true_and, and_true, and_self, List.getElem?_cons_zero, List.getElem?_cons_succ, Nat.reduceLeDiff, Nat.zero_add, Nat.reduceSub, Nat.le_refl, hc, Bool.not_true, hm]
  refine call_at (rall_ok hv hlen hk) ?_
  rintro w τ2 ⟨a1, e1, o1⟩
  refine ⟨kept_none, ?_⟩
  obtain ⟨l2, h1, h2, h3⟩ := id a1
  obtain ⟨b2, R2, zz2, rfl, -, -⟩ := id h2
  have hl2 : (cgsV l2).length = (allR gs k).length := by rw [← h1, cgsV_len, map2_len]
  cases hg : decide (((allR gs k).length : Int) > most) <;> rw [hg] at q1 q2
  · have htk : (allR gs k).take most.toNat = allR gs k := List.take_of_length_le (by have := of_decide_eq_false hg; omega)
    rw [htk] at q1 q2
    simp -implicitDefEqProofs only [go_sem, Nat.reduceBEq, Nat.reduceAdd, eq_self, true_and, and_true, and_self, List.getElem?_cons_zero, List.getElem?_cons_succ, Nat.reduceLeDiff, Nat.zero_add, Nat.reduceSub, Nat.le_refl, hl2, hg]
    refine q2 _ _ ?_
    simp -implicitDefEqProofs only [go_sem, Nat.reduceBEq, Nat.reduceAdd, eq_self, true_and, and_true, and_self, List.getElem?_cons_zero, List.getElem?_cons_succ, Nat.reduceLeDiff, Nat.zero_add, Nat.reduceSub, Nat.le_refl, Nat.lt_irrefl]
    exact ⟨⟨_, rfl, a1⟩, e1, o1⟩
  · have hlt := of_decide_eq_true hg
    have htk := rdC_take (n := most.toNat) a1
    obtain ⟨q8, q9⟩ := rd_src h2
    simp -implicitDefEqProofs only [go_sem, Nat.reduceBEq, Nat.reduceAdd, eq_self, true_and, and_true, and_self, List.getElem?_cons_zero, List.getElem?_cons_succ, Nat.reduceLeDiff, Nat.zero_add, Nat.reduceSub, Nat.le_refl, hl2, hg]
    refine ⟨⟨rd_z h2, by omega, by omega, by omega⟩, ?_⟩
    refine q2 _ _ ?_
    simp -implicitDefEqProofs only [go_sem, Nat.reduceBEq, Nat.reduceAdd, eq_self, true_and, and_true, and_self, List.getElem?_cons_zero, List.getElem?_cons_succ, Nat.reduceLeDiff, Nat.zero_add, Nat.reduceSub, Nat.le_refl, Nat.lt_irrefl]
    exact ⟨⟨_, rfl, htk⟩, e1, o1⟩
set_option maxRecDepth 100000 in
set_option maxHeartbeats 1000000 in
theorem rlast_ok (hv : RdC σ v gs) (hlen : gs.length ≤ 1000000) : CallA Try.prog 61 [v] σ fun w σ' => w = .int .i64 (lastR gs) ∧ σ' = σ := by
  obtain ⟨l, rfl, hv, hds⟩ := hv
  obtain ⟨b, R, z, rfl, -, -⟩ := id hv
  refine fn_at Try.func61 (by decide) comp61 rfl fun Q q1 q2 => ?_
  have hcl := cgsV_len l
  rw [List.length_map] at hlen
  simp -implicitDefEqProofs only [go_sem, Nat.reduceBEq, Nat.reduceAdd, eq_self, true_and, and_true, and_self, List.getElem?_cons_zero, List.getElem?_cons_succ, Nat.reduceLeDiff, Nat.zero_add, Nat.reduceSub, Nat.le_refl, c61]
  refine loop_at (fun (y : Nat) => ⟨[(0, .v (.sl b R z (cgsV l))), (3, .v (.int .i64 (lastR ((l.map (·.2)).take y)))), (4, .v (.int .i64 y))], []⟩)
    (fun y t => y ≤ l.length ∧ t = σ) (fun y => l.length - y) 0 ?_ ?_ ?_
  · refine .inr ?_
    simp -implicitDefEqProofs only [go_sem, Nat.reduceBEq, Nat.reduceAdd, eq_self, true_and, and_true, and_self, List.getElem?_cons_zero, List.getElem?_cons_succ, Nat.reduceLeDiff, Nat.zero_add, Nat.reduceSub, Nat.le_refl, Nat.lt_irrefl]
    try exact ⟨rfl, rfl⟩
    try rfl
  · exact ⟨Nat.zero_le _, rfl⟩
  rintro y τ ⟨g1, hτ⟩ Z z1 z2 z3
  have hτ := hτ.symm
  subst hτ
  simp -implicitDefEqProofs only [go_sem, Nat.reduceBEq, Nat.reduceAdd, eq_self, true_and, and_true, and_self, List.getElem?_cons_zero, List.getElem?_cons_succ, Nat.reduceLeDiff, Nat.zero_add, Nat.reduceSub, Nat.le_refl, hcl]
  refine CondW_b (fun hcc => ?_) (fun hcc => ?_)
  · have hi : y < l.length := by simpa using hcc
    have hget := cgsV_get hi
    have hwy : IntKind.i64.wrap ((y : Int) + 1) = ((y + 1 : Nat) : Int) := by rw [i64_in _ (by omega)]; omega
    obtain ⟨k1, k2⟩ := rdl hv (cgsV_ne hi)
    have htk : (l.map (·.2)).take (y + 1) = (l.map (·.2)).take y ++ [l[y].2] := by rw [List.take_succ_eq_append_getElem (by simpa using hi)]; simp
    generalize hp : l[y] = p at hget htk
    obtain ⟨d2, h⟩ := p
    simp only at hget htk
    have hla := lastR_snoc ((l.map (·.2)).take y) h
    rw [← htk] at hla
    simp -implicitDefEqProofs only [go_sem, Nat.reduceBEq, Nat.reduceAdd, eq_self, true_and, and_true, and_self, List.getElem?_cons_zero, List.getElem?_cons_succ, Nat.reduceLeDiff, Nat.zero_add, Nat.reduceSub, Nat.le_refl, hcl, hget, cgC]
    refine ⟨⟨by omega, by omega, k2⟩, k1, ?_⟩
    refine z1 (y + 1) _ _ (.inr ?_) (by omega) ⟨by omega, rfl⟩
    have hmx : (if h.ac > lastR ((l.map (·.2)).take y) then h.ac else lastR ((l.map (·.2)).take y)) = max (lastR ((l.map (·.2)).take y)) h.ac := by
      rw [Int.max_def]; split <;> split <;> omega
    simp -implicitDefEqProofs only [go_sem, Nat.reduceBEq, Nat.reduceAdd, eq_self, true_and, and_true, and_self, List.getElem?_cons_zero, List.getElem?_cons_succ, Nat.reduceLeDiff, Nat.zero_add, Nat.reduceSub, Nat.le_refl, hla, hwy]
    rw [hmx]
  · have hy : y = l.length := by have : ¬ y < l.length := by simpa using hcc
                                 omega
    have htk : (l.map (·.2)).take y = l.map (·.2) := List.take_of_length_le (by rw [map2_len]; omega)
    simp -implicitDefEqProofs only [go_sem, Nat.reduceBEq, Nat.reduceAdd, eq_self, true_and, and_true, and_self, List.getElem?_cons_zero, List.getElem?_cons_succ, Nat.reduceLeDiff, Nat.zero_add, Nat.reduceSub, Nat.le_refl, htk]
    refine z2 _ _ _ ?_
    simp -implicitDefEqProofs only [go_sem, Nat.reduceBEq, Nat.reduceAdd, eq_self, true_and, and_true, and_self, List.getElem?_cons_zero, List.getElem?_cons_succ, Nat.reduceLeDiff, Nat.zero_add, Nat.reduceSub, Nat.le_refl, Nat.lt_irrefl]
    refine q2 _ _ ?_
    simp -implicitDefEqProofs only [go_sem, Nat.reduceBEq, Nat.reduceAdd, eq_self, true_and, and_true, and_self, List.getElem?_cons_zero, List.getElem?_cons_succ, Nat.reduceLeDiff, Nat.zero_add, Nat.reduceSub, Nat.le_refl, Nat.lt_irrefl]
end
end Go.VL.opl

namespace Go.VL.opl
open Go Go.VL Go.Proofs Go.IntWalk Go.VL.st Go.VL.row

def ownL (L : List Cg) (r : Int) : List Cg := L.filter fun g => decide (g.ar = r)
theorem ownL_len (L : List Cg) (r : Int) : (ownL L r).length = cnt L r := rfl
structure Good (L : List Cg) : Prop where
  srt : L.Pairwise fun a b => st.less (atS a) (atS b) = true
  chk : ∀ g ∈ L, chkI g = 0
  seq : ∀ (r : Int) (j : Nat) (h : j < (ownL L r).length), (ownL L r)[j].seq = j + 1
theorem good_nil : Good [] := ⟨.nil, by simp, fun r j h => by simp [ownL] at h⟩
/-- What a right change has. -/
theorem chk_has {g : Cg} (hok : chkI g = 0) : st.right (atS g) = true ∧ (1 ≤ g.seq ∧ g.seq ≤ g.ac) ∧ clockI g.deps = 0 ∧ atD g.deps g.ar = g.seq - 1 := by
  unfold chkI at hok
  cases h1 : (decide (g.kind < 1) || decide (5 < g.kind)) <;> rw [h1] at hok
  case true => cases hok
  simp only [cond_false] at hok
  cases h2 : right g.ac g.ar <;> rw [h2] at hok
  · cases hok
  cases h3 : (decide (g.seq < 1) || decide (g.ac < g.seq)) <;> rw [h3] at hok
  case true => cases hok
  simp only [Bool.or_eq_false_iff, decide_eq_false_iff_not] at h3
  simp only [Bool.not_true, cond_false] at hok
  have hd : depsI g = 0 := by
    cases h4 : decide (depsI g = 0) <;> rw [h4] at hok
    · simp only [Bool.not_false, cond_true] at hok
      exact absurd hok (of_decide_eq_false h4)
    · exact of_decide_eq_true h4
  refine ⟨h2, ⟨by omega, by omega⟩, ?_⟩
  unfold depsI at hd
  cases h5 : decide (clockI g.deps = 0) <;> rw [h5] at hd
  · simp only [Bool.not_false, cond_true] at hd
    exact absurd hd (of_decide_eq_false h5)
  simp only [Bool.not_true, cond_false] at hd
  cases h6 : decide (atD g.deps g.ar = g.seq - 1)
  · rw [h6, Bool.not_false, Bool.or_true] at hd
    cases hd
  · exact ⟨of_decide_eq_true h5, of_decide_eq_true h6⟩
theorem right_has {s : Sp} (h : st.right s = true) : (1 ≤ s.c ∧ s.c ≤ 1099511627776) ∧ 0 ≤ s.r ∧ s.r < 64 := by
  simp only [st.right, Bool.and_eq_true, decide_eq_true_eq] at h
  exact ⟨⟨h.1, h.2.1⟩, h.2.2.1, h.2.2.2⟩
theorem clock_has {l : List Int} (h : clockI l = 0) : l.length ≤ 64 ∧ ∀ n ∈ l, 0 ≤ n ∧ n ≤ 1099511627776 := by
  unfold clockI at h
  cases h1 : decide ((64 : Int) < l.length) <;> rw [h1] at h
  case true => cases h
  simp only [cond_false] at h
  cases h2 : l.any badN <;> rw [h2] at h
  case true => cases h
  rw [List.any_eq_false] at h2
  refine ⟨by have := of_decide_eq_false h1; omega, fun n hn => ?_⟩
  have := h2 n hn
  simp only [badN, Bool.not_eq_true, Bool.or_eq_false_iff, decide_eq_false_iff_not] at this
  omega
theorem srt_uniq1 {L : List Cg} (h : L.Pairwise fun a b => st.less (atS a) (atS b) = true) {a b : Cg} (ha : a ∈ L) (hb : b ∈ L) (e : atS a = atS b) : a = b := by
  obtain ⟨i, hi, rfl⟩ := List.getElem_of_mem ha
  obtain ⟨j, hj, rfl⟩ := List.getElem_of_mem hb
  rw [List.pairwise_iff_getElem] at h
  rcases Nat.lt_trichotomy i j with k | k | k
  · have := h i j hi hj k
    rw [e, less_irr] at this; cases this
  · subst k; rfl
  · have := h j i hj hi k
    rw [e, less_irr] at this; cases this
theorem find_A {L : List Cg} (h : L.Pairwise fun a b => st.less (atS a) (atS b) = true) {x : Sp} {g : Cg} : L.find? (isA x) = some g ↔ g ∈ L ∧ atS g = x := by
  constructor
  · intro e
    have h1 := List.find?_some e
    exact ⟨List.mem_of_find?_eq_some e, of_decide_eq_true h1⟩
  · rintro ⟨h1, h2⟩
    cases hf : L.find? (isA x) with
    | none =>
      rw [List.find?_eq_none] at hf
      exact absurd (by simp [isA, h2]) (hf g h1)
    | some k =>
      have h3 := List.find?_some hf
      rw [srt_uniq1 h (List.mem_of_find?_eq_some hf) h1 ((of_decide_eq_true h3).trans h2.symm)]
theorem find_A_none {L : List Cg} {x : Sp} : L.find? (isA x) = none ↔ ∀ g ∈ L, atS g ≠ x := by
  rw [List.find?_eq_none]
  simp [isA]
theorem own_mem {L : List Cg} {r : Int} {g : Cg} : g ∈ ownL L r ↔ g ∈ L ∧ g.ar = r := by simp [ownL]
theorem Good.find_O {L : List Cg} (h : Good L) {r n : Int} (hn : 1 ≤ n) : L.find? (isO r n) = (ownL L r)[n.toNat - 1]? := by
  cases hf : L.find? (isO r n) with
  | some g =>
    have h1 := List.find?_some hf
    simp only [isO, Bool.and_eq_true, decide_eq_true_eq] at h1
    obtain ⟨j, hj, hg⟩ := List.getElem_of_mem (own_mem.2 ⟨List.mem_of_find?_eq_some hf, h1.1⟩)
    have h2 := h.seq r j hj
    rw [hg, h1.2] at h2
    rw [show n.toNat - 1 = j by omega, List.getElem?_eq_getElem hj, hg]
  | none =>
    rw [List.find?_eq_none] at hf
    by_cases hj : n.toNat - 1 < (ownL L r).length
    · have h2 := h.seq r _ hj
      have h3 := own_mem.1 (List.getElem_mem hj)
      refine absurd ?_ (hf _ h3.1)
      simp only [isO, h3.2, h2, decide_true, Bool.true_and, decide_eq_true_eq]
      omega
    · rw [List.getElem?_eq_none (by omega)]
theorem Good.isO_cnt {L : List Cg} (h : Good L) {r n : Int} (hn : 1 ≤ n) : (L.find? (isO r n)).isSome = decide (n ≤ cnt L r) := by
  rw [h.find_O hn]
  by_cases hj : n.toNat - 1 < (ownL L r).length
  · rw [List.getElem?_eq_getElem hj, Option.isSome_some]
    rw [ownL_len] at hj
    simp; omega
  · rw [List.getElem?_eq_none (by omega), Option.isSome_none]
    rw [ownL_len] at hj
    simp; omega
/-- Where a stamp stands, or would. -/
def PlaceAt (L : List Cg) (x : Sp) (i : Nat) : Prop := i ≤ L.length ∧ (∀ (k : Nat) (h : k < L.length), k < i → st.less (atS L[k]) x = true) ∧ ∀ (k : Nat) (h : k < L.length), i ≤ k → st.less (atS L[k]) x = false
theorem PlaceAt.found {L : List Cg} {x : Sp} {i : Nat} (h : PlaceAt L x i) (hs : L.Pairwise fun a b => st.less (atS a) (atS b) = true) :
    (L.find? (isA x) = none ∧ ∀ hi : i < L.length, atS L[i] ≠ x) ∨ ∃ hi : i < L.length, atS L[i] = x ∧ L.find? (isA x) = some L[i] := by
  by_cases hc : ∃ hi : i < L.length, atS L[i] = x
  · obtain ⟨hi, e⟩ := hc
    exact .inr ⟨hi, e, (find_A hs).2 ⟨List.getElem_mem hi, e⟩⟩
  · refine .inl ⟨find_A_none.2 fun g hg e => ?_, fun hi e => hc ⟨hi, e⟩⟩
    obtain ⟨k, hk, rfl⟩ := List.getElem_of_mem hg
    rcases Nat.lt_trichotomy k i with h1 | h1 | h1
    · have := h.2.1 k hk h1
      rw [e, less_irr] at this; cases this
    · subst h1; exact hc ⟨hk, e⟩
    · have h2 := (List.pairwise_iff_getElem.1 hs) i k (by omega) hk h1
      rw [e] at h2
      rw [h.2.2 i (by omega) (Nat.le_refl _)] at h2; cases h2
theorem PlaceAt.put {L : List Cg} {g : Cg} {i : Nat} (h : PlaceAt L (atS g) i) (hn : L.find? (isA (atS g)) = none) : putC g L = L.take i ++ g :: L.drop i := by
  rw [find_A_none] at hn
  induction L generalizing i with
  | nil => simp [putC]
  | cons a t ih =>
    obtain ⟨h1, h2, h3⟩ := h
    cases i with
    | zero =>
      have e1 : st.less (atS a) (atS g) = false := h3 0 (by simp) (Nat.le_refl _)
      have e2 : lessC g a = true := less_of e1 (hn a (by simp))
      simp [putC, e2]
    | succ i =>
      have e1 : st.less (atS a) (atS g) = true := h2 0 (by simp) (by omega)
      have e2 : lessC g a = false := less_asymm e1
      simp only [putC, e2, cond_false, List.take_succ_cons, List.drop_succ_cons, List.cons_append]
      rw [ih (i := i) ⟨by simp at h1; omega, fun k hk hki => h2 (k + 1) (by simpa using hk) (by omega), fun k hk hki => h3 (k + 1) (by simpa using hk) (by omega)⟩ fun x hx => hn x (by simp [hx])]
theorem putC_srt {g : Cg} : ∀ {L : List Cg}, (L.Pairwise fun a b => st.less (atS a) (atS b) = true) → (∀ h ∈ L, atS h ≠ atS g) → (putC g L).Pairwise fun a b => st.less (atS a) (atS b) = true
  | [], _, _ => by simp [putC]
  | a :: t, hs, hn => by
    rw [List.pairwise_cons] at hs
    simp only [putC]
    cases e : lessC g a
    · rw [cond_false, List.pairwise_cons]
      have h1 : st.less (atS a) (atS g) = true := less_of e (Ne.symm (hn a (by simp)))
      refine ⟨fun x hx => ?_, putC_srt hs.2 fun h hh => hn h (by simp [hh])⟩
      rcases putC_mem.1 hx with rfl | hx
      · exact h1
      · exact hs.1 x hx
    · rw [cond_true, List.pairwise_cons, List.pairwise_cons]
      refine ⟨fun x hx => ?_, hs.1, hs.2⟩
      rcases List.mem_cons.1 hx with rfl | hx
      · exact e
      · exact less_trans e (hs.1 x hx)
theorem putC_own {g : Cg} {r : Int} (hr : g.ar ≠ r) : ∀ L : List Cg, ownL (putC g L) r = ownL L r
  | [] => by simp [putC, ownL, hr]
  | a :: t => by
    have ih := putC_own hr t
    unfold ownL at ih ⊢
    simp only [putC]
    cases lessC g a
    · rw [cond_false, List.filter_cons, List.filter_cons, ih]
    · rw [cond_true, List.filter_cons]; simp [hr]
theorem putC_own' {g : Cg} : ∀ {L : List Cg}, (∀ h ∈ ownL L g.ar, lessC g h = false) → (L.Pairwise fun a b => st.less (atS a) (atS b) = true) → ownL (putC g L) g.ar = ownL L g.ar ++ [g]
  | [], _, _ => by simp [putC, ownL]
  | a :: t, h, hs => by
    rw [List.pairwise_cons] at hs
    simp only [putC]
    cases e : lessC g a
    · have ih := putC_own' (L := t) (fun x hx => h x (by rw [own_mem] at hx ⊢; exact ⟨by simp [hx.1], hx.2⟩)) hs.2
      rw [cond_false]
      unfold ownL at ih ⊢
      rw [List.filter_cons, List.filter_cons, ih]
      split <;> rfl
    · rw [cond_true]
      have hn : ∀ x ∈ a :: t, x.ar ≠ g.ar := by
        intro x hx e2
        have h1 := h x (own_mem.2 ⟨hx, e2⟩)
        rcases List.mem_cons.1 hx with rfl | hx
        · rw [e] at h1; cases h1
        · have : lessC g x = true := less_trans e (hs.1 x hx)
          rw [this] at h1; cases h1
      have e0 : ownL (a :: t) g.ar = [] := by
        unfold ownL
        rw [List.filter_eq_nil_iff]
        intro x hx
        simp [hn x hx]
      have e1 : ownL (g :: a :: t) g.ar = g :: ownL (a :: t) g.ar := by unfold ownL; rw [List.filter_cons]; simp
      rw [e1, e0]; rfl
theorem putC_find {L : List Cg} {g : Cg} (hs : L.Pairwise fun a b => st.less (atS a) (atS b) = true) (hn : ∀ h ∈ L, atS h ≠ atS g) (x : Sp) : (putC g L).find? (isA x) = if x = atS g then some g else L.find? (isA x) := by
  split
  · rename_i e
    exact (find_A (putC_srt hs hn)).2 ⟨putC_mem.2 (.inl rfl), e.symm⟩
  · rename_i e
    cases hf : L.find? (isA x) with
    | some h =>
      obtain ⟨h1, h2⟩ := (find_A hs).1 hf
      exact (find_A (putC_srt hs hn)).2 ⟨putC_mem.2 (.inr h1), h2⟩
    | none =>
      rw [find_A_none] at hf ⊢
      intro h hh
      rcases putC_mem.1 hh with rfl | hh
      · exact Ne.symm e
      · exact hf h hh
/-- What makes a change fit. -/
structure Fits (L : List Cg) (room : Int) (g : Cg) : Prop where
  chk : chkI g = 0
  new : L.find? (isA (atS g)) = none
  seq : g.seq = cnt L g.ar + 1
  und : underI g.deps (cnts L) = true
  beh : behB L g = true
  room : (L.length : Int) < room
theorem why_fits {L : List Cg} {room : Int} {g : Cg} (h : whyR L room g = 0) : Fits L room g := by
  unfold whyR at h
  cases h1 : decide (chkI g = 0) <;> rw [h1] at h
  · simp only [Bool.not_false, cond_true] at h
    exact absurd h (of_decide_eq_false h1)
  simp only [Bool.not_true, cond_false] at h
  cases h2 : L.find? (isA (atS g)) with
  | some k =>
    rw [h2] at h
    simp only at h
    cases hs : sameC k g <;> rw [hs] at h <;> cases h
  | none =>
    rw [h2] at h
    simp only at h
    cases h3 : (L.find? (isO g.ar g.seq)).isSome <;> rw [h3] at h
    case true => cases h
    simp only [cond_false] at h
    cases h4 : decide (g.seq = (cnt L g.ar : Int) + 1) <;> rw [h4] at h
    · cases h
    cases h5 : underI g.deps (cnts L) <;> rw [h5] at h
    · cases h
    simp only [Bool.not_true, Bool.or_self, cond_false] at h
    cases h6 : behB L g <;> rw [h6] at h
    · cases h
    simp only [Bool.not_true, cond_false] at h
    cases h7 : decide ((L.length : Int) ≥ room) <;> rw [h7] at h
    · exact ⟨of_decide_eq_true h1, h2, of_decide_eq_true h4, h5, h6, by have := of_decide_eq_false h7; omega⟩
    · cases h
theorem all_get {n i : Nat} {f : Nat → Bool} (h : (List.range n).all f = true) (hi : i < n) : f i = true := List.all_eq_true.1 h i (List.mem_range.2 hi)
theorem Fits.own_less {L : List Cg} {room : Int} {g : Cg} (k : Fits L room g) (h : Good L) : ∀ x ∈ ownL L g.ar, st.less (atS x) (atS g) = true := by
  intro x hx
  obtain ⟨h1, h2, h3, h4⟩ := chk_has k.chk
  obtain ⟨-, hr⟩ := right_has h1
  have hr : 0 ≤ g.ar ∧ g.ar < 64 := hr
  obtain ⟨j, hj, rfl⟩ := List.getElem_of_mem hx
  have hjc := hj
  rw [ownL_len] at hjc
  have hseq := k.seq
  have hne : atD g.deps g.ar ≠ 0 := by rw [h4]; omega
  have hlt : g.ar.toNat < g.deps.length ∧ g.deps[g.ar.toNat]?.getD 0 = g.seq - 1 := by
    unfold atD at h4 hne
    cases h5 : decide (g.ar < g.deps.length)
    · rw [h5, Bool.and_false] at hne; exact absurd rfl hne
    · rw [h5, show decide (0 ≤ g.ar) = true by simp [hr.1]] at h4
      exact ⟨by have := of_decide_eq_true h5; omega, h4⟩
  have hb := k.beh
  unfold behB depsB at hb
  rw [Bool.and_eq_true] at hb
  have hd := all_get hb.1 hlt.1
  rw [hlt.2, show ((g.ar.toNat : Nat) : Int) = g.ar by omega] at hd
  unfold depB at hd
  have h0 : decide (g.seq - 1 = 0) = false := by rw [decide_eq_false_iff_not]; omega
  rw [h0, Bool.false_or, h.find_O (by omega)] at hd
  have hl : (g.seq - 1).toNat - 1 < (ownL L g.ar).length := by rw [ownL_len]; omega
  rw [List.getElem?_eq_getElem hl] at hd
  simp only at hd
  have hso : (ownL L g.ar).Pairwise fun a b => st.less (atS a) (atS b) = true := h.srt.sublist List.filter_sublist
  rcases Nat.lt_or_ge j ((g.seq - 1).toNat - 1) with hlt2 | hge
  · exact less_trans ((List.pairwise_iff_getElem.1 hso) j _ hj hl hlt2) hd
  · have : j = (g.seq - 1).toNat - 1 := by omega
    subst this; exact hd
theorem Fits.own {L : List Cg} {room : Int} {g : Cg} (k : Fits L room g) (h : Good L) : ownL (putC g L) g.ar = ownL L g.ar ++ [g] :=
  putC_own' (fun x hx => less_asymm (k.own_less h x hx)) h.srt
theorem Fits.good {L : List Cg} {room : Int} {g : Cg} (k : Fits L room g) (h : Good L) : Good (putC g L) := by
  refine ⟨putC_srt h.srt (find_A_none.1 k.new), fun x hx => ?_, fun r j hj => ?_⟩
  · rcases putC_mem.1 hx with rfl | hx
    · exact k.chk
    · exact h.chk x hx
  · by_cases hr : g.ar = r
    · subst hr
      have e := k.own h
      have hj' := hj
      rw [e, List.length_append, List.length_singleton] at hj'
      have hget : (ownL (putC g L) g.ar)[j] = (ownL L g.ar ++ [g])[j]'(by simpa using hj') := by simp only [e]
      rw [hget]
      by_cases hlt : j < (ownL L g.ar).length
      · rw [List.getElem_append_left hlt]; exact h.seq _ _ hlt
      · have : j = (ownL L g.ar).length := by omega
        subst this
        rw [List.getElem_append_right (Nat.le_refl _)]
        simp only [Nat.sub_self, List.getElem_singleton]
        rw [k.seq, ownL_len]
    · have e := putC_own hr L
      have hj' : j < (ownL L r).length := by rw [← e]; exact hj
      have hget : (ownL (putC g L) r)[j] = (ownL L r)[j] := by simp only [e]
      rw [hget]; exact h.seq _ _ hj'
theorem addR_good {L : List Cg} {room : Int} {g : Cg} (h : Good L) : Good (addR L room g) := by
  unfold addR
  cases hc : decide (whyR L room g = 0)
  · exact h
  · exact (why_fits (of_decide_eq_true hc)).good h
theorem addR_len {L : List Cg} {room : Int} {g : Cg} : (addR L room g).length ≤ L.length + 1 := by
  unfold addR
  cases decide (whyR L room g = 0)
  · simp
  · simp [putC_len]
/-- What known tells. -/
def knI (L : List Cg) (g : Cg) : Int := match L.find? (isA (atS g)) with
  | some h => bif sameC h g then 5 else 7
  | none => bif decide (g.seq ≤ cnt L g.ar) then 7 else 0
/-- What ready tells. -/
def rdI (L : List Cg) (g : Cg) : Int := bif !decide (g.seq = cnt L g.ar + 1) then 4 else bif !underI g.deps (cnts L) then 4 else bif !depsB L g then 2 else bif !namesB L g then 2 else 0
theorem why_prog {L : List Cg} {room : Int} {g : Cg} (h : Good L) (hc : chkI g = 0) : whyR L room g = bif !decide (knI L g = 0) then knI L g else bif !decide (rdI L g = 0) then rdI L g else bif decide ((L.length : Int) ≥ room) then 6 else 0 := by
  obtain ⟨h1, h2, -⟩ := chk_has hc
  unfold whyR knI
  rw [hc]
  simp only [decide_true, Bool.not_true, cond_false]
  cases L.find? (isA (atS g)) with
  | some k => rcases Bool.eq_false_or_eq_true (sameC k g) with e | e <;> simp [e]
  | none =>
    simp only
    rw [h.isO_cnt h2.1]
    by_cases hd : g.seq ≤ (cnt L g.ar : Int)
    · simp [hd]
    · simp only [hd, decide_false, cond_false, decide_true, Bool.not_true]
      unfold rdI behB
      by_cases e1 : g.seq = (cnt L g.ar : Int) + 1
      · rcases Bool.eq_false_or_eq_true (underI g.deps (cnts L)) with e2 | e2 <;> rcases Bool.eq_false_or_eq_true (depsB L g) with e3 | e3 <;> rcases Bool.eq_false_or_eq_true (namesB L g) with e4 | e4 <;> simp [e1, e2, e3, e4]
      · simp [e1]
end Go.VL.opl

namespace Go.VL.opl
open Go Go.VL Go.Proofs Go.IntWalk Go.VL.st Go.VL.row

abbrev KL : List LK := [.agg, .int .i64, .int .i64]
abbrev cgL (P : List (V × Cg)) : List Cg := P.map (·.2)
def MapOk (σ : St) (mo : Option Nat) (L : List Cg) : Prop := match mo with
  | some m => ∃ es ver, σ.objs[m]? = some (.mp KL es ver) ∧ ∀ x : Sp, find (.agg [.int .i64 x.c, .int .i64 x.r]) es = (L.find? (isA x)).map fun h => V.agg [.int .i64 h.seq]
  | none => L = []
/-- A log in memory. -/
structure LogIs (σ : St) (i : Nat) (mo : Option Nat) (s : V) (ov : List V) (room : Int) (P : List (V × Cg)) : Prop where
  cells : σ.objs[i]? = some (.cells (.int .i64 room :: s :: .map mo :: ov))
  ovl : ov.length = 64
  row : RowOf σ s 13 (cgsV P)
  rds : Rds σ P
  map : MapOk σ mo (cgL P)
  own : ∀ (r : Nat) (h : r < ov.length), RowOf σ ov[r] 2 (spsV ((ownL (cgL P) r).map atS))
  sep : ∀ (a b : Nat) (ha : a < ov.length) (hb : b < ov.length) j n cap z n' cap' z', ov[a] = .osl j n cap z → ov[b] = .osl j n' cap' z' → a = b
  good : Good (cgL P)
/-- The objects that are a log's own. -/
def Own (i : Nat) (mo : Option Nat) (s : V) (ov : List V) (j : Nat) : Prop := j = i ∨ mo = some j ∨ (∃ n cap z, s = .osl j n cap z) ∨ ∃ (a : Nat) (h : a < ov.length), ∃ n cap z, ov[a] = .osl j n cap z
theorem LogIs.up {S : Nat → Prop} {σ τ : St} {i : Nat} {mo : Option Nat} {s : V} {ov : List V} {room : Int} {P : List (V × Cg)} (h : LogIs σ i mo s ov room P) (hu : UpdS S σ τ) (hS : ∀ j, Own i mo s ov j → ¬ S j) : LogIs τ i mo s ov room P := by
  refine ⟨hu.objs _ _ (hS i (.inl rfl)) h.cells, h.ovl, rowOf_up h.row hu fun j n cap z e => hS j (.inr (.inr (.inl ⟨n, cap, z, e⟩))), fun p hp => rdS_up (h.rds p hp) hu, ?_, fun r hr => rowOf_up (h.own r hr) hu fun j n cap z e => hS j (.inr (.inr (.inr ⟨r, hr, n, cap, z, e⟩))), h.sep, h.good⟩
  have hm := h.map
  cases mo with
  | none => exact hm
  | some m =>
    obtain ⟨es, ver, h1, h2⟩ := hm
    exact ⟨es, ver, hu.objs _ _ (hS m (.inr (.inl rfl))) h1, h2⟩
theorem LogIs.ext {σ τ : St} {i : Nat} {mo : Option Nat} {s : V} {ov : List V} {room : Int} {P : List (V × Cg)} (h : LogIs σ i mo s ov room P) (hu : Ext σ τ) : LogIs τ i mo s ov room P :=
  h.up (S := fun _ => False) (.of hu) fun _ _ h => h
theorem cg_len (P : List (V × Cg)) : ∀ x ∈ cgsV P, x.length = 13 := by
  intro x hx
  simp only [cgsV, List.mem_map] at hx
  obtain ⟨p, -, rfl⟩ := hx
  rfl
theorem cg_drop {P : List (V × Cg)} {k : Nat} (hk : k < P.length) (o : Nat) (ho : o ≤ 13) : (cgsV P).flatten.drop (k * 13 + o) = (cgC P[k].1 P[k].2).drop o ++ ((cgsV P).drop (k + 1)).flatten := by
  have hl : k < (cgsV P).length := by simpa [cgsV] using hk
  obtain ⟨h1, h2⟩ := flat_split (cg_len P) hl
  rw [h1, ← h2, List.drop_append, List.drop_of_length_le (by omega), Nat.add_sub_cancel_left, List.nil_append, show (cgsV P)[k] = cgC P[k].1 P[k].2 from by simp [cgsV], List.drop_append_of_le_length (by simpa [cgC] using ho)]
theorem cg_drop0 {P : List (V × Cg)} {k : Nat} (hk : k < P.length) : (cgsV P).flatten.drop (k * 13) = cgC P[k].1 P[k].2 ++ ((cgsV P).drop (k + 1)).flatten := cg_drop hk 0 (by omega)
theorem rowOf_nil (σ : St) (z : Nat) : RowOf σ (.sl true .pub 0 []) z [] := .inl ⟨_, _, rfl, rfl⟩
def nilO : List V := List.replicate 64 (.sl true .pub 0 [])
theorem nilO_get {a : Nat} (h : a < nilO.length) : nilO[a] = .sl true .pub 0 [] := by unfold nilO; exact List.getElem_replicate ..
theorem logIs_new {σ : St} {i : Nat} {mo : Option Nat} {room : Int} (h1 : σ.objs[i]? = some (.cells (.int .i64 room :: .sl true .pub 0 [] :: .map mo :: nilO))) (h2 : MapOk σ mo []) : LogIs σ i mo (.sl true .pub 0 []) nilO room [] := by
  have hn : ∀ (r : Nat) (h : r < nilO.length), nilO[r] = .sl true .pub 0 [] := fun r h => nilO_get h
  refine ⟨h1, by simp [nilO], rowOf_nil _ _, (by intro p hp; cases hp), h2, fun r h => ?_, fun a b ha hb j n cap z n' cap' z' e => ?_, good_nil⟩
  · rw [hn]; exact rowOf_nil _ _
  · rw [hn] at e; cases e
theorem own_new {i : Nat} {mo : Option Nat} {j : Nat} (h : Own i mo (.sl true .pub 0 []) nilO j) : j = i ∨ mo = some j := by
  rcases h with h | h | ⟨_, _, _, h⟩ | ⟨a, ha, n, cap, z, h⟩
  · exact .inl h
  · exact .inr h
  · cases h
  · rw [nilO_get] at h; cases h
section
variable {σ : St} {i j : Nat} {mo : Option Nat} {s d : V} {ov : List V} {room : Int} {P : List (V × Cg)} {g : Cg} {x : Sp}
theorem LogIs.len (h : LogIs σ i mo s ov room P) : ∃ n cap, (n = 0 ∧ ∃ R q, s = .sl true R q [] ∧ P = []) ∨ s = .osl n P.length cap 13 := by
  rcases h.row with ⟨R, q, rfl, e⟩ | ⟨j, cap, rfl, -⟩
  · exact ⟨0, 0, .inl ⟨rfl, R, q, rfl, by simpa [cgsV] using e⟩⟩
  · exact ⟨j, cap, .inr (by rw [cgsV_len])⟩
set_option maxRecDepth 100000 in
theorem new_bad (hr : (decide (room < 1) || decide (room > 4096)) = true) : CallA Try.prog 24 [.int .i64 room] σ fun v σ' => v = .tup [.ptr none, .int .i64 1] ∧ σ' = σ := by
  refine fn_at Try.func24 (by decide) comp24 rfl fun Q q1 q2 => ?_
  cases h1 : decide (room < 1)
  · rw [h1, Bool.false_or] at hr
    simp -implicitDefEqProofs only [go_sem, Nat.reduceBEq, Nat.reduceAdd, eq_self, true_and, and_true, and_self, List.getElem?_cons_zero, List.getElem?_cons_succ, Nat.reduceLeDiff, Nat.zero_add, Nat.reduceSub, Nat.le_refl, c24, h1, hr]
    refine q2 _ _ ?_
    simp -implicitDefEqProofs only [go_sem, Nat.reduceBEq, Nat.reduceAdd, eq_self, true_and, and_true, and_self, List.getElem?_cons_zero, List.getElem?_cons_succ, Nat.reduceLeDiff, Nat.zero_add, Nat.reduceSub, Nat.le_refl, Nat.lt_irrefl]
    try exact ⟨rfl, rfl⟩
  · simp -implicitDefEqProofs only [go_sem, Nat.reduceBEq, Nat.reduceAdd, eq_self, true_and, and_true, and_self, List.getElem?_cons_zero, List.getElem?_cons_succ, Nat.reduceLeDiff, Nat.zero_add, Nat.reduceSub, Nat.le_refl, c24, h1]
    refine q2 _ _ ?_
    simp -implicitDefEqProofs only [go_sem, Nat.reduceBEq, Nat.reduceAdd, eq_self, true_and, and_true, and_self, List.getElem?_cons_zero, List.getElem?_cons_succ, Nat.reduceLeDiff, Nat.zero_add, Nat.reduceSub, Nat.le_refl, Nat.lt_irrefl]
    try exact ⟨rfl, rfl⟩
set_option maxRecDepth 100000 in
set_option maxHeartbeats 4000000 in
theorem new_ok (hr : (decide (room < 1) || decide (room > 4096)) = false) : CallA Try.prog 24 [.int .i64 room] σ fun v σ' => v = .tup [.ptr (some (σ.objs.length + 1, 0)), .int .i64 0] ∧ LogIs σ' (σ.objs.length + 1) (some σ.objs.length) (.sl true .pub 0 []) nilO room [] ∧ Ext σ σ' := by
  refine fn_at Try.func24 (by decide) comp24 rfl fun Q q1 q2 => ?_
  rw [Bool.or_eq_false_iff] at hr
  simp -implicitDefEqProofs only [go_sem, Nat.reduceBEq, Nat.reduceAdd, eq_self, true_and, and_true, and_self, List.getElem?_cons_zero, List.getElem?_cons_succ, Nat.reduceLeDiff, Nat.zero_add, Nat.reduceSub, Nat.le_refl, c24, hr.1, hr.2]
  refine q2 _ _ ?_
  simp -implicitDefEqProofs only [go_sem, Nat.reduceBEq, Nat.reduceAdd, eq_self, true_and, and_true, and_self, List.getElem?_cons_zero, List.getElem?_cons_succ, Nat.reduceLeDiff, Nat.zero_add, Nat.reduceSub, Nat.le_refl, Nat.lt_irrefl]
  refine ⟨?_, logIs_new (by simp [nilO]) ⟨[], 0, by simp, fun x => rfl⟩, (ext_obj _ _).trans (ext_obj _ _)⟩
  try simp
set_option maxRecDepth 100000 in
theorem len_ok (h : LogIs σ i mo s ov room P) : CallA Try.prog 53 [.ptr (some (i, 0))] σ fun v σ' => v = .int .i64 P.length ∧ σ' = σ := by
  have h1 := h.cells
  refine fn_at Try.func53 (by decide) comp53 rfl fun Q q1 q2 => ?_
  obtain ⟨n, cap, ⟨rfl, R, q, rfl, rfl⟩ | rfl⟩ := h.len
  all_goals
    simp -implicitDefEqProofs only [go_sem, Nat.reduceBEq, Nat.reduceAdd, eq_self, true_and, and_true, and_self, List.getElem?_cons_zero, List.getElem?_cons_succ, Nat.reduceLeDiff, Nat.zero_add, Nat.reduceSub, Nat.le_refl, c53, h1]
    refine q2 _ _ ?_
    simp -implicitDefEqProofs only [go_sem, Nat.reduceBEq, Nat.reduceAdd, eq_self, true_and, and_true, and_self, List.getElem?_cons_zero, List.getElem?_cons_succ, Nat.reduceLeDiff, Nat.zero_add, Nat.reduceSub, Nat.le_refl, Nat.lt_irrefl]
    try simp
set_option maxRecDepth 100000 in
theorem room_ok (h : LogIs σ i mo s ov room P) : CallA Try.prog 60 [.ptr (some (i, 0))] σ fun v σ' => v = .int .i64 room ∧ σ' = σ := by
  have h1 := h.cells
  refine fn_at Try.func60 (by decide) comp60 rfl fun Q q1 q2 => ?_
  simp -implicitDefEqProofs only [go_sem, Nat.reduceBEq, Nat.reduceAdd, eq_self, true_and, and_true, and_self, List.getElem?_cons_zero, List.getElem?_cons_succ, Nat.reduceLeDiff, Nat.zero_add, Nat.reduceSub, Nat.le_refl, c60, h1]
  refine q2 _ _ ?_
  simp -implicitDefEqProofs only [go_sem, Nat.reduceBEq, Nat.reduceAdd, eq_self, true_and, and_true, and_self, List.getElem?_cons_zero, List.getElem?_cons_succ, Nat.reduceLeDiff, Nat.zero_add, Nat.reduceSub, Nat.le_refl, Nat.lt_irrefl]
set_option maxRecDepth 100000 in
theorem len_nil : CallA Try.prog 53 [.ptr none] σ fun v σ' => v = .int .i64 0 ∧ σ' = σ := by
  refine fn_at Try.func53 (by decide) comp53 rfl fun Q q1 q2 => ?_
  simp -implicitDefEqProofs only [go_sem, Nat.reduceBEq, Nat.reduceAdd, eq_self, true_and, and_true, and_self, List.getElem?_cons_zero, List.getElem?_cons_succ, Nat.reduceLeDiff, Nat.zero_add, Nat.reduceSub, Nat.le_refl, c53]
  refine q2 _ _ ?_
  simp -implicitDefEqProofs only [go_sem, Nat.reduceBEq, Nat.reduceAdd, eq_self, true_and, and_true, and_self, List.getElem?_cons_zero, List.getElem?_cons_succ, Nat.reduceLeDiff, Nat.zero_add, Nat.reduceSub, Nat.le_refl, Nat.lt_irrefl]
set_option maxRecDepth 100000 in
theorem room_nil : CallA Try.prog 60 [.ptr none] σ fun v σ' => v = .int .i64 0 ∧ σ' = σ := by
  refine fn_at Try.func60 (by decide) comp60 rfl fun Q q1 q2 => ?_
  simp -implicitDefEqProofs only [go_sem, Nat.reduceBEq, Nat.reduceAdd, eq_self, true_and, and_true, and_self, List.getElem?_cons_zero, List.getElem?_cons_succ, Nat.reduceLeDiff, Nat.zero_add, Nat.reduceSub, Nat.le_refl, c60]
  refine q2 _ _ ?_
  simp -implicitDefEqProofs only [go_sem, Nat.reduceBEq, Nat.reduceAdd, eq_self, true_and, and_true, and_self, List.getElem?_cons_zero, List.getElem?_cons_succ, Nat.reduceLeDiff, Nat.zero_add, Nat.reduceSub, Nat.le_refl, Nat.lt_irrefl]
set_option maxRecDepth 100000 in
theorem ccmp_ok : CallA Try.prog 76 [cgV d g, spV x] σ fun v σ' => v = .int .i64 (st.cmp (atS g) x) ∧ σ' = σ := by
  refine fn_at Try.func76 (by decide) comp76 rfl fun Q q1 q2 => ?_
  have hc := compare_ok (σ := σ) (a1 := g.ac) (a2 := g.ar) (b1 := x.c) (b2 := x.r)
  have e : cmp g.ac g.ar x.c x.r = st.cmp (atS g) x := scmp (atS g) x
  rw [e] at hc
  simp -implicitDefEqProofs only [go_sem, Nat.reduceBEq, Nat.reduceAdd, eq_self, true_and, and_true, and_self, List.getElem?_cons_zero, List.getElem?_cons_succ, Nat.reduceLeDiff, Nat.zero_add, Nat.reduceSub, Nat.le_refl, c76, cgV, cgC, spV, spC]
  refine call_at hc ?_
  rintro v τ ⟨hτ, rfl⟩
  have hτ := hτ.symm
  subst hτ
  refine ⟨(Ext.refl _).kept, ?_⟩
  simp -implicitDefEqProofs only [go_sem, Nat.reduceBEq, Nat.reduceAdd, eq_self, true_and, and_true, and_self, List.getElem?_cons_zero, List.getElem?_cons_succ, Nat.reduceLeDiff, Nat.zero_add, Nat.reduceSub, Nat.le_refl, Nat.lt_irrefl]
  refine q2 _ _ ?_
  simp -implicitDefEqProofs only [go_sem, Nat.reduceBEq, Nat.reduceAdd, eq_self, true_and, and_true, and_self, List.getElem?_cons_zero, List.getElem?_cons_succ, Nat.reduceLeDiff, Nat.zero_add, Nat.reduceSub, Nat.le_refl, Nat.lt_irrefl]
set_option maxRecDepth 100000 in
set_option maxHeartbeats 4000000 in
theorem bs_ok (hr : RowOf σ s 13 (cgsV P)) (hl : P.length ≤ 1000000) (hd : Rds σ P) (hs : (cgL P).Pairwise fun a b => st.less (atS a) (atS b) = true) :
    CallA Try.prog 75 [s, spV x, .fn 76 []] σ fun w σ' => (∃ k : Nat, w = .tup [.int .i64 k, .bool ((cgL P).find? (isA x)).isSome] ∧ PlaceAt (cgL P) x k) ∧ σ' = σ := by
  refine fn_at Try.func75 (by decide) comp75 rfl fun Q q1 q2 => ?_
  rcases hr with ⟨R, q, rfl, he⟩ | ⟨j', cap, rfl, ho, -, hc⟩
  · have hD : P = [] := by simpa [cgsV] using he
    subst hD
    simp -implicitDefEqProofs only [go_sem, Nat.reduceBEq, Nat.reduceAdd, eq_self, true_and, and_true, and_self, List.getElem?_cons_zero, List.getElem?_cons_succ, Nat.reduceLeDiff, Nat.zero_add, Nat.reduceSub, Nat.le_refl, c75, spV, spC]
    refine loop_at (fun (_ : Unit) => ⟨[(0, .v (.sl true R q [])), (2, .v (.fn 76 [])), (4, .loc 4 0), (8, .v (.int .i64 0)), (9, .v (.int .i64 0)), (10, .v (.int .i64 0))], [(4, spC x)]⟩) (fun _ τ => τ = σ) (fun _ => 0) () ?_ ?_ ?_
    · refine .inr ?_
      simp -implicitDefEqProofs only [go_sem, Nat.reduceBEq, Nat.reduceAdd, eq_self, true_and, and_true, and_self, List.getElem?_cons_zero, List.getElem?_cons_succ, Nat.reduceLeDiff, Nat.zero_add, Nat.reduceSub, Nat.le_refl, spV, spC]
      try exact ⟨rfl, rfl⟩
      try rfl
    · rfl
    rintro u τ hτ Z z1 z2 z3
    have hτ := hτ.symm
    subst hτ
    have h0 : decide ((0 : Int) < 0) = false := by decide
    simp -implicitDefEqProofs only [go_sem, Nat.reduceBEq, Nat.reduceAdd, eq_self, true_and, and_true, and_self, List.getElem?_cons_zero, List.getElem?_cons_succ, Nat.reduceLeDiff, Nat.zero_add, Nat.reduceSub, Nat.le_refl, h0]
    refine z2 _ _ _ ?_
    simp -implicitDefEqProofs only [go_sem, Nat.reduceBEq, Nat.reduceAdd, eq_self, true_and, and_true, and_self, List.getElem?_cons_zero, List.getElem?_cons_succ, Nat.reduceLeDiff, Nat.zero_add, Nat.reduceSub, Nat.le_refl, h0]
    refine q2 _ _ ?_
    simp -implicitDefEqProofs only [go_sem, Nat.reduceBEq, Nat.reduceAdd, eq_self, true_and, and_true, and_self, List.getElem?_cons_zero, List.getElem?_cons_succ, Nat.reduceLeDiff, Nat.zero_add, Nat.reduceSub, Nat.le_refl, Nat.lt_irrefl]
    exact ⟨0, rfl, by simp [PlaceAt]⟩
  have hlm : (cgsV P).length = P.length := cgsV_len P
  have hll : (cgL P).length = P.length := by simp
  have hlook : ∀ (k : Nat) (h : k < P.length), (cgL P)[k]'(by rw [hll]; exact h) = P[k].2 := fun k h => by simp
  simp -implicitDefEqProofs only [go_sem, Nat.reduceBEq, Nat.reduceAdd, eq_self, true_and, and_true, and_self, List.getElem?_cons_zero, List.getElem?_cons_succ, Nat.reduceLeDiff, Nat.zero_add, Nat.reduceSub, Nat.le_refl, c75, spV, spC]
  refine loop_at (fun (y : Nat × Nat) => ⟨[(0, .v (.osl j' (cgsV P).length cap 13)), (2, .v (.fn 76 [])), (4, .loc 4 0), (8, .v (.int .i64 P.length)), (9, .v (.int .i64 y.1)), (10, .v (.int .i64 y.2))], [(4, spC x)]⟩)
    (fun y τ => y.1 ≤ y.2 ∧ y.2 ≤ P.length ∧ τ = σ ∧ (∀ (k : Nat) (h : k < (cgL P).length), k < y.1 → st.less (atS (cgL P)[k]) x = true) ∧ ∀ (k : Nat) (h : k < (cgL P).length), y.2 ≤ k → st.less (atS (cgL P)[k]) x = false) (fun y => y.2 - y.1) (0, P.length) ?_ ?_ ?_
  · refine .inr ?_
    simp -implicitDefEqProofs only [go_sem, Nat.reduceBEq, Nat.reduceAdd, eq_self, true_and, and_true, and_self, List.getElem?_cons_zero, List.getElem?_cons_succ, Nat.reduceLeDiff, Nat.zero_add, Nat.reduceSub, Nat.le_refl, hlm, spV, spC]
    try exact ⟨rfl, rfl⟩
    try rfl
  · exact ⟨Nat.zero_le _, Nat.le_refl _, rfl, fun k h h0 => by simp at h0, fun k h h0 => by simp only at h0; omega⟩
  rintro ⟨a, b⟩ τ ⟨g0, g1, hτ, g3, g4⟩ Z z1 z2 z3
  simp only at g0 g1 g3 g4
  have hτ := hτ.symm
  subst hτ
  simp -implicitDefEqProofs only [go_sem, Nat.reduceBEq, Nat.reduceAdd, eq_self, true_and, and_true, and_self, List.getElem?_cons_zero, List.getElem?_cons_succ, Nat.reduceLeDiff, Nat.zero_add, Nat.reduceSub, Nat.le_refl, Nat.lt_irrefl]
  refine CondW_b (fun hcc => ?_) (fun hcc => ?_)
  · have hab : a < b := by simpa using hcc
    have hwm : IntKind.i64.wrap ((IntKind.u64.wrap (IntKind.i64.wrap ((a : Int) + b))).fdiv (2 ^ min (Int.toNat 1) 64)) = (((a + b) / 2 : Nat) : Int) := by
      rw [i64_in ((a : Int) + b) (by omega), u64_in _ (by omega)]
      rw [show (2 ^ min (Int.toNat 1) 64 : Int) = 2 from rfl, Int.fdiv_eq_ediv_of_nonneg _ (by omega), i64_in _ (by omega)]
      omega
    generalize hcm : (a + b) / 2 = c at hwm
    have hc1 : a ≤ c ∧ c < b := by omega
    have hi : c < P.length := by omega
    have hget := cg_drop0 hi
    have hlk := hlook c hi
    have hdc := hd _ (List.getElem_mem hi)
    have hwc : IntKind.i64.wrap ((c : Int) + 1) = ((c + 1 : Nat) : Int) := by rw [i64_in _ (by omega)]; omega
    have hmono1 : ∀ (k : Nat) (h : k < (cgL P).length), k < c → st.less (atS (cgL P)[k]) (atS (P[c]).2) = true := fun k h hk => by
      rw [← hlk]; exact (List.pairwise_iff_getElem.1 hs) k c h (by omega) hk
    have hmono2 : ∀ (k : Nat) (h : k < (cgL P).length), c < k → st.less (atS (P[c]).2) (atS (cgL P)[k]) = true := fun k h hk => by
      rw [← hlk]; exact (List.pairwise_iff_getElem.1 hs) c k (by omega) h hk
    have hb1 : (c : Int) < (cgsV P).length := by rw [hlm]; omega
    generalize P[c] = p at hget hlk hdc hmono1 hmono2
    obtain ⟨d2, h⟩ := p
    simp only at hget hlk hdc hmono1 hmono2
    obtain ⟨db, dr, dz, rfl, -, -⟩ := id hdc
    have hcm2 := ccmp_ok (σ := σ) (d := .sl db dr dz (intsV .i64 h.deps)) (g := h) (x := x)
    simp only [cgV, cgC, spV, spC] at hcm2
    simp -implicitDefEqProofs only [go_sem, Nat.reduceBEq, Nat.reduceAdd, eq_self, true_and, and_true, and_self, List.getElem?_cons_zero, List.getElem?_cons_succ, Nat.reduceLeDiff, Nat.zero_add, Nat.reduceSub, Nat.le_refl, hwm, ho, hget, Int.toNat_natCast, Nat.add_zero, cgC, spC]
    refine ⟨by omega, ⟨by omega, hb1⟩, ?_⟩
    refine call_at hcm2 ?_
    rintro w τ ⟨rfl, hτ⟩
    have hτ := hτ.symm
    subst hτ
    refine ⟨(Ext.refl _).kept, ?_⟩
    have hneg : decide (st.cmp (atS h) x < 0) = st.less (atS h) x := st.cmp_neg _ _
    cases hx : st.less (atS h) x <;> rw [hx] at hneg
    · simp -implicitDefEqProofs only [go_sem, Nat.reduceBEq, Nat.reduceAdd, eq_self, true_and, and_true, and_self, List.getElem?_cons_zero, List.getElem?_cons_succ, Nat.reduceLeDiff, Nat.zero_add, Nat.reduceSub, Nat.le_refl, hneg]
      refine z1 (a, c) _ _ (.inr ?_) (by simp only; omega) ⟨by simp only; omega, by simp only; omega, rfl, g3, fun k hk h1 => ?_⟩
      · simp -implicitDefEqProofs only [go_sem, Nat.reduceBEq, Nat.reduceAdd, eq_self, true_and, and_true, and_self, List.getElem?_cons_zero, List.getElem?_cons_succ, Nat.reduceLeDiff, Nat.zero_add, Nat.reduceSub, Nat.le_refl, spC]
        try exact ⟨rfl, rfl⟩
        try rfl
      · simp only at h1
        rcases Nat.lt_or_ge c k with h2 | h2
        · cases h3 : st.less (atS (cgL P)[k]) x
          · rfl
          · rw [less_trans (hmono2 k hk h2) h3] at hx; cases hx
        · have : k = c := by omega
          subst this
          rw [hlk]; exact hx
    · simp -implicitDefEqProofs only [go_sem, Nat.reduceBEq, Nat.reduceAdd, eq_self, true_and, and_true, and_self, List.getElem?_cons_zero, List.getElem?_cons_succ, Nat.reduceLeDiff, Nat.zero_add, Nat.reduceSub, Nat.le_refl, hneg, hwc]
      refine z1 (c + 1, b) _ _ (.inr ?_) (by simp only; omega) ⟨by simp only; omega, g1, rfl, fun k hk h1 => ?_, g4⟩
      · simp -implicitDefEqProofs only [go_sem, Nat.reduceBEq, Nat.reduceAdd, eq_self, true_and, and_true, and_self, List.getElem?_cons_zero, List.getElem?_cons_succ, Nat.reduceLeDiff, Nat.zero_add, Nat.reduceSub, Nat.le_refl, spC]
        try exact ⟨rfl, rfl⟩
        try rfl
      · simp only at h1
        rcases Nat.lt_or_ge k c with h2 | h2
        · exact less_trans (hmono1 k hk h2) hx
        · have : k = c := by omega
          subst this
          rw [hlk]; exact hx
  · have hab : a = b := by have : ¬ a < b := by simpa using hcc
                           omega
    subst hab
    simp -implicitDefEqProofs only [go_sem, Nat.reduceBEq, Nat.reduceAdd, eq_self, true_and, and_true, and_self, List.getElem?_cons_zero, List.getElem?_cons_succ, Nat.reduceLeDiff, Nat.zero_add, Nat.reduceSub, Nat.le_refl, Nat.lt_irrefl]
    refine z2 _ _ _ ?_
    have hpl : PlaceAt (cgL P) x a := ⟨by omega, g3, g4⟩
    cases hin : decide ((a : Int) < P.length)
    · have hnf : ((cgL P).find? (isA x)).isSome = false := by
        rcases hpl.found hs with ⟨h1, -⟩ | ⟨hi, -⟩
        · rw [h1]; rfl
        · have := of_decide_eq_false hin; omega
      simp -implicitDefEqProofs only [go_sem, Nat.reduceBEq, Nat.reduceAdd, eq_self, true_and, and_true, and_self, List.getElem?_cons_zero, List.getElem?_cons_succ, Nat.reduceLeDiff, Nat.zero_add, Nat.reduceSub, Nat.le_refl, hin]
      refine q2 _ _ ?_
      simp -implicitDefEqProofs only [go_sem, Nat.reduceBEq, Nat.reduceAdd, eq_self, true_and, and_true, and_self, List.getElem?_cons_zero, List.getElem?_cons_succ, Nat.reduceLeDiff, Nat.zero_add, Nat.reduceSub, Nat.le_refl, hnf]
      exact ⟨a, rfl, hpl⟩
    · have hi : a < P.length := by have := of_decide_eq_true hin; omega
      have hget := cg_drop0 hi
      have hlk := hlook a hi
      have hdc := hd _ (List.getElem_mem hi)
      have hb1 : (a : Int) < (cgsV P).length := by rw [hlm]; omega
      have hfd : ((cgL P).find? (isA x)).isSome = decide (atS P[a].2 = x) := by
        rcases hpl.found hs with ⟨h1, h2⟩ | ⟨h1, h2, h3⟩
        · rw [h1]
          have := h2 (by omega)
          rw [hlk] at this
          simp [this]
        · rw [h3]
          rw [hlk] at h2
          simp [h2]
      generalize P[a] = p at hget hlk hdc hfd
      obtain ⟨d2, h⟩ := p
      simp only at hget hlk hdc hfd
      obtain ⟨db, dr, dz, rfl, -, -⟩ := id hdc
      have hcm2 := ccmp_ok (σ := σ) (d := .sl db dr dz (intsV .i64 h.deps)) (g := h) (x := x)
      simp only [cgV, cgC, spV, spC] at hcm2
      have hz : decide (st.cmp (atS h) x = 0) = decide (atS h = x) := by
        unfold st.cmp
        by_cases e : atS h = x
        · simp [e]
        · cases st.less (atS h) x <;> simp [e]
      rw [hfd] at q2
      simp -implicitDefEqProofs only [go_sem, Nat.reduceBEq, Nat.reduceAdd, eq_self, true_and, and_true, and_self, List.getElem?_cons_zero, List.getElem?_cons_succ, Nat.reduceLeDiff, Nat.zero_add, Nat.reduceSub, Nat.le_refl, hin, ho, hget, Int.toNat_natCast, Nat.add_zero, cgC, spC]
      refine ⟨⟨by omega, hb1⟩, ?_⟩
      refine call_at hcm2 ?_
      rintro w τ ⟨rfl, hτ⟩
      have hτ := hτ.symm
      subst hτ
      refine ⟨(Ext.refl _).kept, ?_⟩
      simp -implicitDefEqProofs only [go_sem, Nat.reduceBEq, Nat.reduceAdd, eq_self, true_and, and_true, and_self, List.getElem?_cons_zero, List.getElem?_cons_succ, Nat.reduceLeDiff, Nat.zero_add, Nat.reduceSub, Nat.le_refl, hz]
      refine q2 _ _ ?_
      simp -implicitDefEqProofs only [go_sem, Nat.reduceBEq, Nat.reduceAdd, eq_self, true_and, and_true, and_self, List.getElem?_cons_zero, List.getElem?_cons_succ, Nat.reduceLeDiff, Nat.zero_add, Nat.reduceSub, Nat.le_refl, Nat.lt_irrefl]
      exact ⟨a, rfl, hpl⟩
set_option maxRecDepth 100000 in
set_option maxHeartbeats 4000000 in
theorem place_at (h : LogIs σ i mo s ov room P) (hl : P.length ≤ 1000000) : CallA Try.prog 50 [.ptr (some (i, 0)), spV x] σ fun w σ' => (∃ k : Nat, w = .tup [.int .i64 k, .bool ((cgL P).find? (isA x)).isSome] ∧ PlaceAt (cgL P) x k) ∧ σ' = σ := by
  have h1 := h.cells
  refine fn_at Try.func50 (by decide) comp50 rfl fun Q q1 q2 => ?_
  have hbs := bs_ok (x := x) h.row hl h.rds h.good.srt
  simp only [spV, spC] at hbs
  simp -implicitDefEqProofs only [go_sem, Nat.reduceBEq, Nat.reduceAdd, eq_self, true_and, and_true, and_self, List.getElem?_cons_zero, List.getElem?_cons_succ, Nat.reduceLeDiff, Nat.zero_add, Nat.reduceSub, Nat.le_refl, c50, spV, spC, h1]
  refine call_at hbs ?_
  rintro w τ ⟨⟨k, rfl, hp⟩, hτ⟩
  have hτ := hτ.symm
  subst hτ
  refine ⟨(Ext.refl _).kept, ?_⟩
  simp -implicitDefEqProofs only [go_sem, Nat.reduceBEq, Nat.reduceAdd, eq_self, true_and, and_true, and_self, List.getElem?_cons_zero, List.getElem?_cons_succ, Nat.reduceLeDiff, Nat.zero_add, Nat.reduceSub, Nat.le_refl, Nat.lt_irrefl]
  refine q2 _ _ ?_
  simp -implicitDefEqProofs only [go_sem, Nat.reduceBEq, Nat.reduceAdd, eq_self, true_and, and_true, and_self, List.getElem?_cons_zero, List.getElem?_cons_succ, Nat.reduceLeDiff, Nat.zero_add, Nat.reduceSub, Nat.le_refl, Nat.lt_irrefl]
  exact ⟨k, rfl, hp⟩
end
end Go.VL.opl

namespace Go.VL.opl
open Go Go.VL Go.Proofs Go.IntWalk Go.VL.st Go.VL.row

section
variable {σ : St} {i j : Nat} {mo : Option Nat} {s d : V} {ov : List V} {room : Int} {P : List (V × Cg)} {g : Cg} {x : Sp}
theorem LogIs.ownc (h : LogIs σ i mo s ov room P) {r : Int} (hr : 0 ≤ r ∧ r < 64) : ∃ (hl : r.toNat < ov.length), ((∃ R q, ov[r.toNat] = .sl true R q [] ∧ cnt (cgL P) r = 0) ∨ ∃ j cap, ov[r.toNat] = .osl j (cnt (cgL P) r) cap 2 ∧ σ.objs[j]? = some (.row cap 2 (spsV ((ownL (cgL P) r).map atS)).flatten)) := by
  have hl : r.toNat < ov.length := by rw [h.ovl]; omega
  refine ⟨hl, ?_⟩
  have hrr : ((r.toNat : Nat) : Int) = r := by omega
  have hc : ((ownL (cgL P) r).map atS).length = cnt (cgL P) r := by rw [List.length_map, ownL_len]
  have ho := h.own r.toNat hl
  rw [hrr] at ho
  rcases ho with ⟨R, q, e, e2⟩ | ⟨j, cap, e, h1, -⟩
  · refine .inl ⟨R, q, e, ?_⟩
    rw [← hc]
    simpa [spsV] using congrArg List.length e2
  · refine .inr ⟨j, cap, by rw [e, spsV_len, hc], h1⟩
theorem LogIs.ownl {σ : St} {i : Nat} {mo : Option Nat} {s : V} {ov : List V} {room : Int} {P : List (V × Cg)} (h : LogIs σ i mo s ov room P) {r : Int} (hr : 0 ≤ r ∧ r < 64) : ∃ (hl : r.toNat < ov.length), RowOf σ ov[r.toNat] 2 (spsV ((ownL (cgL P) r).map atS)) := by
  have hl : r.toNat < ov.length := by rw [h.ovl]; omega
  have ho := h.own r.toNat hl
  rw [show ((r.toNat : Nat) : Int) = r by omega] at ho
  exact ⟨hl, ho⟩
theorem sps_two (l : List Sp) : ∀ x ∈ spsV l, x.length = 2 := by
  intro x hx
  simp only [spsV, List.mem_map] at hx
  obtain ⟨p, -, rfl⟩ := hx
  rfl
theorem sp_drop0 {l : List Sp} {k : Nat} (hk : k < l.length) : (spsV l).flatten.drop (k * 2) = spC l[k] ++ ((spsV l).drop (k + 1)).flatten := by
  have hl : k < (spsV l).length := by rw [spsV_len]; exact hk
  obtain ⟨h1, h2⟩ := flat_split (sps_two l) hl
  rw [h1, ← h2, List.drop_append, List.drop_of_length_le (by omega), Nat.sub_self, List.nil_append, List.drop_zero, show (spsV l)[k] = spC l[k] from by simp [spsV]]
theorem ov_drop {ov : List V} {r : Int} (h : r.toNat < ov.length) (a b c : V) : List.drop (3 + r.toNat * 1) (a :: b :: c :: ov) = ov[r.toNat] :: ov.drop (r.toNat + 1) := by
  rw [Nat.mul_one, Nat.add_comm, List.drop_succ_cons, List.drop_succ_cons, List.drop_succ_cons, List.drop_eq_getElem_cons h]
set_option maxRecDepth 100000 in
set_option maxHeartbeats 4000000 in
theorem known_ok (h : LogIs σ i mo s ov room P) (hl : P.length ≤ 1000000) (hd : RdS σ d 1 (intsV .i64 g.deps)) (hpl : ∀ p ∈ P, p.2.deps.length ≤ 2000000) (hr : 0 ≤ g.ar ∧ g.ar < 64) : CallA Try.prog 48 [.ptr (some (i, 0)), cgV d g] σ fun w σ' => w = .int .i64 (knI (cgL P) g) ∧ σ' = σ := by
  have h1 := h.cells
  obtain ⟨db, dr, dz, rfl, -, -⟩ := id hd
  refine fn_at Try.func48 (by decide) comp48 rfl fun Q q1 q2 => ?_
  have hp := place_at (x := atS g) h hl
  simp only [spV, spC, atS] at hp
  unfold knI at q1 q2
  simp -implicitDefEqProofs only [go_sem, Nat.reduceBEq, Nat.reduceAdd, eq_self, true_and, and_true, and_self, List.getElem?_cons_zero, List.getElem?_cons_succ, Nat.reduceLeDiff, Nat.zero_add, Nat.reduceSub, Nat.le_refl, c48, cgV, cgC]
  refine call_at hp ?_
  rintro w τ ⟨⟨k, rfl, hpl2⟩, hτ⟩
  have hτ := hτ.symm
  subst hτ
  refine ⟨kept_none, ?_⟩
  rcases hpl2.found h.good.srt with ⟨f1', -⟩ | ⟨hk, -, f1'⟩
  · have f1 : (cgL P).find? (isA (atS g)) = none := f1'
    rw [f1] at q1 q2
    rw [f1']
    simp only at q1 q2
    obtain ⟨hlo, ho⟩ := h.ownc hr
    have hod := ov_drop hlo
    generalize ov[g.ar.toNat] = o at ho hod
    have hcc : ∀ n : Nat, n = cnt (cgL P) g.ar → (decide (g.seq ≤ (n : Int)) = decide (g.seq ≤ (cnt (cgL P) g.ar : Int))) := fun n e => by rw [e]
    cases hx : decide (g.seq ≤ (cnt (cgL P) g.ar : Int)) <;> rw [hx] at q1 q2
    all_goals
      rcases ho with ⟨R, q, rfl, hc0⟩ | ⟨j, cap, rfl, -⟩
    all_goals
      first | (rw [hc0] at hx) | skip
      simp -implicitDefEqProofs only [go_sem, Nat.reduceBEq, Nat.reduceAdd, eq_self, true_and, and_true, and_self, List.getElem?_cons_zero, List.getElem?_cons_succ, Nat.reduceLeDiff, Nat.zero_add, Nat.reduceSub, Nat.le_refl, Option.isSome_none, h1, cgC, hod, hx]
      refine ⟨hr, ?_⟩
      refine q2 _ _ ?_
      simp -implicitDefEqProofs only [go_sem, Nat.reduceBEq, Nat.reduceAdd, eq_self, true_and, and_true, and_self, List.getElem?_cons_zero, List.getElem?_cons_succ, Nat.reduceLeDiff, Nat.zero_add, Nat.reduceSub, Nat.le_refl, Nat.lt_irrefl]
  · have f1 : (cgL P).find? (isA (atS g)) = some (cgL P)[k] := f1'
    rw [f1] at q1 q2
    rw [f1']
    simp only at q1 q2
    have hk2 : k < P.length := by simpa using hk
    have hget := cg_drop0 hk2
    have hdc := h.rds _ (List.getElem_mem hk2)
    have hdl := hpl _ (List.getElem_mem hk2)
    have hlk : (cgL P)[k] = P[k].2 := by simp
    have hb1 : (k : Int) < (cgsV P).length := by rw [cgsV_len]; omega
    rw [hlk] at q1 q2
    rcases id h.row with ⟨R, q, rfl, he⟩ | ⟨j', cap, rfl, ho, -, hc⟩
    · have hD : P = [] := by simpa [cgsV] using he
      subst hD
      exact absurd hk2 (by simp)
    generalize P[k] = p at hget hdc hdl q1 q2
    obtain ⟨d2, h⟩ := p
    simp only at hget hdc hdl q1 q2
    obtain ⟨db2, dr2, dz2, rfl, -, -⟩ := id hdc
    have hsa := psame_ok hdc hd (by omega)
    simp only [cgV, cgC] at hsa
    simp -implicitDefEqProofs only [go_sem, Nat.reduceBEq, Nat.reduceAdd, eq_self, true_and, and_true, and_self, List.getElem?_cons_zero, List.getElem?_cons_succ, Nat.reduceLeDiff, Nat.zero_add, Nat.reduceSub, Nat.le_refl, Option.isSome_some, h1, cgC, ho, hget, Int.toNat_natCast, Nat.add_zero]
    refine ⟨⟨by omega, hb1⟩, ?_⟩
    refine call_at hsa ?_
    rintro w τ ⟨hτ, rfl⟩
    have hτ := hτ.symm
    subst hτ
    refine ⟨(Ext.refl _).kept, ?_⟩
    cases hx : sameC h g <;> rw [hx] at q1 q2
    all_goals
      simp -implicitDefEqProofs only [go_sem, Nat.reduceBEq, Nat.reduceAdd, eq_self, true_and, and_true, and_self, List.getElem?_cons_zero, List.getElem?_cons_succ, Nat.reduceLeDiff, Nat.zero_add, Nat.reduceSub, Nat.le_refl, Nat.lt_irrefl]
      refine q2 _ _ ?_
      simp -implicitDefEqProofs only [go_sem, Nat.reduceBEq, Nat.reduceAdd, eq_self, true_and, and_true, and_self, List.getElem?_cons_zero, List.getElem?_cons_succ, Nat.reduceLeDiff, Nat.zero_add, Nat.reduceSub, Nat.le_refl, Nat.lt_irrefl]
set_option maxRecDepth 100000 in
set_option maxHeartbeats 4000000 in
theorem ready_ok (h : LogIs σ i mo s ov room P) (hl : P.length ≤ 1000000) (hd : RdS σ d 1 (intsV .i64 g.deps)) (hck : chkI g = 0) : CallA Try.prog 49 [.ptr (some (i, 0)), cgV d g] σ fun w σ' => w = .int .i64 (rdI (cgL P) g) ∧ Ext σ σ' := by
  obtain ⟨db, dr, dz, rfl, -, -⟩ := id hd
  refine fn_at Try.func49 (by decide) comp49 rfl fun Q q1 q2 => ?_
  simp -implicitDefEqProofs only [go_sem, Nat.reduceBEq, Nat.reduceAdd, eq_self, true_and, and_true, and_self, List.getElem?_cons_zero, List.getElem?_cons_succ, Nat.reduceLeDiff, Nat.zero_add, Nat.reduceSub, Nat.le_refl, c49, cgV, cgC]
  generalize hb : (σ.objs ++ [AObj.cells [V.ptr (some (i, 0))]]).length = b
  generalize hc : (σ.objs ++ [AObj.cells [V.ptr (some (i, 0))]] ++ [AObj.cells [V.int IntKind.i64 g.ac, V.int IntKind.i64 g.ar, V.int IntKind.i64 g.seq, V.sl db dr dz (intsV IntKind.i64 g.deps), V.int IntKind.i64 g.kind, V.int IntKind.i64 g.nc, V.int IntKind.i64 g.nr, V.int IntKind.i64 g.pc, V.int IntKind.i64 g.pr, V.int IntKind.i64 g.fc, V.int IntKind.i64 g.fr, V.str g.name, V.str g.val]]).length = c
  generalize hO : (σ.objs ++ [AObj.cells [V.ptr (some (i, 0))]] ++ [AObj.cells [V.int IntKind.i64 g.ac, V.int IntKind.i64 g.ar, V.int IntKind.i64 g.seq, V.sl db dr dz (intsV IntKind.i64 g.deps), V.int IntKind.i64 g.kind, V.int IntKind.i64 g.nc, V.int IntKind.i64 g.nr, V.int IntKind.i64 g.pc, V.int IntKind.i64 g.pr, V.int IntKind.i64 g.fc, V.int IntKind.i64 g.fr, V.str g.name, V.str g.val]] ++ [AObj.cells [V.int IntKind.i64 0]]) = O
  have hab : σ.objs.length < b ∧ b < c := by rw [← hc, ← hb]; simp
  have he : Ext σ ⟨O, σ.live⟩ := by rw [← hO]; exact ((ext_obj σ _).trans (ext_obj _ _)).trans (ext_obj _ _)
  have ho1 : O[σ.objs.length]? = some (.cells [V.ptr (some (i, 0))]) := by rw [← hO]; simp
  have ho2 : O[b]? = some (.cells (cgC (.sl db dr dz (intsV .i64 g.deps)) g)) := by
    rw [← hO, List.getElem?_append_left (by rw [hc]; exact hab.2), ← hb]; simp [cgC]
  have ho3 : O[c]? = some (.cells [V.int .i64 0]) := by rw [← hO, ← hc]; simp
  clear hO hc hb
  have hL := h.ext he
  have h1 : O[i]? = some (.cells (.int .i64 room :: s :: .map mo :: ov)) := hL.cells
  obtain ⟨hrt, hsq, hck1, hck2⟩ := chk_has hck
  have hr : 0 ≤ g.ar ∧ g.ar < 64 := (right_has hrt).2
  obtain ⟨hdl, hdn⟩ := clock_has hck1
  have hd0 := hd.ext he
  have hfin : ∀ (e : Int) (t : St) (o : AObj), Ext σ t → t.objs[c]? = some o → (t.setC c [V.int .i64 e]).objs[c]? = some (.cells [V.int .i64 e]) ∧ Ext σ (t.setC c [V.int .i64 e]) := fun e t o h1 h2 => ⟨setC_get (List.getElem?_eq_some_iff.1 h2).1, ext_set h1 (by omega)⟩
  clear h
  unfold rdI at q1 q2
  obtain ⟨hlo, hwo⟩ := hL.ownc hr
  have hod := ov_drop hlo
  generalize ov[g.ar.toNat] = o at hwo hod
  have hcn : cnt (cgL P) g.ar ≤ 1000000 := by have := cnt_le (cgL P) g.ar; rw [map2_len] at this; omega
  have hw : ∀ n : Nat, n = cnt (cgL P) g.ar → IntKind.i64.wrap ((n : Int) + 1) = (cnt (cgL P) g.ar : Int) + 1 := fun n e => by rw [e, i64_in _ (by omega)]
  have hl2 := intsV_len g.deps
  cases hs : decide (g.seq = (cnt (cgL P) g.ar : Int) + 1) <;> rw [hs] at q1 q2
  · obtain ⟨f1, f2⟩ := hfin 4 _ _ he ho3
    rcases hwo with ⟨R, q, rfl, hc0⟩ | ⟨jo, cap, rfl, -⟩
    all_goals
      first | (have hw0 := hw 0 hc0.symm) | (have hw0 := hw _ rfl)
      simp -implicitDefEqProofs only [go_sem, Nat.reduceBEq, Nat.reduceAdd, eq_self, true_and, and_true, and_self, List.getElem?_cons_zero, List.getElem?_cons_succ, Nat.reduceLeDiff, Nat.zero_add, Nat.reduceSub, Nat.le_refl, ho1, ho2, ho3, h1, cgC, hod, hw0, hs, Bool.not_false]
      refine ⟨hr, ?_⟩
      refine q2 _ _ ?_
      simp -implicitDefEqProofs only [go_sem, Nat.reduceBEq, Nat.reduceAdd, eq_self, true_and, and_true, and_self, List.getElem?_cons_zero, List.getElem?_cons_succ, Nat.reduceLeDiff, Nat.zero_add, Nat.reduceSub, Nat.le_refl, f1]
      exact f2
  simp only [Bool.not_true, cond_false] at q1 q2
  rcases hwo with ⟨R, q, rfl, hc0⟩ | ⟨jo, cap, rfl, -⟩
  all_goals
   first | (have hw0 := hw 0 hc0.symm) | (have hw0 := hw _ rfl)
   simp -implicitDefEqProofs only [go_sem, Nat.reduceBEq, Nat.reduceAdd, eq_self, true_and, and_true, and_self, List.getElem?_cons_zero, List.getElem?_cons_succ, Nat.reduceLeDiff, Nat.zero_add, Nat.reduceSub, Nat.le_refl, ho1, ho2, ho3, h1, cgC, hod, hw0, hs, Bool.not_true]
   refine ⟨hr, ?_⟩
   clear hod hw0 hw
   refine loop_at (fun (y : Nat) => ⟨[(2, .v (.ptr (some (σ.objs.length, 0)))), (3, .v (.ptr (some (b, 0)))), (4, .v (.ptr (some (c, 0)))), (26, .v (.sl db dr dz (intsV .i64 g.deps))), (27, .v (.int .i64 g.deps.length)), (28, .v (.int .i64 y))], []⟩)
     (fun y t => y ≤ g.deps.length ∧ t = ⟨O, σ.live⟩ ∧ ((List.range y).all fun r => decide (g.deps[r]?.getD 0 ≤ atD (cnts (cgL P)) r)) = true) (fun y => g.deps.length - y) 0 ?_ ?_ ?_
   · refine .inr ?_
     simp -implicitDefEqProofs only [go_sem, Nat.reduceBEq, Nat.reduceAdd, eq_self, true_and, and_true, and_self, List.getElem?_cons_zero, List.getElem?_cons_succ, Nat.reduceLeDiff, Nat.zero_add, Nat.reduceSub, Nat.le_refl, hl2]
     try exact ⟨rfl, rfl⟩
     try rfl
   · exact ⟨Nat.zero_le _, rfl, by simp⟩
   rintro y τ ⟨g1, rfl, g3⟩ Z z1 z2 z3
   simp -implicitDefEqProofs only [go_sem, Nat.reduceBEq, Nat.reduceAdd, eq_self, true_and, and_true, and_self, List.getElem?_cons_zero, List.getElem?_cons_succ, Nat.reduceLeDiff, Nat.zero_add, Nat.reduceSub, Nat.le_refl, Nat.lt_irrefl]
   refine CondW_b (fun hcc => ?_) (fun hcc => ?_)
   · have hi : y < g.deps.length := by simpa using hcc
     have hget := intsV_get hi
     have hwy : IntKind.i64.wrap ((y : Int) + 1) = ((y + 1 : Nat) : Int) := by rw [i64_in _ (by omega)]; omega
     obtain ⟨k1, k2⟩ := rdl hd0 (intsV_ne hi)
     have hst := under_at (m := cnts (cgL P)) hi rfl
     have hal : decide (g.deps[y]?.getD 0 ≤ atD (cnts (cgL P)) y) = decide (g.deps[y] ≤ atD (cnts (cgL P)) y) := by simp [hi]
     have hy64 : (0 : Int) ≤ (y : Int) ∧ (y : Int) < 64 := by omega
     rw [atD_cnts _ hy64] at hst hal
     obtain ⟨hlo2, hwo2⟩ := hL.ownc hy64
     have hod2 := ov_drop hlo2
     generalize ov[(y : Int).toNat] = o2 at hwo2 hod2
     generalize g.deps[y] = n at hget hst hal
     simp -implicitDefEqProofs only [go_sem, Nat.reduceBEq, Nat.reduceAdd, eq_self, true_and, and_true, and_self, List.getElem?_cons_zero, List.getElem?_cons_succ, Nat.reduceLeDiff, Nat.zero_add, Nat.reduceSub, Nat.le_refl, hl2, hget]
     refine ⟨⟨by omega, by omega, k2⟩, k1, ?_⟩
     cases hx : decide (n > (cnt (cgL P) (y : Int) : Int))
     · rcases hwo2 with ⟨R2, w2, rfl, hc2⟩ | ⟨j2, cap2, rfl, -⟩
       all_goals
        first | rw [hc2] at hx | skip
        simp -implicitDefEqProofs only [go_sem, Nat.reduceBEq, Nat.reduceAdd, eq_self, true_and, and_true, and_self, List.getElem?_cons_zero, List.getElem?_cons_succ, Nat.reduceLeDiff, Nat.zero_add, Nat.reduceSub, Nat.le_refl, ho1, ho2, ho3, h1, cgC, hod2, hx]
        refine ⟨hy64, ?_⟩
        simp -implicitDefEqProofs only [go_sem, Nat.reduceBEq, Nat.reduceAdd, eq_self, true_and, and_true, and_self, List.getElem?_cons_zero, List.getElem?_cons_succ, Nat.reduceLeDiff, Nat.zero_add, Nat.reduceSub, Nat.le_refl, hwy]
        refine z1 (y + 1) _ _ (.inr ?_) (by omega) ⟨by omega, rfl, ?_⟩
        · simp -implicitDefEqProofs only [go_sem, Nat.reduceBEq, Nat.reduceAdd, eq_self, true_and, and_true, and_self, List.getElem?_cons_zero, List.getElem?_cons_succ, Nat.reduceLeDiff, Nat.zero_add, Nat.reduceSub, Nat.le_refl, Nat.lt_irrefl]
          try exact ⟨rfl, rfl⟩
          try rfl
        · rw [hst, g3, Bool.true_and, decide_eq_true_eq]
          have := of_decide_eq_false hx
          omega
     · obtain ⟨f1, f2⟩ := hfin 4 _ _ he ho3
       have hun : underI g.deps (cnts (cgL P)) = false := all_false hi (by rw [atD_cnts _ hy64, hal, decide_eq_false_iff_not]; have := of_decide_eq_true hx; omega)
       rw [hun] at q1 q2
       rcases hwo2 with ⟨R2, w2, rfl, hc2⟩ | ⟨j2, cap2, rfl, -⟩
       all_goals
        first | rw [hc2] at hx | skip
        simp -implicitDefEqProofs only [go_sem, Nat.reduceBEq, Nat.reduceAdd, eq_self, true_and, and_true, and_self, List.getElem?_cons_zero, List.getElem?_cons_succ, Nat.reduceLeDiff, Nat.zero_add, Nat.reduceSub, Nat.le_refl, ho1, ho2, ho3, h1, cgC, hod2, hx]
        refine ⟨hy64, ?_⟩
        refine z3 _ _ ?_
        simp -implicitDefEqProofs only [go_sem, Nat.reduceBEq, Nat.reduceAdd, eq_self, true_and, and_true, and_self, List.getElem?_cons_zero, List.getElem?_cons_succ, Nat.reduceLeDiff, Nat.zero_add, Nat.reduceSub, Nat.le_refl, Nat.lt_irrefl]
        refine q2 _ _ ?_
        simp -implicitDefEqProofs only [go_sem, Nat.reduceBEq, Nat.reduceAdd, eq_self, true_and, and_true, and_self, List.getElem?_cons_zero, List.getElem?_cons_succ, Nat.reduceLeDiff, Nat.zero_add, Nat.reduceSub, Nat.le_refl, f1]
        exact f2
   have hun : underI g.deps (cnts (cgL P)) = true := by
     have : y = g.deps.length := by
       have : ¬ y < g.deps.length := by simpa using hcc
       omega
     subst this; exact g3
   have hund : ∀ (r : Nat) (h : r < g.deps.length), g.deps[r] ≤ (cnt (cgL P) (r : Int) : Int) := fun r h => by
     have := all_get hun h
     rw [atD_cnts _ (by omega)] at this
     simpa [h] using this
   rw [hun] at q1 q2
   simp only [Bool.not_true, cond_false] at q1 q2
   simp -implicitDefEqProofs only [go_sem, Nat.reduceBEq, Nat.reduceAdd, eq_self, true_and, and_true, and_self, List.getElem?_cons_zero, List.getElem?_cons_succ, Nat.reduceLeDiff, Nat.zero_add, Nat.reduceSub, Nat.le_refl, Nat.lt_irrefl]
   refine z2 _ _ _ ?_
   clear z1 z2 z3 g1 g3 hcc
   simp -implicitDefEqProofs only [go_sem, Nat.reduceBEq, Nat.reduceAdd, eq_self, true_and, and_true, and_self, List.getElem?_cons_zero, List.getElem?_cons_succ, Nat.reduceLeDiff, Nat.zero_add, Nat.reduceSub, Nat.le_refl, ho2, cgC]
   refine loop_at (fun (y : Nat) => ⟨[(2, .v (.ptr (some (σ.objs.length, 0)))), (3, .v (.ptr (some (b, 0)))), (4, .v (.ptr (some (c, 0)))), (44, .v (.sl db dr dz (intsV .i64 g.deps))), (45, .v (.int .i64 g.deps.length)), (46, .v (.int .i64 y))], []⟩)
     (fun y t => y ≤ g.deps.length ∧ t = ⟨O, σ.live⟩ ∧ ((List.range y).all fun r => depB (cgL P) g r (g.deps[r]?.getD 0)) = true) (fun y => g.deps.length - y) 0 ?_ ?_ ?_
   · refine .inr ?_
     simp -implicitDefEqProofs only [go_sem, Nat.reduceBEq, Nat.reduceAdd, eq_self, true_and, and_true, and_self, List.getElem?_cons_zero, List.getElem?_cons_succ, Nat.reduceLeDiff, Nat.zero_add, Nat.reduceSub, Nat.le_refl, hl2]
     try exact ⟨rfl, rfl⟩
     try rfl
   · exact ⟨Nat.zero_le _, rfl, by simp⟩
   rintro y τ ⟨g1, rfl, g3⟩ Z z1 z2 z3
   simp -implicitDefEqProofs only [go_sem, Nat.reduceBEq, Nat.reduceAdd, eq_self, true_and, and_true, and_self, List.getElem?_cons_zero, List.getElem?_cons_succ, Nat.reduceLeDiff, Nat.zero_add, Nat.reduceSub, Nat.le_refl, Nat.lt_irrefl]
   refine CondW_b (fun hcc => ?_) (fun hcc => ?_)
   · have hi : y < g.deps.length := by simpa using hcc
     have hget := intsV_get hi
     have hwy : IntKind.i64.wrap ((y : Int) + 1) = ((y + 1 : Nat) : Int) := by rw [i64_in _ (by omega)]; omega
     obtain ⟨k1, k2⟩ := rdl hd0 (intsV_ne hi)
     have hgo : g.deps[y]?.getD 0 = g.deps[y] := by simp [hi]
     have hal : ((List.range (y + 1)).all fun r => depB (cgL P) g r (g.deps[r]?.getD 0)) = depB (cgL P) g y g.deps[y] := by rw [all_snoc, g3, hgo, Bool.true_and]
     have hbad : depB (cgL P) g y g.deps[y] = false → depsB (cgL P) g = false := fun h => all_false hi (by rw [hgo]; exact h)
     have hy64 : (0 : Int) ≤ (y : Int) ∧ (y : Int) < 64 := by omega
     obtain ⟨hlo2, how⟩ := hL.ownl hy64
     have hod2 := ov_drop hlo2
     have hle := hund y hi
     have hn0 := hdn _ (List.getElem_mem hi)
     generalize g.deps[y] = n at hget hal hbad hle hn0
     simp -implicitDefEqProofs only [go_sem, Nat.reduceBEq, Nat.reduceAdd, eq_self, true_and, and_true, and_self, List.getElem?_cons_zero, List.getElem?_cons_succ, Nat.reduceLeDiff, Nat.zero_add, Nat.reduceSub, Nat.le_refl, hl2, hget]
     refine ⟨⟨by omega, by omega, k2⟩, k1, ?_⟩
     cases hx : decide (n > 0)
     · have hn : n = 0 := by have := of_decide_eq_false hx; omega
       simp -implicitDefEqProofs only [go_sem, Nat.reduceBEq, Nat.reduceAdd, eq_self, true_and, and_true, and_self, List.getElem?_cons_zero, List.getElem?_cons_succ, Nat.reduceLeDiff, Nat.zero_add, Nat.reduceSub, Nat.le_refl, hx]
       simp -implicitDefEqProofs only [go_sem, Nat.reduceBEq, Nat.reduceAdd, eq_self, true_and, and_true, and_self, List.getElem?_cons_zero, List.getElem?_cons_succ, Nat.reduceLeDiff, Nat.zero_add, Nat.reduceSub, Nat.le_refl, hwy]
       refine z1 (y + 1) _ _ (.inr ?_) (by omega) ⟨by omega, rfl, ?_⟩
       · simp -implicitDefEqProofs only [go_sem, Nat.reduceBEq, Nat.reduceAdd, eq_self, true_and, and_true, and_self, List.getElem?_cons_zero, List.getElem?_cons_succ, Nat.reduceLeDiff, Nat.zero_add, Nat.reduceSub, Nat.le_refl, Nat.lt_irrefl]
         try exact ⟨rfl, rfl⟩
         try rfl
       · rw [hal]; unfold depB; simp [hn]
     · have hx' := of_decide_eq_true hx
       have hdep : depB (cgL P) g y n = match (ownL (cgL P) y)[n.toNat - 1]? with
         | some h => st.less (atS h) (atS g)
         | none => false := by
           unfold depB
           rw [hL.good.find_O (by omega), show decide (n = 0) = false by rw [decide_eq_false_iff_not]; omega]
           rfl
       have hjl : n.toNat - 1 < (ownL (cgL P) y).length := by rw [ownL_len]; omega
       have hjl2 : n.toNat - 1 < ((ownL (cgL P) y).map atS).length := by simpa using hjl
       rw [List.getElem?_eq_getElem hjl] at hdep
       simp only at hdep
       have hg2 := sp_drop0 hjl2
       simp only [List.getElem_map] at hg2
       have hlen2 : ((ownL (cgL P) y).map atS).length = cnt (cgL P) y := by rw [List.length_map, ownL_len]
       have hw1 : IntKind.i64.wrap (n - 1) = ((n.toNat - 1 : Nat) : Int) := by rw [i64_in _ (by omega)]; omega
       generalize (ownL (cgL P) y)[n.toNat - 1] = h at hdep hg2
       have hsv := spsV_len ((ownL (cgL P) y).map atS)
       rcases how with ⟨R, q, e, e2⟩ | ⟨jj, cap, e, ho, -⟩
       · have : ((ownL (cgL P) y).map atS).length = 0 := by rw [← hsv, show spsV ((ownL (cgL P) y).map atS) = [] from e2]; rfl
         omega
       rw [e] at hod2
       rw [Int.toNat_natCast] at hod2
       have hls := iless_ok (σ := ⟨O, σ.live⟩) (a1 := h.ac) (a2 := h.ar) (b1 := g.ac) (b2 := g.ar)
       have hl2' : less h.ac h.ar g.ac g.ar = st.less (atS h) (atS g) := sless (atS h) (atS g)
       rw [hl2', ← hdep] at hls
       generalize n.toNat - 1 = kk at *
       have ho' : O[jj]? = _ := ho
       simp -implicitDefEqProofs only [go_sem, Nat.reduceBEq, Nat.reduceAdd, eq_self, true_and, and_true, and_self, List.getElem?_cons_zero, List.getElem?_cons_succ, Nat.reduceLeDiff, Nat.zero_add, Nat.reduceSub, Nat.le_refl, hx, ho1, ho2, ho3, h1, cgC, hod2, hw1, ho', hg2, Int.toNat_natCast, Nat.add_zero, spC, atS]
       refine ⟨hy64, ⟨by omega, by omega⟩, ?_⟩
       refine call_at hls ?_
       rintro w τ ⟨hτ, rfl⟩
       have hτ := hτ.symm
       subst hτ
       refine ⟨(Ext.refl _).kept, ?_⟩
       cases hy : depB (cgL P) g y n
       · obtain ⟨f1, f2⟩ := hfin 2 _ _ he ho3
         have hun : depsB (cgL P) g = false := hbad hy
         rw [hun] at q1 q2
         simp -implicitDefEqProofs only [go_sem, Nat.reduceBEq, Nat.reduceAdd, eq_self, true_and, and_true, and_self, List.getElem?_cons_zero, List.getElem?_cons_succ, Nat.reduceLeDiff, Nat.zero_add, Nat.reduceSub, Nat.le_refl, Bool.not_false, ho3]
         refine z3 _ _ ?_
         simp -implicitDefEqProofs only [go_sem, Nat.reduceBEq, Nat.reduceAdd, eq_self, true_and, and_true, and_self, List.getElem?_cons_zero, List.getElem?_cons_succ, Nat.reduceLeDiff, Nat.zero_add, Nat.reduceSub, Nat.le_refl, Nat.lt_irrefl]
         refine q2 _ _ ?_
         simp -implicitDefEqProofs only [go_sem, Nat.reduceBEq, Nat.reduceAdd, eq_self, true_and, and_true, and_self, List.getElem?_cons_zero, List.getElem?_cons_succ, Nat.reduceLeDiff, Nat.zero_add, Nat.reduceSub, Nat.le_refl, f1]
         exact f2
       · simp -implicitDefEqProofs only [go_sem, Nat.reduceBEq, Nat.reduceAdd, eq_self, true_and, and_true, and_self, List.getElem?_cons_zero, List.getElem?_cons_succ, Nat.reduceLeDiff, Nat.zero_add, Nat.reduceSub, Nat.le_refl, Bool.not_true, hwy]
         refine z1 (y + 1) _ _ (.inr ?_) (by omega) ⟨by omega, rfl, by rw [hal, hy]⟩
         simp -implicitDefEqProofs only [go_sem, Nat.reduceBEq, Nat.reduceAdd, eq_self, true_and, and_true, and_self, List.getElem?_cons_zero, List.getElem?_cons_succ, Nat.reduceLeDiff, Nat.zero_add, Nat.reduceSub, Nat.le_refl, Nat.lt_irrefl]
         try exact ⟨rfl, rfl⟩
         try rfl
   have hdp : depsB (cgL P) g = true := by
     have : y = g.deps.length := by
       have : ¬ y < g.deps.length := by simpa using hcc
       omega
     subst this; exact g3
   rw [hdp] at q1 q2
   simp only [Bool.not_true, cond_false] at q1 q2
   simp -implicitDefEqProofs only [go_sem, Nat.reduceBEq, Nat.reduceAdd, eq_self, true_and, and_true, and_self, List.getElem?_cons_zero, List.getElem?_cons_succ, Nat.reduceLeDiff, Nat.zero_add, Nat.reduceSub, Nat.le_refl, Nat.lt_irrefl]
   refine z2 _ _ _ ?_
   clear z1 z2 z3 g1 g3 hcc
   have hnm := names_ok (σ := ⟨O, σ.live⟩) (d := .sl db dr dz (intsV .i64 g.deps)) (g := g)
   simp only [cgV, cgC] at hnm
   simp -implicitDefEqProofs only [go_sem, Nat.reduceBEq, Nat.reduceAdd, eq_self, true_and, and_true, and_self, List.getElem?_cons_zero, List.getElem?_cons_succ, Nat.reduceLeDiff, Nat.zero_add, Nat.reduceSub, Nat.le_refl, ho2, cgC]
   refine call_at hnm ?_
   rintro v τ ⟨e1, qn, m0, rfl, hqn, -, hN0, hm0⟩
   refine ⟨kept_none, ?_⟩
   simp -implicitDefEqProofs only [go_sem, Nat.reduceBEq, Nat.reduceAdd, eq_self, true_and, and_true, and_self, List.getElem?_cons_zero, List.getElem?_cons_succ, Nat.reduceLeDiff, Nat.zero_add, Nat.reduceSub, Nat.le_refl, Nat.lt_irrefl]
   refine call_at (rising_ok (v := .sl false (.own qn) 2 (spsV m0)) ⟨_, _, _, rfl, by simp, .inr ⟨hqn, rfl⟩⟩ hm0) ?_
   rintro v τ2 ⟨e2, j, x, m, rfl, -, hj, ⟨qv, rfl, hqv, -⟩, hsrt, hmem, hm3⟩
   refine ⟨kept_none, ?_⟩
   have hN : IsN g m := ⟨hsrt, fun y => (hmem y).trans (hN0.2 y)⟩
   have hna := names_all hN (nmB (cgL P) g)
   have e3 := e1.trans e2
   have hb1 := e3.objs _ _ ho1
   have hb2 := e3.objs _ _ ho2
   have hb3 := e3.objs _ _ ho3
   have e4 := he.trans e3
   have hL2 := hL.ext e3
   have hd2 := hd0.ext e3
   have hcl : c < O.length := (List.getElem?_eq_some_iff.1 ho3).1
   have hol := e3.olen
   change O.length ≤ _ at hol
   clear hnm hund hN0 hm0 hqn e1 e2 e3 hL hd0 h1
   simp -implicitDefEqProofs only [go_sem, Nat.reduceBEq, Nat.reduceAdd, eq_self, true_and, and_true, and_self, List.getElem?_cons_zero, List.getElem?_cons_succ, Nat.reduceLeDiff, Nat.zero_add, Nat.reduceSub, Nat.le_refl, Nat.lt_irrefl]
   refine range_at ?_
   intro yl i0 r0 r1 r2 r3 hi hyy
   have e5 := ext_obj τ2 r0
   have hr0 : (⟨τ2.objs ++ [r0], τ2.live⟩ : St).objs[i0]? = some r0 := by rw [← hi]; simp
   have hrd : ∀ t : St, t.live[qv]? = some true → RdS t (.sl false (.view qv) 2 (spsV m)) 2 (spsV m) := fun t h => ⟨_, _, _, rfl, by simp, .inr ⟨h, rfl⟩⟩
   refine CallA.mono (sps1_ok (W := m)
     (fun R t => ∃ D, m = D ++ R ∧ Ext τ2 t ∧ t.objs[i0]? = some r0 ∧ D.all (nmB (cgL P) g) = true)
     (fun t => Ext σ t ∧ ((t.objs[i0]? = some r0 ∧ t.objs[c]? = some (.cells [V.int .i64 0]) ∧ m.all (nmB (cgL P) g) = true) ∨ (t.objs[i0]? = some (r2 .ret) ∧ t.objs[c]? = some (.cells [V.int .i64 2]) ∧ m.all (nmB (cgL P) g) = false)))
     (e5.objs _ _ hj) (hrd _ hqv) (by omega) ?_ ?_ ?_ ?_) ?_
   · exact ⟨[], rfl, e5, hr0, rfl⟩
   · rintro R t ⟨D, -, h, -⟩
     exact hrd _ (h.live _ hqv)
   · rintro a R t ⟨D, s1, s2, s8, s10⟩
     refine hyy t _ _ s8 rfl fun Y0 y0 => ?_
     simp -implicitDefEqProofs only [go_sem, Nat.reduceBEq, Nat.reduceAdd, eq_self, true_and, and_true, and_self, List.getElem?_cons_zero, List.getElem?_cons_succ, Nat.reduceLeDiff, Nat.zero_add, Nat.reduceSub, Nat.le_refl, rndF, setPs, dropL, spV, spC]
     refine y0 _ _ s8 fun Y y1 y2 y3 => ?_
     clear y0 Y0 hyy
     have hci : c ≠ i0 := by omega
     have hret : ∀ (F : Fr) (t' : St), Ext τ2 t' → t'.objs[i0]? = some r1 → nmB (cgL P) g a = false → Y .ret F (t'.setC c [V.int .i64 2]) := fun F t' f1 f2 f3 => by
       have hcl' : c < t'.objs.length := by have := f1.olen; omega
       have f2' : (t'.setC c [V.int .i64 2]).objs[i0]? = some r1 := (setC_ne (Ne.symm hci)).trans f2
       refine y3 _ _ f2' (.inr ⟨rfl, ext_setA (ext_set (e4.trans f1) (by omega)) (by omega), .inr ⟨setA_at f2', (setA_ne hci).trans (setC_get hcl'), ?_⟩⟩)
       rw [s1, List.all_append, List.all_cons, f3]; simp
     have hnorm : ∀ (F : Fr) (t' : St), Ext τ2 t' → t'.objs[i0]? = some r1 → nmB (cgL P) g a = true → Y .normal F t' := fun F t' f1 f2 f3 =>
       y1 _ _ f2 (.inl ⟨rfl, D ++ [a], by rw [s1]; simp, ext_setA f1 (by omega), setA_at f2, by rw [List.all_append, s10]; simp [f3]⟩)
     have b2 : Ext τ2 (t.setA i0 r1) := ext_setA s2 (by omega)
     have b6 : (t.setA i0 r1).objs[i0]? = some r1 := setA_at s8
     generalize t.setA i0 r1 = t2 at b2 b6 ⊢
     clear s2 s8 y1 y2 y3
     have c1 := b2.objs _ _ hb1
     have c2 := b2.objs _ _ hb2
     have c3 := b2.objs _ _ hb3
     have hL3 := hL2.ext b2
     have h1 := hL3.cells
     have hd3 := hd2.ext b2
     have i0l : i0 < t2.objs.length := (List.getElem?_eq_some_iff.1 b6).1
     have hap : ∀ (A : List AObj) x, (A ++ [x])[A.length]? = some x := by simp
     have e7 : ∀ v, Ext τ2 ((⟨t2.objs ++ [.cells [.int .i64 0]], t2.live⟩ : St).setC t2.objs.length [v]) := fun v => ext_set (b2.trans (ext_obj _ _)) b2.olen
     have d0 : ∀ v, ((⟨t2.objs ++ [.cells [.int .i64 0]], t2.live⟩ : St).setC t2.objs.length [v]).objs[t2.objs.length]? = some (.cells [v]) := fun v => setC_get (by simp)
     have d2 := fun v => (e7 v).objs _ _ hb2
     have d3 := fun v => (e7 v).objs _ _ hb3
     have d6 : ∀ v, ((⟨t2.objs ++ [.cells [.int .i64 0]], t2.live⟩ : St).setC t2.objs.length [v]).objs[i0]? = some r1 := fun v => by
       rw [setC_ne (by omega)]
       show (t2.objs ++ [_])[i0]? = _
       rw [List.getElem?_append_left i0l]; exact b6
     have hm := hL3.map
     have hka : keyFits KL (.agg [.int .i64 a.c, .int .i64 a.r]) = true := rfl
     have hsr := hL3.good.srt
     unfold nmB at hret hnorm
     clear hL3
     cases mo with
     | none =>
       have hP : (cgL P).find? (isA a) = none := by rw [show cgL P = [] from hm]; rfl
       rw [hP] at hret hnorm
       simp only at hret hnorm
       simp -implicitDefEqProofs only [go_sem, Nat.reduceBEq, Nat.reduceAdd, eq_self, true_and, and_true, and_self, List.getElem?_cons_zero, List.getElem?_cons_succ, Nat.reduceLeDiff, Nat.zero_add, Nat.reduceSub, Nat.le_refl, c1, c2, c3, h1, hka, spC, hap, d0, d2, d3]
       refine hret _ _ (e7 _) (d6 _) trivial
     | some mm =>
       obtain ⟨es, ver, hmo, hf⟩ := hm
       have hfa := hf a
       cases hP : (cgL P).find? (isA a) with
       | none =>
         rw [hP] at hret hnorm hfa
         simp only [Option.map_none] at hret hnorm hfa
         simp -implicitDefEqProofs only [go_sem, Nat.reduceBEq, Nat.reduceAdd, eq_self, true_and, and_true, and_self, List.getElem?_cons_zero, List.getElem?_cons_succ, Nat.reduceLeDiff, Nat.zero_add, Nat.reduceSub, Nat.le_refl, c1, c2, c3, h1, hka, hmo, hfa, spC, hap, d0, d2, d3]
         refine hret _ _ (e7 _) (d6 _) trivial
       | some h =>
         have hhr : h.ar = a.r := by
           have := ((find_A hsr).1 hP).2
           rw [← this]; rfl
         rw [hP] at hret hnorm hfa
         simp only [Option.map_some, hhr] at hret hnorm hfa
         simp -implicitDefEqProofs only [go_sem, Nat.reduceBEq, Nat.reduceAdd, eq_self, true_and, and_true, and_self, List.getElem?_cons_zero, List.getElem?_cons_succ, Nat.reduceLeDiff, Nat.zero_add, Nat.reduceSub, Nat.le_refl, c1, c2, c3, h1, hka, hmo, hfa, spC, cgC, hap, d0, d2, d3]
         refine call_at (at_ok (r := a.r) (hd2.ext (e7 _))) ?_
         rintro w τ ⟨hτ, rfl⟩
         have hτ := hτ.symm
         subst hτ
         refine ⟨(Ext.refl _).kept, ?_⟩
         cases hx : decide (h.seq > atD g.deps a.r)
         · simp -implicitDefEqProofs only [go_sem, Nat.reduceBEq, Nat.reduceAdd, eq_self, true_and, and_true, and_self, List.getElem?_cons_zero, List.getElem?_cons_succ, Nat.reduceLeDiff, Nat.zero_add, Nat.reduceSub, Nat.le_refl, hx]
           refine hnorm _ _ (e7 _) (d6 _) ?_
           rw [decide_eq_true_eq]
           have := of_decide_eq_false hx
           omega
         · simp -implicitDefEqProofs only [go_sem, Nat.reduceBEq, Nat.reduceAdd, eq_self, true_and, and_true, and_self, List.getElem?_cons_zero, List.getElem?_cons_succ, Nat.reduceLeDiff, Nat.zero_add, Nat.reduceSub, Nat.le_refl, hx, d3]
           refine hret _ _ (e7 _) (d6 _) ?_
           rw [decide_eq_false_iff_not]
           have := of_decide_eq_true hx
           omega
   · rintro t ⟨D, s1, s2, s8, s10⟩
     rw [List.append_nil] at s1
     subst s1
     exact ⟨e4.trans s2, .inl ⟨s8, s2.objs _ _ hb3, s10⟩⟩
   · rintro v t ⟨h1, ⟨h2, h3, h4⟩ | ⟨h2, h3, h4⟩⟩
     · refine .inl ⟨h2, ?_⟩
       rw [hna] at h4
       rw [show namesB (cgL P) g = true from h4] at q1 q2
       have h3' : (t.setA i0 (r3 .normal)).objs[c]? = _ := (setA_ne (by omega)).trans h3
       obtain ⟨f1, f2⟩ := hfin 0 _ _ (ext_setA h1 (i := i0) (o := r3 .normal) (by omega)) h3'
       simp -implicitDefEqProofs only [go_sem, Nat.reduceBEq, Nat.reduceAdd, eq_self, true_and, and_true, and_self, List.getElem?_cons_zero, List.getElem?_cons_succ, Nat.reduceLeDiff, Nat.zero_add, Nat.reduceSub, Nat.le_refl, h3']
       refine q2 _ _ ?_
       simp -implicitDefEqProofs only [go_sem, Nat.reduceBEq, Nat.reduceAdd, eq_self, true_and, and_true, and_self, List.getElem?_cons_zero, List.getElem?_cons_succ, Nat.reduceLeDiff, Nat.zero_add, Nat.reduceSub, Nat.le_refl, f1]
       exact f2
     · refine .inr ⟨.ret, by simp, h2, ?_⟩
       rw [hna] at h4
       rw [show namesB (cgL P) g = false from h4] at q1 q2
       have h3' : (t.setA i0 (r3 .ret)).objs[c]? = _ := (setA_ne (by omega)).trans h3
       simp -implicitDefEqProofs only [go_sem, Nat.reduceBEq, Nat.reduceAdd, eq_self, true_and, and_true, and_self, List.getElem?_cons_zero, List.getElem?_cons_succ, Nat.reduceLeDiff, Nat.zero_add, Nat.reduceSub, Nat.le_refl, h3']
       refine q2 _ _ ?_
       simp -implicitDefEqProofs only [go_sem, Nat.reduceBEq, Nat.reduceAdd, eq_self, true_and, and_true, and_self, List.getElem?_cons_zero, List.getElem?_cons_succ, Nat.reduceLeDiff, Nat.zero_add, Nat.reduceSub, Nat.le_refl, h3']
       exact ext_setA h1 (by omega)
end
end Go.VL.opl

namespace Go.VL.opl
open Go Go.VL Go.Proofs Go.IntWalk Go.VL.st Go.VL.row

theorem eq_key {x y : Int} : ∀ {k : V}, V.eq (.agg [.int .i64 x, .int .i64 y]) k = true → k = .agg [.int .i64 x, .int .i64 y] := by
  intro k h
  cases k <;> simp only [V.eq, Bool.false_eq_true] at h
  rename_i l
  match l, h with
  | [], h => simp [V.eqs] at h
  | [_], h => simp [V.eqs] at h
  | a :: b :: c :: r, h => simp [V.eqs] at h
  | [a, b], h =>
    simp only [V.eqs, Bool.and_true, Bool.and_eq_true] at h
    obtain ⟨h1, h2⟩ := h
    cases a <;> simp only [V.eq, Bool.false_eq_true] at h1
    cases b <;> simp only [V.eq, Bool.false_eq_true] at h2
    simp only [Bool.and_eq_true, decide_eq_true_eq] at h1 h2
    obtain ⟨rfl, rfl⟩ := h1
    obtain ⟨rfl, rfl⟩ := h2
    rfl
theorem key_self (x y : Int) : V.eq (.agg [.int .i64 x, .int .i64 y]) (.agg [.int .i64 x, .int .i64 y]) = true := by
  simp [V.eq, V.eqs]
theorem key_sp (a b : Sp) : V.eq (.agg [.int .i64 a.c, .int .i64 a.r]) (.agg [.int .i64 b.c, .int .i64 b.r]) = decide (a = b) := by
  cases a; cases b
  simp only [V.eq, V.eqs, Bool.and_true, decide_true, Bool.true_and]
  rw [Bool.eq_iff_iff]
  simp
theorem find_upd (x y : Sp) (v : V) : ∀ es : List (V × V), find (.agg [.int .i64 y.c, .int .i64 y.r]) (upd (.agg [.int .i64 x.c, .int .i64 x.r]) v es) = if y = x then some v else find (.agg [.int .i64 y.c, .int .i64 y.r]) es
  | [] => by
    simp only [upd, find, key_sp]
    by_cases h : y = x <;> simp [h]
  | p :: r => by
    have ih := find_upd x y v r
    simp only [upd]
    cases hx : V.eq (.agg [.int .i64 x.c, .int .i64 x.r]) p.1
    · simp only [cond_false, find]
      by_cases h : y = x
      · subst h
        rw [hx, cond_false, ih]; simp
      · rw [ih, if_neg h, if_neg h]
    · simp only [cond_true, find, key_sp]
      rw [eq_key hx, key_sp]
      by_cases h : y = x <;> simp [h]
theorem rowOf_ne {τ : St} {w : V} {z b : Nat} {es : List (List V)} {cs : List V} (h : RowOf τ w z es) (hb : τ.objs[b]? = some (.cells cs)) : ∀ n cap z', w ≠ .osl b n cap z' := by
  rintro n cap z' rfl
  rcases h with ⟨R, q, h, -⟩ | ⟨j, cap', h, h1, -⟩
  · cases h
  · cases h
    rw [hb] at h1; cases h1
theorem rowOf_nm {τ : St} {w : V} {z b : Nat} {es : List (List V)} {lv : List LK} {ms : List (V × V)} {ver : Nat} (h : RowOf τ w z es) (hb : τ.objs[b]? = some (.mp lv ms ver)) : ∀ n cap z', w ≠ .osl b n cap z' := by
  rintro n cap z' rfl
  rcases h with ⟨R, q, h, -⟩ | ⟨j, cap', h, h1, -⟩
  · cases h
  · cases h
    rw [hb] at h1; cases h1
theorem rowOf_lt {τ : St} {z b n cap z' : Nat} {es : List (List V)} (h : RowOf τ (.osl b n cap z') z es) : b < τ.objs.length := by
  rcases h with ⟨R, q, h, -⟩ | ⟨j, cap', h, h1, -⟩
  · cases h
  · cases h
    exact (List.getElem?_eq_some_iff.1 h1).1
/-- Rows of unlike widths are unlike. -/
theorem rowOf_nz {τ : St} {v : V} {z b n cap z2 z' : Nat} {es es' : List (List V)} (h : RowOf τ (.osl b n cap z') z es) (k : RowOf τ v z2 es') (hz : z ≠ z2) : ∀ n' cap' y, v ≠ .osl b n' cap' y := by
  rintro n' cap' y rfl
  rcases h with ⟨R, q, h, -⟩ | ⟨j, cap2, h, h1, -⟩
  · cases h
  cases h
  rcases k with ⟨R, q, h, -⟩ | ⟨j, cap3, h, h2, -⟩
  · cases h
  cases h
  rw [h1] at h2
  simp only [Option.some.injEq, AObj.row.injEq] at h2
  exact hz h2.2.1
/-- append of one to a row. -/
theorem ao_push {τ : St} {wo : V} {z r : Nat} {es : List (List V)} {e : List V} (h : RowOf τ wo z es) (hl : es.length < 1073741824) (he : e.length = z) (hr : τ.live[r]? = some true) :
    AoV τ z true wo (.sl false (.own r) z [e]) fun v τ' => RowOf τ' v z (es ++ [e]) ∧ τ'.live = τ.live ∧ τ.objs.length ≤ τ'.objs.length ∧ (∀ (j : Nat) (o : AObj), (∀ n cap z', wo ≠ .osl j n cap z') → τ.objs[j]? = some o → τ'.objs[j]? = some o) ∧
      (∃ j n cap, v = .osl j n cap z ∧ ((∃ n' cap', wo = .osl j n' cap' z) ∨ τ.objs.length ≤ j) ∧ j < τ'.objs.length) := by
  unfold AoV
  show AoP τ z true ((false = true ∨ rd τ.live (.own r)) ∧ (z = z ∨ _), [e]) _ wo
  rcases h with ⟨R, q, rfl, rfl⟩ | ⟨j, cap, rfl, h1, h2, h3⟩
  · refine ⟨rfl, ⟨.inr hr, .inl rfl⟩, by simp, (fun h => absurd h (by simp)), fun _ cap hc1 hc2 => ?_⟩
    refine ⟨.inr ⟨τ.objs.length, cap, rfl, by simp, by simpa using he, hc1⟩, rfl, by simp, fun j o _ hj => ?_, _, _, _, rfl, .inr (Nat.le_refl _), by simp⟩
    show (τ.objs ++ [_])[j]? = some o
    rw [List.getElem?_append_left (List.getElem?_eq_some_iff.1 hj).1]; exact hj
  · refine ⟨rfl, rfl, ?_⟩
    rw [h1]
    have hz : ∀ x ∈ es ++ [e], x.length = z := by
      intro x hx
      rcases List.mem_append.1 hx with hx | hx
      · exact h2 x hx
      · rw [List.mem_singleton] at hx; rw [hx]; exact he
    have hlt := (List.getElem?_eq_some_iff.1 h1).1
    refine ⟨⟨rfl, rfl, flat_len' h2⟩, ⟨.inr hr, .inl rfl⟩, by simp only [List.length_cons, List.length_nil]; omega, fun hc => ?_, fun hc cap' hc1 hc2 => ?_⟩
    · refine ⟨.inr ⟨j, cap, by simp, ?_, hz, by simpa using hc⟩, rfl, by show _ ≤ (τ.objs.set _ _).length; rw [List.length_set]; exact Nat.le_refl _, fun k o hk hj => ?_, _, _, _, rfl, .inl ⟨_, _, rfl⟩, by show _ < (τ.objs.set _ _).length; rw [List.length_set]; exact hlt⟩
      · show (τ.objs.set j _)[j]? = _
        rw [List.getElem?_set_self hlt]; simp
      · show (τ.objs.set j _)[k]? = some o
        rw [List.getElem?_set_ne (fun e => hk _ _ _ (by rw [e]))]; exact hj
    · refine ⟨.inr ⟨τ.objs.length, cap', by simp, by simp, hz, by simpa using hc1⟩, rfl, by simp, fun k o _ hj => ?_, _, _, _, rfl, .inr (Nat.le_refl _), by simp⟩
      show (τ.objs ++ [_])[k]? = some o
      rw [List.getElem?_append_left (List.getElem?_eq_some_iff.1 hj).1]; exact hj
/-- A log in the midst of an addition. -/
structure LMid (τ : St) (i : Nat) (mo : Option Nat) (s : V) (ov : List V) (room : Int) (P : List (V × Cg)) (Lm : List Cg) (ow : Nat → List Sp) : Prop where
  cells : τ.objs[i]? = some (.cells (.int .i64 room :: s :: .map mo :: ov))
  ovl : ov.length = 64
  row : RowOf τ s 13 (cgsV P)
  rds : Rds τ P
  map : MapOk τ mo Lm
  own : ∀ (r : Nat) (h : r < ov.length), RowOf τ ov[r] 2 (spsV (ow r))
  sep : ∀ (a b : Nat) (ha : a < ov.length) (hb : b < ov.length) j n cap z n' cap' z', ov[a] = .osl j n cap z → ov[b] = .osl j n' cap' z' → a = b
/-- What there is of a log behind a call. -/
structure LTo (σ τ : St) (i : Nat) (mo : Option Nat) (s s' : V) (ov ov' : List V) : Prop where
  upd : UpdS (Own i mo s ov) σ τ
  own : ∀ j, Own i mo s' ov' j → Own i mo s ov j ∨ σ.objs.length ≤ j
theorem LTo.refl (σ : St) (i : Nat) (mo : Option Nat) (s : V) (ov : List V) : LTo σ σ i mo s s ov ov := ⟨.refl _ _, fun _ h => .inl h⟩
theorem LTo.of {σ τ : St} {i : Nat} {mo : Option Nat} {s : V} {ov : List V} (h : Ext σ τ) : LTo σ τ i mo s s ov ov := ⟨.of h, fun _ h => .inl h⟩
theorem LTo.trans {a b c : St} {i : Nat} {mo : Option Nat} {s s' s'' : V} {ov ov' ov'' : List V} (h : LTo a b i mo s s' ov ov') (k : LTo b c i mo s' s'' ov' ov'') : LTo a c i mo s s'' ov ov'' :=
  ⟨h.upd.trans k.upd h.own, fun j hj => (k.own j hj).elim (h.own j) fun hl => .inr (Nat.le_trans h.upd.olen hl)⟩
section
variable {σ τ τ' : St} {i m : Nat} {mo : Option Nat} {s s' s1 d : V} {ov ov' : List V} {room : Int} {P P1 : List (V × Cg)} {g : Cg} {x : Sp} {Lm : List Cg} {ow : Nat → List Sp}
theorem LogIs.mid (h : LogIs σ i mo s ov room P) : LMid σ i mo s ov room P (cgL P) fun r => (ownL (cgL P) r).map atS :=
  ⟨h.cells, h.ovl, h.row, h.rds, h.map, h.own, h.sep⟩
theorem LMid.log (h : LMid σ i mo s ov room P (cgL P) fun r => (ownL (cgL P) r).map atS) (hg : Good (cgL P)) : LogIs σ i mo s ov room P :=
  ⟨h.cells, h.ovl, h.row, h.rds, h.map, h.own, h.sep, hg⟩
theorem LMid.own_lt (h : LMid σ i (some m) s ov room P Lm ow) {j : Nat} (hj : Own i (some m) s ov j) : j < σ.objs.length := by
  rcases hj with rfl | hj | ⟨n, cap, z, rfl⟩ | ⟨a, ha, n, cap, z, e⟩
  · exact (List.getElem?_eq_some_iff.1 h.cells).1
  · cases hj
    obtain ⟨es, ver, h1, -⟩ := h.map
    exact (List.getElem?_eq_some_iff.1 h1).1
  · exact rowOf_lt h.row
  · have := h.own a ha
    rw [e] at this
    exact rowOf_lt this
theorem LMid.ext (h : LMid σ i (some m) s ov room P Lm ow) (he : Ext σ τ) : LMid τ i (some m) s ov room P Lm ow := by
  have hu : UpdS (fun _ => False) σ τ := .of he
  obtain ⟨es, ver, h1, h2⟩ := h.map
  exact ⟨he.objs _ _ h.cells, h.ovl, rowOf_up h.row hu fun _ _ _ _ _ h => h, fun p hp => rdS_up (h.rds p hp) hu, ⟨es, ver, he.objs _ _ h1, h2⟩, fun r hr => rowOf_up (h.own r hr) hu fun _ _ _ _ _ h => h, h.sep⟩
/-- Insert. -/
theorem LMid.ins (h : LMid τ i (some m) s ov room P Lm ow) (hto : RowTo ⟨τ.objs, τ.live ++ [true]⟩ s τ') {jj n cap : Nat} (hr : RowOf τ' (.osl jj n cap 13) 13 (cgsV P1)) (hjj : (∃ n' cap', s = .osl jj n' cap' 13) ∨ τ.objs.length ≤ jj)
    (hp : Rds τ' P1) : τ'.objs[i]? = some (.cells (.int .i64 room :: s :: .map (some m) :: ov)) ∧ LMid (τ'.setC i (.int .i64 room :: .osl jj n cap 13 :: .map (some m) :: ov)) i (some m) (.osl jj n cap 13) ov room P1 Lm ow ∧
      LTo τ (τ'.setC i (.int .i64 room :: .osl jj n cap 13 :: .map (some m) :: ov)) i (some m) s (.osl jj n cap 13) ov ov := by
  obtain ⟨t1, t2, t3⟩ := hto
  have hi : τ'.objs[i]? = some (.cells (.int .i64 room :: s :: .map (some m) :: ov)) := t3 _ _ (rowOf_ne h.row h.cells) h.cells
  obtain ⟨es, ver, h1, h2⟩ := h.map
  have hmi : m ≠ i := fun e => by rw [e, h.cells] at h1; cases h1
  have hu0 : UpdS (fun j => ∃ n cap z, s = .osl j n cap z) τ τ' := ⟨fun j o hj ho => t3 j o (fun n cap z e => hj ⟨n, cap, z, e⟩) ho, fun r hr => by rw [t1]; exact (ext_live τ true).live r hr, t2, by rw [t1]; simp⟩
  have hu : UpdS (fun j => j = i) τ' (τ'.setC i (.int .i64 room :: .osl jj n cap 13 :: .map (some m) :: ov)) := updS_setC
  have hm1 := hu0.objs _ _ (fun ⟨n, cap, z, e⟩ => rowOf_nm h.row h1 _ _ _ e) h1
  refine ⟨hi, ⟨setC_get (List.getElem?_eq_some_iff.1 hi).1, h.ovl, rowOf_up hr hu fun j n' cap' z e => ?_, fun p hp' => rdS_up (hp p hp') hu, ⟨es, ver, hu.objs _ _ hmi hm1, h2⟩, fun r hrr => ?_, h.sep⟩, ⟨?_, ?_⟩⟩
  · rintro rfl
    exact rowOf_ne hr hi _ _ _ e
  · have ho := h.own r hrr
    refine rowOf_up (rowOf_up ho hu0 fun j n' cap' z e => ?_) hu fun j n' cap' z e => ?_
    · rintro ⟨n2, cap2, z2, e2⟩
      rw [e] at ho
      exact rowOf_nz ho h.row (by decide) _ _ _ e2
    · rintro rfl
      exact rowOf_ne ho h.cells _ _ _ e
  · exact UpdS.trans (S := Own i (some m) s ov) (S' := fun j => j = i) (a := τ) (b := τ') ⟨fun j o hj ho => hu0.objs j o (fun hx => hj (.inr (.inr (.inl hx)))) ho, hu0.live, hu0.olen, hu0.llen⟩ hu fun j hj => .inl (.inl hj)
  · rintro j (hj | hj | ⟨n', cap', z, hj⟩ | hj)
    · exact .inl (.inl hj)
    · exact .inl (.inr (.inl hj))
    · cases hj
      rcases hjj with ⟨n2, cap2, hj⟩ | hj
      · exact .inl (.inr (.inr (.inl ⟨_, _, _, hj⟩)))
      · exact .inr hj
    · exact .inl (.inr (.inr (.inr hj)))
/-- m[k] = v. -/
theorem LMid.put (h : LMid τ i (some m) s ov room P Lm ow) {Lm' : List Cg} {v : V} {es : List (V × V)} {ver : Nat} (hm : τ.objs[m]? = some (.mp KL es ver)) (hf : ∀ y : Sp, (if y = x then some v else find (.agg [.int .i64 y.c, .int .i64 y.r]) es) = (Lm'.find? (isA y)).map fun h => V.agg [.int .i64 h.seq]) {ver' : Nat} :
    LMid (τ.setM m KL (upd (.agg [.int .i64 x.c, .int .i64 x.r]) v es) ver') i (some m) s ov room P Lm' ow ∧ LTo τ (τ.setM m KL (upd (.agg [.int .i64 x.c, .int .i64 x.r]) v es) ver') i (some m) s s ov ov := by
  have hu : UpdS (fun k => k = m) τ (τ.setM m KL (upd (.agg [.int .i64 x.c, .int .i64 x.r]) v es) ver') := updS_setM
  have hmi : i ≠ m := fun e => by rw [← e, h.cells] at hm; cases hm
  refine ⟨⟨hu.objs _ _ hmi h.cells, h.ovl, rowOf_up h.row hu fun j n cap z e => ?_, fun p hp => rdS_up (h.rds p hp) hu, ⟨_, ver', ?_, fun y => (find_upd x y v es).trans (hf y)⟩, fun r hr => rowOf_up (h.own r hr) hu fun j n cap z e => ?_, h.sep⟩, ⟨fun j o hj => hu.objs j o fun e => hj (.inr (.inl (by rw [e]))), hu.live, hu.olen, hu.llen⟩, fun j hj => .inl hj⟩
  · rintro rfl; exact rowOf_nm h.row hm _ _ _ e
  · show (τ.objs.set _ _)[m]? = _
    rw [List.getElem?_set_self (List.getElem?_eq_some_iff.1 hm).1]
  · rintro rfl; exact rowOf_nm (h.own r hr) hm _ _ _ e
/-- append to one of the replicas' stamps. -/
theorem LMid.push (h : LMid τ i (some m) s ov room P Lm ow) {r : Nat} (hr : r < ov.length) {v : V} (hv : RowOf τ' v 2 (spsV (ow r ++ [x]))) (hlv : τ'.live = τ.live ++ [true]) (hol : τ.objs.length ≤ τ'.objs.length)
    (ho : ∀ (j : Nat) (o : AObj), (∀ n cap z', ov[r] ≠ .osl j n cap z') → τ.objs[j]? = some o → τ'.objs[j]? = some o) (hj : ∃ j n cap, v = .osl j n cap 2 ∧ ((∃ n' cap', ov[r] = .osl j n' cap' 2) ∨ τ.objs.length ≤ j) ∧ j < τ'.objs.length) {ow' : Nat → List Sp} (hw : ow' r = ow r ++ [x]) (hw' : ∀ k, k ≠ r → ow' k = ow k) :
    τ'.objs[i]? = some (.cells (.int .i64 room :: s :: .map (some m) :: ov)) ∧ LMid (τ'.setC i (.int .i64 room :: s :: .map (some m) :: ov.set r v)) i (some m) s (ov.set r v) room P Lm ow' ∧ LTo τ (τ'.setC i (.int .i64 room :: s :: .map (some m) :: ov.set r v)) i (some m) s s ov (ov.set r v) := by
  obtain ⟨jj, n, cap, rfl, hjj, hjl⟩ := hj
  have hrow := h.own r hr
  have hi : τ'.objs[i]? = _ := ho _ _ (rowOf_ne hrow h.cells) h.cells
  obtain ⟨es, ver, h1, h2⟩ := h.map
  have hmi : m ≠ i := fun e => by rw [e, h.cells] at h1; cases h1
  have hu0 : UpdS (fun j => ∃ n cap z, ov[r] = .osl j n cap z) τ τ' := ⟨fun j o hj hx => ho j o (fun n cap z e => hj ⟨n, cap, z, e⟩) hx, fun q hq => by rw [hlv]; exact (ext_live τ true).live q hq, hol, by rw [hlv]; simp⟩
  have hu : UpdS (fun j => j = i) τ' (τ'.setC i (.int .i64 room :: s :: .map (some m) :: ov.set r (.osl jj n cap 2))) := updS_setC
  have hm1 := hu0.objs _ _ (fun ⟨n, cap, z, e⟩ => rowOf_nm hrow h1 _ _ _ e) h1
  refine ⟨hi, ⟨setC_get (List.getElem?_eq_some_iff.1 hi).1, by rw [List.length_set]; exact h.ovl, rowOf_up (rowOf_up h.row hu0 fun j n' cap' z e => ?_) hu fun j n' cap' z e => ?_, fun p hp => rdS_up (rdS_up (h.rds p hp) hu0) hu, ⟨es, ver, hu.objs _ _ hmi hm1, h2⟩, fun k hk => ?_, ?_⟩, ⟨?_, ?_⟩⟩
  · rintro ⟨n2, cap2, z2, e2⟩
    have hs := h.row
    rw [e] at hs
    exact rowOf_nz hs hrow (by decide) _ _ _ e2
  · rintro rfl; exact rowOf_ne h.row h.cells _ _ _ e
  · have hk' : k < ov.length := by simpa using hk
    by_cases hkr : k = r
    · subst hkr
      rw [List.getElem_set_self, hw]
      refine rowOf_up hv hu fun j n' cap' z e => ?_
      rintro rfl; exact rowOf_ne hv hi _ _ _ e
    · rw [List.getElem_set_ne (Ne.symm hkr), hw' k hkr]
      have ho' := h.own k hk'
      refine rowOf_up (rowOf_up ho' hu0 fun j n' cap' z e => ?_) hu fun j n' cap' z e => ?_
      · rintro ⟨n2, cap2, z2, e2⟩
        exact hkr (h.sep _ _ hk' hr _ _ _ _ _ _ _ e e2)
      · rintro rfl; exact rowOf_ne ho' h.cells _ _ _ e
  · have new : ∀ (a : Nat) (ha : a < ov.length), a ≠ r → ∀ n' cap' z', ov[a] ≠ .osl jj n' cap' z' := by
      intro a ha har n' cap' z' e
      rcases hjj with ⟨n2, cap2, e2⟩ | hl
      · exact har (h.sep _ _ ha hr _ _ _ _ _ _ _ e e2)
      · have ho' := h.own a ha
        rw [e] at ho'
        have := rowOf_lt ho'
        omega
    intro a b ha hb j n1 c1 z1 n2 c2 z2 e1 e2
    rw [List.getElem_set] at e1 e2
    have ha' : a < ov.length := by simpa using ha
    have hb' : b < ov.length := by simpa using hb
    by_cases har : r = a <;> by_cases hbr : r = b
    · rw [← har, ← hbr]
    · rw [if_pos har] at e1
      rw [if_neg hbr] at e2
      cases e1
      exact absurd e2 (new b hb' (Ne.symm hbr) _ _ _)
    · rw [if_neg har] at e1
      rw [if_pos hbr] at e2
      cases e2
      exact absurd e1 (new a ha' (Ne.symm har) _ _ _)
    · rw [if_neg har] at e1
      rw [if_neg hbr] at e2
      exact h.sep _ _ ha' hb' _ _ _ _ _ _ _ e1 e2
  · exact UpdS.trans (S := Own i (some m) s ov) (S' := fun j => j = i) (a := τ) (b := τ') ⟨fun j o hj hx => hu0.objs j o (fun ⟨n, cap, z, e⟩ => hj (.inr (.inr (.inr ⟨r, hr, n, cap, z, e⟩)))) hx, hu0.live, hu0.olen, hu0.llen⟩ hu fun j hj => .inl (.inl hj)
  · rintro j (hj | hj | hj | ⟨a, ha, n', cap', z, hj⟩)
    · exact .inl (.inl hj)
    · exact .inl (.inr (.inl hj))
    · exact .inl (.inr (.inr (.inl hj)))
    · have ha' : a < ov.length := by simpa using ha
      rw [List.getElem_set] at hj
      by_cases har : r = a
      · rw [if_pos har] at hj
        cases hj
        rcases hjj with ⟨n2, cap2, e2⟩ | hl
        · exact .inl (.inr (.inr (.inr ⟨r, hr, _, _, _, e2⟩)))
        · exact .inr hl
      · rw [if_neg har] at hj
        exact .inl (.inr (.inr (.inr ⟨a, ha', _, _, _, hj⟩)))
end
end Go.VL.opl

namespace Go.VL.opl
open Go Go.VL Go.Proofs Go.IntWalk Go.VL.st Go.VL.row

section
variable {σ : St} {i m : Nat} {s d : V} {ov : List V} {room : Int} {P : List (V × Cg)} {g : Cg} {x : Sp}
theorem ov_over {ov : List V} {r : Nat} (h : r < ov.length) (a b c v : V) : List.take (3 + r * 1) (a :: b :: c :: ov) ++ [v] ++ List.drop (3 + r * 1) (b :: c :: ov) = a :: b :: c :: ov.set r v := by
  rw [Nat.mul_one, Nat.add_comm]
  simp only [List.take_succ_cons, List.drop_succ_cons, List.cons_append]
  rw [List.set_eq_take_append_cons_drop, if_pos h, List.append_assoc]
  rfl
theorem Good.deps {L : List Cg} (h : Good L) : ∀ g ∈ L, g.deps.length ≤ 64 := fun g hg => by
  obtain ⟨-, -, h1, -⟩ := chk_has (h.chk g hg)
  exact (clock_has h1).1
theorem LogIs.deps {mo : Option Nat} (h : LogIs σ i mo s ov room P) : ∀ p ∈ P, p.2.deps.length ≤ 2000000 := fun p hp => by
  have := h.good.deps p.2 (List.mem_map_of_mem hp)
  omega
set_option maxRecDepth 100000 in
set_option maxHeartbeats 4000000 in
theorem add_ok (h : LogIs σ i (some m) s ov room P) (hl : P.length ≤ 100000) (hd : RdS σ d 1 (intsV .i64 g.deps)) (hnl : g.name.length < 4611686018427387904) :
    CallA Try.prog 14 [.ptr (some (i, 0)), cgV d g] σ fun v σ' => v = .int .i64 (whyR (cgL P) room g) ∧ ∃ s' ov' P', LogIs σ' i (some m) s' ov' room P' ∧ cgL P' = addR (cgL P) room g ∧ LTo σ σ' i (some m) s s' ov ov' ∧ ∀ p ∈ P', p ∈ P ∨ NewS σ σ' p.1 1 (intsV .i64 p.2.deps) := by
  obtain ⟨db, dr, dz, rfl, -, -⟩ := id hd
  refine fn_at Try.func14 (by decide) dcomp14 rfl fun Q q1 q2 => ?_
  have hck := chk_ok hd hnl
  simp only [cgV, cgC] at hck
  have hsame : ∀ τ, Ext σ τ → whyR (cgL P) room g ≠ 0 → ∃ s' ov' P', LogIs τ i (some m) s' ov' room P' ∧ cgL P' = addR (cgL P) room g ∧ LTo σ τ i (some m) s s' ov ov' ∧ ∀ p ∈ P', p ∈ P ∨ NewS σ τ p.1 1 (intsV .i64 p.2.deps) := fun τ he hw => by
    refine ⟨s, ov, P, h.ext he, ?_, LTo.of he, fun p hp => .inl hp⟩
    unfold addR
    rw [show decide (whyR (cgL P) room g = 0) = false by simpa using hw]; rfl
  simp -implicitDefEqProofs only [go_sem, Nat.reduceBEq, Nat.reduceAdd, eq_self, true_and, and_true, and_self, List.getElem?_cons_zero, List.getElem?_cons_succ, Nat.reduceLeDiff, Nat.zero_add, Nat.reduceSub, Nat.le_refl, d14, cgV, cgC]
  refine call_at hck ?_
  rintro w τ ⟨hτ, rfl⟩
  have hτ := hτ.symm
  subst hτ
  refine ⟨kept_none, ?_⟩
  cases hc : decide (chkI g = 0)
  · have hw : whyR (cgL P) room g = chkI g := by unfold whyR; rw [hc]; rfl
    rw [hw] at q2 hsame
    simp -implicitDefEqProofs only [go_sem, Nat.reduceBEq, Nat.reduceAdd, eq_self, true_and, and_true, and_self, List.getElem?_cons_zero, List.getElem?_cons_succ, Nat.reduceLeDiff, Nat.zero_add, Nat.reduceSub, Nat.le_refl, hc, Bool.not_false]
    refine q2 _ _ ?_
    simp -implicitDefEqProofs only [go_sem, Nat.reduceBEq, Nat.reduceAdd, eq_self, true_and, and_true, and_self, List.getElem?_cons_zero, List.getElem?_cons_succ, Nat.reduceLeDiff, Nat.zero_add, Nat.reduceSub, Nat.le_refl, Nat.lt_irrefl]
    exact hsame _ (.refl _) (by simpa using hc)
  have hc0 : chkI g = 0 := by simpa using hc
  have hwp := why_prog (room := room) h.good hc0
  obtain ⟨hrt, -⟩ := chk_has hc0
  have hr : 0 ≤ g.ar ∧ g.ar < 64 := (right_has hrt).2
  simp -implicitDefEqProofs only [go_sem, Nat.reduceBEq, Nat.reduceAdd, eq_self, true_and, and_true, and_self, List.getElem?_cons_zero, List.getElem?_cons_succ, Nat.reduceLeDiff, Nat.zero_add, Nat.reduceSub, Nat.le_refl, hc, Bool.not_true]
  refine cut_at (fun G τ => τ = σ ∧ G = ⟨[(3, .loc 3 0), (6, .v (.ptr (some (i, 0))))], [(3, cgC (.sl db dr dz (intsV .i64 g.deps)) g)]⟩) ?_ ?_
  · intro Z z1 z2 z3
    simp -implicitDefEqProofs only [go_sem, Nat.reduceBEq, Nat.reduceAdd, eq_self, true_and, and_true, and_self, List.getElem?_cons_zero, List.getElem?_cons_succ, Nat.reduceLeDiff, Nat.zero_add, Nat.reduceSub, Nat.le_refl, Nat.lt_irrefl]
    refine z1 _ _ _ (.inr ?_) ⟨rfl, rfl⟩
    simp -implicitDefEqProofs only [go_sem, Nat.reduceBEq, Nat.reduceAdd, eq_self, true_and, and_true, and_self, List.getElem?_cons_zero, List.getElem?_cons_succ, Nat.reduceLeDiff, Nat.zero_add, Nat.reduceSub, Nat.le_refl, cgC]
    try exact ⟨rfl, rfl⟩
    try exact rfl
  rintro G τ ⟨hτ, rfl⟩
  have hτ := hτ.symm
  subst hτ
  have hkn := known_ok h (by omega) hd h.deps hr
  simp only [cgV, cgC] at hkn
  simp -implicitDefEqProofs only [go_sem, Nat.reduceBEq, Nat.reduceAdd, eq_self, true_and, and_true, and_self, List.getElem?_cons_zero, List.getElem?_cons_succ, Nat.reduceLeDiff, Nat.zero_add, Nat.reduceSub, Nat.le_refl, cgC]
  refine call_at hkn ?_
  rintro w τ ⟨rfl, hτ⟩
  have hτ := hτ.symm
  subst hτ
  refine ⟨kept_none, ?_⟩
  cases hk : decide (knI (cgL P) g = 0) <;> rw [hk] at hwp
  · simp only [Bool.not_false, cond_true] at hwp
    rw [hwp] at q2 hsame
    simp -implicitDefEqProofs only [go_sem, Nat.reduceBEq, Nat.reduceAdd, eq_self, true_and, and_true, and_self, List.getElem?_cons_zero, List.getElem?_cons_succ, Nat.reduceLeDiff, Nat.zero_add, Nat.reduceSub, Nat.le_refl, hk, Bool.not_false]
    refine q2 _ _ ?_
    simp -implicitDefEqProofs only [go_sem, Nat.reduceBEq, Nat.reduceAdd, eq_self, true_and, and_true, and_self, List.getElem?_cons_zero, List.getElem?_cons_succ, Nat.reduceLeDiff, Nat.zero_add, Nat.reduceSub, Nat.le_refl, Nat.lt_irrefl]
    exact hsame _ (.refl _) (by simpa using hk)
  simp only [Bool.not_true, cond_false] at hwp
  have hrd := ready_ok h (by omega) hd hc0
  simp only [cgV, cgC] at hrd
  simp -implicitDefEqProofs only [go_sem, Nat.reduceBEq, Nat.reduceAdd, eq_self, true_and, and_true, and_self, List.getElem?_cons_zero, List.getElem?_cons_succ, Nat.reduceLeDiff, Nat.zero_add, Nat.reduceSub, Nat.le_refl, hk, Bool.not_true]
  refine call_at hrd ?_
  rintro w τ ⟨rfl, e1⟩
  refine ⟨kept_none, ?_⟩
  cases hy : decide (rdI (cgL P) g = 0) <;> rw [hy] at hwp
  · simp only [Bool.not_false, cond_true] at hwp
    rw [hwp] at q2 hsame
    simp -implicitDefEqProofs only [go_sem, Nat.reduceBEq, Nat.reduceAdd, eq_self, true_and, and_true, and_self, List.getElem?_cons_zero, List.getElem?_cons_succ, Nat.reduceLeDiff, Nat.zero_add, Nat.reduceSub, Nat.le_refl, hy, Bool.not_false]
    refine q2 _ _ ?_
    simp -implicitDefEqProofs only [go_sem, Nat.reduceBEq, Nat.reduceAdd, eq_self, true_and, and_true, and_self, List.getElem?_cons_zero, List.getElem?_cons_succ, Nat.reduceLeDiff, Nat.zero_add, Nat.reduceSub, Nat.le_refl, Nat.lt_irrefl]
    exact hsame _ e1 (by simpa using hy)
  simp only [Bool.not_true, cond_false] at hwp
  simp -implicitDefEqProofs only [go_sem, Nat.reduceBEq, Nat.reduceAdd, eq_self, true_and, and_true, and_self, List.getElem?_cons_zero, List.getElem?_cons_succ, Nat.reduceLeDiff, Nat.zero_add, Nat.reduceSub, Nat.le_refl, hy, Bool.not_true]
  have h1 := (h.ext e1).cells
  have hn : ∀ n : Nat, n = P.length → (decide ((n : Int) ≥ room) = decide (((cgL P).length : Int) ≥ room)) := fun n e => by rw [e, List.length_map]
  have hnf : (cgL P).find? (isA (atS g)) = none := by
    cases hf : (cgL P).find? (isA (atS g)) with
    | none => rfl
    | some k =>
      have := of_decide_eq_true hk
      unfold knI at this
      rw [hf] at this
      simp only at this
      cases hx : sameC k g <;> rw [hx] at this <;> simp at this
  cases hg : decide (((cgL P).length : Int) ≥ room) <;> rw [hg] at hwp hn
  case true =>
    simp only [cond_true] at hwp
    rw [hwp] at q2 hsame
    obtain ⟨n, cap, ⟨-, R, q, rfl, hP⟩ | rfl⟩ := h.len
    all_goals
      first | (have hn0 := hn 0 (by rw [hP]; rfl)) | (have hn0 := hn _ rfl)
      simp -implicitDefEqProofs only [go_sem, Nat.reduceBEq, Nat.reduceAdd, eq_self, true_and, and_true, and_self, List.getElem?_cons_zero, List.getElem?_cons_succ, Nat.reduceLeDiff, Nat.zero_add, Nat.reduceSub, Nat.le_refl, h1, hn0]
      refine q2 _ _ ?_
      simp -implicitDefEqProofs only [go_sem, Nat.reduceBEq, Nat.reduceAdd, eq_self, true_and, and_true, and_self, List.getElem?_cons_zero, List.getElem?_cons_succ, Nat.reduceLeDiff, Nat.zero_add, Nat.reduceSub, Nat.le_refl, Nat.lt_irrefl]
      exact hsame _ e1 (by decide)
  simp only [cond_false] at hwp
  have hL := h.ext e1
  have hM := hL.mid
  have hto := LTo.of (i := i) (mo := some m) (s := s) (ov := ov) e1
  have hfit := why_fits (by rw [hwp] : whyR (cgL P) room g = 0)
  rw [hwp] at q2
  have hd1 := hd.ext e1
  have hadd : addR (cgL P) room g = putC g (cgL P) := by unfold addR; rw [hwp]; rfl
  have hgood := hfit.good h.good
  have hdl : g.deps.length ≤ 64 := (clock_has (chk_has hc0).2.2.1).1
  have hpl0 := place_at (x := atS g) hL (by omega)
  simp only [spV, spC, atS] at hpl0
  have hcp := pcopy_ok (σ := τ) hd1 (by omega)
  simp only [cgV, cgC] at hcp
  obtain ⟨n, cap, ⟨-, R, q, rfl, hP⟩ | rfl⟩ := h.len
  all_goals
    first | (have hn0 := hn 0 (by rw [hP]; rfl)) | (have hn0 := hn _ rfl)
    simp -implicitDefEqProofs only [go_sem, Nat.reduceBEq, Nat.reduceAdd, eq_self, true_and, and_true, and_self, List.getElem?_cons_zero, List.getElem?_cons_succ, Nat.reduceLeDiff, Nat.zero_add, Nat.reduceSub, Nat.le_refl, h1, hn0]
    refine call_at hpl0 ?_
    rintro w τ1 ⟨⟨k, rfl, hpa⟩, hτ⟩
    have hτ := hτ.symm
    subst hτ
    refine ⟨kept_none, ?_⟩
    simp -implicitDefEqProofs only [go_sem, Nat.reduceBEq, Nat.reduceAdd, eq_self, true_and, and_true, and_self, List.getElem?_cons_zero, List.getElem?_cons_succ, Nat.reduceLeDiff, Nat.zero_add, Nat.reduceSub, Nat.le_refl, h1, cgC]
    refine call_at hcp ?_
    rintro w τ2 ⟨e2, ho2, y, rfl, rq, rfl, hlq, hgq⟩
    refine ⟨e2.kept, ?_⟩
    have hM2 := hM.ext e2
    have hto2 := hto.trans (LTo.of (i := i) (mo := some m) e2)
    have hkP : k ≤ P.length := by have := hpa.1; rwa [List.length_map] at this
    have hlit : (⟨τ2.objs, τ2.live ++ [true]⟩ : St).live[τ2.live.length]? = some true := by simp
    simp -implicitDefEqProofs only [go_sem, Nat.reduceBEq, Nat.reduceAdd, eq_self, true_and, and_true, and_self, List.getElem?_cons_zero, List.getElem?_cons_succ, Nat.reduceLeDiff, Nat.zero_add, Nat.reduceSub, Nat.le_refl, Nat.lt_irrefl]
    refine call_at (ins_ok (x := cgC (.sl false (.own rq) 1 (intsV .i64 g.deps)) g) (show RowOf ⟨τ2.objs, τ2.live ++ [true]⟩ _ 13 (cgsV P) from hM2.row) (i := k) (by rw [cgsV_len]; exact hkP) (by rw [cgsV_len]; omega) hlit rfl) ?_
    rintro w τ3 ⟨hr3, hto3, jj, cp, rfl, hjj⟩
    have hO1 : (cgsV P).take k ++ cgC (.sl false (.own rq) 1 (intsV .i64 g.deps)) g :: (cgsV P).drop k = cgsV (P.take k ++ (.sl false (.own rq) 1 (intsV .i64 g.deps), g) :: P.drop k) := by simp [cgsV, List.map_take, List.map_drop]
    rw [hO1] at hr3
    have hL1 : cgL (P.take k ++ (.sl false (.own rq) 1 (intsV .i64 g.deps), g) :: P.drop k) = putC g (cgL P) := by
      rw [hpa.put hnf]; simp [List.map_take, List.map_drop]
    have hmem : ∀ p ∈ P.take k ++ (V.sl false (.own rq) 1 (intsV .i64 g.deps), g) :: P.drop k, p ∈ P ∨ p = (V.sl false (.own rq) 1 (intsV .i64 g.deps), g) := fun p hp => by
      rcases List.mem_append.1 hp with hp | hp
      · exact .inl (List.mem_of_mem_take hp)
      · rcases List.mem_cons.1 hp with hp | hp
        · exact .inr hp
        · exact .inl (List.mem_of_mem_drop hp)
    generalize P.take k ++ (V.sl false (.own rq) 1 (intsV .i64 g.deps), g) :: P.drop k = P1 at hr3 hL1 hmem
    have hu3 : UpdS (fun j => ∃ n cap z, _ = V.osl j n cap z) τ2 τ3 := ⟨fun j o hj ho => hto3.2.2 j o (fun n cap z e => hj ⟨n, cap, z, e⟩) ho, fun r hr => by rw [hto3.1]; exact (ext_live τ2 true).live r hr, hto3.2.1, by rw [hto3.1]; simp⟩
    have hl3 := hu3.live _ hlq
    obtain ⟨hci, hM3, hto4⟩ := hM2.ins hto3 hr3 hjj fun p hp => by
      rcases hmem p hp with hp | rfl
      · exact rdS_up (hM2.rds p hp) hu3
      · exact ⟨_, _, _, rfl, by simp, .inr ⟨hl3, rfl⟩⟩
    have hi3 := rowOf_ne hM2.row hM2.cells
    refine ⟨fun L hL => by cases hL; exact ⟨fun q hq o ho => by rw [List.mem_singleton] at hq; subst hq; exact hto3.2.2 _ o (fun n cap z e => hi3 n cap z e) ho, fun r hr => by rw [hto3.1]; exact hr⟩, ?_⟩
    have hto5 := hto2.trans hto4
    have hl4 : (τ3.setC i (.int .i64 room :: .osl jj ((cgsV P).length + 1) cp 13 :: .map (some m) :: ov)).live[rq]? = some true := hl3
    clear hi3 hto3 hu3 hto4 hto2 hM2 hr3 hjj
    simp -implicitDefEqProofs only [go_sem, Nat.reduceBEq, Nat.reduceAdd, eq_self, true_and, and_true, and_self, List.getElem?_cons_zero, List.getElem?_cons_succ, Nat.reduceLeDiff, Nat.zero_add, Nat.reduceSub, Nat.le_refl, hci, flats, V.flat]
    generalize τ3.setC i (.int .i64 room :: .osl jj ((cgsV P).length + 1) cp 13 :: .map (some m) :: ov) = τ4 at hM3 hto5 hl4 ⊢
    generalize V.osl jj ((cgsV P).length + 1) cp 13 = s1 at hM3 hto5 ⊢
    have hc4 := hM3.cells
    have hka : keyFits KL (.agg [.int .i64 g.ac, .int .i64 g.ar]) = true := rfl
    obtain ⟨es, ver, hm4, hf4⟩ := hM3.map
    have hnew := find_A_none.1 hnf
    obtain ⟨hM5, hto6⟩ := hM3.put (x := atS g) (v := .agg [.int .i64 g.seq]) (Lm' := putC g (cgL P)) hm4 (fun z => by
      rw [putC_find h.good.srt hnew z, hf4 z]
      by_cases hz : z = atS g <;> simp [hz]) (ver' := ver + 1)
    simp only [atS] at hM5 hto6
    have hto7 := hto5.trans hto6
    simp -implicitDefEqProofs only [go_sem, Nat.reduceBEq, Nat.reduceAdd, eq_self, true_and, and_true, and_self, List.getElem?_cons_zero, List.getElem?_cons_succ, Nat.reduceLeDiff, Nat.zero_add, Nat.reduceSub, Nat.le_refl, hc4, hka, hm4, cgC]
    refine ⟨hr, ?_⟩
    have hl5 : (τ4.setM m KL (upd (.agg [.int .i64 g.ac, .int .i64 g.ar]) (.agg [.int .i64 g.seq]) es) (ver + 1)).live[rq]? = some true := hl4
    unfold KL at hM5 hto7 hl5
    generalize τ4.setM m _ _ _ = τ5 at hM5 hto7 hl5 ⊢
    clear hto6 hM3 hto5 hl4 hc4 hm4 hf4
    have hc5 := hM5.cells
    have hlo : g.ar.toNat < ov.length := by rw [h.ovl]; omega
    have hod := ov_drop hlo
    have hown : RowOf ⟨τ5.objs, τ5.live ++ [true]⟩ ov[g.ar.toNat] 2 (spsV ((ownL (cgL P) ((g.ar.toNat : Nat) : Int)).map atS)) := hM5.own g.ar.toNat hlo
    have hrr : ((g.ar.toNat : Nat) : Int) = g.ar := by omega
    have hcn := cnt_le (cgL P) g.ar
    rw [map2_len] at hcn
    simp -implicitDefEqProofs only [go_sem, Nat.reduceBEq, Nat.reduceAdd, eq_self, true_and, and_true, and_self, List.getElem?_cons_zero, List.getElem?_cons_succ, Nat.reduceLeDiff, Nat.zero_add, Nat.reduceSub, Nat.le_refl, hc5, hod]
    have hlit5 : (⟨τ5.objs, τ5.live ++ [true]⟩ : St).live[τ5.live.length]? = some true := by simp
    refine ao_at (ao_push (e := spC (atS g)) hown (by rw [spsV_len, List.length_map, ownL_len, hrr]; omega) rfl hlit5) ?_
    rintro v τ6 ⟨hr6, hlv6, hol6, ho6, hj6⟩
    obtain ⟨hi6, hM7, hto8⟩ := hM5.push (x := atS g) (τ' := τ6) (v := v) hlo (by rw [spsV_snoc _ (atS g)]; exact hr6) hlv6 hol6 ho6 (id hj6) (ow' := fun r => (ownL (putC g (cgL P)) r).map atS) (by
      show (ownL (putC g (cgL P)) _).map atS = (ownL (cgL P) _).map atS ++ [atS g]
      rw [hrr, hfit.own h.good]; simp) (fun kk hkk => by
      show (ownL (putC g (cgL P)) _).map atS = (ownL (cgL P) _).map atS
      rw [putC_own (by omega)])
    have hi5 := rowOf_ne hown hc5
    have hl6 : τ6.live[rq]? = some true := by rw [hlv6]; exact (ext_live τ5 true).live _ hl5
    refine ⟨fun L hL => by cases hL; exact ⟨fun q hq o ho => by rw [List.mem_singleton] at hq; subst hq; exact ho6 _ o (fun n cap z e => hi5 n cap z e) ho, fun r hr => by rw [hlv6]; exact hr⟩, ?_⟩
    obtain ⟨j6, n6, c6, rfl, -, -⟩ := hj6
    have hov := ov_over hlo
    have hto9 := hto7.trans hto8
    have hfin : LogIs (τ6.setC i (.int .i64 room :: s1 :: .map (some m) :: ov.set g.ar.toNat (.osl j6 n6 c6 2))) i (some m) s1 (ov.set g.ar.toNat (.osl j6 n6 c6 2)) room P1 := by
      refine LMid.log ?_ (by rw [hL1]; exact hgood)
      rw [hL1]
      exact hM7
    have hnew2 : ∀ p ∈ P1, p ∈ P ∨ NewS σ (τ6.setC i (.int .i64 room :: s1 :: .map (some m) :: ov.set g.ar.toNat (.osl j6 n6 c6 2))) p.1 1 (intsV .i64 p.2.deps) := fun p hp => by
      rcases hmem p hp with hp | rfl
      · exact .inl hp
      · exact .inr ⟨rq, rfl, hl6, Nat.le_trans e1.llen hgq⟩
    clear hM7 hto8 hr6 hi5 hM5
    simp -implicitDefEqProofs only [go_sem, Nat.reduceBEq, Nat.reduceAdd, eq_self, true_and, and_true, and_self, List.getElem?_cons_zero, List.getElem?_cons_succ, Nat.reduceLeDiff, Nat.zero_add, Nat.reduceSub, Nat.le_refl, hi6, hov, flats, V.flat]
    refine ⟨hr, by omega, ?_⟩
    refine q2 _ _ ?_
    simp -implicitDefEqProofs only [go_sem, Nat.reduceBEq, Nat.reduceAdd, eq_self, true_and, and_true, and_self, List.getElem?_cons_zero, List.getElem?_cons_succ, Nat.reduceLeDiff, Nat.zero_add, Nat.reduceSub, Nat.le_refl, Nat.lt_irrefl]
    exact ⟨_, _, _, hfin, hL1.trans hadd.symm, hto9, hnew2⟩
end
end Go.VL.opl

namespace Go.VL.opl
open Go Go.VL Go.Proofs Go.IntWalk Go.VL.st Go.VL.row

theorem Trims.uniq {l a b : List Int} {y z : Nat} (h : Trims l a y) (k : Trims l b z) : a = b := by
  have key : ∀ {a b : List Int} {y z : Nat}, a ++ List.replicate y 0 = b ++ List.replicate z 0 → (a = [] ∨ ∃ c x, a = c ++ [x] ∧ x ≠ 0) → a.length ≤ b.length := by
    intro a b y z e ha
    rcases ha with rfl | ⟨c, x, rfl, hx⟩
    · exact Nat.zero_le _
    · refine Nat.le_of_not_lt fun hl => hx ?_
      have h1 := congrArg (fun l => l[c.length]?) e
      rw [List.append_assoc, List.getElem?_append_right (Nat.le_refl _), List.singleton_append] at h1
      rw [Nat.sub_self, List.getElem?_cons_zero, List.getElem?_append_right (by simp at hl; omega)] at h1
      obtain ⟨_, h2⟩ := List.getElem?_eq_some_iff.1 h1.symm
      simpa using h2.symm
  have h1 := key (h.1.symm.trans k.1) h.2
  have h2 := key (k.1.symm.trans h.1) k.2
  exact (List.append_inj (h.1.symm.trans k.1) (by omega)).1
theorem trims_end (l : List Int) : ∀ (n : Nat), n ≤ l.length → (∀ (k : Nat) (h : k < l.length), n ≤ k → l[k] = 0) → (n = 0 ∨ ∃ h : n - 1 < l.length, l[n - 1] ≠ 0) → Trims l (l.take n) (l.length - n) := by
  intro n hn hz hx
  have e : l.drop n = List.replicate (l.length - n) 0 := by
    refine List.ext_getElem (by simp) fun i h1 h2 => ?_
    rw [List.getElem_drop, List.getElem_replicate]
    exact hz _ _ (by omega)
  refine ⟨by rw [← e, List.take_append_drop], ?_⟩
  rcases hx with rfl | ⟨h, h2⟩
  · exact .inl (by simp)
  · by_cases h0 : n = 0
    · exact .inl (by rw [h0]; simp)
    · refine .inr ⟨l.take (n - 1), l[n - 1], ?_, h2⟩
      rw [← List.take_succ_eq_append_getElem h]
      congr 1; omega
theorem lastR_max (L : List Cg) (g : Cg) (h : ∀ x ∈ L, x.ac ≤ g.ac) (h0 : 0 ≤ g.ac) : lastR (L ++ [g]) = g.ac := by
  have hb : ∀ (L : List Cg), (∀ x ∈ L, x.ac ≤ g.ac) → lastR L ≤ g.ac := by
    intro L
    unfold lastR
    suffices ∀ (L : List Cg) (n : Int), n ≤ g.ac → (∀ x ∈ L, x.ac ≤ g.ac) → L.foldl (fun n g => max n g.ac) n ≤ g.ac from fun h => this L 0 h0 h
    intro L
    induction L with
    | nil => intro n hn _; exact hn
    | cons a t ih => intro n hn ht; exact ih _ (by have := ht a (by simp); show max n a.ac ≤ g.ac; omega) fun x hx => ht x (by simp [hx])
  have := hb L h
  rw [lastR_snoc]
  omega
theorem Good.last {L : List Cg} (h : Good L) {n : Nat} (hn : n + 1 = L.length) : lastR L = (L[n]'(by omega)).ac := by
  have e : L = L.take n ++ [L[n]'(by omega)] := by
    rw [← List.take_succ_eq_append_getElem (by omega), List.take_of_length_le (by omega)]
  have hs := h.srt
  conv => lhs; rw [e]
  refine lastR_max _ _ (fun x hx => ?_) ?_
  · obtain ⟨k, hk, rfl⟩ := List.getElem_of_mem hx
    rw [List.getElem_take]
    have hk' : k < n := by simp at hk; omega
    have := List.pairwise_iff_getElem.1 hs k n (by omega) (by omega) hk'
    simp only [st.less, Bool.or_eq_true, Bool.and_eq_true, decide_eq_true_eq, atS] at this
    rcases this with h | ⟨h, -⟩ <;> have := of_decide_eq_true h <;> omega
  · have := (chk_has (h.chk _ (List.getElem_mem (by omega : n < L.length)))).2.1
    omega
section
variable {σ : St} {i m : Nat} {mo : Option Nat} {s d v : V} {ov : List V} {room r n : Int} {P : List (V × Cg)} {g : Cg} {x : Sp} {l : List Int}
set_option maxRecDepth 100000 in
set_option maxHeartbeats 4000000 in
theorem add_nil (hd : RdS σ d 1 (intsV .i64 g.deps)) (hnl : g.name.length < 4611686018427387904) :
    CallA Try.prog 14 [.ptr none, cgV d g] σ fun v σ' => v = .int .i64 (whyR [] 0 g) ∧ Ext σ σ' := by
  obtain ⟨db, dr, dz, rfl, -, -⟩ := id hd
  refine fn_at Try.func14 (by decide) dcomp14 rfl fun Q q1 q2 => ?_
  have hck := chk_ok hd hnl
  simp only [cgV, cgC] at hck
  simp -implicitDefEqProofs only [go_sem, Nat.reduceBEq, Nat.reduceAdd, eq_self, true_and, and_true, and_self, List.getElem?_cons_zero, List.getElem?_cons_succ, Nat.reduceLeDiff, Nat.zero_add, Nat.reduceSub, Nat.le_refl, d14, cgV, cgC]
  refine call_at hck ?_
  rintro w τ ⟨hτ, rfl⟩
  have hτ := hτ.symm
  subst hτ
  refine ⟨kept_none, ?_⟩
  cases hc : decide (chkI g = 0)
  · have hw : whyR [] 0 g = chkI g := by unfold whyR; rw [hc]; rfl
    rw [hw] at q2
    simp -implicitDefEqProofs only [go_sem, Nat.reduceBEq, Nat.reduceAdd, eq_self, true_and, and_true, and_self, List.getElem?_cons_zero, List.getElem?_cons_succ, Nat.reduceLeDiff, Nat.zero_add, Nat.reduceSub, Nat.le_refl, hc, Bool.not_false]
    refine q2 _ _ ?_
    simp -implicitDefEqProofs only [go_sem, Nat.reduceBEq, Nat.reduceAdd, eq_self, true_and, and_true, and_self, List.getElem?_cons_zero, List.getElem?_cons_succ, Nat.reduceLeDiff, Nat.zero_add, Nat.reduceSub, Nat.le_refl, Nat.lt_irrefl]
    exact .refl _
  have hc0 : chkI g = 0 := by simpa using hc
  have hwp := why_prog (room := 0) good_nil hc0
  obtain ⟨hrt, -⟩ := chk_has hc0
  have hr : 0 ≤ g.ar ∧ g.ar < 64 := (right_has hrt).2
  simp -implicitDefEqProofs only [go_sem, Nat.reduceBEq, Nat.reduceAdd, eq_self, true_and, and_true, and_self, List.getElem?_cons_zero, List.getElem?_cons_succ, Nat.reduceLeDiff, Nat.zero_add, Nat.reduceSub, Nat.le_refl, hc, Bool.not_true]
  refine cut_at (fun G τ => Ext σ τ ∧ ∃ i, G = ⟨[(3, .loc 3 0), (6, .v (.ptr (some (i, 0))))], [(3, cgC (.sl db dr dz (intsV .i64 g.deps)) g)]⟩ ∧ LogIs τ i none (.sl true .pub 0 []) nilO 0 []) ?_ ?_
  · intro Z z1 z2 z3
    simp -implicitDefEqProofs only [go_sem, Nat.reduceBEq, Nat.reduceAdd, eq_self, true_and, and_true, and_self, List.getElem?_cons_zero, List.getElem?_cons_succ, Nat.reduceLeDiff, Nat.zero_add, Nat.reduceSub, Nat.le_refl, Nat.lt_irrefl]
    refine z1 _ _ _ (.inr ?_) ⟨ext_obj _ _, σ.objs.length, rfl, logIs_new (mo := none) ?_ rfl⟩
    · simp -implicitDefEqProofs only [go_sem, Nat.reduceBEq, Nat.reduceAdd, eq_self, true_and, and_true, and_self, List.getElem?_cons_zero, List.getElem?_cons_succ, Nat.reduceLeDiff, Nat.zero_add, Nat.reduceSub, Nat.le_refl, cgC]
      try exact ⟨rfl, rfl⟩
      try exact rfl
    · simp [nilO]
  rintro G τ ⟨e0, i, rfl, h⟩
  have hkn := known_ok h (by simp) (hd.ext e0) (fun p hp => by cases hp) hr
  simp only [cgV, cgC] at hkn
  simp -implicitDefEqProofs only [go_sem, Nat.reduceBEq, Nat.reduceAdd, eq_self, true_and, and_true, and_self, List.getElem?_cons_zero, List.getElem?_cons_succ, Nat.reduceLeDiff, Nat.zero_add, Nat.reduceSub, Nat.le_refl, cgC]
  refine call_at hkn ?_
  rintro w τ1 ⟨rfl, hτ⟩
  have hτ := hτ.symm
  subst hτ
  refine ⟨kept_none, ?_⟩
  cases hk : decide (knI [] g = 0) <;> rw [hk] at hwp
  · simp only [Bool.not_false, cond_true] at hwp
    rw [hwp] at q2
    simp -implicitDefEqProofs only [go_sem, Nat.reduceBEq, Nat.reduceAdd, eq_self, true_and, and_true, and_self, List.getElem?_cons_zero, List.getElem?_cons_succ, Nat.reduceLeDiff, Nat.zero_add, Nat.reduceSub, Nat.le_refl, hk, Bool.not_false]
    refine q2 _ _ ?_
    simp -implicitDefEqProofs only [go_sem, Nat.reduceBEq, Nat.reduceAdd, eq_self, true_and, and_true, and_self, List.getElem?_cons_zero, List.getElem?_cons_succ, Nat.reduceLeDiff, Nat.zero_add, Nat.reduceSub, Nat.le_refl, Nat.lt_irrefl]
    exact e0
  simp only [Bool.not_true, cond_false] at hwp
  have hrd := ready_ok h (by simp) (hd.ext e0) hc0
  simp only [cgV, cgC] at hrd
  simp -implicitDefEqProofs only [go_sem, Nat.reduceBEq, Nat.reduceAdd, eq_self, true_and, and_true, and_self, List.getElem?_cons_zero, List.getElem?_cons_succ, Nat.reduceLeDiff, Nat.zero_add, Nat.reduceSub, Nat.le_refl, hk, Bool.not_true]
  refine call_at hrd ?_
  rintro w τ1 ⟨rfl, e1⟩
  refine ⟨kept_none, ?_⟩
  cases hy : decide (rdI [] g = 0) <;> rw [hy] at hwp
  · simp only [Bool.not_false, cond_true] at hwp
    rw [hwp] at q2
    simp -implicitDefEqProofs only [go_sem, Nat.reduceBEq, Nat.reduceAdd, eq_self, true_and, and_true, and_self, List.getElem?_cons_zero, List.getElem?_cons_succ, Nat.reduceLeDiff, Nat.zero_add, Nat.reduceSub, Nat.le_refl, hy, Bool.not_false]
    refine q2 _ _ ?_
    simp -implicitDefEqProofs only [go_sem, Nat.reduceBEq, Nat.reduceAdd, eq_self, true_and, and_true, and_self, List.getElem?_cons_zero, List.getElem?_cons_succ, Nat.reduceLeDiff, Nat.zero_add, Nat.reduceSub, Nat.le_refl, Nat.lt_irrefl]
    exact e0.trans e1
  simp only [Bool.not_true, cond_false] at hwp
  have h1 := (h.ext e1).cells
  have hge : decide ((((0 : Nat) : Int)) ≥ 0) = true := rfl
  rw [show whyR [] 0 g = 6 from hwp] at q2
  simp -implicitDefEqProofs only [go_sem, Nat.reduceBEq, Nat.reduceAdd, eq_self, true_and, and_true, and_self, List.getElem?_cons_zero, List.getElem?_cons_succ, Nat.reduceLeDiff, Nat.zero_add, Nat.reduceSub, Nat.le_refl, hy, Bool.not_true, h1, hge]
  refine q2 _ _ ?_
  simp -implicitDefEqProofs only [go_sem, Nat.reduceBEq, Nat.reduceAdd, eq_self, true_and, and_true, and_self, List.getElem?_cons_zero, List.getElem?_cons_succ, Nat.reduceLeDiff, Nat.zero_add, Nat.reduceSub, Nat.le_refl, Nat.lt_irrefl]
  exact e0.trans e1
set_option maxRecDepth 100000 in
set_option maxHeartbeats 4000000 in
theorem last_ok (h : LogIs σ i mo s ov room P) (hl : P.length ≤ 1000000) : CallA Try.prog 54 [.ptr (some (i, 0))] σ fun w σ' => w = .int .i64 (lastR (cgL P)) ∧ σ' = σ := by
  have h1 := h.cells
  refine fn_at Try.func54 (by decide) comp54 rfl fun Q q1 q2 => ?_
  simp -implicitDefEqProofs only [go_sem, Nat.reduceBEq, Nat.reduceAdd, eq_self, true_and, and_true, and_self, List.getElem?_cons_zero, List.getElem?_cons_succ, Nat.reduceLeDiff, Nat.zero_add, Nat.reduceSub, Nat.le_refl, c54]
  refine call_at (len_ok h) ?_
  rintro w τ ⟨rfl, hτ⟩
  have hτ := hτ.symm
  subst hτ
  refine ⟨kept_none, ?_⟩
  by_cases h0 : P.length = 0
  · have hP : P = [] := List.length_eq_zero_iff.1 h0
    have hd0 : decide ((P.length : Int) = 0) = true := by rw [h0]; rfl
    rw [show lastR (cgL P) = 0 from by rw [hP]; rfl] at q2
    simp -implicitDefEqProofs only [go_sem, Nat.reduceBEq, Nat.reduceAdd, eq_self, true_and, and_true, and_self, List.getElem?_cons_zero, List.getElem?_cons_succ, Nat.reduceLeDiff, Nat.zero_add, Nat.reduceSub, Nat.le_refl, hd0]
    refine q2 _ _ ?_
    simp -implicitDefEqProofs only [go_sem, Nat.reduceBEq, Nat.reduceAdd, eq_self, true_and, and_true, and_self, List.getElem?_cons_zero, List.getElem?_cons_succ, Nat.reduceLeDiff, Nat.zero_add, Nat.reduceSub, Nat.le_refl, Nat.lt_irrefl]
  have hd0 : decide ((P.length : Int) = 0) = false := by rw [decide_eq_false_iff_not]; omega
  obtain ⟨k, hk⟩ : ∃ k, k + 1 = P.length := ⟨P.length - 1, by omega⟩
  have hkl : k < P.length := by omega
  have hla := h.good.last (n := k) (by rw [map2_len]; exact hk)
  rw [List.getElem_map] at hla
  rw [hla] at q2
  have hw : IntKind.i64.wrap ((P.length : Int) - 1) = (k : Int) := by rw [i64_in _ (by omega)]; omega
  have hget := cg_drop0 hkl
  have hcl := cgsV_len P
  rcases id h.row with ⟨R, q, rfl, he⟩ | ⟨j', cap, rfl, ho, -, hc⟩
  · have : (cgsV P).length = 0 := by rw [he]; rfl
    omega
  generalize hp : P[k] = p at hget hla q2
  simp -implicitDefEqProofs only [go_sem, Nat.reduceBEq, Nat.reduceAdd, eq_self, true_and, and_true, and_self, List.getElem?_cons_zero, List.getElem?_cons_succ, Nat.reduceLeDiff, Nat.zero_add, Nat.reduceSub, Nat.le_refl, hd0, h1, ho, hcl, hw, hget, cgC, Int.toNat_natCast, Nat.add_zero]
  refine ⟨⟨by omega, by omega⟩, ?_⟩
  refine q2 _ _ ?_
  simp -implicitDefEqProofs only [go_sem, Nat.reduceBEq, Nat.reduceAdd, eq_self, true_and, and_true, and_self, List.getElem?_cons_zero, List.getElem?_cons_succ, Nat.reduceLeDiff, Nat.zero_add, Nat.reduceSub, Nat.le_refl, Nat.lt_irrefl]
set_option maxRecDepth 100000 in
theorem last_nil : CallA Try.prog 54 [.ptr none] σ fun v σ' => v = .int .i64 0 ∧ σ' = σ := by
  refine fn_at Try.func54 (by decide) comp54 rfl fun Q q1 q2 => ?_
  simp -implicitDefEqProofs only [go_sem, Nat.reduceBEq, Nat.reduceAdd, eq_self, true_and, and_true, and_self, List.getElem?_cons_zero, List.getElem?_cons_succ, Nat.reduceLeDiff, Nat.zero_add, Nat.reduceSub, Nat.le_refl, c54]
  refine call_at len_nil ?_
  rintro w τ ⟨rfl, hτ⟩
  have hτ := hτ.symm
  subst hτ
  refine ⟨kept_none, ?_⟩
  simp -implicitDefEqProofs only [go_sem, Nat.reduceBEq, Nat.reduceAdd, eq_self, true_and, and_true, and_self, List.getElem?_cons_zero, List.getElem?_cons_succ, Nat.reduceLeDiff, Nat.zero_add, Nat.reduceSub, Nat.le_refl, Nat.lt_irrefl]
  refine q2 _ _ ?_
  simp -implicitDefEqProofs only [go_sem, Nat.reduceBEq, Nat.reduceAdd, eq_self, true_and, and_true, and_self, List.getElem?_cons_zero, List.getElem?_cons_succ, Nat.reduceLeDiff, Nat.zero_add, Nat.reduceSub, Nat.le_refl, Nat.lt_irrefl]
end
end Go.VL.opl

namespace Go.VL.opl
open Go Go.VL Go.Proofs Go.IntWalk Go.VL.st Go.VL.row

def cg0 : Cg := ⟨0, 0, 0, [], 0, 0, 0, 0, 0, 0, 0, [], []⟩
def v0 : V := .sl true .pub 0 []
section
variable {σ : St} {i m : Nat} {mo : Option Nat} {s d v : V} {ov : List V} {room r n : Int} {P : List (V × Cg)} {g : Cg} {x : Sp} {l : List Int}
set_option maxRecDepth 100000 in
set_option maxHeartbeats 4000000 in
theorem ptrim_ok (hv : RdS σ v 1 (intsV .i64 l)) (hlen : l.length ≤ 1000000) :
    CallA Try.prog 63 [v] σ fun w σ' => (∃ out z, Trims l out z ∧ NewS σ σ' w 1 (intsV .i64 out)) ∧ Ext σ σ' ∧ σ'.objs = σ.objs := by
  obtain ⟨b, R, z, rfl, -, -⟩ := id hv
  refine fn_at Try.func63 (by decide) comp63 rfl fun Q q1 q2 => ?_
  have hl := intsV_len l
  simp -implicitDefEqProofs only [go_sem, Nat.reduceBEq, Nat.reduceAdd, eq_self, true_and, and_true, and_self, List.getElem?_cons_zero, List.getElem?_cons_succ, Nat.reduceLeDiff, Nat.zero_add, Nat.reduceSub, Nat.le_refl, c63]
  refine loop_at (fun (y : Nat) => ⟨[(0, .v (.sl b R z (intsV .i64 l))), (3, .v (.int .i64 y))], []⟩)
    (fun y t => y ≤ l.length ∧ t = σ ∧ ∀ (k : Nat) (h : k < l.length), y ≤ k → l[k] = 0) (fun y => y) l.length ?_ ?_ ?_
  · refine .inr ?_
    simp -implicitDefEqProofs only [go_sem, Nat.reduceBEq, Nat.reduceAdd, eq_self, true_and, and_true, and_self, List.getElem?_cons_zero, List.getElem?_cons_succ, Nat.reduceLeDiff, Nat.zero_add, Nat.reduceSub, Nat.le_refl, hl]
    try exact ⟨rfl, rfl⟩
    try rfl
  · exact ⟨Nat.le_refl _, rfl, fun k h h2 => by omega⟩
  rintro y τ ⟨g1, hτ, g3⟩ Z z1 z2 z3
  have hτ := hτ.symm
  subst hτ
  have htk : List.take (y : Int).toNat (intsV .i64 l) = intsV .i64 (l.take y) := by rw [Int.toNat_natCast]; unfold intsV; rw [List.map_take]
  have hsz : b = true ∨ z = 1 := by
    obtain ⟨_, _, _, e, h1, h2⟩ := id hv
    cases e
    exact h2.imp_right fun h => h.2
  have hz1 := (rd_src hv).2
  have hsb : b = true ∨ rd (σ.live ++ [true]) R.toView := by
    obtain ⟨_, _, _, e, h1, h2⟩ := hv.ext (ext_live σ true)
    cases e
    refine h2.imp_right fun h => ?_
    have := h.1
    cases R <;> exact this
  cases h0 : decide ((y : Int) > 0)
  · have hy0 : y = 0 := by have := of_decide_eq_false h0; omega
    have htr := trims_end l y g1 g3 (.inl hy0)
    simp -implicitDefEqProofs only [go_sem, Nat.reduceBEq, Nat.reduceAdd, eq_self, true_and, and_true, and_self, List.getElem?_cons_zero, List.getElem?_cons_succ, Nat.reduceLeDiff, Nat.zero_add, Nat.reduceSub, Nat.le_refl, h0]
    refine z2 _ _ _ ?_
    simp -implicitDefEqProofs only [go_sem, Nat.reduceBEq, Nat.reduceAdd, eq_self, true_and, and_true, and_self, List.getElem?_cons_zero, List.getElem?_cons_succ, Nat.reduceLeDiff, Nat.zero_add, Nat.reduceSub, Nat.le_refl, hl]
    refine ⟨⟨hsz, by omega, by omega, by omega⟩, ⟨.inr trivial, .inr (live_last _ _), ⟨hsb, hz1.imp_right fun h => by rw [h]; simp⟩, by rw [htk, intsV_len, List.length_take]; omega⟩, ?_⟩
    refine q2 _ _ ?_
    simp -implicitDefEqProofs only [go_sem, Nat.reduceBEq, Nat.reduceAdd, eq_self, true_and, and_true, and_self, List.getElem?_cons_zero, List.getElem?_cons_succ, Nat.reduceLeDiff, Nat.zero_add, Nat.reduceSub, Nat.le_refl, Nat.lt_irrefl]
    exact ⟨⟨_, _, htr, _, by rw [htk], live_last' _ _ _, by simp⟩, ext_kill (ext_push (Ext.refl σ)) (Nat.le_refl _)⟩
  · have hp := of_decide_eq_true h0
    have hy : y - 1 < l.length := by have := of_decide_eq_true h0; omega
    have hw : IntKind.i64.wrap ((y : Int) - 1) = ((y - 1 : Nat) : Int) := by have := of_decide_eq_true h0; rw [i64_in _ (by omega)]; omega
    have hget := intsV_get hy
    obtain ⟨k1, k2⟩ := rdl hv (intsV_ne hy)
    simp -implicitDefEqProofs only [go_sem, Nat.reduceBEq, Nat.reduceAdd, eq_self, true_and, and_true, and_self, List.getElem?_cons_zero, List.getElem?_cons_succ, Nat.reduceLeDiff, Nat.zero_add, Nat.reduceSub, Nat.le_refl, h0, hw, hget]
    refine ⟨⟨by omega, by rw [hl]; omega, k2⟩, k1, ?_⟩
    cases hx : decide (l[y - 1] = 0)
    · have htr := trims_end l y g1 g3 (.inr ⟨hy, of_decide_eq_false hx⟩)
      simp -implicitDefEqProofs only [go_sem, Nat.reduceBEq, Nat.reduceAdd, eq_self, true_and, and_true, and_self, List.getElem?_cons_zero, List.getElem?_cons_succ, Nat.reduceLeDiff, Nat.zero_add, Nat.reduceSub, Nat.le_refl, Nat.lt_irrefl]
      refine z2 _ _ _ ?_
      simp -implicitDefEqProofs only [go_sem, Nat.reduceBEq, Nat.reduceAdd, eq_self, true_and, and_true, and_self, List.getElem?_cons_zero, List.getElem?_cons_succ, Nat.reduceLeDiff, Nat.zero_add, Nat.reduceSub, Nat.le_refl, hl]
      refine ⟨⟨hsz, by omega, by omega, by omega⟩, ⟨.inr trivial, .inr (live_last _ _), ⟨hsb, hz1.imp_right fun h => by rw [h]; simp⟩, by rw [htk, intsV_len, List.length_take]; omega⟩, ?_⟩
      refine q2 _ _ ?_
      simp -implicitDefEqProofs only [go_sem, Nat.reduceBEq, Nat.reduceAdd, eq_self, true_and, and_true, and_self, List.getElem?_cons_zero, List.getElem?_cons_succ, Nat.reduceLeDiff, Nat.zero_add, Nat.reduceSub, Nat.le_refl, Nat.lt_irrefl]
      exact ⟨⟨_, _, htr, _, by rw [htk], live_last' _ _ _, by simp⟩, ext_kill (ext_push (Ext.refl σ)) (Nat.le_refl _)⟩
    · simp -implicitDefEqProofs only [go_sem, Nat.reduceBEq, Nat.reduceAdd, eq_self, true_and, and_true, and_self, List.getElem?_cons_zero, List.getElem?_cons_succ, Nat.reduceLeDiff, Nat.zero_add, Nat.reduceSub, Nat.le_refl, hw]
      refine z1 (y - 1) _ _ (.inr ?_) (by omega) ⟨by omega, rfl, fun k h h2 => ?_⟩
      · simp -implicitDefEqProofs only [go_sem, Nat.reduceBEq, Nat.reduceAdd, eq_self, true_and, and_true, and_self, List.getElem?_cons_zero, List.getElem?_cons_succ, Nat.reduceLeDiff, Nat.zero_add, Nat.reduceSub, Nat.le_refl, Nat.lt_irrefl]
        try exact ⟨rfl, rfl⟩
        try rfl
      · by_cases e : k = y - 1
        · subst e; exact of_decide_eq_true hx
        · exact g3 k h (by omega)
theorem intsV_append (a b : List Int) : intsV .i64 (a ++ b) = intsV .i64 a ++ intsV .i64 b := by simp [intsV]
theorem range_snoc (L : List Cg) (y : Nat) : (List.range (y + 1)).map (fun (r : Nat) => ((cnt L (r : Int) : Nat) : Int)) = (List.range y).map (fun (r : Nat) => ((cnt L (r : Int) : Nat) : Int)) ++ [((cnt L (y : Int) : Nat) : Int)] := by
  rw [List.range_succ, List.map_append]; rfl
set_option maxRecDepth 100000 in
set_option maxHeartbeats 4000000 in
theorem pclock_ok (h : LogIs σ i mo s ov room P) : CallA Try.prog 39 [.ptr (some (i, 0))] σ fun w σ' => ClkR σ' w (cgL P) ∧ Ext σ σ' := by
  refine fn_at Try.func39 (by decide) comp39 rfl fun Q q1 q2 => ?_
  simp -implicitDefEqProofs only [go_sem, Nat.reduceBEq, Nat.reduceAdd, eq_self, true_and, and_true, and_self, List.getElem?_cons_zero, List.getElem?_cons_succ, Nat.reduceLeDiff, Nat.zero_add, Nat.reduceSub, Nat.le_refl, c39]
  refine loop_at (fun (y : Nat × V) => ⟨[(0, .v (.ptr (some (i, 0)))), (3, .v y.2), (7, .v (.int .i64 y.1))], []⟩)
    (fun y t => y.1 ≤ 64 ∧ Ext σ t ∧ Acc σ.live.length t y.2 1 (intsV .i64 ((List.range y.1).map fun (r : Nat) => ((cnt (cgL P) (r : Int) : Nat) : Int)))) (fun y => 64 - y.1) (0, .sl true .pub 1 []) ?_ ?_ ?_
  · refine .inr ?_
    simp -implicitDefEqProofs only [go_sem, Nat.reduceBEq, Nat.reduceAdd, eq_self, true_and, and_true, and_self, List.getElem?_cons_zero, List.getElem?_cons_succ, Nat.reduceLeDiff, Nat.zero_add, Nat.reduceSub, Nat.le_refl, Nat.lt_irrefl]
    try exact ⟨rfl, rfl⟩
    try rfl
  · exact ⟨Nat.zero_le _, .refl _, .inl ⟨rfl, rfl⟩⟩
  rintro ⟨y, a⟩ τ ⟨g1, g2, g3⟩ Z z1 z2 z3
  simp only at g1 g3
  simp -implicitDefEqProofs only [go_sem, Nat.reduceBEq, Nat.reduceAdd, eq_self, true_and, and_true, and_self, List.getElem?_cons_zero, List.getElem?_cons_succ, Nat.reduceLeDiff, Nat.zero_add, Nat.reduceSub, Nat.le_refl, Nat.lt_irrefl]
  refine CondW_b (fun hcc => ?_) (fun hcc => ?_)
  · have hi : y < 64 := by have := of_decide_eq_true hcc; omega
    have hy64 : (0 : Int) ≤ (y : Int) ∧ (y : Int) < 64 := by omega
    have hwy : IntKind.i64.wrap ((y : Int) + 1) = ((y + 1 : Nat) : Int) := by rw [i64_in _ (by omega)]; omega
    have h1 := (h.ext g2).cells
    have hsn := range_snoc (cgL P) y
    obtain ⟨hlo, hwo⟩ := h.ownc hy64
    have hod := ov_drop hlo
    generalize ov[(y : Int).toNat] = o at hwo hod
    rw [Int.toNat_natCast] at hod
    have hll : (intsV .i64 ((List.range y).map fun (r : Nat) => ((cnt (cgL P) (r : Int) : Nat) : Int))).length = y := by rw [intsV_len]; simp
    generalize ((List.range y).map fun (r : Nat) => ((cnt (cgL P) (r : Int) : Nat) : Int)) = A at *
    generalize hB : ((List.range (y + 1)).map fun (r : Nat) => ((cnt (cgL P) (r : Int) : Nat) : Int)) = B at *
    rcases hwo with ⟨R, q, rfl, hc0⟩ | ⟨jo, cap, rfl, -⟩ <;> rcases g3 with ⟨e3, rfl⟩ | ⟨qa, rfl, g4, g5⟩
    all_goals
      first | rw [hc0] at hsn | skip
      simp -implicitDefEqProofs only [go_sem, Nat.reduceBEq, Nat.reduceAdd, eq_self, true_and, and_true, and_self, List.getElem?_cons_zero, List.getElem?_cons_succ, Nat.reduceLeDiff, Nat.zero_add, Nat.reduceSub, Nat.le_refl, h1, hod, Int.toNat_natCast]
    case' inl.inl | inr.inl =>
      refine ⟨hy64, ⟨.inl trivial, rfl, .inr (live_last _ _), .inl trivial⟩, ?_⟩
      have hy0 : y = 0 := by rw [← hll, e3]; rfl
      refine z1 (y + 1, .sl false (.own _) 1 (intsV .i64 B)) _ _ (.inr ?_) (by simp only; omega) ⟨by simp only; omega, ext_push (ext_push g2), by rw [hB]; exact .inr ⟨_, rfl, live_last _ _, by have := g2.llen; show _ ≤ (τ.live ++ [true]).length; simp only [List.length_append, List.length_singleton]; omega⟩⟩
      simp -implicitDefEqProofs only [go_sem, Nat.reduceBEq, Nat.reduceAdd, eq_self, true_and, and_true, and_self, List.getElem?_cons_zero, List.getElem?_cons_succ, Nat.reduceLeDiff, Nat.zero_add, Nat.reduceSub, Nat.le_refl, Nat.lt_irrefl]
      rw [hsn, intsV_append, e3, hwy]
      try exact ⟨rfl, rfl⟩
    case' inl.inr | inr.inr =>
      refine ⟨hy64, ⟨.inr trivial, .inr ((ext_live _ _).live _ g4), ⟨.inr (live_last _ _), .inl trivial⟩, by rw [hll]; omega⟩, ?_⟩
      refine z1 (y + 1, .sl false (.own _) 1 (intsV .i64 B)) _ _ (.inr ?_) (by simp only; omega) ⟨by simp only; omega, ext_kill (ext_push g2) g5, by rw [hB]; exact .inr ⟨_, rfl, live_last' _ _ _, by have := g2.llen; simp only [List.length_append, List.length_singleton]; omega⟩⟩
      simp -implicitDefEqProofs only [go_sem, Nat.reduceBEq, Nat.reduceAdd, eq_self, true_and, and_true, and_self, List.getElem?_cons_zero, List.getElem?_cons_succ, Nat.reduceLeDiff, Nat.zero_add, Nat.reduceSub, Nat.le_refl, Nat.lt_irrefl]
      rw [hsn, intsV_append, hwy]
      try exact ⟨rfl, rfl⟩
  have hy : y = 64 := by have := of_decide_eq_false (by simpa using hcc : decide ((y : Int) < 64) = false); omega
  subst hy
  simp -implicitDefEqProofs only [go_sem, Nat.reduceBEq, Nat.reduceAdd, eq_self, true_and, and_true, and_self, List.getElem?_cons_zero, List.getElem?_cons_succ, Nat.reduceLeDiff, Nat.zero_add, Nat.reduceSub, Nat.le_refl, Nat.lt_irrefl]
  refine z2 _ _ _ ?_
  simp -implicitDefEqProofs only [go_sem, Nat.reduceBEq, Nat.reduceAdd, eq_self, true_and, and_true, and_self, List.getElem?_cons_zero, List.getElem?_cons_succ, Nat.reduceLeDiff, Nat.zero_add, Nat.reduceSub, Nat.le_refl, Nat.lt_irrefl]
  refine call_at (ptrim_ok (g3.rd) (by simp)) ?_
  rintro w τ2 ⟨⟨out, z, htr, hn⟩, e2, -⟩
  refine ⟨kept_none, ?_⟩
  simp -implicitDefEqProofs only [go_sem, Nat.reduceBEq, Nat.reduceAdd, eq_self, true_and, and_true, and_self, List.getElem?_cons_zero, List.getElem?_cons_succ, Nat.reduceLeDiff, Nat.zero_add, Nat.reduceSub, Nat.le_refl, Nat.lt_irrefl]
  refine q2 _ _ ?_
  simp -implicitDefEqProofs only [go_sem, Nat.reduceBEq, Nat.reduceAdd, eq_self, true_and, and_true, and_self, List.getElem?_cons_zero, List.getElem?_cons_succ, Nat.reduceLeDiff, Nat.zero_add, Nat.reduceSub, Nat.le_refl, Nat.lt_irrefl]
  exact ⟨⟨out, z, htr, hn.rd⟩, g2.trans e2⟩
set_option maxRecDepth 100000 in
theorem pclock_nil : CallA Try.prog 39 [.ptr none] σ fun w σ' => w = .sl true .pub 1 [] ∧ σ' = σ := by
  refine fn_at Try.func39 (by decide) comp39 rfl fun Q q1 q2 => ?_
  simp -implicitDefEqProofs only [go_sem, Nat.reduceBEq, Nat.reduceAdd, eq_self, true_and, and_true, and_self, List.getElem?_cons_zero, List.getElem?_cons_succ, Nat.reduceLeDiff, Nat.zero_add, Nat.reduceSub, Nat.le_refl, c39]
  refine q2 _ _ ?_
  simp -implicitDefEqProofs only [go_sem, Nat.reduceBEq, Nat.reduceAdd, eq_self, true_and, and_true, and_self, List.getElem?_cons_zero, List.getElem?_cons_succ, Nat.reduceLeDiff, Nat.zero_add, Nat.reduceSub, Nat.le_refl, Nat.lt_irrefl]
  try exact ⟨rfl, rfl⟩
/-- What Find answers. -/
def FindR (σ σ' : St) (w : V) (o : Option Cg) (a b : V) : Prop := match o with
  | some g => ∃ y, w = .tup [cgV y g, a] ∧ NewS σ σ' y 1 (intsV .i64 g.deps)
  | none => w = .tup [cgV v0 cg0, b]
set_option maxRecDepth 100000 in
set_option maxHeartbeats 4000000 in
theorem find_ok (h : LogIs σ i mo s ov room P) (hl : P.length ≤ 1000000) : CallA Try.prog 20 [.ptr (some (i, 0)), spV x] σ fun w σ' => FindR σ σ' w ((cgL P).find? (isA x)) (.bool true) (.bool false) ∧ Ext σ σ' ∧ σ'.objs = σ.objs := by
  have h1 := h.cells
  refine fn_at Try.func20 (by decide) comp20 rfl fun Q q1 q2 => ?_
  have hpa := place_at (x := x) h hl
  simp only [spV, spC] at hpa
  simp -implicitDefEqProofs only [go_sem, Nat.reduceBEq, Nat.reduceAdd, eq_self, true_and, and_true, and_self, List.getElem?_cons_zero, List.getElem?_cons_succ, Nat.reduceLeDiff, Nat.zero_add, Nat.reduceSub, Nat.le_refl, c20, spV, spC]
  refine call_at hpa ?_
  rintro w τ ⟨⟨k, rfl, hpk⟩, hτ⟩
  have hτ := hτ.symm
  subst hτ
  refine ⟨kept_none, ?_⟩
  rcases hpk.found h.good.srt with ⟨f1, -⟩ | ⟨hk, -, f1⟩
  · rw [f1] at q1 q2
    rw [f1]
    unfold FindR cg0 cgV cgC v0 at q2
    simp -implicitDefEqProofs only [go_sem, Nat.reduceBEq, Nat.reduceAdd, eq_self, true_and, and_true, and_self, List.getElem?_cons_zero, List.getElem?_cons_succ, Nat.reduceLeDiff, Nat.zero_add, Nat.reduceSub, Nat.le_refl, Option.isSome_none]
    refine q2 _ _ ?_
    simp -implicitDefEqProofs only [go_sem, Nat.reduceBEq, Nat.reduceAdd, eq_self, true_and, and_true, and_self, List.getElem?_cons_zero, List.getElem?_cons_succ, Nat.reduceLeDiff, Nat.zero_add, Nat.reduceSub, Nat.le_refl, Nat.lt_irrefl]
    try exact ⟨rfl, .refl _, rfl⟩
    try exact .refl _
  · rw [f1] at q1 q2
    rw [f1]
    have hk2 : k < P.length := by simpa using hk
    have hget := cg_drop0 hk2
    have hdc := h.rds _ (List.getElem_mem hk2)
    have hdl := h.deps _ (List.getElem_mem hk2)
    have hlk : (cgL P)[k] = P[k].2 := by simp
    have hb1 : (k : Int) < (cgsV P).length := by rw [cgsV_len]; omega
    rw [hlk] at q1 q2
    rcases id h.row with ⟨R, q, rfl, he⟩ | ⟨j', cap, rfl, ho, -, hc⟩
    · have hD : P = [] := by simpa [cgsV] using he
      subst hD
      exact absurd hk2 (by simp)
    generalize P[k] = p at hget hdc hdl q1 q2
    obtain ⟨d2, g⟩ := p
    simp only at hget hdc hdl q1 q2
    have hcp := pcopy_ok hdc (by omega)
    simp only [cgV, cgC] at hcp
    simp -implicitDefEqProofs only [go_sem, Nat.reduceBEq, Nat.reduceAdd, eq_self, true_and, and_true, and_self, List.getElem?_cons_zero, List.getElem?_cons_succ, Nat.reduceLeDiff, Nat.zero_add, Nat.reduceSub, Nat.le_refl, Option.isSome_some, h1, cgC, ho, hget, Int.toNat_natCast, Nat.add_zero]
    refine ⟨⟨by omega, hb1⟩, ?_⟩
    refine call_at hcp ?_
    rintro w τ ⟨e1, o1, y, rfl, ry, rfl, hn1, hn2⟩
    refine ⟨kept_none, ?_⟩
    simp -implicitDefEqProofs only [go_sem, Nat.reduceBEq, Nat.reduceAdd, eq_self, true_and, and_true, and_self, List.getElem?_cons_zero, List.getElem?_cons_succ, Nat.reduceLeDiff, Nat.zero_add, Nat.reduceSub, Nat.le_refl, Nat.lt_irrefl]
    refine q2 _ _ ?_
    simp -implicitDefEqProofs only [go_sem, Nat.reduceBEq, Nat.reduceAdd, eq_self, true_and, and_true, and_self, List.getElem?_cons_zero, List.getElem?_cons_succ, Nat.reduceLeDiff, Nat.zero_add, Nat.reduceSub, Nat.le_refl, Nat.lt_irrefl]
    exact ⟨⟨_, rfl, ry, rfl, hn1, hn2⟩, e1, o1⟩
set_option maxRecDepth 100000 in
theorem find_nil : CallA Try.prog 20 [.ptr none, spV x] σ fun w σ' => w = .tup [cgV v0 cg0, .bool false] ∧ σ' = σ := by
  refine fn_at Try.func20 (by decide) comp20 rfl fun Q q1 q2 => ?_
  unfold cg0 cgV cgC v0 at q2
  simp -implicitDefEqProofs only [go_sem, Nat.reduceBEq, Nat.reduceAdd, eq_self, true_and, and_true, and_self, List.getElem?_cons_zero, List.getElem?_cons_succ, Nat.reduceLeDiff, Nat.zero_add, Nat.reduceSub, Nat.le_refl, c20, spV, spC]
  refine q2 _ _ ?_
  simp -implicitDefEqProofs only [go_sem, Nat.reduceBEq, Nat.reduceAdd, eq_self, true_and, and_true, and_self, List.getElem?_cons_zero, List.getElem?_cons_succ, Nat.reduceLeDiff, Nat.zero_add, Nat.reduceSub, Nat.le_refl, Nat.lt_irrefl]
  try exact ⟨rfl, rfl⟩
theorem Good.noO {L : List Cg} (h : Good L) {r n : Int} (hn : n < 1) : L.find? (isO r n) = none := by
  rw [List.find?_eq_none]
  intro g hg
  have := (chk_has (h.chk g hg)).2.1
  simp [isO]
  omega
set_option maxRecDepth 100000 in
set_option maxHeartbeats 4000000 in
theorem own_ok (h : LogIs σ i mo s ov room P) (hl : P.length ≤ 1000000) (hr : 0 ≤ r ∧ r < 64) : CallA Try.prog 22 [.ptr (some (i, 0)), .int .i64 r, .int .i64 n] σ fun w σ' => FindR σ σ' w ((cgL P).find? (isO r n)) (.int .i64 0) (.int .i64 4) ∧ Ext σ σ' ∧ σ'.objs = σ.objs := by
  have h1 := h.cells
  refine fn_at Try.func22 (by decide) comp22 rfl fun Q q1 q2 => ?_
  have hr1 : decide (r < 0) = false := by rw [decide_eq_false_iff_not]; omega
  have hr2 : decide (r ≥ 64) = false := by rw [decide_eq_false_iff_not]; omega
  cases hn : decide (n < 1)
  case true =>
    rw [h.good.noO (of_decide_eq_true hn)] at q2
    unfold FindR cg0 cgV cgC v0 at q2
    simp -implicitDefEqProofs only [go_sem, Nat.reduceBEq, Nat.reduceAdd, eq_self, true_and, and_true, and_self, List.getElem?_cons_zero, List.getElem?_cons_succ, Nat.reduceLeDiff, Nat.zero_add, Nat.reduceSub, Nat.le_refl, c22, hr1, hr2, hn]
    refine q2 _ _ ?_
    simp -implicitDefEqProofs only [go_sem, Nat.reduceBEq, Nat.reduceAdd, eq_self, true_and, and_true, and_self, List.getElem?_cons_zero, List.getElem?_cons_succ, Nat.reduceLeDiff, Nat.zero_add, Nat.reduceSub, Nat.le_refl, Nat.lt_irrefl]
    try exact ⟨rfl, .refl _, rfl⟩
    try exact .refl _
  have hn1 : 1 ≤ n := by have := of_decide_eq_false hn; omega
  have hfo := h.good.find_O (r := r) hn1
  obtain ⟨hlo, hwo⟩ := h.ownc hr
  have hod := ov_drop hlo
  have hcl := cnt_le (cgL P) r
  rw [map2_len] at hcl
  cases hx : decide (n > (cnt (cgL P) r : Int))
  case true =>
    have hx' := of_decide_eq_true hx
    rw [hfo, List.getElem?_eq_none (by rw [ownL_len]; omega)] at q2
    unfold FindR cg0 cgV cgC v0 at q2
    generalize ov[r.toNat] = o at hwo hod
    rcases hwo with ⟨R, q, rfl, hc0⟩ | ⟨jo, cap, rfl, -⟩
    all_goals
      first | rw [hc0] at hx | skip
      simp -implicitDefEqProofs only [go_sem, Nat.reduceBEq, Nat.reduceAdd, eq_self, true_and, and_true, and_self, List.getElem?_cons_zero, List.getElem?_cons_succ, Nat.reduceLeDiff, Nat.zero_add, Nat.reduceSub, Nat.le_refl, c22, hr1, hr2, hn, h1, hod, hx]
      refine ⟨hr, ?_⟩
      refine q2 _ _ ?_
      simp -implicitDefEqProofs only [go_sem, Nat.reduceBEq, Nat.reduceAdd, eq_self, true_and, and_true, and_self, List.getElem?_cons_zero, List.getElem?_cons_succ, Nat.reduceLeDiff, Nat.zero_add, Nat.reduceSub, Nat.le_refl, Nat.lt_irrefl]
      try exact ⟨rfl, .refl _, rfl⟩
      try exact .refl _
  have hx' := of_decide_eq_false hx
  have hjl : n.toNat - 1 < (ownL (cgL P) r).length := by rw [ownL_len]; omega
  have hjl2 : n.toNat - 1 < ((ownL (cgL P) r).map atS).length := by simpa using hjl
  rw [List.getElem?_eq_getElem hjl] at hfo
  have hg2 := sp_drop0 hjl2
  simp only [List.getElem_map] at hg2
  have hw1 : IntKind.i64.wrap (n - 1) = ((n.toNat - 1 : Nat) : Int) := by rw [i64_in _ (by omega)]; omega
  have hfa : (cgL P).find? (isA (atS (ownL (cgL P) r)[n.toNat - 1])) = some (ownL (cgL P) r)[n.toNat - 1] := (find_A h.good.srt).2 ⟨(List.mem_filter.1 (List.getElem_mem hjl)).1, rfl⟩
  have hfi := find_ok (x := atS (ownL (cgL P) r)[n.toNat - 1]) h hl
  rw [hfa] at hfi
  rw [hfo] at q2
  have hsv := spsV_len ((ownL (cgL P) r).map atS)
  have hlen2 : ((ownL (cgL P) r).map atS).length = cnt (cgL P) r := by rw [List.length_map, ownL_len]
  generalize (ownL (cgL P) r)[n.toNat - 1] = g at hfo hg2 hfa hfi q2
  generalize ov[r.toNat] = o at hwo hod
  rcases hwo with ⟨R, q, rfl, hc0⟩ | ⟨jo, cap, rfl, ho⟩
  · omega
  simp only [spV, spC] at hfi
  simp -implicitDefEqProofs only [go_sem, Nat.reduceBEq, Nat.reduceAdd, eq_self, true_and, and_true, and_self, List.getElem?_cons_zero, List.getElem?_cons_succ, Nat.reduceLeDiff, Nat.zero_add, Nat.reduceSub, Nat.le_refl, c22, hr1, hr2, hn, h1, hod, hx]
  refine ⟨hr, ?_⟩
  simp -implicitDefEqProofs only [go_sem, Nat.reduceBEq, Nat.reduceAdd, eq_self, true_and, and_true, and_self, List.getElem?_cons_zero, List.getElem?_cons_succ, Nat.reduceLeDiff, Nat.zero_add, Nat.reduceSub, Nat.le_refl, h1, hod, hw1, ho, hg2, Int.toNat_natCast, Nat.add_zero, spC]
  refine ⟨hr, ⟨by omega, by omega⟩, ?_⟩
  refine call_at hfi ?_
  rintro w τ ⟨⟨y, rfl, ry, rfl, hn1, hn2⟩, e1, o1⟩
  refine ⟨kept_none, ?_⟩
  simp -implicitDefEqProofs only [go_sem, Nat.reduceBEq, Nat.reduceAdd, eq_self, true_and, and_true, and_self, List.getElem?_cons_zero, List.getElem?_cons_succ, Nat.reduceLeDiff, Nat.zero_add, Nat.reduceSub, Nat.le_refl, cgV, cgC]
  refine q2 _ _ ?_
  simp -implicitDefEqProofs only [go_sem, Nat.reduceBEq, Nat.reduceAdd, eq_self, true_and, and_true, and_self, List.getElem?_cons_zero, List.getElem?_cons_succ, Nat.reduceLeDiff, Nat.zero_add, Nat.reduceSub, Nat.le_refl, Nat.lt_irrefl]
  exact ⟨⟨_, rfl, ry, rfl, hn1, hn2⟩, e1, o1⟩
set_option maxRecDepth 100000 in
theorem own_bad {p : Option (Nat × Nat)} (hr : ¬ (0 ≤ r ∧ r < 64)) : CallA Try.prog 22 [.ptr p, .int .i64 r, .int .i64 n] σ fun w σ' => w = .tup [cgV v0 cg0, .int .i64 1] ∧ σ' = σ := by
  refine fn_at Try.func22 (by decide) comp22 rfl fun Q q1 q2 => ?_
  unfold cg0 cgV cgC v0 at q2
  cases h1 : decide (r < 0)
  · have h2 : decide (r ≥ 64) = true := by rw [decide_eq_true_eq]; have := of_decide_eq_false h1; omega
    simp -implicitDefEqProofs only [go_sem, Nat.reduceBEq, Nat.reduceAdd, eq_self, true_and, and_true, and_self, List.getElem?_cons_zero, List.getElem?_cons_succ, Nat.reduceLeDiff, Nat.zero_add, Nat.reduceSub, Nat.le_refl, c22, h1, h2]
    refine q2 _ _ ?_
    simp -implicitDefEqProofs only [go_sem, Nat.reduceBEq, Nat.reduceAdd, eq_self, true_and, and_true, and_self, List.getElem?_cons_zero, List.getElem?_cons_succ, Nat.reduceLeDiff, Nat.zero_add, Nat.reduceSub, Nat.le_refl, Nat.lt_irrefl]
    try exact ⟨rfl, rfl⟩
  · simp -implicitDefEqProofs only [go_sem, Nat.reduceBEq, Nat.reduceAdd, eq_self, true_and, and_true, and_self, List.getElem?_cons_zero, List.getElem?_cons_succ, Nat.reduceLeDiff, Nat.zero_add, Nat.reduceSub, Nat.le_refl, c22, h1]
    refine q2 _ _ ?_
    simp -implicitDefEqProofs only [go_sem, Nat.reduceBEq, Nat.reduceAdd, eq_self, true_and, and_true, and_self, List.getElem?_cons_zero, List.getElem?_cons_succ, Nat.reduceLeDiff, Nat.zero_add, Nat.reduceSub, Nat.le_refl, Nat.lt_irrefl]
    try exact ⟨rfl, rfl⟩
set_option maxRecDepth 100000 in
theorem own_nil (hr : 0 ≤ r ∧ r < 64) : CallA Try.prog 22 [.ptr none, .int .i64 r, .int .i64 n] σ fun w σ' => w = .tup [cgV v0 cg0, .int .i64 4] ∧ σ' = σ := by
  refine fn_at Try.func22 (by decide) comp22 rfl fun Q q1 q2 => ?_
  unfold cg0 cgV cgC v0 at q2
  have hr1 : decide (r < 0) = false := by rw [decide_eq_false_iff_not]; omega
  have hr2 : decide (r ≥ 64) = false := by rw [decide_eq_false_iff_not]; omega
  simp -implicitDefEqProofs only [go_sem, Nat.reduceBEq, Nat.reduceAdd, eq_self, true_and, and_true, and_self, List.getElem?_cons_zero, List.getElem?_cons_succ, Nat.reduceLeDiff, Nat.zero_add, Nat.reduceSub, Nat.le_refl, c22, hr1, hr2]
  refine q2 _ _ ?_
  simp -implicitDefEqProofs only [go_sem, Nat.reduceBEq, Nat.reduceAdd, eq_self, true_and, and_true, and_self, List.getElem?_cons_zero, List.getElem?_cons_succ, Nat.reduceLeDiff, Nat.zero_add, Nat.reduceSub, Nat.le_refl, Nat.lt_irrefl]
  try exact ⟨rfl, rfl⟩
end
end Go.VL.opl

namespace Go.VL.opl
open Go Go.VL Go.Proofs Go.IntWalk Go.VL.st Go.VL.row

/-- Changes all of whose slices are of late rights. -/
def FrC (lo : Nat) (τ : St) (w : V) (O : List (V × Cg)) : Prop :=
  ((O = [] ∧ ∃ z, w = .sl true .pub z []) ∨ ∃ q, w = .sl false (.own q) 13 (cgsV O) ∧ τ.live[q]? = some true ∧ lo ≤ q ∧ ∀ p ∈ O, ∀ n es, p.1 ≠ .sl false (.own q) n es) ∧ ∀ p ∈ O, ∃ q, p.1 = .sl false (.own q) 1 (intsV .i64 p.2.deps) ∧ τ.live[q]? = some true ∧ lo ≤ q
theorem FrC.keep {lo : Nat} {τ τ' : St} {w : V} {O : List (V × Cg)} (h : FrC lo τ w O) (k : ∀ r, lo ≤ r → τ.live[r]? = some true → τ'.live[r]? = some true) : FrC lo τ' w O := by
  refine ⟨h.1.imp_right ?_, fun p hp => ?_⟩
  · rintro ⟨q, e, h1, h2, h3⟩
    exact ⟨q, e, k _ h2 h1, h2, h3⟩
  · obtain ⟨q, e, h1, h2⟩ := h.2 p hp
    exact ⟨q, e, k _ h2 h1, h2⟩
theorem FrC.ext {lo : Nat} {τ τ' : St} {w : V} {O : List (V × Cg)} (h : FrC lo τ w O) (k : Ext τ τ') : FrC lo τ' w O := h.keep fun r _ => k.live r
theorem FrC.nil (lo : Nat) (τ : St) (z : Nat) : FrC lo τ (.sl true .pub z []) [] := ⟨.inl ⟨rfl, z, rfl⟩, fun p hp => by cases hp⟩
theorem FrC.rdS {lo : Nat} {τ : St} {w : V} {O : List (V × Cg)} (h : FrC lo τ w O) : RdS τ w 13 (cgsV O) := by
  rcases h.1 with ⟨rfl, z, rfl⟩ | ⟨q, rfl, h1, -⟩
  · exact ⟨_, _, _, rfl, fun _ => rfl, .inl rfl⟩
  · exact ⟨_, _, _, rfl, by simp, .inr ⟨h1, rfl⟩⟩
theorem FrC.rds {lo : Nat} {τ : St} {w : V} {O : List (V × Cg)} (h : FrC lo τ w O) : Rds τ O := fun p hp => by
  obtain ⟨q, e, h1, -⟩ := h.2 p hp
  rw [e]; exact ⟨_, _, _, rfl, by simp, .inr ⟨h1, rfl⟩⟩
theorem FrC.rd {lo : Nat} {τ : St} {w : V} {O : List (V × Cg)} (h : FrC lo τ w O) : RdC τ w (O.map (·.2)) := ⟨O, rfl, h.rdS, h.rds⟩
theorem own_inj {q q' n n' : Nat} {es es' : List (List V)} (h : V.sl false (.own q) n es = V.sl false (.own q') n' es') : q = q' := by cases h; rfl
/-- append of one more. -/
theorem FrC.app' {lo : Nat} {τ τ2 : St} {q : Nat} {O : List (V × Cg)} {x : V} {g : Cg} (h : FrC lo τ (.sl false (.own q) 13 (cgsV O)) O) (hev : ∀ r : Nat, τ.live[r]? = some true → τ2.live[r]? = some true) (hll : τ.live.length ≤ τ2.live.length) (hx : NewS τ τ2 x 1 (intsV .i64 g.deps)) (hlo : lo ≤ τ.live.length) :
    FrC lo ⟨τ2.objs, kill (τ2.live ++ [true]) (.own q) ++ [true]⟩ (.sl false (.own (τ2.live ++ [true]).length) 13 (cgsV O ++ [cgC x g])) (O ++ [(x, g)]) := by
  obtain ⟨q', e, h1, h2, h3⟩ : ∃ q', V.sl false (.own q) 13 (cgsV O) = .sl false (.own q') 13 (cgsV O) ∧ τ.live[q']? = some true ∧ lo ≤ q' ∧ ∀ p ∈ O, ∀ n es, p.1 ≠ .sl false (.own q') n es := by
    rcases h.1 with ⟨rfl, z, e⟩ | h
    · cases e
    · exact h
  have := own_inj e
  subst this
  have hql := (List.getElem?_eq_some_iff.1 h1).1
  obtain ⟨r, rfl, x1, x2⟩ := hx
  have hrl := (List.getElem?_eq_some_iff.1 x1).1
  have key : ∀ r, r ≠ q → τ2.live[r]? = some true → (kill (τ2.live ++ [true]) (.own q) ++ [true])[r]? = some true := fun r hr h => by
    have hl := (List.getElem?_eq_some_iff.1 h).1
    simp only [kill]
    rw [List.getElem?_append_left (by simp; omega), List.getElem?_set_ne (Ne.symm hr), List.getElem?_append_left hl]
    exact h
  refine ⟨.inr ⟨_, by rw [cgsV_snoc], live_last' _ _ _, by simp only [List.length_append, List.length_singleton]; omega, fun p hp n es e => ?_⟩, fun p hp => ?_⟩
  · rcases List.mem_append.1 hp with hp | hp
    · obtain ⟨q2, e2, h4, -⟩ := h.2 p hp
      have h4' := (List.getElem?_eq_some_iff.1 (hev _ h4)).1
      rw [e2] at e
      have := own_inj e
      simp only [List.length_append, List.length_singleton] at this
      omega
    · rw [List.mem_singleton] at hp
      subst hp
      have := own_inj e
      simp only [List.length_append, List.length_singleton] at this
      omega
  · rcases List.mem_append.1 hp with hp | hp
    · obtain ⟨q2, e2, h4, h5⟩ := h.2 p hp
      exact ⟨q2, e2, key _ (fun e => h3 p hp _ _ (by rw [e2, e])) (hev _ h4), h5⟩
    · rw [List.mem_singleton] at hp
      subst hp
      exact ⟨r, rfl, key _ (by omega) x1, by omega⟩
theorem FrC.app {lo : Nat} {τ τ2 : St} {q : Nat} {O : List (V × Cg)} {x : V} {g : Cg} (h : FrC lo τ (.sl false (.own q) 13 (cgsV O)) O) (he : Ext τ τ2) (hx : NewS τ τ2 x 1 (intsV .i64 g.deps)) (hlo : lo ≤ τ.live.length) :
    FrC lo ⟨τ2.objs, kill (τ2.live ++ [true]) (.own q) ++ [true]⟩ (.sl false (.own (τ2.live ++ [true]).length) 13 (cgsV O ++ [cgC x g])) (O ++ [(x, g)]) := h.app' he.live he.llen hx hlo
theorem FrC.app0' {lo : Nat} {τ τ2 : St} {x : V} {g : Cg} (hll : τ.live.length ≤ τ2.live.length) (hx : NewS τ τ2 x 1 (intsV .i64 g.deps)) (hlo : lo ≤ τ.live.length) :
    FrC lo ⟨τ2.objs, (τ2.live ++ [true]) ++ [true]⟩ (.sl false (.own (τ2.live ++ [true]).length) 13 [cgC x g]) [(x, g)] := by
  obtain ⟨r, rfl, x1, x2⟩ := hx
  have hrl := (List.getElem?_eq_some_iff.1 x1).1
  refine ⟨.inr ⟨_, rfl, live_last _ _, by simp only [List.length_append, List.length_singleton]; omega, fun p hp n es e => ?_⟩, fun p hp => ?_⟩
  · rw [List.mem_singleton] at hp
    subst hp
    have := own_inj e
    simp only [List.length_append, List.length_singleton] at this
    omega
  · rw [List.mem_singleton] at hp
    subst hp
    refine ⟨r, rfl, ?_, by omega⟩
    show ((τ2.live ++ [true]) ++ [true])[r]? = some true
    rw [List.getElem?_append_left (by simp; omega), List.getElem?_append_left hrl]
    exact x1
theorem FrC.app0 {lo : Nat} {τ τ2 : St} {x : V} {g : Cg} (he : Ext τ τ2) (hx : NewS τ τ2 x 1 (intsV .i64 g.deps)) (hlo : lo ≤ τ.live.length) :
    FrC lo ⟨τ2.objs, (τ2.live ++ [true]) ++ [true]⟩ (.sl false (.own (τ2.live ++ [true]).length) 13 [cgC x g]) [(x, g)] := FrC.app0' he.llen hx hlo
/-- What Each goes over. -/
def eachL (L : List Cg) (k : List Int) : List Cg := bif decide (clockI k = 0) then allR L k else []
section
variable {σ : St} {i m j y : Nat} {mo : Option Nat} {s d v kv w : V} {ov : List V} {room r n : Int} {P O : List (V × Cg)} {g : Cg} {x : Sp} {l k : List Int}
set_option maxRecDepth 100000 in
set_option maxHeartbeats 1000000 in
/-- The closure. -/
theorem each1_ok (J : List (V × Cg) → St → Prop) (K : St → Prop) (hj : σ.objs[j]? = some (.cells [w])) (hw : RdS σ w 13 (cgsV O)) (hO : O.length ≤ 1000000) (hOd : ∀ p ∈ O, p.2.deps.length ≤ 2000000)
    (hst : J O σ) (hJ : ∀ R τ, J R τ → RdS τ w 13 (cgsV O) ∧ Rds τ O)
    (hY : ∀ p R τ τ' x, J (p :: R) τ → Ext τ τ' → τ'.objs = τ.objs → NewS τ τ' x 1 (intsV .i64 p.2.deps) → YldA Try.prog y [cgV x p.2] τ' fun v τ2 => v = .bool true ∧ J R τ2 ∨ v = .bool false ∧ K τ2) (h0 : ∀ τ, J [] τ → K τ) :
    CallA Try.prog 46 [yv y, .ptr (some (j, 0))] σ fun _ σ' => K σ' := by
  obtain ⟨b, R, z, rfl, -, -⟩ := id hw
  refine fn_at Try.func46 (by decide) comp46 rfl fun Q q1 q2 => ?_
  simp -implicitDefEqProofs only [go_sem, Nat.reduceBEq, Nat.reduceAdd, eq_self, true_and, and_true, and_self, List.getElem?_cons_zero, List.getElem?_cons_succ, Nat.reduceLeDiff, Nat.zero_add, Nat.reduceSub, Nat.le_refl, c46, hj]
  refine loop_at (fun (k : Nat) => ⟨[(0, .v (yv y)), (5, .v (.sl b R z (cgsV O))), (6, .v (.int .i64 (cgsV O).length)), (7, .v (.int .i64 k))], []⟩)
    (fun k τ => k ≤ O.length ∧ J (O.drop k) τ) (fun k => O.length - k) 0 ?_ ?_ ?_
  · refine .inr ?_
    simp -implicitDefEqProofs only [go_sem, Nat.reduceBEq, Nat.reduceAdd, eq_self, true_and, and_true, and_self, List.getElem?_cons_zero, List.getElem?_cons_succ, Nat.reduceLeDiff, Nat.zero_add, Nat.reduceSub, Nat.le_refl, Nat.lt_irrefl]
    try trivial
  · exact ⟨Nat.zero_le _, hst⟩
  rintro k τ ⟨g1, g2⟩ Z z1 z2 z3
  have hWl := cgsV_len O
  simp -implicitDefEqProofs only [go_sem, Nat.reduceBEq, Nat.reduceAdd, eq_self, true_and, and_true, and_self, List.getElem?_cons_zero, List.getElem?_cons_succ, Nat.reduceLeDiff, Nat.zero_add, Nat.reduceSub, Nat.le_refl, Nat.lt_irrefl]
  refine CondW_b (fun hc => ?_) (fun hc => ?_)
  · have hk : k < O.length := by simpa [cgsV_len] using hc
    obtain ⟨hr1, hr2⟩ := hJ _ _ g2
    obtain ⟨k1, k2⟩ := rdl hr1 (cgsV_ne hk)
    have hget := cgsV_get hk
    have hib : (k : Int) < (cgsV O).length := by omega
    have hdi := hr2 _ (List.getElem_mem hk)
    have hdl := hOd _ (List.getElem_mem hk)
    rw [List.drop_eq_getElem_cons hk] at g2
    generalize O[k] = p at hget g2 hdi hdl
    obtain ⟨d2, g⟩ := p
    simp only at hget hdi hdl
    obtain ⟨db, dr, dz, rfl, -, -⟩ := id hdi
    have hcp := pcopy_ok hdi (by omega)
    simp only [cgV, cgC] at hcp
    simp -implicitDefEqProofs only [go_sem, Nat.reduceBEq, Nat.reduceAdd, eq_self, true_and, and_true, and_self, List.getElem?_cons_zero, List.getElem?_cons_succ, Nat.reduceLeDiff, Nat.zero_add, Nat.reduceSub, Nat.le_refl, hget, cgC]
    refine ⟨⟨by omega, hib, k2⟩, k1, ?_⟩
    refine call_at hcp ?_
    rintro w τ2 ⟨e1, o1, x, rfl, hn⟩
    refine ⟨kept_none, ?_⟩
    simp -implicitDefEqProofs only [go_sem, Nat.reduceBEq, Nat.reduceAdd, eq_self, true_and, and_true, and_self, List.getElem?_cons_zero, List.getElem?_cons_succ, Nat.reduceLeDiff, Nat.zero_add, Nat.reduceSub, Nat.le_refl, Nat.lt_irrefl]
    refine yld_at (hY _ _ _ _ x g2 e1 o1 hn) ?_
    rintro v τ3 (⟨rfl, c1⟩ | ⟨rfl, c1⟩)
    · refine ⟨kept_none, ?_⟩
      simp -implicitDefEqProofs only [go_sem, Nat.reduceBEq, Nat.reduceAdd, eq_self, true_and, and_true, and_self, List.getElem?_cons_zero, List.getElem?_cons_succ, Nat.reduceLeDiff, Nat.zero_add, Nat.reduceSub, Nat.le_refl, Bool.not_true]
      refine z1 (k + 1) _ _ (.inr ?_) (by omega) ⟨by omega, c1⟩
      simp -implicitDefEqProofs only [go_sem, Nat.reduceBEq, Nat.reduceAdd, eq_self, true_and, and_true, and_self, List.getElem?_cons_zero, List.getElem?_cons_succ, Nat.reduceLeDiff, Nat.zero_add, Nat.reduceSub, Nat.le_refl, Nat.lt_irrefl]
      rw [i64_in _ (by omega)]; simp
    · refine ⟨kept_none, ?_⟩
      simp -implicitDefEqProofs only [go_sem, Nat.reduceBEq, Nat.reduceAdd, eq_self, true_and, and_true, and_self, List.getElem?_cons_zero, List.getElem?_cons_succ, Nat.reduceLeDiff, Nat.zero_add, Nat.reduceSub, Nat.le_refl, Bool.not_false]
      refine z3 _ _ ?_
      simp -implicitDefEqProofs only [go_sem, Nat.reduceBEq, Nat.reduceAdd, eq_self, true_and, and_true, and_self, List.getElem?_cons_zero, List.getElem?_cons_succ, Nat.reduceLeDiff, Nat.zero_add, Nat.reduceSub, Nat.le_refl, Nat.lt_irrefl]
      refine q2 _ _ ?_
      simp -implicitDefEqProofs only [go_sem, Nat.reduceBEq, Nat.reduceAdd, eq_self, true_and, and_true, and_self, List.getElem?_cons_zero, List.getElem?_cons_succ, Nat.reduceLeDiff, Nat.zero_add, Nat.reduceSub, Nat.le_refl, Nat.lt_irrefl]
      exact c1
  · have hk : ¬ k < O.length := by simpa [cgsV_len] using hc
    rw [List.drop_of_length_le (by omega)] at g2
    simp -implicitDefEqProofs only [go_sem, Nat.reduceBEq, Nat.reduceAdd, eq_self, true_and, and_true, and_self, List.getElem?_cons_zero, List.getElem?_cons_succ, Nat.reduceLeDiff, Nat.zero_add, Nat.reduceSub, Nat.le_refl, Nat.lt_irrefl]
    refine z2 _ _ _ ?_
    simp -implicitDefEqProofs only [go_sem, Nat.reduceBEq, Nat.reduceAdd, eq_self, true_and, and_true, and_self, List.getElem?_cons_zero, List.getElem?_cons_succ, Nat.reduceLeDiff, Nat.zero_add, Nat.reduceSub, Nat.le_refl, Nat.lt_irrefl]
    refine q1 _ _ ?_
    simp -implicitDefEqProofs only [go_sem, Nat.reduceBEq, Nat.reduceAdd, eq_self, true_and, and_true, and_self, List.getElem?_cons_zero, List.getElem?_cons_succ, Nat.reduceLeDiff, Nat.zero_add, Nat.reduceSub, Nat.le_refl, Nat.lt_irrefl]
    exact h0 _ g2
/-- What Each answers. -/
def EachIs (σ σ' : St) (v : V) (L : List Cg) : Prop := ∃ j w O, v = .fn 46 [.ptr (some (j, 0))] ∧ σ.objs.length ≤ j ∧ σ'.objs[j]? = some (.cells [w]) ∧ FrC σ.live.length σ' w O ∧ O.map (·.2) = L
set_option maxRecDepth 100000 in
set_option maxHeartbeats 4000000 in
theorem each_nil : CallA Try.prog 13 [.ptr none, kv] σ fun v σ' => EachIs σ σ' v [] ∧ Ext σ σ' := by
  refine fn_at Try.func13 (by decide) comp13 rfl fun Q q1 q2 => ?_
  simp -implicitDefEqProofs only [go_sem, Nat.reduceBEq, Nat.reduceAdd, eq_self, true_and, and_true, and_self, List.getElem?_cons_zero, List.getElem?_cons_succ, Nat.reduceLeDiff, Nat.zero_add, Nat.reduceSub, Nat.le_refl, c13]
  refine cut_at (fun G τ => τ = ⟨σ.objs ++ [.cells [.sl true .pub 0 []]], σ.live⟩ ∧ G = ⟨[(5, .v (.ptr (some (σ.objs.length, 0))))], []⟩) ?_ ?_
  · intro Z z1 z2 z3
    simp -implicitDefEqProofs only [go_sem, Nat.reduceBEq, Nat.reduceAdd, eq_self, true_and, and_true, and_self, List.getElem?_cons_zero, List.getElem?_cons_succ, Nat.reduceLeDiff, Nat.zero_add, Nat.reduceSub, Nat.le_refl, Nat.lt_irrefl]
    refine z1 _ _ _ (.inr ?_) ⟨rfl, rfl⟩
    simp -implicitDefEqProofs only [go_sem, Nat.reduceBEq, Nat.reduceAdd, eq_self, true_and, and_true, and_self, List.getElem?_cons_zero, List.getElem?_cons_succ, Nat.reduceLeDiff, Nat.zero_add, Nat.reduceSub, Nat.le_refl, Nat.lt_irrefl]
  rintro G τ ⟨rfl, rfl⟩
  simp -implicitDefEqProofs only [go_sem, Nat.reduceBEq, Nat.reduceAdd, eq_self, true_and, and_true, and_self, List.getElem?_cons_zero, List.getElem?_cons_succ, Nat.reduceLeDiff, Nat.zero_add, Nat.reduceSub, Nat.le_refl, Nat.lt_irrefl]
  refine q2 _ _ ?_
  simp -implicitDefEqProofs only [go_sem, Nat.reduceBEq, Nat.reduceAdd, eq_self, true_and, and_true, and_self, List.getElem?_cons_zero, List.getElem?_cons_succ, Nat.reduceLeDiff, Nat.zero_add, Nat.reduceSub, Nat.le_refl, Nat.lt_irrefl]
  exact ⟨⟨_, .sl true .pub 0 [], [], rfl, Nat.le_refl _, by simp, FrC.nil _ _ _, rfl⟩, ext_obj _ _⟩
set_option maxRecDepth 100000 in
set_option maxHeartbeats 4000000 in
theorem each_ok (h : LogIs σ i mo s ov room P) (hl : P.length ≤ 1000000) (hk : RdS σ kv 1 (intsV .i64 k)) : CallA Try.prog 13 [.ptr (some (i, 0)), kv] σ fun v σ' => EachIs σ σ' v (eachL (cgL P) k) ∧ Ext σ σ' := by
  refine fn_at Try.func13 (by decide) comp13 rfl fun Q q1 q2 => ?_
  simp -implicitDefEqProofs only [go_sem, Nat.reduceBEq, Nat.reduceAdd, eq_self, true_and, and_true, and_self, List.getElem?_cons_zero, List.getElem?_cons_succ, Nat.reduceLeDiff, Nat.zero_add, Nat.reduceSub, Nat.le_refl, c13]
  refine cut_at (fun G τ => Ext σ τ ∧ G = ⟨[(5, .v (.ptr (some (σ.objs.length, 0))))], []⟩ ∧ ∃ w O, τ.objs[σ.objs.length]? = some (.cells [w]) ∧ FrC σ.live.length τ w O ∧ O.map (·.2) = eachL (cgL P) k) ?_ ?_
  case refine_2 =>
    rintro G τ ⟨e1, rfl, w, O, h1, h2, h3⟩
    simp -implicitDefEqProofs only [go_sem, Nat.reduceBEq, Nat.reduceAdd, eq_self, true_and, and_true, and_self, List.getElem?_cons_zero, List.getElem?_cons_succ, Nat.reduceLeDiff, Nat.zero_add, Nat.reduceSub, Nat.le_refl, Nat.lt_irrefl]
    refine q2 _ _ ?_
    simp -implicitDefEqProofs only [go_sem, Nat.reduceBEq, Nat.reduceAdd, eq_self, true_and, and_true, and_self, List.getElem?_cons_zero, List.getElem?_cons_succ, Nat.reduceLeDiff, Nat.zero_add, Nat.reduceSub, Nat.le_refl, Nat.lt_irrefl]
    exact ⟨⟨_, _, O, rfl, Nat.le_refl _, h1, h2, h3⟩, e1⟩
  intro Z z1 z2 z3
  have e0 := ext_obj σ (.cells [.sl true .pub 0 []])
  have hb0 : (⟨σ.objs ++ [.cells [.sl true .pub 0 []]], σ.live⟩ : St).objs[σ.objs.length]? = some (.cells [.sl true .pub 0 []]) := by simp
  simp -implicitDefEqProofs only [go_sem, Nat.reduceBEq, Nat.reduceAdd, eq_self, true_and, and_true, and_self, List.getElem?_cons_zero, List.getElem?_cons_succ, Nat.reduceLeDiff, Nat.zero_add, Nat.reduceSub, Nat.le_refl, Nat.lt_irrefl]
  refine call_at (clock_ok (hk.ext e0)) ?_
  rintro w τ ⟨hτ, rfl⟩
  have hτ := hτ.symm
  subst hτ
  refine ⟨kept_none, ?_⟩
  generalize (⟨σ.objs ++ [.cells [.sl true .pub 0 []]], σ.live⟩ : St) = τ0 at e0 hb0 ⊢
  cases hc : decide (clockI k = 0)
  · have hL : eachL (cgL P) k = [] := by unfold eachL; rw [hc]; rfl
    rw [hL] at z1
    simp -implicitDefEqProofs only [go_sem, Nat.reduceBEq, Nat.reduceAdd, eq_self, true_and, and_true, and_self, List.getElem?_cons_zero, List.getElem?_cons_succ, Nat.reduceLeDiff, Nat.zero_add, Nat.reduceSub, Nat.le_refl, hc]
    refine z1 _ _ _ (.inr ?_) ⟨e0, rfl, _, [], hb0, FrC.nil _ _ _, rfl⟩
    simp -implicitDefEqProofs only [go_sem, Nat.reduceBEq, Nat.reduceAdd, eq_self, true_and, and_true, and_self, List.getElem?_cons_zero, List.getElem?_cons_succ, Nat.reduceLeDiff, Nat.zero_add, Nat.reduceSub, Nat.le_refl, Nat.lt_irrefl]
  have hL : eachL (cgL P) k = allR (cgL P) k := by unfold eachL; rw [hc]; rfl
  rw [hL] at z1
  have hL0 := h.ext e0
  have h1 := hL0.cells
  have hcl := cgsV_len P
  rcases id h.row with ⟨R, q, rfl, he⟩ | ⟨j', cap, rfl, ho, -, hcp⟩
  · have hP : P = [] := by
      have : (cgsV P).length = 0 := by rw [he]; rfl
      rw [hcl] at this
      exact List.length_eq_zero_iff.1 this
    rw [hP] at z1
    have hlt : decide ((0 : Int) < ((0 : Nat) : Int)) = false := rfl
    simp -implicitDefEqProofs only [go_sem, Nat.reduceBEq, Nat.reduceAdd, eq_self, true_and, and_true, and_self, List.getElem?_cons_zero, List.getElem?_cons_succ, Nat.reduceLeDiff, Nat.zero_add, Nat.reduceSub, Nat.le_refl, hc, h1]
    refine loop_at (fun (y : Nat) => ⟨[(5, .v (.ptr (some (σ.objs.length, 0)))), (19, .v (.int .i64 ((0 : Nat) : Int))), (20, .v (.int .i64 0))], []⟩) (fun y t => t = τ0) (fun y => 0) 0 (.inr ?_) rfl ?_
    · simp -implicitDefEqProofs only [go_sem, Nat.reduceBEq, Nat.reduceAdd, eq_self, true_and, and_true, and_self, List.getElem?_cons_zero, List.getElem?_cons_succ, Nat.reduceLeDiff, Nat.zero_add, Nat.reduceSub, Nat.le_refl, Nat.lt_irrefl]
      try exact ⟨rfl, rfl, rfl⟩
    rintro _ τ rfl X x1 x2 x3
    simp -implicitDefEqProofs only [go_sem, Nat.reduceBEq, Nat.reduceAdd, eq_self, true_and, and_true, and_self, List.getElem?_cons_zero, List.getElem?_cons_succ, Nat.reduceLeDiff, Nat.zero_add, Nat.reduceSub, Nat.le_refl, hlt]
    refine x2 _ _ _ ?_
    simp -implicitDefEqProofs only [go_sem, Nat.reduceBEq, Nat.reduceAdd, eq_self, true_and, and_true, and_self, List.getElem?_cons_zero, List.getElem?_cons_succ, Nat.reduceLeDiff, Nat.zero_add, Nat.reduceSub, Nat.le_refl, Nat.lt_irrefl]
    refine z1 _ _ _ (.inr ?_) ⟨e0, rfl, _, [], hb0, FrC.nil _ _ _, rfl⟩
    simp -implicitDefEqProofs only [go_sem, Nat.reduceBEq, Nat.reduceAdd, eq_self, true_and, and_true, and_self, List.getElem?_cons_zero, List.getElem?_cons_succ, Nat.reduceLeDiff, Nat.zero_add, Nat.reduceSub, Nat.le_refl, Nat.lt_irrefl]
  simp -implicitDefEqProofs only [go_sem, Nat.reduceBEq, Nat.reduceAdd, eq_self, true_and, and_true, and_self, List.getElem?_cons_zero, List.getElem?_cons_succ, Nat.reduceLeDiff, Nat.zero_add, Nat.reduceSub, Nat.le_refl, hc, h1, hcl]
  refine loop_at (fun (y : Nat) => ⟨[(0, .v (.ptr (some (i, 0)))), (1, .v kv), (5, .v (.ptr (some (σ.objs.length, 0)))), (18, .v (.osl j' P.length cap 13)), (19, .v (.int .i64 P.length)), (20, .v (.int .i64 y))], []⟩)
    (fun y t => y ≤ P.length ∧ Ext σ t ∧ ∃ w O, t.objs[σ.objs.length]? = some (.cells [w]) ∧ FrC σ.live.length t w O ∧ O.map (·.2) = allR ((cgL P).take y) k) (fun y => P.length - y) 0 (.inr ?_) ?_ ?_
  · simp -implicitDefEqProofs only [go_sem, Nat.reduceBEq, Nat.reduceAdd, eq_self, true_and, and_true, and_self, List.getElem?_cons_zero, List.getElem?_cons_succ, Nat.reduceLeDiff, Nat.zero_add, Nat.reduceSub, Nat.le_refl, Nat.lt_irrefl]
    try exact ⟨rfl, rfl, rfl⟩
    try exact rfl
  · exact ⟨Nat.zero_le _, e0, _, [], hb0, FrC.nil _ _ _, rfl⟩
  rintro y τ ⟨g1, g2, w, O, g3, g4, g5⟩ X x1 x2 x3
  have hOl : O.length ≤ P.length := by
    have h2 := congrArg List.length g5
    rw [map2_len] at h2
    have h3 := allR_len ((cgL P).take y) k
    rw [List.length_take, map2_len] at h3
    omega
  have hO2 := cgsV_len O
  simp -implicitDefEqProofs only [go_sem, Nat.reduceBEq, Nat.reduceAdd, eq_self, true_and, and_true, and_self, List.getElem?_cons_zero, List.getElem?_cons_succ, Nat.reduceLeDiff, Nat.zero_add, Nat.reduceSub, Nat.le_refl, Nat.lt_irrefl]
  refine CondW_b (fun hcc => ?_) (fun hcc => ?_)
  · have hi : y < P.length := by simpa using hcc
    have hwy : IntKind.i64.wrap ((y : Int) + 1) = ((y + 1 : Nat) : Int) := by rw [i64_in _ (by omega)]; omega
    have hget := cg_drop0 hi
    have ho' := g2.objs _ _ ho
    have htk : (cgL P).take (y + 1) = (cgL P).take y ++ [P[y].2] := by rw [List.take_succ_eq_append_getElem (by simpa using hi)]; simp
    have hdi := (h.rds.ext g2) _ (List.getElem_mem hi)
    have hdl := h.deps _ (List.getElem_mem hi)
    have hb1 : (y : Int) < P.length := by omega
    generalize P[y] = p at hget htk hdi hdl
    obtain ⟨d2, h⟩ := p
    simp only at hget htk hdi hdl
    obtain ⟨db, dr, dz, rfl, -, -⟩ := id hdi
    have hal := allR_snoc ((cgL P).take y) k h
    rw [← htk] at hal
    refine cut_at (fun G τ2 => G = ⟨[(0, .v (.ptr (some (i, 0)))), (1, .v kv), (5, .v (.ptr (some (σ.objs.length, 0)))), (18, .v (.osl j' P.length cap 13)), (19, .v (.int .i64 P.length)), (20, .v (.int .i64 y))], []⟩ ∧ Ext σ τ2 ∧ ∃ w O, τ2.objs[σ.objs.length]? = some (.cells [w]) ∧ FrC σ.live.length τ2 w O ∧ O.map (·.2) = allR ((cgL P).take (y + 1)) k) ?_ ?_
    case refine_2 =>
      rintro G τ2 ⟨rfl, t1, t2⟩
      simp -implicitDefEqProofs only [go_sem, Nat.reduceBEq, Nat.reduceAdd, eq_self, true_and, and_true, and_self, List.getElem?_cons_zero, List.getElem?_cons_succ, Nat.reduceLeDiff, Nat.zero_add, Nat.reduceSub, Nat.le_refl, hwy]
      refine x1 (y + 1) _ _ (.inr ?_) (by omega) ⟨by omega, t1, t2⟩
      simp -implicitDefEqProofs only [go_sem, Nat.reduceBEq, Nat.reduceAdd, eq_self, true_and, and_true, and_self, List.getElem?_cons_zero, List.getElem?_cons_succ, Nat.reduceLeDiff, Nat.zero_add, Nat.reduceSub, Nat.le_refl, Nat.lt_irrefl]
      try exact ⟨rfl, rfl, rfl⟩
    intro Y y1 y2 y3
    simp -implicitDefEqProofs only [go_sem, Nat.reduceBEq, Nat.reduceAdd, eq_self, true_and, and_true, and_self, List.getElem?_cons_zero, List.getElem?_cons_succ, Nat.reduceLeDiff, Nat.zero_add, Nat.reduceSub, Nat.le_refl, hcl, ho', hget, cgC, Int.toNat_natCast, Nat.add_zero]
    refine ⟨⟨by omega, hb1⟩, ?_⟩
    refine call_at (at_ok (r := h.ar) (hk.ext g2)) ?_
    rintro v τ2 ⟨hτ2, rfl⟩
    have hτ2 := hτ2.symm
    subst hτ2
    refine ⟨(Ext.refl _).kept, ?_⟩
    have hin : decide (h.seq > atD k h.ar) = !inC k h := by
      unfold inC
      rw [← decide_not, decide_eq_decide]; omega
    cases hx : inC k h <;> rw [hx] at hal hin
    · have hcp := pcopy_ok hdi (by omega)
      simp only [cgV, cgC] at hcp
      simp -implicitDefEqProofs only [go_sem, Nat.reduceBEq, Nat.reduceAdd, eq_self, true_and, and_true, and_self, List.getElem?_cons_zero, List.getElem?_cons_succ, Nat.reduceLeDiff, Nat.zero_add, Nat.reduceSub, Nat.le_refl, hin, Bool.not_false, g3]
      refine call_at hcp ?_
      rintro v τ2 ⟨e2, o2, x, rfl, hn⟩
      refine ⟨e2.kept, ?_⟩
      obtain ⟨rx, rfl, -⟩ := id hn
      have g3' : τ2.objs[σ.objs.length]? = some (.cells [w]) := by rw [o2]; exact g3
      rcases g4.1 with ⟨rfl, z, rfl⟩ | ⟨q, rfl, q1', q2', -⟩
      · have hfa := FrC.app0 (lo := σ.live.length) e2 hn g2.llen
        simp -implicitDefEqProofs only [go_sem, Nat.reduceBEq, Nat.reduceAdd, eq_self, true_and, and_true, and_self, List.getElem?_cons_zero, List.getElem?_cons_succ, Nat.reduceLeDiff, Nat.zero_add, Nat.reduceSub, Nat.le_refl, Nat.lt_irrefl]
        refine ⟨⟨.inl trivial, rfl, .inr (live_last _ _), .inl trivial⟩, ?_⟩
        simp -implicitDefEqProofs only [go_sem, Nat.reduceBEq, Nat.reduceAdd, eq_self, true_and, and_true, and_self, List.getElem?_cons_zero, List.getElem?_cons_succ, Nat.reduceLeDiff, Nat.zero_add, Nat.reduceSub, Nat.le_refl, g3', flats, V.flat]
        refine y1 _ _ _ (.inr ?_) ⟨rfl, ext_set (ext_push (ext_push (g2.trans e2))) (Nat.le_refl _), _, [(_, h)], setC_get (List.getElem?_eq_some_iff.1 g3').1, hfa.keep fun _ _ h => h, by rw [hal, ← g5]; rfl⟩
        simp -implicitDefEqProofs only [go_sem, Nat.reduceBEq, Nat.reduceAdd, eq_self, true_and, and_true, and_self, List.getElem?_cons_zero, List.getElem?_cons_succ, Nat.reduceLeDiff, Nat.zero_add, Nat.reduceSub, Nat.le_refl, Nat.lt_irrefl]
        try exact ⟨rfl, rfl, rfl⟩
      · have hfa := FrC.app (lo := σ.live.length) g4 e2 hn g2.llen
        simp -implicitDefEqProofs only [go_sem, Nat.reduceBEq, Nat.reduceAdd, eq_self, true_and, and_true, and_self, List.getElem?_cons_zero, List.getElem?_cons_succ, Nat.reduceLeDiff, Nat.zero_add, Nat.reduceSub, Nat.le_refl, Nat.lt_irrefl]
        refine ⟨⟨.inr trivial, .inr ((ext_live _ _).live _ (e2.live _ q1')), ⟨.inr (live_last _ _), .inl trivial⟩, by omega⟩, ?_⟩
        simp -implicitDefEqProofs only [go_sem, Nat.reduceBEq, Nat.reduceAdd, eq_self, true_and, and_true, and_self, List.getElem?_cons_zero, List.getElem?_cons_succ, Nat.reduceLeDiff, Nat.zero_add, Nat.reduceSub, Nat.le_refl, g3', flats, V.flat]
        refine y1 _ _ _ (.inr ?_) ⟨rfl, ext_set (ext_kill (ext_push (g2.trans e2)) q2') (Nat.le_refl _), _, O ++ [(_, h)], setC_get (List.getElem?_eq_some_iff.1 g3').1, hfa.keep fun _ _ h => h, by rw [hal, ← g5, List.map_append]; rfl⟩
        simp -implicitDefEqProofs only [go_sem, Nat.reduceBEq, Nat.reduceAdd, eq_self, true_and, and_true, and_self, List.getElem?_cons_zero, List.getElem?_cons_succ, Nat.reduceLeDiff, Nat.zero_add, Nat.reduceSub, Nat.le_refl, Nat.lt_irrefl]
        try exact ⟨rfl, rfl, rfl⟩
    · simp -implicitDefEqProofs only [go_sem, Nat.reduceBEq, Nat.reduceAdd, eq_self, true_and, and_true, and_self, List.getElem?_cons_zero, List.getElem?_cons_succ, Nat.reduceLeDiff, Nat.zero_add, Nat.reduceSub, Nat.le_refl, hin, Bool.not_true]
      refine y1 _ _ _ (.inr ?_) ⟨rfl, g2, w, O, g3, g4, by rw [hal, g5]; rfl⟩
      simp -implicitDefEqProofs only [go_sem, Nat.reduceBEq, Nat.reduceAdd, eq_self, true_and, and_true, and_self, List.getElem?_cons_zero, List.getElem?_cons_succ, Nat.reduceLeDiff, Nat.zero_add, Nat.reduceSub, Nat.le_refl, Nat.lt_irrefl]
      try exact ⟨rfl, rfl, rfl⟩
  have hy : y = P.length := by have : ¬ y < P.length := by simpa using hcc
                               omega
  rw [hy, List.take_of_length_le (by rw [map2_len]; omega)] at g5
  simp -implicitDefEqProofs only [go_sem, Nat.reduceBEq, Nat.reduceAdd, eq_self, true_and, and_true, and_self, List.getElem?_cons_zero, List.getElem?_cons_succ, Nat.reduceLeDiff, Nat.zero_add, Nat.reduceSub, Nat.le_refl, Nat.lt_irrefl]
  refine x2 _ _ _ ?_
  simp -implicitDefEqProofs only [go_sem, Nat.reduceBEq, Nat.reduceAdd, eq_self, true_and, and_true, and_self, List.getElem?_cons_zero, List.getElem?_cons_succ, Nat.reduceLeDiff, Nat.zero_add, Nat.reduceSub, Nat.le_refl, Nat.lt_irrefl]
  refine z1 _ _ _ (.inr ?_) ⟨g2, rfl, w, O, g3, g4, g5⟩
  simp -implicitDefEqProofs only [go_sem, Nat.reduceBEq, Nat.reduceAdd, eq_self, true_and, and_true, and_self, List.getElem?_cons_zero, List.getElem?_cons_succ, Nat.reduceLeDiff, Nat.zero_add, Nat.reduceSub, Nat.le_refl, Nat.lt_irrefl]
end
end Go.VL.opl

namespace Go.VL.opl
open Go Go.VL Go.Proofs Go.IntWalk Go.VL.st Go.VL.row

theorem FrC.mono {lo lo' : Nat} {τ : St} {w : V} {O : List (V × Cg)} (h : FrC lo τ w O) (k : lo' ≤ lo) : FrC lo' τ w O := by
  refine ⟨h.1.imp_right ?_, fun p hp => ?_⟩
  · rintro ⟨q, e, h1, h2, h3⟩
    exact ⟨q, e, h1, by omega, h3⟩
  · obtain ⟨q, e, h1, h2⟩ := h.2 p hp
    exact ⟨q, e, h1, by omega⟩
/-- Fresh changes. -/
def NewC (σ σ' : St) (v : V) (L : List Cg) : Prop := ∃ O, FrC σ.live.length σ' v O ∧ O.map (·.2) = L
theorem NewC.rd {σ σ' : St} {v : V} {L : List Cg} (h : NewC σ σ' v L) : RdC σ' v L := by
  obtain ⟨O, h1, rfl⟩ := h
  exact h1.rd
section
variable {σ : St} {i m j y : Nat} {mo : Option Nat} {s d v kv w p : V} {ov : List V} {room r n most : Int} {P O : List (V × Cg)} {g : Cg} {x : Sp} {l k : List Int} {L : List Cg}
set_option maxRecDepth 100000 in
set_option maxHeartbeats 4000000 in
theorem aseq_ok {lo z : Nat} (hj : σ.objs[j]? = some (.cells [w])) (hF : FrC lo σ w O) (hO : O.length ≤ 1000000) (hOd : ∀ p ∈ O, p.2.deps.length ≤ 2000000) :
    CallA Try.prog 80 [.sl true .pub z [], .fn 46 [.ptr (some (j, 0))]] σ fun v σ' => NewC σ σ' v (O.map (·.2)) ∧ Ext σ σ' := by
  refine fn_at Try.func80 (by decide) comp80 rfl fun Q q1 q2 => ?_
  simp -implicitDefEqProofs only [go_sem, Nat.reduceBEq, Nat.reduceAdd, eq_self, true_and, and_true, and_self, List.getElem?_cons_zero, List.getElem?_cons_succ, Nat.reduceLeDiff, Nat.zero_add, Nat.reduceSub, Nat.le_refl, c80]
  have e0 := ext_obj σ (.cells [.sl true .pub z []])
  have hb0 : (⟨σ.objs ++ [.cells [.sl true .pub z []]], σ.live⟩ : St).objs[σ.objs.length]? = some (.cells [.sl true .pub z []]) := by simp
  have hj0 := e0.objs _ _ hj
  have hl0 : (⟨σ.objs ++ [.cells [.sl true .pub z []]], σ.live⟩ : St).objs.length = σ.objs.length + 1 := by simp
  generalize (⟨σ.objs ++ [.cells [.sl true .pub z []]], σ.live⟩ : St) = τ0 at e0 hb0 hj0 hl0 ⊢
  refine range_at ?_
  intro yl i0 r0 r1 r2 r3 hi hyy
  have e5 := ext_obj τ0 r0
  have hr0 : (⟨τ0.objs ++ [r0], τ0.live⟩ : St).objs[i0]? = some r0 := by rw [← hi]; simp
  refine CallA.mono (each1_ok (O := O)
    (fun R t => ∃ D O2 w2, O = D ++ R ∧ Ext σ t ∧ t.objs[σ.objs.length]? = some (.cells [w2]) ∧ FrC σ.live.length t w2 O2 ∧ O2.map (·.2) = D.map (·.2) ∧ t.objs[i0]? = some r0)
    (fun t => t.objs[i0]? = some r0 ∧ Ext σ t ∧ ∃ w2 O2, t.objs[σ.objs.length]? = some (.cells [w2]) ∧ FrC σ.live.length t w2 O2 ∧ O2.map (·.2) = O.map (·.2))
    (e5.objs _ _ hj0) ((hF.ext (e0.trans e5)).rdS) hO hOd ?_ ?_ ?_ ?_) ?_
  · exact ⟨[], [], _, rfl, e0.trans e5, e5.objs _ _ hb0, FrC.nil _ _ _, rfl, hr0⟩
  · rintro R t ⟨D, O2, w2, s1, s2, s3, s4, s5, s6⟩
    exact ⟨(hF.ext s2).rdS, (hF.ext s2).rds⟩
  · rintro a R t t' x ⟨D, O2, w2, s1, s2, s3, s4, s5, s6⟩ e6 o6 hx
    have hOl : O2.length ≤ O.length := by
      have := congrArg List.length s5
      rw [map2_len, map2_len] at this
      rw [s1, List.length_append, this]; omega
    have s6' : t'.objs[i0]? = some r0 := by rw [o6]; exact s6
    refine hyy t' _ _ s6' rfl fun Y0 y0 => ?_
    simp -implicitDefEqProofs only [go_sem, Nat.reduceBEq, Nat.reduceAdd, eq_self, true_and, and_true, and_self, List.getElem?_cons_zero, List.getElem?_cons_succ, Nat.reduceLeDiff, Nat.zero_add, Nat.reduceSub, Nat.le_refl, rndF, setPs, dropL, cgV, cgC]
    have hxx : ∃ q es, x = .sl false (.own q) 1 es := by obtain ⟨r, rfl, -⟩ := hx; exact ⟨_, _, rfl⟩
    obtain ⟨rx, ex, rfl⟩ := hxx
    simp -implicitDefEqProofs only [go_sem, Nat.reduceBEq, Nat.reduceAdd, eq_self, true_and, and_true, and_self, List.getElem?_cons_zero, List.getElem?_cons_succ, Nat.reduceLeDiff, Nat.zero_add, Nat.reduceSub, Nat.le_refl, Nat.lt_irrefl]
    refine y0 _ _ s6' fun Y y1 y2 y3 => ?_
    clear y0 Y0 hyy
    have b2 : Ext σ (t'.setA i0 r1) := ext_setA (s2.trans e6) (by omega)
    have b3 : (t'.setA i0 r1).objs[σ.objs.length]? = some (.cells [w2]) := (setA_ne (by omega)).trans (by rw [o6]; exact s3)
    have b6 : (t'.setA i0 r1).objs[i0]? = some r1 := setA_at s6'
    have hev : ∀ r : Nat, t.live[r]? = some true → (t'.setA i0 r1).live[r]? = some true := e6.live
    have hll : t.live.length ≤ (t'.setA i0 r1).live.length := e6.llen
    have hx2 : NewS t (t'.setA i0 r1) (.sl false (.own rx) 1 ex) 1 (intsV .i64 a.2.deps) := hx
    generalize t'.setA i0 r1 = t2 at b2 hev hll b3 b6 hx2 ⊢
    have hsl := s2.llen
    have hcl := cgsV_len O2
    have hbl := (List.getElem?_eq_some_iff.1 b3).1
    obtain ⟨ad, ag⟩ := a
    simp only at hx2 s1
    have fin : ∀ (F : Fr) (L : List Bool) (w3 : V) (O3 : List (V × Cg)), Ext σ ⟨t2.objs, L⟩ → FrC σ.live.length ⟨t2.objs, L⟩ w3 O3 → O3.map (·.2) = D.map (·.2) ++ [ag] → Y .normal F ((⟨t2.objs, L⟩ : St).setC σ.objs.length [w3]) := fun F L w3 O3 f1 f2 f3 => by
      have f4 : ((⟨t2.objs, L⟩ : St).setC σ.objs.length [w3]).objs[i0]? = some r1 := (setC_ne (by omega)).trans b6
      exact y1 _ _ f4 (.inl ⟨rfl, D ++ [(ad, ag)], O3, w3, by rw [s1]; simp, ext_setA (ext_set f1 (Nat.le_refl _)) (by omega), (setA_ne (by omega)).trans (setC_get hbl), f2.keep fun _ _ h => h, by rw [f3, List.map_append]; rfl, setA_at f4⟩)
    clear y1 y2 y3
    rcases s4.1 with ⟨rfl, z', rfl⟩ | ⟨q, rfl, q1', q2', -⟩
    · have hfa := FrC.app0' (lo := σ.live.length) hll hx2 hsl
      simp -implicitDefEqProofs only [go_sem, Nat.reduceBEq, Nat.reduceAdd, eq_self, true_and, and_true, and_self, List.getElem?_cons_zero, List.getElem?_cons_succ, Nat.reduceLeDiff, Nat.zero_add, Nat.reduceSub, Nat.le_refl, b3, flats, V.flat]
      refine ⟨⟨.inl trivial, rfl, .inr (live_last _ _), .inl trivial⟩, ?_⟩
      exact fin _ _ _ [(_, ag)] (ext_push (ext_push b2)) hfa (by rw [← s5]; rfl)
    · have hfa := FrC.app' (lo := σ.live.length) s4 hev hll hx2 hsl
      simp -implicitDefEqProofs only [go_sem, Nat.reduceBEq, Nat.reduceAdd, eq_self, true_and, and_true, and_self, List.getElem?_cons_zero, List.getElem?_cons_succ, Nat.reduceLeDiff, Nat.zero_add, Nat.reduceSub, Nat.le_refl, b3, flats, V.flat]
      refine ⟨⟨.inr trivial, .inr ((ext_live _ _).live _ (hev _ q1')), ⟨.inr (live_last _ _), .inl trivial⟩, by omega⟩, ?_⟩
      exact fin _ _ _ (O2 ++ [(_, ag)]) (ext_kill (ext_push b2) q2') hfa (by rw [List.map_append, s5]; rfl)
  · rintro t ⟨D, O2, w2, s1, s2, s3, s4, s5, s6⟩
    rw [List.append_nil] at s1
    subst s1
    exact ⟨s6, s2, w2, O2, s3, s4, s5⟩
  · rintro v t ⟨h1, h2, w2, O2, h3, h4, h5⟩
    refine .inl ⟨h1, ?_⟩
    have h3' : (t.setA i0 (r3 .normal)).objs[σ.objs.length]? = _ := (setA_ne (by omega)).trans h3
    have hcell : cellsOf w2 = some [w2] := by rcases h4.1 with ⟨-, z, rfl⟩ | ⟨q, rfl, -⟩ <;> rfl
    simp -implicitDefEqProofs only [go_sem, Nat.reduceBEq, Nat.reduceAdd, eq_self, true_and, and_true, and_self, List.getElem?_cons_zero, List.getElem?_cons_succ, Nat.reduceLeDiff, Nat.zero_add, Nat.reduceSub, Nat.le_refl, h3', hcell]
    refine q2 _ _ ?_
    simp -implicitDefEqProofs only [go_sem, Nat.reduceBEq, Nat.reduceAdd, eq_self, true_and, and_true, and_self, List.getElem?_cons_zero, List.getElem?_cons_succ, Nat.reduceLeDiff, Nat.zero_add, Nat.reduceSub, Nat.le_refl, Nat.lt_irrefl]
    exact ⟨⟨O2, h4.keep fun _ _ h => h, h5⟩, ext_setA h2 (by omega)⟩
set_option maxRecDepth 100000 in
theorem coll_ok {lo : Nat} (hj : σ.objs[j]? = some (.cells [w])) (hF : FrC lo σ w O) (hO : O.length ≤ 1000000) (hOd : ∀ p ∈ O, p.2.deps.length ≤ 2000000) :
    CallA Try.prog 55 [.fn 46 [.ptr (some (j, 0))]] σ fun v σ' => NewC σ σ' v (O.map (·.2)) ∧ Ext σ σ' := by
  refine fn_at Try.func55 (by decide) comp55 rfl fun Q q1 q2 => ?_
  simp -implicitDefEqProofs only [go_sem, Nat.reduceBEq, Nat.reduceAdd, eq_self, true_and, and_true, and_self, List.getElem?_cons_zero, List.getElem?_cons_succ, Nat.reduceLeDiff, Nat.zero_add, Nat.reduceSub, Nat.le_refl, c55]
  refine call_at (aseq_ok hj hF hO hOd) ?_
  rintro v τ ⟨h1, h2⟩
  refine ⟨kept_none, ?_⟩
  simp -implicitDefEqProofs only [go_sem, Nat.reduceBEq, Nat.reduceAdd, eq_self, true_and, and_true, and_self, List.getElem?_cons_zero, List.getElem?_cons_succ, Nat.reduceLeDiff, Nat.zero_add, Nat.reduceSub, Nat.le_refl, Nat.lt_irrefl]
  refine q2 _ _ ?_
  simp -implicitDefEqProofs only [go_sem, Nat.reduceBEq, Nat.reduceAdd, eq_self, true_and, and_true, and_self, List.getElem?_cons_zero, List.getElem?_cons_succ, Nat.reduceLeDiff, Nat.zero_add, Nat.reduceSub, Nat.le_refl, Nat.lt_irrefl]
  exact ⟨h1, h2⟩
theorem EachIs.od {σ τ : St} {L : List Cg} {O : List (V × Cg)} (h : O.map (·.2) = L) (hd : ∀ g ∈ L, g.deps.length ≤ 2000000) : ∀ p ∈ O, p.2.deps.length ≤ 2000000 := fun p hp => hd _ (by rw [← h]; exact List.mem_map_of_mem hp)
theorem Good.all {L : List Cg} (h : Good L) : eachL L [] = L := by
  unfold eachL
  rw [show decide (clockI [] = 0) = true from rfl]
  show allR L [] = L
  unfold allR
  rw [List.filter_eq_self]
  intro g hg
  have := (chk_has (h.chk g hg)).2.1
  have h0 : atD [] g.ar = 0 := by unfold atD; simp
  unfold inC
  rw [h0, Bool.not_eq_true', decide_eq_false_iff_not]
  omega
theorem NewC.pre {σ τ σ' : St} {v : V} {L : List Cg} (h : NewC τ σ' v L) (he : Ext σ τ) : NewC σ σ' v L := by
  obtain ⟨O, h1, h2⟩ := h
  exact ⟨O, h1.mono he.llen, h2⟩
set_option maxRecDepth 100000 in
theorem all_at (hE : CallA Try.prog 13 [p, .sl true .pub 0 []] σ fun v σ' => EachIs σ σ' v L ∧ Ext σ σ') (hL : L.length ≤ 1000000) (hd : ∀ g ∈ L, g.deps.length ≤ 2000000) :
    CallA Try.prog 25 [p] σ fun v σ' => NewC σ σ' v L ∧ Ext σ σ' := by
  refine fn_at Try.func25 (by decide) comp25 rfl fun Q q1 q2 => ?_
  simp -implicitDefEqProofs only [go_sem, Nat.reduceBEq, Nat.reduceAdd, eq_self, true_and, and_true, and_self, List.getElem?_cons_zero, List.getElem?_cons_succ, Nat.reduceLeDiff, Nat.zero_add, Nat.reduceSub, Nat.le_refl, c25]
  refine call_at hE ?_
  rintro v τ ⟨⟨j, w, O, rfl, hj, hw, hF, hO⟩, e1⟩
  refine ⟨kept_none, ?_⟩
  have hOl : O.length ≤ 1000000 := by rw [← hO, List.length_map] at hL; exact hL
  simp -implicitDefEqProofs only [go_sem, Nat.reduceBEq, Nat.reduceAdd, eq_self, true_and, and_true, and_self, List.getElem?_cons_zero, List.getElem?_cons_succ, Nat.reduceLeDiff, Nat.zero_add, Nat.reduceSub, Nat.le_refl, Nat.lt_irrefl]
  refine call_at (coll_ok hw hF hOl (EachIs.od (σ := σ) (τ := τ) hO hd)) ?_
  rintro v τ2 ⟨h1, h2⟩
  refine ⟨kept_none, ?_⟩
  simp -implicitDefEqProofs only [go_sem, Nat.reduceBEq, Nat.reduceAdd, eq_self, true_and, and_true, and_self, List.getElem?_cons_zero, List.getElem?_cons_succ, Nat.reduceLeDiff, Nat.zero_add, Nat.reduceSub, Nat.le_refl, Nat.lt_irrefl]
  refine q2 _ _ ?_
  simp -implicitDefEqProofs only [go_sem, Nat.reduceBEq, Nat.reduceAdd, eq_self, true_and, and_true, and_self, List.getElem?_cons_zero, List.getElem?_cons_succ, Nat.reduceLeDiff, Nat.zero_add, Nat.reduceSub, Nat.le_refl, Nat.lt_irrefl]
  rw [hO] at h1
  exact ⟨h1.pre e1, e1.trans h2⟩
theorem all_ok (h : LogIs σ i mo s ov room P) (hl : P.length ≤ 1000000) : CallA Try.prog 25 [.ptr (some (i, 0))] σ fun v σ' => NewC σ σ' v (cgL P) ∧ Ext σ σ' := by
  have hk : RdS σ (.sl true .pub 0 []) 1 (intsV .i64 []) := ⟨_, _, _, rfl, fun _ => rfl, .inl rfl⟩
  have := each_ok h hl hk
  rw [h.good.all] at this
  exact all_at this (by rw [map2_len]; exact hl) fun g hg => by have := h.good.deps g hg; omega
theorem all_nil : CallA Try.prog 25 [.ptr none] σ fun v σ' => NewC σ σ' v [] ∧ Ext σ σ' := all_at each_nil (by simp) fun g hg => by cases hg
/-- What Since answers. -/
def sinceP (L : List Cg) (k : List Int) (most : Int) : List Cg := bif decide (sinceI k most = 0) then L.take most.toNat else []
def sinceQ (L : List Cg) (k : List Int) (most : Int) : Bool := decide (sinceI k most = 0) && decide ((L.length : Int) > most)
theorem set3 {τ : St} {a b c : Nat} (ha : a < b) (hb : b < c) {x y z : V} (h1 : τ.objs[a]? = some (.cells [x])) (h2 : τ.objs[b]? = some (.cells [y])) (h3 : τ.objs[c]? = some (.cells [z])) (u v w : V) :
    (τ.setC a [u]).objs[b]? = some (.cells [y]) ∧ ((τ.setC a [u]).setC b [v]).objs[c]? = some (.cells [z]) ∧ (((τ.setC a [u]).setC b [v]).setC c [w]).objs[a]? = some (.cells [u]) ∧ (((τ.setC a [u]).setC b [v]).setC c [w]).objs[b]? = some (.cells [v]) ∧ (((τ.setC a [u]).setC b [v]).setC c [w]).objs[c]? = some (.cells [w]) := by
  have la := (List.getElem?_eq_some_iff.1 h1).1
  have lb := (List.getElem?_eq_some_iff.1 h2).1
  have lc := (List.getElem?_eq_some_iff.1 h3).1
  have e1 : (τ.setC a [u]).objs.length = τ.objs.length := by show (τ.objs.set _ _).length = _; rw [List.length_set]
  have e2 : ((τ.setC a [u]).setC b [v]).objs.length = τ.objs.length := by show ((τ.setC a [u]).objs.set _ _).length = _; rw [List.length_set, e1]
  refine ⟨?_, ?_, ?_, ?_, ?_⟩
  · rw [setC_ne (by omega)]; exact h2
  · rw [setC_ne (by omega), setC_ne (by omega)]; exact h3
  · rw [setC_ne (by omega), setC_ne (by omega)]; exact setC_get la
  · rw [setC_ne (by omega)]; exact setC_get (by omega)
  · exact setC_get (by omega)
theorem updS_setA {τ : St} {i : Nat} {o : AObj} : UpdS (fun k => k = i) τ (τ.setA i o) := by
  refine ⟨fun j x hj hx => ?_, fun _ h => h, ?_, Nat.le_refl _⟩
  · rw [setA_ne hj]; exact hx
  · show _ ≤ (τ.objs.set _ _).length
    rw [List.length_set]; exact Nat.le_refl _
theorem ext_set3 {σ τ : St} {a b c : Nat} (h : Ext σ τ) (ha : σ.objs.length ≤ a) (hb : a < b) (hc : b < c) (u v w : V) : Ext σ (((τ.setC a [u]).setC b [v]).setC c [w]) := ext_set (ext_set (ext_set h ha) (by omega)) (by omega)
set_option maxRecDepth 100000 in
set_option maxHeartbeats 4000000 in
theorem psince_ok (hE : clockI k = 0 → ∀ τ, Ext σ τ → CallA Try.prog 13 [p, kv] τ fun v σ' => EachIs τ σ' v L ∧ Ext τ σ') (hL : L.length ≤ 1000000) (hd : ∀ g ∈ L, g.deps.length ≤ 2000000) (hk : RdS σ kv 1 (intsV .i64 k)) :
    CallA Try.prog 31 [p, kv, .int .i64 most] σ fun v σ' => (∃ a, v = .tup [a, .bool (sinceQ L k most), .int .i64 (sinceI k most)] ∧ NewC σ σ' a (sinceP L k most)) ∧ Ext σ σ' := by
  refine fn_at Try.func31 (by decide) comp31 rfl fun Q q1 q2 => ?_
  unfold sinceQ sinceP at q1 q2
  simp -implicitDefEqProofs only [go_sem, Nat.reduceBEq, Nat.reduceAdd, eq_self, true_and, and_true, and_self, List.getElem?_cons_zero, List.getElem?_cons_succ, Nat.reduceLeDiff, Nat.zero_add, Nat.reduceSub, Nat.le_refl, c31]
  have e0 : Ext σ (⟨σ.objs ++ [.cells [.int .i64 most]] ++ [.cells [.sl true .pub 0 []]] ++ [.cells [.bool false]] ++ [.cells [.int .i64 0]], σ.live⟩ : St) := (((ext_obj _ _).trans (ext_obj _ _)).trans (ext_obj _ _)).trans (ext_obj _ _)
  have h5 : (⟨σ.objs ++ [.cells [.int .i64 most]] ++ [.cells [.sl true .pub 0 []]] ++ [.cells [.bool false]] ++ [.cells [.int .i64 0]], σ.live⟩ : St).objs[σ.objs.length]? = some (.cells [.int .i64 most]) := by simp
  have h6 : (⟨σ.objs ++ [.cells [.int .i64 most]] ++ [.cells [.sl true .pub 0 []]] ++ [.cells [.bool false]] ++ [.cells [.int .i64 0]], σ.live⟩ : St).objs[σ.objs.length + 1]? = some (.cells [.sl true .pub 0 []]) := by simp
  have h7 : (⟨σ.objs ++ [.cells [.int .i64 most]] ++ [.cells [.sl true .pub 0 []]] ++ [.cells [.bool false]] ++ [.cells [.int .i64 0]], σ.live⟩ : St).objs[σ.objs.length + 2]? = some (.cells [.bool false]) := by simp
  have h8 : (⟨σ.objs ++ [.cells [.int .i64 most]] ++ [.cells [.sl true .pub 0 []]] ++ [.cells [.bool false]] ++ [.cells [.int .i64 0]], σ.live⟩ : St).objs[σ.objs.length + 3]? = some (.cells [.int .i64 0]) := by simp
  have hl0 : (⟨σ.objs ++ [.cells [.int .i64 most]] ++ [.cells [.sl true .pub 0 []]] ++ [.cells [.bool false]] ++ [.cells [.int .i64 0]], σ.live⟩ : St).objs.length = σ.objs.length + 4 := by simp
  generalize (⟨σ.objs ++ [.cells [.int .i64 most]] ++ [.cells [.sl true .pub 0 []]] ++ [.cells [.bool false]] ++ [.cells [.int .i64 0]], σ.live⟩ : St) = τ0 at e0 h5 h6 h7 h8 hl0 ⊢
  simp only [List.length_append, List.length_cons, List.length_nil, Nat.zero_add, Nat.add_assoc, Nat.reduceAdd]
  have nilC : ∀ τ : St, NewC σ τ (.sl true .pub 0 []) [] := fun τ => ⟨[], FrC.nil _ _ _, rfl⟩
  refine call_at (clock_ok (hk.ext e0)) ?_
  rintro w τ ⟨hτ, rfl⟩
  have hτ := hτ.symm
  subst hτ
  refine ⟨kept_none, ?_⟩
  cases hc : decide (clockI k = 0)
  · have hs : sinceI k most = clockI k := by unfold sinceI; rw [hc]; rfl
    rw [hs, hc] at q2
    obtain ⟨s1, s2, s3, s4, s5⟩ := set3 (by omega) (by omega) h6 h7 h8 (.sl true .pub 0 []) (.bool false) (.int .i64 (clockI k))
    simp -implicitDefEqProofs only [go_sem, Nat.reduceBEq, Nat.reduceAdd, eq_self, true_and, and_true, and_self, List.getElem?_cons_zero, List.getElem?_cons_succ, Nat.reduceLeDiff, Nat.zero_add, Nat.reduceSub, Nat.le_refl, hc, Bool.not_false, h5, h6, h7, h8, s1, s2]
    refine q2 _ _ ?_
    simp -implicitDefEqProofs only [go_sem, Nat.reduceBEq, Nat.reduceAdd, eq_self, true_and, and_true, and_self, List.getElem?_cons_zero, List.getElem?_cons_succ, Nat.reduceLeDiff, Nat.zero_add, Nat.reduceSub, Nat.le_refl, s3, s4, s5]
    exact ⟨⟨_, rfl, nilC _⟩, ext_set3 e0 (by omega) (by omega) (by omega) _ _ _⟩
  have hc0 := of_decide_eq_true hc
  cases hm : decide (most < 1)
  case true =>
    have hs : sinceI k most = 1 := by unfold sinceI; rw [hc, hm]; rfl
    rw [hs] at q2
    obtain ⟨s1, s2, s3, s4, s5⟩ := set3 (by omega) (by omega) h6 h7 h8 (.sl true .pub 0 []) (.bool false) (.int .i64 1)
    simp -implicitDefEqProofs only [go_sem, Nat.reduceBEq, Nat.reduceAdd, eq_self, true_and, and_true, and_self, List.getElem?_cons_zero, List.getElem?_cons_succ, Nat.reduceLeDiff, Nat.zero_add, Nat.reduceSub, Nat.le_refl, hc, Bool.not_true, h5, h6, h7, h8, hm, s1, s2]
    refine q2 _ _ ?_
    simp -implicitDefEqProofs only [go_sem, Nat.reduceBEq, Nat.reduceAdd, eq_self, true_and, and_true, and_self, List.getElem?_cons_zero, List.getElem?_cons_succ, Nat.reduceLeDiff, Nat.zero_add, Nat.reduceSub, Nat.le_refl, s3, s4, s5]
    exact ⟨⟨_, rfl, nilC _⟩, ext_set3 e0 (by omega) (by omega) (by omega) _ _ _⟩
  have hm1 : 1 ≤ most := by have := of_decide_eq_false hm; omega
  have hs : sinceI k most = 0 := by unfold sinceI; rw [hc, hm]; rfl
  rw [hs] at q1 q2
  simp only [decide_true, Bool.true_and, cond_true] at q1 q2
  simp -implicitDefEqProofs only [go_sem, Nat.reduceBEq, Nat.reduceAdd, eq_self, true_and, and_true, and_self, List.getElem?_cons_zero, List.getElem?_cons_succ, Nat.reduceLeDiff, Nat.zero_add, Nat.reduceSub, Nat.le_refl, hc, Bool.not_true, h5, hm]
  have e1 := e0.trans (ext_obj τ0 (.cells [.sl true .pub 0 []]))
  have g5 := (ext_obj τ0 (.cells [.sl true .pub 0 []])).objs _ _ h5
  have g6 := (ext_obj τ0 (.cells [.sl true .pub 0 []])).objs _ _ h6
  have g7 := (ext_obj τ0 (.cells [.sl true .pub 0 []])).objs _ _ h7
  have g8 := (ext_obj τ0 (.cells [.sl true .pub 0 []])).objs _ _ h8
  have g10 : (⟨τ0.objs ++ [.cells [.sl true .pub 0 []]], τ0.live⟩ : St).objs[σ.objs.length + 4]? = some (.cells [.sl true .pub 0 []]) := by rw [← hl0]; simp
  rw [hl0]
  generalize (⟨τ0.objs ++ [.cells [.sl true .pub 0 []]], τ0.live⟩ : St) = τ1 at e1 g5 g6 g7 g8 g10 ⊢
  clear h5 h6 h7 h8
  refine call_at (hE hc0 _ e1) ?_
  rintro v τ2 ⟨⟨j, w, O, rfl, hj, hw, hF, hO⟩, e2⟩
  refine ⟨kept_none, ?_⟩
  have hOl : O.length ≤ 1000000 := by rw [← hO, List.length_map] at hL; exact hL
  have hOd := EachIs.od (σ := σ) (τ := τ2) hO hd
  have e3 := e1.trans e2
  have k5 := e2.objs _ _ g5
  have k6 := e2.objs _ _ g6
  have k7 := e2.objs _ _ g7
  have k8 := e2.objs _ _ g8
  have k10 := e2.objs _ _ g10
  have hn10 := (List.getElem?_eq_some_iff.1 k10).1
  clear g5 g6 g7 g8 g10
  simp -implicitDefEqProofs only [go_sem, Nat.reduceBEq, Nat.reduceAdd, eq_self, true_and, and_true, and_self, List.getElem?_cons_zero, List.getElem?_cons_succ, Nat.reduceLeDiff, Nat.zero_add, Nat.reduceSub, Nat.le_refl, Nat.lt_irrefl]
  refine range_at ?_
  intro yl i0 r0 r1 r2 r3 hi hyy
  have e5 := ext_obj τ2 r0
  have hr0 : (⟨τ2.objs ++ [r0], τ2.live⟩ : St).objs[i0]? = some r0 := by rw [← hi]; simp
  have hF2 := hF.ext e5
  refine CallA.mono (each1_ok (O := O)
    (fun R t => ∃ D O2 w2, O = D ++ R ∧ UpdS (fun j => j = σ.objs.length + 4) τ2 t ∧ t.objs[σ.objs.length + 4]? = some (.cells [w2]) ∧ FrC τ2.live.length t w2 O2 ∧ O2.map (·.2) = D.map (·.2) ∧ D.length ≤ most.toNat ∧ t.objs[i0]? = some r0)
    (fun t => Ext σ t ∧ ((t.objs[i0]? = some r0 ∧ UpdS (fun j => j = σ.objs.length + 4) τ2 t ∧ ∃ w2 O2, t.objs[σ.objs.length + 4]? = some (.cells [w2]) ∧ FrC σ.live.length t w2 O2 ∧ O2.map (·.2) = L ∧ L.length ≤ most.toNat) ∨
      (t.objs[i0]? = some (r2 .ret) ∧ ∃ w2 O2, t.objs[σ.objs.length + 1]? = some (.cells [w2]) ∧ t.objs[σ.objs.length + 2]? = some (.cells [.bool true]) ∧ t.objs[σ.objs.length + 3]? = some (.cells [.int .i64 0]) ∧ FrC σ.live.length t w2 O2 ∧ O2.map (·.2) = L.take most.toNat ∧ most.toNat < L.length)))
    (e5.objs _ _ hw) hF2.rdS hOl hOd ?_ ?_ ?_ ?_) ?_
  · exact ⟨[], [], _, rfl, .of e5, e5.objs _ _ k10, FrC.nil _ _ _, rfl, Nat.zero_le _, hr0⟩
  · rintro R t ⟨D, O2, w2, s1, s2, -⟩
    have := hF.keep (τ' := t) fun r _ => s2.live r
    exact ⟨this.rdS, this.rds⟩
  · rintro a R t t' x ⟨D, O2, w2, s1, s2, s3, s4, s5, s6, s7⟩ e6 o6 hx
    have hOl2 : O2.length = D.length := by
      have := congrArg List.length s5
      rwa [map2_len, map2_len] at this
    have hDO : D.length < O.length := by rw [s1]; simp
    have s7' : t'.objs[i0]? = some r0 := by rw [o6]; exact s7
    refine hyy t' _ _ s7' rfl fun Y0 y0 => ?_
    simp -implicitDefEqProofs only [go_sem, Nat.reduceBEq, Nat.reduceAdd, eq_self, true_and, and_true, and_self, List.getElem?_cons_zero, List.getElem?_cons_succ, Nat.reduceLeDiff, Nat.zero_add, Nat.reduceSub, Nat.le_refl, rndF, setPs, dropL, cgV, cgC]
    have hxx : ∃ q es, x = .sl false (.own q) 1 es := by obtain ⟨r, rfl, -⟩ := hx; exact ⟨_, _, rfl⟩
    obtain ⟨rx, ex, rfl⟩ := hxx
    simp -implicitDefEqProofs only [go_sem, Nat.reduceBEq, Nat.reduceAdd, eq_self, true_and, and_true, and_self, List.getElem?_cons_zero, List.getElem?_cons_succ, Nat.reduceLeDiff, Nat.zero_add, Nat.reduceSub, Nat.le_refl, Nat.lt_irrefl]
    refine y0 _ _ s7' fun Y y1 y2 y3 => ?_
    clear y0 Y0 hyy
    have hu2 : UpdS (fun j => j = σ.objs.length + 4) τ2 (t'.setA i0 r1) := (s2.trans (.of (S := fun j => j = i0) e6) fun j hj => .inr (by omega)).trans updS_setA fun j hj => .inr (by omega)
    have b3 : (t'.setA i0 r1).objs[σ.objs.length + 4]? = some (.cells [w2]) := (setA_ne (by omega)).trans (by rw [o6]; exact s3)
    have b7 : (t'.setA i0 r1).objs[i0]? = some r1 := setA_at s7'
    have hev : ∀ r : Nat, t.live[r]? = some true → (t'.setA i0 r1).live[r]? = some true := e6.live
    have hll : t.live.length ≤ (t'.setA i0 r1).live.length := e6.llen
    have hx2 : NewS t (t'.setA i0 r1) (.sl false (.own rx) 1 ex) 1 (intsV .i64 a.2.deps) := hx
    generalize t'.setA i0 r1 = t2 at hu2 hev hll b3 b7 hx2 ⊢
    have hsl := s2.llen
    have hcl := cgsV_len O2
    have hbl := (List.getElem?_eq_some_iff.1 b3).1
    have m5 := hu2.objs _ _ (by omega) k5
    have m6 := hu2.objs _ _ (by omega) k6
    have m7 := hu2.objs _ _ (by omega) k7
    have m8 := hu2.objs _ _ (by omega) k8
    obtain ⟨ad, ag⟩ := a
    simp only at hx2 s1
    have hLO : L = O.map (·.2) := hO.symm
    have hLl : L.length = O.length := by rw [hLO, map2_len]
    cases hq : decide ((O2.length : Int) = most)
    · have hne := of_decide_eq_false hq
      have fin : ∀ (F : Fr) (Lv : List Bool) (w3 : V) (O3 : List (V × Cg)), (∀ r : Nat, τ2.live[r]? = some true → Lv[r]? = some true) → τ2.live.length ≤ Lv.length → FrC τ2.live.length ⟨t2.objs, Lv⟩ w3 O3 → O3.map (·.2) = D.map (·.2) ++ [ag] → Y .normal F ((⟨t2.objs, Lv⟩ : St).setC (σ.objs.length + 4) [w3]) := fun F Lv w3 O3 f0 f1 f2 f3 => by
        have f4 : ((⟨t2.objs, Lv⟩ : St).setC (σ.objs.length + 4) [w3]).objs[i0]? = some r1 := (setC_ne (by omega)).trans b7
        have u0 : UpdS (fun j => j = σ.objs.length + 4) τ2 ⟨t2.objs, Lv⟩ := ⟨hu2.objs, f0, hu2.olen, f1⟩
        exact y1 _ _ f4 (.inl ⟨rfl, D ++ [(ad, ag)], O3, w3, by rw [s1]; simp, (u0.trans updS_setC fun j hj => .inl hj).trans updS_setA fun j hj => .inr (by omega), (setA_ne (by omega)).trans (setC_get hbl), f2.keep fun _ _ h => h, by rw [f3, List.map_append]; rfl, by simp only [List.length_append, List.length_singleton]; omega, setA_at f4⟩)
      clear y1 y2 y3
      rcases s4.1 with ⟨rfl, z', rfl⟩ | ⟨q, rfl, q1', q2', -⟩
      · have hfa := FrC.app0' (lo := τ2.live.length) hll hx2 hsl
        have hq0 : decide (((0 : Nat) : Int) = most) = false := hq
        simp -implicitDefEqProofs only [go_sem, Nat.reduceBEq, Nat.reduceAdd, eq_self, true_and, and_true, and_self, List.getElem?_cons_zero, List.getElem?_cons_succ, Nat.reduceLeDiff, Nat.zero_add, Nat.reduceSub, Nat.le_refl, b3, m5, hq0, flats, V.flat]
        refine ⟨⟨.inl trivial, rfl, .inr (live_last _ _), .inl trivial⟩, ?_⟩
        exact fin _ _ _ [(_, ag)] (fun r hr => (ext_push (ext_push (Ext.refl t2))).live r (hu2.live r hr)) (by have := hu2.llen; show _ ≤ (t2.live ++ [true] ++ [true]).length; simp only [List.length_append, List.length_singleton]; omega) hfa (by rw [← s5]; rfl)
      · have hfa := FrC.app' (lo := τ2.live.length) s4 hev hll hx2 hsl
        simp -implicitDefEqProofs only [go_sem, Nat.reduceBEq, Nat.reduceAdd, eq_self, true_and, and_true, and_self, List.getElem?_cons_zero, List.getElem?_cons_succ, Nat.reduceLeDiff, Nat.zero_add, Nat.reduceSub, Nat.le_refl, b3, m5, hcl, hq, flats, V.flat]
        refine ⟨⟨.inr trivial, .inr ((ext_live _ _).live _ (hev _ q1')), ⟨.inr (live_last _ _), .inl trivial⟩, by omega⟩, ?_⟩
        exact fin _ _ _ (O2 ++ [(_, ag)]) (fun r hr => (ext_kill (σ := ⟨[], τ2.live⟩) (σ' := ⟨[], t2.live ++ [true]⟩) (ext_push (σ := ⟨[], τ2.live⟩) (σ' := ⟨[], t2.live⟩) ⟨fun j o h => absurd h (by simp), hu2.live, Nat.le_refl _, hu2.llen⟩) q2').live r hr) (by have := hu2.llen; simp only [kill, List.length_append, List.length_singleton, List.length_set]; omega) hfa (by rw [List.map_append, s5]; rfl)
    · have heq := of_decide_eq_true hq
      clear y1 y2
      obtain ⟨p1, p2, p3, p4, p5⟩ := set3 (by omega) (by omega) m6 m7 m8 w2 (.bool true) (.int .i64 0)
      have ee : Ext σ t2 := hu2.toExt e3 fun j hj => by omega
      have f4 : (((t2.setC (σ.objs.length + 1) [w2]).setC (σ.objs.length + 2) [.bool true]).setC (σ.objs.length + 3) [.int .i64 0]).objs[i0]? = some r1 := by
        rw [setC_ne (by omega), setC_ne (by omega), setC_ne (by omega)]; exact b7
      have fin := fun F => y3 F _ f4 (.inr ⟨rfl, ext_setA (ext_set3 ee (by omega) (by omega) (by omega) _ _ _) (by omega), .inr ⟨setA_at f4, w2, O2, (setA_ne (by omega)).trans p3, (setA_ne (by omega)).trans p4, (setA_ne (by omega)).trans p5, (s4.keep fun r _ => hev r).mono e3.llen, by rw [s5, hLO, s1, List.map_append, List.take_left' (by rw [map2_len]; omega)], by omega⟩⟩)
      clear y3
      rcases s4.1 with ⟨rfl, z', rfl⟩ | ⟨q, rfl, -⟩
      · have hq0 : decide (((0 : Nat) : Int) = most) = true := hq
        simp -implicitDefEqProofs only [go_sem, Nat.reduceBEq, Nat.reduceAdd, eq_self, true_and, and_true, and_self, List.getElem?_cons_zero, List.getElem?_cons_succ, Nat.reduceLeDiff, Nat.zero_add, Nat.reduceSub, Nat.le_refl, b3, m5, m6, m7, m8, p1, p2, hq0, flats, V.flat]
        exact fin _
      · simp -implicitDefEqProofs only [go_sem, Nat.reduceBEq, Nat.reduceAdd, eq_self, true_and, and_true, and_self, List.getElem?_cons_zero, List.getElem?_cons_succ, Nat.reduceLeDiff, Nat.zero_add, Nat.reduceSub, Nat.le_refl, b3, m5, m6, m7, m8, p1, p2, hcl, hq, flats, V.flat]
        exact fin _
  · rintro t ⟨D, O2, w2, s1, s2, s3, s4, s5, s6, s7⟩
    rw [List.append_nil] at s1
    subst s1
    refine ⟨?_, .inl ⟨s7, s2, w2, O2, s3, s4.mono e3.llen, s5.trans hO, by rw [← hO, map2_len]; exact s6⟩⟩
    exact s2.toExt e3 fun j hj => by omega
  · rintro v t ⟨h1, ⟨h2, h3, w2, O2, h4, h5, h6, h7⟩ | ⟨h2, w2, O2, h3, h4, h5, h6, h7, h8⟩⟩
    · refine .inl ⟨h2, ?_⟩
      have u3 : UpdS (fun j => j = σ.objs.length + 4) τ2 (t.setA i0 (r3 .normal)) := h3.trans updS_setA fun j hj => .inr (by omega)
      have m6 := u3.objs _ _ (by omega) k6
      have m7 := u3.objs _ _ (by omega) k7
      have m8 := u3.objs _ _ (by omega) k8
      have m10 : (t.setA i0 (r3 .normal)).objs[σ.objs.length + 4]? = some (.cells [w2]) := (setA_ne (by omega)).trans h4
      have ee : Ext σ (t.setA i0 (r3 .normal)) := ext_setA h1 (by omega)
      obtain ⟨s1, s2, s3, s4, s5⟩ := set3 (by omega) (by omega) m6 m7 m8 w2 (.bool false) (.int .i64 0)
      rw [show decide ((L.length : Int) > most) = false by rw [decide_eq_false_iff_not]; omega, List.take_of_length_le h7] at q1 q2
      have hfin := FrC.keep (τ' := ((((t.setA i0 (r3 .normal)).setC (σ.objs.length + 1) [w2]).setC (σ.objs.length + 2) [.bool false]).setC (σ.objs.length + 3) [.int .i64 0])) h5 fun _ _ h => h
      rcases h5.1 with ⟨-, z, rfl⟩ | ⟨q, rfl, -⟩
      all_goals
        simp -implicitDefEqProofs only [go_sem, Nat.reduceBEq, Nat.reduceAdd, eq_self, true_and, and_true, and_self, List.getElem?_cons_zero, List.getElem?_cons_succ, Nat.reduceLeDiff, Nat.zero_add, Nat.reduceSub, Nat.le_refl, m6, m7, m8, m10, s1, s2, flats, V.flat]
        refine q2 _ _ ?_
        simp -implicitDefEqProofs only [go_sem, Nat.reduceBEq, Nat.reduceAdd, eq_self, true_and, and_true, and_self, List.getElem?_cons_zero, List.getElem?_cons_succ, Nat.reduceLeDiff, Nat.zero_add, Nat.reduceSub, Nat.le_refl, s3, s4, s5]
        exact ⟨⟨_, rfl, O2, hfin, h6⟩, ext_set3 ee (by omega) (by omega) (by omega) _ _ _⟩
    · refine .inr ⟨.ret, by simp, h2, ?_⟩
      have m6 : (t.setA i0 (r3 .ret)).objs[σ.objs.length + 1]? = _ := (setA_ne (by omega)).trans h3
      have m7 : (t.setA i0 (r3 .ret)).objs[σ.objs.length + 2]? = _ := (setA_ne (by omega)).trans h4
      have m8 : (t.setA i0 (r3 .ret)).objs[σ.objs.length + 3]? = _ := (setA_ne (by omega)).trans h5
      rw [show decide ((L.length : Int) > most) = true by rw [decide_eq_true_eq]; omega] at q1 q2
      simp -implicitDefEqProofs only [go_sem, Nat.reduceBEq, Nat.reduceAdd, eq_self, true_and, and_true, and_self, List.getElem?_cons_zero, List.getElem?_cons_succ, Nat.reduceLeDiff, Nat.zero_add, Nat.reduceSub, Nat.le_refl, m6, m7, m8]
      refine q2 _ _ ?_
      simp -implicitDefEqProofs only [go_sem, Nat.reduceBEq, Nat.reduceAdd, eq_self, true_and, and_true, and_self, List.getElem?_cons_zero, List.getElem?_cons_succ, Nat.reduceLeDiff, Nat.zero_add, Nat.reduceSub, Nat.le_refl, m6, m7, m8]
      exact ⟨⟨_, rfl, O2, h6.keep fun _ _ h => h, h7⟩, ext_setA h1 (by omega)⟩
end
end Go.VL.opl

namespace Go.VL
open Go

section
variable {H : Type} {enc : TypeId × Value → H} {P : Program} {w w' : World} {base : Nat} {sp : Nat → Bool} {held : Bool}

theorem OldKept.same {W W' : World} (h : OldKept W W') {p : MemPlace} (hp : p.block < W.heap.size) : W.sameAt W' p := by
  have h1 : W.heap[p.block]? = some W.heap[p.block] := Array.getElem?_eq_getElem hp
  have h2 := h.heap _ _ h1
  cases p with
  | cell b off =>
    simp only [MemPlace.block] at h1 h2
    simp only [World.sameAt, World.cell?, h1, h2]
  | map b =>
    simp only [MemPlace.block] at h1 h2
    simp only [World.sameAt, h1, h2]

theorem trodAll_old : ∀ {ts : List TypeId} {vs : List Value} {ds : List (DataW H)} {ps : List MemPlace}, DataW.TrodAll enc P w base sp held ts vs ds ps → (∀ p ∈ ps, w.sameAt w' p) → DataW.TrodAll enc P w' base sp held ts vs ds ps
  | [], [], [], _, h, _ => h
  | _ :: _, _ :: _, _ :: _, _, ⟨p, q, ⟨n, h1⟩, h2, e⟩, hs =>
    ⟨p, q, ⟨n, DataW.trod_carry n _ _ _ h1 (fun x hx => hs x (by rw [e]; exact List.mem_append_left _ hx))⟩, trodAll_old h2 (fun x hx => hs x (by rw [e]; exact List.mem_append_right _ hx)), e⟩
end
end Go.VL

namespace Go.VL
open Go

/-- Cells that were there from the start. -/
theorem pub_cells {W : World} {a : Addr} {vs : List Value} (h : ∀ (i : Nat) v, vs[i]? = some v → W.cell? ⟨a.block, a.off + i, none⟩ = some v) : pubAt (g0 W) a.block a.off vs := by
  intro i v hv
  have hc := h i v hv
  simp only [g0, pubOf]
  unfold World.cell? at hc
  cases hb : W.heap[a.block]? with
  | none => rw [hb] at hc; cases hc
  | some o =>
    rw [hb] at hc
    cases o with
    | cells c e z => simpa using hc
    | _ => cases hc

theorem repE_ints {γ : G} (k : IntKind) : ∀ (zs : List Int), RepE γ 1 (intsV k zs) (zs.map fun n => Value.int k n)
  | [] => by simp [intsV, RepE]
  | z :: r => by
    simp only [intsV, List.map_cons, RepE]
    exact ⟨[.int k z], r.map fun n => Value.int k n, rfl, rfl, by simp only [RepL]; exact ⟨_, _, rfl, by simp only [Rep], rfl⟩, repE_ints k r, by simp [Value.oneCell']⟩

/-- A slice of numbers that was there. -/
theorem arg_ints {W : World} {k : IntKind} {a : Addr} {len cap : Nat} {zs : List Int} (hsp : a.spot = none) (hl : zs.length = len) (hc : len ≤ cap) (h : ∀ i, i < zs.length → W.cell? (a.add i) = some (.int k (zs.getD i 0))) :
    Rep (g0 W) (.sl false .pub 1 (intsV k zs)) (.slice (some a) len cap) := by
  simp only [Rep, intsV_length]
  refine ⟨a, cap, zs.map fun n => Value.int k n, by rw [hl], .inr hsp, by omega, pub_cells fun i v hv => ?_, repE_ints k zs⟩
  rw [List.getElem?_map] at hv
  cases hz : zs[i]? with
  | none => rw [hz] at hv; cases hv
  | some z =>
    rw [hz] at hv
    have hi := (List.getElem?_eq_some_iff.1 hz).1
    have := h i hi
    obtain ⟨b, o, s⟩ := a
    simp only at hsp
    subst hsp
    simp only [Option.map_some, Option.some.injEq] at hv
    subst hv
    have hd : zs.getD i 0 = z := by simp [List.getD, hz]
    rw [hd] at this
    rwa [add_spot rfl] at this

theorem repE_strs {γ : G} : ∀ (ss : List ByteArray), RepE γ 1 (ss.map fun s => [V.str s.data.toList]) (ss.map Value.string)
  | [] => by simp [RepE]
  | s :: r => by
    simp only [List.map_cons, RepE]
    exact ⟨[.string s], r.map Value.string, rfl, rfl, by simp only [RepL]; exact ⟨_, _, rfl, by simp only [Rep], rfl⟩, repE_strs r, by simp [Value.oneCell']⟩

/-- A slice of texts that was there. -/
theorem arg_strs {W : World} {a : Addr} {len cap : Nat} {ss : List ByteArray} (hsp : a.spot = none) (hl : ss.length = len) (hc : len ≤ cap) (h : ∀ i, i < ss.length → W.cell? (a.add i) = some (.string (ss.getD i ByteArray.empty))) :
    Rep (g0 W) (.sl false .pub 1 (ss.map fun s => [V.str s.data.toList])) (.slice (some a) len cap) := by
  simp only [Rep, List.length_map]
  refine ⟨a, cap, ss.map Value.string, by rw [hl], .inr hsp, by omega, pub_cells fun i v hv => ?_, repE_strs ss⟩
  rw [List.getElem?_map] at hv
  cases hz : ss[i]? with
  | none => rw [hz] at hv; cases hv
  | some z =>
    rw [hz] at hv
    have hi := (List.getElem?_eq_some_iff.1 hz).1
    have := h i hi
    obtain ⟨b, o, s⟩ := a
    simp only at hsp
    subst hsp
    simp only [Option.map_some, Option.some.injEq] at hv
    subst hv
    have hd : ss.getD i ByteArray.empty = z := by simp [List.getD, hz]
    rw [hd] at this
    rwa [add_spot rfl] at this
end Go.VL

namespace Go.VL
open Go Go.ChangeShapes Go.WideShapes Go.ChangeAt Go.RowKit

/-- Shapes of what is read. -/
inductive T where
  | int (k : IntKind)
  | bool
  | str
  | sl (s : Nat) (e : T)
  | agg (l : List T)
  | arr (n : Nat) (e : T)

def tysOf (P : Program) (f : TypeId → Option T) (all : Nat) : Nat → List Field → Option (List T)
  | o, [] => bif Nat.beq o all then some [] else none
  | o, x :: r => bif Nat.beq x.offset o then (match f x.type, tysOf P f all (o + P.cellsOf x.type) r with
    | some a, some b => some (a :: b)
    | _, _ => none) else none
/-- A type's shape. -/
def tyOf (P : Program) : Nat → TypeId → Option T
  | 0, _ => none
  | n + 1, t => match P.underlying t with
    | some (.int k) => bif Nat.beq (P.cellsOf t) 1 then some (.int k) else none
    | some .bool => bif Nat.beq (P.cellsOf t) 1 then some .bool else none
    | some .string => bif Nat.beq (P.cellsOf t) 1 then some .str else none
    | some (.slice e) => bif Nat.beq (P.cellsOf t) 1 && Nat.ble 1 (P.cellsOf e) then (tyOf P n e).map (.sl (P.cellsOf e)) else none
    | some (.struct fs) => (tysOf P (tyOf P n) (P.cellsOf t) 0 fs.toList).map .agg
    | some (.array m e) => bif Nat.beq (P.cellsOf t) (m * P.cellsOf e) then (tyOf P n e).map (.arr m) else none
    | _ => none

mutual
/-- Cells of a shape. -/
def T.has : T → List V → Prop
  | .int k, xs => ∃ n, xs = [.int k n] ∧ (Lit.int k n).wf = true
  | .bool, xs => ∃ b, xs = [.bool b]
  | .str, xs => ∃ s, xs = [.str s]
  | .sl s e, xs => xs = [.sl true .pub 0 []] ∨ ∃ es, xs = [.sl false .pub s es] ∧ ∀ x ∈ es, e.has x
  | .agg l, xs => T.hasL l xs
  | .arr n e, xs => ∃ l : List (List V), l.length = n ∧ xs = l.flatten ∧ ∀ x ∈ l, e.has x
def T.hasL : List T → List V → Prop
  | [], xs => xs = []
  | t :: r, xs => ∃ a b, xs = a ++ b ∧ t.has a ∧ T.hasL r b
end

mutual
/-- How much there is of it. -/
def vb : V → Nat
  | .str s => s.length + 1
  | .sl _ _ _ es => vbe es + 1
  | .int _ _ | .bool _ | .agg _ | .tup _ | .ptr _ | .elt _ _ _ _ _ | .map _ | .osl _ _ _ _ | .fn _ _ | .nilf | .raw _ | .bad => 1
def vbs : List V → Nat
  | [] => 0
  | x :: r => vb x + vbs r
def vbe : List (List V) → Nat
  | [] => 0
  | x :: r => vbs x + vbe r
end
theorem vbs_append : ∀ (a b : List V), vbs (a ++ b) = vbs a + vbs b
  | [], b => by simp [vbs]
  | x :: a, b => by simp [vbs, vbs_append a b, Nat.add_assoc]
theorem vbs_flatten : ∀ (l : List (List V)), vbs l.flatten = vbe l
  | [] => by simp [vbs, vbe]
  | x :: l => by simp [vbe, vbs_append, vbs_flatten l]

/-- A measure of data that counts at least so much. -/
structure Bulk {H : Type} (B : DataW H → Nat) : Prop where
  lit : ∀ l, 1 ≤ B (.lit l)
  str : ∀ s, s.length + 1 ≤ B (.lit (.string s))
  nil : 1 ≤ B .nil
  slice : ∀ es sp, (es.map B).sum + 1 ≤ B (.slice es sp)
  agg : ∀ ps, (ps.map B).sum ≤ B (.agg ps)

section
variable {H : Type} {enc : TypeId × Value → H} {P : Program} {W : World} {sp : Nat → Bool} {held : Bool} {B : DataW H → Nat}

/-- What is read is of its type's shape. -/
def Reads (W : World) (B : DataW H → Nat) (T0 : T) (c : Nat) (cs : List Value) (d : DataW H) : Prop :=
  ∃ xs, RepL (g0 W) xs cs ∧ T0.has xs ∧ vbs xs ≤ B d ∧ (∀ v ∈ cs, v.oneCell' = true) ∧ cs.length = c

theorem RepL.len {γ : G} : ∀ {xs : List V} {vs : List Value}, RepL γ xs vs → xs.length = vs.length
  | [], vs, h => by simp only [RepL] at h; subst h; rfl
  | x :: xs, vs, h => by
    simp only [RepL] at h
    obtain ⟨v, ws, rfl, _, h2⟩ := h
    simp [RepL.len h2]

theorem rows_read {T0 : T} {a : Addr} {c : Nat} (hsp : a.spot = none) : ∀ (elems : List (DataW H × List MemPlace)) (k : Nat),
    (∀ (i : Nat) y, elems[i]? = some y → ∃ cs, W.cells? 0 (a.add ((k + i) * c)) c = some cs ∧ Reads W B T0 c cs y.1) →
    ∃ es vs, es.length = elems.length ∧ RepE (g0 W) c es vs ∧ (∀ x ∈ es, T0.has x) ∧ vbe es ≤ ((elems.map (·.1)).map B).sum ∧ ∀ (j : Nat) v, vs[j]? = some v → W.cell? ⟨a.block, a.off + k * c + j, none⟩ = some v
  | [], k, _ => ⟨[], [], rfl, by simp [RepE], by simp, by simp [vbe], by simp⟩
  | y :: r, k, h => by
    obtain ⟨es, vs, h1, h2, h3, h4, h5⟩ := rows_read hsp r (k + 1) fun i y hy => by
      obtain ⟨cs, e1, e2⟩ := h (i + 1) y (by simpa using hy)
      exact ⟨cs, by rw [show k + 1 + i = k + (i + 1) from by omega]; exact e1, e2⟩
    obtain ⟨cs, e1, xs, f1, f2, f3, f4, f5⟩ := h 0 y rfl
    obtain ⟨_, g1, g2⟩ := World.cells?_some e1
    refine ⟨xs :: es, cs ++ vs, by simp [h1], ?_, ?_, ?_, ?_⟩
    · simp only [RepE]
      exact ⟨cs, vs, rfl, by rw [f1.len, f5], f1, h2, f4⟩
    · intro x hx
      rcases List.mem_cons.1 hx with rfl | hx
      · exact f2
      · exact h3 x hx
    · simp only [vbe, List.map_cons, List.sum_cons]; omega
    · intro j v hv
      by_cases hj : j < cs.length
      · rw [List.getElem?_append_left hj] at hv
        have := g2 j (by omega)
        rw [hv, Nat.add_zero, add_spot hsp, add_spot rfl] at this
        exact this
      · rw [List.getElem?_append_right (by omega)] at hv
        have := h5 _ _ hv
        rw [show a.off + k * c + j = a.off + (k + 1) * c + (j - cs.length) from by rw [Nat.succ_mul]; omega]
        exact this

theorem fields_read (hB : Bulk B) {f : TypeId → Option T} {rd : TypeId → List Value → Option (DataW H × List MemPlace)} (ih : ∀ t T0 cs d ps, f t = some T0 → rd t cs = some (d, ps) → Reads W B T0 (P.cellsOf t) cs d) {all : Nat} :
    ∀ (fs : List Field) (o : Nat) (Ts : List T) (cs : List Value) (xs : List (DataW H × List MemPlace)), tysOf P f all o fs = some Ts → cs.length + o = all → xs.length = fs.length →
      (∀ (i : Nat) (x : Field), fs[i]? = some x → rd x.type ((cs.drop (x.offset - o)).take (P.cellsOf x.type)) = xs[i]?) →
      ∃ ys, RepL (g0 W) ys cs ∧ T.hasL Ts ys ∧ vbs ys ≤ ((xs.map (·.1)).map B).sum ∧ (∀ v ∈ cs, v.oneCell' = true)
  | [], o, Ts, cs, xs, ht, hl, hx, h => by
    simp only [tysOf] at ht
    cases hb : Nat.beq o all with
    | false => simp [hb] at ht
    | true =>
      simp only [hb, cond_true, Option.some.injEq] at ht
      subst ht
      have := Nat.eq_of_beq_eq_true hb
      have : cs = [] := by apply List.eq_nil_of_length_eq_zero; omega
      subst this
      exact ⟨[], by simp [RepL], by simp [T.hasL], by simp [vbs], by simp⟩
  | x :: r, o, Ts, cs, xs, ht, hl, hx, h => by
    simp only [tysOf] at ht
    cases hb : Nat.beq x.offset o with
    | false => simp [hb] at ht
    | true =>
      have ho := Nat.eq_of_beq_eq_true hb
      simp only [hb, cond_true] at ht
      split at ht
      · rename_i a b ha hbb
        simp only [Option.some.injEq] at ht
        subst ht
        cases xs with
        | nil => simp at hx
        | cons y ys =>
          have h0 := h 0 x rfl
          simp only [ho, Nat.sub_self, List.drop_zero, List.getElem?_cons_zero] at h0
          obtain ⟨zs, f1, f2, f3, f4, f5⟩ := ih _ _ _ _ _ ha h0
          have hle : P.cellsOf x.type ≤ cs.length := by rw [← f5, List.length_take]; omega
          obtain ⟨us, k1, k2, k3, k4⟩ := fields_read hB ih r (o + P.cellsOf x.type) b (cs.drop (P.cellsOf x.type)) ys hbb (by rw [List.length_drop]; omega) (by simpa using hx) (by
            intro i fd hfd
            have := h (i + 1) fd (by simpa using hfd)
            simp only [List.getElem?_cons_succ] at this
            rw [← this, List.drop_drop]
            -- a field's place is not ahead of where we are
            have hge : o + P.cellsOf x.type ≤ fd.offset := tysOf_ge hbb hfd
            congr 3
            omega)
          refine ⟨zs ++ us, ?_, ⟨zs, us, rfl, f2, k2⟩, ?_, ?_⟩
          · rw [← List.take_append_drop (P.cellsOf x.type) cs]
            exact f1.append k1
          · rw [vbs_append]; simp only [List.map_cons, List.sum_cons]; omega
          · intro v hv
            rw [← List.take_append_drop (P.cellsOf x.type) cs] at hv
            rcases List.mem_append.1 hv with hv | hv
            · exact f4 v hv
            · exact k4 v hv
      · cases ht
where
  tysOf_ge {f : TypeId → Option T} {all : Nat} : ∀ {fs : List Field} {o : Nat} {Ts : List T} {i : Nat} {fd : Field}, tysOf P f all o fs = some Ts → fs[i]? = some fd → o ≤ fd.offset
    | [], o, Ts, i, fd, _, h => by simp at h
    | x :: r, o, Ts, i, fd, ht, h => by
      simp only [tysOf] at ht
      cases hb : Nat.beq x.offset o with
      | false => simp [hb] at ht
      | true =>
        have ho := Nat.eq_of_beq_eq_true hb
        simp only [hb, cond_true] at ht
        split at ht
        · rename_i a b ha hbb
          cases i with
          | zero => simp only [List.getElem?_cons_zero, Option.some.injEq] at h; subst h; omega
          | succ i =>
            simp only [List.getElem?_cons_succ] at h
            have := tysOf_ge hbb h
            omega
        · cases ht

theorem arr_read {T0 : T} {c : Nat} {rd : List Value → Option (DataW H × List MemPlace)} (ih : ∀ cs d ps, rd cs = some (d, ps) → Reads W B T0 c cs d) :
    ∀ (n : Nat) (cs : List Value) (xs : List (DataW H × List MemPlace)), cs.length = n * c → xs.length = n → (∀ (i : Nat), i < n → rd ((cs.drop (i * c)).take c) = xs[i]?) →
      ∃ l : List (List V), l.length = n ∧ RepL (g0 W) l.flatten cs ∧ (∀ x ∈ l, T0.has x) ∧ vbe l ≤ ((xs.map (·.1)).map B).sum ∧ (∀ v ∈ cs, v.oneCell' = true)
  | 0, cs, xs, hl, hx, h => by
    have : cs = [] := by apply List.eq_nil_of_length_eq_zero; omega
    subst this
    exact ⟨[], rfl, by simp [RepL], by simp, by simp [vbe], by simp⟩
  | n + 1, cs, xs, hl, hx, h => by
    cases xs with
    | nil => simp at hx
    | cons y ys =>
      have h0 := h 0 (by omega)
      simp only [Nat.zero_mul, List.drop_zero, List.getElem?_cons_zero] at h0
      obtain ⟨zs, f1, f2, f3, f4, f5⟩ := ih _ _ _ h0
      obtain ⟨l, k1, k2, k3, k4, k5⟩ := arr_read ih n (cs.drop c) ys (by rw [List.length_drop, hl, Nat.succ_mul]; omega) (by simpa using hx) (fun i hi => by
        have := h (i + 1) (by omega)
        simp only [List.getElem?_cons_succ] at this
        rw [← this, List.drop_drop, Nat.succ_mul, Nat.add_comm])
      refine ⟨zs :: l, by simp [k1], ?_, ?_, ?_, ?_⟩
      · rw [List.flatten_cons, ← List.take_append_drop c cs]
        exact f1.append k2
      · intro x hx
        rcases List.mem_cons.1 hx with rfl | hx
        · exact f2
        · exact k3 x hx
      · simp only [vbe, List.map_cons, List.sum_cons]; omega
      · intro v hv
        rw [← List.take_append_drop c cs] at hv
        rcases List.mem_append.1 hv with hv | hv
        · exact f4 v hv
        · exact k5 v hv

theorem one_read {x : V} {v : Value} {T0 : T} {d : DataW H} (hr : Rep (g0 W) x v) (ht : T0.has [x]) (hb : vb x ≤ B d) (h1 : v.oneCell' = true) : Reads W B T0 1 [v] d :=
  ⟨[x], by simp only [RepL]; exact ⟨v, [], rfl, hr, rfl⟩, ht, by simpa [vbs] using hb, by simpa using h1, rfl⟩

theorem read_has (hB : Bulk B) : ∀ (n : Nat) (t : TypeId) (T0 : T) (fuel : Nat) (cs : List Value) (d : DataW H) (ps : List MemPlace), tyOf P n t = some T0 → DataW.trod enc P W 0 sp held fuel t cs = some (d, ps) → Reads W B T0 (P.cellsOf t) cs d
  | 0, t, T0, fuel, cs, d, ps, ht, _ => by simp [tyOf] at ht
  | n + 1, t, T0, fuel, cs, d, ps, ht, h => by
    have c1 : ∀ {x : Option T}, (bif Nat.beq (P.cellsOf t) 1 then x else none) = some T0 → P.cellsOf t = 1 ∧ x = some T0 := by
      intro x hx
      cases hb : Nat.beq (P.cellsOf t) 1 with
      | false => simp [hb] at hx
      | true => exact ⟨Nat.eq_of_beq_eq_true hb, by simpa [hb] using hx⟩
    simp only [tyOf] at ht
    split at ht
    · rename_i k hu
      obtain ⟨hc, h0⟩ := c1 ht
      cases h0
      rw [hc]
      obtain ⟨n', rfl, h1, hw⟩ := DataW.trod_int hu h
      simp only [Prod.mk.injEq] at h1
      obtain ⟨rfl, rfl⟩ := h1
      exact one_read (x := .int k n') (by simp only [Rep]) ⟨_, rfl, hw⟩ (by simpa [vb] using hB.lit _) rfl
    · rename_i hu
      obtain ⟨hc, h0⟩ := c1 ht
      cases h0
      rw [hc]
      obtain ⟨b, rfl, h1⟩ := DataW.trod_bool hu h
      simp only [Prod.mk.injEq] at h1
      obtain ⟨rfl, rfl⟩ := h1
      exact one_read (x := .bool b) (by simp only [Rep]) ⟨_, rfl⟩ (by simpa [vb] using hB.lit _) rfl
    · rename_i hu
      obtain ⟨hc, h0⟩ := c1 ht
      cases h0
      rw [hc]
      obtain ⟨s, rfl, h1, _⟩ := DataW.trod_string hu h
      simp only [Prod.mk.injEq] at h1
      obtain ⟨rfl, rfl⟩ := h1
      exact one_read (x := .str s.data.toList) (by simp only [Rep]) ⟨_, rfl⟩ (by simp only [vb]; exact hB.str _) rfl
    · rename_i e hu
      cases hb : (Nat.beq (P.cellsOf t) 1 && Nat.ble 1 (P.cellsOf e)) with
      | false => simp [hb] at ht
      | true =>
        simp only [hb, cond_true, Option.map_eq_some_iff] at ht
        obtain ⟨Te, hTe, rfl⟩ := ht
        simp only [Bool.and_eq_true] at hb
        have hc := Nat.eq_of_beq_eq_true hb.1
        have he := Nat.le_of_ble_eq_true hb.2
        rw [hc]
        rcases DataW.trod_slice hu h with ⟨rfl, h0⟩ | ⟨a, len, cap, elems, rest, m, _, rfl, h0, _, hl, _, hlen, hel, _⟩
        · simp only [Prod.mk.injEq] at h0
          obtain ⟨rfl, rfl⟩ := h0
          exact one_read (x := .sl true .pub 0 []) (by simp [Rep]) (.inl rfl) (by simpa [vb, vbe] using hB.nil) rfl
        · simp only [Prod.mk.injEq] at h0
          obtain ⟨rfl, rfl⟩ := h0
          have each : ∀ (i : Nat) y, elems[i]? = some y → ∃ cs, W.cells? 0 (a.add ((0 + i) * P.cellsOf e)) (P.cellsOf e) = some cs ∧ Reads W B Te (P.cellsOf e) cs y.1 := by
            intro i y hy
            have hi : i < len := by rw [← hlen]; exact (List.getElem?_eq_some_iff.1 hy).1
            have := hel i hi
            rw [hy, Option.bind_eq_some_iff] at this
            obtain ⟨cs, e1, e2⟩ := this
            exact ⟨cs, by rw [Nat.zero_add]; exact e1, read_has hB n e Te m cs y.1 y.2 hTe e2⟩
          by_cases hsp : a.spot = none
          · obtain ⟨es, vs, k1, k2, k3, k4, k5⟩ := rows_read hsp elems 0 each
            refine one_read (x := .sl false .pub (P.cellsOf e) es) ?_ (.inr ⟨es, rfl, k3⟩) ?_ rfl
            · simp only [Rep]
              exact ⟨a, cap, vs, by rw [k1, hlen], .inr hsp, by omega, pub_cells (fun i v hv => by simpa using k5 i v hv), k2⟩
            · have := hB.slice (elems.map (·.1)) (rest.map (·.1))
              simp only [vb]
              omega
          · have hnil : elems = [] := by
              cases elems with
              | nil => rfl
              | cons y r =>
                exfalso
                obtain ⟨cs, e1, _⟩ := each 0 y rfl
                obtain ⟨_, g1, g2⟩ := World.cells?_some e1
                have := g2 0 he
                have h0 : (a.add ((0 + 0) * P.cellsOf e)).add 0 = a := by simp [Addr.add]
                rw [h0] at this
                have hcs : cs[0]? = some cs[0] := List.getElem?_eq_getElem (by omega)
                rw [hcs] at this
                unfold World.cell? at this
                split at this
                · cases hx : a.spot with
                  | none => exact hsp hx
                  | some b => simp [hx] at this
                · cases this
            subst hnil
            refine one_read (x := .sl false .pub (P.cellsOf e) []) ?_ (.inr ⟨[], rfl, by simp⟩) ?_ rfl
            · simp only [Rep]
              simp only [List.length_nil] at hlen
              exact ⟨a, cap, [], by rw [← hlen]; rfl, .inl trivial, by simp, fun i v hv => by simp at hv, by simp [RepE]⟩
            · have := hB.slice ([] : List (DataW H)) (rest.map (·.1))
              simp only [vb, vbe]
              simp only [List.map_nil, List.sum_nil] at this ⊢
              omega
    · rename_i fs hu
      simp only [Option.map_eq_some_iff] at ht
      obtain ⟨Ts, hTs, rfl⟩ := ht
      obtain ⟨xs, m, _, h0, hl, hlen, hf⟩ := DataW.trod_struct hu h
      simp only [Prod.mk.injEq] at h0
      obtain ⟨rfl, rfl⟩ := h0
      obtain ⟨ys, k1, k2, k3, k4⟩ := fields_read (P := P) hB (f := tyOf P n) (rd := fun t cs => DataW.trod enc P W 0 sp held m t cs) (fun t T0 cs d ps h1 h2 => read_has hB n t T0 m cs d ps h1 h2) fs.toList 0 Ts cs xs hTs (by omega) (by simpa using hlen)
        (fun i x hx => by simpa using hf i x (by simpa using hx))
      exact ⟨ys, k1, k2, Nat.le_trans k3 (hB.agg _), k4, hl⟩
    · rename_i m e hu
      cases hb : Nat.beq (P.cellsOf t) (m * P.cellsOf e) with
      | false => simp [hb] at ht
      | true =>
        simp only [hb, cond_true, Option.map_eq_some_iff] at ht
        obtain ⟨Te, hTe, rfl⟩ := ht
        have hc := Nat.eq_of_beq_eq_true hb
        obtain ⟨xs, q, _, h0, hl, hlen, hf⟩ := DataW.trod_array hu h
        simp only [Prod.mk.injEq] at h0
        obtain ⟨rfl, rfl⟩ := h0
        obtain ⟨l, k1, k2, k3, k4, k5⟩ := arr_read (rd := fun cs => DataW.trod enc P W 0 sp held q e cs) (T0 := Te) (c := P.cellsOf e) (W := W) (B := B) (fun cs d ps h2 => read_has hB n e Te q cs d ps hTe h2) m cs xs (by rw [hl, hc]) hlen hf
        exact ⟨l.flatten, k2, ⟨l, k1, rfl, k3⟩, by rw [vbs_flatten]; exact Nat.le_trans k4 (hB.agg _), k5, hl⟩
    · cases ht

/-- An argument of a shape. -/
def T.arg : T → V → Prop
  | .agg l, x => ∃ xs, x = .agg xs ∧ T.hasL l xs
  | .arr n e, x => ∃ xs, x = .agg xs ∧ (T.arr n e).has xs
  | t, x => t.has [x]
def T.args : List T → List V → Prop
  | [], xs => xs = []
  | t :: r, xs => ∃ x ys, xs = x :: ys ∧ t.arg x ∧ T.args r ys
def vba : V → Nat
  | .agg xs => vbs xs
  | x => vb x
def vbas : List V → Nat
  | [] => 0
  | x :: r => vba x + vbas r

theorem vba_one {x : V} (h : ∀ xs, x ≠ .agg xs) : vba x = vbs [x] := by
  cases x <;> first | rfl | exact absurd rfl (h _)

def tysAll (P : Program) (n : Nat) : List TypeId → Option (List T)
  | [] => some []
  | t :: r => match tyOf P n t, tysAll P n r with
    | some a, some b => some (a :: b)
    | _, _ => none

theorem cells_one {v q : Value} (hq : v.cells.toList = [q]) (ha : ∀ cs, v ≠ .agg cs) : v.cells.toList = [v] := by
  cases v <;> first | rfl | exact absurd rfl (ha _)

theorem arg_read (hB : Bulk B) {n : Nat} {t : TypeId} {T0 : T} {base : Nat} {v : Value} {d : DataW H} {ps : List MemPlace} (ht : tyOf P n t = some T0) (hok : Value.okWide P W .any base t v) (h : DataW.Trod enc P W 0 sp held t v d ps) :
    ∃ x, Rep (g0 W) x v ∧ T0.arg x ∧ vba x ≤ B d := by
  obtain ⟨fuel, h⟩ := h
  obtain ⟨xs, k1, k2, k3, k4, k5⟩ := read_has hB n t T0 fuel _ d ps ht h
  have flat : ∀ (T1 : T), T0 = T1 → (∀ x, T1.has [x] → T1.arg x ∧ ∀ xs, x ≠ .agg xs) → v.cells.toList = [v] → (∃ x, xs = [x]) → ∃ x, Rep (g0 W) x v ∧ T0.arg x ∧ vba x ≤ B d := by
    rintro T1 rfl ha hv ⟨x, rfl⟩
    rw [hv] at k1
    simp only [RepL, List.cons.injEq] at k1
    obtain ⟨w, ws, ⟨rfl, rfl⟩, k1, -⟩ := k1
    obtain ⟨a1, a2⟩ := ha x k2
    exact ⟨x, k1, a1, by rw [vba_one a2]; exact k3⟩
  have agg : ∀ cs, v = .agg cs → Rep (g0 W) (.agg xs) v := by
    intro cs hv
    subst hv
    simp only [Rep]
    exact ⟨cs.toList, by simp, k1⟩
  cases n with
  | zero => simp [tyOf] at ht
  | succ n =>
    unfold Value.okWide at hok
    simp only [tyOf] at ht
    split at ht
    · rename_i k hu
      rw [hu] at hok
      have hT : T0 = .int k := by
        cases hb : Nat.beq (P.cellsOf t) 1 <;> simp [hb] at ht
        exact ht.symm
      subst hT
      obtain ⟨m, rfl, hw⟩ := k2
      exact flat _ rfl (fun x hx => ⟨hx, by obtain ⟨m, hx, _⟩ := hx; simp only [List.cons.injEq, and_true] at hx; subst hx; simp⟩) (by
        obtain ⟨q, hq, _⟩ := DataW.trod_int hu h
        exact cells_one hq (by intro cs hcs; subst hcs; simp [Cell.okWide, Cell.ok, hu] at hok)) ⟨_, rfl⟩
    · rename_i hu
      rw [hu] at hok
      have hT : T0 = .bool := by
        cases hb : Nat.beq (P.cellsOf t) 1 <;> simp [hb] at ht
        exact ht.symm
      subst hT
      obtain ⟨m, rfl⟩ := k2
      exact flat _ rfl (fun x hx => ⟨hx, by obtain ⟨m, hx⟩ := hx; simp only [List.cons.injEq, and_true] at hx; subst hx; simp⟩) (by
        obtain ⟨q, hq, _⟩ := DataW.trod_bool hu h
        exact cells_one hq (by intro cs hcs; subst hcs; simp [Cell.okWide, Cell.ok, hu] at hok)) ⟨_, rfl⟩
    · rename_i hu
      rw [hu] at hok
      have hT : T0 = .str := by
        cases hb : Nat.beq (P.cellsOf t) 1 <;> simp [hb] at ht
        exact ht.symm
      subst hT
      obtain ⟨m, rfl⟩ := k2
      exact flat _ rfl (fun x hx => ⟨hx, by obtain ⟨m, hx⟩ := hx; simp only [List.cons.injEq, and_true] at hx; subst hx; simp⟩) (by
        obtain ⟨q, hq, _⟩ := DataW.trod_string hu h
        exact cells_one hq (by intro cs hcs; subst hcs; simp [Cell.okWide, Cell.ok, hu] at hok)) ⟨_, rfl⟩
    · rename_i e hu
      rw [hu] at hok
      have hT : ∃ s Te, T0 = .sl s Te := by
        cases hb : (Nat.beq (P.cellsOf t) 1 && Nat.ble 1 (P.cellsOf e)) <;> simp [hb] at ht
        obtain ⟨Te, _, h⟩ := ht
        exact ⟨_, _, h.symm⟩
      obtain ⟨s, Te, rfl⟩ := hT
      have hxs : ∃ x, xs = [x] := by
        rcases k2 with rfl | ⟨es, rfl, _⟩ <;> exact ⟨_, rfl⟩
      exact flat _ rfl (fun x hx => ⟨hx, by
        rcases hx with hx | ⟨es, hx, _⟩ <;> (simp only [List.cons.injEq, and_true] at hx; subst hx; simp)⟩) (by
        have : ∃ q, v.cells.toList = [q] := by
          rcases DataW.trod_slice hu h with ⟨hq, _⟩ | ⟨a, len, cap, elems, rest, m, _, hq, _⟩ <;> exact ⟨_, hq⟩
        obtain ⟨q, hq⟩ := this
        exact cells_one hq (by intro cs hcs; subst hcs; simp [Cell.okWide, Cell.ok, hu] at hok)) hxs
    · rename_i fs hu
      rw [hu] at hok
      obtain ⟨cs, hv, _⟩ := hok
      simp only [Option.map_eq_some_iff] at ht
      obtain ⟨Ts, hTs, rfl⟩ := ht
      exact ⟨.agg xs, agg cs hv, ⟨xs, rfl, k2⟩, k3⟩
    · rename_i m e hu
      rw [hu] at hok
      obtain ⟨cs, hv, _⟩ := hok
      have hT : ∃ Te, T0 = .arr m Te := by
        cases hb : Nat.beq (P.cellsOf t) (m * P.cellsOf e) <;> simp [hb] at ht
        obtain ⟨Te, _, h⟩ := ht
        exact ⟨_, h.symm⟩
      obtain ⟨Te, rfl⟩ := hT
      exact ⟨.agg xs, agg cs hv, ⟨xs, rfl, k2⟩, k3⟩
    · cases ht
theorem args_read (hB : Bulk B) {n base : Nat} : ∀ (ts : List TypeId) (Ts : List T) (vs : List Value) (ds : List (DataW H)) (ps : List MemPlace), tysAll P n ts = some Ts → (∀ (j : Nat) t v, ts[j]? = some t → vs[j]? = some v → Value.okWide P W .any base t v) →
    DataW.TrodAll enc P W 0 sp held ts vs ds ps → ∃ xs, RepL (g0 W) xs vs ∧ T.args Ts xs ∧ vbas xs ≤ (ds.map B).sum
  | [], Ts, [], [], ps, ht, _, _ => by
    simp only [tysAll, Option.some.injEq] at ht
    subst ht
    exact ⟨[], by simp [RepL], by simp [T.args], by simp [vbas]⟩
  | t :: ts, Ts, v :: vs, d :: ds, ps, ht, hok, ⟨p, q, h1, h2, _⟩ => by
    simp only [tysAll] at ht
    split at ht
    · rename_i a b ha hb
      simp only [Option.some.injEq] at ht
      subst ht
      obtain ⟨x, e1, e2, e3⟩ := arg_read hB ha (hok 0 t v rfl rfl) h1
      obtain ⟨xs, f1, f2, f3⟩ := args_read hB ts b vs ds q hb (fun j t v h1 h2 => hok (j + 1) t v (by simpa using h1) (by simpa using h2)) h2
      refine ⟨x :: xs, by simp only [RepL]; exact ⟨v, vs, rfl, e1, f1⟩, ⟨x, xs, rfl, e2, f2⟩, ?_⟩
      simp only [vbas, List.map_cons, List.sum_cons]; omega
    · cases ht
  | [], _, _ :: _, _, _, _, _, h => by simp [DataW.TrodAll] at h
  | [], _, [], _ :: _, _, _, _, h => by simp [DataW.TrodAll] at h
  | _ :: _, _, [], _, _, _, _, h => by simp [DataW.TrodAll] at h
  | _ :: _, _, _ :: _, [], _, _, _, h => by simp [DataW.TrodAll] at h

theorem trodAll_stays (hl : laidOutB P = true) {W' : World} {sp' : Nat → Bool} : ∀ {ts : List TypeId} {vs : List Value} {ds : List (DataW H)} {ps : List MemPlace}, (ts.all fun t => P.readableRec t && decide (t < P.types.size)) = true →
    DataW.TrodAll enc P W 0 (fun _ => true) true ts vs ds ps → (∀ p ∈ ps, W.sameAt W' p) → (∀ p ∈ ps, sp' p.block = true) → DataW.TrodAll enc P W' 0 sp' true ts vs ds ps
  | [], [], [], _, _, h, _, _ => h
  | _ :: _, _ :: _, _ :: _, _, hr, ⟨p, q, h1, h2, e⟩, hs, hp => by
    simp only [List.all_cons, Bool.and_eq_true, decide_eq_true_eq] at hr
    exact ⟨p, q, WideElems.Trod_stays hl hr.1.1 hr.1.2 h1 (fun x hx => hs x (by rw [e]; exact List.mem_append_left _ hx)) (fun x hx => hp x (by rw [e]; exact List.mem_append_left _ hx)),
      trodAll_stays hl (by simpa using hr.2) h2 (fun x hx => hs x (by rw [e]; exact List.mem_append_right _ hx)) (fun x hx => hp x (by rw [e]; exact List.mem_append_right _ hx)), e⟩

/-- A law's contract, from V-logic: whatever the arguments of the types' shapes, it tells true. -/
theorem law_calls (hB : Bulk B) {f : Func} {fid : FuncId} {s : ChangeSpec} {W : World} {base n : Nat} {args : Array Value} {ds gs : List (DataW H)} {before : List MemPlace} {Ts : List T} {tb : TypeId}
    (hlo : laidOutB P = true) (hts : tysAll P n f.params.toList = some Ts) (hrd : (f.params.toList.all fun t => P.readableRec t && decide (t < P.types.size)) = true) (hvars : s.vars = []) (hres : f.resultTypes = #[tb]) (hb : P.underlying tb = some .bool)
    (hspec : ∀ ds : List (DataW H), ds.length = f.params.size → s.fn H ds = { results := [.lit (.bool true)], args := ds })
    (hval : ∀ (j : Nat) t v, f.params[j]? = some t → args[j]? = some v → Value.okWide P W .any base t v)
    (hW : DataW.Whole enc P f.params.toList s.vars false W args.toList ds gs before)
    (hc : ∀ xs, T.args Ts xs → vbas xs ≤ ((ds ++ gs).map B).sum → CallA P fid xs ⟨[], []⟩ fun v _ => v = .bool true) :
    Calls P fid args W fun e W' => ∃ v, e = .returned v ∧ s.post enc P f false true false false W args v W' := by
  have hW' := hW
  obtain ⟨p, q, hA, hV, rfl, hfz, hnd⟩ := hW
  rw [hvars] at hV
  obtain ⟨rfl, rfl⟩ := trodVars_none hV
  rw [List.append_nil] at hc
  have hlen : ∀ {ts : List TypeId} {vs : List Value} {ds : List (DataW H)} {ps : List MemPlace}, DataW.TrodAll enc P W 0 (fun _ => true) true ts vs ds ps → ds.length = ts.length := by
    intro ts
    induction ts with
    | nil => intro vs ds ps h; cases vs <;> cases ds <;> simp_all [DataW.TrodAll]
    | cons t ts ih =>
      intro vs ds ps h
      cases vs <;> cases ds <;> simp only [DataW.TrodAll] at h
      obtain ⟨_, _, _, h2, _⟩ := h
      simp [ih h2]
  have hs := hspec ds (by rw [hlen hA]; simp)
  obtain ⟨xs, k1, k2, k3⟩ := args_read hB f.params.toList Ts args.toList ds p hts (fun j t v h1 h2 => hval j t v (by simpa using h1) (by simpa using h2)) hA
  refine (entry (hc xs k2 k3) k1).mono fun e W' ⟨v, x, σ, γ, he, hk, hi, hx, hxv⟩ => ?_
  subst he hxv
  simp only [Rep] at hx
  subst hx
  simp only [List.append_nil] at hW'
  refine ⟨_, rfl, post_of_old (pa := p) (pv := []) (gs := []) (ds := ds) (before := p) (by simpa using hW') ?_ ?_ ?_ (by simp) hk (ok_one hres rfl (okWide_bool_mk hb _))⟩
  · intro b sp hd
    rw [List.append_nil, hs, hres]
    exact (trodAll_cons_mk (shut_bool hb _) trodAll_mk0)
  · intro sp hsp
    rw [List.append_nil, hs]
    exact trodAll_stays hlo hrd hA (fun x hx => hk.same (hW'.lt x (by simpa using hx))) hsp
  · intro sp _
    rw [List.append_nil, hs, hvars]
    rfl
end
end Go.VL
namespace Go.VL
open Go

/-- A slice whose elements are one cell. -/
theorem has_sl {s : Nat} {e : T} {x : V} (h : (T.sl s e).arg x) : ∃ es, (x = .sl true .pub 0 [] ∧ es = [] ∨ x = .sl false .pub s es) ∧ (∀ y ∈ es, e.has y) ∧ vbe es + 1 = vba x := by
  rcases h with h | ⟨es, h, h2⟩
  · simp only [List.cons.injEq, and_true] at h
    subst h
    exact ⟨[], .inl ⟨rfl, rfl⟩, by simp, by simp [vba, vb, vbe]⟩
  · simp only [List.cons.injEq, and_true] at h
    subst h
    exact ⟨es, .inr rfl, h2, by simp [vba, vb]⟩
theorem arg_rd {s : Nat} {e : T} {x : V} (h : (T.sl s e).arg x) : ∃ es, RdS ⟨[], []⟩ x s es ∧ (∀ y ∈ es, e.has y) ∧ vbe es < vba x := by
  obtain ⟨es, h1, h2, h3⟩ := has_sl h
  refine ⟨es, ?_, h2, by omega⟩
  rcases h1 with ⟨rfl, rfl⟩ | rfl
  · exact ⟨true, .pub, 0, rfl, by simp, .inl rfl⟩
  · exact ⟨false, .pub, s, rfl, by simp, .inr ⟨trivial, rfl⟩⟩
theorem bytes_of : ∀ {es : List (List V)}, (∀ y ∈ es, (T.int .u8).has y) → ∃ bs, es = bytesV bs ∧ bs.length ≤ vbe es
  | [], _ => ⟨[], rfl, by simp⟩
  | y :: es, h => by
    obtain ⟨bs, rfl, h2⟩ := bytes_of (es := es) fun y hy => h y (by simp [hy])
    obtain ⟨n, rfl, hw⟩ := h y (by simp)
    have hr : 0 ≤ n ∧ n ≤ 255 := by
      have : 0 ≤ n ∧ n ≤ 255 := by simpa [Lit.wf, IntKind.min, IntKind.max, IntKind.signed, IntKind.bits] using hw
      exact this
    refine ⟨UInt8.ofNat n.toNat :: bs, ?_, by simp only [List.length_cons, vbe, vbs, vb]; omega⟩
    have := byte1 n hr
    simp only [bytesV, List.map_cons, List.map_nil, List.cons.injEq, and_true] at this ⊢
    exact this
theorem ints_of : ∀ {es : List (List V)}, (∀ y ∈ es, (T.int .i64).has y) → ∃ ns : List Int, es = intsV .i64 ns ∧ ns.length ≤ vbe es ∧ ∀ n ∈ ns, -9223372036854775808 ≤ n ∧ n < 9223372036854775808
  | [], _ => ⟨[], rfl, by simp, by simp⟩
  | y :: es, h => by
    obtain ⟨bs, rfl, h2, h3⟩ := ints_of (es := es) fun y hy => h y (by simp [hy])
    obtain ⟨n, rfl, hw⟩ := h y (by simp)
    have hr : -9223372036854775808 ≤ n ∧ n ≤ 9223372036854775807 := by
      simpa [Lit.wf, IntKind.min, IntKind.max, IntKind.signed, IntKind.bits] using hw
    refine ⟨n :: bs, rfl, by simp only [List.length_cons, vbe, vbs, vb]; omega, fun m hm => ?_⟩
    rcases List.mem_cons.1 hm with rfl | hm
    · omega
    · exact h3 m hm
theorem strs_of : ∀ {es : List (List V)}, (∀ y ∈ es, T.str.has y) → ∃ ss : List (List UInt8), es = (ss.map fun s => [V.str s]) ∧ (ss.map fun s => s.length + 1).sum ≤ vbe es
  | [], _ => ⟨[], rfl, by simp⟩
  | y :: es, h => by
    obtain ⟨bs, rfl, h2⟩ := strs_of (es := es) fun y hy => h y (by simp [hy])
    obtain ⟨s, rfl⟩ := h y (by simp)
    exact ⟨s :: bs, rfl, by simp only [List.map_cons, List.sum_cons, vbe, vbs, vb]; omega⟩
theorem arg_bytes {x : V} (h : (T.sl 1 (.int .u8)).arg x) : ∃ bs, RdS ⟨[], []⟩ x 1 (bytesV bs) ∧ bs.length < vba x := by
  obtain ⟨es, h1, h2, h3⟩ := arg_rd h
  obtain ⟨bs, rfl, h4⟩ := bytes_of h2
  exact ⟨bs, h1, by omega⟩
theorem arg_int {x : V} (h : (T.int .i64).arg x) : ∃ n, x = .int .i64 n ∧ -9223372036854775808 ≤ n ∧ n < 9223372036854775808 := by
  obtain ⟨n, h1, hw⟩ := h
  simp only [List.cons.injEq, and_true] at h1
  have hr : -9223372036854775808 ≤ n ∧ n ≤ 9223372036854775807 := by
    simpa [Lit.wf, IntKind.min, IntKind.max, IntKind.signed, IntKind.bits] using hw
  exact ⟨n, h1, by omega, by omega⟩
end Go.VL
namespace Go.VL
open Go
theorem arg_ints' {x : V} (h : (T.sl 1 (.int .i64)).arg x) : ∃ ns : List Int, RdS ⟨[], []⟩ x 1 (intsV .i64 ns) ∧ ns.length < vba x ∧ ∀ n ∈ ns, -9223372036854775808 ≤ n ∧ n < 9223372036854775808 := by
  obtain ⟨es, h1, h2, h3⟩ := arg_rd h
  obtain ⟨ns, rfl, h4, h5⟩ := ints_of h2
  exact ⟨ns, h1, by omega, h5⟩
theorem arg_strs' {x : V} (h : (T.sl 1 .str).arg x) : ∃ ss : List (List UInt8), RdS ⟨[], []⟩ x 1 (ss.map fun s => [V.str s]) ∧ (ss.map fun s => s.length + 1).sum < vba x := by
  obtain ⟨es, h1, h2, h3⟩ := arg_rd h
  obtain ⟨ss, rfl, h4⟩ := strs_of h2
  exact ⟨ss, h1, by omega⟩
end Go.VL

import Derived.Test.YtcojigpknididaaB4
import Derived.Test.YtcojigpknididaaProg
set_option linter.unusedVariables false
set_option linter.unusedSimpArgs false
namespace Go.VL.opl
open Go Go.VL Go.Proofs Go.IntWalk Go.VL.st Go.VL.row

def StT : T := .agg [.int .i64, .int .i64]
def CgT : List T := [StT, .int .i64, .sl 1 (.int .i64), .int .i64, StT, StT, StT, .str, .str]
theorem has_ints {xs : List V} (h : (T.sl 1 (.int .i64)).has xs) : ∃ d l, xs = [d] ∧ (∀ σ, RdS σ d 1 (intsV .i64 l)) ∧ l.length < vbs xs := by
  rcases h with rfl | ⟨es, rfl, h⟩
  · exact ⟨_, [], rfl, fun σ => ⟨_, _, _, rfl, by simp [intsV], .inl rfl⟩, by simp [vbs, vb]⟩
  · obtain ⟨l, rfl, h2, h3⟩ := ints_of h
    exact ⟨_, l, rfl, fun σ => ⟨_, _, _, rfl, by simp, .inr ⟨trivial, rfl⟩⟩, by simp only [vbs, vb]; omega⟩
theorem has_st {xs : List V} (h : StT.has xs) : ∃ c r, xs = [.int .i64 c, .int .i64 r] := by
  obtain ⟨_, _, rfl, ⟨c, rfl, h1⟩, _, _, rfl, ⟨r, rfl, h2⟩, rfl⟩ := h
  exact ⟨c, r, rfl⟩
theorem has_cg {xs : List V} (h : T.hasL CgT xs) : ∃ d g, xs = cgC d g ∧ (∀ σ, RdS σ d 1 (intsV .i64 g.deps)) ∧ 13 + g.deps.length + g.name.length + g.val.length ≤ vbs xs := by
  obtain ⟨_, _, rfl, h1, _, _, rfl, ⟨seq, rfl, h2⟩, _, _, rfl, h3, _, _, rfl, ⟨kind, rfl, h4⟩, _, _, rfl, h5, _, _, rfl, h6, _, _, rfl, h7, _, _, rfl, ⟨name, rfl⟩, _, _, rfl, ⟨val, rfl⟩, rfl⟩ := h
  obtain ⟨ac, ar, rfl⟩ := has_st h1
  obtain ⟨d, deps, rfl, a3, a4⟩ := has_ints h3
  obtain ⟨nc, nr, rfl⟩ := has_st h5
  obtain ⟨pc, pr, rfl⟩ := has_st h6
  obtain ⟨fc, fr, rfl⟩ := has_st h7
  refine ⟨d, ⟨ac, ar, seq, deps, kind, nc, nr, pc, pr, fc, fr, name, val⟩, rfl, a3, ?_⟩
  simp only [List.cons_append, List.nil_append, List.append_nil, vbs, vb] at a4 ⊢
  omega
theorem cgs_of : ∀ {es : List (List V)}, (∀ y ∈ es, (T.agg CgT).has y) → ∃ l : List (V × Cg), es = cgsV l ∧ 13 * l.length ≤ vbe es ∧ ∀ p ∈ l, (∀ σ, RdS σ p.1 1 (intsV .i64 p.2.deps)) ∧ p.2.deps.length + p.2.name.length + p.2.val.length < vbe es
  | [], _ => ⟨[], rfl, by simp, by simp⟩
  | y :: es, h => by
    obtain ⟨l, rfl, h2, h3⟩ := cgs_of (es := es) fun y hy => h y (by simp [hy])
    obtain ⟨d, g, rfl, a1, a3⟩ := has_cg (h y (by simp))
    refine ⟨(d, g) :: l, rfl, by simp only [List.length_cons, vbe]; omega, fun q hq => ?_⟩
    simp only [vbe]
    rcases List.mem_cons.1 hq with rfl | hq
    · exact ⟨a1, by simp only; omega⟩
    · obtain ⟨b1, b3⟩ := h3 q hq
      exact ⟨b1, by omega⟩
theorem arg_cg {x : V} (h : (T.agg CgT).arg x) : ∃ d g, x = cgV d g ∧ (∀ σ, RdS σ d 1 (intsV .i64 g.deps)) ∧ g.deps.length + g.name.length + g.val.length < vba x := by
  obtain ⟨xs, rfl, h⟩ := h
  obtain ⟨d, g, rfl, h1, h3⟩ := has_cg h
  exact ⟨d, g, rfl, h1, by simp only [vba]; omega⟩
/-- A list of changes, as an argument. -/
def ArgC (v : V) (gs : List Cg) : Prop := (∃ l : List (V × Cg), l.map (·.2) = gs ∧ (∀ σ, RdS σ v 13 (cgsV l)) ∧ ∀ p ∈ l, ∀ σ, RdS σ p.1 1 (intsV .i64 p.2.deps)) ∧ gs.length ≤ 90000 ∧ ∀ g ∈ gs, g.deps.length + g.name.length + g.val.length < 1048576
theorem arg_cgs {x : V} (h : (T.sl 13 (.agg CgT)).arg x) : ∃ gs, (vba x ≤ 1048576 → ArgC x gs) := by
  obtain ⟨es, h1, h2, h3⟩ := has_sl h
  obtain ⟨l, rfl, h4, h5⟩ := cgs_of h2
  refine ⟨l.map (·.2), fun hb => ⟨⟨l, rfl, fun σ => ?_, fun p hp => (h5 p hp).1⟩, by rw [List.length_map]; omega, fun g hg => ?_⟩⟩
  · rcases h1 with ⟨rfl, h1⟩ | rfl
    · rw [h1]; exact ⟨true, .pub, 0, rfl, by simp, .inl rfl⟩
    · exact ⟨false, .pub, 13, rfl, by simp, .inr ⟨trivial, rfl⟩⟩
  · obtain ⟨p, hp, rfl⟩ := List.mem_map.1 hg
    have := (h5 p hp).2
    omega
theorem ArgC.rd {v : V} {gs : List Cg} (h : ArgC v gs) (σ : St) : RdC σ v gs := by
  obtain ⟨⟨l, rfl, h1, h2⟩, -⟩ := h
  exact ⟨l, rfl, h1 σ, fun p hp => h2 p hp σ⟩
/-- The first change. -/
def cgF : Cg := ⟨1, 0, 1, [], 1, 1, 0, 0, 0, 0, 0, [112], []⟩
section
variable {σ : St} {i m j y : Nat} {mo : Option Nat} {s d v kv w p : V} {ov : List V} {room r n most : Int} {P O : List (V × Cg)} {g : Cg} {x : Sp} {l k : List Int} {L gs : List Cg}
set_option maxRecDepth 100000 in
theorem first_ok : CallA Try.prog 15 [] σ fun v σ' => v = cgV v0 cgF ∧ σ' = σ := by
  refine fn_at Try.func15 (by decide) comp15 rfl fun Q q1 q2 => ?_
  unfold cgF cgV cgC v0 at q2
  simp -implicitDefEqProofs only [go_sem, Nat.reduceBEq, Nat.reduceAdd, eq_self, true_and, and_true, and_self, List.getElem?_cons_zero, List.getElem?_cons_succ, Nat.reduceLeDiff, Nat.zero_add, Nat.reduceSub, Nat.le_refl, c15]
  refine q2 _ _ ?_
  simp -implicitDefEqProofs only [go_sem, Nat.reduceBEq, Nat.reduceAdd, eq_self, true_and, and_true, and_self, List.getElem?_cons_zero, List.getElem?_cons_succ, Nat.reduceLeDiff, Nat.zero_add, Nat.reduceSub, Nat.le_refl, Nat.lt_irrefl]
  try exact ⟨rfl, rfl⟩
theorem LTo.fresh {σ0 σ τ : St} {i : Nat} {mo : Option Nat} {s s' : V} {ov ov' : List V} (h : LTo σ τ i mo s s' ov ov') (he : Ext σ0 σ) (hf : ∀ j, Own i mo s ov j → σ0.objs.length ≤ j) : Ext σ0 τ ∧ ∀ j, Own i mo s' ov' j → σ0.objs.length ≤ j :=
  ⟨h.upd.toExt he hf, fun j hj => (h.own j hj).elim (hf j) fun hl => Nat.le_trans he.olen hl⟩
theorem v0_rd (σ : St) : RdS σ v0 1 (intsV .i64 []) := ⟨_, _, _, rfl, fun _ => rfl, .inl rfl⟩
theorem whyF : whyR [] 3 cgF = 0 := by decide
theorem whyF2 : whyR [cgF] 3 cgF = 5 := by decide
set_option maxRecDepth 100000 in
set_option maxHeartbeats 3200000 in
theorem awake_ok : CallA Try.prog 19 [] σ fun v σ' => v = .bool true ∧ Ext σ σ' := by
  refine fn_at Try.func19 (by decide) comp19 rfl fun Q q1 q2 => ?_
  have h00 : decide ((0 : Int) = 0) = true := by decide
  have h55 : decide ((5 : Int) = 5) = true := by decide
  have h11 : decide ((1 : Int) = 1) = true := by decide
  simp -implicitDefEqProofs only [go_sem, Nat.reduceBEq, Nat.reduceAdd, eq_self, true_and, and_true, and_self, List.getElem?_cons_zero, List.getElem?_cons_succ, Nat.reduceLeDiff, Nat.zero_add, Nat.reduceSub, Nat.le_refl, c19]
  refine call_at (new_ok (room := 3) rfl) ?_
  rintro v τ ⟨rfl, h0, he0⟩
  refine ⟨kept_none, ?_⟩
  have hf0 : ∀ j, Own (σ.objs.length + 1) (some σ.objs.length) (.sl true .pub 0 []) nilO j → σ.objs.length ≤ j := fun j hj => by
    rcases own_new hj with rfl | h
    · omega
    · cases h; omega
  simp -implicitDefEqProofs only [go_sem, Nat.reduceBEq, Nat.reduceAdd, eq_self, true_and, and_true, and_self, List.getElem?_cons_zero, List.getElem?_cons_succ, Nat.reduceLeDiff, Nat.zero_add, Nat.reduceSub, Nat.le_refl, h00]
  refine call_at first_ok ?_
  rintro v τ1 ⟨rfl, hτ⟩
  have hτ := hτ.symm
  subst hτ
  refine ⟨kept_none, ?_⟩
  simp -implicitDefEqProofs only [go_sem, Nat.reduceBEq, Nat.reduceAdd, eq_self, true_and, and_true, and_self, List.getElem?_cons_zero, List.getElem?_cons_succ, Nat.reduceLeDiff, Nat.zero_add, Nat.reduceSub, Nat.le_refl, Nat.lt_irrefl]
  refine call_at (add_ok h0 (by simp) (v0_rd _) (by decide)) ?_
  rintro v τ1 ⟨rfl, s1, ov1, P1, h1, hP1, k1, -⟩
  refine ⟨kept_none, ?_⟩
  obtain ⟨he1, hf1⟩ := k1.fresh he0 hf0
  have hL1 : cgL P1 = [cgF] := by rw [hP1]; decide
  have hw1 : whyR [] 3 cgF = 0 := whyF
  simp -implicitDefEqProofs only [go_sem, Nat.reduceBEq, Nat.reduceAdd, eq_self, true_and, and_true, and_self, List.getElem?_cons_zero, List.getElem?_cons_succ, Nat.reduceLeDiff, Nat.zero_add, Nat.reduceSub, Nat.le_refl, hw1, h00]
  refine call_at first_ok ?_
  rintro v τ2 ⟨rfl, hτ⟩
  have hτ := hτ.symm
  subst hτ
  refine ⟨kept_none, ?_⟩
  have hPl : P1.length = 1 := by have := congrArg List.length hL1; rw [List.length_map] at this; exact this
  simp -implicitDefEqProofs only [go_sem, Nat.reduceBEq, Nat.reduceAdd, eq_self, true_and, and_true, and_self, List.getElem?_cons_zero, List.getElem?_cons_succ, Nat.reduceLeDiff, Nat.zero_add, Nat.reduceSub, Nat.le_refl, Nat.lt_irrefl]
  refine call_at (add_ok h1 (by omega) (v0_rd _) (by decide)) ?_
  rintro v τ2 ⟨rfl, s2, ov2, P2, h2, hP2, k2, -⟩
  refine ⟨kept_none, ?_⟩
  obtain ⟨he2, hf2⟩ := k2.fresh he1 hf1
  rw [hL1] at hP2
  have hL2 : cgL P2 = [cgF] := by rw [hP2]; decide
  have hPl2 : P2.length = 1 := by have := congrArg List.length hL2; rw [List.length_map] at this; exact this
  have hw2 : whyR (cgL P1) 3 cgF = 5 := by rw [hL1]; exact whyF2
  simp -implicitDefEqProofs only [go_sem, Nat.reduceBEq, Nat.reduceAdd, eq_self, true_and, and_true, and_self, List.getElem?_cons_zero, List.getElem?_cons_succ, Nat.reduceLeDiff, Nat.zero_add, Nat.reduceSub, Nat.le_refl, hw2, h55]
  refine call_at (len_ok h2) ?_
  rintro v τ3 ⟨rfl, hτ⟩
  have hτ := hτ.symm
  subst hτ
  refine ⟨kept_none, ?_⟩
  have hll : decide ((P2.length : Int) = 1) = true := by rw [hPl2]; rfl
  simp -implicitDefEqProofs only [go_sem, Nat.reduceBEq, Nat.reduceAdd, eq_self, true_and, and_true, and_self, List.getElem?_cons_zero, List.getElem?_cons_succ, Nat.reduceLeDiff, Nat.zero_add, Nat.reduceSub, Nat.le_refl, hll]
  refine call_at (last_ok h2 (by omega)) ?_
  rintro v τ3 ⟨rfl, hτ⟩
  have hτ := hτ.symm
  subst hτ
  refine ⟨kept_none, ?_⟩
  have hla : decide (lastR (cgL P2) = 1) = true := by rw [hL2]; decide
  simp -implicitDefEqProofs only [go_sem, Nat.reduceBEq, Nat.reduceAdd, eq_self, true_and, and_true, and_self, List.getElem?_cons_zero, List.getElem?_cons_succ, Nat.reduceLeDiff, Nat.zero_add, Nat.reduceSub, Nat.le_refl, hla]
  refine q2 _ _ ?_
  simp -implicitDefEqProofs only [go_sem, Nat.reduceBEq, Nat.reduceAdd, eq_self, true_and, and_true, and_self, List.getElem?_cons_zero, List.getElem?_cons_succ, Nat.reduceLeDiff, Nat.zero_add, Nat.reduceSub, Nat.le_refl, Nat.lt_irrefl]
  exact he2
/-- A late slice. -/
def FrD (lo : Nat) (τ : St) (p : V × Cg) : Prop := ∃ q, p.1 = .sl false (.own q) 1 (intsV .i64 p.2.deps) ∧ τ.live[q]? = some true ∧ lo ≤ q
theorem FrD.keep {lo : Nat} {τ τ' : St} {p : V × Cg} (h : FrD lo τ p) (k : ∀ r, lo ≤ r → τ.live[r]? = some true → τ'.live[r]? = some true) : FrD lo τ' p := by
  obtain ⟨q, h1, h2, h3⟩ := h
  exact ⟨q, h1, k _ h3 h2, h3⟩
/-- The log of some changes. -/
def logR (gs : List Cg) (room : Int) : List Cg := gs.foldl (fun L g => addR L room g) []
theorem logR_snoc (gs : List Cg) (g : Cg) (room : Int) : logR (gs ++ [g]) room = addR (logR gs room) room g := by simp [logR]
theorem logR_take {gs : List Cg} {y : Nat} (h : y < gs.length) (room : Int) : logR (gs.take (y + 1)) room = addR (logR (gs.take y) room) room gs[y] := by
  rw [List.take_succ_eq_append_getElem h, logR_snoc]
theorem addR_room {L : List Cg} {room : Int} {g : Cg} (h : L.length ≤ room.toNat) : (addR L room g).length ≤ room.toNat := by
  unfold addR
  cases hc : decide (whyR L room g = 0)
  · exact h
  · have := (why_fits (of_decide_eq_true hc)).room
    rw [cond_true, putC_len]; omega
theorem logR_good (gs : List Cg) (room : Int) : Good (logR gs room) := by
  unfold logR
  suffices ∀ (gs : List Cg) (L : List Cg), Good L → Good (gs.foldl (fun L g => addR L room g) L) from this gs [] good_nil
  intro gs
  induction gs with
  | nil => intro L h; exact h
  | cons a t ih => intro L h; exact ih _ (addR_good h)
theorem logR_room (gs : List Cg) (room : Int) : (logR gs room).length ≤ room.toNat := by
  unfold logR
  suffices ∀ (gs : List Cg) (L : List Cg), L.length ≤ room.toNat → (gs.foldl (fun L g => addR L room g) L).length ≤ room.toNat from this gs [] (Nat.zero_le _)
  intro gs
  induction gs with
  | nil => intro L h; exact h
  | cons a t ih => intro L h; exact ih _ (addR_room h)
theorem RdC.isSl {σ : St} {v : V} {gs : List Cg} (h : RdC σ v gs) : ∃ b R z es, v = V.sl b R z es := by
  obtain ⟨_, _, h, _⟩ := h
  obtain ⟨b, R, z, rfl, -, -⟩ := h
  exact ⟨b, R, z, _, rfl⟩
set_option maxRecDepth 100000 in
set_option maxHeartbeats 4000000 in
theorem filled_ok (hr : (decide (room < 1) || decide (room > 4096)) = false) (hv : RdC σ v gs) (hgs : gs.length ≤ 90000) (hb : ∀ g ∈ gs, g.deps.length + g.name.length + g.val.length < 1048576) :
    CallA Try.prog 12 [.int .i64 room, v] σ fun w σ' => ∃ i m s ov P u, w = .tup [.ptr (some (i, 0)), .agg [.int .i64 room, u]] ∧ LogIs σ' i (some m) s ov room P ∧ cgL P = logR gs room ∧ RdC σ' u (logR gs room) ∧ Ext σ σ' ∧ (∀ j, Own i (some m) s ov j → σ.objs.length ≤ j) ∧ ∀ p ∈ P, FrD σ.live.length σ' p := by
  obtain ⟨l, rfl, hv2, hds⟩ := id hv
  obtain ⟨b, R, z, rfl, -, -⟩ := id hv2
  have hr' := hr
  rw [Bool.or_eq_false_iff, decide_eq_false_iff_not, decide_eq_false_iff_not] at hr'
  refine fn_at Try.func12 (by decide) comp12 rfl fun Q q1 q2 => ?_
  have hcl := cgsV_len l
  rw [List.length_map] at hgs
  simp -implicitDefEqProofs only [go_sem, Nat.reduceBEq, Nat.reduceAdd, eq_self, true_and, and_true, and_self, List.getElem?_cons_zero, List.getElem?_cons_succ, Nat.reduceLeDiff, Nat.zero_add, Nat.reduceSub, Nat.le_refl, c12]
  refine call_at (new_ok hr) ?_
  rintro w τ ⟨rfl, h0, he0⟩
  refine ⟨kept_none, ?_⟩
  have hf0 : ∀ j, Own (σ.objs.length + 1) (some σ.objs.length) (.sl true .pub 0 []) nilO j → σ.objs.length ≤ j := fun j hj => by
    rcases own_new hj with rfl | h
    · omega
    · cases h; omega
  generalize σ.objs.length + 1 = i at h0 hf0 ⊢
  generalize hm : σ.objs.length = m at h0 hf0
  simp -implicitDefEqProofs only [go_sem, Nat.reduceBEq, Nat.reduceAdd, eq_self, true_and, and_true, and_self, List.getElem?_cons_zero, List.getElem?_cons_succ, Nat.reduceLeDiff, Nat.zero_add, Nat.reduceSub, Nat.le_refl, flats, V.flat]
  refine loop_at (fun (y : Nat × V) => ⟨[(1, .v (.sl b R z (cgsV l))), (5, .loc 5 0), (6, .v (.ptr (some (i, 0)))), (8, .loc 8 0), (9, .v (.int .i64 y.1))], [(5, [.int .i64 0, .sl true .pub 0 []]), (8, [.int .i64 room, y.2])]⟩)
    (fun y t => y.1 ≤ l.length ∧ Ext σ t ∧ RdC t y.2 (logR ((l.map (·.2)).take y.1) room) ∧ ∃ s ov P, LogIs t i (some m) s ov room P ∧ cgL P = logR ((l.map (·.2)).take y.1) room ∧ (∀ j, Own i (some m) s ov j → σ.objs.length ≤ j) ∧ ∀ p ∈ P, FrD σ.live.length t p) (fun y => l.length - y.1) (0, .sl true .pub 0 []) ?_ ?_ ?_
  · refine .inr ?_
    simp -implicitDefEqProofs only [go_sem, Nat.reduceBEq, Nat.reduceAdd, eq_self, true_and, and_true, and_self, List.getElem?_cons_zero, List.getElem?_cons_succ, Nat.reduceLeDiff, Nat.zero_add, Nat.reduceSub, Nat.le_refl, Nat.lt_irrefl]
    try exact ⟨rfl, rfl⟩
    try exact rfl
  · exact ⟨Nat.zero_le _, he0, ⟨[], rfl, ⟨_, _, _, rfl, fun _ => rfl, .inl rfl⟩, by intro p hp; cases hp⟩, _, _, [], h0, rfl, (by rw [hm]; exact hf0), by intro p hp; cases hp⟩
  rintro ⟨y, u⟩ t ⟨g1, g2, g3, s, ov, P, g4, g5, g6, g7⟩ Z z1 z2 z3
  simp only at g1 g3 g5
  have hPr : P.length ≤ 4096 := by
    have h1 := logR_room ((l.map (·.2)).take y) room
    rw [← g5, map2_len] at h1
    omega
  simp -implicitDefEqProofs only [go_sem, Nat.reduceBEq, Nat.reduceAdd, eq_self, true_and, and_true, and_self, List.getElem?_cons_zero, List.getElem?_cons_succ, Nat.reduceLeDiff, Nat.zero_add, Nat.reduceSub, Nat.le_refl, hcl]
  cases hc : decide ((y : Int) < l.length)
  · have hy : y = l.length := by have := of_decide_eq_false hc; omega
    rw [List.take_of_length_le (by rw [List.length_map]; omega)] at g3 g5
    obtain ⟨b3, R3, z3', es3, rfl⟩ := g3.isSl
    simp -implicitDefEqProofs only [go_sem, Nat.reduceBEq, Nat.reduceAdd, eq_self, true_and, and_true, and_self, List.getElem?_cons_zero, List.getElem?_cons_succ, Nat.reduceLeDiff, Nat.zero_add, Nat.reduceSub, Nat.le_refl, hc]
    refine z2 _ _ _ ?_
    simp -implicitDefEqProofs only [go_sem, Nat.reduceBEq, Nat.reduceAdd, eq_self, true_and, and_true, and_self, List.getElem?_cons_zero, List.getElem?_cons_succ, Nat.reduceLeDiff, Nat.zero_add, Nat.reduceSub, Nat.le_refl, flats, V.flat]
    refine q2 _ _ ?_
    simp -implicitDefEqProofs only [go_sem, Nat.reduceBEq, Nat.reduceAdd, eq_self, true_and, and_true, and_self, List.getElem?_cons_zero, List.getElem?_cons_succ, Nat.reduceLeDiff, Nat.zero_add, Nat.reduceSub, Nat.le_refl, Nat.lt_irrefl]
    exact ⟨_, _, s, ov, P, _, rfl, g4, g5, g3, g2, g6, g7⟩
  · have hi : y < l.length := by have := of_decide_eq_true hc; omega
    have hget := cgsV_get hi
    have hwy : IntKind.i64.wrap ((y : Int) + 1) = ((y + 1 : Nat) : Int) := by rw [i64_in _ (by omega)]; omega
    obtain ⟨k1, k2⟩ := rdl (hv2.ext g2) (cgsV_ne hi)
    have hdi := hds _ (List.getElem_mem hi)
    have hbi := hb _ (List.mem_map_of_mem (List.getElem_mem hi))
    have htk : logR ((l.map (·.2)).take (y + 1)) room = addR (logR ((l.map (·.2)).take y) room) room l[y].2 := by
      rw [logR_take (by simpa using hi)]; simp
    generalize l[y] = p at hget htk hdi hbi
    obtain ⟨d2, g⟩ := p
    simp only at hget htk hdi hbi
    obtain ⟨db, dr, dz, rfl, -, -⟩ := id hdi
    have had := add_ok g4 (by omega) (hdi.ext g2) (by omega)
    simp only [cgV, cgC] at had
    simp -implicitDefEqProofs only [go_sem, Nat.reduceBEq, Nat.reduceAdd, eq_self, true_and, and_true, and_self, List.getElem?_cons_zero, List.getElem?_cons_succ, Nat.reduceLeDiff, Nat.zero_add, Nat.reduceSub, Nat.le_refl, hc, hcl, hget, cgC]
    refine ⟨⟨by omega, by omega, k2⟩, k1, ?_⟩
    refine call_at had ?_
    rintro w t1 ⟨rfl, s1, ov1, P1, h1, hP1, kt, hnw⟩
    refine ⟨kept_none, ?_⟩
    obtain ⟨he1, hf1⟩ := kt.fresh g2 g6
    have g3' : RdC t1 u (logR ((l.map (·.2)).take y) room) := by
      obtain ⟨l', e1, e2, e3⟩ := g3
      exact ⟨l', e1, rdS_up e2 kt.upd, fun p hp => rdS_up (e3 p hp) kt.upd⟩
    obtain ⟨b3, R3, z3', es3, rfl⟩ := g3.isSl
    have hgd := logR_good ((l.map (·.2)).take y) room
    have hra := radd_ok (room := room) (σ := t1) (d := .sl db dr dz (intsV .i64 g.deps)) (g := g) g3' (by rw [← g5, map2_len]; omega) (hdi.ext he1) (by omega) (fun h hh => by have := hgd.deps h hh; omega) (by omega)
    simp only [cgV, cgC] at hra
    obtain ⟨k1', k2'⟩ := rdl (hv2.ext he1) (cgsV_ne hi)
    simp -implicitDefEqProofs only [go_sem, Nat.reduceBEq, Nat.reduceAdd, eq_self, true_and, and_true, and_self, List.getElem?_cons_zero, List.getElem?_cons_succ, Nat.reduceLeDiff, Nat.zero_add, Nat.reduceSub, Nat.le_refl, hc, hcl, hget, cgC]
    refine ⟨⟨by omega, by omega, k2'⟩, k1', ?_⟩
    refine call_at hra ?_
    rintro w t2 ⟨⟨u2, rfl, hu2⟩, e2, o2⟩
    refine ⟨e2.kept, ?_⟩
    obtain ⟨b4, R4, z4, es4, rfl⟩ := hu2.isSl
    simp -implicitDefEqProofs only [go_sem, Nat.reduceBEq, Nat.reduceAdd, eq_self, true_and, and_true, and_self, List.getElem?_cons_zero, List.getElem?_cons_succ, Nat.reduceLeDiff, Nat.zero_add, Nat.reduceSub, Nat.le_refl, hwy, flats, V.flat]
    refine z1 (y + 1, _) _ _ (.inr ?_) (by simp only; omega) ⟨by simp only; omega, he1.trans e2, by rw [htk]; exact hu2, s1, ov1, P1, h1.ext e2, by rw [htk, hP1, g5], hf1, fun p hp => ?_⟩
    · simp -implicitDefEqProofs only [go_sem, Nat.reduceBEq, Nat.reduceAdd, eq_self, true_and, and_true, and_self, List.getElem?_cons_zero, List.getElem?_cons_succ, Nat.reduceLeDiff, Nat.zero_add, Nat.reduceSub, Nat.le_refl, hwy]
      try exact ⟨rfl, rfl⟩
      try exact rfl
    · rcases hnw p hp with hp | ⟨q, x1, x2, x3⟩
      · exact (g7 p hp).keep fun r _ hr => e2.live _ (kt.upd.live _ hr)
      · exact ⟨q, x1, e2.live _ x2, Nat.le_trans g2.llen x3⟩
set_option maxRecDepth 100000 in
set_option maxHeartbeats 4000000 in
theorem told_ok {u : V} (h : LogIs σ i mo s ov room P) (hl : P.length ≤ 1000000) (hu : RdC σ u (cgL P)) :
    CallA Try.prog 36 [.ptr (some (i, 0)), .agg [.int .i64 room, u]] σ fun w σ' => w = .bool true ∧ Ext σ σ' := by
  obtain ⟨b, R, z, es, rfl⟩ := hu.isSl
  have hesl : es.length = P.length := by
    obtain ⟨l, e1, ⟨_, _, _, e2, -, -⟩, -⟩ := hu
    cases e2
    rw [cgsV_len, ← map2_len, e1, map2_len]
  refine fn_at Try.func36 (by decide) comp36 rfl fun Q q1 q2 => ?_
  simp -implicitDefEqProofs only [go_sem, Nat.reduceBEq, Nat.reduceAdd, eq_self, true_and, and_true, and_self, List.getElem?_cons_zero, List.getElem?_cons_succ, Nat.reduceLeDiff, Nat.zero_add, Nat.reduceSub, Nat.le_refl, c36]
  refine call_at (len_ok h) ?_
  rintro w τ ⟨rfl, hτ⟩
  have hτ := hτ.symm
  subst hτ
  refine ⟨(Ext.refl _).kept, ?_⟩
  have hd1 : decide ((P.length : Int) = es.length) = true := by rw [hesl]; simp
  simp -implicitDefEqProofs only [go_sem, Nat.reduceBEq, Nat.reduceAdd, eq_self, true_and, and_true, and_self, List.getElem?_cons_zero, List.getElem?_cons_succ, Nat.reduceLeDiff, Nat.zero_add, Nat.reduceSub, Nat.le_refl, hd1]
  refine call_at (room_ok h) ?_
  rintro w τ ⟨rfl, hτ⟩
  have hτ := hτ.symm
  subst hτ
  refine ⟨(Ext.refl _).kept, ?_⟩
  simp -implicitDefEqProofs only [go_sem, Nat.reduceBEq, Nat.reduceAdd, eq_self, true_and, and_true, and_self, List.getElem?_cons_zero, List.getElem?_cons_succ, Nat.reduceLeDiff, Nat.zero_add, Nat.reduceSub, Nat.le_refl, Nat.lt_irrefl]
  refine call_at (last_ok h hl) ?_
  rintro w τ ⟨rfl, hτ⟩
  have hτ := hτ.symm
  subst hτ
  refine ⟨(Ext.refl _).kept, ?_⟩
  simp -implicitDefEqProofs only [go_sem, Nat.reduceBEq, Nat.reduceAdd, eq_self, true_and, and_true, and_self, List.getElem?_cons_zero, List.getElem?_cons_succ, Nat.reduceLeDiff, Nat.zero_add, Nat.reduceSub, Nat.le_refl, Nat.lt_irrefl]
  refine call_at (rlast_ok hu (by rw [map2_len]; exact hl)) ?_
  rintro w τ ⟨rfl, hτ⟩
  have hτ := hτ.symm
  subst hτ
  refine ⟨(Ext.refl _).kept, ?_⟩
  simp -implicitDefEqProofs only [go_sem, Nat.reduceBEq, Nat.reduceAdd, eq_self, true_and, and_true, and_self, List.getElem?_cons_zero, List.getElem?_cons_succ, Nat.reduceLeDiff, Nat.zero_add, Nat.reduceSub, Nat.le_refl, Nat.lt_irrefl]
  refine call_at (pclock_ok h) ?_
  rintro w τ ⟨⟨o1, z1, t1, r1⟩, e1⟩
  refine ⟨e1.kept, ?_⟩
  simp -implicitDefEqProofs only [go_sem, Nat.reduceBEq, Nat.reduceAdd, eq_self, true_and, and_true, and_self, List.getElem?_cons_zero, List.getElem?_cons_succ, Nat.reduceLeDiff, Nat.zero_add, Nat.reduceSub, Nat.le_refl, Nat.lt_irrefl]
  refine call_at (rclk_ok (hu.ext e1) (by rw [map2_len]; omega)) ?_
  rintro w2 τ2 ⟨⟨o2, z2, t2, r2⟩, e2, -⟩
  refine ⟨e2.kept, ?_⟩
  have ho := t1.uniq t2
  subst ho
  have hol : o1.length ≤ 64 := by
    have := congrArg List.length t1.1
    rw [cnts_len, List.length_append] at this
    omega
  simp -implicitDefEqProofs only [go_sem, Nat.reduceBEq, Nat.reduceAdd, eq_self, true_and, and_true, and_self, List.getElem?_cons_zero, List.getElem?_cons_succ, Nat.reduceLeDiff, Nat.zero_add, Nat.reduceSub, Nat.le_refl, Nat.lt_irrefl]
  refine call_at (rsame_ok (r1.ext e2) r2 (by omega)) ?_
  rintro w3 τ3 ⟨hτ, rfl⟩
  have hτ := hτ.symm
  subst hτ
  refine ⟨(Ext.refl _).kept, ?_⟩
  have e3 := e1.trans e2
  have hoo : decide (o1 = o1) = true := decide_eq_true rfl
  simp -implicitDefEqProofs only [go_sem, Nat.reduceBEq, Nat.reduceAdd, eq_self, true_and, and_true, and_self, List.getElem?_cons_zero, List.getElem?_cons_succ, Nat.reduceLeDiff, Nat.zero_add, Nat.reduceSub, Nat.le_refl, hoo]
  refine call_at (all_ok (h.ext e3) hl) ?_
  rintro w4 τ4 ⟨n1, e4⟩
  refine ⟨e4.kept, ?_⟩
  simp -implicitDefEqProofs only [go_sem, Nat.reduceBEq, Nat.reduceAdd, eq_self, true_and, and_true, and_self, List.getElem?_cons_zero, List.getElem?_cons_succ, Nat.reduceLeDiff, Nat.zero_add, Nat.reduceSub, Nat.le_refl, Nat.lt_irrefl]
  refine call_at (sameAll_ok n1.rd ((hu.ext e3).ext e4) (by rw [map2_len]; omega) fun g hg => by have := h.good.deps g hg; omega) ?_
  rintro w5 τ5 ⟨hτ, rfl⟩
  have hτ := hτ.symm
  subst hτ
  refine ⟨(Ext.refl _).kept, ?_⟩
  have hpp : decide (cgL P = cgL P) = true := decide_eq_true rfl
  simp -implicitDefEqProofs only [go_sem, Nat.reduceBEq, Nat.reduceAdd, eq_self, true_and, and_true, and_self, List.getElem?_cons_zero, List.getElem?_cons_succ, Nat.reduceLeDiff, Nat.zero_add, Nat.reduceSub, Nat.le_refl, hpp]
  refine q2 _ _ ?_
  simp -implicitDefEqProofs only [go_sem, Nat.reduceBEq, Nat.reduceAdd, eq_self, true_and, and_true, and_self, List.getElem?_cons_zero, List.getElem?_cons_succ, Nat.reduceLeDiff, Nat.zero_add, Nat.reduceSub, Nat.le_refl, Nat.lt_irrefl]
  exact e3.trans e4
set_option maxRecDepth 100000 in
set_option maxHeartbeats 4000000 in
theorem told_nil : CallA Try.prog 36 [.ptr none, .agg [.int .i64 0, .sl true .pub 0 []]] σ fun w σ' => w = .bool true ∧ Ext σ σ' := by
  have hu : ∀ τ : St, RdC τ (.sl true .pub 0 []) [] := fun τ => ⟨[], rfl, ⟨_, _, _, rfl, fun _ => rfl, .inl rfl⟩, by intro p hp; cases hp⟩
  refine fn_at Try.func36 (by decide) comp36 rfl fun Q q1 q2 => ?_
  have h00 : decide ((0 : Int) = ((0 : Nat) : Int)) = true := rfl
  have h01 : decide ((0 : Int) = 0) = true := rfl
  have hl0 : decide ((0 : Int) = lastR []) = true := rfl
  simp -implicitDefEqProofs only [go_sem, Nat.reduceBEq, Nat.reduceAdd, eq_self, true_and, and_true, and_self, List.getElem?_cons_zero, List.getElem?_cons_succ, Nat.reduceLeDiff, Nat.zero_add, Nat.reduceSub, Nat.le_refl, c36]
  refine call_at len_nil ?_
  rintro w τ ⟨rfl, hτ⟩
  have hτ := hτ.symm
  subst hτ
  refine ⟨(Ext.refl _).kept, ?_⟩
  simp -implicitDefEqProofs only [go_sem, Nat.reduceBEq, Nat.reduceAdd, eq_self, true_and, and_true, and_self, List.getElem?_cons_zero, List.getElem?_cons_succ, Nat.reduceLeDiff, Nat.zero_add, Nat.reduceSub, Nat.le_refl, h00]
  refine call_at room_nil ?_
  rintro w τ ⟨rfl, hτ⟩
  have hτ := hτ.symm
  subst hτ
  refine ⟨(Ext.refl _).kept, ?_⟩
  simp -implicitDefEqProofs only [go_sem, Nat.reduceBEq, Nat.reduceAdd, eq_self, true_and, and_true, and_self, List.getElem?_cons_zero, List.getElem?_cons_succ, Nat.reduceLeDiff, Nat.zero_add, Nat.reduceSub, Nat.le_refl, h01]
  refine call_at last_nil ?_
  rintro w τ ⟨rfl, hτ⟩
  have hτ := hτ.symm
  subst hτ
  refine ⟨(Ext.refl _).kept, ?_⟩
  simp -implicitDefEqProofs only [go_sem, Nat.reduceBEq, Nat.reduceAdd, eq_self, true_and, and_true, and_self, List.getElem?_cons_zero, List.getElem?_cons_succ, Nat.reduceLeDiff, Nat.zero_add, Nat.reduceSub, Nat.le_refl, Nat.lt_irrefl]
  refine call_at (rlast_ok (hu _) (by simp)) ?_
  rintro w τ ⟨rfl, hτ⟩
  have hτ := hτ.symm
  subst hτ
  refine ⟨(Ext.refl _).kept, ?_⟩
  simp -implicitDefEqProofs only [go_sem, Nat.reduceBEq, Nat.reduceAdd, eq_self, true_and, and_true, and_self, List.getElem?_cons_zero, List.getElem?_cons_succ, Nat.reduceLeDiff, Nat.zero_add, Nat.reduceSub, Nat.le_refl, hl0]
  refine call_at pclock_nil ?_
  rintro w τ ⟨rfl, hτ⟩
  have hτ := hτ.symm
  subst hτ
  refine ⟨(Ext.refl _).kept, ?_⟩
  simp -implicitDefEqProofs only [go_sem, Nat.reduceBEq, Nat.reduceAdd, eq_self, true_and, and_true, and_self, List.getElem?_cons_zero, List.getElem?_cons_succ, Nat.reduceLeDiff, Nat.zero_add, Nat.reduceSub, Nat.le_refl, Nat.lt_irrefl]
  refine call_at (rclk_ok (hu _) (by simp)) ?_
  rintro w2 τ2 ⟨⟨o2, z2, t2, r2⟩, e2, -⟩
  refine ⟨e2.kept, ?_⟩
  have t0 : Trims (cnts []) [] 64 := ⟨by rw [cnts_nil]; rfl, .inl rfl⟩
  have ho := t0.uniq t2
  subst ho
  simp -implicitDefEqProofs only [go_sem, Nat.reduceBEq, Nat.reduceAdd, eq_self, true_and, and_true, and_self, List.getElem?_cons_zero, List.getElem?_cons_succ, Nat.reduceLeDiff, Nat.zero_add, Nat.reduceSub, Nat.le_refl, Nat.lt_irrefl]
  refine call_at (rsame_ok (l := []) ⟨_, _, _, rfl, fun _ => rfl, .inl rfl⟩ r2 (by simp)) ?_
  rintro w3 τ3 ⟨hτ, rfl⟩
  have hτ := hτ.symm
  subst hτ
  refine ⟨(Ext.refl _).kept, ?_⟩
  have hoo : decide (([] : List Int) = []) = true := rfl
  simp -implicitDefEqProofs only [go_sem, Nat.reduceBEq, Nat.reduceAdd, eq_self, true_and, and_true, and_self, List.getElem?_cons_zero, List.getElem?_cons_succ, Nat.reduceLeDiff, Nat.zero_add, Nat.reduceSub, Nat.le_refl, hoo]
  refine call_at all_nil ?_
  rintro w4 τ4 ⟨n1, e4⟩
  refine ⟨e4.kept, ?_⟩
  simp -implicitDefEqProofs only [go_sem, Nat.reduceBEq, Nat.reduceAdd, eq_self, true_and, and_true, and_self, List.getElem?_cons_zero, List.getElem?_cons_succ, Nat.reduceLeDiff, Nat.zero_add, Nat.reduceSub, Nat.le_refl, Nat.lt_irrefl]
  refine call_at (sameAll_ok n1.rd (hu _) (by simp) fun g hg => by cases hg) ?_
  rintro w5 τ5 ⟨hτ, rfl⟩
  have hτ := hτ.symm
  subst hτ
  refine ⟨(Ext.refl _).kept, ?_⟩
  have hpp : decide (([] : List Cg) = []) = true := rfl
  simp -implicitDefEqProofs only [go_sem, Nat.reduceBEq, Nat.reduceAdd, eq_self, true_and, and_true, and_self, List.getElem?_cons_zero, List.getElem?_cons_succ, Nat.reduceLeDiff, Nat.zero_add, Nat.reduceSub, Nat.le_refl, hpp]
  refine q2 _ _ ?_
  simp -implicitDefEqProofs only [go_sem, Nat.reduceBEq, Nat.reduceAdd, eq_self, true_and, and_true, and_self, List.getElem?_cons_zero, List.getElem?_cons_succ, Nat.reduceLeDiff, Nat.zero_add, Nat.reduceSub, Nat.le_refl, Nat.lt_irrefl]
  exact e2.trans e4
end
end Go.VL.opl

namespace Go.VL.opl
open Go Go.VL Go.Proofs
/-- topiary/topiarylaw07.OplogGoes: 3 parameters, 117 slots. -/
def c3 : C :=
  .seq (.ops [⟨none, .bxH 5 (.t 2)⟩,
    ⟨none, .alH 6 [.bool false]⟩])
  (.seq (.ops [⟨none, .mv 19 (.t 0)⟩,
    ⟨none, .ca (some 20) 12 [(.c (.int .i64 50)), (.t 19)]⟩,
    ⟨none, .mv 18 (.t 20)⟩,
    ⟨none, .ex 21 (.t 18) 0⟩,
    ⟨none, .ex 22 (.t 18) 1⟩,
    ⟨none, .alL 8 [.int .i64 0, .sl true .pub 0 []]⟩,
    ⟨none, .mv 7 (.t 21)⟩,
    ⟨none, .st (.t 8) (.t 22) 2⟩])
  (.seq (.ops [⟨none, .lit 23 1 []⟩,
    ⟨none, .mv 24 (.t 1)⟩,
    ⟨none, .ap 25 1 (.t 23) (.t 24)⟩,
    ⟨none, .mv 9 (.t 25)⟩])
  (.seq (.ops [⟨none, .mv 26 (.t 7)⟩,
    ⟨none, .mv 27 (.t 9)⟩,
    ⟨none, .ca (some 28) 13 [(.t 26), (.t 27)]⟩,
    ⟨none, .mv 10 (.t 28)⟩])
  (.seq (.seq (.ops [⟨none, .mv 29 (.t 10)⟩,
    ⟨none, .bq 30 false .fn (.t 29) (.c (.nilf))⟩])
  (.cond (.t 30) (.seq (.ops [⟨none, .st (.t 6) (.c (.bool false)) 1⟩])
    (.ret))
    (.skip)))
  (.seq (.seq (.ops [⟨none, .mv 11 (.c (.int .i64 0))⟩])
  (.block 0 (.loop (.seq (.seq (.ops [⟨none, .mv 31 (.t 11)⟩,
    ⟨none, .mv 32 (.t 9)⟩,
    ⟨none, .ln 33 .sl (.t 32)⟩,
    ⟨none, .bi 34 .lss (.t 31) (.t 33)⟩])
  (.cond (.t 34) (.skip)
    (.exit 0)))
  (.seq (.block 1 (.ops [⟨none, .mv 37 (.t 9)⟩,
    ⟨none, .mv 38 (.t 11)⟩,
    ⟨none, .ia 39 (.t 37) (.t 38) 1⟩,
    ⟨none, .se (.t 39) (.c (.int .i64 1)) 1⟩]))
  (.ops [⟨none, .mv 35 (.t 11)⟩,
    ⟨none, .bi 36 .add (.t 35) (.c (.int .i64 1))⟩,
    ⟨none, .mv 11 (.t 36)⟩]))))))
  (.seq (.ops [⟨none, .mv 40 (.t 7)⟩,
    ⟨none, .ca (some 41) 15 []⟩,
    ⟨none, .ca (some 42) 14 [(.t 40), (.t 41)]⟩])
  (.seq (.ops [⟨none, .lit 43 13 []⟩,
    ⟨none, .alH 12 [.sl true .pub 0 []]⟩,
    ⟨none, .st (.t 12) (.t 43) 1⟩])
  (.cut (.seq (.ops [⟨none, .mv 44 (.t 1)⟩,
    ⟨none, .ca (some 45) 16 [(.t 44)]⟩,
    ⟨none, .bi 46 .eql (.t 45) (.c (.int .i64 0))⟩])
  (.cond (.t 46) (.ops [⟨none, .fa 47 (.t 8) 1⟩,
      ⟨none, .ld 48 (.t 47) 1 false⟩,
      ⟨none, .mv 49 (.t 1)⟩,
      ⟨none, .ca (some 50) 17 [(.t 48), (.t 49)]⟩,
      ⟨none, .st (.t 12) (.t 50) 1⟩])
    (.skip)))
  (.seq (.ops [⟨none, .alH 13 [.int .i64 0]⟩,
    ⟨none, .st (.t 13) (.c (.int .i64 0)) 1⟩])
  (.cut (.seq (.ops [⟨none, .mv 51 (.t 10)⟩])
  (.block 2 (.range (.t 51) [52] (.ops [⟨none, .alL 14 [.int .i64 0, .int .i64 0, .int .i64 0, .sl true .pub 0 [], .int .i64 0, .int .i64 0, .int .i64 0, .int .i64 0, .int .i64 0, .int .i64 0, .int .i64 0, .str [], .str []]⟩,
    ⟨none, .st (.t 14) (.t 52) 13⟩])
  (.block 3 (.seq (.seq (.ops [⟨none, .ld 53 (.t 13) 1 false⟩,
    ⟨none, .ld 54 (.t 5) 1 false⟩,
    ⟨none, .bi 55 .eql (.t 53) (.t 54)⟩])
  (.cond (.t 55) (.exit 2)
    (.skip)))
  (.seq (.seq (.opsD [⟨none, .ld 56 (.t 13) 1 false⟩,
    ⟨none, .ld 57 (.t 12) 1 false⟩,
    ⟨none, .ln 58 .sl (.t 57)⟩,
    ⟨none, .bi 59 .geq (.t 56) (.t 58)⟩,
    ⟨none, .mv 60 (.t 59)⟩,
    ⟨some (60, false), .ld 61 (.t 14) 13 true⟩,
    ⟨some (60, false), .ld 62 (.t 12) 1 false⟩,
    ⟨some (60, false), .ld 63 (.t 13) 1 false⟩,
    ⟨some (60, false), .ia 64 (.t 62) (.t 63) 13⟩,
    ⟨some (60, false), .ld 65 (.t 64) 13 true⟩,
    ⟨some (60, false), .ca (some 66) 18 [(.t 61), (.t 65)]⟩,
    ⟨some (60, false), .un 67 .not (.t 66)⟩,
    ⟨none, .pk 68 (.t 60) (.c (.bool true)) (.t 67)⟩])
  (.cond (.t 68) (.seq (.ops [⟨none, .st (.t 6) (.c (.bool false)) 1⟩])
    (.ret))
    (.skip)))
  (.seq (.ops [⟨none, .ld 69 (.t 13) 1 false⟩,
    ⟨none, .bi 70 .add (.t 69) (.c (.int .i64 1))⟩,
    ⟨none, .st (.t 13) (.t 70) 1⟩])
  (.seq (.ops [⟨none, .mv 15 (.c (.int .i64 0))⟩])
  (.block 4 (.loop (.seq (.seq (.ops [⟨none, .mv 71 (.t 15)⟩,
    ⟨none, .fa 72 (.t 14) 3⟩,
    ⟨none, .ld 73 (.t 72) 1 false⟩,
    ⟨none, .ln 74 .sl (.t 73)⟩,
    ⟨none, .bi 75 .lss (.t 71) (.t 74)⟩])
  (.cond (.t 75) (.skip)
    (.exit 4)))
  (.seq (.block 5 (.ops [⟨none, .fa 78 (.t 14) 3⟩,
    ⟨none, .ld 79 (.t 78) 1 false⟩,
    ⟨none, .mv 80 (.t 15)⟩,
    ⟨none, .ia 81 (.t 79) (.t 80) 1⟩,
    ⟨none, .se (.t 81) (.c (.int .i64 (-7))) 1⟩]))
  (.ops [⟨none, .mv 76 (.t 15)⟩,
    ⟨none, .bi 77 .add (.t 76) (.c (.int .i64 1))⟩,
    ⟨none, .mv 15 (.t 77)⟩])))))))))))))
  (.seq (.ops [⟨none, .alH 16 [.int .i64 0]⟩,
    ⟨none, .st (.t 16) (.c (.int .i64 0)) 1⟩])
  (.seq (.seq (.ops [⟨none, .mv 82 (.t 10)⟩])
  (.block 6 (.range (.t 82) [83] (.ops [⟨none, .alL 17 [.int .i64 0, .int .i64 0, .int .i64 0, .sl true .pub 0 [], .int .i64 0, .int .i64 0, .int .i64 0, .int .i64 0, .int .i64 0, .int .i64 0, .int .i64 0, .str [], .str []]⟩,
    ⟨none, .st (.t 17) (.t 83) 13⟩])
  (.block 7 (.seq (.seq (.opsD [⟨none, .ld 84 (.t 16) 1 false⟩,
    ⟨none, .ld 85 (.t 12) 1 false⟩,
    ⟨none, .ln 86 .sl (.t 85)⟩,
    ⟨none, .bi 87 .geq (.t 84) (.t 86)⟩,
    ⟨none, .mv 88 (.t 87)⟩,
    ⟨some (88, false), .ld 89 (.t 17) 13 true⟩,
    ⟨some (88, false), .ld 90 (.t 12) 1 false⟩,
    ⟨some (88, false), .ld 91 (.t 16) 1 false⟩,
    ⟨some (88, false), .ia 92 (.t 90) (.t 91) 13⟩,
    ⟨some (88, false), .ld 93 (.t 92) 13 true⟩,
    ⟨some (88, false), .ca (some 94) 18 [(.t 89), (.t 93)]⟩,
    ⟨some (88, false), .un 95 .not (.t 94)⟩,
    ⟨none, .pk 96 (.t 88) (.c (.bool true)) (.t 95)⟩])
  (.cond (.t 96) (.seq (.ops [⟨none, .st (.t 6) (.c (.bool false)) 1⟩])
    (.ret))
    (.skip)))
  (.ops [⟨none, .ld 97 (.t 16) 1 false⟩,
    ⟨none, .bi 98 .add (.t 97) (.c (.int .i64 1))⟩,
    ⟨none, .st (.t 16) (.t 98) 1⟩]))))))
  (.seq (.ops [⟨none, .ld 99 (.t 16) 1 false⟩,
    ⟨none, .ld 100 (.t 12) 1 false⟩,
    ⟨none, .ln 101 .sl (.t 100)⟩,
    ⟨none, .bi 102 .eql (.t 99) (.t 101)⟩,
    ⟨none, .mv 103 (.t 102)⟩,
    ⟨some (103, true), .ld 104 (.t 13) 1 false⟩,
    ⟨some (103, true), .ld 105 (.t 12) 1 false⟩,
    ⟨some (103, true), .ln 106 .sl (.t 105)⟩,
    ⟨some (103, true), .bi 107 .eql (.t 104) (.t 106)⟩,
    ⟨some (103, true), .mv 108 (.t 107)⟩,
    ⟨some (108, false), .ld 109 (.t 13) 1 false⟩,
    ⟨some (108, false), .ld 110 (.t 5) 1 false⟩,
    ⟨some (108, false), .bi 111 .eql (.t 109) (.t 110)⟩,
    ⟨some (103, true), .pk 112 (.t 108) (.c (.bool true)) (.t 111)⟩,
    ⟨none, .pk 113 (.t 103) (.t 112) (.c (.bool false))⟩,
    ⟨none, .mv 114 (.t 113)⟩,
    ⟨some (114, true), .ca (some 115) 19 []⟩,
    ⟨none, .pk 116 (.t 114) (.t 115) (.c (.bool false))⟩,
    ⟨none, .st (.t 6) (.t 116) 1⟩])
  (.ret))))))))))))))
theorem comp3 : compFn Try.prog [8, 14, 17, 1000039, 1000081] Try.f3 = some ([.c 6 1 false], c3) := by kernel_rfl
/-- topiary/topiarylaw07.OplogFinds: 2 parameters, 117 slots. -/
def c4 : C :=
  .seq (.ops [⟨none, .bxL 3 (.t 1)⟩,
    ⟨none, .mv 4 (.c (.bool false))⟩])
  (.seq (.ops [⟨none, .mv 14 (.t 0)⟩,
    ⟨none, .ca (some 15) 12 [(.c (.int .i64 50)), (.t 14)]⟩,
    ⟨none, .mv 13 (.t 15)⟩,
    ⟨none, .ex 16 (.t 13) 0⟩,
    ⟨none, .ex 17 (.t 13) 1⟩,
    ⟨none, .alL 6 [.int .i64 0, .sl true .pub 0 []]⟩,
    ⟨none, .mv 5 (.t 16)⟩,
    ⟨none, .st (.t 6) (.t 17) 2⟩])
  (.seq (.ops [⟨none, .mv 19 (.t 5)⟩,
    ⟨none, .fa 20 (.t 3) 0⟩,
    ⟨none, .ld 21 (.t 20) 2 true⟩,
    ⟨none, .ca (some 22) 20 [(.t 19), (.t 21)]⟩,
    ⟨none, .mv 18 (.t 22)⟩,
    ⟨none, .ex 23 (.t 18) 0⟩,
    ⟨none, .ex 24 (.t 18) 1⟩,
    ⟨none, .alL 7 [.int .i64 0, .int .i64 0, .int .i64 0, .sl true .pub 0 [], .int .i64 0, .int .i64 0, .int .i64 0, .int .i64 0, .int .i64 0, .int .i64 0, .int .i64 0, .str [], .str []]⟩,
    ⟨none, .st (.t 7) (.t 23) 13⟩,
    ⟨none, .mv 8 (.t 24)⟩])
  (.seq (.ops [⟨none, .fa 25 (.t 6) 1⟩,
    ⟨none, .ld 26 (.t 25) 1 false⟩,
    ⟨none, .fa 27 (.t 3) 0⟩,
    ⟨none, .ld 28 (.t 27) 2 true⟩,
    ⟨none, .ca (some 29) 21 [(.t 26), (.t 28)]⟩,
    ⟨none, .mv 9 (.t 29)⟩])
  (.seq (.seq (.opsD [⟨none, .mv 30 (.t 8)⟩,
    ⟨none, .mv 31 (.t 9)⟩,
    ⟨none, .bi 32 .geq (.t 31) (.c (.int .i64 0))⟩,
    ⟨none, .bq 33 true .bool (.t 30) (.t 32)⟩,
    ⟨none, .mv 34 (.t 33)⟩,
    ⟨some (34, false), .mv 35 (.t 8)⟩,
    ⟨some (34, false), .mv 36 (.t 35)⟩,
    ⟨some (36, true), .ld 37 (.t 7) 13 true⟩,
    ⟨some (36, true), .fa 38 (.t 6) 1⟩,
    ⟨some (36, true), .ld 39 (.t 38) 1 false⟩,
    ⟨some (36, true), .mv 40 (.t 9)⟩,
    ⟨some (36, true), .ia 41 (.t 39) (.t 40) 13⟩,
    ⟨some (36, true), .ld 42 (.t 41) 13 true⟩,
    ⟨some (36, true), .ca (some 43) 18 [(.t 37), (.t 42)]⟩,
    ⟨some (36, true), .un 44 .not (.t 43)⟩,
    ⟨some (34, false), .pk 45 (.t 36) (.t 44) (.c (.bool false))⟩,
    ⟨none, .pk 46 (.t 34) (.c (.bool true)) (.t 45)⟩,
    ⟨none, .mv 47 (.t 46)⟩,
    ⟨some (47, false), .mv 48 (.t 8)⟩,
    ⟨some (47, false), .un 49 .not (.t 48)⟩,
    ⟨some (47, false), .mv 50 (.t 49)⟩,
    ⟨some (50, true), .ld 51 (.t 7) 13 true⟩,
    ⟨some (50, true), .bld 52 [.int .i64 0, .int .i64 0, .int .i64 0, .sl true .pub 0 [], .int .i64 0, .int .i64 0, .int .i64 0, .int .i64 0, .int .i64 0, .int .i64 0, .int .i64 0, .str [], .str []] []⟩,
    ⟨some (50, true), .ca (some 53) 18 [(.t 51), (.t 52)]⟩,
    ⟨some (50, true), .un 54 .not (.t 53)⟩,
    ⟨some (47, false), .pk 55 (.t 50) (.t 54) (.c (.bool false))⟩,
    ⟨none, .pk 56 (.t 47) (.c (.bool true)) (.t 55)⟩])
  (.cond (.t 56) (.seq (.ops [⟨none, .mv 4 (.c (.bool false))⟩])
    (.ret))
    (.skip)))
  (.seq (.ops [⟨none, .mv 58 (.t 5)⟩,
    ⟨none, .fa 59 (.t 3) 2⟩,
    ⟨none, .ld 60 (.t 59) 1 false⟩,
    ⟨none, .fa 61 (.t 3) 3⟩,
    ⟨none, .ld 62 (.t 61) 1 false⟩,
    ⟨none, .ca (some 63) 22 [(.t 58), (.t 60), (.t 62)]⟩,
    ⟨none, .mv 57 (.t 63)⟩,
    ⟨none, .ex 64 (.t 57) 0⟩,
    ⟨none, .ex 65 (.t 57) 1⟩,
    ⟨none, .alL 10 [.int .i64 0, .int .i64 0, .int .i64 0, .sl true .pub 0 [], .int .i64 0, .int .i64 0, .int .i64 0, .int .i64 0, .int .i64 0, .int .i64 0, .int .i64 0, .str [], .str []]⟩,
    ⟨none, .st (.t 10) (.t 64) 13⟩,
    ⟨none, .mv 11 (.t 65)⟩])
  (.seq (.ops [⟨none, .fa 66 (.t 6) 1⟩,
    ⟨none, .ld 67 (.t 66) 1 false⟩,
    ⟨none, .fa 68 (.t 3) 2⟩,
    ⟨none, .ld 69 (.t 68) 1 false⟩,
    ⟨none, .fa 70 (.t 3) 3⟩,
    ⟨none, .ld 71 (.t 70) 1 false⟩,
    ⟨none, .ca (some 72) 23 [(.t 67), (.t 69), (.t 71)]⟩,
    ⟨none, .mv 12 (.t 72)⟩])
  (.seq (.seq (.ops [⟨none, .fa 73 (.t 3) 2⟩,
    ⟨none, .ld 74 (.t 73) 1 false⟩,
    ⟨none, .bi 75 .lss (.t 74) (.c (.int .i64 0))⟩,
    ⟨none, .mv 76 (.t 75)⟩,
    ⟨some (76, false), .fa 77 (.t 3) 2⟩,
    ⟨some (76, false), .ld 78 (.t 77) 1 false⟩,
    ⟨some (76, false), .bi 79 .geq (.t 78) (.c (.int .i64 64))⟩,
    ⟨none, .pk 80 (.t 76) (.c (.bool true)) (.t 79)⟩])
  (.cond (.t 80) (.seq (.ops [⟨none, .mv 81 (.t 11)⟩,
      ⟨none, .bi 82 .eql (.t 81) (.c (.int .i64 1))⟩,
      ⟨none, .mv 83 (.t 82)⟩,
      ⟨some (83, true), .ld 84 (.t 10) 13 true⟩,
      ⟨some (83, true), .bld 85 [.int .i64 0, .int .i64 0, .int .i64 0, .sl true .pub 0 [], .int .i64 0, .int .i64 0, .int .i64 0, .int .i64 0, .int .i64 0, .int .i64 0, .int .i64 0, .str [], .str []] []⟩,
      ⟨some (83, true), .ca (some 86) 18 [(.t 84), (.t 85)]⟩,
      ⟨none, .pk 87 (.t 83) (.t 86) (.c (.bool false))⟩,
      ⟨none, .mv 88 (.t 87)⟩,
      ⟨some (88, true), .ca (some 89) 19 []⟩,
      ⟨none, .pk 90 (.t 88) (.t 89) (.c (.bool false))⟩,
      ⟨none, .mv 4 (.t 90)⟩])
    (.ret))
    (.skip)))
  (.seq (.seq (.ops [⟨none, .mv 91 (.t 12)⟩,
    ⟨none, .bi 92 .lss (.t 91) (.c (.int .i64 0))⟩])
  (.cond (.t 92) (.seq (.ops [⟨none, .mv 93 (.t 11)⟩,
      ⟨none, .bi 94 .eql (.t 93) (.c (.int .i64 4))⟩,
      ⟨none, .mv 95 (.t 94)⟩,
      ⟨some (95, true), .ld 96 (.t 10) 13 true⟩,
      ⟨some (95, true), .bld 97 [.int .i64 0, .int .i64 0, .int .i64 0, .sl true .pub 0 [], .int .i64 0, .int .i64 0, .int .i64 0, .int .i64 0, .int .i64 0, .int .i64 0, .int .i64 0, .str [], .str []] []⟩,
      ⟨some (95, true), .ca (some 98) 18 [(.t 96), (.t 97)]⟩,
      ⟨none, .pk 99 (.t 95) (.t 98) (.c (.bool false))⟩,
      ⟨none, .mv 100 (.t 99)⟩,
      ⟨some (100, true), .ca (some 101) 19 []⟩,
      ⟨none, .pk 102 (.t 100) (.t 101) (.c (.bool false))⟩,
      ⟨none, .mv 4 (.t 102)⟩])
    (.ret))
    (.skip)))
  (.seq (.opsD [⟨none, .mv 103 (.t 11)⟩,
    ⟨none, .bi 104 .eql (.t 103) (.c (.int .i64 0))⟩,
    ⟨none, .mv 105 (.t 104)⟩,
    ⟨some (105, true), .ld 106 (.t 10) 13 true⟩,
    ⟨some (105, true), .fa 107 (.t 6) 1⟩,
    ⟨some (105, true), .ld 108 (.t 107) 1 false⟩,
    ⟨some (105, true), .mv 109 (.t 12)⟩,
    ⟨some (105, true), .ia 110 (.t 108) (.t 109) 13⟩,
    ⟨some (105, true), .ld 111 (.t 110) 13 true⟩,
    ⟨some (105, true), .ca (some 112) 18 [(.t 106), (.t 111)]⟩,
    ⟨none, .pk 113 (.t 105) (.t 112) (.c (.bool false))⟩,
    ⟨none, .mv 114 (.t 113)⟩,
    ⟨some (114, true), .ca (some 115) 19 []⟩,
    ⟨none, .pk 116 (.t 114) (.t 115) (.c (.bool false))⟩,
    ⟨none, .mv 4 (.t 116)⟩])
  (.ret))))))))))
theorem comp4 : compFn Try.prog [3, 6, 7, 10] Try.f4 = some ([.t 4], c4) := by kernel_rfl
/-- topiary/topiarylaw07.OplogClosed: 2 parameters, 110 slots. -/
def c5 : C :=
  .seq (.ops [⟨none, .mv 4 (.c (.bool false))⟩])
  (.seq (.ops [⟨none, .mv 15 (.t 0)⟩,
    ⟨none, .ca (some 16) 24 [(.t 15)]⟩,
    ⟨none, .mv 14 (.t 16)⟩,
    ⟨none, .ex 17 (.t 14) 0⟩,
    ⟨none, .ex 18 (.t 14) 1⟩,
    ⟨none, .mv 5 (.t 17)⟩,
    ⟨none, .mv 6 (.t 18)⟩])
  (.seq (.seq (.ops [⟨none, .mv 19 (.t 6)⟩,
    ⟨none, .bi 20 .neq (.t 19) (.c (.int .i64 0))⟩,
    ⟨none, .mv 21 (.t 20)⟩,
    ⟨some (21, false), .mv 22 (.t 5)⟩,
    ⟨some (21, false), .bq 23 false .ptr (.t 22) (.c (.ptr none))⟩,
    ⟨none, .pk 24 (.t 21) (.c (.bool true)) (.t 23)⟩])
  (.cond (.t 24) (.seq (.ops [⟨none, .mv 25 (.t 6)⟩,
      ⟨none, .bi 26 .eql (.t 25) (.c (.int .i64 1))⟩,
      ⟨none, .mv 27 (.t 26)⟩,
      ⟨some (27, true), .mv 28 (.t 5)⟩,
      ⟨some (27, true), .bq 29 false .ptr (.t 28) (.c (.ptr none))⟩,
      ⟨none, .pk 30 (.t 27) (.t 29) (.c (.bool false))⟩,
      ⟨none, .mv 31 (.t 30)⟩,
      ⟨some (31, true), .ca (some 32) 19 []⟩,
      ⟨none, .pk 33 (.t 31) (.t 32) (.c (.bool false))⟩,
      ⟨none, .mv 4 (.t 33)⟩])
    (.ret))
    (.skip)))
  (.seq (.seq (.ops [⟨none, .mv 7 (.c (.int .i64 0))⟩])
  (.block 0 (.loop (.seq (.seq (.ops [⟨none, .mv 34 (.t 7)⟩,
    ⟨none, .mv 35 (.t 1)⟩,
    ⟨none, .ln 36 .sl (.t 35)⟩,
    ⟨none, .bi 37 .lss (.t 34) (.t 36)⟩])
  (.cond (.t 37) (.skip)
    (.exit 0)))
  (.seq (.block 1 (.ops [⟨none, .mv 40 (.t 5)⟩,
    ⟨none, .mv 41 (.t 1)⟩,
    ⟨none, .mv 42 (.t 7)⟩,
    ⟨none, .ia 43 (.t 41) (.t 42) 13⟩,
    ⟨none, .ld 44 (.t 43) 13 true⟩,
    ⟨none, .ca (some 45) 14 [(.t 40), (.t 44)]⟩]))
  (.ops [⟨none, .mv 38 (.t 7)⟩,
    ⟨none, .bi 39 .add (.t 38) (.c (.int .i64 1))⟩,
    ⟨none, .mv 7 (.t 39)⟩]))))))
  (.seq (.ops [⟨none, .mv 46 (.t 5)⟩,
    ⟨none, .ca (some 47) 25 [(.t 46)]⟩,
    ⟨none, .mv 8 (.t 47)⟩])
  (.seq (.seq (.ops [⟨none, .mv 9 (.c (.int .i64 0))⟩])
  (.block 2 (.loop (.seq (.seq (.ops [⟨none, .mv 48 (.t 9)⟩,
    ⟨none, .mv 49 (.t 8)⟩,
    ⟨none, .ln 50 .sl (.t 49)⟩,
    ⟨none, .bi 51 .lss (.t 48) (.t 50)⟩])
  (.cond (.t 51) (.skip)
    (.exit 2)))
  (.seq (.block 3 (.seq (.ops [⟨none, .mv 54 (.t 8)⟩,
    ⟨none, .mv 55 (.t 9)⟩,
    ⟨none, .ia 56 (.t 54) (.t 55) 13⟩,
    ⟨none, .ld 57 (.t 56) 13 true⟩,
    ⟨none, .alL 10 [.int .i64 0, .int .i64 0, .int .i64 0, .sl true .pub 0 [], .int .i64 0, .int .i64 0, .int .i64 0, .int .i64 0, .int .i64 0, .int .i64 0, .int .i64 0, .str [], .str []]⟩,
    ⟨none, .st (.t 10) (.t 57) 13⟩])
  (.seq (.seq (.opsD [⟨none, .mv 58 (.t 9)⟩,
    ⟨none, .bi 59 .gtr (.t 58) (.c (.int .i64 0))⟩,
    ⟨none, .mv 60 (.t 59)⟩,
    ⟨some (60, true), .mv 61 (.t 8)⟩,
    ⟨some (60, true), .mv 62 (.t 9)⟩,
    ⟨some (60, true), .bi 63 .sub (.t 62) (.c (.int .i64 1))⟩,
    ⟨some (60, true), .ia 64 (.t 61) (.t 63) 13⟩,
    ⟨some (60, true), .fa 65 (.t 64) 0⟩,
    ⟨some (60, true), .ld 66 (.t 65) 2 true⟩,
    ⟨some (60, true), .fa 67 (.t 10) 0⟩,
    ⟨some (60, true), .ld 68 (.t 67) 2 true⟩,
    ⟨some (60, true), .ca (some 69) 26 [(.t 66), (.t 68)]⟩,
    ⟨some (60, true), .un 70 .not (.t 69)⟩,
    ⟨none, .pk 71 (.t 60) (.t 70) (.c (.bool false))⟩])
  (.cond (.t 71) (.seq (.ops [⟨none, .mv 4 (.c (.bool false))⟩])
    (.ret))
    (.skip)))
  (.seq (.ops [⟨none, .mv 72 (.t 8)⟩,
    ⟨none, .mv 73 (.t 9)⟩,
    ⟨none, .sl 74 13 (.t 72) none (some (.t 73))⟩,
    ⟨none, .ca (some 75) 27 [(.t 74)]⟩,
    ⟨none, .mv 11 (.t 75)⟩])
  (.seq (.seq (.opsD [⟨none, .fa 76 (.t 10) 3⟩,
    ⟨none, .ld 77 (.t 76) 1 false⟩,
    ⟨none, .mv 78 (.t 11)⟩,
    ⟨none, .ca (some 79) 28 [(.t 77), (.t 78)]⟩,
    ⟨none, .un 80 .not (.t 79)⟩,
    ⟨none, .mv 81 (.t 80)⟩,
    ⟨some (81, false), .mv 82 (.t 11)⟩,
    ⟨some (81, false), .fa 83 (.t 10) 0⟩,
    ⟨some (81, false), .fa 84 (.t 83) 1⟩,
    ⟨some (81, false), .ld 85 (.t 84) 1 false⟩,
    ⟨some (81, false), .fa 87 (.t 10) 2⟩,
    ⟨some (81, false), .ld 88 (.t 87) 1 false⟩,
    ⟨some (81, false), .bi 89 .sub (.t 88) (.c (.int .i64 1))⟩,
    ⟨some (81, false), .ca (some 86) 29 [(.t 82), (.t 85)]⟩,
    ⟨some (81, false), .bi 90 .neq (.t 86) (.t 89)⟩,
    ⟨none, .pk 91 (.t 81) (.c (.bool true)) (.t 90)⟩])
  (.cond (.t 91) (.seq (.ops [⟨none, .mv 4 (.c (.bool false))⟩])
    (.ret))
    (.skip)))
  (.seq (.ops [⟨none, .ld 92 (.t 10) 13 true⟩,
    ⟨none, .ca (some 93) 30 [(.t 92)]⟩,
    ⟨none, .mv 12 (.t 93)⟩])
  (.seq (.ops [⟨none, .mv 13 (.c (.int .i64 0))⟩])
  (.block 4 (.loop (.seq (.seq (.ops [⟨none, .mv 94 (.t 13)⟩,
    ⟨none, .mv 95 (.t 12)⟩,
    ⟨none, .ln 96 .sl (.t 95)⟩,
    ⟨none, .bi 97 .lss (.t 94) (.t 96)⟩])
  (.cond (.t 97) (.skip)
    (.exit 4)))
  (.seq (.block 5 (.seq (.opsD [⟨none, .mv 100 (.t 8)⟩,
    ⟨none, .mv 101 (.t 9)⟩,
    ⟨none, .sl 102 13 (.t 100) none (some (.t 101))⟩,
    ⟨none, .mv 103 (.t 12)⟩,
    ⟨none, .mv 104 (.t 13)⟩,
    ⟨none, .ia 105 (.t 103) (.t 104) 2⟩,
    ⟨none, .ld 106 (.t 105) 2 true⟩,
    ⟨none, .ca (some 107) 21 [(.t 102), (.t 106)]⟩,
    ⟨none, .bi 108 .lss (.t 107) (.c (.int .i64 0))⟩])
  (.cond (.t 108) (.seq (.ops [⟨none, .mv 4 (.c (.bool false))⟩])
    (.ret))
    (.skip))))
  (.ops [⟨none, .mv 98 (.t 13)⟩,
    ⟨none, .bi 99 .add (.t 98) (.c (.int .i64 1))⟩,
    ⟨none, .mv 13 (.t 99)⟩]))))))))))))
  (.ops [⟨none, .mv 52 (.t 9)⟩,
    ⟨none, .bi 53 .add (.t 52) (.c (.int .i64 1))⟩,
    ⟨none, .mv 9 (.t 53)⟩]))))))
  (.seq (.ops [⟨none, .ca (some 109) 19 []⟩,
    ⟨none, .mv 4 (.t 109)⟩])
  (.ret)))))))
theorem comp5 : compFn Try.prog [10] Try.f5 = some ([.t 4], c5) := by kernel_rfl
/-- topiary/topiarylaw07.OplogSince: 3 parameters, 53 slots. -/
def c6 : C :=
  .seq (.ops [⟨none, .mv 6 (.c (.bool false))⟩])
  (.seq (.ops [⟨none, .mv 16 (.t 0)⟩,
    ⟨none, .ca (some 17) 12 [(.c (.int .i64 50)), (.t 16)]⟩,
    ⟨none, .mv 15 (.t 17)⟩,
    ⟨none, .ex 18 (.t 15) 0⟩,
    ⟨none, .ex 19 (.t 15) 1⟩,
    ⟨none, .alL 8 [.int .i64 0, .sl true .pub 0 []]⟩,
    ⟨none, .mv 7 (.t 18)⟩,
    ⟨none, .st (.t 8) (.t 19) 2⟩])
  (.seq (.ops [⟨none, .mv 21 (.t 7)⟩,
    ⟨none, .mv 22 (.t 1)⟩,
    ⟨none, .mv 23 (.t 2)⟩,
    ⟨none, .ca (some 24) 31 [(.t 21), (.t 22), (.t 23)]⟩,
    ⟨none, .mv 20 (.t 24)⟩,
    ⟨none, .ex 25 (.t 20) 0⟩,
    ⟨none, .ex 26 (.t 20) 1⟩,
    ⟨none, .ex 27 (.t 20) 2⟩,
    ⟨none, .mv 9 (.t 25)⟩,
    ⟨none, .mv 10 (.t 26)⟩,
    ⟨none, .mv 11 (.t 27)⟩])
  (.seq (.ops [⟨none, .fa 29 (.t 8) 1⟩,
    ⟨none, .ld 30 (.t 29) 1 false⟩,
    ⟨none, .mv 31 (.t 1)⟩,
    ⟨none, .mv 32 (.t 2)⟩,
    ⟨none, .ca (some 33) 32 [(.t 30), (.t 31), (.t 32)]⟩,
    ⟨none, .mv 28 (.t 33)⟩,
    ⟨none, .ex 34 (.t 28) 0⟩,
    ⟨none, .ex 35 (.t 28) 1⟩,
    ⟨none, .ex 36 (.t 28) 2⟩,
    ⟨none, .mv 12 (.t 34)⟩,
    ⟨none, .mv 13 (.t 35)⟩,
    ⟨none, .mv 14 (.t 36)⟩])
  (.seq (.ops [⟨none, .mv 37 (.t 9)⟩,
    ⟨none, .mv 38 (.t 12)⟩,
    ⟨none, .ca (some 39) 33 [(.t 37), (.t 38)]⟩,
    ⟨none, .mv 40 (.t 39)⟩,
    ⟨some (40, true), .mv 41 (.t 10)⟩,
    ⟨some (40, true), .mv 42 (.t 13)⟩,
    ⟨some (40, true), .bq 43 false .bool (.t 41) (.t 42)⟩,
    ⟨none, .pk 44 (.t 40) (.t 43) (.c (.bool false))⟩,
    ⟨none, .mv 45 (.t 44)⟩,
    ⟨some (45, true), .mv 46 (.t 11)⟩,
    ⟨some (45, true), .mv 47 (.t 14)⟩,
    ⟨some (45, true), .bi 48 .eql (.t 46) (.t 47)⟩,
    ⟨none, .pk 49 (.t 45) (.t 48) (.c (.bool false))⟩,
    ⟨none, .mv 50 (.t 49)⟩,
    ⟨some (50, true), .ca (some 51) 19 []⟩,
    ⟨none, .pk 52 (.t 50) (.t 51) (.c (.bool false))⟩,
    ⟨none, .mv 6 (.t 52)⟩])
  (.ret)))))
theorem comp6 : compFn Try.prog [8] Try.f6 = some ([.t 6], c6) := by kernel_rfl
/-- topiary/topiarylaw07.OplogAdds: 2 parameters, 83 slots. -/
def c7 : C :=
  .seq (.ops [⟨none, .mv 4 (.c (.bool false))⟩])
  (.seq (.ops [⟨none, .mv 14 (.t 0)⟩,
    ⟨none, .ca (some 15) 24 [(.t 14)]⟩,
    ⟨none, .mv 13 (.t 15)⟩,
    ⟨none, .ex 16 (.t 13) 0⟩,
    ⟨none, .ex 17 (.t 13) 1⟩,
    ⟨none, .mv 5 (.t 16)⟩,
    ⟨none, .mv 6 (.t 17)⟩])
  (.seq (.seq (.ops [⟨none, .mv 18 (.t 0)⟩,
    ⟨none, .bi 19 .lss (.t 18) (.c (.int .i64 1))⟩,
    ⟨none, .mv 20 (.t 19)⟩,
    ⟨some (20, false), .mv 21 (.t 0)⟩,
    ⟨some (20, false), .bi 22 .gtr (.t 21) (.c (.int .i64 4096))⟩,
    ⟨none, .pk 23 (.t 20) (.c (.bool true)) (.t 22)⟩])
  (.cond (.t 23) (.seq (.ops [⟨none, .mv 24 (.t 5)⟩,
      ⟨none, .bq 25 false .ptr (.t 24) (.c (.ptr none))⟩,
      ⟨none, .mv 26 (.t 25)⟩,
      ⟨some (26, true), .mv 27 (.t 6)⟩,
      ⟨some (26, true), .bi 28 .eql (.t 27) (.c (.int .i64 1))⟩,
      ⟨none, .pk 29 (.t 26) (.t 28) (.c (.bool false))⟩,
      ⟨none, .mv 30 (.t 29)⟩,
      ⟨some (30, true), .ca (some 31) 19 []⟩,
      ⟨none, .pk 32 (.t 30) (.t 31) (.c (.bool false))⟩,
      ⟨none, .mv 4 (.t 32)⟩])
    (.ret))
    (.skip)))
  (.seq (.seq (.ops [⟨none, .mv 33 (.t 5)⟩,
    ⟨none, .bq 34 false .ptr (.t 33) (.c (.ptr none))⟩,
    ⟨none, .mv 35 (.t 34)⟩,
    ⟨some (35, false), .mv 36 (.t 6)⟩,
    ⟨some (35, false), .bi 37 .neq (.t 36) (.c (.int .i64 0))⟩,
    ⟨none, .pk 38 (.t 35) (.c (.bool true)) (.t 37)⟩])
  (.cond (.t 38) (.seq (.ops [⟨none, .mv 4 (.c (.bool false))⟩])
    (.ret))
    (.skip)))
  (.seq (.ops [⟨none, .mv 39 (.t 0)⟩,
    ⟨none, .bld 40 [.int .i64 0, .sl true .pub 0 []] [(0, 1, (.t 39))]⟩,
    ⟨none, .alL 7 [.int .i64 0, .sl true .pub 0 []]⟩,
    ⟨none, .st (.t 7) (.t 40) 2⟩])
  (.seq (.seq (.ops [⟨none, .mv 8 (.c (.int .i64 0))⟩])
  (.block 0 (.loop (.seq (.seq (.ops [⟨none, .mv 41 (.t 8)⟩,
    ⟨none, .mv 42 (.t 1)⟩,
    ⟨none, .ln 43 .sl (.t 42)⟩,
    ⟨none, .bi 44 .lss (.t 41) (.t 43)⟩])
  (.cond (.t 44) (.skip)
    (.exit 0)))
  (.seq (.block 1 (.seq (.ops [⟨none, .mv 47 (.t 1)⟩,
    ⟨none, .mv 48 (.t 8)⟩,
    ⟨none, .ia 49 (.t 47) (.t 48) 13⟩,
    ⟨none, .ld 50 (.t 49) 13 true⟩,
    ⟨none, .ca (some 51) 34 [(.t 50)]⟩,
    ⟨none, .alL 9 [.int .i64 0, .int .i64 0, .int .i64 0, .sl true .pub 0 [], .int .i64 0, .int .i64 0, .int .i64 0, .int .i64 0, .int .i64 0, .int .i64 0, .int .i64 0, .str [], .str []]⟩,
    ⟨none, .st (.t 9) (.t 51) 13⟩])
  (.cut (.opsE [⟨none, .ld 53 (.t 7) 2 true⟩,
    ⟨none, .mv 54 (.t 1)⟩,
    ⟨none, .mv 55 (.t 8)⟩,
    ⟨none, .ia 56 (.t 54) (.t 55) 13⟩,
    ⟨none, .ld 57 (.t 56) 13 true⟩,
    ⟨none, .ca (some 58) 35 [(.t 53), (.t 57)]⟩,
    ⟨none, .mv 52 (.t 58)⟩,
    ⟨none, .ex 59 (.t 52) 0⟩,
    ⟨none, .ex 60 (.t 52) 1⟩,
    ⟨none, .alH 10 [.int .i64 0, .sl true .pub 0 []]⟩,
    ⟨none, .st (.t 10) (.t 59) 2⟩,
    ⟨none, .mv 11 (.t 60)⟩]
  [⟨none, .ld 53 (.t 7) 2 true⟩,
    ⟨none, .mv 54 (.t 1)⟩,
    ⟨none, .mv 55 (.t 8)⟩,
    ⟨none, .ia 56 (.t 54) (.t 55) 13⟩,
    ⟨none, .ld 57 (.t 56) 13 true⟩,
    ⟨none, .alH 10 [.int .i64 0, .sl true .pub 0 []]⟩,
    ⟨none, .ca (some 58) 35 [(.t 53), (.t 57)]⟩,
    ⟨none, .mv 52 (.t 58)⟩,
    ⟨none, .ex 59 (.t 52) 0⟩,
    ⟨none, .ex 60 (.t 52) 1⟩,
    ⟨none, .st (.t 10) (.t 59) 2⟩,
    ⟨none, .mv 11 (.t 60)⟩])
  (.seq (.ops [⟨none, .ld 61 (.t 10) 2 true⟩,
    ⟨none, .st (.t 7) (.t 61) 2⟩])
  (.seq (.seq (.ops [⟨none, .mv 62 (.t 5)⟩,
    ⟨none, .ld 63 (.t 9) 13 true⟩,
    ⟨none, .ca (some 64) 14 [(.t 62), (.t 63)]⟩,
    ⟨none, .mv 65 (.t 11)⟩,
    ⟨none, .bi 66 .neq (.t 64) (.t 65)⟩])
  (.cond (.t 66) (.seq (.ops [⟨none, .mv 4 (.c (.bool false))⟩])
    (.ret))
    (.skip)))
  (.seq (.seq (.ops [⟨none, .mv 12 (.c (.int .i64 0))⟩])
  (.block 2 (.loop (.seq (.seq (.ops [⟨none, .mv 67 (.t 12)⟩,
    ⟨none, .fa 68 (.t 9) 3⟩,
    ⟨none, .ld 69 (.t 68) 1 false⟩,
    ⟨none, .ln 70 .sl (.t 69)⟩,
    ⟨none, .bi 71 .lss (.t 67) (.t 70)⟩])
  (.cond (.t 71) (.skip)
    (.exit 2)))
  (.seq (.block 3 (.ops [⟨none, .fa 74 (.t 9) 3⟩,
    ⟨none, .ld 75 (.t 74) 1 false⟩,
    ⟨none, .mv 76 (.t 12)⟩,
    ⟨none, .ia 77 (.t 75) (.t 76) 1⟩,
    ⟨none, .se (.t 77) (.c (.int .i64 (-7))) 1⟩]))
  (.ops [⟨none, .mv 72 (.t 12)⟩,
    ⟨none, .bi 73 .add (.t 72) (.c (.int .i64 1))⟩,
    ⟨none, .mv 12 (.t 73)⟩]))))))
  (.seq (.ops [⟨none, .mv 78 (.t 5)⟩,
    ⟨none, .ld 79 (.t 7) 2 true⟩,
    ⟨none, .ca (some 80) 36 [(.t 78), (.t 79)]⟩,
    ⟨none, .un 81 .not (.t 80)⟩])
  (.cond (.t 81) (.seq (.ops [⟨none, .mv 4 (.c (.bool false))⟩])
    (.ret))
    (.skip)))))))))
  (.ops [⟨none, .mv 45 (.t 8)⟩,
    ⟨none, .bi 46 .add (.t 45) (.c (.int .i64 1))⟩,
    ⟨none, .mv 8 (.t 46)⟩]))))))
  (.seq (.ops [⟨none, .ca (some 82) 19 []⟩,
    ⟨none, .mv 4 (.t 82)⟩])
  (.ret)))))))
theorem comp7 : compFn Try.prog [7, 9, 1000077] Try.f7 = some ([.t 4], c7) := by kernel_rfl
/-- topiary/topiarylaw07.OplogAny: 2 parameters, 112 slots. -/
def c8 : C :=
  .seq (.ops [⟨none, .mv 4 (.c (.bool false))⟩])
  (.seq (.ops [⟨none, .mv 18 (.t 0)⟩,
    ⟨none, .ca (some 19) 12 [(.c (.int .i64 4096)), (.t 18)]⟩,
    ⟨none, .mv 17 (.t 19)⟩,
    ⟨none, .ex 20 (.t 17) 0⟩,
    ⟨none, .ex 21 (.t 17) 1⟩,
    ⟨none, .alL 6 [.int .i64 0, .sl true .pub 0 []]⟩,
    ⟨none, .mv 5 (.t 20)⟩,
    ⟨none, .st (.t 6) (.t 21) 2⟩])
  (.seq (.ops [⟨none, .ca (some 23) 24 [(.c (.int .i64 4096))]⟩,
    ⟨none, .mv 22 (.t 23)⟩,
    ⟨none, .ex 24 (.t 22) 0⟩,
    ⟨none, .ex 25 (.t 22) 1⟩,
    ⟨none, .mv 7 (.t 24)⟩,
    ⟨none, .mv 8 (.t 25)⟩])
  (.seq (.seq (.ops [⟨none, .mv 26 (.t 8)⟩,
    ⟨none, .bi 27 .neq (.t 26) (.c (.int .i64 0))⟩,
    ⟨none, .mv 28 (.t 27)⟩,
    ⟨some (28, false), .mv 29 (.t 7)⟩,
    ⟨some (28, false), .bq 30 false .ptr (.t 29) (.c (.ptr none))⟩,
    ⟨none, .pk 31 (.t 28) (.c (.bool true)) (.t 30)⟩])
  (.cond (.t 31) (.seq (.ops [⟨none, .mv 4 (.c (.bool false))⟩])
    (.ret))
    (.skip)))
  (.seq (.ops [⟨none, .fa 32 (.t 6) 1⟩,
    ⟨none, .ld 33 (.t 32) 1 false⟩,
    ⟨none, .ca (some 34) 37 [(.t 33)]⟩,
    ⟨none, .mv 9 (.t 34)⟩])
  (.seq (.seq (.ops [⟨none, .mv 10 (.c (.int .i64 0))⟩])
  (.block 0 (.loop (.seq (.seq (.ops [⟨none, .mv 35 (.t 9)⟩,
    ⟨none, .ln 36 .sl (.t 35)⟩,
    ⟨none, .bi 37 .gtr (.t 36) (.c (.int .i64 0))⟩])
  (.cond (.t 37) (.skip)
    (.exit 0)))
  (.seq (.block 1 (.seq (.ops [⟨none, .mv 11 (.c (.int .i64 0))⟩])
  (.cut (.seq (.ops [⟨none, .mv 40 (.t 10)⟩,
    ⟨none, .mv 41 (.t 1)⟩,
    ⟨none, .ln 42 .sl (.t 41)⟩,
    ⟨none, .bi 43 .lss (.t 40) (.t 42)⟩])
  (.cond (.t 43) (.ops [⟨none, .mv 44 (.t 1)⟩,
      ⟨none, .mv 45 (.t 10)⟩,
      ⟨none, .ia 46 (.t 44) (.t 45) 1⟩,
      ⟨none, .ld 47 (.t 46) 1 false⟩,
      ⟨none, .cI 48 .u64 (.t 47)⟩,
      ⟨none, .mv 49 (.t 9)⟩,
      ⟨none, .ln 50 .sl (.t 49)⟩,
      ⟨none, .cI 51 .u64 (.t 50)⟩,
      ⟨none, .bi 52 .rem (.t 48) (.t 51)⟩,
      ⟨none, .cI 53 .i64 (.t 52)⟩,
      ⟨none, .mv 11 (.t 53)⟩])
    (.skip)))
  (.seq (.ops [⟨none, .mv 12 (.c (.bool false))⟩])
  (.seq (.seq (.ops [⟨none, .mv 13 (.c (.int .i64 0))⟩])
  (.block 2 (.loop (.seq (.seq (.ops [⟨none, .mv 54 (.t 13)⟩,
    ⟨none, .mv 55 (.t 9)⟩,
    ⟨none, .ln 56 .sl (.t 55)⟩,
    ⟨none, .bi 57 .lss (.t 54) (.t 56)⟩,
    ⟨none, .mv 58 (.t 57)⟩,
    ⟨some (58, true), .mv 59 (.t 12)⟩,
    ⟨some (58, true), .un 60 .not (.t 59)⟩,
    ⟨none, .pk 61 (.t 58) (.t 60) (.c (.bool false))⟩])
  (.cond (.t 61) (.skip)
    (.exit 2)))
  (.cut (.block 3 (.seq (.ops [⟨none, .mv 64 (.t 11)⟩,
    ⟨none, .mv 65 (.t 13)⟩,
    ⟨none, .bi 66 .add (.t 64) (.t 65)⟩,
    ⟨none, .mv 67 (.t 9)⟩,
    ⟨none, .ln 68 .sl (.t 67)⟩,
    ⟨none, .bi 69 .rem (.t 66) (.t 68)⟩,
    ⟨none, .mv 14 (.t 69)⟩])
  (.seq (.ops [⟨none, .mv 70 (.t 7)⟩,
    ⟨none, .mv 71 (.t 9)⟩,
    ⟨none, .mv 72 (.t 14)⟩,
    ⟨none, .ia 73 (.t 71) (.t 72) 13⟩,
    ⟨none, .ld 74 (.t 73) 13 true⟩,
    ⟨none, .ca (some 75) 14 [(.t 70), (.t 74)]⟩,
    ⟨none, .mv 15 (.t 75)⟩])
  (.seq (.seq (.ops [⟨none, .mv 76 (.t 15)⟩,
    ⟨none, .bi 77 .neq (.t 76) (.c (.int .i64 0))⟩,
    ⟨none, .mv 78 (.t 77)⟩,
    ⟨some (78, true), .mv 79 (.t 15)⟩,
    ⟨some (78, true), .bi 80 .neq (.t 79) (.c (.int .i64 4))⟩,
    ⟨none, .pk 81 (.t 78) (.t 80) (.c (.bool false))⟩])
  (.cond (.t 81) (.seq (.ops [⟨none, .mv 4 (.c (.bool false))⟩])
    (.ret))
    (.skip)))
  (.seq (.ops [⟨none, .mv 82 (.t 15)⟩,
    ⟨none, .bi 83 .eql (.t 82) (.c (.int .i64 0))⟩])
  (.cond (.t 83) (.seq (.ops [⟨none, .mv 12 (.c (.bool true))⟩])
    (.seq (.ops [⟨none, .lit 84 13 []⟩,
      ⟨none, .mv 85 (.t 9)⟩,
      ⟨none, .mv 86 (.t 14)⟩,
      ⟨none, .sl 87 13 (.t 85) none (some (.t 86))⟩,
      ⟨none, .ap 88 13 (.t 84) (.t 87)⟩,
      ⟨none, .mv 16 (.t 88)⟩])
    (.ops [⟨none, .mv 89 (.t 16)⟩,
      ⟨none, .mv 90 (.t 9)⟩,
      ⟨none, .mv 91 (.t 14)⟩,
      ⟨none, .bi 92 .add (.t 91) (.c (.int .i64 1))⟩,
      ⟨none, .sl 93 13 (.t 90) (some (.t 92)) none⟩,
      ⟨none, .ap 94 13 (.t 89) (.t 93)⟩,
      ⟨none, .mv 9 (.t 94)⟩])))
    (.skip)))))))
  (.ops [⟨none, .mv 62 (.t 13)⟩,
    ⟨none, .bi 63 .add (.t 62) (.c (.int .i64 1))⟩,
    ⟨none, .mv 13 (.t 63)⟩]))))))
  (.seq (.ops [⟨none, .mv 95 (.t 12)⟩,
    ⟨none, .un 96 .not (.t 95)⟩])
  (.cond (.t 96) (.seq (.ops [⟨none, .mv 4 (.c (.bool false))⟩])
    (.ret))
    (.skip))))))))
  (.ops [⟨none, .mv 38 (.t 10)⟩,
    ⟨none, .bi 39 .add (.t 38) (.c (.int .i64 1))⟩,
    ⟨none, .mv 10 (.t 39)⟩]))))))
  (.seq (.ops [⟨none, .mv 97 (.t 7)⟩,
    ⟨none, .ca (some 98) 25 [(.t 97)]⟩,
    ⟨none, .mv 99 (.t 5)⟩,
    ⟨none, .ca (some 100) 25 [(.t 99)]⟩,
    ⟨none, .ca (some 101) 33 [(.t 98), (.t 100)]⟩,
    ⟨none, .mv 102 (.t 101)⟩,
    ⟨some (102, true), .mv 103 (.t 7)⟩,
    ⟨some (102, true), .fa 104 (.t 6) 1⟩,
    ⟨some (102, true), .ld 105 (.t 104) 1 false⟩,
    ⟨some (102, true), .bld 106 [.int .i64 0, .sl true .pub 0 []] [(0, 1, (.c (.int .i64 4096))), (1, 1, (.t 105))]⟩,
    ⟨some (102, true), .ca (some 107) 36 [(.t 103), (.t 106)]⟩,
    ⟨none, .pk 108 (.t 102) (.t 107) (.c (.bool false))⟩,
    ⟨none, .mv 109 (.t 108)⟩,
    ⟨some (109, true), .ca (some 110) 19 []⟩,
    ⟨none, .pk 111 (.t 109) (.t 110) (.c (.bool false))⟩,
    ⟨none, .mv 4 (.t 111)⟩])
  (.ret)))))))
theorem comp8 : compFn Try.prog [6] Try.f8 = some ([.t 4], c8) := by kernel_rfl
/-- topiary/topiarylaw07.OplogUnion: 2 parameters, 191 slots. -/
def c9 : C :=
  .seq (.ops [⟨none, .bxL 2 (.t 0)⟩,
    ⟨none, .mv 4 (.c (.bool false))⟩])
  (.seq (.ops [⟨none, .ca (some 24) 24 [(.c (.int .i64 4096))]⟩,
    ⟨none, .mv 23 (.t 24)⟩,
    ⟨none, .ex 25 (.t 23) 0⟩,
    ⟨none, .ex 26 (.t 23) 1⟩,
    ⟨none, .mv 5 (.t 25)⟩,
    ⟨none, .mv 6 (.t 26)⟩])
  (.seq (.ops [⟨none, .ca (some 28) 24 [(.c (.int .i64 4096))]⟩,
    ⟨none, .mv 27 (.t 28)⟩,
    ⟨none, .ex 29 (.t 27) 0⟩,
    ⟨none, .ex 30 (.t 27) 1⟩,
    ⟨none, .mv 7 (.t 29)⟩,
    ⟨none, .mv 8 (.t 30)⟩])
  (.seq (.seq (.ops [⟨none, .mv 31 (.t 6)⟩,
    ⟨none, .bi 32 .neq (.t 31) (.c (.int .i64 0))⟩,
    ⟨none, .mv 33 (.t 32)⟩,
    ⟨some (33, false), .mv 34 (.t 8)⟩,
    ⟨some (33, false), .bi 35 .neq (.t 34) (.c (.int .i64 0))⟩,
    ⟨none, .pk 36 (.t 33) (.c (.bool true)) (.t 35)⟩,
    ⟨none, .mv 37 (.t 36)⟩,
    ⟨some (37, false), .mv 38 (.t 5)⟩,
    ⟨some (37, false), .bq 39 false .ptr (.t 38) (.c (.ptr none))⟩,
    ⟨none, .pk 40 (.t 37) (.c (.bool true)) (.t 39)⟩,
    ⟨none, .mv 41 (.t 40)⟩,
    ⟨some (41, false), .mv 42 (.t 7)⟩,
    ⟨some (41, false), .bq 43 false .ptr (.t 42) (.c (.ptr none))⟩,
    ⟨none, .pk 44 (.t 41) (.c (.bool true)) (.t 43)⟩])
  (.cond (.t 44) (.seq (.ops [⟨none, .mv 4 (.c (.bool false))⟩])
    (.ret))
    (.skip)))
  (.seq (.seq (.ops [⟨none, .fa 45 (.t 2) 0⟩,
    ⟨none, .ld 46 (.t 45) 1 false⟩,
    ⟨none, .ln 47 .sl (.t 46)⟩,
    ⟨none, .bi 48 .gtr (.t 47) (.c (.int .i64 500))⟩])
  (.cond (.t 48) (.seq (.ops [⟨none, .ca (some 49) 19 []⟩,
      ⟨none, .mv 4 (.t 49)⟩])
    (.ret))
    (.skip)))
  (.seq (.ops [⟨none, .bld 50 [.int .i64 0, .sl true .pub 0 []] [(0, 1, (.c (.int .i64 4096)))]⟩,
    ⟨none, .alL 9 [.int .i64 0, .sl true .pub 0 []]⟩,
    ⟨none, .st (.t 9) (.t 50) 2⟩])
  (.seq (.seq (.ops [⟨none, .mv 10 (.c (.int .i64 0))⟩])
  (.block 0 (.loop (.seq (.seq (.ops [⟨none, .mv 51 (.t 10)⟩,
    ⟨none, .fa 52 (.t 2) 0⟩,
    ⟨none, .ld 53 (.t 52) 1 false⟩,
    ⟨none, .ln 54 .sl (.t 53)⟩,
    ⟨none, .bi 55 .lss (.t 51) (.t 54)⟩])
  (.cond (.t 55) (.skip)
    (.exit 0)))
  (.cut (.block 1 (.cut (.opsE [⟨none, .ld 59 (.t 9) 2 true⟩,
    ⟨none, .fa 60 (.t 2) 0⟩,
    ⟨none, .ld 61 (.t 60) 1 false⟩,
    ⟨none, .mv 62 (.t 10)⟩,
    ⟨none, .ia 63 (.t 61) (.t 62) 13⟩,
    ⟨none, .ld 64 (.t 63) 13 true⟩,
    ⟨none, .ca (some 65) 35 [(.t 59), (.t 64)]⟩,
    ⟨none, .mv 58 (.t 65)⟩,
    ⟨none, .ex 66 (.t 58) 0⟩,
    ⟨none, .ex 67 (.t 58) 1⟩,
    ⟨none, .alH 11 [.int .i64 0, .sl true .pub 0 []]⟩,
    ⟨none, .st (.t 11) (.t 66) 2⟩,
    ⟨none, .mv 12 (.t 67)⟩]
  [⟨none, .ld 59 (.t 9) 2 true⟩,
    ⟨none, .fa 60 (.t 2) 0⟩,
    ⟨none, .ld 61 (.t 60) 1 false⟩,
    ⟨none, .mv 62 (.t 10)⟩,
    ⟨none, .ia 63 (.t 61) (.t 62) 13⟩,
    ⟨none, .ld 64 (.t 63) 13 true⟩,
    ⟨none, .alH 11 [.int .i64 0, .sl true .pub 0 []]⟩,
    ⟨none, .ca (some 65) 35 [(.t 59), (.t 64)]⟩,
    ⟨none, .mv 58 (.t 65)⟩,
    ⟨none, .ex 66 (.t 58) 0⟩,
    ⟨none, .ex 67 (.t 58) 1⟩,
    ⟨none, .st (.t 11) (.t 66) 2⟩,
    ⟨none, .mv 12 (.t 67)⟩])
  (.seq (.ops [⟨none, .ld 68 (.t 11) 2 true⟩,
    ⟨none, .st (.t 9) (.t 68) 2⟩])
  (.seq (.seq (.ops [⟨none, .mv 69 (.t 12)⟩,
    ⟨none, .bi 70 .neq (.t 69) (.c (.int .i64 0))⟩])
  (.cond (.t 70) (.exit 1)
    (.skip)))
  (.cut (.seq (.ops [⟨none, .mv 71 (.t 10)⟩,
    ⟨none, .fa 72 (.t 2) 1⟩,
    ⟨none, .ld 73 (.t 72) 1 false⟩,
    ⟨none, .ln 74 .sl (.t 73)⟩,
    ⟨none, .bi 75 .geq (.t 71) (.t 74)⟩,
    ⟨none, .mv 76 (.t 75)⟩,
    ⟨some (76, false), .fa 77 (.t 2) 1⟩,
    ⟨some (76, false), .ld 78 (.t 77) 1 false⟩,
    ⟨some (76, false), .mv 79 (.t 10)⟩,
    ⟨some (76, false), .ia 80 (.t 78) (.t 79) 1⟩,
    ⟨some (76, false), .ld 81 (.t 80) 1 false⟩,
    ⟨none, .pk 82 (.t 76) (.c (.bool true)) (.t 81)⟩])
  (.cond (.t 82) (.ops [⟨none, .mv 83 (.t 5)⟩,
      ⟨none, .fa 84 (.t 2) 0⟩,
      ⟨none, .ld 85 (.t 84) 1 false⟩,
      ⟨none, .mv 86 (.t 10)⟩,
      ⟨none, .ia 87 (.t 85) (.t 86) 13⟩,
      ⟨none, .ld 88 (.t 87) 13 true⟩,
      ⟨none, .ca (some 89) 14 [(.t 83), (.t 88)]⟩])
    (.skip)))
  (.seq (.ops [⟨none, .mv 90 (.t 10)⟩,
    ⟨none, .fa 91 (.t 2) 1⟩,
    ⟨none, .ld 92 (.t 91) 1 false⟩,
    ⟨none, .ln 93 .sl (.t 92)⟩,
    ⟨none, .bi 94 .geq (.t 90) (.t 93)⟩,
    ⟨none, .mv 95 (.t 94)⟩,
    ⟨some (95, false), .fa 96 (.t 2) 1⟩,
    ⟨some (95, false), .ld 97 (.t 96) 1 false⟩,
    ⟨some (95, false), .mv 98 (.t 10)⟩,
    ⟨some (95, false), .ia 99 (.t 97) (.t 98) 1⟩,
    ⟨some (95, false), .ld 100 (.t 99) 1 false⟩,
    ⟨some (95, false), .un 101 .not (.t 100)⟩,
    ⟨none, .pk 102 (.t 95) (.c (.bool true)) (.t 101)⟩])
  (.cond (.t 102) (.ops [⟨none, .mv 103 (.t 7)⟩,
      ⟨none, .fa 104 (.t 2) 0⟩,
      ⟨none, .ld 105 (.t 104) 1 false⟩,
      ⟨none, .mv 106 (.t 10)⟩,
      ⟨none, .ia 107 (.t 105) (.t 106) 13⟩,
      ⟨none, .ld 108 (.t 107) 13 true⟩,
      ⟨none, .ca (some 109) 14 [(.t 103), (.t 108)]⟩])
    (.skip))))))))
  (.ops [⟨none, .mv 56 (.t 10)⟩,
    ⟨none, .bi 57 .add (.t 56) (.c (.int .i64 1))⟩,
    ⟨none, .mv 10 (.t 57)⟩]))))))
  (.seq (.ops [⟨none, .mv 110 (.t 1)⟩,
    ⟨none, .cI 111 .u64 (.t 110)⟩,
    ⟨none, .bi 112 .rem (.t 111) (.c (.int .u64 9))⟩,
    ⟨none, .cI 113 .i64 (.t 112)⟩,
    ⟨none, .bi 114 .add (.c (.int .i64 1)) (.t 113)⟩,
    ⟨none, .mv 1 (.t 114)⟩])
  (.seq (.ops [⟨none, .mv 115 (.t 7)⟩,
    ⟨none, .ca (some 116) 25 [(.t 115)]⟩,
    ⟨none, .bld 117 [.int .i64 0, .sl true .pub 0 []] [(0, 1, (.c (.int .i64 4096))), (1, 1, (.t 116))]⟩,
    ⟨none, .alL 13 [.int .i64 0, .sl true .pub 0 []]⟩,
    ⟨none, .st (.t 13) (.t 117) 2⟩])
  (.seq (.ops [⟨none, .mv 118 (.t 5)⟩,
    ⟨none, .ca (some 119) 25 [(.t 118)]⟩,
    ⟨none, .mv 14 (.t 119)⟩])
  (.seq (.seq (.ops [⟨none, .mv 15 (.c (.int .i64 0))⟩])
  (.block 2 (.loop (.seq (.seq (.ops [⟨none, .mv 120 (.t 15)⟩,
    ⟨none, .mv 121 (.t 14)⟩,
    ⟨none, .ln 122 .sl (.t 121)⟩,
    ⟨none, .bi 123 .lss (.t 120) (.t 122)⟩])
  (.cond (.t 123) (.skip)
    (.exit 2)))
  (.seq (.block 3 (.opsD [⟨none, .ld 127 (.t 13) 2 true⟩,
    ⟨none, .mv 128 (.t 14)⟩,
    ⟨none, .mv 129 (.t 15)⟩,
    ⟨none, .ia 130 (.t 128) (.t 129) 13⟩,
    ⟨none, .ld 131 (.t 130) 13 true⟩,
    ⟨none, .ca (some 132) 35 [(.t 127), (.t 131)]⟩,
    ⟨none, .mv 126 (.t 132)⟩,
    ⟨none, .ex 133 (.t 126) 0⟩,
    ⟨none, .ex 134 (.t 126) 1⟩,
    ⟨none, .st (.t 13) (.t 133) 2⟩]))
  (.ops [⟨none, .mv 124 (.t 15)⟩,
    ⟨none, .bi 125 .add (.t 124) (.c (.int .i64 1))⟩,
    ⟨none, .mv 15 (.t 125)⟩]))))))
  (.seq (.ops [⟨none, .mv 136 (.t 5)⟩,
    ⟨none, .ca (some 137) 39 [(.t 136)]⟩,
    ⟨none, .mv 138 (.t 7)⟩,
    ⟨none, .ca (some 139) 39 [(.t 138)]⟩,
    ⟨none, .ca (some 140) 38 [(.t 137), (.t 139)]⟩,
    ⟨none, .mv 135 (.t 140)⟩,
    ⟨none, .ex 141 (.t 135) 0⟩,
    ⟨none, .ex 142 (.t 135) 1⟩,
    ⟨none, .mv 16 (.t 141)⟩,
    ⟨none, .mv 17 (.t 142)⟩])
  (.seq (.seq (.ops [⟨none, .mv 18 (.c (.bool true))⟩])
  (.block 4 (.loop (.seq (.seq (.ops [⟨none, .mv 143 (.t 18)⟩])
  (.cond (.t 143) (.skip)
    (.exit 4)))
  (.block 5 (.seq (.ops [⟨none, .mv 145 (.t 5)⟩,
    ⟨none, .mv 146 (.t 7)⟩,
    ⟨none, .ca (some 147) 39 [(.t 146)]⟩,
    ⟨none, .mv 148 (.t 1)⟩,
    ⟨none, .ca (some 149) 31 [(.t 145), (.t 147), (.t 148)]⟩,
    ⟨none, .mv 144 (.t 149)⟩,
    ⟨none, .ex 150 (.t 144) 0⟩,
    ⟨none, .ex 151 (.t 144) 1⟩,
    ⟨none, .ex 152 (.t 144) 2⟩,
    ⟨none, .mv 19 (.t 150)⟩,
    ⟨none, .mv 20 (.t 151)⟩,
    ⟨none, .mv 21 (.t 152)⟩])
  (.seq (.seq (.ops [⟨none, .mv 153 (.t 21)⟩,
    ⟨none, .bi 154 .neq (.t 153) (.c (.int .i64 0))⟩,
    ⟨none, .mv 155 (.t 154)⟩,
    ⟨some (155, false), .mv 156 (.t 20)⟩,
    ⟨some (155, false), .mv 157 (.t 156)⟩,
    ⟨some (157, true), .mv 158 (.t 19)⟩,
    ⟨some (157, true), .ln 159 .sl (.t 158)⟩,
    ⟨some (157, true), .bi 160 .eql (.t 159) (.c (.int .i64 0))⟩,
    ⟨some (155, false), .pk 161 (.t 157) (.t 160) (.c (.bool false))⟩,
    ⟨none, .pk 162 (.t 155) (.c (.bool true)) (.t 161)⟩])
  (.cond (.t 162) (.seq (.ops [⟨none, .mv 4 (.c (.bool false))⟩])
    (.ret))
    (.skip)))
  (.seq (.ops [⟨none, .mv 163 (.t 20)⟩,
    ⟨none, .mv 18 (.t 163)⟩])
  (.seq (.ops [⟨none, .mv 22 (.c (.int .i64 0))⟩])
  (.block 6 (.loop (.seq (.seq (.ops [⟨none, .mv 164 (.t 22)⟩,
    ⟨none, .mv 165 (.t 19)⟩,
    ⟨none, .ln 166 .sl (.t 165)⟩,
    ⟨none, .bi 167 .lss (.t 164) (.t 166)⟩])
  (.cond (.t 167) (.skip)
    (.exit 6)))
  (.seq (.block 7 (.seq (.ops [⟨none, .mv 170 (.t 7)⟩,
    ⟨none, .mv 171 (.t 19)⟩,
    ⟨none, .mv 172 (.t 22)⟩,
    ⟨none, .ia 173 (.t 171) (.t 172) 13⟩,
    ⟨none, .ld 174 (.t 173) 13 true⟩,
    ⟨none, .ca (some 175) 14 [(.t 170), (.t 174)]⟩,
    ⟨none, .bi 176 .neq (.t 175) (.c (.int .i64 0))⟩])
  (.cond (.t 176) (.seq (.ops [⟨none, .mv 4 (.c (.bool false))⟩])
    (.ret))
    (.skip))))
  (.ops [⟨none, .mv 168 (.t 22)⟩,
    ⟨none, .bi 169 .add (.t 168) (.c (.int .i64 1))⟩,
    ⟨none, .mv 22 (.t 169)⟩]))))))))))))))
  (.seq (.opsD [⟨none, .mv 177 (.t 7)⟩,
    ⟨none, .fa 179 (.t 13) 1⟩,
    ⟨none, .ld 180 (.t 179) 1 false⟩,
    ⟨none, .ca (some 178) 25 [(.t 177)]⟩,
    ⟨none, .ca (some 181) 33 [(.t 178), (.t 180)]⟩,
    ⟨none, .mv 182 (.t 181)⟩,
    ⟨some (182, true), .mv 183 (.t 7)⟩,
    ⟨some (182, true), .mv 185 (.t 16)⟩,
    ⟨some (182, true), .ca (some 184) 39 [(.t 183)]⟩,
    ⟨some (182, true), .ca (some 186) 40 [(.t 184), (.t 185)]⟩,
    ⟨none, .pk 187 (.t 182) (.t 186) (.c (.bool false))⟩,
    ⟨none, .mv 188 (.t 187)⟩,
    ⟨some (188, true), .ca (some 189) 19 []⟩,
    ⟨none, .pk 190 (.t 188) (.t 189) (.c (.bool false))⟩,
    ⟨none, .mv 4 (.t 190)⟩])
  (.ret))))))))))))))
theorem comp9 : compFn Try.prog [2, 9, 13] Try.f9 = some ([.t 4], c9) := by kernel_rfl
/-- topiary/topiarylaw07.OplogClones: 2 parameters, 87 slots. -/
def c10 : C :=
  .seq (.ops [⟨none, .mv 4 (.c (.bool false))⟩])
  (.seq (.ops [⟨none, .mv 15 (.t 0)⟩,
    ⟨none, .ca (some 16) 12 [(.c (.int .i64 50)), (.t 15)]⟩,
    ⟨none, .mv 14 (.t 16)⟩,
    ⟨none, .ex 17 (.t 14) 0⟩,
    ⟨none, .ex 18 (.t 14) 1⟩,
    ⟨none, .alL 6 [.int .i64 0, .sl true .pub 0 []]⟩,
    ⟨none, .mv 5 (.t 17)⟩,
    ⟨none, .st (.t 6) (.t 18) 2⟩])
  (.seq (.ops [⟨none, .mv 19 (.t 5)⟩,
    ⟨none, .ca (some 20) 41 [(.t 19)]⟩,
    ⟨none, .mv 7 (.t 20)⟩])
  (.seq (.seq (.ops [⟨none, .mv 21 (.t 7)⟩,
    ⟨none, .bq 22 false .ptr (.t 21) (.c (.ptr none))⟩,
    ⟨none, .mv 23 (.t 22)⟩,
    ⟨some (23, false), .mv 24 (.t 7)⟩,
    ⟨some (23, false), .ld 25 (.t 6) 2 true⟩,
    ⟨some (23, false), .ca (some 26) 36 [(.t 24), (.t 25)]⟩,
    ⟨some (23, false), .un 27 .not (.t 26)⟩,
    ⟨none, .pk 28 (.t 23) (.c (.bool true)) (.t 27)⟩])
  (.cond (.t 28) (.seq (.ops [⟨none, .mv 4 (.c (.bool false))⟩])
    (.ret))
    (.skip)))
  (.seq (.seq (.ops [⟨none, .mv 8 (.c (.int .i64 0))⟩])
  (.block 0 (.loop (.seq (.seq (.ops [⟨none, .mv 29 (.t 8)⟩,
    ⟨none, .mv 30 (.t 1)⟩,
    ⟨none, .ln 31 .sl (.t 30)⟩,
    ⟨none, .bi 32 .lss (.t 29) (.t 31)⟩])
  (.cond (.t 32) (.skip)
    (.exit 0)))
  (.seq (.block 1 (.ops [⟨none, .mv 35 (.t 5)⟩,
    ⟨none, .mv 36 (.t 1)⟩,
    ⟨none, .mv 37 (.t 8)⟩,
    ⟨none, .ia 38 (.t 36) (.t 37) 13⟩,
    ⟨none, .ld 39 (.t 38) 13 true⟩,
    ⟨none, .ca (some 40) 14 [(.t 35), (.t 39)]⟩]))
  (.ops [⟨none, .mv 33 (.t 8)⟩,
    ⟨none, .bi 34 .add (.t 33) (.c (.int .i64 1))⟩,
    ⟨none, .mv 8 (.t 34)⟩]))))))
  (.seq (.ops [⟨none, .mv 41 (.t 7)⟩,
    ⟨none, .ca (some 42) 25 [(.t 41)]⟩,
    ⟨none, .mv 9 (.t 42)⟩])
  (.seq (.seq (.ops [⟨none, .mv 10 (.c (.int .i64 0))⟩])
  (.block 2 (.loop (.seq (.seq (.ops [⟨none, .mv 43 (.t 10)⟩,
    ⟨none, .mv 44 (.t 9)⟩,
    ⟨none, .ln 45 .sl (.t 44)⟩,
    ⟨none, .bi 46 .lss (.t 43) (.t 45)⟩])
  (.cond (.t 46) (.skip)
    (.exit 2)))
  (.seq (.block 3 (.seq (.seq (.ops [⟨none, .mv 11 (.c (.int .i64 0))⟩])
  (.block 4 (.loop (.seq (.seq (.ops [⟨none, .mv 49 (.t 11)⟩,
    ⟨none, .mv 50 (.t 9)⟩,
    ⟨none, .mv 51 (.t 10)⟩,
    ⟨none, .ia 52 (.t 50) (.t 51) 13⟩,
    ⟨none, .fa 53 (.t 52) 3⟩,
    ⟨none, .ld 54 (.t 53) 1 false⟩,
    ⟨none, .ln 55 .sl (.t 54)⟩,
    ⟨none, .bi 56 .lss (.t 49) (.t 55)⟩])
  (.cond (.t 56) (.skip)
    (.exit 4)))
  (.seq (.block 5 (.ops [⟨none, .mv 59 (.t 9)⟩,
    ⟨none, .mv 60 (.t 10)⟩,
    ⟨none, .ia 61 (.t 59) (.t 60) 13⟩,
    ⟨none, .fa 62 (.t 61) 3⟩,
    ⟨none, .ld 63 (.t 62) 1 false⟩,
    ⟨none, .mv 64 (.t 11)⟩,
    ⟨none, .ia 65 (.t 63) (.t 64) 1⟩,
    ⟨none, .se (.t 65) (.c (.int .i64 (-7))) 1⟩]))
  (.ops [⟨none, .mv 57 (.t 11)⟩,
    ⟨none, .bi 58 .add (.t 57) (.c (.int .i64 1))⟩,
    ⟨none, .mv 11 (.t 58)⟩]))))))
  (.ops [⟨none, .mv 66 (.t 9)⟩,
    ⟨none, .mv 67 (.t 10)⟩,
    ⟨none, .bld 68 [.int .i64 0, .int .i64 0, .int .i64 0, .sl true .pub 0 [], .int .i64 0, .int .i64 0, .int .i64 0, .int .i64 0, .int .i64 0, .int .i64 0, .int .i64 0, .str [], .str []] []⟩,
    ⟨none, .ia 69 (.t 66) (.t 67) 13⟩,
    ⟨none, .se (.t 69) (.t 68) 13⟩])))
  (.ops [⟨none, .mv 47 (.t 10)⟩,
    ⟨none, .bi 48 .add (.t 47) (.c (.int .i64 1))⟩,
    ⟨none, .mv 10 (.t 48)⟩]))))))
  (.seq (.ops [⟨none, .mv 70 (.t 7)⟩,
    ⟨none, .ca (some 71) 39 [(.t 70)]⟩,
    ⟨none, .mv 12 (.t 71)⟩])
  (.seq (.seq (.ops [⟨none, .mv 13 (.c (.int .i64 0))⟩])
  (.block 6 (.loop (.seq (.seq (.ops [⟨none, .mv 72 (.t 13)⟩,
    ⟨none, .mv 73 (.t 12)⟩,
    ⟨none, .ln 74 .sl (.t 73)⟩,
    ⟨none, .bi 75 .lss (.t 72) (.t 74)⟩])
  (.cond (.t 75) (.skip)
    (.exit 6)))
  (.seq (.block 7 (.ops [⟨none, .mv 78 (.t 12)⟩,
    ⟨none, .mv 79 (.t 13)⟩,
    ⟨none, .ia 80 (.t 78) (.t 79) 1⟩,
    ⟨none, .se (.t 80) (.c (.int .i64 (-7))) 1⟩]))
  (.ops [⟨none, .mv 76 (.t 13)⟩,
    ⟨none, .bi 77 .add (.t 76) (.c (.int .i64 1))⟩,
    ⟨none, .mv 13 (.t 77)⟩]))))))
  (.seq (.ops [⟨none, .mv 81 (.t 7)⟩,
    ⟨none, .ld 82 (.t 6) 2 true⟩,
    ⟨none, .ca (some 83) 36 [(.t 81), (.t 82)]⟩,
    ⟨none, .mv 84 (.t 83)⟩,
    ⟨some (84, true), .ca (some 85) 19 []⟩,
    ⟨none, .pk 86 (.t 84) (.t 85) (.c (.bool false))⟩,
    ⟨none, .mv 4 (.t 86)⟩])
  (.ret))))))))))
theorem comp10 : compFn Try.prog [6, 1000065, 1000069, 1000080] Try.f10 = some ([.t 4], c10) := by kernel_rfl
/-- topiary/topiarylaw07.OplogNil: 2 parameters, 81 slots. -/
def c11 : C :=
  .seq (.ops [⟨none, .bxL 2 (.t 0)⟩,
    ⟨none, .mv 4 (.c (.bool false))⟩])
  (.seq (.ops [⟨none, .mv 5 (.c (.ptr none))⟩])
  (.seq (.ops [⟨none, .mv 15 (.t 5)⟩,
    ⟨none, .mv 16 (.t 1)⟩,
    ⟨none, .ca (some 17) 31 [(.t 15), (.t 16), (.c (.int .i64 1))]⟩,
    ⟨none, .mv 14 (.t 17)⟩,
    ⟨none, .ex 18 (.t 14) 0⟩,
    ⟨none, .ex 19 (.t 14) 1⟩,
    ⟨none, .ex 20 (.t 14) 2⟩,
    ⟨none, .mv 6 (.t 18)⟩,
    ⟨none, .mv 7 (.t 19)⟩,
    ⟨none, .mv 8 (.t 20)⟩])
  (.seq (.ops [⟨none, .mv 22 (.t 5)⟩,
    ⟨none, .fa 23 (.t 2) 0⟩,
    ⟨none, .ld 24 (.t 23) 2 true⟩,
    ⟨none, .ca (some 25) 20 [(.t 22), (.t 24)]⟩,
    ⟨none, .mv 21 (.t 25)⟩,
    ⟨none, .ex 26 (.t 21) 0⟩,
    ⟨none, .ex 27 (.t 21) 1⟩,
    ⟨none, .alL 9 [.int .i64 0, .int .i64 0, .int .i64 0, .sl true .pub 0 [], .int .i64 0, .int .i64 0, .int .i64 0, .int .i64 0, .int .i64 0, .int .i64 0, .int .i64 0, .str [], .str []]⟩,
    ⟨none, .st (.t 9) (.t 26) 13⟩,
    ⟨none, .mv 10 (.t 27)⟩])
  (.seq (.ops [⟨none, .mv 29 (.t 5)⟩,
    ⟨none, .ca (some 30) 22 [(.t 29), (.c (.int .i64 0)), (.c (.int .i64 1))]⟩,
    ⟨none, .mv 28 (.t 30)⟩,
    ⟨none, .ex 31 (.t 28) 0⟩,
    ⟨none, .ex 32 (.t 28) 1⟩,
    ⟨none, .alL 11 [.int .i64 0, .int .i64 0, .int .i64 0, .sl true .pub 0 [], .int .i64 0, .int .i64 0, .int .i64 0, .int .i64 0, .int .i64 0, .int .i64 0, .int .i64 0, .str [], .str []]⟩,
    ⟨none, .st (.t 11) (.t 31) 13⟩,
    ⟨none, .mv 12 (.t 32)⟩])
  (.seq (.ops [⟨none, .mv 33 (.t 1)⟩,
    ⟨none, .ca (some 34) 16 [(.t 33)]⟩,
    ⟨none, .mv 13 (.t 34)⟩])
  (.seq (.opsD [⟨none, .mv 35 (.t 5)⟩,
    ⟨none, .ld 36 (.t 2) 13 true⟩,
    ⟨none, .ld 38 (.t 2) 13 true⟩,
    ⟨none, .ca (some 37) 14 [(.t 35), (.t 36)]⟩,
    ⟨none, .ca (some 39) 42 [(.c (.sl true .pub 0 [])), (.c (.int .i64 0)), (.t 38)]⟩,
    ⟨none, .bi 40 .eql (.t 37) (.t 39)⟩,
    ⟨none, .mv 41 (.t 40)⟩,
    ⟨some (41, true), .mv 42 (.t 5)⟩,
    ⟨some (41, true), .bld 43 [.int .i64 0, .sl true .pub 0 []] []⟩,
    ⟨some (41, true), .ca (some 44) 36 [(.t 42), (.t 43)]⟩,
    ⟨none, .pk 45 (.t 41) (.t 44) (.c (.bool false))⟩,
    ⟨none, .mv 46 (.t 45)⟩,
    ⟨some (46, true), .mv 47 (.t 6)⟩,
    ⟨some (46, true), .ln 48 .sl (.t 47)⟩,
    ⟨some (46, true), .bi 49 .eql (.t 48) (.c (.int .i64 0))⟩,
    ⟨none, .pk 50 (.t 46) (.t 49) (.c (.bool false))⟩,
    ⟨none, .mv 51 (.t 50)⟩,
    ⟨some (51, true), .mv 52 (.t 7)⟩,
    ⟨some (51, true), .un 53 .not (.t 52)⟩,
    ⟨none, .pk 54 (.t 51) (.t 53) (.c (.bool false))⟩,
    ⟨none, .mv 55 (.t 54)⟩,
    ⟨some (55, true), .mv 56 (.t 8)⟩,
    ⟨some (55, true), .mv 57 (.t 13)⟩,
    ⟨some (55, true), .bi 58 .eql (.t 56) (.t 57)⟩,
    ⟨none, .pk 59 (.t 55) (.t 58) (.c (.bool false))⟩,
    ⟨none, .mv 60 (.t 59)⟩,
    ⟨some (60, true), .ld 61 (.t 9) 13 true⟩,
    ⟨some (60, true), .bld 62 [.int .i64 0, .int .i64 0, .int .i64 0, .sl true .pub 0 [], .int .i64 0, .int .i64 0, .int .i64 0, .int .i64 0, .int .i64 0, .int .i64 0, .int .i64 0, .str [], .str []] []⟩,
    ⟨some (60, true), .ca (some 63) 18 [(.t 61), (.t 62)]⟩,
    ⟨none, .pk 64 (.t 60) (.t 63) (.c (.bool false))⟩,
    ⟨none, .mv 65 (.t 64)⟩,
    ⟨some (65, true), .mv 66 (.t 10)⟩,
    ⟨some (65, true), .un 67 .not (.t 66)⟩,
    ⟨none, .pk 68 (.t 65) (.t 67) (.c (.bool false))⟩,
    ⟨none, .mv 69 (.t 68)⟩,
    ⟨some (69, true), .mv 70 (.t 12)⟩,
    ⟨some (69, true), .bi 71 .eql (.t 70) (.c (.int .i64 4))⟩,
    ⟨none, .pk 72 (.t 69) (.t 71) (.c (.bool false))⟩,
    ⟨none, .mv 73 (.t 72)⟩,
    ⟨some (73, true), .mv 74 (.t 5)⟩,
    ⟨some (73, true), .ca (some 75) 41 [(.t 74)]⟩,
    ⟨some (73, true), .bq 76 false .ptr (.t 75) (.c (.ptr none))⟩,
    ⟨none, .pk 77 (.t 73) (.t 76) (.c (.bool false))⟩,
    ⟨none, .mv 78 (.t 77)⟩,
    ⟨some (78, true), .ca (some 79) 19 []⟩,
    ⟨none, .pk 80 (.t 78) (.t 79) (.c (.bool false))⟩,
    ⟨none, .mv 4 (.t 80)⟩])
  (.ret)))))))
theorem comp11 : compFn Try.prog [2, 9, 11] Try.f11 = some ([.t 4], c11) := by kernel_rfl
end Go.VL.opl

namespace Go.VL.opl
open Go Go.VL Go.Proofs Go.IntWalk Go.VL.st Go.VL.row

section
variable {σ : St} {v d kv : V} {n most : Int} {k : List Int} {gs : List Cg} {g : Cg}
set_option maxRecDepth 100000 in
theorem clone_nil : CallA Try.prog 41 [.ptr none] σ fun w σ' => w = .ptr none ∧ σ' = σ := by
  refine fn_at Try.func41 (by decide) dcomp41 rfl fun Q q1 q2 => ?_
  simp -implicitDefEqProofs only [go_sem, Nat.reduceBEq, Nat.reduceAdd, eq_self, true_and, and_true, and_self, List.getElem?_cons_zero, List.getElem?_cons_succ, Nat.reduceLeDiff, Nat.zero_add, Nat.reduceSub, Nat.le_refl, d41]
  refine q2 _ _ ?_
  simp -implicitDefEqProofs only [go_sem, Nat.reduceBEq, Nat.reduceAdd, eq_self, true_and, and_true, and_self, List.getElem?_cons_zero, List.getElem?_cons_succ, Nat.reduceLeDiff, Nat.zero_add, Nat.reduceSub, Nat.le_refl, Nat.lt_irrefl]
  try exact ⟨rfl, rfl⟩
theorem NewC.nil {σ τ : St} {v : V} (h : NewC σ τ v []) : (∃ z, v = .sl true .pub z []) ∨ ∃ q, v = .sl false (.own q) 13 [] := by
  obtain ⟨O, h1, h2⟩ := h
  have hO : O = [] := by simpa using h2
  subst hO
  rcases h1.1 with ⟨-, z, rfl⟩ | ⟨q, rfl, -⟩
  · exact .inl ⟨z, rfl⟩
  · exact .inr ⟨q, rfl⟩
theorem sinceI_one (k : List Int) : sinceI k 1 = clockI k := by
  unfold sinceI
  cases hc : decide (clockI k = 0)
  · rfl
  · exact (of_decide_eq_true hc).symm
set_option maxRecDepth 100000 in
set_option maxHeartbeats 4000000 in
theorem nil_law (hd : ∀ σ, RdS σ d 1 (intsV .i64 g.deps)) (hb : g.deps.length + g.name.length + g.val.length < 1048576) (hk : RdS ⟨[], []⟩ kv 1 (intsV .i64 k)) : CallA Try.prog 11 [cgV d g, kv] ⟨[], []⟩ fun w _ => w = .bool true := by
  refine fn_at Try.func11 (by decide) comp11 rfl fun Q q1 q2 => ?_
  obtain ⟨db, dr, dz, rfl, -, -⟩ := hd ⟨[], []⟩
  simp -implicitDefEqProofs only [go_sem, Nat.reduceBEq, Nat.reduceAdd, eq_self, true_and, and_true, and_self, List.getElem?_cons_zero, List.getElem?_cons_succ, Nat.reduceLeDiff, Nat.zero_add, Nat.reduceSub, Nat.le_refl, c11, cgV, cgC]
  refine call_at (psince_ok (L := []) (k := k) (most := 1) (fun hc τ' he => each_nil) (by simp) (fun g hg => by cases hg) hk) ?_
  rintro w τ1 ⟨⟨a, rfl, ha⟩, e1⟩
  refine ⟨kept_none, ?_⟩
  have hsP : sinceP [] k 1 = [] := by unfold sinceP; cases decide (sinceI k 1 = 0) <;> simp
  have hsQ : sinceQ [] k 1 = false := by unfold sinceQ; simp
  rw [hsP] at ha
  rw [hsQ, sinceI_one]
  have hfn := find_nil (σ := τ1) (x := ⟨g.ac, g.ar⟩)
  simp only [spV, spC] at hfn
  simp -implicitDefEqProofs only [go_sem, Nat.reduceBEq, Nat.reduceAdd, eq_self, true_and, and_true, and_self, List.getElem?_cons_zero, List.getElem?_cons_succ, Nat.reduceLeDiff, Nat.zero_add, Nat.reduceSub, Nat.le_refl, Nat.lt_irrefl]
  refine call_at hfn ?_
  rintro w τ2 ⟨rfl, hτ⟩
  have hτ := hτ.symm
  subst hτ
  refine ⟨kept_none, ?_⟩
  simp -implicitDefEqProofs only [go_sem, Nat.reduceBEq, Nat.reduceAdd, eq_self, true_and, and_true, and_self, List.getElem?_cons_zero, List.getElem?_cons_succ, Nat.reduceLeDiff, Nat.zero_add, Nat.reduceSub, Nat.le_refl, cgV, cgC, flats, V.flat, cg0, v0]
  refine call_at (own_nil (r := 0) (n := 1) (by decide)) ?_
  rintro w τ2 ⟨rfl, hτ⟩
  have hτ := hτ.symm
  subst hτ
  refine ⟨kept_none, ?_⟩
  simp -implicitDefEqProofs only [go_sem, Nat.reduceBEq, Nat.reduceAdd, eq_self, true_and, and_true, and_self, List.getElem?_cons_zero, List.getElem?_cons_succ, Nat.reduceLeDiff, Nat.zero_add, Nat.reduceSub, Nat.le_refl, cgV, cgC, flats, V.flat, cg0, v0]
  refine call_at (rclock_ok (hk.ext e1)) ?_
  rintro w τ2 ⟨hτ, rfl⟩
  have hτ := hτ.symm
  subst hτ
  refine ⟨kept_none, ?_⟩
  have had := add_nil (σ := τ1) (hd τ1) (by omega)
  simp only [cgV, cgC] at had
  simp -implicitDefEqProofs only [go_sem, Nat.reduceBEq, Nat.reduceAdd, eq_self, true_and, and_true, and_self, List.getElem?_cons_zero, List.getElem?_cons_succ, Nat.reduceLeDiff, Nat.zero_add, Nat.reduceSub, Nat.le_refl, cgC]
  refine call_at had ?_
  rintro w τ3 ⟨rfl, e3⟩
  refine ⟨e3.kept, ?_⟩
  have hwy := why_ok (σ := τ3) (v := .sl true .pub 0 []) (gs := []) (room := 0) ⟨[], rfl, ⟨_, _, _, rfl, fun _ => rfl, .inl rfl⟩, by intro p hp; cases hp⟩ (by simp) (hd τ3) (by omega) (fun h hh => by cases hh) (by omega)
  simp only [cgV, cgC] at hwy
  simp -implicitDefEqProofs only [go_sem, Nat.reduceBEq, Nat.reduceAdd, eq_self, true_and, and_true, and_self, List.getElem?_cons_zero, List.getElem?_cons_succ, Nat.reduceLeDiff, Nat.zero_add, Nat.reduceSub, Nat.le_refl, Nat.lt_irrefl]
  refine call_at hwy ?_
  rintro w τ4 ⟨rfl, e4, -⟩
  refine ⟨e4.kept, ?_⟩
  have h1 : decide (whyR [] 0 g = whyR [] 0 g) = true := decide_eq_true rfl
  simp -implicitDefEqProofs only [go_sem, Nat.reduceBEq, Nat.reduceAdd, eq_self, true_and, and_true, and_self, List.getElem?_cons_zero, List.getElem?_cons_succ, Nat.reduceLeDiff, Nat.zero_add, Nat.reduceSub, Nat.le_refl, h1]
  refine call_at told_nil ?_
  rintro w τ5 ⟨rfl, e5⟩
  refine ⟨e5.kept, ?_⟩
  have h2 : decide (((0 : Nat) : Int) = 0) = true := rfl
  have h3 : decide (clockI k = clockI k) = true := decide_eq_true rfl
  have h44 : decide ((4 : Int) = 4) = true := by decide
  have hc0 : CallA Try.prog 18 [cgV v0 cg0, cgV v0 cg0] τ5 fun w σ' => σ' = τ5 ∧ w = .bool true := by
    have := same_ok (g := cg0) (h := cg0) (v0_rd τ5) (v0_rd τ5) (by decide)
    rw [sameC_self] at this
    exact this
  simp only [cgV, cgC, cg0, v0] at hc0
  rcases ha.nil with ⟨z, rfl⟩ | ⟨q, rfl⟩
  all_goals
    simp -implicitDefEqProofs only [go_sem, Nat.reduceBEq, Nat.reduceAdd, eq_self, true_and, and_true, and_self, List.getElem?_cons_zero, List.getElem?_cons_succ, Nat.reduceLeDiff, Nat.zero_add, Nat.reduceSub, Nat.le_refl, h2, h3, List.length_nil]
    refine call_at hc0 ?_
    rintro w τ6 ⟨hτ, rfl⟩
    have hτ := hτ.symm
    subst hτ
    refine ⟨(Ext.refl _).kept, ?_⟩
    simp -implicitDefEqProofs only [go_sem, Nat.reduceBEq, Nat.reduceAdd, eq_self, true_and, and_true, and_self, List.getElem?_cons_zero, List.getElem?_cons_succ, Nat.reduceLeDiff, Nat.zero_add, Nat.reduceSub, Nat.le_refl, h44]
    refine call_at clone_nil ?_
    rintro w τ6 ⟨rfl, hτ⟩
    have hτ := hτ.symm
    subst hτ
    refine ⟨(Ext.refl _).kept, ?_⟩
    simp -implicitDefEqProofs only [go_sem, Nat.reduceBEq, Nat.reduceAdd, eq_self, true_and, and_true, and_self, List.getElem?_cons_zero, List.getElem?_cons_succ, Nat.reduceLeDiff, Nat.zero_add, Nat.reduceSub, Nat.le_refl, Nat.lt_irrefl]
    refine call_at awake_ok ?_
    rintro w τ7 ⟨rfl, e7⟩
    refine ⟨e7.kept, ?_⟩
    simp -implicitDefEqProofs only [go_sem, Nat.reduceBEq, Nat.reduceAdd, eq_self, true_and, and_true, and_self, List.getElem?_cons_zero, List.getElem?_cons_succ, Nat.reduceLeDiff, Nat.zero_add, Nat.reduceSub, Nat.le_refl, Nat.lt_irrefl]
    refine q2 _ _ ?_
    simp -implicitDefEqProofs only [go_sem, Nat.reduceBEq, Nat.reduceAdd, eq_self, true_and, and_true, and_self, List.getElem?_cons_zero, List.getElem?_cons_succ, Nat.reduceLeDiff, Nat.zero_add, Nat.reduceSub, Nat.le_refl, Nat.lt_irrefl]
end
end Go.VL.opl

namespace Go.VL.opl
open Go Go.VL Go.Proofs Go.IntWalk Go.VL.st Go.VL.row

section
variable {σ : St} {v d kv : V} {room n most : Int} {k : List Int} {gs : List Cg} {g : Cg}
/-- What the answer has: a late slice of changes whose slices are anybody's or late. -/
def AnsC (lo : Nat) (τ : St) (u : V) (L : List Cg) : Prop :=
  ((L = [] ∧ u = .sl true .pub 0 []) ∨ ∃ O q, u = .sl false (.own q) 13 (cgsV O) ∧ lo ≤ q ∧ τ.live[q]? = some true ∧ O.map (·.2) = L ∧ ∀ p ∈ O, (∀ σ, RdS σ p.1 1 (intsV .i64 p.2.deps)) ∨ FrD lo τ p)
theorem AnsC.keep {lo : Nat} {τ τ' : St} {u : V} {L : List Cg} (h : AnsC lo τ u L) (k : ∀ r, lo ≤ r → τ.live[r]? = some true → τ'.live[r]? = some true) : AnsC lo τ' u L := by
  refine h.imp_right ?_
  rintro ⟨O, q, h1, h2, h3, h4, h5⟩
  exact ⟨O, q, h1, h2, k _ h2 h3, h4, fun p hp => (h5 p hp).imp_right fun h => h.keep k⟩
theorem FrD.rd {lo : Nat} {τ : St} {p : V × Cg} (h : FrD lo τ p) : RdS τ p.1 1 (intsV .i64 p.2.deps) := by
  obtain ⟨q, h1, h2, -⟩ := h
  rw [h1]; exact ⟨_, _, _, rfl, by simp, .inr ⟨h2, rfl⟩⟩
theorem AnsC.lst {lo : Nat} {τ : St} {u : V} {L : List Cg} (h : AnsC lo τ u L) : ∃ l : List (V × Cg), l.map (·.2) = L ∧ RdS τ u 13 (cgsV l) ∧ Rds τ l ∧ ∀ p ∈ l, (∀ σ, RdS σ p.1 1 (intsV .i64 p.2.deps)) ∨ FrD lo τ p := by
  rcases h with ⟨rfl, rfl⟩ | ⟨O, q, rfl, h2, h3, h4, h5⟩
  · exact ⟨[], rfl, ⟨_, _, _, rfl, fun _ => rfl, .inl rfl⟩, (by intro p hp; cases hp), by intro p hp; cases hp⟩
  · exact ⟨O, h4, ⟨_, _, _, rfl, by simp, .inr ⟨h3, rfl⟩⟩, (fun p hp => (h5 p hp).elim (fun h => h τ) fun h => h.rd), h5⟩
theorem AnsC.rdC {lo : Nat} {τ : St} {u : V} {L : List Cg} (h : AnsC lo τ u L) : RdC τ u L := by
  obtain ⟨l, h1, h2, h3, -⟩ := h.lst
  exact ⟨l, h1, h2, h3⟩
end
theorem but_step {t : St} {q r : Nat} (h : (St.but t q).live[r]? = some true) : (St.but ⟨t.objs, t.live.set q false ++ [true]⟩ t.live.length).live[r]? = some true := by
  have hl : r < (t.live.set q false).length := (List.getElem?_eq_some_iff.1 h).1
  show ((t.live.set q false ++ [true]).set t.live.length false)[r]? = _
  rw [List.getElem?_set_ne (by simp at hl; omega), List.getElem?_append_left hl]
  exact h
theorem but_keep {t t' : St} {q r : Nat} (k : ∀ r : Nat, t.live[r]? = some true → t'.live[r]? = some true) (h : (St.but t q).live[r]? = some true) : (St.but t' q).live[r]? = some true := by
  obtain ⟨h1, h2⟩ := live_but h
  show (t'.live.set q false)[r]? = some true
  rw [List.getElem?_set_ne (Ne.symm h1)]
  exact k r h2
theorem but_live {t : St} {q r : Nat} (h : (St.but t q).live[r]? = some true) : t.live[r]? = some true := (live_but h).2
theorem but_in {t : St} {q r : Nat} (hr : r ≠ q) (h : t.live[r]? = some true) : (St.but t q).live[r]? = some true := by
  show (t.live.set q false)[r]? = some true
  rw [List.getElem?_set_ne (Ne.symm hr)]; exact h
theorem LogIs.lv {τ : St} {lv : List Bool} {i : Nat} {mo : Option Nat} {s : V} {ov : List V} {room : Int} {P : List (V × Cg)} (h : LogIs τ i mo s ov room P) (hr : Rds ⟨τ.objs, lv⟩ P) : LogIs ⟨τ.objs, lv⟩ i mo s ov room P :=
  ⟨h.cells, h.ovl, h.row, hr, (by have := h.map; cases mo <;> exact this), h.own, h.sep, h.good⟩
section
variable {σ : St} {v : V} {room : Int} {gs : List Cg}
set_option maxRecDepth 100000 in
set_option maxHeartbeats 8000000 in
theorem adds_law (hv : ArgC v gs) : CallA Try.prog 7 [.int .i64 room, v] ⟨[], []⟩ fun w _ => w = .bool true := by
  obtain ⟨⟨l, rfl, hva, hds⟩, hgl, hgb⟩ := hv
  have hv2 := hva ⟨[], []⟩
  obtain ⟨b, R, z, rfl, -, -⟩ := id hv2
  rw [List.length_map] at hgl
  refine fn_at Try.func7 (by decide) comp7 rfl fun Q q1 q2 => ?_
  have hcl := cgsV_len l
  cases hr : (decide (room < 1) || decide (room > 4096))
  case true =>
    simp -implicitDefEqProofs only [go_sem, Nat.reduceBEq, Nat.reduceAdd, eq_self, true_and, and_true, and_self, List.getElem?_cons_zero, List.getElem?_cons_succ, Nat.reduceLeDiff, Nat.zero_add, Nat.reduceSub, Nat.le_refl, c7]
    refine call_at (new_bad hr) ?_
    rintro w τ ⟨rfl, hτ⟩
    have hτ := hτ.symm
    subst hτ
    refine ⟨kept_none, ?_⟩
    have h11 : decide ((1 : Int) = 1) = true := by decide
    cases h1 : decide (room < 1)
    case' false =>
      rw [h1, Bool.false_or] at hr
      simp -implicitDefEqProofs only [go_sem, Nat.reduceBEq, Nat.reduceAdd, eq_self, true_and, and_true, and_self, List.getElem?_cons_zero, List.getElem?_cons_succ, Nat.reduceLeDiff, Nat.zero_add, Nat.reduceSub, Nat.le_refl, h1, hr, h11]
    case' true => simp -implicitDefEqProofs only [go_sem, Nat.reduceBEq, Nat.reduceAdd, eq_self, true_and, and_true, and_self, List.getElem?_cons_zero, List.getElem?_cons_succ, Nat.reduceLeDiff, Nat.zero_add, Nat.reduceSub, Nat.le_refl, h1, h11]
    all_goals
      refine call_at awake_ok ?_
      rintro w τ5 ⟨rfl, -⟩
      refine ⟨kept_none, ?_⟩
      simp -implicitDefEqProofs only [go_sem, Nat.reduceBEq, Nat.reduceAdd, eq_self, true_and, and_true, and_self, List.getElem?_cons_zero, List.getElem?_cons_succ, Nat.reduceLeDiff, Nat.zero_add, Nat.reduceSub, Nat.le_refl, Nat.lt_irrefl]
      refine q2 _ _ ?_
      simp -implicitDefEqProofs only [go_sem, Nat.reduceBEq, Nat.reduceAdd, eq_self, true_and, and_true, and_self, List.getElem?_cons_zero, List.getElem?_cons_succ, Nat.reduceLeDiff, Nat.zero_add, Nat.reduceSub, Nat.le_refl, Nat.lt_irrefl]
  have hr' := hr
  rw [Bool.or_eq_false_iff] at hr'
  have hr1 := of_decide_eq_false hr'.1
  have hr2 := of_decide_eq_false hr'.2
  have h00 : decide ((0 : Int) = 0) = true := by decide
  simp -implicitDefEqProofs only [go_sem, Nat.reduceBEq, Nat.reduceAdd, eq_self, true_and, and_true, and_self, List.getElem?_cons_zero, List.getElem?_cons_succ, Nat.reduceLeDiff, Nat.zero_add, Nat.reduceSub, Nat.le_refl, c7]
  refine call_at (new_ok hr) ?_
  rintro w τ ⟨hw0, h0, he0⟩
  change w = .tup [.ptr (some (1, 0)), .int .i64 0] at hw0
  change LogIs τ 1 (some 0) _ _ _ _ at h0
  subst hw0
  refine ⟨kept_none, ?_⟩
  simp -implicitDefEqProofs only [go_sem, Nat.reduceBEq, Nat.reduceAdd, eq_self, true_and, and_true, and_self, List.getElem?_cons_zero, List.getElem?_cons_succ, Nat.reduceLeDiff, Nat.zero_add, Nat.reduceSub, Nat.le_refl, hr'.1, hr'.2, h00, Bool.not_true, flats, V.flat]
  refine loop_at (fun (y : Nat × V) => ⟨[(0, .v (.int .i64 room)), (1, .v (.sl b R z (cgsV l))), (5, .v (.ptr (some (1, 0)))), (7, .loc 7 0), (8, .v (.int .i64 ((y.1 : Nat) : Int)))], [(7, [.int .i64 room, y.2])]⟩)
    (fun y t => y.1 ≤ l.length ∧ AnsC 0 t y.2 (logR ((l.map (·.2)).take y.1) room) ∧ ∃ s ov P, LogIs t 1 (some 0) s ov room P ∧ cgL P = logR ((l.map (·.2)).take y.1) room ∧ ∀ p ∈ P, FrD 0 t p) (fun y => l.length - y.1) (0, .sl true .pub 0 []) ?_ ?_ ?_
  · refine .inr ?_
    simp -implicitDefEqProofs only [go_sem, Nat.reduceBEq, Nat.reduceAdd, eq_self, true_and, and_true, and_self, List.getElem?_cons_zero, List.getElem?_cons_succ, Nat.reduceLeDiff, Nat.zero_add, Nat.reduceSub, Nat.le_refl, Nat.lt_irrefl]
    try exact ⟨rfl, rfl⟩
    try exact rfl
  · exact ⟨Nat.zero_le _, .inl ⟨rfl, rfl⟩, _, _, [], h0, rfl, by intro p hp; cases hp⟩
  rintro ⟨y, u⟩ t ⟨g1, g2, s, ov, P, g3, g4, g5⟩ Z z1 z2 z3
  simp only at g1 g2 g4
  have hPr : P.length ≤ 4096 := by
    have h1 := logR_room ((l.map (·.2)).take y) room
    rw [← g4, map2_len] at h1
    omega
  simp -implicitDefEqProofs only [go_sem, Nat.reduceBEq, Nat.reduceAdd, eq_self, true_and, and_true, and_self, List.getElem?_cons_zero, List.getElem?_cons_succ, Nat.reduceLeDiff, Nat.zero_add, Nat.reduceSub, Nat.le_refl, hcl]
  cases hc : decide ((y : Int) < l.length)
  · simp -implicitDefEqProofs only [go_sem, Nat.reduceBEq, Nat.reduceAdd, eq_self, true_and, and_true, and_self, List.getElem?_cons_zero, List.getElem?_cons_succ, Nat.reduceLeDiff, Nat.zero_add, Nat.reduceSub, Nat.le_refl, hc]
    refine z2 _ _ _ ?_
    simp -implicitDefEqProofs only [go_sem, Nat.reduceBEq, Nat.reduceAdd, eq_self, true_and, and_true, and_self, List.getElem?_cons_zero, List.getElem?_cons_succ, Nat.reduceLeDiff, Nat.zero_add, Nat.reduceSub, Nat.le_refl, Nat.lt_irrefl]
    refine call_at awake_ok ?_
    rintro w τ5 ⟨rfl, -⟩
    refine ⟨kept_none, ?_⟩
    simp -implicitDefEqProofs only [go_sem, Nat.reduceBEq, Nat.reduceAdd, eq_self, true_and, and_true, and_self, List.getElem?_cons_zero, List.getElem?_cons_succ, Nat.reduceLeDiff, Nat.zero_add, Nat.reduceSub, Nat.le_refl, Nat.lt_irrefl]
    refine q2 _ _ ?_
    simp -implicitDefEqProofs only [go_sem, Nat.reduceBEq, Nat.reduceAdd, eq_self, true_and, and_true, and_self, List.getElem?_cons_zero, List.getElem?_cons_succ, Nat.reduceLeDiff, Nat.zero_add, Nat.reduceSub, Nat.le_refl, Nat.lt_irrefl]
  have hi : y < l.length := by have := of_decide_eq_true hc; omega
  have hget := cgsV_get hi
  have hwy : IntKind.i64.wrap ((y : Int) + 1) = ((y + 1 : Nat) : Int) := by rw [i64_in _ (by omega)]; omega
  obtain ⟨k1, k2⟩ := rdl (hva t) (cgsV_ne hi)
  have hdi := hds _ (List.getElem_mem hi)
  have hbi := hgb _ (List.mem_map_of_mem (List.getElem_mem hi))
  have htk : logR ((l.map (·.2)).take (y + 1)) room = addR (logR ((l.map (·.2)).take y) room) room l[y].2 := by
    rw [logR_take (by simpa using hi)]; simp
  generalize l[y] = p at hget htk hdi hbi
  obtain ⟨d2, g⟩ := p
  simp only at hget htk hdi hbi
  obtain ⟨db, dr, dz, rfl, -, -⟩ := hdi t
  have hvr : ∀ q r' s' es, renS q r' s' es (.v (.sl b R z (cgsV l))) = .v (.sl b R z (cgsV l)) := fun q r' s' es => renS_old hv2 (Nat.zero_le _)
  have hcp := copy_ok (hdi t) (by omega)
  simp only [cgV, cgC] at hcp
  simp -implicitDefEqProofs only [go_sem, Nat.reduceBEq, Nat.reduceAdd, eq_self, true_and, and_true, and_self, List.getElem?_cons_zero, List.getElem?_cons_succ, Nat.reduceLeDiff, Nat.zero_add, Nat.reduceSub, Nat.le_refl, hc, hcl, hget, cgC]
  refine ⟨⟨by omega, by omega, k2⟩, k1, ?_⟩
  refine call_at hcp ?_
  rintro w t1 ⟨e1, o1, x, rfl, q1', rfl, hq1, hq1l⟩
  refine ⟨kept_none, ?_⟩
  simp -implicitDefEqProofs only [go_sem, Nat.reduceBEq, Nat.reduceAdd, eq_self, true_and, and_true, and_self, List.getElem?_cons_zero, List.getElem?_cons_succ, Nat.reduceLeDiff, Nat.zero_add, Nat.reduceSub, Nat.le_refl, flats, V.flat]
  obtain ⟨l0, hl01, hl02, hl03, hl04⟩ := g2.lst
  have hq1n := (List.getElem?_eq_some_iff.1 hq1).1
  have hgd := logR_good ((l.map (·.2)).take y) room
  have hL0 : l0.length ≤ 1000000 := by
    have := congrArg List.length hl01
    rw [← g4, map2_len, map2_len] at this
    omega
  have haddr : ∀ τ, Ext t1 τ → CallA Try.prog 35 [.agg [.int .i64 room, u], cgV (.sl db dr dz (intsV .i64 g.deps)) g] τ fun w σ' => (∃ u2, w = .tup [.agg [.int .i64 room, u2], .int .i64 (whyR (cgL P) room g)] ∧ (∀ τ', Ext σ' τ' → AnsC 0 (St.but τ' q1') u2 (addR (cgL P) room g))) ∧ Ext τ σ' := fun τ e => by
    have := radd_src (room := room) (g := g) (hl02.ext (e1.trans e)) (hl03.ext (e1.trans e)) hL0 (hdi τ) (by omega) (fun h hh => by rw [hl01] at hh; have := hgd.deps h hh; omega) (by omega)
    rw [hl01, ← g4] at this
    refine this.mono fun w σ' h => ?_
    obtain ⟨⟨u2, h1, h2, h3⟩, h4, -⟩ := h
    refine ⟨⟨u2, h1, fun τ' e' => ?_⟩, h4⟩
    have bl : ∀ r : Nat, r ≠ q1' → τ'.live[r]? = some true → (St.but τ' q1').live[r]? = some true := fun r hr h => by
      show (τ'.live.set q1' false)[r]? = some true
      rw [List.getElem?_set_ne (Ne.symm hr)]; exact h
    have hte := e.llen
    have key : ∀ r : Nat, t.live[r]? = some true → (St.but τ' q1').live[r]? = some true := fun r hr =>
      bl r (by have := (List.getElem?_eq_some_iff.1 hr).1; omega) (e'.live _ (h4.live _ (e.live _ (e1.live _ hr))))
    rcases h3 with ⟨rfl, h5⟩ | ⟨O, q, rfl, x1, x2, x3, x4, x5⟩
    · rw [h5, g4]; exact g2.keep fun r _ => key r
    · refine .inr ⟨O, q, rfl, Nat.zero_le _, bl q (by omega) (e'.live _ x2), x3, fun p hp => ?_⟩
      rcases x5 p hp with x6 | ⟨r, x6, x7⟩
      · exact (hl04 p x6).imp_right fun h => h.keep fun r _ => key r
      · refine .inr ⟨r, x6, bl r (by omega) (e'.live _ ?_), Nat.zero_le _⟩
        have := x4 p hp
        rw [x6] at this
        obtain ⟨_, _, _, e9, -, h9⟩ := this
        cases e9
        rcases h9 with h9 | h9
        · cases h9
        · exact h9.1
  refine cut_at (fun G τ2 => ∃ j u2, Ext t1 τ2 ∧ τ2.objs[j]? = some (.cells [.int .i64 room, u2]) ∧ AnsC 0 (St.but τ2 q1') u2 (addR (cgL P) room g) ∧ G = ⟨[(0, .v (.int .i64 room)), (1, .v (.sl b R z (cgsV l))), (5, .v (.ptr (some (1, 0)))), (7, .loc 7 0), (8, .v (.int .i64 y)), (9, .loc 9 0), (10, .v (.ptr (some (j, 0)))), (11, .v (.int .i64 (whyR (cgL P) room g)))], [(7, [.int .i64 room, u]), (9, cgC (.sl false (.own q1') 1 (intsV .i64 g.deps)) g)]⟩) ?_ ?_
  · intro Y y1 y2 y3
    obtain ⟨k3, k4⟩ := rdl (hva t1) (cgsV_ne hi)
    have hA1 := haddr t1 (.refl _)
    have hA2 := haddr _ (ext_obj t1 (.cells [.int .i64 0, .sl true .pub 0 []]))
    simp only [cgV, cgC] at hA1 hA2
    have hap : ∀ (A : List AObj) x, (A ++ [x])[A.length]? = some x := by simp
    simp -implicitDefEqProofs only [go_sem, Nat.reduceBEq, Nat.reduceAdd, eq_self, true_and, and_true, and_self, List.getElem?_cons_zero, List.getElem?_cons_succ, Nat.reduceLeDiff, Nat.zero_add, Nat.reduceSub, Nat.le_refl, hget, cgC, hcl]
    refine ⟨⟨⟨by omega, by omega, k4⟩, k3, ?_⟩, ⟨by omega, by omega, k4⟩, k3, ?_⟩
    · refine call_at hA1 ?_
      rintro w τ2 ⟨⟨u2, rfl, hu2⟩, e2⟩
      refine ⟨e2.kept, ?_⟩
      obtain ⟨b3, R3, z3', es3, rfl⟩ := (hu2 _ (.refl _)).rdC.isSl
      have hset : ∀ cs, ((⟨τ2.objs ++ [.cells [.int .i64 0, .sl true .pub 0 []]], τ2.live⟩ : St).setC τ2.objs.length cs).objs[τ2.objs.length]? = some (.cells cs) := fun cs => setC_get (by simp)
      have e3 : ∀ cs, Ext τ2 ((⟨τ2.objs ++ [.cells [.int .i64 0, .sl true .pub 0 []]], τ2.live⟩ : St).setC τ2.objs.length cs) := fun cs => ext_set (ext_obj _ _) (Nat.le_refl _)
      simp -implicitDefEqProofs only [go_sem, Nat.reduceBEq, Nat.reduceAdd, eq_self, true_and, and_true, and_self, List.getElem?_cons_zero, List.getElem?_cons_succ, Nat.reduceLeDiff, Nat.zero_add, Nat.reduceSub, Nat.le_refl, hap, flats, V.flat]
      refine y1 _ _ _ (.inr ?_) ⟨τ2.objs.length, _, e2.trans (e3 _), hset _, hu2 _ (e3 _), rfl⟩
      simp -implicitDefEqProofs only [go_sem, Nat.reduceBEq, Nat.reduceAdd, eq_self, true_and, and_true, and_self, List.getElem?_cons_zero, List.getElem?_cons_succ, Nat.reduceLeDiff, Nat.zero_add, Nat.reduceSub, Nat.le_refl, cgC]
      try exact ⟨rfl, rfl⟩
      try exact rfl
    · refine call_at hA2 ?_
      rintro w τ2 ⟨⟨u2, rfl, hu2⟩, e2⟩
      refine ⟨e2.kept, ?_⟩
      obtain ⟨b3, R3, z3', es3, rfl⟩ := (hu2 _ (.refl _)).rdC.isSl
      have hold := e2.objs _ _ (hap t1.objs (.cells [.int .i64 0, .sl true .pub 0 []]))
      have hset : ∀ cs, (τ2.setC t1.objs.length cs).objs[t1.objs.length]? = some (.cells cs) := fun cs => setC_get (List.getElem?_eq_some_iff.1 hold).1
      simp -implicitDefEqProofs only [go_sem, Nat.reduceBEq, Nat.reduceAdd, eq_self, true_and, and_true, and_self, List.getElem?_cons_zero, List.getElem?_cons_succ, Nat.reduceLeDiff, Nat.zero_add, Nat.reduceSub, Nat.le_refl, hold, flats, V.flat]
      refine y1 _ _ _ (.inr ?_) ⟨t1.objs.length, _, ext_set ((ext_obj _ _).trans e2) (Nat.le_refl _), hset _, (hu2 _ (.refl _)).keep fun _ _ h => h, rfl⟩
      simp -implicitDefEqProofs only [go_sem, Nat.reduceBEq, Nat.reduceAdd, eq_self, true_and, and_true, and_self, List.getElem?_cons_zero, List.getElem?_cons_succ, Nat.reduceLeDiff, Nat.zero_add, Nat.reduceSub, Nat.le_refl, cgC]
      try exact ⟨rfl, rfl⟩
      try exact rfl
  rintro G τ2 ⟨j, u2, e2, hj, hA, rfl⟩
  have hq2 := e2.live _ hq1
  have hx : RdS τ2 (.sl false (.own q1') 1 (intsV .i64 g.deps)) 1 (intsV .i64 g.deps) := ⟨_, _, _, rfl, by simp, .inr ⟨hq2, rfl⟩⟩
  have had := add_ok (g3.ext (e1.trans e2)) (by omega) hx (by omega)
  simp only [cgV, cgC] at had
  have hq1n2 := (List.getElem?_eq_some_iff.1 hq2).1
  have hur : ∀ (t' : St) (q' : Nat), AnsC 0 (St.but t' q') u2 (addR (cgL P) room g) → ∀ r' s' es, renV q' r' s' es u2 = u2 := fun t' q' h r' s' es => by
    rcases h with ⟨-, rfl⟩ | ⟨O, q, rfl, -, h3, -⟩
    · rfl
    · have : Nat.beq q q' = false := by
        rw [beq_nat]; simp; exact (live_but h3).1
      simp only [renV, this, cond_false]
  obtain ⟨b3, R3, z3', es3, rfl⟩ := hA.rdC.isSl
  simp -implicitDefEqProofs only [go_sem, Nat.reduceBEq, Nat.reduceAdd, eq_self, true_and, and_true, and_self, List.getElem?_cons_zero, List.getElem?_cons_succ, Nat.reduceLeDiff, Nat.zero_add, Nat.reduceSub, Nat.le_refl, hj, cgC, flats, V.flat]
  refine call_at had ?_
  rintro w τ3 ⟨rfl, s1, ov1, P1, h1, hP1, kt, hnw⟩
  refine ⟨kept_none, ?_⟩
  have hww : decide (whyR (cgL P) room g = whyR (cgL P) room g) = true := decide_eq_true rfl
  have hA3 := hA.keep (τ' := St.but τ3 q1') fun r _ => but_keep kt.upd.live
  have hP3 : ∀ p ∈ P1, FrD 0 (St.but τ3 q1') p := fun p hp => by
    rcases hnw p hp with hp | ⟨r, x1, x2, x3⟩
    · refine (g5 p hp).keep fun r _ hr => but_in ?_ (kt.upd.live _ (e2.live _ (e1.live _ hr)))
      have := (List.getElem?_eq_some_iff.1 hr).1
      omega
    · exact ⟨r, x1, but_in (by omega) x2, Nat.zero_le _⟩
  have hPl1 : P1.length ≤ 1000000 := by
    have h2 := congrArg List.length hP1
    rw [map2_len] at h2
    have h3 := addR_len (L := cgL P) (room := room) (g := g)
    rw [map2_len] at h3
    omega
  simp -implicitDefEqProofs only [go_sem, Nat.reduceBEq, Nat.reduceAdd, eq_self, true_and, and_true, and_self, List.getElem?_cons_zero, List.getElem?_cons_succ, Nat.reduceLeDiff, Nat.zero_add, Nat.reduceSub, Nat.le_refl, hww, Bool.not_true]
  refine loop_at (fun (y2 : Nat × Nat × List Int) => ⟨[(0, .v (.int .i64 room)), (1, .v (.sl b R z (cgsV l))), (5, .v (.ptr (some (1, 0)))), (7, .loc 7 0), (8, .v (.int .i64 y)), (9, .loc 9 0), (12, .v (.int .i64 ((y2.1 : Nat) : Int)))], [(7, [.int .i64 room, .sl b3 R3 z3' es3]), (9, cgC (.sl false (.own y2.2.1) 1 (intsV .i64 y2.2.2)) g)]⟩)
    (fun y2 t4 => y2.1 ≤ g.deps.length ∧ y2.2.2.length = g.deps.length ∧ t4.live[y2.2.1]? = some true ∧ LogIs t4 1 (some 0) s1 ov1 room P1 ∧ AnsC 0 (St.but t4 y2.2.1) (.sl b3 R3 z3' es3) (addR (cgL P) room g) ∧ ∀ p ∈ P1, FrD 0 (St.but t4 y2.2.1) p) (fun y2 => g.deps.length - y2.1) (0, q1', g.deps) ?_ ?_ ?_
  · refine .inr ?_
    simp -implicitDefEqProofs only [go_sem, Nat.reduceBEq, Nat.reduceAdd, eq_self, true_and, and_true, and_self, List.getElem?_cons_zero, List.getElem?_cons_succ, Nat.reduceLeDiff, Nat.zero_add, Nat.reduceSub, Nat.le_refl, cgC]
    try exact ⟨rfl, rfl⟩
    try exact rfl
  · exact ⟨Nat.zero_le _, rfl, kt.upd.live _ hq2, h1, hA3, hP3⟩
  rintro ⟨k, q4, ds⟩ t4 ⟨f1, f2, f3, f4, f5, f6⟩ X x1 x2 x3
  simp only at f1 f2 f3 f5 f6
  have hdl := intsV_len ds
  simp -implicitDefEqProofs only [go_sem, Nat.reduceBEq, Nat.reduceAdd, eq_self, true_and, and_true, and_self, List.getElem?_cons_zero, List.getElem?_cons_succ, Nat.reduceLeDiff, Nat.zero_add, Nat.reduceSub, Nat.le_refl, cgC, hdl, f2]
  cases hk : decide ((k : Int) < g.deps.length)
  · simp -implicitDefEqProofs only [go_sem, Nat.reduceBEq, Nat.reduceAdd, eq_self, true_and, and_true, and_self, List.getElem?_cons_zero, List.getElem?_cons_succ, Nat.reduceLeDiff, Nat.zero_add, Nat.reduceSub, Nat.le_refl, hk]
    refine x2 _ _ _ ?_
    simp -implicitDefEqProofs only [go_sem, Nat.reduceBEq, Nat.reduceAdd, eq_self, true_and, and_true, and_self, List.getElem?_cons_zero, List.getElem?_cons_succ, Nat.reduceLeDiff, Nat.zero_add, Nat.reduceSub, Nat.le_refl, cgC]
    have hA4 := f5.keep (τ' := t4) fun r _ => but_live
    refine call_at (told_ok f4 hPl1 (by rw [hP1]; exact hA4.rdC)) ?_
    rintro w t5 ⟨rfl, e5⟩
    refine ⟨kept_none, ?_⟩
    simp -implicitDefEqProofs only [go_sem, Nat.reduceBEq, Nat.reduceAdd, eq_self, true_and, and_true, and_self, List.getElem?_cons_zero, List.getElem?_cons_succ, Nat.reduceLeDiff, Nat.zero_add, Nat.reduceSub, Nat.le_refl, Bool.not_true, hwy]
    refine z1 (y + 1, _) _ _ (.inr ?_) (by simp only; omega) ⟨by simp only; omega, by rw [htk, ← g4]; exact hA4.keep fun r _ => e5.live r, s1, ov1, P1, f4.ext e5, by rw [htk, hP1, g4], fun p hp => (f6 p hp).keep fun r _ hr => e5.live _ (but_live hr)⟩
    simp -implicitDefEqProofs only [go_sem, Nat.reduceBEq, Nat.reduceAdd, eq_self, true_and, and_true, and_self, List.getElem?_cons_zero, List.getElem?_cons_succ, Nat.reduceLeDiff, Nat.zero_add, Nat.reduceSub, Nat.le_refl, Nat.lt_irrefl]
    try exact ⟨rfl, rfl⟩
    try exact rfl
  · have hki : k < ds.length := by have := of_decide_eq_true hk; omega
    have hkd := of_decide_eq_true hk
    have hwk : IntKind.i64.wrap ((k : Int) + 1) = ((k + 1 : Nat) : Int) := by rw [i64_in _ (by omega)]; omega
    have hgk : (intsV .i64 ds)[k]? = some [.int .i64 ds[k]] := by simp [intsV, hki]
    have hset : (intsV .i64 ds).set k [.int .i64 (-7)] = intsV .i64 (ds.set k (-7)) := by simp [intsV, List.map_set]
    have hu' := hur _ _ f5
    simp -implicitDefEqProofs only [go_sem, Nat.reduceBEq, Nat.reduceAdd, eq_self, true_and, and_true, and_self, List.getElem?_cons_zero, List.getElem?_cons_succ, Nat.reduceLeDiff, Nat.zero_add, Nat.reduceSub, Nat.le_refl, hk, cgC, hdl, f2, Int.toNat_natCast, hgk, hvr, hu', beq_self_eq_true]
    refine ⟨⟨by omega, hkd⟩, f3, ?_⟩
    refine x1 (k + 1, t4.live.length, ds.set k (-7)) _ _ (.inr ?_) (by simp only; omega) ⟨by simp only; omega, by simp only [List.length_set]; exact f2, live_last' _ _ _, f4.lv fun p hp => FrD.rd (lo := 0) ((f6 p hp).keep fun r _ h => but_live (but_step h)), f5.keep fun r _ h => but_step h, fun p hp => (f6 p hp).keep fun r _ h => but_step h⟩
    simp -implicitDefEqProofs only [go_sem, Nat.reduceBEq, Nat.reduceAdd, eq_self, true_and, and_true, and_self, List.getElem?_cons_zero, List.getElem?_cons_succ, Nat.reduceLeDiff, Nat.zero_add, Nat.reduceSub, Nat.le_refl, hwk, ← hset, cgC]
    try exact ⟨rfl, rfl⟩
    try exact rfl
end
end Go.VL.opl

import Derived.Test.YtcojigpknididaaB4
import Derived.Test.YtcojigpknididaaProg
set_option linter.unusedVariables false
set_option linter.unusedSimpArgs false
namespace Go.VL.opl
open Go Go.VL Go.Proofs Go.IntWalk Go.VL.st Go.VL.row

def StT : T := .agg [.int .i64, .int .i64]
def CgT : List T := [StT, .int .i64, .sl 1 (.int .i64), .int .i64, StT, StT, StT, .str, .str]
theorem has_ints {xs : List V} (h : (T.sl 1 (.int .i64)).has xs) : ∃ d l, xs = [d] ∧ (∀ σ, RdS σ d 1 (intsV .i64 l)) ∧ l.length < vbs xs := by
  rcases h with rfl | ⟨es, rfl, h⟩
  · exact ⟨_, [], rfl, fun σ => ⟨_, _, _, rfl, by simp [intsV], .inl rfl⟩, by simp [vbs, vb]⟩
  · obtain ⟨l, rfl, h2, h3⟩ := ints_of h
    exact ⟨_, l, rfl, fun σ => ⟨_, _, _, rfl, by simp, .inr ⟨trivial, rfl⟩⟩, by simp only [vbs, vb]; omega⟩
theorem has_st {xs : List V} (h : StT.has xs) : ∃ c r, xs = [.int .i64 c, .int .i64 r] := by
  obtain ⟨_, _, rfl, ⟨c, rfl, h1⟩, _, _, rfl, ⟨r, rfl, h2⟩, rfl⟩ := h
  exact ⟨c, r, rfl⟩
theorem has_cg {xs : List V} (h : T.hasL CgT xs) : ∃ d g, xs = cgC d g ∧ (∀ σ, RdS σ d 1 (intsV .i64 g.deps)) ∧ 13 + g.deps.length + g.name.length + g.val.length ≤ vbs xs := by
  obtain ⟨_, _, rfl, h1, _, _, rfl, ⟨seq, rfl, h2⟩, _, _, rfl, h3, _, _, rfl, ⟨kind, rfl, h4⟩, _, _, rfl, h5, _, _, rfl, h6, _, _, rfl, h7, _, _, rfl, ⟨name, rfl⟩, _, _, rfl, ⟨val, rfl⟩, rfl⟩ := h
  obtain ⟨ac, ar, rfl⟩ := has_st h1
  obtain ⟨d, deps, rfl, a3, a4⟩ := has_ints h3
  obtain ⟨nc, nr, rfl⟩ := has_st h5
  obtain ⟨pc, pr, rfl⟩ := has_st h6
  obtain ⟨fc, fr, rfl⟩ := has_st h7
  refine ⟨d, ⟨ac, ar, seq, deps, kind, nc, nr, pc, pr, fc, fr, name, val⟩, rfl, a3, ?_⟩
  simp only [List.cons_append, List.nil_append, List.append_nil, vbs, vb] at a4 ⊢
  omega
theorem cgs_of : ∀ {es : List (List V)}, (∀ y ∈ es, (T.agg CgT).has y) → ∃ l : List (V × Cg), es = cgsV l ∧ 13 * l.length ≤ vbe es ∧ ∀ p ∈ l, (∀ σ, RdS σ p.1 1 (intsV .i64 p.2.deps)) ∧ p.2.deps.length + p.2.name.length + p.2.val.length < vbe es
  | [], _ => ⟨[], rfl, by simp, by simp⟩
  | y :: es, h => by
    obtain ⟨l, rfl, h2, h3⟩ := cgs_of (es := es) fun y hy => h y (by simp [hy])
    obtain ⟨d, g, rfl, a1, a3⟩ := has_cg (h y (by simp))
    refine ⟨(d, g) :: l, rfl, by simp only [List.length_cons, vbe]; omega, fun q hq => ?_⟩
    simp only [vbe]
    rcases List.mem_cons.1 hq with rfl | hq
    · exact ⟨a1, by simp only; omega⟩
    · obtain ⟨b1, b3⟩ := h3 q hq
      exact ⟨b1, by omega⟩
theorem arg_cg {x : V} (h : (T.agg CgT).arg x) : ∃ d g, x = cgV d g ∧ (∀ σ, RdS σ d 1 (intsV .i64 g.deps)) ∧ g.deps.length + g.name.length + g.val.length < vba x := by
  obtain ⟨xs, rfl, h⟩ := h
  obtain ⟨d, g, rfl, h1, h3⟩ := has_cg h
  exact ⟨d, g, rfl, h1, by simp only [vba]; omega⟩
/-- A list of changes, as an argument. -/
def ArgC (v : V) (gs : List Cg) : Prop := (∃ l : List (V × Cg), l.map (·.2) = gs ∧ (∀ σ, RdS σ v 13 (cgsV l)) ∧ ∀ p ∈ l, ∀ σ, RdS σ p.1 1 (intsV .i64 p.2.deps)) ∧ gs.length ≤ 90000 ∧ ∀ g ∈ gs, g.deps.length + g.name.length + g.val.length < 1048576
theorem arg_cgs {x : V} (h : (T.sl 13 (.agg CgT)).arg x) : ∃ gs, (vba x ≤ 1048576 → ArgC x gs) := by
  obtain ⟨es, h1, h2, h3⟩ := has_sl h
  obtain ⟨l, rfl, h4, h5⟩ := cgs_of h2
  refine ⟨l.map (·.2), fun hb => ⟨⟨l, rfl, fun σ => ?_, fun p hp => (h5 p hp).1⟩, by rw [List.length_map]; omega, fun g hg => ?_⟩⟩
  · rcases h1 with ⟨rfl, h1⟩ | rfl
    · rw [h1]; exact ⟨true, .pub, 0, rfl, by simp, .inl rfl⟩
    · exact ⟨false, .pub, 13, rfl, by simp, .inr ⟨trivial, rfl⟩⟩
  · obtain ⟨p, hp, rfl⟩ := List.mem_map.1 hg
    have := (h5 p hp).2
    omega
theorem ArgC.rd {v : V} {gs : List Cg} (h : ArgC v gs) (σ : St) : RdC σ v gs := by
  obtain ⟨⟨l, rfl, h1, h2⟩, -⟩ := h
  exact ⟨l, rfl, h1 σ, fun p hp => h2 p hp σ⟩
/-- The first change. -/
def cgF : Cg := ⟨1, 0, 1, [], 1, 1, 0, 0, 0, 0, 0, [112], []⟩
section
variable {σ : St} {i m j y : Nat} {mo : Option Nat} {s d v kv w p : V} {ov : List V} {room r n most : Int} {P O : List (V × Cg)} {g : Cg} {x : Sp} {l k : List Int} {L gs : List Cg}
set_option maxRecDepth 100000 in
theorem first_ok : CallA Try.prog 15 [] σ fun v σ' => v = cgV v0 cgF ∧ σ' = σ := by
  refine fn_at Try.func15 (by decide) comp15 rfl fun Q q1 q2 => ?_
  unfold cgF cgV cgC v0 at q2
  simp -implicitDefEqProofs only [go_sem, Nat.reduceBEq, Nat.reduceAdd, eq_self, true_and, and_true, and_self, List.getElem?_cons_zero, List.getElem?_cons_succ, Nat.reduceLeDiff, Nat.zero_add, Nat.reduceSub, Nat.le_refl, c15]
  refine q2 _ _ ?_
  simp -implicitDefEqProofs only [go_sem, Nat.reduceBEq, Nat.reduceAdd, eq_self, true_and, and_true, and_self, List.getElem?_cons_zero, List.getElem?_cons_succ, Nat.reduceLeDiff, Nat.zero_add, Nat.reduceSub, Nat.le_refl, Nat.lt_irrefl]
  try exact ⟨rfl, rfl⟩
theorem LTo.fresh {σ0 σ τ : St} {i : Nat} {mo : Option Nat} {s s' : V} {ov ov' : List V} (h : LTo σ τ i mo s s' ov ov') (he : Ext σ0 σ) (hf : ∀ j, Own i mo s ov j → σ0.objs.length ≤ j) : Ext σ0 τ ∧ ∀ j, Own i mo s' ov' j → σ0.objs.length ≤ j :=
  ⟨h.upd.toExt he hf, fun j hj => (h.own j hj).elim (hf j) fun hl => Nat.le_trans he.olen hl⟩
theorem v0_rd (σ : St) : RdS σ v0 1 (intsV .i64 []) := ⟨_, _, _, rfl, fun _ => rfl, .inl rfl⟩
theorem whyF : whyR [] 3 cgF = 0 := by decide
theorem whyF2 : whyR [cgF] 3 cgF = 5 := by decide
set_option maxRecDepth 100000 in
set_option maxHeartbeats 3200000 in
theorem awake_ok : CallA Try.prog 19 [] σ fun v σ' => v = .bool true ∧ Ext σ σ' := by
  refine fn_at Try.func19 (by decide) comp19 rfl fun Q q1 q2 => ?_
  have h00 : decide ((0 : Int) = 0) = true := by decide
  have h55 : decide ((5 : Int) = 5) = true := by decide
  have h11 : decide ((1 : Int) = 1) = true := by decide
  simp -implicitDefEqProofs only [go_sem, Nat.reduceBEq, Nat.reduceAdd, eq_self, true_and, and_true, and_self, List.getElem?_cons_zero, List.getElem?_cons_succ, Nat.reduceLeDiff, Nat.zero_add, Nat.reduceSub, Nat.le_refl, c19]
  refine call_at (new_ok (room := 3) rfl) ?_
  rintro v τ ⟨rfl, h0, he0⟩
  refine ⟨kept_none, ?_⟩
  have hf0 : ∀ j, Own (σ.objs.length + 1) (some σ.objs.length) (.sl true .pub 0 []) nilO j → σ.objs.length ≤ j := fun j hj => by
    rcases own_new hj with rfl | h
    · omega
    · cases h; omega
  simp -implicitDefEqProofs only [go_sem, Nat.reduceBEq, Nat.reduceAdd, eq_self, true_and, and_true, and_self, List.getElem?_cons_zero, List.getElem?_cons_succ, Nat.reduceLeDiff, Nat.zero_add, Nat.reduceSub, Nat.le_refl, h00]
  refine call_at first_ok ?_
  rintro v τ1 ⟨rfl, hτ⟩
  have hτ := hτ.symm
  subst hτ
  refine ⟨kept_none, ?_⟩
  simp -implicitDefEqProofs only [go_sem, Nat.reduceBEq, Nat.reduceAdd, eq_self, true_and, and_true, and_self, List.getElem?_cons_zero, List.getElem?_cons_succ, Nat.reduceLeDiff, Nat.zero_add, Nat.reduceSub, Nat.le_refl, Nat.lt_irrefl]
  refine call_at (add_ok h0 (by simp) (v0_rd _) (by decide)) ?_
  rintro v τ1 ⟨rfl, s1, ov1, P1, h1, hP1, k1, -⟩
  refine ⟨kept_none, ?_⟩
  obtain ⟨he1, hf1⟩ := k1.fresh he0 hf0
  have hL1 : cgL P1 = [cgF] := by rw [hP1]; decide
  have hw1 : whyR [] 3 cgF = 0 := whyF
  simp -implicitDefEqProofs only [go_sem, Nat.reduceBEq, Nat.reduceAdd, eq_self, true_and, and_true, and_self, List.getElem?_cons_zero, List.getElem?_cons_succ, Nat.reduceLeDiff, Nat.zero_add, Nat.reduceSub, Nat.le_refl, hw1, h00]
  refine call_at first_ok ?_
  rintro v τ2 ⟨rfl, hτ⟩
  have hτ := hτ.symm
  subst hτ
  refine ⟨kept_none, ?_⟩
  have hPl : P1.length = 1 := by have := congrArg List.length hL1; rw [List.length_map] at this; exact this
  simp -implicitDefEqProofs only [go_sem, Nat.reduceBEq, Nat.reduceAdd, eq_self, true_and, and_true, and_self, List.getElem?_cons_zero, List.getElem?_cons_succ, Nat.reduceLeDiff, Nat.zero_add, Nat.reduceSub, Nat.le_refl, Nat.lt_irrefl]
  refine call_at (add_ok h1 (by omega) (v0_rd _) (by decide)) ?_
  rintro v τ2 ⟨rfl, s2, ov2, P2, h2, hP2, k2, -⟩
  refine ⟨kept_none, ?_⟩
  obtain ⟨he2, hf2⟩ := k2.fresh he1 hf1
  rw [hL1] at hP2
  have hL2 : cgL P2 = [cgF] := by rw [hP2]; decide
  have hPl2 : P2.length = 1 := by have := congrArg List.length hL2; rw [List.length_map] at this; exact this
  have hw2 : whyR (cgL P1) 3 cgF = 5 := by rw [hL1]; exact whyF2
  simp -implicitDefEqProofs only [go_sem, Nat.reduceBEq, Nat.reduceAdd, eq_self, true_and, and_true, and_self, List.getElem?_cons_zero, List.getElem?_cons_succ, Nat.reduceLeDiff, Nat.zero_add, Nat.reduceSub, Nat.le_refl, hw2, h55]
  refine call_at (len_ok h2) ?_
  rintro v τ3 ⟨rfl, hτ⟩
  have hτ := hτ.symm
  subst hτ
  refine ⟨kept_none, ?_⟩
  have hll : decide ((P2.length : Int) = 1) = true := by rw [hPl2]; rfl
  simp -implicitDefEqProofs only [go_sem, Nat.reduceBEq, Nat.reduceAdd, eq_self, true_and, and_true, and_self, List.getElem?_cons_zero, List.getElem?_cons_succ, Nat.reduceLeDiff, Nat.zero_add, Nat.reduceSub, Nat.le_refl, hll]
  refine call_at (last_ok h2 (by omega)) ?_
  rintro v τ3 ⟨rfl, hτ⟩
  have hτ := hτ.symm
  subst hτ
  refine ⟨kept_none, ?_⟩
  have hla : decide (lastR (cgL P2) = 1) = true := by rw [hL2]; decide
  simp -implicitDefEqProofs only [go_sem, Nat.reduceBEq, Nat.reduceAdd, eq_self, true_and, and_true, and_self, List.getElem?_cons_zero, List.getElem?_cons_succ, Nat.reduceLeDiff, Nat.zero_add, Nat.reduceSub, Nat.le_refl, hla]
  refine q2 _ _ ?_
  simp -implicitDefEqProofs only [go_sem, Nat.reduceBEq, Nat.reduceAdd, eq_self, true_and, and_true, and_self, List.getElem?_cons_zero, List.getElem?_cons_succ, Nat.reduceLeDiff, Nat.zero_add, Nat.reduceSub, Nat.le_refl, Nat.lt_irrefl]
  exact he2
/-- A late slice. -/
def FrD (lo : Nat) (τ : St) (p : V × Cg) : Prop := ∃ q, p.1 = .sl false (.own q) 1 (intsV .i64 p.2.deps) ∧ τ.live[q]? = some true ∧ lo ≤ q
theorem FrD.keep {lo : Nat} {τ τ' : St} {p : V × Cg} (h : FrD lo τ p) (k : ∀ r, lo ≤ r → τ.live[r]? = some true → τ'.live[r]? = some true) : FrD lo τ' p := by
  obtain ⟨q, h1, h2, h3⟩ := h
  exact ⟨q, h1, k _ h3 h2, h3⟩
/-- The log of some changes. -/
def logR (gs : List Cg) (room : Int) : List Cg := gs.foldl (fun L g => addR L room g) []
theorem logR_snoc (gs : List Cg) (g : Cg) (room : Int) : logR (gs ++ [g]) room = addR (logR gs room) room g := by simp [logR]
theorem logR_take {gs : List Cg} {y : Nat} (h : y < gs.length) (room : Int) : logR (gs.take (y + 1)) room = addR (logR (gs.take y) room) room gs[y] := by
  rw [List.take_succ_eq_append_getElem h, logR_snoc]
theorem addR_room {L : List Cg} {room : Int} {g : Cg} (h : L.length ≤ room.toNat) : (addR L room g).length ≤ room.toNat := by
  unfold addR
  cases hc : decide (whyR L room g = 0)
  · exact h
  · have := (why_fits (of_decide_eq_true hc)).room
    rw [cond_true, putC_len]; omega
theorem logR_good (gs : List Cg) (room : Int) : Good (logR gs room) := by
  unfold logR
  suffices ∀ (gs : List Cg) (L : List Cg), Good L → Good (gs.foldl (fun L g => addR L room g) L) from this gs [] good_nil
  intro gs
  induction gs with
  | nil => intro L h; exact h
  | cons a t ih => intro L h; exact ih _ (addR_good h)
theorem logR_room (gs : List Cg) (room : Int) : (logR gs room).length ≤ room.toNat := by
  unfold logR
  suffices ∀ (gs : List Cg) (L : List Cg), L.length ≤ room.toNat → (gs.foldl (fun L g => addR L room g) L).length ≤ room.toNat from this gs [] (Nat.zero_le _)
  intro gs
  induction gs with
  | nil => intro L h; exact h
  | cons a t ih => intro L h; exact ih _ (addR_room h)
theorem RdC.isSl {σ : St} {v : V} {gs : List Cg} (h : RdC σ v gs) : ∃ b R z es, v = V.sl b R z es := by
  obtain ⟨_, _, h, _⟩ := h
  obtain ⟨b, R, z, rfl, -, -⟩ := h
  exact ⟨b, R, z, _, rfl⟩
set_option maxRecDepth 100000 in
set_option maxHeartbeats 4000000 in
theorem filled_ok (hr : (decide (room < 1) || decide (room > 4096)) = false) (hv : RdC σ v gs) (hgs : gs.length ≤ 90000) (hb : ∀ g ∈ gs, g.deps.length + g.name.length + g.val.length < 1048576) :
    CallA Try.prog 12 [.int .i64 room, v] σ fun w σ' => ∃ i m s ov P u, w = .tup [.ptr (some (i, 0)), .agg [.int .i64 room, u]] ∧ LogIs σ' i (some m) s ov room P ∧ cgL P = logR gs room ∧ RdC σ' u (logR gs room) ∧ Ext σ σ' ∧ (∀ j, Own i (some m) s ov j → σ.objs.length ≤ j) ∧ ∀ p ∈ P, FrD σ.live.length σ' p := by
  obtain ⟨l, rfl, hv2, hds⟩ := id hv
  obtain ⟨b, R, z, rfl, -, -⟩ := id hv2
  have hr' := hr
  rw [Bool.or_eq_false_iff, decide_eq_false_iff_not, decide_eq_false_iff_not] at hr'
  refine fn_at Try.func12 (by decide) comp12 rfl fun Q q1 q2 => ?_
  have hcl := cgsV_len l
  rw [List.length_map] at hgs
  simp -implicitDefEqProofs only [go_sem, Nat.reduceBEq, Nat.reduceAdd, eq_self, true_and, and_true, and_self, List.getElem?_cons_zero, List.getElem?_cons_succ, Nat.reduceLeDiff, Nat.zero_add, Nat.reduceSub, Nat.le_refl, c12]
  refine call_at (new_ok hr) ?_
  rintro w τ ⟨rfl, h0, he0⟩
  refine ⟨kept_none, ?_⟩
  have hf0 : ∀ j, Own (σ.objs.length + 1) (some σ.objs.length) (.sl true .pub 0 []) nilO j → σ.objs.length ≤ j := fun j hj => by
    rcases own_new hj with rfl | h
    · omega
    · cases h; omega
  generalize σ.objs.length + 1 = i at h0 hf0 ⊢
  generalize hm : σ.objs.length = m at h0 hf0
  simp -implicitDefEqProofs only [go_sem, Nat.reduceBEq, Nat.reduceAdd, eq_self, true_and, and_true, and_self, List.getElem?_cons_zero, List.getElem?_cons_succ, Nat.reduceLeDiff, Nat.zero_add, Nat.reduceSub, Nat.le_refl, flats, V.flat]
  refine loop_at (fun (y : Nat × V) => ⟨[(1, .v (.sl b R z (cgsV l))), (5, .loc 5 0), (6, .v (.ptr (some (i, 0)))), (8, .loc 8 0), (9, .v (.int .i64 y.1))], [(5, [.int .i64 0, .sl true .pub 0 []]), (8, [.int .i64 room, y.2])]⟩)
    (fun y t => y.1 ≤ l.length ∧ Ext σ t ∧ RdC t y.2 (logR ((l.map (·.2)).take y.1) room) ∧ ∃ s ov P, LogIs t i (some m) s ov room P ∧ cgL P = logR ((l.map (·.2)).take y.1) room ∧ (∀ j, Own i (some m) s ov j → σ.objs.length ≤ j) ∧ ∀ p ∈ P, FrD σ.live.length t p) (fun y => l.length - y.1) (0, .sl true .pub 0 []) ?_ ?_ ?_
  · refine .inr ?_
    simp -implicitDefEqProofs only [go_sem, Nat.reduceBEq, Nat.reduceAdd, eq_self, true_and, and_true, and_self, List.getElem?_cons_zero, List.getElem?_cons_succ, Nat.reduceLeDiff, Nat.zero_add, Nat.reduceSub, Nat.le_refl, Nat.lt_irrefl]
    try exact ⟨rfl, rfl⟩
    try exact rfl
  · exact ⟨Nat.zero_le _, he0, ⟨[], rfl, ⟨_, _, _, rfl, fun _ => rfl, .inl rfl⟩, by intro p hp; cases hp⟩, _, _, [], h0, rfl, (by rw [hm]; exact hf0), by intro p hp; cases hp⟩
  rintro ⟨y, u⟩ t ⟨g1, g2, g3, s, ov, P, g4, g5, g6, g7⟩ Z z1 z2 z3
  simp only at g1 g3 g5
  have hPr : P.length ≤ 4096 := by
    have h1 := logR_room ((l.map (·.2)).take y) room
    rw [← g5, map2_len] at h1
    omega
  simp -implicitDefEqProofs only [go_sem, Nat.reduceBEq, Nat.reduceAdd, eq_self, true_and, and_true, and_self, List.getElem?_cons_zero, List.getElem?_cons_succ, Nat.reduceLeDiff, Nat.zero_add, Nat.reduceSub, Nat.le_refl, hcl]
  cases hc : decide ((y : Int) < l.length)
  · have hy : y = l.length := by have := of_decide_eq_false hc; omega
    rw [List.take_of_length_le (by rw [List.length_map]; omega)] at g3 g5
    obtain ⟨b3, R3, z3', es3, rfl⟩ := g3.isSl
    simp -implicitDefEqProofs only [go_sem, Nat.reduceBEq, Nat.reduceAdd, eq_self, true_and, and_true, and_self, List.getElem?_cons_zero, List.getElem?_cons_succ, Nat.reduceLeDiff, Nat.zero_add, Nat.reduceSub, Nat.le_refl, hc]
    refine z2 _ _ _ ?_
    simp -implicitDefEqProofs only [go_sem, Nat.reduceBEq, Nat.reduceAdd, eq_self, true_and, and_true, and_self, List.getElem?_cons_zero, List.getElem?_cons_succ, Nat.reduceLeDiff, Nat.zero_add, Nat.reduceSub, Nat.le_refl, flats, V.flat]
    refine q2 _ _ ?_
    simp -implicitDefEqProofs only [go_sem, Nat.reduceBEq, Nat.reduceAdd, eq_self, true_and, and_true, and_self, List.getElem?_cons_zero, List.getElem?_cons_succ, Nat.reduceLeDiff, Nat.zero_add, Nat.reduceSub, Nat.le_refl, Nat.lt_irrefl]
    exact ⟨_, _, s, ov, P, _, rfl, g4, g5, g3, g2, g6, g7⟩
  · have hi : y < l.length := by have := of_decide_eq_true hc; omega
    have hget := cgsV_get hi
    have hwy : IntKind.i64.wrap ((y : Int) + 1) = ((y + 1 : Nat) : Int) := by rw [i64_in _ (by omega)]; omega
    obtain ⟨k1, k2⟩ := rdl (hv2.ext g2) (cgsV_ne hi)
    have hdi := hds _ (List.getElem_mem hi)
    have hbi := hb _ (List.mem_map_of_mem (List.getElem_mem hi))
    have htk : logR ((l.map (·.2)).take (y + 1)) room = addR (logR ((l.map (·.2)).take y) room) room l[y].2 := by
      rw [logR_take (by simpa using hi)]; simp
    generalize l[y] = p at hget htk hdi hbi
    obtain ⟨d2, g⟩ := p
    simp only at hget htk hdi hbi
    obtain ⟨db, dr, dz, rfl, -, -⟩ := id hdi
    have had := add_ok g4 (by omega) (hdi.ext g2) (by omega)
    simp only [cgV, cgC] at had
    simp -implicitDefEqProofs only [go_sem, Nat.reduceBEq, Nat.reduceAdd, eq_self, true_and, and_true, and_self, List.getElem?_cons_zero, List.getElem?_cons_succ, Nat.reduceLeDiff, Nat.zero_add, Nat.reduceSub, Nat.le_refl, hc, hcl, hget, cgC]
    refine ⟨⟨by omega, by omega, k2⟩, k1, ?_⟩
    refine call_at had ?_
    rintro w t1 ⟨rfl, s1, ov1, P1, h1, hP1, kt, hnw⟩
    refine ⟨kept_none, ?_⟩
    obtain ⟨he1, hf1⟩ := kt.fresh g2 g6
    have g3' : RdC t1 u (logR ((l.map (·.2)).take y) room) := by
      obtain ⟨l', e1, e2, e3⟩ := g3
      exact ⟨l', e1, rdS_up e2 kt.upd, fun p hp => rdS_up (e3 p hp) kt.upd⟩
    obtain ⟨b3, R3, z3', es3, rfl⟩ := g3.isSl
    have hgd := logR_good ((l.map (·.2)).take y) room
    have hra := radd_ok (room := room) (σ := t1) (d := .sl db dr dz (intsV .i64 g.deps)) (g := g) g3' (by rw [← g5, map2_len]; omega) (hdi.ext he1) (by omega) (fun h hh => by have := hgd.deps h hh; omega) (by omega)
    simp only [cgV, cgC] at hra
    obtain ⟨k1', k2'⟩ := rdl (hv2.ext he1) (cgsV_ne hi)
    simp -implicitDefEqProofs only [go_sem, Nat.reduceBEq, Nat.reduceAdd, eq_self, true_and, and_true, and_self, List.getElem?_cons_zero, List.getElem?_cons_succ, Nat.reduceLeDiff, Nat.zero_add, Nat.reduceSub, Nat.le_refl, hc, hcl, hget, cgC]
    refine ⟨⟨by omega, by omega, k2'⟩, k1', ?_⟩
    refine call_at hra ?_
    rintro w t2 ⟨⟨u2, rfl, hu2⟩, e2, o2⟩
    refine ⟨e2.kept, ?_⟩
    obtain ⟨b4, R4, z4, es4, rfl⟩ := hu2.isSl
    simp -implicitDefEqProofs only [go_sem, Nat.reduceBEq, Nat.reduceAdd, eq_self, true_and, and_true, and_self, List.getElem?_cons_zero, List.getElem?_cons_succ, Nat.reduceLeDiff, Nat.zero_add, Nat.reduceSub, Nat.le_refl, hwy, flats, V.flat]
    refine z1 (y + 1, _) _ _ (.inr ?_) (by simp only; omega) ⟨by simp only; omega, he1.trans e2, by rw [htk]; exact hu2, s1, ov1, P1, h1.ext e2, by rw [htk, hP1, g5], hf1, fun p hp => ?_⟩
    · simp -implicitDefEqProofs only [go_sem, Nat.reduceBEq, Nat.reduceAdd, eq_self, true_and, and_true, and_self, List.getElem?_cons_zero, List.getElem?_cons_succ, Nat.reduceLeDiff, Nat.zero_add, Nat.reduceSub, Nat.le_refl, hwy]
      try exact ⟨rfl, rfl⟩
      try exact rfl
    · rcases hnw p hp with hp | ⟨q, x1, x2, x3⟩
      · exact (g7 p hp).keep fun r _ hr => e2.live _ (kt.upd.live _ hr)
      · exact ⟨q, x1, e2.live _ x2, Nat.le_trans g2.llen x3⟩
set_option maxRecDepth 100000 in
set_option maxHeartbeats 4000000 in
theorem told_ok {u : V} (h : LogIs σ i mo s ov room P) (hl : P.length ≤ 1000000) (hu : RdC σ u (cgL P)) :
    CallA Try.prog 36 [.ptr (some (i, 0)), .agg [.int .i64 room, u]] σ fun w σ' => w = .bool true ∧ Ext σ σ' := by
  obtain ⟨b, R, z, es, rfl⟩ := hu.isSl
  have hesl : es.length = P.length := by
    obtain ⟨l, e1, ⟨_, _, _, e2, -, -⟩, -⟩ := hu
    cases e2
    rw [cgsV_len, ← map2_len, e1, map2_len]
  refine fn_at Try.func36 (by decide) comp36 rfl fun Q q1 q2 => ?_
  simp -implicitDefEqProofs only [go_sem, Nat.reduceBEq, Nat.reduceAdd, eq_self, true_and, and_true, and_self, List.getElem?_cons_zero, List.getElem?_cons_succ, Nat.reduceLeDiff, Nat.zero_add, Nat.reduceSub, Nat.le_refl, c36]
  refine call_at (len_ok h) ?_
  rintro w τ ⟨rfl, hτ⟩
  have hτ := hτ.symm
  subst hτ
  refine ⟨(Ext.refl _).kept, ?_⟩
  have hd1 : decide ((P.length : Int) = es.length) = true := by rw [hesl]; simp
  simp -implicitDefEqProofs only [go_sem, Nat.reduceBEq, Nat.reduceAdd, eq_self, true_and, and_true, and_self, List.getElem?_cons_zero, List.getElem?_cons_succ, Nat.reduceLeDiff, Nat.zero_add, Nat.reduceSub, Nat.le_refl, hd1]
  refine call_at (room_ok h) ?_
  rintro w τ ⟨rfl, hτ⟩
  have hτ := hτ.symm
  subst hτ
  refine ⟨(Ext.refl _).kept, ?_⟩
  simp -implicitDefEqProofs only [go_sem, Nat.reduceBEq, Nat.reduceAdd, eq_self, true_and, and_true, and_self, List.getElem?_cons_zero, List.getElem?_cons_succ, Nat.reduceLeDiff, Nat.zero_add, Nat.reduceSub, Nat.le_refl, Nat.lt_irrefl]
  refine call_at (last_ok h hl) ?_
  rintro w τ ⟨rfl, hτ⟩
  have hτ := hτ.symm
  subst hτ
  refine ⟨(Ext.refl _).kept, ?_⟩
  simp -implicitDefEqProofs only [go_sem, Nat.reduceBEq, Nat.reduceAdd, eq_self, true_and, and_true, and_self, List.getElem?_cons_zero, List.getElem?_cons_succ, Nat.reduceLeDiff, Nat.zero_add, Nat.reduceSub, Nat.le_refl, Nat.lt_irrefl]
  refine call_at (rlast_ok hu (by rw [map2_len]; exact hl)) ?_
  rintro w τ ⟨rfl, hτ⟩
  have hτ := hτ.symm
  subst hτ
  refine ⟨(Ext.refl _).kept, ?_⟩
  simp -implicitDefEqProofs only [go_sem, Nat.reduceBEq, Nat.reduceAdd, eq_self, true_and, and_true, and_self, List.getElem?_cons_zero, List.getElem?_cons_succ, Nat.reduceLeDiff, Nat.zero_add, Nat.reduceSub, Nat.le_refl, Nat.lt_irrefl]
  refine call_at (pclock_ok h) ?_
  rintro w τ ⟨⟨o1, z1, t1, r1⟩, e1⟩
  refine ⟨e1.kept, ?_⟩
  simp -implicitDefEqProofs only [go_sem, Nat.reduceBEq, Nat.reduceAdd, eq_self, true_and, and_true, and_self, List.getElem?_cons_zero, List.getElem?_cons_succ, Nat.reduceLeDiff, Nat.zero_add, Nat.reduceSub, Nat.le_refl, Nat.lt_irrefl]
  refine call_at (rclk_ok (hu.ext e1) (by rw [map2_len]; omega)) ?_
  rintro w2 τ2 ⟨⟨o2, z2, t2, r2⟩, e2, -⟩
  refine ⟨e2.kept, ?_⟩
  have ho := t1.uniq t2
  subst ho
  have hol : o1.length ≤ 64 := by
    have := congrArg List.length t1.1
    rw [cnts_len, List.length_append] at this
    omega
  simp -implicitDefEqProofs only [go_sem, Nat.reduceBEq, Nat.reduceAdd, eq_self, true_and, and_true, and_self, List.getElem?_cons_zero, List.getElem?_cons_succ, Nat.reduceLeDiff, Nat.zero_add, Nat.reduceSub, Nat.le_refl, Nat.lt_irrefl]
  refine call_at (rsame_ok (r1.ext e2) r2 (by omega)) ?_
  rintro w3 τ3 ⟨hτ, rfl⟩
  have hτ := hτ.symm
  subst hτ
  refine ⟨(Ext.refl _).kept, ?_⟩
  have e3 := e1.trans e2
  have hoo : decide (o1 = o1) = true := decide_eq_true rfl
  simp -implicitDefEqProofs only [go_sem, Nat.reduceBEq, Nat.reduceAdd, eq_self, true_and, and_true, and_self, List.getElem?_cons_zero, List.getElem?_cons_succ, Nat.reduceLeDiff, Nat.zero_add, Nat.reduceSub, Nat.le_refl, hoo]
  refine call_at (all_ok (h.ext e3) hl) ?_
  rintro w4 τ4 ⟨n1, e4⟩
  refine ⟨e4.kept, ?_⟩
  simp -implicitDefEqProofs only [go_sem, Nat.reduceBEq, Nat.reduceAdd, eq_self, true_and, and_true, and_self, List.getElem?_cons_zero, List.getElem?_cons_succ, Nat.reduceLeDiff, Nat.zero_add, Nat.reduceSub, Nat.le_refl, Nat.lt_irrefl]
  refine call_at (sameAll_ok n1.rd ((hu.ext e3).ext e4) (by rw [map2_len]; omega) fun g hg => by have := h.good.deps g hg; omega) ?_
  rintro w5 τ5 ⟨hτ, rfl⟩
  have hτ := hτ.symm
  subst hτ
  refine ⟨(Ext.refl _).kept, ?_⟩
  have hpp : decide (cgL P = cgL P) = true := decide_eq_true rfl
  simp -implicitDefEqProofs only [go_sem, Nat.reduceBEq, Nat.reduceAdd, eq_self, true_and, and_true, and_self, List.getElem?_cons_zero, List.getElem?_cons_succ, Nat.reduceLeDiff, Nat.zero_add, Nat.reduceSub, Nat.le_refl, hpp]
  refine q2 _ _ ?_
  simp -implicitDefEqProofs only [go_sem, Nat.reduceBEq, Nat.reduceAdd, eq_self, true_and, and_true, and_self, List.getElem?_cons_zero, List.getElem?_cons_succ, Nat.reduceLeDiff, Nat.zero_add, Nat.reduceSub, Nat.le_refl, Nat.lt_irrefl]
  exact e3.trans e4
set_option maxRecDepth 100000 in
set_option maxHeartbeats 4000000 in
theorem told_nil : CallA Try.prog 36 [.ptr none, .agg [.int .i64 0, .sl true .pub 0 []]] σ fun w σ' => w = .bool true ∧ Ext σ σ' := by
  have hu : ∀ τ : St, RdC τ (.sl true .pub 0 []) [] := fun τ => ⟨[], rfl, ⟨_, _, _, rfl, fun _ => rfl, .inl rfl⟩, by intro p hp; cases hp⟩
  refine fn_at Try.func36 (by decide) comp36 rfl fun Q q1 q2 => ?_
  have h00 : decide ((0 : Int) = ((0 : Nat) : Int)) = true := rfl
  have h01 : decide ((0 : Int) = 0) = true := rfl
  have hl0 : decide ((0 : Int) = lastR []) = true := rfl
  simp -implicitDefEqProofs only [go_sem, Nat.reduceBEq, Nat.reduceAdd, eq_self, true_and, and_true, and_self, List.getElem?_cons_zero, List.getElem?_cons_succ, Nat.reduceLeDiff, Nat.zero_add, Nat.reduceSub, Nat.le_refl, c36]
  refine call_at len_nil ?_
  rintro w τ ⟨rfl, hτ⟩
  have hτ := hτ.symm
  subst hτ
  refine ⟨(Ext.refl _).kept, ?_⟩
  simp -implicitDefEqProofs only [go_sem, Nat.reduceBEq, Nat.reduceAdd, eq_self, true_and, and_true, and_self, List.getElem?_cons_zero, List.getElem?_cons_succ, Nat.reduceLeDiff, Nat.zero_add, Nat.reduceSub, Nat.le_refl, h00]
  refine call_at room_nil ?_
  rintro w τ ⟨rfl, hτ⟩
  have hτ := hτ.symm
  subst hτ
  refine ⟨(Ext.refl _).kept, ?_⟩
  simp -implicitDefEqProofs only [go_sem, Nat.reduceBEq, Nat.reduceAdd, eq_self, true_and, and_true, and_self, List.getElem?_cons_zero, List.getElem?_cons_succ, Nat.reduceLeDiff, Nat.zero_add, Nat.reduceSub, Nat.le_refl, h01]
  refine call_at last_nil ?_
  rintro w τ ⟨rfl, hτ⟩
  have hτ := hτ.symm
  subst hτ
  refine ⟨(Ext.refl _).kept, ?_⟩
  simp -implicitDefEqProofs only [go_sem, Nat.reduceBEq, Nat.reduceAdd, eq_self, true_and, and_true, and_self, List.getElem?_cons_zero, List.getElem?_cons_succ, Nat.reduceLeDiff, Nat.zero_add, Nat.reduceSub, Nat.le_refl, Nat.lt_irrefl]
  refine call_at (rlast_ok (hu _) (by simp)) ?_
  rintro w τ ⟨rfl, hτ⟩
  have hτ := hτ.symm
  subst hτ
  refine ⟨(Ext.refl _).kept, ?_⟩
  simp -implicitDefEqProofs only [go_sem, Nat.reduceBEq, Nat.reduceAdd, eq_self, true_and, and_true, and_self, List.getElem?_cons_zero, List.getElem?_cons_succ, Nat.reduceLeDiff, Nat.zero_add, Nat.reduceSub, Nat.le_refl, hl0]
  refine call_at pclock_nil ?_
  rintro w τ ⟨rfl, hτ⟩
  have hτ := hτ.symm
  subst hτ
  refine ⟨(Ext.refl _).kept, ?_⟩
  simp -implicitDefEqProofs only [go_sem, Nat.reduceBEq, Nat.reduceAdd, eq_self, true_and, and_true, and_self, List.getElem?_cons_zero, List.getElem?_cons_succ, Nat.reduceLeDiff, Nat.zero_add, Nat.reduceSub, Nat.le_refl, Nat.lt_irrefl]
  refine call_at (rclk_ok (hu _) (by simp)) ?_
  rintro w2 τ2 ⟨⟨o2, z2, t2, r2⟩, e2, -⟩
  refine ⟨e2.kept, ?_⟩
  have t0 : Trims (cnts []) [] 64 := ⟨by rw [cnts_nil]; rfl, .inl rfl⟩
  have ho := t0.uniq t2
  subst ho
  simp -implicitDefEqProofs only [go_sem, Nat.reduceBEq, Nat.reduceAdd, eq_self, true_and, and_true, and_self, List.getElem?_cons_zero, List.getElem?_cons_succ, Nat.reduceLeDiff, Nat.zero_add, Nat.reduceSub, Nat.le_refl, Nat.lt_irrefl]
  refine call_at (rsame_ok (l := []) ⟨_, _, _, rfl, fun _ => rfl, .inl rfl⟩ r2 (by simp)) ?_
  rintro w3 τ3 ⟨hτ, rfl⟩
  have hτ := hτ.symm
  subst hτ
  refine ⟨(Ext.refl _).kept, ?_⟩
  have hoo : decide (([] : List Int) = []) = true := rfl
  simp -implicitDefEqProofs only [go_sem, Nat.reduceBEq, Nat.reduceAdd, eq_self, true_and, and_true, and_self, List.getElem?_cons_zero, List.getElem?_cons_succ, Nat.reduceLeDiff, Nat.zero_add, Nat.reduceSub, Nat.le_refl, hoo]
  refine call_at all_nil ?_
  rintro w4 τ4 ⟨n1, e4⟩
  refine ⟨e4.kept, ?_⟩
  simp -implicitDefEqProofs only [go_sem, Nat.reduceBEq, Nat.reduceAdd, eq_self, true_and, and_true, and_self, List.getElem?_cons_zero, List.getElem?_cons_succ, Nat.reduceLeDiff, Nat.zero_add, Nat.reduceSub, Nat.le_refl, Nat.lt_irrefl]
  refine call_at (sameAll_ok n1.rd (hu _) (by simp) fun g hg => by cases hg) ?_
  rintro w5 τ5 ⟨hτ, rfl⟩
  have hτ := hτ.symm
  subst hτ
  refine ⟨(Ext.refl _).kept, ?_⟩
  have hpp : decide (([] : List Cg) = []) = true := rfl
  simp -implicitDefEqProofs only [go_sem, Nat.reduceBEq, Nat.reduceAdd, eq_self, true_and, and_true, and_self, List.getElem?_cons_zero, List.getElem?_cons_succ, Nat.reduceLeDiff, Nat.zero_add, Nat.reduceSub, Nat.le_refl, hpp]
  refine q2 _ _ ?_
  simp -implicitDefEqProofs only [go_sem, Nat.reduceBEq, Nat.reduceAdd, eq_self, true_and, and_true, and_self, List.getElem?_cons_zero, List.getElem?_cons_succ, Nat.reduceLeDiff, Nat.zero_add, Nat.reduceSub, Nat.le_refl, Nat.lt_irrefl]
  exact e2.trans e4
end
end Go.VL.opl

namespace Go.VL.opl
open Go Go.VL Go.Proofs Go.IntWalk Go.VL.st Go.VL.row

abbrev Srt (L : List Cg) : Prop := L.Pairwise fun a b => st.less (atS a) (atS b) = true
/-- What is ahead of a stamp. -/
def bef (L : List Cg) (x : Sp) : List Cg := L.filter fun h => st.less (atS h) x
theorem bef_take : ∀ {L : List Cg}, Srt L → ∀ {i : Nat} (h : i < L.length), bef L (atS L[i]) = L.take i
  | [], _, i, h => absurd h (Nat.not_lt_zero _)
  | a :: t, hs, 0, h => by
    rw [Srt, List.pairwise_cons] at hs
    unfold bef
    rw [List.take_zero, List.filter_eq_nil_iff]
    intro x hx
    simp only [List.getElem_cons_zero, Bool.not_eq_true]
    rcases List.mem_cons.1 hx with rfl | hx
    · exact less_irr _
    · exact less_asymm (hs.1 x hx)
  | a :: t, hs, i + 1, h => by
    rw [Srt, List.pairwise_cons] at hs
    have hi' : i < t.length := by simpa using h
    have ih := bef_take hs.2 hi'
    have h1 : st.less (atS a) (atS t[i]) = true := hs.1 _ (List.getElem_mem _)
    unfold bef at ih ⊢
    rw [List.getElem_cons_succ, List.take_succ_cons, ← ih]
    simp only [List.filter_cons, h1, if_true]
theorem own_bef (L : List Cg) (r : Int) (x : Sp) : ownL (bef L x) r = bef (ownL L r) x := by
  unfold ownL bef
  rw [List.filter_filter, List.filter_filter]
  congr 1; funext h; exact Bool.and_comm _ _
theorem own_srt {L : List Cg} (h : Srt L) (r : Int) : Srt (ownL L r) := h.filter _
theorem putC_sub {g : Cg} : ∀ L : List Cg, L.Sublist (putC g L)
  | [] => List.nil_sublist _
  | h :: t => by
    simp only [putC]
    cases lessC g h
    · exact (putC_sub t).cons_cons h
    · exact List.sublist_cons_self _ _
/-- Everything on which one hangs is ahead of it. -/
structure CloAt (L : List Cg) (x : Cg) : Prop where
  deps : ∀ (r : Nat) (h : r < x.deps.length), x.deps[r] ≤ (cnt (bef L (atS x)) (r : Int) : Int)
  names : ∀ s ∈ baseN x, okN x s = true → ∃ h ∈ L, atS h = s ∧ st.less s (atS x) = true
def Clo (L : List Cg) : Prop := ∀ x ∈ L, CloAt L x
theorem cnt_sub {A B : List Cg} (h : A.Sublist B) (r : Int) : cnt A r ≤ cnt B r := by
  have := (h.filter fun g => decide (g.ar = r)).length_le
  exact this
theorem CloAt.mono {A B : List Cg} {x : Cg} (h : CloAt A x) (hs : A.Sublist B) : CloAt B x := by
  refine ⟨fun r hr => ?_, fun s hs' ho => ?_⟩
  · have h1 := h.deps r hr
    have h2 := cnt_sub (hs.filter fun h => st.less (atS h) (atS x)) (r : Int)
    unfold bef at h1 ⊢
    omega
  · obtain ⟨y, h1, h2⟩ := h.names s hs' ho
    exact ⟨y, hs.subset h1, h2⟩
theorem Good.own_less {L : List Cg} (h : Good L) {r : Int} {a b : Nat} (hb : b < (ownL L r).length) (hab : a < b) : st.less (atS (ownL L r)[a]) (atS (ownL L r)[b]) = true := List.pairwise_iff_getElem.1 (own_srt h.srt r) a b (by omega) hb hab
theorem dep_own {L : List Cg} (h : Good L) {g : Cg} {r n : Int} (hn : 1 ≤ n) (hd : depB L g r n = true) : ∃ hl : n.toNat - 1 < (ownL L r).length, st.less (atS (ownL L r)[n.toNat - 1]) (atS g) = true := by
  unfold depB at hd
  rw [show decide (n = 0) = false by rw [decide_eq_false_iff_not]; omega, Bool.false_or, h.find_O hn] at hd
  by_cases hl : n.toNat - 1 < (ownL L r).length
  · rw [List.getElem?_eq_getElem hl] at hd
    exact ⟨hl, hd⟩
  · rw [List.getElem?_eq_none (by omega)] at hd
    cases hd
theorem Fits.clo {L : List Cg} {room : Int} {g : Cg} (k : Fits L room g) (h : Good L) : CloAt L g := by
  have hb := k.beh
  unfold behB at hb
  rw [Bool.and_eq_true] at hb
  obtain ⟨hb1, hb2⟩ := hb
  have hdep : ∀ (r : Nat) (hr : r < g.deps.length), depB L g r g.deps[r] = true := fun r hr => by
    have := List.all_eq_true.1 hb1 r (List.mem_range.2 hr)
    simpa [hr] using this
  refine ⟨fun r hr => ?_, fun s hs ho => ?_⟩
  · by_cases hn : g.deps[r] < 1
    · omega
    obtain ⟨hl, hls⟩ := dep_own h (by omega) (hdep r hr)
    generalize g.deps[r] = n at hn hl hls
    have hsub : ((ownL L r).take n.toNat).Sublist (bef (ownL L r) (atS g)) := by
      have h1 : bef ((ownL L r).take n.toNat) (atS g) = (ownL L r).take n.toNat := by
        unfold bef
        rw [List.filter_eq_self]
        intro x hx
        obtain ⟨j, hj, rfl⟩ := List.getElem_of_mem hx
        rw [List.getElem_take]
        have hj' : j < n.toNat := by simp at hj; omega
        by_cases e : j = n.toNat - 1
        · subst e; exact hls
        · exact less_trans (h.own_less hl (by omega)) hls
      rw [← h1]
      exact (List.take_sublist _ _).filter _
    have h2 := hsub.length_le
    rw [List.length_take, ← own_bef] at h2
    have h3 := ownL_len (bef L (atS g)) r
    omega
  · have hn := List.all_eq_true.1 hb2 s hs
    rw [ho, Bool.not_true, Bool.false_or] at hn
    unfold nmB at hn
    cases hf : L.find? (isA s) with
    | none => rw [hf] at hn; cases hn
    | some y =>
      rw [hf] at hn
      have hn' : y.seq ≤ atD g.deps y.ar := of_decide_eq_true hn
      obtain ⟨hy1, hy2⟩ := (find_A h.srt).1 hf
      have hys := (chk_has (h.chk y hy1)).2.1
      have hyr := (right_has (chk_has (h.chk y hy1)).1).2
      have hyr : 0 ≤ y.ar ∧ y.ar < 64 := hyr
      have hin : y.ar < g.deps.length := by
        refine Int.not_le.1 fun hge => ?_
        have : atD g.deps y.ar = 0 := by
          unfold atD
          rw [show decide (y.ar < (g.deps.length : Int)) = false by rw [decide_eq_false_iff_not]; omega]
          simp
        omega
      have hrt : y.ar.toNat < g.deps.length := by omega
      have hat : atD g.deps y.ar = g.deps[y.ar.toNat] := by
        unfold atD
        rw [show decide (0 ≤ y.ar) = true from decide_eq_true hyr.1, show decide (y.ar < (g.deps.length : Int)) = true from decide_eq_true hin]
        simp [hrt]
      rw [hat] at hn'
      have hd := hdep _ hrt
      rw [show ((y.ar.toNat : Nat) : Int) = y.ar by omega] at hd
      obtain ⟨hl, hls⟩ := dep_own h (by omega) hd
      generalize g.deps[y.ar.toNat] = n at hn' hl hls
      refine ⟨y, hy1, hy2, ?_⟩
      rw [← hy2]
      obtain ⟨j, hj, hjy⟩ := List.getElem_of_mem (own_mem.2 ⟨hy1, rfl⟩)
      have hsj := h.seq _ j hj
      rw [hjy] at hsj
      by_cases e : j = n.toNat - 1
      · subst e; rw [← hjy]; exact hls
      · rw [← hjy]
        exact less_trans (h.own_less hl (by omega)) hls
theorem addR_clo {L : List Cg} {room : Int} {g : Cg} (h : Good L) (k : Clo L) : Clo (addR L room g) := by
  unfold addR
  cases hc : decide (whyR L room g = 0)
  · exact k
  · have hf := why_fits (of_decide_eq_true hc)
    intro x hx
    rcases putC_mem.1 hx with rfl | hx
    · exact (hf.clo h).mono (putC_sub _)
    · exact (k x hx).mono (putC_sub _)
theorem logR_clo (gs : List Cg) (room : Int) : Clo (logR gs room) := by
  unfold logR
  suffices ∀ (gs : List Cg) (L : List Cg), Good L → Clo L → Clo (gs.foldl (fun L g => addR L room g) L) from this gs [] good_nil fun x hx => by cases hx
  intro gs
  induction gs with
  | nil => intro L h k; exact k
  | cons a t ih => intro L h k; exact ih _ (addR_good h) (addR_clo h k)
/-- At a place of a log. -/
theorem Good.pre {L : List Cg} (h : Good L) (k : Clo L) {i : Nat} (hi : i < L.length) :
    (∀ (hi0 : 0 < i), st.less (atS (L[i - 1]'(by omega))) (atS L[i]) = true) ∧ underI L[i].deps (cnts (L.take i)) = true ∧ atD (cnts (L.take i)) L[i].ar = L[i].seq - 1 ∧ ∀ s ∈ baseN L[i], okN L[i] s = true → ∃ y ∈ L.take i, atS y = s := by
  have hb := bef_take h.srt hi
  have hx := List.getElem_mem hi
  have hc := k _ hx
  obtain ⟨hrt, hsq, hck, -⟩ := chk_has (h.chk _ hx)
  have hr : 0 ≤ L[i].ar ∧ L[i].ar < 64 := (right_has hrt).2
  refine ⟨fun hi0 => List.pairwise_iff_getElem.1 h.srt (i - 1) i (by omega) hi (by omega), ?_, ?_, fun s hs ho => ?_⟩
  · unfold underI
    rw [List.all_eq_true]
    intro r hrr
    have hr' := List.mem_range.1 hrr
    have h1 := hc.deps r hr'
    rw [hb] at h1
    have h64 := (clock_has hck).1
    rw [atD_cnts _ (by omega), decide_eq_true_eq]
    simpa [hr'] using h1
  · rw [atD_cnts _ hr, ← hb]
    obtain ⟨j, hj, hjy⟩ := List.getElem_of_mem (own_mem.2 ⟨hx, rfl⟩)
    have hsj := h.seq _ j hj
    rw [hjy] at hsj
    have h2 := bef_take (own_srt h.srt L[i].ar) hj
    rw [hjy] at h2
    rw [← ownL_len, own_bef, h2, List.length_take]
    omega
  · obtain ⟨y, h1, h2, h3⟩ := hc.names s hs ho
    refine ⟨y, ?_, h2⟩
    rw [← hb]
    exact List.mem_filter.2 ⟨h1, by rw [h2]; exact h3⟩
end Go.VL.opl

namespace Go.VL.opl
open Go Go.VL Go.Proofs Go.IntWalk Go.VL.st Go.VL.row

theorem Good.idx {L : List Cg} (h : Good L) {y : Cg} (hy : y ∈ L) : ∃ hl : (y.seq - 1).toNat < (ownL L y.ar).length, (ownL L y.ar)[(y.seq - 1).toNat] = y := by
  obtain ⟨j, hj, e⟩ := List.getElem_of_mem (own_mem.2 ⟨hy, rfl⟩)
  have h1 := h.seq _ j hj
  rw [e] at h1
  have h2 : (y.seq - 1).toNat = j := by omega
  exact ⟨by omega, by subst h2; exact e⟩
theorem Good.uniq {L : List Cg} (h : Good L) {a b : Cg} (ha : a ∈ L) (hb : b ∈ L) (h1 : a.ar = b.ar) (h2 : a.seq = b.seq) : a = b := by
  obtain ⟨l1, e1⟩ := h.idx ha
  obtain ⟨l2, e2⟩ := h.idx hb
  rw [← e1, ← e2]
  simp only [h1, h2]
theorem Good.cnt_le' {L : List Cg} (h : Good L) {y : Cg} (hy : y ∈ L) : y.seq ≤ cnt L y.ar := by
  obtain ⟨l1, -⟩ := h.idx hy
  rw [ownL_len] at l1
  have := (chk_has (h.chk y hy)).2.1
  omega
/-- The n-th of a replica. -/
theorem Good.nth {L : List Cg} (h : Good L) {r n : Int} (hn : 1 ≤ n) (hc : n ≤ cnt L r) : ∃ y ∈ L, y.ar = r ∧ y.seq = n ∧ L.find? (isO r n) = some y := by
  have hl : n.toNat - 1 < (ownL L r).length := by rw [ownL_len]; omega
  obtain ⟨h1, h2⟩ := own_mem.1 (List.getElem_mem hl)
  refine ⟨_, h1, h2, ?_, ?_⟩
  · rw [h.seq _ _ hl]; omega
  · rw [h.find_O hn, List.getElem?_eq_getElem hl]
/-- On what one hangs. -/
structure ClM (L : List Cg) (x : Cg) : Prop where
  deps : ∀ (r : Nat) (h : r < x.deps.length), 1 ≤ x.deps[r] → ∃ y ∈ L, y.ar = r ∧ y.seq = x.deps[r] ∧ st.less (atS y) (atS x) = true
  names : ∀ s ∈ baseN x, okN x s = true → ∃ y ∈ L, atS y = s ∧ y.seq ≤ atD x.deps y.ar
theorem ClM.mono {A B : List Cg} {x : Cg} (h : ClM A x) (hs : ∀ y ∈ A, y ∈ B) : ClM B x :=
  ⟨fun r hr hn => by obtain ⟨y, h1, h2⟩ := h.deps r hr hn; exact ⟨y, hs y h1, h2⟩, fun s hs' ho => by obtain ⟨y, h1, h2⟩ := h.names s hs' ho; exact ⟨y, hs y h1, h2⟩⟩
theorem Fits.clm {L : List Cg} {room : Int} {g : Cg} (k : Fits L room g) (h : Good L) : ClM L g := by
  have hb := k.beh
  unfold behB at hb
  rw [Bool.and_eq_true] at hb
  obtain ⟨hb1, hb2⟩ := hb
  refine ⟨fun r hr hn => ?_, fun s hs ho => ?_⟩
  · have hd := List.all_eq_true.1 hb1 r (List.mem_range.2 hr)
    have hd : depB L g r g.deps[r] = true := by simpa [hr] using hd
    obtain ⟨hl, hls⟩ := dep_own h hn hd
    obtain ⟨h1, h2⟩ := own_mem.1 (List.getElem_mem hl)
    exact ⟨_, h1, h2, by rw [h.seq _ _ hl]; omega, hls⟩
  · have hn := List.all_eq_true.1 hb2 s hs
    rw [ho, Bool.not_true, Bool.false_or] at hn
    unfold nmB at hn
    cases hf : L.find? (isA s) with
    | none => rw [hf] at hn; cases hn
    | some y =>
      rw [hf] at hn
      obtain ⟨hy1, hy2⟩ := (find_A h.srt).1 hf
      exact ⟨y, hy1, hy2, of_decide_eq_true hn⟩
def ClA (L : List Cg) : Prop := ∀ x ∈ L, ClM L x
theorem addR_cla {L : List Cg} {room : Int} {g : Cg} (h : Good L) (k : ClA L) : ClA (addR L room g) := by
  unfold addR
  cases hc : decide (whyR L room g = 0)
  · exact k
  · have hf := why_fits (of_decide_eq_true hc)
    intro x hx
    rcases putC_mem.1 hx with rfl | hx
    · exact (hf.clm h).mono fun y hy => putC_mem.2 (.inr hy)
    · exact (k x hx).mono fun y hy => putC_mem.2 (.inr hy)
theorem logR_cla (gs : List Cg) (room : Int) : ClA (logR gs room) := by
  unfold logR
  suffices ∀ (gs : List Cg) (L : List Cg), Good L → ClA L → ClA (gs.foldl (fun L g => addR L room g) L) from this gs [] good_nil fun x hx => by cases hx
  intro gs
  induction gs with
  | nil => intro L h k; exact k
  | cons a t ih => intro L h k; exact ih _ (addR_good h) (addR_cla h k)
theorem atD_in {l : List Int} {r : Int} (h : 1 ≤ atD l r) : 0 ≤ r ∧ ∃ hl : r.toNat < l.length, l[r.toNat] = atD l r := by
  unfold atD at h ⊢
  cases h1 : decide (0 ≤ r) <;> rw [h1] at h
  · simp at h
  cases h2 : decide (r < (l.length : Int)) <;> rw [h2] at h
  · simp at h
  have h1' := of_decide_eq_true h1
  have h2' := of_decide_eq_true h2
  have hl : r.toNat < l.length := by omega
  exact ⟨h1', hl, by simp [hl]⟩
section
variable {L Z R : List Cg} {g : Cg} {room : Int}
/-- Of some changes, some are there. -/
structure Part (L Z R : List Cg) : Prop where
  good : Good Z
  mem : ∀ x, x ∈ L ↔ x ∈ Z ∨ x ∈ R
  nd : R.Nodup
  apart : ∀ x ∈ R, x ∉ Z
  len : Z.length + R.length = L.length
theorem Part.behind (hL : Good L) (hc : ClA L) (h : Part L Z R) (hg : g ∈ R) (hu : underI g.deps (cnts Z) = true) : behB Z g = true := by
  have hgL : g ∈ L := (h.mem g).2 (.inr hg)
  have hcl := hc g hgL
  have hck := clock_has (chk_has (hL.chk g hgL)).2.2.1
  have hun : ∀ (r : Nat) (hr : r < g.deps.length), g.deps[r] ≤ cnt Z (r : Int) := fun r hr => by
    have h1 := List.all_eq_true.1 hu r (List.mem_range.2 hr)
    rw [atD_cnts _ (by omega), decide_eq_true_eq] at h1
    simpa [hr] using h1
  have up : ∀ y ∈ Z, y ∈ L := fun y hy => (h.mem y).2 (.inl hy)
  unfold behB
  rw [Bool.and_eq_true]
  constructor
  · unfold depsB
    rw [List.all_eq_true]
    intro r hr
    have hr' := List.mem_range.1 hr
    have e : g.deps[r]?.getD 0 = g.deps[r] := by simp [hr']
    rw [e]
    have h0 := (hck.2 _ (List.getElem_mem hr')).1
    unfold depB
    by_cases hn : g.deps[r] = 0
    · simp [hn]
    obtain ⟨y, y1, y2, y3, y4⟩ := hcl.deps r hr' (by omega)
    obtain ⟨y', z1, z2, z3, z4⟩ := h.good.nth (r := (r : Int)) (n := g.deps[r]) (by omega) (hun r hr')
    have : y' = y := hL.uniq (up y' z1) y1 (by rw [z2, y2]) (by rw [z3, y3])
    rw [z4, this]
    show (_ || st.less (atS y) (atS g)) = true
    rw [y4, Bool.or_true]
  · unfold namesB
    rw [List.all_eq_true]
    intro s hs
    cases ho : okN g s
    · rfl
    obtain ⟨y, y1, y2, y3⟩ := hcl.names s hs ho
    have ys := (chk_has (hL.chk y y1)).2.1
    obtain ⟨r0, r1, r2⟩ := atD_in (l := g.deps) (r := y.ar) (by omega)
    have h2 := hun _ r1
    rw [r2, show ((y.ar.toNat : Nat) : Int) = y.ar by omega] at h2
    obtain ⟨y', z1, z2, z3, -⟩ := h.good.nth (r := y.ar) (n := y.seq) (by omega) (by omega)
    have : y' = y := hL.uniq (up y' z1) y1 z2 z3
    subst this
    have hf : Z.find? (isA s) = some y' := (find_A h.good.srt).2 ⟨z1, y2⟩
    unfold nmB
    rw [hf]
    simp only [Bool.not_true, Bool.false_or, decide_eq_true_eq]
    exact y3
theorem Part.why (hL : Good L) (hc : ClA L) (h : Part L Z R) (hg : g ∈ R) (hr : (L.length : Int) ≤ room) :
    whyR Z room g = bif !decide (g.seq = cnt Z g.ar + 1) || !underI g.deps (cnts Z) then 4 else 0 := by
  have hgL : g ∈ L := (h.mem g).2 (.inr hg)
  have up : ∀ y ∈ Z, y ∈ L := fun y hy => (h.mem y).2 (.inl hy)
  have hgZ := h.apart g hg
  have h1 : Z.find? (isA (atS g)) = none := find_A_none.2 fun y hy e => hgZ (srt_uniq1 hL.srt (up y hy) hgL e ▸ hy)
  have h2 : Z.find? (isO g.ar g.seq) = none := by
    rw [List.find?_eq_none]
    intro y hy ho
    simp only [isO, Bool.and_eq_true, decide_eq_true_eq] at ho
    exact hgZ (hL.uniq (up y hy) hgL ho.1 ho.2 ▸ hy)
  unfold whyR
  rw [hL.chk g hgL, h1, h2]
  simp only [decide_true, Bool.not_true, cond_false, Option.isSome_none]
  cases hs : (!decide (g.seq = cnt Z g.ar + 1) || !underI g.deps (cnts Z))
  · rw [Bool.or_eq_false_iff] at hs
    have hu : underI g.deps (cnts Z) = true := by simpa using hs.2
    rw [h.behind hL hc hg hu]
    have hlt : Z.length < L.length := by
      have := List.length_pos_of_mem hg
      have := h.len
      omega
    rw [show decide ((Z.length : Int) ≥ room) = false by rw [decide_eq_false_iff_not]; omega]
    rfl
  · rfl
/-- The least one can be added. -/
theorem Part.least (hL : Good L) (hc : ClA L) (h : Part L Z R) (hg : g ∈ R) (hr : (L.length : Int) ≤ room) (hm : ∀ y ∈ R, st.less (atS y) (atS g) = false) : whyR Z room g = 0 := by
  have hgL : g ∈ L := (h.mem g).2 (.inr hg)
  have up : ∀ y ∈ Z, y ∈ L := fun y hy => (h.mem y).2 (.inl hy)
  have hgZ := h.apart g hg
  have hz : ∀ y ∈ L, st.less (atS y) (atS g) = true → y ∈ Z := fun y hy hl => by
    rcases (h.mem y).1 hy with h1 | h1
    · exact h1
    · rw [hm y h1] at hl; cases hl
  have hcl := hc g hgL
  have hgs := (chk_has (hL.chk g hgL)).2.1
  rw [h.why hL hc hg hr]
  have hseq : g.seq = cnt Z g.ar + 1 := by
    obtain ⟨gl, ge⟩ := hL.idx hgL
    have h1 : ¬ (cnt Z g.ar : Int) < g.seq - 1 := fun hlt => by
      -- the next one of this replica is ahead of g, so it is there
      have hl2 : cnt Z g.ar < (ownL L g.ar).length := by omega
      obtain ⟨y1, y2⟩ := own_mem.1 (List.getElem_mem hl2)
      have hls := hL.own_less (r := g.ar) (a := cnt Z g.ar) (b := (g.seq - 1).toNat) gl (by omega)
      rw [ge] at hls
      have hyz := hz _ y1 hls
      have := h.good.cnt_le' hyz
      rw [y2, hL.seq _ _ hl2] at this
      omega
    have h2 : ¬ g.seq ≤ (cnt Z g.ar : Int) := fun hle => by
      obtain ⟨y, z1, z2, z3, -⟩ := h.good.nth (r := g.ar) (n := g.seq) (by omega) hle
      exact hgZ (hL.uniq (up y z1) hgL z2 z3 ▸ z1)
    omega
  have hun : underI g.deps (cnts Z) = true := by
    have hck := clock_has (chk_has (hL.chk g hgL)).2.2.1
    unfold underI
    rw [List.all_eq_true]
    intro r hrr
    have hr' := List.mem_range.1 hrr
    rw [atD_cnts _ (by omega), decide_eq_true_eq]
    have e : g.deps[r]?.getD 0 = g.deps[r] := by simp [hr']
    rw [e]
    by_cases hn : g.deps[r] < 1
    · omega
    obtain ⟨y, y1, y2, y3, y4⟩ := hcl.deps r hr' (by omega)
    have := h.good.cnt_le' (hz y y1 y4)
    rw [y2, y3] at this
    exact this
  rw [hun, hseq]
  simp
theorem least_in : ∀ {R : List Cg}, R ≠ [] → ∃ g ∈ R, ∀ y ∈ R, st.less (atS y) (atS g) = false
  | [], h => absurd rfl h
  | [a], _ => ⟨a, by simp, fun y hy => by rw [List.mem_singleton] at hy; subst hy; exact less_irr _⟩
  | a :: b :: t, _ => by
    obtain ⟨g, h1, h2⟩ := least_in (R := b :: t) (by simp)
    cases h : st.less (atS a) (atS g)
    · exact ⟨g, List.mem_cons_of_mem _ h1, fun y hy => by
        rcases List.mem_cons.1 hy with rfl | hy
        · exact h
        · exact h2 y hy⟩
    · refine ⟨a, by simp, fun y hy => ?_⟩
      rcases List.mem_cons.1 hy with rfl | hy
      · exact less_irr _
      · cases hya : st.less (atS y) (atS a)
        · rfl
        · have := h2 y hy
          rw [less_trans hya h] at this; cases this
theorem Part.some (hL : Good L) (hc : ClA L) (h : Part L Z R) (hr : (L.length : Int) ≤ room) (hR : R ≠ []) : ∃ (j : Nat) (hj : j < R.length), whyR Z room R[j] = 0 := by
  obtain ⟨g, h1, h2⟩ := least_in hR
  obtain ⟨j, hj, rfl⟩ := List.getElem_of_mem h1
  exact ⟨j, hj, h.least hL hc h1 hr h2⟩
theorem Part.step (hL : Good L) (h : Part L Z R) {i : Nat} (hi : i < R.length) (hw : whyR Z room R[i] = 0) : Part L (putC R[i] Z) (R.take i ++ R.drop (i + 1)) := by
  have hf := why_fits hw
  have hsplit : R = R.take i ++ R[i] :: R.drop (i + 1) := by
    rw [← List.drop_eq_getElem_cons hi, List.take_append_drop]
  have hnd := h.nd
  rw [hsplit] at hnd
  have hnd2 := List.nodup_append.1 hnd
  have hnc := List.nodup_cons.1 hnd2.2.1
  have hm : ∀ x, x ∈ R ↔ x = R[i] ∨ x ∈ R.take i ++ R.drop (i + 1) := fun x => by
    conv => lhs; rw [hsplit]
    simp only [List.mem_append, List.mem_cons]
    constructor
    · rintro (h | h | h)
      · exact .inr (.inl h)
      · exact .inl h
      · exact .inr (.inr h)
    · rintro (h | h | h)
      · exact .inr (.inl h)
      · exact .inl h
      · exact .inr (.inr h)
  refine ⟨hf.good h.good, fun x => ?_, ?_, fun x hx hp => ?_, ?_⟩
  · rw [h.mem x, hm x, putC_mem]
    constructor
    · rintro (h | h | h)
      · exact .inl (.inr h)
      · exact .inl (.inl h)
      · exact .inr h
    · rintro ((h | h) | h)
      · exact .inr (.inl h)
      · exact .inl h
      · exact .inr (.inr h)
  · rw [List.nodup_append]
    refine ⟨hnd2.1, hnc.2, fun a ha b hb => hnd2.2.2 a ha b (List.mem_cons_of_mem _ hb)⟩
  · rcases putC_mem.1 hp with e | hp
    · subst e
      rcases List.mem_append.1 hx with hx | hx
      · exact hnd2.2.2 _ hx _ (List.mem_cons_self ..) rfl
      · exact hnc.1 hx
    · exact h.apart x ((hm x).2 (.inr hx)) hp
  · have h1 := h.len
    rw [putC_len, List.length_append, List.length_take, List.length_drop]
    omega
theorem Part.done (hL : Good L) (h : Part L Z []) : Z = L := by
  have h1 : ∀ x, x ∈ Z ↔ x ∈ L := fun x => by rw [h.mem x]; simp
  have key : ∀ {A B : List Cg}, Srt A → Srt B → (∀ x, x ∈ A ↔ x ∈ B) → A = B := by
    intro A
    induction A with
    | nil =>
      intro B _ _ h
      cases B with
      | nil => rfl
      | cons b t => exact absurd ((h b).2 (by simp)) (by simp)
    | cons a t ih =>
      intro B hA hB h
      cases B with
      | nil => exact absurd ((h a).1 (by simp)) (by simp)
      | cons b u =>
        rw [Srt, List.pairwise_cons] at hA hB
        have e : a = b := by
          rcases List.mem_cons.1 ((h a).1 (by simp)) with e | e
          · exact e
          · rcases List.mem_cons.1 ((h b).2 (by simp)) with e2 | e2
            · exact e2.symm
            · have h1 := hB.1 a e
              have h2 := hA.1 b e2
              rw [less_asymm h1] at h2; cases h2
        subst e
        congr 1
        refine ih hA.2 hB.2 fun x => ?_
        constructor
        · intro hx
          rcases List.mem_cons.1 ((h x).1 (List.mem_cons_of_mem _ hx)) with e | e
          · subst e; have := hA.1 _ hx; rw [less_irr] at this; cases this
          · exact e
        · intro hx
          rcases List.mem_cons.1 ((h x).2 (List.mem_cons_of_mem _ hx)) with e | e
          · subst e; have := hB.1 _ hx; rw [less_irr] at this; cases this
          · exact e
  exact key h.good.srt hL.srt h1
theorem part_new (hL : Good L) : Part L [] L := by
  refine ⟨good_nil, fun x => by simp, ?_, fun x _ h => (by cases h), by simp⟩
  have := hL.srt
  exact this.imp fun {a b} h e => by subst e; rw [less_irr] at h; cases h
end
end Go.VL.opl

namespace Go.VL.opl
open Go Go.VL Go.Proofs Go.IntWalk Go.VL.st Go.VL.row

section
variable {σ : St} {v d kv : V} {room n most : Int} {k : List Int} {gs : List Cg} {g : Cg}
/-- What the answer has: a late slice of changes whose slices are anybody's or late. -/
def AnsC (lo : Nat) (τ : St) (u : V) (L : List Cg) : Prop :=
  ((L = [] ∧ u = .sl true .pub 0 []) ∨ ∃ O q, u = .sl false (.own q) 13 (cgsV O) ∧ lo ≤ q ∧ τ.live[q]? = some true ∧ O.map (·.2) = L ∧ ∀ p ∈ O, (∀ σ, RdS σ p.1 1 (intsV .i64 p.2.deps)) ∨ FrD lo τ p)
theorem AnsC.keep {lo : Nat} {τ τ' : St} {u : V} {L : List Cg} (h : AnsC lo τ u L) (k : ∀ r, lo ≤ r → τ.live[r]? = some true → τ'.live[r]? = some true) : AnsC lo τ' u L := by
  refine h.imp_right ?_
  rintro ⟨O, q, h1, h2, h3, h4, h5⟩
  exact ⟨O, q, h1, h2, k _ h2 h3, h4, fun p hp => (h5 p hp).imp_right fun h => h.keep k⟩
theorem FrD.rd {lo : Nat} {τ : St} {p : V × Cg} (h : FrD lo τ p) : RdS τ p.1 1 (intsV .i64 p.2.deps) := by
  obtain ⟨q, h1, h2, -⟩ := h
  rw [h1]; exact ⟨_, _, _, rfl, by simp, .inr ⟨h2, rfl⟩⟩
theorem AnsC.lst {lo : Nat} {τ : St} {u : V} {L : List Cg} (h : AnsC lo τ u L) : ∃ l : List (V × Cg), l.map (·.2) = L ∧ RdS τ u 13 (cgsV l) ∧ Rds τ l ∧ ∀ p ∈ l, (∀ σ, RdS σ p.1 1 (intsV .i64 p.2.deps)) ∨ FrD lo τ p := by
  rcases h with ⟨rfl, rfl⟩ | ⟨O, q, rfl, h2, h3, h4, h5⟩
  · exact ⟨[], rfl, ⟨_, _, _, rfl, fun _ => rfl, .inl rfl⟩, (by intro p hp; cases hp), by intro p hp; cases hp⟩
  · exact ⟨O, h4, ⟨_, _, _, rfl, by simp, .inr ⟨h3, rfl⟩⟩, (fun p hp => (h5 p hp).elim (fun h => h τ) fun h => h.rd), h5⟩
theorem AnsC.rdC {lo : Nat} {τ : St} {u : V} {L : List Cg} (h : AnsC lo τ u L) : RdC τ u L := by
  obtain ⟨l, h1, h2, h3, -⟩ := h.lst
  exact ⟨l, h1, h2, h3⟩
end
theorem but_step {t : St} {q r : Nat} (h : (St.but t q).live[r]? = some true) : (St.but ⟨t.objs, t.live.set q false ++ [true]⟩ t.live.length).live[r]? = some true := by
  have hl : r < (t.live.set q false).length := (List.getElem?_eq_some_iff.1 h).1
  show ((t.live.set q false ++ [true]).set t.live.length false)[r]? = _
  rw [List.getElem?_set_ne (by simp at hl; omega), List.getElem?_append_left hl]
  exact h
theorem but_keep {t t' : St} {q r : Nat} (k : ∀ r : Nat, t.live[r]? = some true → t'.live[r]? = some true) (h : (St.but t q).live[r]? = some true) : (St.but t' q).live[r]? = some true := by
  obtain ⟨h1, h2⟩ := live_but h
  show (t'.live.set q false)[r]? = some true
  rw [List.getElem?_set_ne (Ne.symm h1)]
  exact k r h2
theorem but_live {t : St} {q r : Nat} (h : (St.but t q).live[r]? = some true) : t.live[r]? = some true := (live_but h).2
theorem but_in {t : St} {q r : Nat} (hr : r ≠ q) (h : t.live[r]? = some true) : (St.but t q).live[r]? = some true := by
  show (t.live.set q false)[r]? = some true
  rw [List.getElem?_set_ne (Ne.symm hr)]; exact h
theorem LogIs.lv {τ : St} {lv : List Bool} {i : Nat} {mo : Option Nat} {s : V} {ov : List V} {room : Int} {P : List (V × Cg)} (h : LogIs τ i mo s ov room P) (hr : Rds ⟨τ.objs, lv⟩ P) : LogIs ⟨τ.objs, lv⟩ i mo s ov room P :=
  ⟨h.cells, h.ovl, h.row, hr, (by have := h.map; cases mo <;> exact this), h.own, h.sep, h.good⟩
theorem fidx_some {α : Type} {p : α → Bool} {l : List α} {a : α} (h : l.find? p = some a) : ∃ (i : Nat) (hi : i < l.length), fidx p l = i ∧ l[i] = a := by
  obtain ⟨hp, i, hi, e, h2⟩ := List.find?_eq_some_iff_getElem.1 h
  refine ⟨i, hi, fidx_at hi ?_ (by rw [e]; exact hp), e⟩
  rw [List.any_eq_false]
  intro y hy
  obtain ⟨j, hj, rfl⟩ := List.getElem_of_mem hy
  rw [List.getElem_take]
  have := h2 j (by simp at hj; omega)
  simpa using this
theorem fidx_no {α : Type} {p : α → Bool} {l : List α} (h : l.find? p = none) : fidx p l = -1 := by
  refine fidx_none ?_
  rw [List.any_eq_false]
  exact List.find?_eq_none.1 h
/-- A change out of a list. -/
theorem rdC_get {σ : St} {b : Bool} {R : R} {z : Nat} {es : List (List V)} {L : List Cg} {i : Nat} (h : RdC σ (.sl b R z es) L) (hi : i < L.length) : ∃ d, es[i]?.getD [] = cgC d L[i] ∧ RdS σ d 1 (intsV .i64 L[i].deps) ∧ (i : Int) < es.length ∧ (b = true ∨ z = 13 → z = 13 ∨ b = true) ∧ rd σ.live R ∧ z = 13 ∧ es.length = L.length := by
  obtain ⟨l, rfl, ⟨_, _, _, e, h1, h2⟩, h3⟩ := h
  cases e
  have hi' : i < l.length := by simpa using hi
  refine ⟨l[i].1, ?_, ?_, ?_, fun h => h.symm, ?_, ?_, ?_⟩
  · have := cgsV_get hi'
    simpa using this
  · have := h3 _ (List.getElem_mem hi')
    simpa using this
  · rw [cgsV_len]; omega
  · rcases h2 with h2 | h2
    · have := h1 h2
      have hl := congrArg List.length this
      rw [cgsV_len] at hl
      simp only [List.length_nil] at hl
      omega
    · exact h2.1
  · rcases h2 with h2 | h2
    · have := h1 h2
      have hl := congrArg List.length this
      rw [cgsV_len] at hl
      simp only [List.length_nil] at hl
      omega
    · exact h2.2
  · rw [cgsV_len, List.length_map]
end Go.VL.opl

namespace Go.VL.opl
open Go Go.VL Go.Proofs
/-- topiary/topiarylaw07.OplogAny: 2 parameters, 112 slots. -/
def c8 : C :=
  .seq (.ops [⟨none, .mv 4 (.c (.bool false))⟩])
  (.seq (.ops [⟨none, .mv 18 (.t 0)⟩,
    ⟨none, .ca (some 19) 12 [(.c (.int .i64 4096)), (.t 18)]⟩,
    ⟨none, .mv 17 (.t 19)⟩,
    ⟨none, .ex 20 (.t 17) 0⟩,
    ⟨none, .ex 21 (.t 17) 1⟩,
    ⟨none, .alL 6 [.int .i64 0, .sl true .pub 0 []]⟩,
    ⟨none, .mv 5 (.t 20)⟩,
    ⟨none, .st (.t 6) (.t 21) 2⟩])
  (.seq (.ops [⟨none, .ca (some 23) 24 [(.c (.int .i64 4096))]⟩,
    ⟨none, .mv 22 (.t 23)⟩,
    ⟨none, .ex 24 (.t 22) 0⟩,
    ⟨none, .ex 25 (.t 22) 1⟩,
    ⟨none, .mv 7 (.t 24)⟩,
    ⟨none, .mv 8 (.t 25)⟩])
  (.seq (.seq (.ops [⟨none, .mv 26 (.t 8)⟩,
    ⟨none, .bi 27 .neq (.t 26) (.c (.int .i64 0))⟩,
    ⟨none, .mv 28 (.t 27)⟩,
    ⟨some (28, false), .mv 29 (.t 7)⟩,
    ⟨some (28, false), .bq 30 false .ptr (.t 29) (.c (.ptr none))⟩,
    ⟨none, .pk 31 (.t 28) (.c (.bool true)) (.t 30)⟩])
  (.cond (.t 31) (.seq (.ops [⟨none, .mv 4 (.c (.bool false))⟩])
    (.ret))
    (.skip)))
  (.seq (.ops [⟨none, .fa 32 (.t 6) 1⟩,
    ⟨none, .ld 33 (.t 32) 1 false⟩,
    ⟨none, .ca (some 34) 37 [(.t 33)]⟩,
    ⟨none, .mv 9 (.t 34)⟩])
  (.seq (.seq (.ops [⟨none, .mv 10 (.c (.int .i64 0))⟩])
  (.block 0 (.loop (.seq (.seq (.ops [⟨none, .mv 35 (.t 9)⟩,
    ⟨none, .ln 36 .sl (.t 35)⟩,
    ⟨none, .bi 37 .gtr (.t 36) (.c (.int .i64 0))⟩])
  (.cond (.t 37) (.skip)
    (.exit 0)))
  (.seq (.block 1 (.seq (.ops [⟨none, .mv 11 (.c (.int .i64 0))⟩])
  (.cut (.seq (.ops [⟨none, .mv 40 (.t 10)⟩,
    ⟨none, .mv 41 (.t 1)⟩,
    ⟨none, .ln 42 .sl (.t 41)⟩,
    ⟨none, .bi 43 .lss (.t 40) (.t 42)⟩])
  (.cond (.t 43) (.ops [⟨none, .mv 44 (.t 1)⟩,
      ⟨none, .mv 45 (.t 10)⟩,
      ⟨none, .ia 46 (.t 44) (.t 45) 1⟩,
      ⟨none, .ld 47 (.t 46) 1 false⟩,
      ⟨none, .cI 48 .u64 (.t 47)⟩,
      ⟨none, .mv 49 (.t 9)⟩,
      ⟨none, .ln 50 .sl (.t 49)⟩,
      ⟨none, .cI 51 .u64 (.t 50)⟩,
      ⟨none, .bi 52 .rem (.t 48) (.t 51)⟩,
      ⟨none, .cI 53 .i64 (.t 52)⟩,
      ⟨none, .mv 11 (.t 53)⟩])
    (.skip)))
  (.seq (.ops [⟨none, .mv 12 (.c (.bool false))⟩])
  (.seq (.seq (.ops [⟨none, .mv 13 (.c (.int .i64 0))⟩])
  (.block 2 (.loop (.seq (.seq (.ops [⟨none, .mv 54 (.t 13)⟩,
    ⟨none, .mv 55 (.t 9)⟩,
    ⟨none, .ln 56 .sl (.t 55)⟩,
    ⟨none, .bi 57 .lss (.t 54) (.t 56)⟩,
    ⟨none, .mv 58 (.t 57)⟩,
    ⟨some (58, true), .mv 59 (.t 12)⟩,
    ⟨some (58, true), .un 60 .not (.t 59)⟩,
    ⟨none, .pk 61 (.t 58) (.t 60) (.c (.bool false))⟩])
  (.cond (.t 61) (.skip)
    (.exit 2)))
  (.cut (.block 3 (.seq (.ops [⟨none, .mv 64 (.t 11)⟩,
    ⟨none, .mv 65 (.t 13)⟩,
    ⟨none, .bi 66 .add (.t 64) (.t 65)⟩,
    ⟨none, .mv 67 (.t 9)⟩,
    ⟨none, .ln 68 .sl (.t 67)⟩,
    ⟨none, .bi 69 .rem (.t 66) (.t 68)⟩,
    ⟨none, .mv 14 (.t 69)⟩])
  (.seq (.ops [⟨none, .mv 70 (.t 7)⟩,
    ⟨none, .mv 71 (.t 9)⟩,
    ⟨none, .mv 72 (.t 14)⟩,
    ⟨none, .ia 73 (.t 71) (.t 72) 13⟩,
    ⟨none, .ld 74 (.t 73) 13 true⟩,
    ⟨none, .ca (some 75) 14 [(.t 70), (.t 74)]⟩,
    ⟨none, .mv 15 (.t 75)⟩])
  (.seq (.seq (.ops [⟨none, .mv 76 (.t 15)⟩,
    ⟨none, .bi 77 .neq (.t 76) (.c (.int .i64 0))⟩,
    ⟨none, .mv 78 (.t 77)⟩,
    ⟨some (78, true), .mv 79 (.t 15)⟩,
    ⟨some (78, true), .bi 80 .neq (.t 79) (.c (.int .i64 4))⟩,
    ⟨none, .pk 81 (.t 78) (.t 80) (.c (.bool false))⟩])
  (.cond (.t 81) (.seq (.ops [⟨none, .mv 4 (.c (.bool false))⟩])
    (.ret))
    (.skip)))
  (.seq (.ops [⟨none, .mv 82 (.t 15)⟩,
    ⟨none, .bi 83 .eql (.t 82) (.c (.int .i64 0))⟩])
  (.cond (.t 83) (.seq (.ops [⟨none, .mv 12 (.c (.bool true))⟩])
    (.seq (.ops [⟨none, .lit 84 13 []⟩,
      ⟨none, .mv 85 (.t 9)⟩,
      ⟨none, .mv 86 (.t 14)⟩,
      ⟨none, .sl 87 13 (.t 85) none (some (.t 86))⟩,
      ⟨none, .ap 88 13 (.t 84) (.t 87)⟩,
      ⟨none, .mv 16 (.t 88)⟩])
    (.ops [⟨none, .mv 89 (.t 16)⟩,
      ⟨none, .mv 90 (.t 9)⟩,
      ⟨none, .mv 91 (.t 14)⟩,
      ⟨none, .bi 92 .add (.t 91) (.c (.int .i64 1))⟩,
      ⟨none, .sl 93 13 (.t 90) (some (.t 92)) none⟩,
      ⟨none, .ap 94 13 (.t 89) (.t 93)⟩,
      ⟨none, .mv 9 (.t 94)⟩])))
    (.skip)))))))
  (.ops [⟨none, .mv 62 (.t 13)⟩,
    ⟨none, .bi 63 .add (.t 62) (.c (.int .i64 1))⟩,
    ⟨none, .mv 13 (.t 63)⟩]))))))
  (.seq (.ops [⟨none, .mv 95 (.t 12)⟩,
    ⟨none, .un 96 .not (.t 95)⟩])
  (.cond (.t 96) (.seq (.ops [⟨none, .mv 4 (.c (.bool false))⟩])
    (.ret))
    (.skip))))))))
  (.ops [⟨none, .mv 38 (.t 10)⟩,
    ⟨none, .bi 39 .add (.t 38) (.c (.int .i64 1))⟩,
    ⟨none, .mv 10 (.t 39)⟩]))))))
  (.seq (.ops [⟨none, .mv 97 (.t 7)⟩,
    ⟨none, .ca (some 98) 25 [(.t 97)]⟩,
    ⟨none, .mv 99 (.t 5)⟩,
    ⟨none, .ca (some 100) 25 [(.t 99)]⟩,
    ⟨none, .ca (some 101) 33 [(.t 98), (.t 100)]⟩,
    ⟨none, .mv 102 (.t 101)⟩,
    ⟨some (102, true), .mv 103 (.t 7)⟩,
    ⟨some (102, true), .fa 104 (.t 6) 1⟩,
    ⟨some (102, true), .ld 105 (.t 104) 1 false⟩,
    ⟨some (102, true), .bld 106 [.int .i64 0, .sl true .pub 0 []] [(0, 1, (.c (.int .i64 4096))), (1, 1, (.t 105))]⟩,
    ⟨some (102, true), .ca (some 107) 36 [(.t 103), (.t 106)]⟩,
    ⟨none, .pk 108 (.t 102) (.t 107) (.c (.bool false))⟩,
    ⟨none, .mv 109 (.t 108)⟩,
    ⟨some (109, true), .ca (some 110) 19 []⟩,
    ⟨none, .pk 111 (.t 109) (.t 110) (.c (.bool false))⟩,
    ⟨none, .mv 4 (.t 111)⟩])
  (.ret)))))))
theorem comp8 : compFn Try.prog [6] Try.f8 = some ([.t 4], c8) := by kernel_rfl
end Go.VL.opl

namespace Go.VL.opl
open Go Go.VL Go.Proofs Go.IntWalk Go.VL.st Go.VL.row

theorem tmod_nat (a b : Nat) : (a : Int).tmod (b : Int) = ((a % b : Nat) : Int) := by
  rw [Int.tmod_eq_emod_of_nonneg (by omega)]; rfl
theorem u64w (n : Int) : IntKind.u64.wrap n = n % 18446744073709551616 := by simp [IntKind.wrap, IntKind.bits, IntKind.signed]
theorem idx_of (o : Int) {n : Nat} (h : 0 < n) (hn : n ≤ 268435456) : ∃ i : Nat, i < n ∧ IntKind.i64.wrap ((IntKind.u64.wrap o).tmod (IntKind.u64.wrap n)) = i := by
  rw [u64w, u64w]
  obtain ⟨a, ha⟩ := Int.eq_ofNat_of_zero_le (Int.emod_nonneg o (b := 18446744073709551616) (by decide))
  have e : (n : Int) % 18446744073709551616 = n := Int.emod_eq_of_lt (by omega) (by omega)
  rw [ha, e, tmod_nat]
  have := Nat.mod_lt a h
  exact ⟨a % n, this, by rw [i64_in _ (by omega)]⟩
theorem logR_mem {gs : List Cg} {room : Int} {x : Cg} (h : x ∈ logR gs room) : x ∈ gs := by
  unfold logR at h
  have : ∀ (gs : List Cg) (L : List Cg), x ∈ gs.foldl (fun L g => addR L room g) L → x ∈ L ∨ x ∈ gs := by
    intro gs
    induction gs with
    | nil => intro L h; exact .inl h
    | cons a t ih =>
      intro L h
      rcases ih _ h with h | h
      · change x ∈ addR L room a at h
        unfold addR at h
        cases hc : decide (whyR L room a = 0) <;> rw [hc] at h
        · exact .inl h
        · rcases putC_mem.1 h with e | h
          · exact .inr (by simp [e])
          · exact .inl h
      · exact .inr (List.mem_cons_of_mem _ h)
  exact (this gs [] h).elim (fun h => by cases h) id
theorem turn_back {n fr j : Nat} (hf : fr < n) (hj : j < n) : ∃ k, k < n ∧ (fr + k) % n = j := by
  by_cases h : fr ≤ j
  · exact ⟨j - fr, by omega, by rw [Nat.add_sub_cancel' h]; exact Nat.mod_eq_of_lt hj⟩
  · refine ⟨j + n - fr, by omega, ?_⟩
    rw [show fr + (j + n - fr) = j + n by omega, Nat.add_mod_right]
    exact Nat.mod_eq_of_lt hj
section
variable {σ : St} {v ov' : V} {gs : List Cg} {or : List Int}
set_option maxRecDepth 100000 in
set_option maxHeartbeats 8000000 in
theorem any_law (hv : ArgC v gs) (ho0 : RdS ⟨[], []⟩ ov' 1 (intsV .i64 or)) : CallA Try.prog 8 [v, ov'] σ fun w _ => w = .bool true := by
  have ho : ∀ σ, RdS σ ov' 1 (intsV .i64 or) := fun σ => ho0.ext ⟨fun j o h => absurd h (by simp), fun r h => absurd h (by simp), Nat.zero_le _, Nat.zero_le _⟩
  obtain ⟨ob, oR, oz, rfl, -, -⟩ := id ho0
  have hor := intsV_len or
  refine fn_at Try.func8 (by decide) comp8 rfl fun Q q1 q2 => ?_
  have h00 : decide ((0 : Int) = 0) = true := by decide
  simp -implicitDefEqProofs only [go_sem, Nat.reduceBEq, Nat.reduceAdd, eq_self, true_and, and_true, and_self, List.getElem?_cons_zero, List.getElem?_cons_succ, Nat.reduceLeDiff, Nat.zero_add, Nat.reduceSub, Nat.le_refl, c8]
  refine call_at (filled_ok (room := 4096) rfl (hv.rd _) hv.2.1 hv.2.2) ?_
  rintro w τ1 ⟨ix, mx, sx, ovx, Px, u, rfl, hLx, hPx, hu, e1, -, -⟩
  refine ⟨kept_none, ?_⟩
  obtain ⟨b, R, z, es, rfl⟩ := hu.isSl
  have hgd := logR_good gs 4096
  have hcla := logR_cla gs 4096
  have hLn : ∀ g ∈ logR gs 4096, g.name.length < 1048576 := fun g hg => by have := hv.2.2 g (logR_mem hg); omega
  have hPl : Px.length ≤ 4096 := by
    have := logR_room gs 4096
    rw [← hPx, map2_len] at this
    exact this
  generalize logR gs 4096 = L at hPx hu hgd hcla hLn
  have hLl : L.length ≤ 4096 := by rw [← hPx, map2_len]; exact hPl
  have hLd : ∀ g ∈ L, g.deps.length ≤ 64 := fun g hg => hgd.deps g hg
  simp -implicitDefEqProofs only [go_sem, Nat.reduceBEq, Nat.reduceAdd, eq_self, true_and, and_true, and_self, List.getElem?_cons_zero, List.getElem?_cons_succ, Nat.reduceLeDiff, Nat.zero_add, Nat.reduceSub, Nat.le_refl, flats, V.flat]
  refine call_at (new_ok (room := 4096) rfl) ?_
  rintro w τ2 ⟨rfl, hz0, e2⟩
  refine ⟨kept_none, ?_⟩
  have hzf : ∀ j, Own (τ1.objs.length + 1) (some τ1.objs.length) (.sl true .pub 0 []) nilO j → τ1.objs.length ≤ j := fun j hj => by
    rcases own_new hj with rfl | h
    · omega
    · cases h; omega
  have hxl : ∀ j, Own ix (some mx) sx ovx j → j < τ1.objs.length := fun j hj => hLx.mid.own_lt hj
  have hLx2 := hLx.ext e2
  have hu2 := hu.ext e2
  simp -implicitDefEqProofs only [go_sem, Nat.reduceBEq, Nat.reduceAdd, eq_self, true_and, and_true, and_self, List.getElem?_cons_zero, List.getElem?_cons_succ, Nat.reduceLeDiff, Nat.zero_add, Nat.reduceSub, Nat.le_refl, h00, Bool.not_true]
  refine call_at (copyAll_ok hu2 (by omega) fun g hg => by have := hLd g hg; omega) ?_
  rintro w τ3 ⟨e3, -, hrs⟩
  refine ⟨kept_none, ?_⟩
  have hLx3 := hLx2.ext e3
  have hu3 := hu2.ext e3
  have hz3 := hz0.ext e3
  clear hLx2 hu2 hz0 hLx hu
  generalize τ1.objs.length + 1 = iz at *
  generalize hmz : τ1.objs.length = mz at *
  obtain ⟨b3, R3, z3', es3, rfl⟩ := hrs.isSl
  simp -implicitDefEqProofs only [go_sem, Nat.reduceBEq, Nat.reduceAdd, eq_self, true_and, and_true, and_self, List.getElem?_cons_zero, List.getElem?_cons_succ, Nat.reduceLeDiff, Nat.zero_add, Nat.reduceSub, Nat.le_refl, Nat.lt_irrefl]
  refine loop_at (fun (y : Nat × V) => ⟨[(1, .v (.sl ob oR oz (intsV .i64 or))), (5, .v (.ptr (some (ix, 0)))), (6, .loc 6 0), (7, .v (.ptr (some (iz, 0)))), (9, .v y.2), (10, .v (.int .i64 ((y.1 : Nat) : Int)))], [(6, [.int .i64 4096, .sl b R z es])]⟩)
    (fun y t => ∃ Z Rs s ovz P, y.1 + Rs.length = L.length ∧ Part L Z Rs ∧ RdC t y.2 Rs ∧ RdC t (.sl b R z es) L ∧ LogIs t ix (some mx) sx ovx 4096 Px ∧ LogIs t iz (some mz) s ovz 4096 P ∧ cgL P = Z ∧ ∀ j, Own iz (some mz) s ovz j → mz ≤ j) (fun y => L.length - y.1) (0, .sl b3 R3 z3' es3) ?_ ?_ ?_
  · refine .inr ?_
    simp -implicitDefEqProofs only [go_sem, Nat.reduceBEq, Nat.reduceAdd, eq_self, true_and, and_true, and_self, List.getElem?_cons_zero, List.getElem?_cons_succ, Nat.reduceLeDiff, Nat.zero_add, Nat.reduceSub, Nat.le_refl, Nat.lt_irrefl]
    try exact ⟨rfl, rfl⟩
    try exact rfl
  · exact ⟨[], L, _, _, [], by simp, part_new hgd, hrs, hu3, hLx3, hz3, rfl, hzf⟩
  rintro ⟨y, rv⟩ t ⟨Z, Rs, s, ovz, P, g1, g2, g3, g4, g5, g6, g7, g8⟩ X z1 z2 z3
  simp only at g1 g3
  obtain ⟨b4, R4, z4', es4, rfl⟩ := g3.isSl
  have hesl : es4.length = Rs.length := by
    obtain ⟨l', x1, ⟨_, _, _, x2, -, -⟩, -⟩ := g3
    cases x2
    rw [cgsV_len, ← map2_len, x1]
  simp -implicitDefEqProofs only [go_sem, Nat.reduceBEq, Nat.reduceAdd, eq_self, true_and, and_true, and_self, List.getElem?_cons_zero, List.getElem?_cons_succ, Nat.reduceLeDiff, Nat.zero_add, Nat.reduceSub, Nat.le_refl, hesl]
  cases hc : decide ((Rs.length : Int) > 0)
  · have hR0 : Rs = [] := by
      have := of_decide_eq_false hc
      exact List.length_eq_zero_iff.1 (by omega)
    subst hR0
    have hZL := g2.done hgd
    subst hZL
    subst g7
    have hP4 : P.length ≤ 4096 := by rw [map2_len] at hLl; exact hLl
    simp -implicitDefEqProofs only [go_sem, Nat.reduceBEq, Nat.reduceAdd, eq_self, true_and, and_true, and_self, List.getElem?_cons_zero, List.getElem?_cons_succ, Nat.reduceLeDiff, Nat.zero_add, Nat.reduceSub, Nat.le_refl, hc]
    refine z2 _ _ _ ?_
    clear z1 z2 z3
    simp -implicitDefEqProofs only [go_sem, Nat.reduceBEq, Nat.reduceAdd, eq_self, true_and, and_true, and_self, List.getElem?_cons_zero, List.getElem?_cons_succ, Nat.reduceLeDiff, Nat.zero_add, Nat.reduceSub, Nat.le_refl, Nat.lt_irrefl]
    refine call_at (all_ok g6 (by omega)) ?_
    rintro w τ5 ⟨n1, e5⟩
    refine ⟨kept_none, ?_⟩
    simp -implicitDefEqProofs only [go_sem, Nat.reduceBEq, Nat.reduceAdd, eq_self, true_and, and_true, and_self, List.getElem?_cons_zero, List.getElem?_cons_succ, Nat.reduceLeDiff, Nat.zero_add, Nat.reduceSub, Nat.le_refl, Nat.lt_irrefl]
    refine call_at (all_ok (g5.ext e5) (by omega)) ?_
    rintro w τ6 ⟨n2, e6⟩
    refine ⟨kept_none, ?_⟩
    have n2' := n2.rd
    rw [hPx] at n2'
    simp -implicitDefEqProofs only [go_sem, Nat.reduceBEq, Nat.reduceAdd, eq_self, true_and, and_true, and_self, List.getElem?_cons_zero, List.getElem?_cons_succ, Nat.reduceLeDiff, Nat.zero_add, Nat.reduceSub, Nat.le_refl, Nat.lt_irrefl]
    refine call_at (sameAll_ok (n1.rd.ext e6) n2' (by omega) fun g hg => by have := hLd g hg; omega) ?_
    rintro w τ7 ⟨hτ, rfl⟩
    have hτ := hτ.symm
    subst hτ
    refine ⟨kept_none, ?_⟩
    have hss : decide (cgL P = cgL P) = true := decide_eq_true rfl
    have htd := told_ok ((g6.ext e5).ext e6) (by omega) ((g4.ext e5).ext e6)
    simp -implicitDefEqProofs only [go_sem, Nat.reduceBEq, Nat.reduceAdd, eq_self, true_and, and_true, and_self, List.getElem?_cons_zero, List.getElem?_cons_succ, Nat.reduceLeDiff, Nat.zero_add, Nat.reduceSub, Nat.le_refl, hss, flats, V.flat]
    refine call_at htd ?_
    rintro w τ7 ⟨rfl, e7⟩
    refine ⟨kept_none, ?_⟩
    simp -implicitDefEqProofs only [go_sem, Nat.reduceBEq, Nat.reduceAdd, eq_self, true_and, and_true, and_self, List.getElem?_cons_zero, List.getElem?_cons_succ, Nat.reduceLeDiff, Nat.zero_add, Nat.reduceSub, Nat.le_refl, Nat.lt_irrefl]
    refine call_at awake_ok ?_
    rintro w τ8 ⟨rfl, -⟩
    refine ⟨kept_none, ?_⟩
    simp -implicitDefEqProofs only [go_sem, Nat.reduceBEq, Nat.reduceAdd, eq_self, true_and, and_true, and_self, List.getElem?_cons_zero, List.getElem?_cons_succ, Nat.reduceLeDiff, Nat.zero_add, Nat.reduceSub, Nat.le_refl, Nat.lt_irrefl]
    refine q2 _ _ ?_
    simp -implicitDefEqProofs only [go_sem, Nat.reduceBEq, Nat.reduceAdd, eq_self, true_and, and_true, and_self, List.getElem?_cons_zero, List.getElem?_cons_succ, Nat.reduceLeDiff, Nat.zero_add, Nat.reduceSub, Nat.le_refl, Nat.lt_irrefl]
  simp -implicitDefEqProofs only [go_sem, Nat.reduceBEq, Nat.reduceAdd, eq_self, true_and, and_true, and_self, List.getElem?_cons_zero, List.getElem?_cons_succ, Nat.reduceLeDiff, Nat.zero_add, Nat.reduceSub, Nat.le_refl, hc]
  have hRn : 0 < Rs.length := by have := of_decide_eq_true hc; omega
  have hRl : Rs.length ≤ 4096 := by omega
  refine cut_at (fun G τ => τ = t ∧ ∃ fr : Nat, fr < Rs.length ∧ G = ⟨[(1, .v (.sl ob oR oz (intsV .i64 or))), (5, .v (.ptr (some (ix, 0)))), (6, .loc 6 0), (7, .v (.ptr (some (iz, 0)))), (9, .v (.sl b4 R4 z4' es4)), (10, .v (.int .i64 ((y : Nat) : Int))), (11, .v (.int .i64 ((fr : Nat) : Int)))], [(6, [.int .i64 4096, .sl b R z es])]⟩) ?_ ?_
  · intro Y y1 y2 y3
    cases hyo : decide ((y : Int) < or.length)
    · simp -implicitDefEqProofs only [go_sem, Nat.reduceBEq, Nat.reduceAdd, eq_self, true_and, and_true, and_self, List.getElem?_cons_zero, List.getElem?_cons_succ, Nat.reduceLeDiff, Nat.zero_add, Nat.reduceSub, Nat.le_refl, hor, hyo]
      refine y1 _ _ _ (.inr ?_) ⟨rfl, 0, hRn, rfl⟩
      simp -implicitDefEqProofs only [go_sem, Nat.reduceBEq, Nat.reduceAdd, eq_self, true_and, and_true, and_self, List.getElem?_cons_zero, List.getElem?_cons_succ, Nat.reduceLeDiff, Nat.zero_add, Nat.reduceSub, Nat.le_refl, Nat.lt_irrefl]
      try exact ⟨rfl, rfl⟩
      try exact rfl
    · have hyi : y < or.length := by have := of_decide_eq_true hyo; omega
      have hgo := intsV_get hyi
      obtain ⟨k1, k2⟩ := rdl (ho t) (intsV_ne hyi)
      generalize or[y] = o at hgo
      obtain ⟨fr, fr1, fr2⟩ := idx_of o hRn (by omega)
      have hnz : IntKind.u64.wrap (Rs.length : Int) ≠ 0 := by rw [u64w]; omega
      simp -implicitDefEqProofs only [go_sem, Nat.reduceBEq, Nat.reduceAdd, eq_self, true_and, and_true, and_self, List.getElem?_cons_zero, List.getElem?_cons_succ, Nat.reduceLeDiff, Nat.zero_add, Nat.reduceSub, Nat.le_refl, hor, hyo, hgo, hesl]
      refine ⟨⟨by omega, by omega, k2⟩, k1, hnz, ?_⟩
      refine y1 _ _ _ (.inr ?_) ⟨rfl, fr, fr1, rfl⟩
      simp -implicitDefEqProofs only [go_sem, Nat.reduceBEq, Nat.reduceAdd, eq_self, true_and, and_true, and_self, List.getElem?_cons_zero, List.getElem?_cons_succ, Nat.reduceLeDiff, Nat.zero_add, Nat.reduceSub, Nat.le_refl, fr2]
      try exact ⟨rfl, rfl⟩
      try exact rfl
  rintro G τ ⟨hτ, fr, hfr, rfl⟩
  have hτ := hτ.symm
  subst hτ
  simp -implicitDefEqProofs only [go_sem, Nat.reduceBEq, Nat.reduceAdd, eq_self, true_and, and_true, and_self, List.getElem?_cons_zero, List.getElem?_cons_succ, Nat.reduceLeDiff, Nat.zero_add, Nat.reduceSub, Nat.le_refl, Nat.lt_irrefl]
  refine loop_at (fun (x : Nat × Bool × V) => ⟨[(1, .v (.sl ob oR oz (intsV .i64 or))), (5, .v (.ptr (some (ix, 0)))), (6, .loc 6 0), (7, .v (.ptr (some (iz, 0)))), (9, .v x.2.2), (10, .v (.int .i64 ((y : Nat) : Int))), (11, .v (.int .i64 ((fr : Nat) : Int))), (12, .v (.bool x.2.1)), (13, .v (.int .i64 ((x.1 : Nat) : Int)))], [(6, [.int .i64 4096, .sl b R z es])]⟩)
    (fun x t => ∃ Z' Rs' s ovz P, Part L Z' Rs' ∧ RdC t x.2.2 Rs' ∧ RdC t (.sl b R z es) L ∧ LogIs t ix (some mx) sx ovx 4096 Px ∧ LogIs t iz (some mz) s ovz 4096 P ∧ cgL P = Z' ∧ (∀ j, Own iz (some mz) s ovz j → mz ≤ j) ∧ (x.2.1 = false → x.1 ≤ Rs.length ∧ Rs' = Rs ∧ Z' = Z ∧ ∀ k' < x.1, ∀ (h : (fr + k') % Rs.length < Rs.length), whyR Z 4096 Rs[(fr + k') % Rs.length] = 4) ∧ (x.2.1 = true → y + 1 + Rs'.length = L.length))
    (fun x => bif x.2.1 then 0 else Rs.length + 1 - x.1) (0, false, .sl b4 R4 z4' es4) ?_ ?_ ?_
  · refine .inr ?_
    simp -implicitDefEqProofs only [go_sem, Nat.reduceBEq, Nat.reduceAdd, eq_self, true_and, and_true, and_self, List.getElem?_cons_zero, List.getElem?_cons_succ, Nat.reduceLeDiff, Nat.zero_add, Nat.reduceSub, Nat.le_refl, Nat.lt_irrefl]
    try exact ⟨rfl, rfl⟩
    try exact rfl
  · exact ⟨Z, Rs, s, ovz, P, g2, g3, g4, g5, g6, g7, g8, fun _ => ⟨Nat.zero_le _, rfl, rfl, fun k' h => absurd h (Nat.not_lt_zero _)⟩, fun h => by cases h⟩
  clear g3 g4 g5 g6 g7 g8 hesl
  rintro ⟨k, dn, rv⟩ t2 ⟨Z', Rs', s, ovz, P, g2', g3, g4, g5, g6, g7, g8, ga, gb⟩ Y y1 y2 y3
  simp only at g3 ga gb
  obtain ⟨b5, R5, z5, es5, rfl⟩ := g3.isSl
  have hesl : es5.length = Rs'.length := by
    obtain ⟨l', x1, ⟨_, _, _, x2, -, -⟩, -⟩ := g3
    cases x2
    rw [cgsV_len, ← map2_len, x1]
  have hwy : IntKind.i64.wrap ((y : Int) + 1) = ((y + 1 : Nat) : Int) := by rw [i64_in _ (by omega)]; omega
  cases dn
  case true =>
    have hgb := gb rfl
    cases hk : decide ((k : Int) < Rs'.length)
    all_goals
      simp -implicitDefEqProofs only [go_sem, Nat.reduceBEq, Nat.reduceAdd, eq_self, true_and, and_true, and_self, List.getElem?_cons_zero, List.getElem?_cons_succ, Nat.reduceLeDiff, Nat.zero_add, Nat.reduceSub, Nat.le_refl, hesl, hk]
      refine y2 _ _ _ ?_
      simp -implicitDefEqProofs only [go_sem, Nat.reduceBEq, Nat.reduceAdd, eq_self, true_and, and_true, and_self, List.getElem?_cons_zero, List.getElem?_cons_succ, Nat.reduceLeDiff, Nat.zero_add, Nat.reduceSub, Nat.le_refl, hwy]
      refine z1 (y + 1, _) _ _ (.inr ?_) (by simp only; omega) ⟨Z', Rs', s, ovz, P, by simp only; omega, g2', g3, g4, g5, g6, g7, g8⟩
      simp -implicitDefEqProofs only [go_sem, Nat.reduceBEq, Nat.reduceAdd, eq_self, true_and, and_true, and_self, List.getElem?_cons_zero, List.getElem?_cons_succ, Nat.reduceLeDiff, Nat.zero_add, Nat.reduceSub, Nat.le_refl, Nat.lt_irrefl]
      try exact ⟨rfl, rfl⟩
      try exact rfl
  obtain ⟨hkn, rfl, rfl, hall⟩ := ga rfl
  have hwhy := fun (g : Cg) (hg : g ∈ Rs') => g2'.why (room := 4096) hgd hcla hg (by omega)
  cases hk : decide ((k : Int) < Rs'.length)
  · exfalso
    have hk' := of_decide_eq_false hk
    obtain ⟨j, hj, hj2⟩ := g2'.some (room := 4096) hgd hcla (by omega) (by intro e; rw [e] at hRn; simp at hRn)
    obtain ⟨k', hk1, hk2⟩ := turn_back hfr hj
    have := hall k' (by omega) (by rw [hk2]; exact hj)
    simp only [hk2] at this
    rw [this] at hj2
    cases hj2
  have hki : k < Rs'.length := by have := of_decide_eq_true hk; omega
  have hwk : IntKind.i64.wrap ((k : Int) + 1) = ((k + 1 : Nat) : Int) := by rw [i64_in _ (by omega)]; omega
  have hwf : IntKind.i64.wrap ((fr : Int) + (k : Int)) = ((fr + k : Nat) : Int) := by rw [i64_in _ (by omega)]; omega
  have htm := tmod_nat (fr + k) Rs'.length
  have hin : (fr + k) % Rs'.length < Rs'.length := Nat.mod_lt _ hRn
  have hnz : ¬ (Rs'.length : Int) = 0 := by omega
  simp -implicitDefEqProofs only [go_sem, Nat.reduceBEq, Nat.reduceAdd, eq_self, true_and, and_true, and_self, List.getElem?_cons_zero, List.getElem?_cons_succ, Nat.reduceLeDiff, Nat.zero_add, Nat.reduceSub, Nat.le_refl, hesl, hk, Bool.not_false]
  refine cut_at (fun G τ => ∃ dn2 rv2 Z2 Rs2 s ovz P, Part L Z2 Rs2 ∧ RdC τ rv2 Rs2 ∧ RdC τ (.sl b R z es) L ∧ LogIs τ ix (some mx) sx ovx 4096 Px ∧ LogIs τ iz (some mz) s ovz 4096 P ∧ cgL P = Z2 ∧ (∀ j, Own iz (some mz) s ovz j → mz ≤ j) ∧ (dn2 = false → Rs2 = Rs' ∧ Z2 = Z' ∧ whyR Z' 4096 Rs'[(fr + k) % Rs'.length] = 4) ∧ (dn2 = true → y + 1 + Rs2.length = L.length) ∧
    G = ⟨[(1, .v (.sl ob oR oz (intsV .i64 or))), (5, .v (.ptr (some (ix, 0)))), (6, .loc 6 0), (7, .v (.ptr (some (iz, 0)))), (9, .v rv2), (10, .v (.int .i64 ((y : Nat) : Int))), (11, .v (.int .i64 ((fr : Nat) : Int))), (12, .v (.bool dn2)), (13, .v (.int .i64 ((k : Nat) : Int)))], [(6, [.int .i64 4096, .sl b R z es])]⟩) ?_ ?_
  case refine_2 =>
    rintro G τ ⟨dn2, rv2, Z2, Rs2, s2, ovz2, P2, k1, k2, k3, k4, k5, k6, k7, k8, k9, rfl⟩
    simp -implicitDefEqProofs only [go_sem, Nat.reduceBEq, Nat.reduceAdd, eq_self, true_and, and_true, and_self, List.getElem?_cons_zero, List.getElem?_cons_succ, Nat.reduceLeDiff, Nat.zero_add, Nat.reduceSub, Nat.le_refl, hwk]
    refine y1 (k + 1, dn2, rv2) _ _ (.inr ?_) (by cases dn2 <;> simp <;> omega) ⟨Z2, Rs2, s2, ovz2, P2, k1, k2, k3, k4, k5, k6, k7, fun h => ?_, k9⟩
    · simp -implicitDefEqProofs only [go_sem, Nat.reduceBEq, Nat.reduceAdd, eq_self, true_and, and_true, and_self, List.getElem?_cons_zero, List.getElem?_cons_succ, Nat.reduceLeDiff, Nat.zero_add, Nat.reduceSub, Nat.le_refl, Nat.lt_irrefl]
      try exact ⟨rfl, rfl⟩
      try exact rfl
    · obtain ⟨m1, m2, m3⟩ := k8 h
      refine ⟨by simp only; omega, m1, m2, fun k' hk' hh => ?_⟩
      by_cases e : k' = k
      · subst e; exact m3
      · exact hall k' (by simp only at hk'; omega) hh
  intro W w1 w2 w3
  generalize (fr + k) % Rs'.length = ii at htm hin ⊢
  obtain ⟨d2, x1, x2, x3, -, x5, x6, -⟩ := rdC_get g3 hin
  subst x6
  have hmem := List.getElem_mem hin
  have hst := g2'.step (room := 4096) hgd hin
  have hwg := hwhy _ hmem
  have hPl2 : P.length ≤ 4096 := by
    have h1 := g2'.len
    have h2 := congrArg List.length g7
    rw [map2_len] at h2
    omega
  have hnm : Rs'[ii].name.length < 4611686018427387904 := by have := hLn _ ((g2'.mem _).2 (.inr hmem)); omega
  generalize hgi : Rs'[ii] = g at x1 x2 hmem hst hwg hnm
  have had := add_ok g6 (by omega) x2 hnm
  simp only [cgV, cgC] at had
  subst g7
  simp -implicitDefEqProofs only [go_sem, Nat.reduceBEq, Nat.reduceAdd, eq_self, true_and, and_true, and_self, List.getElem?_cons_zero, List.getElem?_cons_succ, Nat.reduceLeDiff, Nat.zero_add, Nat.reduceSub, Nat.le_refl, hwf, hesl, htm, Int.toNat_natCast, x1, cgC]
  refine ⟨hnz, ⟨by omega, by omega⟩, x5, ?_⟩
  refine call_at had ?_
  rintro w t3 ⟨rfl, s3, ov3, P3, h3, hP3, kt, -⟩
  refine ⟨kept_none, ?_⟩
  have hx3 := g5.up kt.upd fun j hj hz => by have := hxl j hj; have := g8 j hz; omega
  have hu4 : RdC t3 (.sl b R z es) L := by
    obtain ⟨l', m1, m2, m3⟩ := g4
    exact ⟨l', m1, rdS_up m2 kt.upd, fun p hp => rdS_up (m3 p hp) kt.upd⟩
  have hr4 : RdC t3 (.sl b5 R5 13 es5) Rs' := by
    obtain ⟨l', m1, m2, m3⟩ := g3
    exact ⟨l', m1, rdS_up m2 kt.upd, fun p hp => rdS_up (m3 p hp) kt.upd⟩
  have hf3 : ∀ j, Own iz (some mz) s3 ov3 j → mz ≤ j := fun j hj => (kt.own j hj).elim (g8 j) fun h => by
    have := (List.getElem?_eq_some_iff.1 g6.cells).1
    have := g8 iz (.inl rfl)
    omega
  cases hs : (!decide (g.seq = cnt (cgL P) g.ar + 1) || !underI g.deps (cnts (cgL P))) <;> rw [hs] at hwg
  case true =>
    have hw4 : whyR (cgL P) 4096 g = 4 := hwg
    have h40 : decide ((4 : Int) = 0) = false := by decide
    have h44 : decide ((4 : Int) = 4) = true := by decide
    have hP3' : cgL P3 = cgL P := by rw [hP3]; unfold addR; rw [hw4]; rfl
    simp -implicitDefEqProofs only [go_sem, Nat.reduceBEq, Nat.reduceAdd, eq_self, true_and, and_true, and_self, List.getElem?_cons_zero, List.getElem?_cons_succ, Nat.reduceLeDiff, Nat.zero_add, Nat.reduceSub, Nat.le_refl, hw4, h40, h44, Bool.not_false, Bool.not_true]
    refine w1 _ _ _ (.inr ?_) ⟨false, .sl b5 R5 13 es5, cgL P, Rs', s3, ov3, P3, g2', hr4, hu4, hx3, h3, hP3', hf3, fun _ => ⟨rfl, rfl, by rw [hgi]; exact hw4⟩, fun h => (by cases h), rfl⟩
    simp -implicitDefEqProofs only [go_sem, Nat.reduceBEq, Nat.reduceAdd, eq_self, true_and, and_true, and_self, List.getElem?_cons_zero, List.getElem?_cons_succ, Nat.reduceLeDiff, Nat.zero_add, Nat.reduceSub, Nat.le_refl, Nat.lt_irrefl]
    try exact ⟨rfl, rfl⟩
    try exact rfl
  case false =>
    have hw0 : whyR (cgL P) 4096 g = 0 := hwg
    have h00' : decide ((0 : Int) = 0) = true := by decide
    have hP3' : cgL P3 = putC g (cgL P) := by rw [hP3]; unfold addR; rw [hw0]; rfl
    have hwi : IntKind.i64.wrap ((ii : Int) + 1) = ((ii + 1 : Nat) : Int) := by rw [i64_in _ (by omega)]; omega
    have htkl : List.take Rs'.length es5 = es5 := List.take_of_length_le (by omega)
    have hpt := hst hw0
    obtain ⟨l', m1, m2, m3⟩ := hr4
    have he5 : es5 = cgsV l' := by
      obtain ⟨_, _, _, e, -, -⟩ := id m2
      cases e; rfl
    rw [← he5] at m2
    have hv1 := (rd_src (m2.ext (ext_live t3 true))).1.imp_right rd_toView
    have e31 : Ext t3 ⟨t3.objs, kill (t3.live ++ [true]) (.own t3.live.length) ++ [true]⟩ := ext_kill (ext_push (Ext.refl t3)) (Nat.le_refl _)
    have hv2 := (rd_src (m2.ext e31)).1.imp_right rd_toView
    have e32 : Ext t3 ⟨t3.objs, kill (kill (t3.live ++ [true]) (.own t3.live.length) ++ [true]) (.own (t3.live ++ [true]).length) ++ [true]⟩ := ext_kill e31 (by simp)
    have hl1 : (es5.take ii).length ≤ 4096 := by rw [List.length_take]; omega
    have hl2 : (es5.drop (ii + 1)).length ≤ 4096 := by rw [List.length_drop]; omega
    have hnew : RdC ⟨t3.objs, kill (kill (t3.live ++ [true]) (.own t3.live.length) ++ [true]) (.own (t3.live ++ [true]).length) ++ [true]⟩ (.sl false (.own (kill (t3.live ++ [true]) (.own t3.live.length) ++ [true]).length) 13 (es5.take ii ++ es5.drop (ii + 1))) (Rs'.take ii ++ Rs'.drop (ii + 1)) := by
      have hes : es5.take ii ++ es5.drop (ii + 1) = cgsV (l'.take ii ++ l'.drop (ii + 1)) := by rw [he5]; simp [cgsV, List.map_take, List.map_drop]
      rw [hes]
      refine ⟨l'.take ii ++ l'.drop (ii + 1), by rw [List.map_append, List.map_take, List.map_drop, m1], ⟨_, _, _, rfl, by simp, .inr ⟨live_last' _ _ _, rfl⟩⟩, fun p hp => (m3 p ?_).ext e32⟩
      rcases List.mem_append.1 hp with hp | hp
      · exact List.mem_of_mem_take hp
      · exact List.mem_of_mem_drop hp
    have hqq : (⟨t3.objs, kill (t3.live ++ [true]) (.own t3.live.length) ++ [true]⟩ : St).live[(t3.live ++ [true]).length]? = some true := live_last' _ _ _
    simp -implicitDefEqProofs only [go_sem, Nat.reduceBEq, Nat.reduceAdd, eq_self, true_and, and_true, and_self, List.getElem?_cons_zero, List.getElem?_cons_succ, Nat.reduceLeDiff, Nat.zero_add, Nat.reduceSub, Nat.le_refl, hw0, h00', Bool.not_true, hesl, hwi, htkl, Int.toNat_natCast]
    refine ⟨⟨.inr trivial, by omega, by omega⟩, ⟨.inr trivial, .inr (live_last _ _), ⟨hv1, .inl trivial⟩, by omega⟩, ⟨.inr trivial, by omega, by omega⟩, ⟨.inr trivial, .inr hqq, ⟨hv2, .inl trivial⟩, by omega⟩, ?_⟩
    refine w1 _ _ _ (.inr ?_) ⟨true, _, putC g (cgL P), _, s3, ov3, P3, hpt, hnew, hu4.ext e32, hx3.ext e32, h3.ext e32, hP3', hf3, fun h => (by cases h), fun _ => ?_, rfl⟩
    · simp -implicitDefEqProofs only [go_sem, Nat.reduceBEq, Nat.reduceAdd, eq_self, true_and, and_true, and_self, List.getElem?_cons_zero, List.getElem?_cons_succ, Nat.reduceLeDiff, Nat.zero_add, Nat.reduceSub, Nat.le_refl, Nat.lt_irrefl]
      try exact ⟨rfl, rfl⟩
      try exact rfl
    · rw [List.length_append, List.length_take, List.length_drop]; omega
end
end Go.VL.opl

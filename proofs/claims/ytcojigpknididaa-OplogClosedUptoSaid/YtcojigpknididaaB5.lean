import Derived.Test.YtcojigpknididaaB4
import Derived.Test.YtcojigpknididaaProg
set_option linter.unusedVariables false
set_option linter.unusedSimpArgs false
namespace Go.VL.opl
open Go Go.VL Go.Proofs Go.IntWalk Go.VL.st Go.VL.row

def StT : T := .agg [.int .i64, .int .i64]
def CgT : List T := [StT, .int .i64, .sl 1 (.int .i64), .int .i64, StT, StT, StT, .str, .str]
theorem has_ints {xs : List V} (h : (T.sl 1 (.int .i64)).has xs) : ∃ d l, xs = [d] ∧ (∀ σ, RdS σ d 1 (intsV .i64 l)) ∧ l.length < vbs xs := by
  rcases h with rfl | ⟨es, rfl, h⟩
  · exact ⟨_, [], rfl, fun σ => ⟨_, _, _, rfl, by simp [intsV], .inl rfl⟩, by simp [vbs, vb]⟩
  · obtain ⟨l, rfl, h2, h3⟩ := ints_of h
    exact ⟨_, l, rfl, fun σ => ⟨_, _, _, rfl, by simp, .inr ⟨trivial, rfl⟩⟩, by simp only [vbs, vb]; omega⟩
theorem has_st {xs : List V} (h : StT.has xs) : ∃ c r, xs = [.int .i64 c, .int .i64 r] := by
  obtain ⟨_, _, rfl, ⟨c, rfl, h1⟩, _, _, rfl, ⟨r, rfl, h2⟩, rfl⟩ := h
  exact ⟨c, r, rfl⟩
theorem has_cg {xs : List V} (h : T.hasL CgT xs) : ∃ d g, xs = cgC d g ∧ (∀ σ, RdS σ d 1 (intsV .i64 g.deps)) ∧ 13 + g.deps.length + g.name.length + g.val.length ≤ vbs xs := by
  obtain ⟨_, _, rfl, h1, _, _, rfl, ⟨seq, rfl, h2⟩, _, _, rfl, h3, _, _, rfl, ⟨kind, rfl, h4⟩, _, _, rfl, h5, _, _, rfl, h6, _, _, rfl, h7, _, _, rfl, ⟨name, rfl⟩, _, _, rfl, ⟨val, rfl⟩, rfl⟩ := h
  obtain ⟨ac, ar, rfl⟩ := has_st h1
  obtain ⟨d, deps, rfl, a3, a4⟩ := has_ints h3
  obtain ⟨nc, nr, rfl⟩ := has_st h5
  obtain ⟨pc, pr, rfl⟩ := has_st h6
  obtain ⟨fc, fr, rfl⟩ := has_st h7
  refine ⟨d, ⟨ac, ar, seq, deps, kind, nc, nr, pc, pr, fc, fr, name, val⟩, rfl, a3, ?_⟩
  simp only [List.cons_append, List.nil_append, List.append_nil, vbs, vb] at a4 ⊢
  omega
theorem cgs_of : ∀ {es : List (List V)}, (∀ y ∈ es, (T.agg CgT).has y) → ∃ l : List (V × Cg), es = cgsV l ∧ 13 * l.length ≤ vbe es ∧ ∀ p ∈ l, (∀ σ, RdS σ p.1 1 (intsV .i64 p.2.deps)) ∧ p.2.deps.length + p.2.name.length + p.2.val.length < vbe es
  | [], _ => ⟨[], rfl, by simp, by simp⟩
  | y :: es, h => by
    obtain ⟨l, rfl, h2, h3⟩ := cgs_of (es := es) fun y hy => h y (by simp [hy])
    obtain ⟨d, g, rfl, a1, a3⟩ := has_cg (h y (by simp))
    refine ⟨(d, g) :: l, rfl, by simp only [List.length_cons, vbe]; omega, fun q hq => ?_⟩
    simp only [vbe]
    rcases List.mem_cons.1 hq with rfl | hq
    · exact ⟨a1, by simp only; omega⟩
    · obtain ⟨b1, b3⟩ := h3 q hq
      exact ⟨b1, by omega⟩
theorem arg_cg {x : V} (h : (T.agg CgT).arg x) : ∃ d g, x = cgV d g ∧ (∀ σ, RdS σ d 1 (intsV .i64 g.deps)) ∧ g.deps.length + g.name.length + g.val.length < vba x := by
  obtain ⟨xs, rfl, h⟩ := h
  obtain ⟨d, g, rfl, h1, h3⟩ := has_cg h
  exact ⟨d, g, rfl, h1, by simp only [vba]; omega⟩
/-- A list of changes, as an argument. -/
def ArgC (v : V) (gs : List Cg) : Prop := (∃ l : List (V × Cg), l.map (·.2) = gs ∧ (∀ σ, RdS σ v 13 (cgsV l)) ∧ ∀ p ∈ l, ∀ σ, RdS σ p.1 1 (intsV .i64 p.2.deps)) ∧ gs.length ≤ 90000 ∧ ∀ g ∈ gs, g.deps.length + g.name.length + g.val.length < 1048576
theorem arg_cgs {x : V} (h : (T.sl 13 (.agg CgT)).arg x) : ∃ gs, (vba x ≤ 1048576 → ArgC x gs) := by
  obtain ⟨es, h1, h2, h3⟩ := has_sl h
  obtain ⟨l, rfl, h4, h5⟩ := cgs_of h2
  refine ⟨l.map (·.2), fun hb => ⟨⟨l, rfl, fun σ => ?_, fun p hp => (h5 p hp).1⟩, by rw [List.length_map]; omega, fun g hg => ?_⟩⟩
  · rcases h1 with ⟨rfl, h1⟩ | rfl
    · rw [h1]; exact ⟨true, .pub, 0, rfl, by simp, .inl rfl⟩
    · exact ⟨false, .pub, 13, rfl, by simp, .inr ⟨trivial, rfl⟩⟩
  · obtain ⟨p, hp, rfl⟩ := List.mem_map.1 hg
    have := (h5 p hp).2
    omega
theorem ArgC.rd {v : V} {gs : List Cg} (h : ArgC v gs) (σ : St) : RdC σ v gs := by
  obtain ⟨⟨l, rfl, h1, h2⟩, -⟩ := h
  exact ⟨l, rfl, h1 σ, fun p hp => h2 p hp σ⟩
/-- The first change. -/
def cgF : Cg := ⟨1, 0, 1, [], 1, 1, 0, 0, 0, 0, 0, [112], []⟩
section
variable {σ : St} {i m j y : Nat} {mo : Option Nat} {s d v kv w p : V} {ov : List V} {room r n most : Int} {P O : List (V × Cg)} {g : Cg} {x : Sp} {l k : List Int} {L gs : List Cg}
set_option maxRecDepth 100000 in
theorem first_ok : CallA Try.prog 15 [] σ fun v σ' => v = cgV v0 cgF ∧ σ' = σ := by
  refine fn_at Try.func15 (by decide) comp15 rfl fun Q q1 q2 => ?_
  unfold cgF cgV cgC v0 at q2
  simp -implicitDefEqProofs only [go_sem, Nat.reduceBEq, Nat.reduceAdd, eq_self, true_and, and_true, and_self, List.getElem?_cons_zero, List.getElem?_cons_succ, Nat.reduceLeDiff, Nat.zero_add, Nat.reduceSub, Nat.le_refl, c15]
  refine q2 _ _ ?_
  simp -implicitDefEqProofs only [go_sem, Nat.reduceBEq, Nat.reduceAdd, eq_self, true_and, and_true, and_self, List.getElem?_cons_zero, List.getElem?_cons_succ, Nat.reduceLeDiff, Nat.zero_add, Nat.reduceSub, Nat.le_refl, Nat.lt_irrefl]
  try exact ⟨rfl, rfl⟩
theorem LTo.fresh {σ0 σ τ : St} {i : Nat} {mo : Option Nat} {s s' : V} {ov ov' : List V} (h : LTo σ τ i mo s s' ov ov') (he : Ext σ0 σ) (hf : ∀ j, Own i mo s ov j → σ0.objs.length ≤ j) : Ext σ0 τ ∧ ∀ j, Own i mo s' ov' j → σ0.objs.length ≤ j :=
  ⟨h.upd.toExt he hf, fun j hj => (h.own j hj).elim (hf j) fun hl => Nat.le_trans he.olen hl⟩
theorem v0_rd (σ : St) : RdS σ v0 1 (intsV .i64 []) := ⟨_, _, _, rfl, fun _ => rfl, .inl rfl⟩
theorem whyF : whyR [] 3 cgF = 0 := by decide
theorem whyF2 : whyR [cgF] 3 cgF = 5 := by decide
set_option maxRecDepth 100000 in
set_option maxHeartbeats 3200000 in
theorem awake_ok : CallA Try.prog 19 [] σ fun v σ' => v = .bool true ∧ Ext σ σ' := by
  refine fn_at Try.func19 (by decide) comp19 rfl fun Q q1 q2 => ?_
  have h00 : decide ((0 : Int) = 0) = true := by decide
  have h55 : decide ((5 : Int) = 5) = true := by decide
  have h11 : decide ((1 : Int) = 1) = true := by decide
  simp -implicitDefEqProofs only [go_sem, Nat.reduceBEq, Nat.reduceAdd, eq_self, true_and, and_true, and_self, List.getElem?_cons_zero, List.getElem?_cons_succ, Nat.reduceLeDiff, Nat.zero_add, Nat.reduceSub, Nat.le_refl, c19]
  refine call_at (new_ok (room := 3) rfl) ?_
  rintro v τ ⟨rfl, h0, he0⟩
  refine ⟨kept_none, ?_⟩
  have hf0 : ∀ j, Own (σ.objs.length + 1) (some σ.objs.length) (.sl true .pub 0 []) nilO j → σ.objs.length ≤ j := fun j hj => by
    rcases own_new hj with rfl | h
    · omega
    · cases h; omega
  simp -implicitDefEqProofs only [go_sem, Nat.reduceBEq, Nat.reduceAdd, eq_self, true_and, and_true, and_self, List.getElem?_cons_zero, List.getElem?_cons_succ, Nat.reduceLeDiff, Nat.zero_add, Nat.reduceSub, Nat.le_refl, h00]
  refine call_at first_ok ?_
  rintro v τ1 ⟨rfl, hτ⟩
  have hτ := hτ.symm
  subst hτ
  refine ⟨kept_none, ?_⟩
  simp -implicitDefEqProofs only [go_sem, Nat.reduceBEq, Nat.reduceAdd, eq_self, true_and, and_true, and_self, List.getElem?_cons_zero, List.getElem?_cons_succ, Nat.reduceLeDiff, Nat.zero_add, Nat.reduceSub, Nat.le_refl, Nat.lt_irrefl]
  refine call_at (add_ok h0 (by simp) (v0_rd _) (by decide)) ?_
  rintro v τ1 ⟨rfl, s1, ov1, P1, h1, hP1, k1, -⟩
  refine ⟨kept_none, ?_⟩
  obtain ⟨he1, hf1⟩ := k1.fresh he0 hf0
  have hL1 : cgL P1 = [cgF] := by rw [hP1]; decide
  have hw1 : whyR [] 3 cgF = 0 := whyF
  simp -implicitDefEqProofs only [go_sem, Nat.reduceBEq, Nat.reduceAdd, eq_self, true_and, and_true, and_self, List.getElem?_cons_zero, List.getElem?_cons_succ, Nat.reduceLeDiff, Nat.zero_add, Nat.reduceSub, Nat.le_refl, hw1, h00]
  refine call_at first_ok ?_
  rintro v τ2 ⟨rfl, hτ⟩
  have hτ := hτ.symm
  subst hτ
  refine ⟨kept_none, ?_⟩
  have hPl : P1.length = 1 := by have := congrArg List.length hL1; rw [List.length_map] at this; exact this
  simp -implicitDefEqProofs only [go_sem, Nat.reduceBEq, Nat.reduceAdd, eq_self, true_and, and_true, and_self, List.getElem?_cons_zero, List.getElem?_cons_succ, Nat.reduceLeDiff, Nat.zero_add, Nat.reduceSub, Nat.le_refl, Nat.lt_irrefl]
  refine call_at (add_ok h1 (by omega) (v0_rd _) (by decide)) ?_
  rintro v τ2 ⟨rfl, s2, ov2, P2, h2, hP2, k2, -⟩
  refine ⟨kept_none, ?_⟩
  obtain ⟨he2, hf2⟩ := k2.fresh he1 hf1
  rw [hL1] at hP2
  have hL2 : cgL P2 = [cgF] := by rw [hP2]; decide
  have hPl2 : P2.length = 1 := by have := congrArg List.length hL2; rw [List.length_map] at this; exact this
  have hw2 : whyR (cgL P1) 3 cgF = 5 := by rw [hL1]; exact whyF2
  simp -implicitDefEqProofs only [go_sem, Nat.reduceBEq, Nat.reduceAdd, eq_self, true_and, and_true, and_self, List.getElem?_cons_zero, List.getElem?_cons_succ, Nat.reduceLeDiff, Nat.zero_add, Nat.reduceSub, Nat.le_refl, hw2, h55]
  refine call_at (len_ok h2) ?_
  rintro v τ3 ⟨rfl, hτ⟩
  have hτ := hτ.symm
  subst hτ
  refine ⟨kept_none, ?_⟩
  have hll : decide ((P2.length : Int) = 1) = true := by rw [hPl2]; rfl
  simp -implicitDefEqProofs only [go_sem, Nat.reduceBEq, Nat.reduceAdd, eq_self, true_and, and_true, and_self, List.getElem?_cons_zero, List.getElem?_cons_succ, Nat.reduceLeDiff, Nat.zero_add, Nat.reduceSub, Nat.le_refl, hll]
  refine call_at (last_ok h2 (by omega)) ?_
  rintro v τ3 ⟨rfl, hτ⟩
  have hτ := hτ.symm
  subst hτ
  refine ⟨kept_none, ?_⟩
  have hla : decide (lastR (cgL P2) = 1) = true := by rw [hL2]; decide
  simp -implicitDefEqProofs only [go_sem, Nat.reduceBEq, Nat.reduceAdd, eq_self, true_and, and_true, and_self, List.getElem?_cons_zero, List.getElem?_cons_succ, Nat.reduceLeDiff, Nat.zero_add, Nat.reduceSub, Nat.le_refl, hla]
  refine q2 _ _ ?_
  simp -implicitDefEqProofs only [go_sem, Nat.reduceBEq, Nat.reduceAdd, eq_self, true_and, and_true, and_self, List.getElem?_cons_zero, List.getElem?_cons_succ, Nat.reduceLeDiff, Nat.zero_add, Nat.reduceSub, Nat.le_refl, Nat.lt_irrefl]
  exact he2
/-- A late slice. -/
def FrD (lo : Nat) (τ : St) (p : V × Cg) : Prop := ∃ q, p.1 = .sl false (.own q) 1 (intsV .i64 p.2.deps) ∧ τ.live[q]? = some true ∧ lo ≤ q
theorem FrD.keep {lo : Nat} {τ τ' : St} {p : V × Cg} (h : FrD lo τ p) (k : ∀ r, lo ≤ r → τ.live[r]? = some true → τ'.live[r]? = some true) : FrD lo τ' p := by
  obtain ⟨q, h1, h2, h3⟩ := h
  exact ⟨q, h1, k _ h3 h2, h3⟩
/-- The log of some changes. -/
def logR (gs : List Cg) (room : Int) : List Cg := gs.foldl (fun L g => addR L room g) []
theorem logR_snoc (gs : List Cg) (g : Cg) (room : Int) : logR (gs ++ [g]) room = addR (logR gs room) room g := by simp [logR]
theorem logR_take {gs : List Cg} {y : Nat} (h : y < gs.length) (room : Int) : logR (gs.take (y + 1)) room = addR (logR (gs.take y) room) room gs[y] := by
  rw [List.take_succ_eq_append_getElem h, logR_snoc]
theorem addR_room {L : List Cg} {room : Int} {g : Cg} (h : L.length ≤ room.toNat) : (addR L room g).length ≤ room.toNat := by
  unfold addR
  cases hc : decide (whyR L room g = 0)
  · exact h
  · have := (why_fits (of_decide_eq_true hc)).room
    rw [cond_true, putC_len]; omega
theorem logR_good (gs : List Cg) (room : Int) : Good (logR gs room) := by
  unfold logR
  suffices ∀ (gs : List Cg) (L : List Cg), Good L → Good (gs.foldl (fun L g => addR L room g) L) from this gs [] good_nil
  intro gs
  induction gs with
  | nil => intro L h; exact h
  | cons a t ih => intro L h; exact ih _ (addR_good h)
theorem logR_room (gs : List Cg) (room : Int) : (logR gs room).length ≤ room.toNat := by
  unfold logR
  suffices ∀ (gs : List Cg) (L : List Cg), L.length ≤ room.toNat → (gs.foldl (fun L g => addR L room g) L).length ≤ room.toNat from this gs [] (Nat.zero_le _)
  intro gs
  induction gs with
  | nil => intro L h; exact h
  | cons a t ih => intro L h; exact ih _ (addR_room h)
theorem RdC.isSl {σ : St} {v : V} {gs : List Cg} (h : RdC σ v gs) : ∃ b R z es, v = V.sl b R z es := by
  obtain ⟨_, _, h, _⟩ := h
  obtain ⟨b, R, z, rfl, -, -⟩ := h
  exact ⟨b, R, z, _, rfl⟩
set_option maxRecDepth 100000 in
set_option maxHeartbeats 4000000 in
theorem filled_ok (hr : (decide (room < 1) || decide (room > 4096)) = false) (hv : RdC σ v gs) (hgs : gs.length ≤ 90000) (hb : ∀ g ∈ gs, g.deps.length + g.name.length + g.val.length < 1048576) :
    CallA Try.prog 12 [.int .i64 room, v] σ fun w σ' => ∃ i m s ov P u, w = .tup [.ptr (some (i, 0)), .agg [.int .i64 room, u]] ∧ LogIs σ' i (some m) s ov room P ∧ cgL P = logR gs room ∧ RdC σ' u (logR gs room) ∧ Ext σ σ' ∧ (∀ j, Own i (some m) s ov j → σ.objs.length ≤ j) ∧ ∀ p ∈ P, FrD σ.live.length σ' p := by
  obtain ⟨l, rfl, hv2, hds⟩ := id hv
  obtain ⟨b, R, z, rfl, -, -⟩ := id hv2
  have hr' := hr
  rw [Bool.or_eq_false_iff, decide_eq_false_iff_not, decide_eq_false_iff_not] at hr'
  refine fn_at Try.func12 (by decide) comp12 rfl fun Q q1 q2 => ?_
  have hcl := cgsV_len l
  rw [List.length_map] at hgs
  simp -implicitDefEqProofs only [go_sem, Nat.reduceBEq, Nat.reduceAdd, eq_self, true_and, and_true, and_self, List.getElem?_cons_zero, List.getElem?_cons_succ, Nat.reduceLeDiff, Nat.zero_add, Nat.reduceSub, Nat.le_refl, c12]
  refine call_at (new_ok hr) ?_
  rintro w τ ⟨rfl, h0, he0⟩
  refine ⟨kept_none, ?_⟩
  have hf0 : ∀ j, Own (σ.objs.length + 1) (some σ.objs.length) (.sl true .pub 0 []) nilO j → σ.objs.length ≤ j := fun j hj => by
    rcases own_new hj with rfl | h
    · omega
    · cases h; omega
  generalize σ.objs.length + 1 = i at h0 hf0 ⊢
  generalize hm : σ.objs.length = m at h0 hf0
  simp -implicitDefEqProofs only [go_sem, Nat.reduceBEq, Nat.reduceAdd, eq_self, true_and, and_true, and_self, List.getElem?_cons_zero, List.getElem?_cons_succ, Nat.reduceLeDiff, Nat.zero_add, Nat.reduceSub, Nat.le_refl, flats, V.flat]
  refine loop_at (fun (y : Nat × V) => ⟨[(1, .v (.sl b R z (cgsV l))), (5, .loc 5 0), (6, .v (.ptr (some (i, 0)))), (8, .loc 8 0), (9, .v (.int .i64 y.1))], [(5, [.int .i64 0, .sl true .pub 0 []]), (8, [.int .i64 room, y.2])]⟩)
    (fun y t => y.1 ≤ l.length ∧ Ext σ t ∧ RdC t y.2 (logR ((l.map (·.2)).take y.1) room) ∧ ∃ s ov P, LogIs t i (some m) s ov room P ∧ cgL P = logR ((l.map (·.2)).take y.1) room ∧ (∀ j, Own i (some m) s ov j → σ.objs.length ≤ j) ∧ ∀ p ∈ P, FrD σ.live.length t p) (fun y => l.length - y.1) (0, .sl true .pub 0 []) ?_ ?_ ?_
  · refine .inr ?_
    simp -implicitDefEqProofs only [go_sem, Nat.reduceBEq, Nat.reduceAdd, eq_self, true_and, and_true, and_self, List.getElem?_cons_zero, List.getElem?_cons_succ, Nat.reduceLeDiff, Nat.zero_add, Nat.reduceSub, Nat.le_refl, Nat.lt_irrefl]
    try exact ⟨rfl, rfl⟩
    try exact rfl
  · exact ⟨Nat.zero_le _, he0, ⟨[], rfl, ⟨_, _, _, rfl, fun _ => rfl, .inl rfl⟩, by intro p hp; cases hp⟩, _, _, [], h0, rfl, (by rw [hm]; exact hf0), by intro p hp; cases hp⟩
  rintro ⟨y, u⟩ t ⟨g1, g2, g3, s, ov, P, g4, g5, g6, g7⟩ Z z1 z2 z3
  simp only at g1 g3 g5
  have hPr : P.length ≤ 4096 := by
    have h1 := logR_room ((l.map (·.2)).take y) room
    rw [← g5, map2_len] at h1
    omega
  simp -implicitDefEqProofs only [go_sem, Nat.reduceBEq, Nat.reduceAdd, eq_self, true_and, and_true, and_self, List.getElem?_cons_zero, List.getElem?_cons_succ, Nat.reduceLeDiff, Nat.zero_add, Nat.reduceSub, Nat.le_refl, hcl]
  cases hc : decide ((y : Int) < l.length)
  · have hy : y = l.length := by have := of_decide_eq_false hc; omega
    rw [List.take_of_length_le (by rw [List.length_map]; omega)] at g3 g5
    obtain ⟨b3, R3, z3', es3, rfl⟩ := g3.isSl
    simp -implicitDefEqProofs only [go_sem, Nat.reduceBEq, Nat.reduceAdd, eq_self, true_and, and_true, and_self, List.getElem?_cons_zero, List.getElem?_cons_succ, Nat.reduceLeDiff, Nat.zero_add, Nat.reduceSub, Nat.le_refl, hc]
    refine z2 _ _ _ ?_
    simp -implicitDefEqProofs only [go_sem, Nat.reduceBEq, Nat.reduceAdd, eq_self, true_and, and_true, and_self, List.getElem?_cons_zero, List.getElem?_cons_succ, Nat.reduceLeDiff, Nat.zero_add, Nat.reduceSub, Nat.le_refl, flats, V.flat]
    refine q2 _ _ ?_
    simp -implicitDefEqProofs only [go_sem, Nat.reduceBEq, Nat.reduceAdd, eq_self, true_and, and_true, and_self, List.getElem?_cons_zero, List.getElem?_cons_succ, Nat.reduceLeDiff, Nat.zero_add, Nat.reduceSub, Nat.le_refl, Nat.lt_irrefl]
    exact ⟨_, _, s, ov, P, _, rfl, g4, g5, g3, g2, g6, g7⟩
  · have hi : y < l.length := by have := of_decide_eq_true hc; omega
    have hget := cgsV_get hi
    have hwy : IntKind.i64.wrap ((y : Int) + 1) = ((y + 1 : Nat) : Int) := by rw [i64_in _ (by omega)]; omega
    obtain ⟨k1, k2⟩ := rdl (hv2.ext g2) (cgsV_ne hi)
    have hdi := hds _ (List.getElem_mem hi)
    have hbi := hb _ (List.mem_map_of_mem (List.getElem_mem hi))
    have htk : logR ((l.map (·.2)).take (y + 1)) room = addR (logR ((l.map (·.2)).take y) room) room l[y].2 := by
      rw [logR_take (by simpa using hi)]; simp
    generalize l[y] = p at hget htk hdi hbi
    obtain ⟨d2, g⟩ := p
    simp only at hget htk hdi hbi
    obtain ⟨db, dr, dz, rfl, -, -⟩ := id hdi
    have had := add_ok g4 (by omega) (hdi.ext g2) (by omega)
    simp only [cgV, cgC] at had
    simp -implicitDefEqProofs only [go_sem, Nat.reduceBEq, Nat.reduceAdd, eq_self, true_and, and_true, and_self, List.getElem?_cons_zero, List.getElem?_cons_succ, Nat.reduceLeDiff, Nat.zero_add, Nat.reduceSub, Nat.le_refl, hc, hcl, hget, cgC]
    refine ⟨⟨by omega, by omega, k2⟩, k1, ?_⟩
    refine call_at had ?_
    rintro w t1 ⟨rfl, s1, ov1, P1, h1, hP1, kt, hnw⟩
    refine ⟨kept_none, ?_⟩
    obtain ⟨he1, hf1⟩ := kt.fresh g2 g6
    have g3' : RdC t1 u (logR ((l.map (·.2)).take y) room) := by
      obtain ⟨l', e1, e2, e3⟩ := g3
      exact ⟨l', e1, rdS_up e2 kt.upd, fun p hp => rdS_up (e3 p hp) kt.upd⟩
    obtain ⟨b3, R3, z3', es3, rfl⟩ := g3.isSl
    have hgd := logR_good ((l.map (·.2)).take y) room
    have hra := radd_ok (room := room) (σ := t1) (d := .sl db dr dz (intsV .i64 g.deps)) (g := g) g3' (by rw [← g5, map2_len]; omega) (hdi.ext he1) (by omega) (fun h hh => by have := hgd.deps h hh; omega) (by omega)
    simp only [cgV, cgC] at hra
    obtain ⟨k1', k2'⟩ := rdl (hv2.ext he1) (cgsV_ne hi)
    simp -implicitDefEqProofs only [go_sem, Nat.reduceBEq, Nat.reduceAdd, eq_self, true_and, and_true, and_self, List.getElem?_cons_zero, List.getElem?_cons_succ, Nat.reduceLeDiff, Nat.zero_add, Nat.reduceSub, Nat.le_refl, hc, hcl, hget, cgC]
    refine ⟨⟨by omega, by omega, k2'⟩, k1', ?_⟩
    refine call_at hra ?_
    rintro w t2 ⟨⟨u2, rfl, hu2⟩, e2, o2⟩
    refine ⟨e2.kept, ?_⟩
    obtain ⟨b4, R4, z4, es4, rfl⟩ := hu2.isSl
    simp -implicitDefEqProofs only [go_sem, Nat.reduceBEq, Nat.reduceAdd, eq_self, true_and, and_true, and_self, List.getElem?_cons_zero, List.getElem?_cons_succ, Nat.reduceLeDiff, Nat.zero_add, Nat.reduceSub, Nat.le_refl, hwy, flats, V.flat]
    refine z1 (y + 1, _) _ _ (.inr ?_) (by simp only; omega) ⟨by simp only; omega, he1.trans e2, by rw [htk]; exact hu2, s1, ov1, P1, h1.ext e2, by rw [htk, hP1, g5], hf1, fun p hp => ?_⟩
    · simp -implicitDefEqProofs only [go_sem, Nat.reduceBEq, Nat.reduceAdd, eq_self, true_and, and_true, and_self, List.getElem?_cons_zero, List.getElem?_cons_succ, Nat.reduceLeDiff, Nat.zero_add, Nat.reduceSub, Nat.le_refl, hwy]
      try exact ⟨rfl, rfl⟩
      try exact rfl
    · rcases hnw p hp with hp | ⟨q, x1, x2, x3⟩
      · exact (g7 p hp).keep fun r _ hr => e2.live _ (kt.upd.live _ hr)
      · exact ⟨q, x1, e2.live _ x2, Nat.le_trans g2.llen x3⟩
set_option maxRecDepth 100000 in
set_option maxHeartbeats 4000000 in
theorem told_ok {u : V} (h : LogIs σ i mo s ov room P) (hl : P.length ≤ 1000000) (hu : RdC σ u (cgL P)) :
    CallA Try.prog 36 [.ptr (some (i, 0)), .agg [.int .i64 room, u]] σ fun w σ' => w = .bool true ∧ Ext σ σ' := by
  obtain ⟨b, R, z, es, rfl⟩ := hu.isSl
  have hesl : es.length = P.length := by
    obtain ⟨l, e1, ⟨_, _, _, e2, -, -⟩, -⟩ := hu
    cases e2
    rw [cgsV_len, ← map2_len, e1, map2_len]
  refine fn_at Try.func36 (by decide) comp36 rfl fun Q q1 q2 => ?_
  simp -implicitDefEqProofs only [go_sem, Nat.reduceBEq, Nat.reduceAdd, eq_self, true_and, and_true, and_self, List.getElem?_cons_zero, List.getElem?_cons_succ, Nat.reduceLeDiff, Nat.zero_add, Nat.reduceSub, Nat.le_refl, c36]
  refine call_at (len_ok h) ?_
  rintro w τ ⟨rfl, hτ⟩
  have hτ := hτ.symm
  subst hτ
  refine ⟨(Ext.refl _).kept, ?_⟩
  have hd1 : decide ((P.length : Int) = es.length) = true := by rw [hesl]; simp
  simp -implicitDefEqProofs only [go_sem, Nat.reduceBEq, Nat.reduceAdd, eq_self, true_and, and_true, and_self, List.getElem?_cons_zero, List.getElem?_cons_succ, Nat.reduceLeDiff, Nat.zero_add, Nat.reduceSub, Nat.le_refl, hd1]
  refine call_at (room_ok h) ?_
  rintro w τ ⟨rfl, hτ⟩
  have hτ := hτ.symm
  subst hτ
  refine ⟨(Ext.refl _).kept, ?_⟩
  simp -implicitDefEqProofs only [go_sem, Nat.reduceBEq, Nat.reduceAdd, eq_self, true_and, and_true, and_self, List.getElem?_cons_zero, List.getElem?_cons_succ, Nat.reduceLeDiff, Nat.zero_add, Nat.reduceSub, Nat.le_refl, Nat.lt_irrefl]
  refine call_at (last_ok h hl) ?_
  rintro w τ ⟨rfl, hτ⟩
  have hτ := hτ.symm
  subst hτ
  refine ⟨(Ext.refl _).kept, ?_⟩
  simp -implicitDefEqProofs only [go_sem, Nat.reduceBEq, Nat.reduceAdd, eq_self, true_and, and_true, and_self, List.getElem?_cons_zero, List.getElem?_cons_succ, Nat.reduceLeDiff, Nat.zero_add, Nat.reduceSub, Nat.le_refl, Nat.lt_irrefl]
  refine call_at (rlast_ok hu (by rw [map2_len]; exact hl)) ?_
  rintro w τ ⟨rfl, hτ⟩
  have hτ := hτ.symm
  subst hτ
  refine ⟨(Ext.refl _).kept, ?_⟩
  simp -implicitDefEqProofs only [go_sem, Nat.reduceBEq, Nat.reduceAdd, eq_self, true_and, and_true, and_self, List.getElem?_cons_zero, List.getElem?_cons_succ, Nat.reduceLeDiff, Nat.zero_add, Nat.reduceSub, Nat.le_refl, Nat.lt_irrefl]
  refine call_at (pclock_ok h) ?_
  rintro w τ ⟨⟨o1, z1, t1, r1⟩, e1⟩
  refine ⟨e1.kept, ?_⟩
  simp -implicitDefEqProofs only [go_sem, Nat.reduceBEq, Nat.reduceAdd, eq_self, true_and, and_true, and_self, List.getElem?_cons_zero, List.getElem?_cons_succ, Nat.reduceLeDiff, Nat.zero_add, Nat.reduceSub, Nat.le_refl, Nat.lt_irrefl]
  refine call_at (rclk_ok (hu.ext e1) (by rw [map2_len]; omega)) ?_
  rintro w2 τ2 ⟨⟨o2, z2, t2, r2⟩, e2, -⟩
  refine ⟨e2.kept, ?_⟩
  have ho := t1.uniq t2
  subst ho
  have hol : o1.length ≤ 64 := by
    have := congrArg List.length t1.1
    rw [cnts_len, List.length_append] at this
    omega
  simp -implicitDefEqProofs only [go_sem, Nat.reduceBEq, Nat.reduceAdd, eq_self, true_and, and_true, and_self, List.getElem?_cons_zero, List.getElem?_cons_succ, Nat.reduceLeDiff, Nat.zero_add, Nat.reduceSub, Nat.le_refl, Nat.lt_irrefl]
  refine call_at (rsame_ok (r1.ext e2) r2 (by omega)) ?_
  rintro w3 τ3 ⟨hτ, rfl⟩
  have hτ := hτ.symm
  subst hτ
  refine ⟨(Ext.refl _).kept, ?_⟩
  have e3 := e1.trans e2
  have hoo : decide (o1 = o1) = true := decide_eq_true rfl
  simp -implicitDefEqProofs only [go_sem, Nat.reduceBEq, Nat.reduceAdd, eq_self, true_and, and_true, and_self, List.getElem?_cons_zero, List.getElem?_cons_succ, Nat.reduceLeDiff, Nat.zero_add, Nat.reduceSub, Nat.le_refl, hoo]
  refine call_at (all_ok (h.ext e3) hl) ?_
  rintro w4 τ4 ⟨n1, e4⟩
  refine ⟨e4.kept, ?_⟩
  simp -implicitDefEqProofs only [go_sem, Nat.reduceBEq, Nat.reduceAdd, eq_self, true_and, and_true, and_self, List.getElem?_cons_zero, List.getElem?_cons_succ, Nat.reduceLeDiff, Nat.zero_add, Nat.reduceSub, Nat.le_refl, Nat.lt_irrefl]
  refine call_at (sameAll_ok n1.rd ((hu.ext e3).ext e4) (by rw [map2_len]; omega) fun g hg => by have := h.good.deps g hg; omega) ?_
  rintro w5 τ5 ⟨hτ, rfl⟩
  have hτ := hτ.symm
  subst hτ
  refine ⟨(Ext.refl _).kept, ?_⟩
  have hpp : decide (cgL P = cgL P) = true := decide_eq_true rfl
  simp -implicitDefEqProofs only [go_sem, Nat.reduceBEq, Nat.reduceAdd, eq_self, true_and, and_true, and_self, List.getElem?_cons_zero, List.getElem?_cons_succ, Nat.reduceLeDiff, Nat.zero_add, Nat.reduceSub, Nat.le_refl, hpp]
  refine q2 _ _ ?_
  simp -implicitDefEqProofs only [go_sem, Nat.reduceBEq, Nat.reduceAdd, eq_self, true_and, and_true, and_self, List.getElem?_cons_zero, List.getElem?_cons_succ, Nat.reduceLeDiff, Nat.zero_add, Nat.reduceSub, Nat.le_refl, Nat.lt_irrefl]
  exact e3.trans e4
set_option maxRecDepth 100000 in
set_option maxHeartbeats 4000000 in
theorem told_nil : CallA Try.prog 36 [.ptr none, .agg [.int .i64 0, .sl true .pub 0 []]] σ fun w σ' => w = .bool true ∧ Ext σ σ' := by
  have hu : ∀ τ : St, RdC τ (.sl true .pub 0 []) [] := fun τ => ⟨[], rfl, ⟨_, _, _, rfl, fun _ => rfl, .inl rfl⟩, by intro p hp; cases hp⟩
  refine fn_at Try.func36 (by decide) comp36 rfl fun Q q1 q2 => ?_
  have h00 : decide ((0 : Int) = ((0 : Nat) : Int)) = true := rfl
  have h01 : decide ((0 : Int) = 0) = true := rfl
  have hl0 : decide ((0 : Int) = lastR []) = true := rfl
  simp -implicitDefEqProofs only [go_sem, Nat.reduceBEq, Nat.reduceAdd, eq_self, true_and, and_true, and_self, List.getElem?_cons_zero, List.getElem?_cons_succ, Nat.reduceLeDiff, Nat.zero_add, Nat.reduceSub, Nat.le_refl, c36]
  refine call_at len_nil ?_
  rintro w τ ⟨rfl, hτ⟩
  have hτ := hτ.symm
  subst hτ
  refine ⟨(Ext.refl _).kept, ?_⟩
  simp -implicitDefEqProofs only [go_sem, Nat.reduceBEq, Nat.reduceAdd, eq_self, true_and, and_true, and_self, List.getElem?_cons_zero, List.getElem?_cons_succ, Nat.reduceLeDiff, Nat.zero_add, Nat.reduceSub, Nat.le_refl, h00]
  refine call_at room_nil ?_
  rintro w τ ⟨rfl, hτ⟩
  have hτ := hτ.symm
  subst hτ
  refine ⟨(Ext.refl _).kept, ?_⟩
  simp -implicitDefEqProofs only [go_sem, Nat.reduceBEq, Nat.reduceAdd, eq_self, true_and, and_true, and_self, List.getElem?_cons_zero, List.getElem?_cons_succ, Nat.reduceLeDiff, Nat.zero_add, Nat.reduceSub, Nat.le_refl, h01]
  refine call_at last_nil ?_
  rintro w τ ⟨rfl, hτ⟩
  have hτ := hτ.symm
  subst hτ
  refine ⟨(Ext.refl _).kept, ?_⟩
  simp -implicitDefEqProofs only [go_sem, Nat.reduceBEq, Nat.reduceAdd, eq_self, true_and, and_true, and_self, List.getElem?_cons_zero, List.getElem?_cons_succ, Nat.reduceLeDiff, Nat.zero_add, Nat.reduceSub, Nat.le_refl, Nat.lt_irrefl]
  refine call_at (rlast_ok (hu _) (by simp)) ?_
  rintro w τ ⟨rfl, hτ⟩
  have hτ := hτ.symm
  subst hτ
  refine ⟨(Ext.refl _).kept, ?_⟩
  simp -implicitDefEqProofs only [go_sem, Nat.reduceBEq, Nat.reduceAdd, eq_self, true_and, and_true, and_self, List.getElem?_cons_zero, List.getElem?_cons_succ, Nat.reduceLeDiff, Nat.zero_add, Nat.reduceSub, Nat.le_refl, hl0]
  refine call_at pclock_nil ?_
  rintro w τ ⟨rfl, hτ⟩
  have hτ := hτ.symm
  subst hτ
  refine ⟨(Ext.refl _).kept, ?_⟩
  simp -implicitDefEqProofs only [go_sem, Nat.reduceBEq, Nat.reduceAdd, eq_self, true_and, and_true, and_self, List.getElem?_cons_zero, List.getElem?_cons_succ, Nat.reduceLeDiff, Nat.zero_add, Nat.reduceSub, Nat.le_refl, Nat.lt_irrefl]
  refine call_at (rclk_ok (hu _) (by simp)) ?_
  rintro w2 τ2 ⟨⟨o2, z2, t2, r2⟩, e2, -⟩
  refine ⟨e2.kept, ?_⟩
  have t0 : Trims (cnts []) [] 64 := ⟨by rw [cnts_nil]; rfl, .inl rfl⟩
  have ho := t0.uniq t2
  subst ho
  simp -implicitDefEqProofs only [go_sem, Nat.reduceBEq, Nat.reduceAdd, eq_self, true_and, and_true, and_self, List.getElem?_cons_zero, List.getElem?_cons_succ, Nat.reduceLeDiff, Nat.zero_add, Nat.reduceSub, Nat.le_refl, Nat.lt_irrefl]
  refine call_at (rsame_ok (l := []) ⟨_, _, _, rfl, fun _ => rfl, .inl rfl⟩ r2 (by simp)) ?_
  rintro w3 τ3 ⟨hτ, rfl⟩
  have hτ := hτ.symm
  subst hτ
  refine ⟨(Ext.refl _).kept, ?_⟩
  have hoo : decide (([] : List Int) = []) = true := rfl
  simp -implicitDefEqProofs only [go_sem, Nat.reduceBEq, Nat.reduceAdd, eq_self, true_and, and_true, and_self, List.getElem?_cons_zero, List.getElem?_cons_succ, Nat.reduceLeDiff, Nat.zero_add, Nat.reduceSub, Nat.le_refl, hoo]
  refine call_at all_nil ?_
  rintro w4 τ4 ⟨n1, e4⟩
  refine ⟨e4.kept, ?_⟩
  simp -implicitDefEqProofs only [go_sem, Nat.reduceBEq, Nat.reduceAdd, eq_self, true_and, and_true, and_self, List.getElem?_cons_zero, List.getElem?_cons_succ, Nat.reduceLeDiff, Nat.zero_add, Nat.reduceSub, Nat.le_refl, Nat.lt_irrefl]
  refine call_at (sameAll_ok n1.rd (hu _) (by simp) fun g hg => by cases hg) ?_
  rintro w5 τ5 ⟨hτ, rfl⟩
  have hτ := hτ.symm
  subst hτ
  refine ⟨(Ext.refl _).kept, ?_⟩
  have hpp : decide (([] : List Cg) = []) = true := rfl
  simp -implicitDefEqProofs only [go_sem, Nat.reduceBEq, Nat.reduceAdd, eq_self, true_and, and_true, and_self, List.getElem?_cons_zero, List.getElem?_cons_succ, Nat.reduceLeDiff, Nat.zero_add, Nat.reduceSub, Nat.le_refl, hpp]
  refine q2 _ _ ?_
  simp -implicitDefEqProofs only [go_sem, Nat.reduceBEq, Nat.reduceAdd, eq_self, true_and, and_true, and_self, List.getElem?_cons_zero, List.getElem?_cons_succ, Nat.reduceLeDiff, Nat.zero_add, Nat.reduceSub, Nat.le_refl, Nat.lt_irrefl]
  exact e2.trans e4
end
end Go.VL.opl

namespace Go.VL.opl
open Go Go.VL Go.Proofs Go.IntWalk Go.VL.st Go.VL.row

abbrev Srt (L : List Cg) : Prop := L.Pairwise fun a b => st.less (atS a) (atS b) = true
/-- What is ahead of a stamp. -/
def bef (L : List Cg) (x : Sp) : List Cg := L.filter fun h => st.less (atS h) x
theorem bef_take : ∀ {L : List Cg}, Srt L → ∀ {i : Nat} (h : i < L.length), bef L (atS L[i]) = L.take i
  | [], _, i, h => absurd h (Nat.not_lt_zero _)
  | a :: t, hs, 0, h => by
    rw [Srt, List.pairwise_cons] at hs
    unfold bef
    rw [List.take_zero, List.filter_eq_nil_iff]
    intro x hx
    simp only [List.getElem_cons_zero, Bool.not_eq_true]
    rcases List.mem_cons.1 hx with rfl | hx
    · exact less_irr _
    · exact less_asymm (hs.1 x hx)
  | a :: t, hs, i + 1, h => by
    rw [Srt, List.pairwise_cons] at hs
    have hi' : i < t.length := by simpa using h
    have ih := bef_take hs.2 hi'
    have h1 : st.less (atS a) (atS t[i]) = true := hs.1 _ (List.getElem_mem _)
    unfold bef at ih ⊢
    rw [List.getElem_cons_succ, List.take_succ_cons, ← ih]
    simp only [List.filter_cons, h1, if_true]
theorem own_bef (L : List Cg) (r : Int) (x : Sp) : ownL (bef L x) r = bef (ownL L r) x := by
  unfold ownL bef
  rw [List.filter_filter, List.filter_filter]
  congr 1; funext h; exact Bool.and_comm _ _
theorem own_srt {L : List Cg} (h : Srt L) (r : Int) : Srt (ownL L r) := h.filter _
theorem putC_sub {g : Cg} : ∀ L : List Cg, L.Sublist (putC g L)
  | [] => List.nil_sublist _
  | h :: t => by
    simp only [putC]
    cases lessC g h
    · exact (putC_sub t).cons_cons h
    · exact List.sublist_cons_self _ _
/-- Everything on which one hangs is ahead of it. -/
structure CloAt (L : List Cg) (x : Cg) : Prop where
  deps : ∀ (r : Nat) (h : r < x.deps.length), x.deps[r] ≤ (cnt (bef L (atS x)) (r : Int) : Int)
  names : ∀ s ∈ baseN x, okN x s = true → ∃ h ∈ L, atS h = s ∧ st.less s (atS x) = true
def Clo (L : List Cg) : Prop := ∀ x ∈ L, CloAt L x
theorem cnt_sub {A B : List Cg} (h : A.Sublist B) (r : Int) : cnt A r ≤ cnt B r := by
  have := (h.filter fun g => decide (g.ar = r)).length_le
  exact this
theorem CloAt.mono {A B : List Cg} {x : Cg} (h : CloAt A x) (hs : A.Sublist B) : CloAt B x := by
  refine ⟨fun r hr => ?_, fun s hs' ho => ?_⟩
  · have h1 := h.deps r hr
    have h2 := cnt_sub (hs.filter fun h => st.less (atS h) (atS x)) (r : Int)
    unfold bef at h1 ⊢
    omega
  · obtain ⟨y, h1, h2⟩ := h.names s hs' ho
    exact ⟨y, hs.subset h1, h2⟩
theorem Good.own_less {L : List Cg} (h : Good L) {r : Int} {a b : Nat} (hb : b < (ownL L r).length) (hab : a < b) : st.less (atS (ownL L r)[a]) (atS (ownL L r)[b]) = true := List.pairwise_iff_getElem.1 (own_srt h.srt r) a b (by omega) hb hab
theorem dep_own {L : List Cg} (h : Good L) {g : Cg} {r n : Int} (hn : 1 ≤ n) (hd : depB L g r n = true) : ∃ hl : n.toNat - 1 < (ownL L r).length, st.less (atS (ownL L r)[n.toNat - 1]) (atS g) = true := by
  unfold depB at hd
  rw [show decide (n = 0) = false by rw [decide_eq_false_iff_not]; omega, Bool.false_or, h.find_O hn] at hd
  by_cases hl : n.toNat - 1 < (ownL L r).length
  · rw [List.getElem?_eq_getElem hl] at hd
    exact ⟨hl, hd⟩
  · rw [List.getElem?_eq_none (by omega)] at hd
    cases hd
theorem Fits.clo {L : List Cg} {room : Int} {g : Cg} (k : Fits L room g) (h : Good L) : CloAt L g := by
  have hb := k.beh
  unfold behB at hb
  rw [Bool.and_eq_true] at hb
  obtain ⟨hb1, hb2⟩ := hb
  have hdep : ∀ (r : Nat) (hr : r < g.deps.length), depB L g r g.deps[r] = true := fun r hr => by
    have := List.all_eq_true.1 hb1 r (List.mem_range.2 hr)
    simpa [hr] using this
  refine ⟨fun r hr => ?_, fun s hs ho => ?_⟩
  · by_cases hn : g.deps[r] < 1
    · omega
    obtain ⟨hl, hls⟩ := dep_own h (by omega) (hdep r hr)
    generalize g.deps[r] = n at hn hl hls
    have hsub : ((ownL L r).take n.toNat).Sublist (bef (ownL L r) (atS g)) := by
      have h1 : bef ((ownL L r).take n.toNat) (atS g) = (ownL L r).take n.toNat := by
        unfold bef
        rw [List.filter_eq_self]
        intro x hx
        obtain ⟨j, hj, rfl⟩ := List.getElem_of_mem hx
        rw [List.getElem_take]
        have hj' : j < n.toNat := by simp at hj; omega
        by_cases e : j = n.toNat - 1
        · subst e; exact hls
        · exact less_trans (h.own_less hl (by omega)) hls
      rw [← h1]
      exact (List.take_sublist _ _).filter _
    have h2 := hsub.length_le
    rw [List.length_take, ← own_bef] at h2
    have h3 := ownL_len (bef L (atS g)) r
    omega
  · have hn := List.all_eq_true.1 hb2 s hs
    rw [ho, Bool.not_true, Bool.false_or] at hn
    unfold nmB at hn
    cases hf : L.find? (isA s) with
    | none => rw [hf] at hn; cases hn
    | some y =>
      rw [hf] at hn
      have hn' : y.seq ≤ atD g.deps y.ar := of_decide_eq_true hn
      obtain ⟨hy1, hy2⟩ := (find_A h.srt).1 hf
      have hys := (chk_has (h.chk y hy1)).2.1
      have hyr := (right_has (chk_has (h.chk y hy1)).1).2
      have hyr : 0 ≤ y.ar ∧ y.ar < 64 := hyr
      have hin : y.ar < g.deps.length := by
        refine Int.not_le.1 fun hge => ?_
        have : atD g.deps y.ar = 0 := by
          unfold atD
          rw [show decide (y.ar < (g.deps.length : Int)) = false by rw [decide_eq_false_iff_not]; omega]
          simp
        omega
      have hrt : y.ar.toNat < g.deps.length := by omega
      have hat : atD g.deps y.ar = g.deps[y.ar.toNat] := by
        unfold atD
        rw [show decide (0 ≤ y.ar) = true from decide_eq_true hyr.1, show decide (y.ar < (g.deps.length : Int)) = true from decide_eq_true hin]
        simp [hrt]
      rw [hat] at hn'
      have hd := hdep _ hrt
      rw [show ((y.ar.toNat : Nat) : Int) = y.ar by omega] at hd
      obtain ⟨hl, hls⟩ := dep_own h (by omega) hd
      generalize g.deps[y.ar.toNat] = n at hn' hl hls
      refine ⟨y, hy1, hy2, ?_⟩
      rw [← hy2]
      obtain ⟨j, hj, hjy⟩ := List.getElem_of_mem (own_mem.2 ⟨hy1, rfl⟩)
      have hsj := h.seq _ j hj
      rw [hjy] at hsj
      by_cases e : j = n.toNat - 1
      · subst e; rw [← hjy]; exact hls
      · rw [← hjy]
        exact less_trans (h.own_less hl (by omega)) hls
theorem addR_clo {L : List Cg} {room : Int} {g : Cg} (h : Good L) (k : Clo L) : Clo (addR L room g) := by
  unfold addR
  cases hc : decide (whyR L room g = 0)
  · exact k
  · have hf := why_fits (of_decide_eq_true hc)
    intro x hx
    rcases putC_mem.1 hx with rfl | hx
    · exact (hf.clo h).mono (putC_sub _)
    · exact (k x hx).mono (putC_sub _)
theorem logR_clo (gs : List Cg) (room : Int) : Clo (logR gs room) := by
  unfold logR
  suffices ∀ (gs : List Cg) (L : List Cg), Good L → Clo L → Clo (gs.foldl (fun L g => addR L room g) L) from this gs [] good_nil fun x hx => by cases hx
  intro gs
  induction gs with
  | nil => intro L h k; exact k
  | cons a t ih => intro L h k; exact ih _ (addR_good h) (addR_clo h k)
/-- At a place of a log. -/
theorem Good.pre {L : List Cg} (h : Good L) (k : Clo L) {i : Nat} (hi : i < L.length) :
    (∀ (hi0 : 0 < i), st.less (atS (L[i - 1]'(by omega))) (atS L[i]) = true) ∧ underI L[i].deps (cnts (L.take i)) = true ∧ atD (cnts (L.take i)) L[i].ar = L[i].seq - 1 ∧ ∀ s ∈ baseN L[i], okN L[i] s = true → ∃ y ∈ L.take i, atS y = s := by
  have hb := bef_take h.srt hi
  have hx := List.getElem_mem hi
  have hc := k _ hx
  obtain ⟨hrt, hsq, hck, -⟩ := chk_has (h.chk _ hx)
  have hr : 0 ≤ L[i].ar ∧ L[i].ar < 64 := (right_has hrt).2
  refine ⟨fun hi0 => List.pairwise_iff_getElem.1 h.srt (i - 1) i (by omega) hi (by omega), ?_, ?_, fun s hs ho => ?_⟩
  · unfold underI
    rw [List.all_eq_true]
    intro r hrr
    have hr' := List.mem_range.1 hrr
    have h1 := hc.deps r hr'
    rw [hb] at h1
    have h64 := (clock_has hck).1
    rw [atD_cnts _ (by omega), decide_eq_true_eq]
    simpa [hr'] using h1
  · rw [atD_cnts _ hr, ← hb]
    obtain ⟨j, hj, hjy⟩ := List.getElem_of_mem (own_mem.2 ⟨hx, rfl⟩)
    have hsj := h.seq _ j hj
    rw [hjy] at hsj
    have h2 := bef_take (own_srt h.srt L[i].ar) hj
    rw [hjy] at h2
    rw [← ownL_len, own_bef, h2, List.length_take]
    omega
  · obtain ⟨y, h1, h2, h3⟩ := hc.names s hs ho
    refine ⟨y, ?_, h2⟩
    rw [← hb]
    exact List.mem_filter.2 ⟨h1, by rw [h2]; exact h3⟩
end Go.VL.opl

namespace Go.VL.opl
open Go Go.VL Go.Proofs
/-- topiary/topiarylaw07.OplogClosed: 2 parameters, 110 slots. -/
def c5 : C :=
  .seq (.ops [⟨none, .mv 4 (.c (.bool false))⟩])
  (.seq (.ops [⟨none, .mv 15 (.t 0)⟩,
    ⟨none, .ca (some 16) 24 [(.t 15)]⟩,
    ⟨none, .mv 14 (.t 16)⟩,
    ⟨none, .ex 17 (.t 14) 0⟩,
    ⟨none, .ex 18 (.t 14) 1⟩,
    ⟨none, .mv 5 (.t 17)⟩,
    ⟨none, .mv 6 (.t 18)⟩])
  (.seq (.seq (.ops [⟨none, .mv 19 (.t 6)⟩,
    ⟨none, .bi 20 .neq (.t 19) (.c (.int .i64 0))⟩,
    ⟨none, .mv 21 (.t 20)⟩,
    ⟨some (21, false), .mv 22 (.t 5)⟩,
    ⟨some (21, false), .bq 23 false .ptr (.t 22) (.c (.ptr none))⟩,
    ⟨none, .pk 24 (.t 21) (.c (.bool true)) (.t 23)⟩])
  (.cond (.t 24) (.seq (.ops [⟨none, .mv 25 (.t 6)⟩,
      ⟨none, .bi 26 .eql (.t 25) (.c (.int .i64 1))⟩,
      ⟨none, .mv 27 (.t 26)⟩,
      ⟨some (27, true), .mv 28 (.t 5)⟩,
      ⟨some (27, true), .bq 29 false .ptr (.t 28) (.c (.ptr none))⟩,
      ⟨none, .pk 30 (.t 27) (.t 29) (.c (.bool false))⟩,
      ⟨none, .mv 31 (.t 30)⟩,
      ⟨some (31, true), .ca (some 32) 19 []⟩,
      ⟨none, .pk 33 (.t 31) (.t 32) (.c (.bool false))⟩,
      ⟨none, .mv 4 (.t 33)⟩])
    (.ret))
    (.skip)))
  (.seq (.seq (.ops [⟨none, .mv 7 (.c (.int .i64 0))⟩])
  (.block 0 (.loop (.seq (.seq (.ops [⟨none, .mv 34 (.t 7)⟩,
    ⟨none, .mv 35 (.t 1)⟩,
    ⟨none, .ln 36 .sl (.t 35)⟩,
    ⟨none, .bi 37 .lss (.t 34) (.t 36)⟩])
  (.cond (.t 37) (.skip)
    (.exit 0)))
  (.seq (.block 1 (.ops [⟨none, .mv 40 (.t 5)⟩,
    ⟨none, .mv 41 (.t 1)⟩,
    ⟨none, .mv 42 (.t 7)⟩,
    ⟨none, .ia 43 (.t 41) (.t 42) 13⟩,
    ⟨none, .ld 44 (.t 43) 13 true⟩,
    ⟨none, .ca (some 45) 14 [(.t 40), (.t 44)]⟩]))
  (.ops [⟨none, .mv 38 (.t 7)⟩,
    ⟨none, .bi 39 .add (.t 38) (.c (.int .i64 1))⟩,
    ⟨none, .mv 7 (.t 39)⟩]))))))
  (.seq (.ops [⟨none, .mv 46 (.t 5)⟩,
    ⟨none, .ca (some 47) 25 [(.t 46)]⟩,
    ⟨none, .mv 8 (.t 47)⟩])
  (.seq (.seq (.ops [⟨none, .mv 9 (.c (.int .i64 0))⟩])
  (.block 2 (.loop (.seq (.seq (.ops [⟨none, .mv 48 (.t 9)⟩,
    ⟨none, .mv 49 (.t 8)⟩,
    ⟨none, .ln 50 .sl (.t 49)⟩,
    ⟨none, .bi 51 .lss (.t 48) (.t 50)⟩])
  (.cond (.t 51) (.skip)
    (.exit 2)))
  (.seq (.block 3 (.seq (.ops [⟨none, .mv 54 (.t 8)⟩,
    ⟨none, .mv 55 (.t 9)⟩,
    ⟨none, .ia 56 (.t 54) (.t 55) 13⟩,
    ⟨none, .ld 57 (.t 56) 13 true⟩,
    ⟨none, .alL 10 [.int .i64 0, .int .i64 0, .int .i64 0, .sl true .pub 0 [], .int .i64 0, .int .i64 0, .int .i64 0, .int .i64 0, .int .i64 0, .int .i64 0, .int .i64 0, .str [], .str []]⟩,
    ⟨none, .st (.t 10) (.t 57) 13⟩])
  (.seq (.seq (.opsD [⟨none, .mv 58 (.t 9)⟩,
    ⟨none, .bi 59 .gtr (.t 58) (.c (.int .i64 0))⟩,
    ⟨none, .mv 60 (.t 59)⟩,
    ⟨some (60, true), .mv 61 (.t 8)⟩,
    ⟨some (60, true), .mv 62 (.t 9)⟩,
    ⟨some (60, true), .bi 63 .sub (.t 62) (.c (.int .i64 1))⟩,
    ⟨some (60, true), .ia 64 (.t 61) (.t 63) 13⟩,
    ⟨some (60, true), .fa 65 (.t 64) 0⟩,
    ⟨some (60, true), .ld 66 (.t 65) 2 true⟩,
    ⟨some (60, true), .fa 67 (.t 10) 0⟩,
    ⟨some (60, true), .ld 68 (.t 67) 2 true⟩,
    ⟨some (60, true), .ca (some 69) 26 [(.t 66), (.t 68)]⟩,
    ⟨some (60, true), .un 70 .not (.t 69)⟩,
    ⟨none, .pk 71 (.t 60) (.t 70) (.c (.bool false))⟩])
  (.cond (.t 71) (.seq (.ops [⟨none, .mv 4 (.c (.bool false))⟩])
    (.ret))
    (.skip)))
  (.seq (.ops [⟨none, .mv 72 (.t 8)⟩,
    ⟨none, .mv 73 (.t 9)⟩,
    ⟨none, .sl 74 13 (.t 72) none (some (.t 73))⟩,
    ⟨none, .ca (some 75) 27 [(.t 74)]⟩,
    ⟨none, .mv 11 (.t 75)⟩])
  (.seq (.seq (.opsD [⟨none, .fa 76 (.t 10) 3⟩,
    ⟨none, .ld 77 (.t 76) 1 false⟩,
    ⟨none, .mv 78 (.t 11)⟩,
    ⟨none, .ca (some 79) 28 [(.t 77), (.t 78)]⟩,
    ⟨none, .un 80 .not (.t 79)⟩,
    ⟨none, .mv 81 (.t 80)⟩,
    ⟨some (81, false), .mv 82 (.t 11)⟩,
    ⟨some (81, false), .fa 83 (.t 10) 0⟩,
    ⟨some (81, false), .fa 84 (.t 83) 1⟩,
    ⟨some (81, false), .ld 85 (.t 84) 1 false⟩,
    ⟨some (81, false), .fa 87 (.t 10) 2⟩,
    ⟨some (81, false), .ld 88 (.t 87) 1 false⟩,
    ⟨some (81, false), .bi 89 .sub (.t 88) (.c (.int .i64 1))⟩,
    ⟨some (81, false), .ca (some 86) 29 [(.t 82), (.t 85)]⟩,
    ⟨some (81, false), .bi 90 .neq (.t 86) (.t 89)⟩,
    ⟨none, .pk 91 (.t 81) (.c (.bool true)) (.t 90)⟩])
  (.cond (.t 91) (.seq (.ops [⟨none, .mv 4 (.c (.bool false))⟩])
    (.ret))
    (.skip)))
  (.seq (.ops [⟨none, .ld 92 (.t 10) 13 true⟩,
    ⟨none, .ca (some 93) 30 [(.t 92)]⟩,
    ⟨none, .mv 12 (.t 93)⟩])
  (.seq (.ops [⟨none, .mv 13 (.c (.int .i64 0))⟩])
  (.block 4 (.loop (.seq (.seq (.ops [⟨none, .mv 94 (.t 13)⟩,
    ⟨none, .mv 95 (.t 12)⟩,
    ⟨none, .ln 96 .sl (.t 95)⟩,
    ⟨none, .bi 97 .lss (.t 94) (.t 96)⟩])
  (.cond (.t 97) (.skip)
    (.exit 4)))
  (.seq (.block 5 (.seq (.opsD [⟨none, .mv 100 (.t 8)⟩,
    ⟨none, .mv 101 (.t 9)⟩,
    ⟨none, .sl 102 13 (.t 100) none (some (.t 101))⟩,
    ⟨none, .mv 103 (.t 12)⟩,
    ⟨none, .mv 104 (.t 13)⟩,
    ⟨none, .ia 105 (.t 103) (.t 104) 2⟩,
    ⟨none, .ld 106 (.t 105) 2 true⟩,
    ⟨none, .ca (some 107) 21 [(.t 102), (.t 106)]⟩,
    ⟨none, .bi 108 .lss (.t 107) (.c (.int .i64 0))⟩])
  (.cond (.t 108) (.seq (.ops [⟨none, .mv 4 (.c (.bool false))⟩])
    (.ret))
    (.skip))))
  (.ops [⟨none, .mv 98 (.t 13)⟩,
    ⟨none, .bi 99 .add (.t 98) (.c (.int .i64 1))⟩,
    ⟨none, .mv 13 (.t 99)⟩]))))))))))))
  (.ops [⟨none, .mv 52 (.t 9)⟩,
    ⟨none, .bi 53 .add (.t 52) (.c (.int .i64 1))⟩,
    ⟨none, .mv 9 (.t 53)⟩]))))))
  (.seq (.ops [⟨none, .ca (some 109) 19 []⟩,
    ⟨none, .mv 4 (.t 109)⟩])
  (.ret)))))))
theorem comp5 : compFn Try.prog [10] Try.f5 = some ([.t 4], c5) := by kernel_rfl
end Go.VL.opl

namespace Go.VL.opl
open Go Go.VL Go.Proofs Go.IntWalk Go.VL.st Go.VL.row

section
variable {σ : St} {v : V} {room : Int} {gs : List Cg}
theorem takeE (l : List (V × Cg)) (n : Nat) : (cgsV l).take n = cgsV (l.take n) := by simp [cgsV, List.map_take]
theorem under_trims {l m out : List Int} {z : Nat} (h : Trims m out z) : underI l out = underI l m := by
  unfold underI
  congr 1
  funext r
  rw [atD_trims h]
set_option maxRecDepth 100000 in
set_option maxHeartbeats 8000000 in
theorem closed_law (hv : ArgC v gs) : CallA Try.prog 5 [.int .i64 room, v] σ fun w _ => w = .bool true := by
  obtain ⟨⟨l, rfl, hva, hds⟩, hgl, hgb⟩ := hv
  obtain ⟨b, R, z, rfl, -, -⟩ := hva σ
  rw [List.length_map] at hgl
  refine fn_at Try.func5 (by decide) comp5 rfl fun Q q1 q2 => ?_
  have hcl := cgsV_len l
  have h00 : decide ((0 : Int) = 0) = true := by decide
  have h10 : decide ((1 : Int) = 0) = false := by decide
  have h11 : decide ((1 : Int) = 1) = true := by decide
  cases hr : (decide (room < 1) || decide (room > 4096))
  case true =>
    simp -implicitDefEqProofs only [go_sem, Nat.reduceBEq, Nat.reduceAdd, eq_self, true_and, and_true, and_self, List.getElem?_cons_zero, List.getElem?_cons_succ, Nat.reduceLeDiff, Nat.zero_add, Nat.reduceSub, Nat.le_refl, c5]
    refine call_at (new_bad hr) ?_
    rintro w τ ⟨rfl, hτ⟩
    have hτ := hτ.symm
    subst hτ
    refine ⟨kept_none, ?_⟩
    simp -implicitDefEqProofs only [go_sem, Nat.reduceBEq, Nat.reduceAdd, eq_self, true_and, and_true, and_self, List.getElem?_cons_zero, List.getElem?_cons_succ, Nat.reduceLeDiff, Nat.zero_add, Nat.reduceSub, Nat.le_refl, h10, h11, Bool.not_false]
    refine call_at awake_ok ?_
    rintro w τ5 ⟨rfl, -⟩
    refine ⟨kept_none, ?_⟩
    simp -implicitDefEqProofs only [go_sem, Nat.reduceBEq, Nat.reduceAdd, eq_self, true_and, and_true, and_self, List.getElem?_cons_zero, List.getElem?_cons_succ, Nat.reduceLeDiff, Nat.zero_add, Nat.reduceSub, Nat.le_refl, Nat.lt_irrefl]
    refine q2 _ _ ?_
    simp -implicitDefEqProofs only [go_sem, Nat.reduceBEq, Nat.reduceAdd, eq_self, true_and, and_true, and_self, List.getElem?_cons_zero, List.getElem?_cons_succ, Nat.reduceLeDiff, Nat.zero_add, Nat.reduceSub, Nat.le_refl, Nat.lt_irrefl]
  have hr' := hr
  rw [Bool.or_eq_false_iff] at hr'
  have hr1 := of_decide_eq_false hr'.1
  have hr2 := of_decide_eq_false hr'.2
  simp -implicitDefEqProofs only [go_sem, Nat.reduceBEq, Nat.reduceAdd, eq_self, true_and, and_true, and_self, List.getElem?_cons_zero, List.getElem?_cons_succ, Nat.reduceLeDiff, Nat.zero_add, Nat.reduceSub, Nat.le_refl, c5]
  refine call_at (new_ok hr) ?_
  rintro w τ ⟨rfl, h0, he0⟩
  refine ⟨kept_none, ?_⟩
  simp -implicitDefEqProofs only [go_sem, Nat.reduceBEq, Nat.reduceAdd, eq_self, true_and, and_true, and_self, List.getElem?_cons_zero, List.getElem?_cons_succ, Nat.reduceLeDiff, Nat.zero_add, Nat.reduceSub, Nat.le_refl, h00, Bool.not_true]
  generalize σ.objs.length + 1 = i at h0 ⊢
  generalize σ.objs.length = m at h0
  refine loop_at (fun (y : Nat) => ⟨[(1, .v (.sl b R z (cgsV l))), (5, .v (.ptr (some (i, 0)))), (7, .v (.int .i64 ((y : Nat) : Int)))], []⟩)
    (fun y t => y ≤ l.length ∧ ∃ s ov P, LogIs t i (some m) s ov room P ∧ cgL P = logR ((l.map (·.2)).take y) room) (fun y => l.length - y) 0 ?_ ?_ ?_
  · refine .inr ?_
    simp -implicitDefEqProofs only [go_sem, Nat.reduceBEq, Nat.reduceAdd, eq_self, true_and, and_true, and_self, List.getElem?_cons_zero, List.getElem?_cons_succ, Nat.reduceLeDiff, Nat.zero_add, Nat.reduceSub, Nat.le_refl, Nat.lt_irrefl]
    try exact ⟨rfl, rfl⟩
    try exact rfl
  · exact ⟨Nat.zero_le _, _, _, [], h0, rfl⟩
  rintro y t ⟨g1, s, ov, P, g3, g4⟩ Z z1 z2 z3
  have hPr : P.length ≤ 4096 := by
    have h1 := logR_room ((l.map (·.2)).take y) room
    rw [← g4, map2_len] at h1
    omega
  simp -implicitDefEqProofs only [go_sem, Nat.reduceBEq, Nat.reduceAdd, eq_self, true_and, and_true, and_self, List.getElem?_cons_zero, List.getElem?_cons_succ, Nat.reduceLeDiff, Nat.zero_add, Nat.reduceSub, Nat.le_refl, hcl]
  cases hc : decide ((y : Int) < l.length)
  case true =>
    have hi : y < l.length := by have := of_decide_eq_true hc; omega
    have hget := cgsV_get hi
    have hwy : IntKind.i64.wrap ((y : Int) + 1) = ((y + 1 : Nat) : Int) := by rw [i64_in _ (by omega)]; omega
    obtain ⟨k1, k2⟩ := rdl (hva t) (cgsV_ne hi)
    have hdi := hds _ (List.getElem_mem hi)
    have hbi := hgb _ (List.mem_map_of_mem (List.getElem_mem hi))
    have htk : logR ((l.map (·.2)).take (y + 1)) room = addR (logR ((l.map (·.2)).take y) room) room l[y].2 := by
      rw [logR_take (by simpa using hi)]; simp
    generalize l[y] = p at hget htk hdi hbi
    obtain ⟨d2, g⟩ := p
    simp only at hget htk hdi hbi
    have had := add_ok g3 (by omega) (hdi t) (by omega)
    simp only [cgV, cgC] at had
    simp -implicitDefEqProofs only [go_sem, Nat.reduceBEq, Nat.reduceAdd, eq_self, true_and, and_true, and_self, List.getElem?_cons_zero, List.getElem?_cons_succ, Nat.reduceLeDiff, Nat.zero_add, Nat.reduceSub, Nat.le_refl, hc, hcl, hget, cgC]
    refine ⟨⟨by omega, by omega, k2⟩, k1, ?_⟩
    refine call_at had ?_
    rintro w t1 ⟨rfl, s1, ov1, P1, h1, hP1, kt, hnw⟩
    refine ⟨kept_none, ?_⟩
    simp -implicitDefEqProofs only [go_sem, Nat.reduceBEq, Nat.reduceAdd, eq_self, true_and, and_true, and_self, List.getElem?_cons_zero, List.getElem?_cons_succ, Nat.reduceLeDiff, Nat.zero_add, Nat.reduceSub, Nat.le_refl, hwy]
    refine z1 (y + 1) _ _ (.inr ?_) (by omega) ⟨by omega, s1, ov1, P1, h1, by rw [htk, hP1, g4]⟩
    simp -implicitDefEqProofs only [go_sem, Nat.reduceBEq, Nat.reduceAdd, eq_self, true_and, and_true, and_self, List.getElem?_cons_zero, List.getElem?_cons_succ, Nat.reduceLeDiff, Nat.zero_add, Nat.reduceSub, Nat.le_refl, Nat.lt_irrefl]
    try exact ⟨rfl, rfl⟩
    try exact rfl
  have hy : y = l.length := by have := of_decide_eq_false hc; omega
  rw [List.take_of_length_le (by rw [List.length_map]; omega)] at g4
  simp -implicitDefEqProofs only [go_sem, Nat.reduceBEq, Nat.reduceAdd, eq_self, true_and, and_true, and_self, List.getElem?_cons_zero, List.getElem?_cons_succ, Nat.reduceLeDiff, Nat.zero_add, Nat.reduceSub, Nat.le_refl, hc]
  refine z2 _ _ _ ?_
  clear z1 z2 z3
  have hgd := logR_good (l.map (·.2)) room
  have hclo := logR_clo (l.map (·.2)) room
  rw [← g4] at hgd hclo
  simp -implicitDefEqProofs only [go_sem, Nat.reduceBEq, Nat.reduceAdd, eq_self, true_and, and_true, and_self, List.getElem?_cons_zero, List.getElem?_cons_succ, Nat.reduceLeDiff, Nat.zero_add, Nat.reduceSub, Nat.le_refl, Nat.lt_irrefl]
  refine call_at (all_ok g3 (by omega)) ?_
  rintro w τ1 ⟨⟨O, hF, hO⟩, e1⟩
  refine ⟨kept_none, ?_⟩
  generalize hLL : cgL P = L at *
  have hOl : O.length ≤ 4096 := by
    have := congrArg List.length hO
    rw [map2_len, ← hLL, map2_len] at this
    omega
  have hFr := hF.rdS
  have hFd := hF.rds
  clear hF
  obtain ⟨b3, R3, z3', rfl, hb3, hrz⟩ := id hFr
  have hol := cgsV_len O
  simp -implicitDefEqProofs only [go_sem, Nat.reduceBEq, Nat.reduceAdd, eq_self, true_and, and_true, and_self, List.getElem?_cons_zero, List.getElem?_cons_succ, Nat.reduceLeDiff, Nat.zero_add, Nat.reduceSub, Nat.le_refl, Nat.lt_irrefl]
  refine loop_at (fun (y : Nat) => ⟨[(8, .v (.sl b3 R3 z3' (cgsV O))), (9, .v (.int .i64 ((y : Nat) : Int)))], []⟩)
    (fun y t => y ≤ O.length ∧ Ext τ1 t) (fun y => O.length - y) 0 ?_ ?_ ?_
  · refine .inr ?_
    simp -implicitDefEqProofs only [go_sem, Nat.reduceBEq, Nat.reduceAdd, eq_self, true_and, and_true, and_self, List.getElem?_cons_zero, List.getElem?_cons_succ, Nat.reduceLeDiff, Nat.zero_add, Nat.reduceSub, Nat.le_refl, Nat.lt_irrefl]
    try exact ⟨rfl, rfl⟩
    try exact rfl
  · exact ⟨Nat.zero_le _, .refl _⟩
  rintro y t2 ⟨f1, f2⟩ Z z1 z2 z3
  simp -implicitDefEqProofs only [go_sem, Nat.reduceBEq, Nat.reduceAdd, eq_self, true_and, and_true, and_self, List.getElem?_cons_zero, List.getElem?_cons_succ, Nat.reduceLeDiff, Nat.zero_add, Nat.reduceSub, Nat.le_refl, hol]
  cases hc2 : decide ((y : Int) < O.length)
  · simp -implicitDefEqProofs only [go_sem, Nat.reduceBEq, Nat.reduceAdd, eq_self, true_and, and_true, and_self, List.getElem?_cons_zero, List.getElem?_cons_succ, Nat.reduceLeDiff, Nat.zero_add, Nat.reduceSub, Nat.le_refl, hc2]
    refine z2 _ _ _ ?_
    simp -implicitDefEqProofs only [go_sem, Nat.reduceBEq, Nat.reduceAdd, eq_self, true_and, and_true, and_self, List.getElem?_cons_zero, List.getElem?_cons_succ, Nat.reduceLeDiff, Nat.zero_add, Nat.reduceSub, Nat.le_refl, Nat.lt_irrefl]
    refine call_at awake_ok ?_
    rintro w τ5 ⟨rfl, -⟩
    refine ⟨kept_none, ?_⟩
    simp -implicitDefEqProofs only [go_sem, Nat.reduceBEq, Nat.reduceAdd, eq_self, true_and, and_true, and_self, List.getElem?_cons_zero, List.getElem?_cons_succ, Nat.reduceLeDiff, Nat.zero_add, Nat.reduceSub, Nat.le_refl, Nat.lt_irrefl]
    refine q2 _ _ ?_
    simp -implicitDefEqProofs only [go_sem, Nat.reduceBEq, Nat.reduceAdd, eq_self, true_and, and_true, and_self, List.getElem?_cons_zero, List.getElem?_cons_succ, Nat.reduceLeDiff, Nat.zero_add, Nat.reduceSub, Nat.le_refl, Nat.lt_irrefl]
  have hi : y < O.length := by have := of_decide_eq_true hc2; omega
  have hiL : y < L.length := by rw [← hO, map2_len]; exact hi
  obtain ⟨pr1, pr2, pr3, pr4⟩ := hgd.pre hclo hiL
  have hwy : IntKind.i64.wrap ((y : Int) + 1) = ((y + 1 : Nat) : Int) := by rw [i64_in _ (by omega)]; omega
  have hget := cgsV_get hi
  obtain ⟨k1, k2⟩ := rdl (hFr.ext f2) (cgsV_ne hi)
  have hz : z3' = 13 := k2
  subst hz
  have hdi := (hFd.ext f2) _ (List.getElem_mem hi)
  have hLy : L[y] = O[y].2 := by
    have : L[y] = (O.map (·.2))[y]'(by rw [map2_len]; exact hi) := by congr 1; exact hO.symm
    rw [this, List.getElem_map]
  have hchk := chk_has (hgd.chk _ (List.getElem_mem hiL))
  have hck64 := (clock_has hchk.2.2.1).1
  have hget1 : ∀ (h0 : 0 < y), (cgsV O)[((y - 1 : Nat) : Int).toNat]?.getD [] = cgC (O[y - 1]'(by omega)).1 (O[y - 1]'(by omega)).2 := fun h0 => cgsV_get (by omega)
  have hLy1 : ∀ (h0 : 0 < y), L[y - 1]'(by omega) = (O[y - 1]'(by omega)).2 := fun h0 => by
    have : L[y - 1]'(by omega) = (O.map (·.2))[y - 1]'(by rw [map2_len]; omega) := by congr 1; exact hO.symm
    rw [this, List.getElem_map]
  rw [hLy] at pr1 pr2 pr3 pr4 hchk hck64
  generalize O[y] = p at hget hdi pr1 pr2 pr3 pr4 hchk hck64
  obtain ⟨d2, g⟩ := p
  simp only at hget hdi pr1 pr2 pr3 pr4 hchk hck64
  have htO : RdC t2 (.sl b3 R3.toView 13 ((cgsV O).take y)) (L.take y) := by
    rw [takeE]
    refine ⟨O.take y, by rw [List.map_take, hO], ?_, fun p hp => (hFd.ext f2) p (List.mem_of_mem_take hp)⟩
    obtain ⟨_, _, _, e, h2, h3⟩ := hFr.ext f2
    cases e
    exact ⟨_, _, _, rfl, fun hb => (by have := h2 hb; rw [← takeE, this]; simp), h3.imp_right fun h => ⟨rd_toView h.1, h.2⟩⟩
  have hLt : (L.take y).length = y := by rw [List.length_take]; omega
  obtain ⟨db, dr, dz, rfl, -, -⟩ := id hdi
  have hrr : 0 ≤ g.ar ∧ g.ar < 64 := (right_has hchk.1).2
  have hseq : 1 ≤ g.seq ∧ g.seq ≤ 1099511627776 := by
    have h1 := (right_has hchk.1).1
    have h1 : 1 ≤ g.ac ∧ g.ac ≤ 1099511627776 := h1
    omega
  have hR : b3 = true ∨ rd t2.live R3.toView := .inr (rd_toView k1)
  simp -implicitDefEqProofs only [go_sem, Nat.reduceBEq, Nat.reduceAdd, eq_self, true_and, and_true, and_self, List.getElem?_cons_zero, List.getElem?_cons_succ, Nat.reduceLeDiff, Nat.zero_add, Nat.reduceSub, Nat.le_refl, hc2, hget, cgC, hol]
  cases h0 : decide ((y : Int) > 0)
  case' false =>
    simp -implicitDefEqProofs only [go_sem, Nat.reduceBEq, Nat.reduceAdd, eq_self, true_and, and_true, and_self, List.getElem?_cons_zero, List.getElem?_cons_succ, Nat.reduceLeDiff, Nat.zero_add, Nat.reduceSub, Nat.le_refl, h0]
    refine ⟨⟨by omega, by omega⟩, k1, ?_⟩
  case' true =>
    have hy0 : 0 < y := by have := of_decide_eq_true h0; omega
    have hw1 : IntKind.i64.wrap ((y : Int) - 1) = ((y - 1 : Nat) : Int) := by rw [i64_in _ (by omega)]; omega
    have hg1 := hget1 hy0
    have hp1 := pr1 hy0
    rw [hLy1 hy0] at hp1
    generalize O[y - 1] = p1 at hg1 hp1
    obtain ⟨d1, g1'⟩ := p1
    simp only at hg1 hp1
    have hls := less_ok (σ := t2) (a1 := g1'.ac) (a2 := g1'.ar) (b1 := g.ac) (b2 := g.ar)
    rw [show less g1'.ac g1'.ar g.ac g.ar = true from hp1] at hls
    simp only [stV] at hls
    simp -implicitDefEqProofs only [go_sem, Nat.reduceBEq, Nat.reduceAdd, eq_self, true_and, and_true, and_self, List.getElem?_cons_zero, List.getElem?_cons_succ, Nat.reduceLeDiff, Nat.zero_add, Nat.reduceSub, Nat.le_refl, h0, hw1, hg1, cgC, hol]
    refine ⟨⟨by omega, by omega⟩, k1, ⟨by omega, by omega⟩, k1, ?_⟩
    refine call_at hls ?_
    rintro w τ ⟨hτ, rfl⟩
    have hτ := hτ.symm
    subst hτ
    refine ⟨(Ext.refl _).kept, ?_⟩
  all_goals
    simp -implicitDefEqProofs only [go_sem, Nat.reduceBEq, Nat.reduceAdd, eq_self, true_and, and_true, and_self, List.getElem?_cons_zero, List.getElem?_cons_succ, Nat.reduceLeDiff, Nat.zero_add, Nat.reduceSub, Nat.le_refl, Bool.not_true, hol]
    refine ⟨⟨.inr trivial, by omega, by omega, by omega⟩, ?_⟩
    rw [Int.toNat_natCast]
    refine call_at (rclk_ok htO (by omega)) ?_
    rintro w t3 ⟨⟨ck, zz, htr, hck⟩, e3, -⟩
    refine ⟨kept_none, ?_⟩
    have hun : underI g.deps ck = true := by rw [under_trims htr]; exact pr2
    have hat : atD ck g.ar = g.seq - 1 := by rw [atD_trims htr]; exact pr3
    obtain ⟨cb, cr, cz, rfl, -, -⟩ := id hck
    simp -implicitDefEqProofs only [go_sem, Nat.reduceBEq, Nat.reduceAdd, eq_self, true_and, and_true, and_self, List.getElem?_cons_zero, List.getElem?_cons_succ, Nat.reduceLeDiff, Nat.zero_add, Nat.reduceSub, Nat.le_refl, Nat.lt_irrefl]
    refine call_at (under_ok (hdi.ext e3) hck (by omega)) ?_
    rintro w τ ⟨rfl, hτ⟩
    have hτ := hτ.symm
    subst hτ
    refine ⟨(Ext.refl _).kept, ?_⟩
    rw [hun]
    have hws : IntKind.i64.wrap (g.seq - 1) = g.seq - 1 := by rw [i64_in _ (by omega)]
    simp -implicitDefEqProofs only [go_sem, Nat.reduceBEq, Nat.reduceAdd, eq_self, true_and, and_true, and_self, List.getElem?_cons_zero, List.getElem?_cons_succ, Nat.reduceLeDiff, Nat.zero_add, Nat.reduceSub, Nat.le_refl, Bool.not_true, hws]
    refine call_at (rat_ok (r := g.ar) hck) ?_
    rintro w τ ⟨hτ, rfl⟩
    have hτ := hτ.symm
    subst hτ
    refine ⟨(Ext.refl _).kept, ?_⟩
    rw [hat]
    have hss : decide (g.seq - 1 = g.seq - 1) = true := decide_eq_true rfl
    have hnm := rnames_ok (σ := t3) (d := .sl db dr dz (intsV .i64 g.deps)) (g := g)
    simp only [cgV, cgC] at hnm
    simp -implicitDefEqProofs only [go_sem, Nat.reduceBEq, Nat.reduceAdd, eq_self, true_and, and_true, and_self, List.getElem?_cons_zero, List.getElem?_cons_succ, Nat.reduceLeDiff, Nat.zero_add, Nat.reduceSub, Nat.le_refl, hss, Bool.not_true]
    refine call_at hnm ?_
    rintro w t4 ⟨⟨nm, hnr, hN, hn6⟩, e4, -⟩
    refine ⟨kept_none, ?_⟩
    obtain ⟨nb, nr, nz, rfl, -, -⟩ := id hnr
    have hnl := spsV_len nm
    simp -implicitDefEqProofs only [go_sem, Nat.reduceBEq, Nat.reduceAdd, eq_self, true_and, and_true, and_self, List.getElem?_cons_zero, List.getElem?_cons_succ, Nat.reduceLeDiff, Nat.zero_add, Nat.reduceSub, Nat.le_refl, Nat.lt_irrefl]
    refine loop_at (fun (x : Nat) => ⟨[(8, .v (.sl b3 R3 13 (cgsV O))), (9, .v (.int .i64 ((y : Nat) : Int))), (12, .v (.sl nb nr nz (spsV nm))), (13, .v (.int .i64 ((x : Nat) : Int)))], []⟩)
      (fun x t => x ≤ nm.length ∧ t = t4) (fun x => nm.length - x) 0 ?_ ?_ ?_
    · refine .inr ?_
      simp -implicitDefEqProofs only [go_sem, Nat.reduceBEq, Nat.reduceAdd, eq_self, true_and, and_true, and_self, List.getElem?_cons_zero, List.getElem?_cons_succ, Nat.reduceLeDiff, Nat.zero_add, Nat.reduceSub, Nat.le_refl, Nat.lt_irrefl]
      try exact ⟨rfl, rfl⟩
      try exact rfl
    · exact ⟨Nat.zero_le _, rfl⟩
    rintro x t5 ⟨x1, hτ⟩ X y1 y2 y3
    have hτ := hτ.symm
    subst hτ
    simp -implicitDefEqProofs only [go_sem, Nat.reduceBEq, Nat.reduceAdd, eq_self, true_and, and_true, and_self, List.getElem?_cons_zero, List.getElem?_cons_succ, Nat.reduceLeDiff, Nat.zero_add, Nat.reduceSub, Nat.le_refl, hnl]
    cases hc3 : decide ((x : Int) < nm.length)
    · simp -implicitDefEqProofs only [go_sem, Nat.reduceBEq, Nat.reduceAdd, eq_self, true_and, and_true, and_self, List.getElem?_cons_zero, List.getElem?_cons_succ, Nat.reduceLeDiff, Nat.zero_add, Nat.reduceSub, Nat.le_refl, hc3]
      refine y2 _ _ _ ?_
      simp -implicitDefEqProofs only [go_sem, Nat.reduceBEq, Nat.reduceAdd, eq_self, true_and, and_true, and_self, List.getElem?_cons_zero, List.getElem?_cons_succ, Nat.reduceLeDiff, Nat.zero_add, Nat.reduceSub, Nat.le_refl, hwy]
      refine z1 (y + 1) _ _ (.inr ?_) (by omega) ⟨by omega, (f2.trans e3).trans e4⟩
      simp -implicitDefEqProofs only [go_sem, Nat.reduceBEq, Nat.reduceAdd, eq_self, true_and, and_true, and_self, List.getElem?_cons_zero, List.getElem?_cons_succ, Nat.reduceLeDiff, Nat.zero_add, Nat.reduceSub, Nat.le_refl, Nat.lt_irrefl]
      try exact ⟨rfl, rfl⟩
      try exact rfl
    · have hxi : x < nm.length := by have := of_decide_eq_true hc3; omega
      have hwx : IntKind.i64.wrap ((x : Int) + 1) = ((x + 1 : Nat) : Int) := by rw [i64_in _ (by omega)]; omega
      have hgx := spsV_get hxi
      obtain ⟨k3, k4⟩ := rdl hnr (by cases nm <;> simp [spsV] at hxi ⊢)
      obtain ⟨w1, w2⟩ := List.mem_filter.1 ((hN.2 nm[x]).1 (List.getElem_mem hxi))
      obtain ⟨yy, w3, w4⟩ := pr4 nm[x] w1 w2
      have hfx : (fidx (isA nm[x]) (L.take y)) ≥ 0 := by
        rcases fidx_find (isA nm[x]) (L.take y) with ⟨-, h⟩ | ⟨j, hj, h, -⟩
        · rw [List.find?_eq_none] at h
          exact absurd (by simp [isA, w4]) (h yy w3)
        · rw [h]; omega
      have hrf := rfind_ok (x := nm[x]) ((htO.ext e3).ext e4) (by omega)
      simp only [spV, spC] at hrf
      generalize nm[x] = sx at hgx hfx hrf
      have hfl : decide (fidx (isA sx) (L.take y) < 0) = false := by rw [decide_eq_false_iff_not]; omega
      simp -implicitDefEqProofs only [go_sem, Nat.reduceBEq, Nat.reduceAdd, eq_self, true_and, and_true, and_self, List.getElem?_cons_zero, List.getElem?_cons_succ, Nat.reduceLeDiff, Nat.zero_add, Nat.reduceSub, Nat.le_refl, hc3, hgx, spC, hnl, hol]
      refine ⟨⟨.inr trivial, by omega, by omega, by omega⟩, ⟨by omega, by omega, k4⟩, k3, ?_⟩
      rw [Int.toNat_natCast]
      refine call_at hrf ?_
      rintro w τ ⟨rfl, hτ⟩
      have hτ := hτ.symm
      subst hτ
      refine ⟨(Ext.refl _).kept, ?_⟩
      simp -implicitDefEqProofs only [go_sem, Nat.reduceBEq, Nat.reduceAdd, eq_self, true_and, and_true, and_self, List.getElem?_cons_zero, List.getElem?_cons_succ, Nat.reduceLeDiff, Nat.zero_add, Nat.reduceSub, Nat.le_refl, hfl, hwx]
      refine y1 (x + 1) _ _ (.inr ?_) (by omega) ⟨by omega, rfl⟩
      simp -implicitDefEqProofs only [go_sem, Nat.reduceBEq, Nat.reduceAdd, eq_self, true_and, and_true, and_self, List.getElem?_cons_zero, List.getElem?_cons_succ, Nat.reduceLeDiff, Nat.zero_add, Nat.reduceSub, Nat.le_refl, Nat.lt_irrefl]
      try exact ⟨rfl, rfl⟩
      try exact rfl
end
end Go.VL.opl

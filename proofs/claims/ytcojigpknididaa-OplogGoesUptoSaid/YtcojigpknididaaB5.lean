import Derived.Test.YtcojigpknididaaB4
import Derived.Test.YtcojigpknididaaProg
set_option linter.unusedVariables false
set_option linter.unusedSimpArgs false
namespace Go.VL.opl
open Go Go.VL Go.Proofs Go.IntWalk Go.VL.st Go.VL.row

def StT : T := .agg [.int .i64, .int .i64]
def CgT : List T := [StT, .int .i64, .sl 1 (.int .i64), .int .i64, StT, StT, StT, .str, .str]
theorem has_ints {xs : List V} (h : (T.sl 1 (.int .i64)).has xs) : ∃ d l, xs = [d] ∧ (∀ σ, RdS σ d 1 (intsV .i64 l)) ∧ l.length < vbs xs := by
  rcases h with rfl | ⟨es, rfl, h⟩
  · exact ⟨_, [], rfl, fun σ => ⟨_, _, _, rfl, by simp [intsV], .inl rfl⟩, by simp [vbs, vb]⟩
  · obtain ⟨l, rfl, h2, h3⟩ := ints_of h
    exact ⟨_, l, rfl, fun σ => ⟨_, _, _, rfl, by simp, .inr ⟨trivial, rfl⟩⟩, by simp only [vbs, vb]; omega⟩
theorem has_st {xs : List V} (h : StT.has xs) : ∃ c r, xs = [.int .i64 c, .int .i64 r] := by
  obtain ⟨_, _, rfl, ⟨c, rfl, h1⟩, _, _, rfl, ⟨r, rfl, h2⟩, rfl⟩ := h
  exact ⟨c, r, rfl⟩
theorem has_cg {xs : List V} (h : T.hasL CgT xs) : ∃ d g, xs = cgC d g ∧ (∀ σ, RdS σ d 1 (intsV .i64 g.deps)) ∧ 13 + g.deps.length + g.name.length + g.val.length ≤ vbs xs := by
  obtain ⟨_, _, rfl, h1, _, _, rfl, ⟨seq, rfl, h2⟩, _, _, rfl, h3, _, _, rfl, ⟨kind, rfl, h4⟩, _, _, rfl, h5, _, _, rfl, h6, _, _, rfl, h7, _, _, rfl, ⟨name, rfl⟩, _, _, rfl, ⟨val, rfl⟩, rfl⟩ := h
  obtain ⟨ac, ar, rfl⟩ := has_st h1
  obtain ⟨d, deps, rfl, a3, a4⟩ := has_ints h3
  obtain ⟨nc, nr, rfl⟩ := has_st h5
  obtain ⟨pc, pr, rfl⟩ := has_st h6
  obtain ⟨fc, fr, rfl⟩ := has_st h7
  refine ⟨d, ⟨ac, ar, seq, deps, kind, nc, nr, pc, pr, fc, fr, name, val⟩, rfl, a3, ?_⟩
  simp only [List.cons_append, List.nil_append, List.append_nil, vbs, vb] at a4 ⊢
  omega
theorem cgs_of : ∀ {es : List (List V)}, (∀ y ∈ es, (T.agg CgT).has y) → ∃ l : List (V × Cg), es = cgsV l ∧ 13 * l.length ≤ vbe es ∧ ∀ p ∈ l, (∀ σ, RdS σ p.1 1 (intsV .i64 p.2.deps)) ∧ p.2.deps.length + p.2.name.length + p.2.val.length < vbe es
  | [], _ => ⟨[], rfl, by simp, by simp⟩
  | y :: es, h => by
    obtain ⟨l, rfl, h2, h3⟩ := cgs_of (es := es) fun y hy => h y (by simp [hy])
    obtain ⟨d, g, rfl, a1, a3⟩ := has_cg (h y (by simp))
    refine ⟨(d, g) :: l, rfl, by simp only [List.length_cons, vbe]; omega, fun q hq => ?_⟩
    simp only [vbe]
    rcases List.mem_cons.1 hq with rfl | hq
    · exact ⟨a1, by simp only; omega⟩
    · obtain ⟨b1, b3⟩ := h3 q hq
      exact ⟨b1, by omega⟩
theorem arg_cg {x : V} (h : (T.agg CgT).arg x) : ∃ d g, x = cgV d g ∧ (∀ σ, RdS σ d 1 (intsV .i64 g.deps)) ∧ g.deps.length + g.name.length + g.val.length < vba x := by
  obtain ⟨xs, rfl, h⟩ := h
  obtain ⟨d, g, rfl, h1, h3⟩ := has_cg h
  exact ⟨d, g, rfl, h1, by simp only [vba]; omega⟩
/-- A list of changes, as an argument. -/
def ArgC (v : V) (gs : List Cg) : Prop := (∃ l : List (V × Cg), l.map (·.2) = gs ∧ (∀ σ, RdS σ v 13 (cgsV l)) ∧ ∀ p ∈ l, ∀ σ, RdS σ p.1 1 (intsV .i64 p.2.deps)) ∧ gs.length ≤ 90000 ∧ ∀ g ∈ gs, g.deps.length + g.name.length + g.val.length < 1048576
theorem arg_cgs {x : V} (h : (T.sl 13 (.agg CgT)).arg x) : ∃ gs, (vba x ≤ 1048576 → ArgC x gs) := by
  obtain ⟨es, h1, h2, h3⟩ := has_sl h
  obtain ⟨l, rfl, h4, h5⟩ := cgs_of h2
  refine ⟨l.map (·.2), fun hb => ⟨⟨l, rfl, fun σ => ?_, fun p hp => (h5 p hp).1⟩, by rw [List.length_map]; omega, fun g hg => ?_⟩⟩
  · rcases h1 with ⟨rfl, h1⟩ | rfl
    · rw [h1]; exact ⟨true, .pub, 0, rfl, by simp, .inl rfl⟩
    · exact ⟨false, .pub, 13, rfl, by simp, .inr ⟨trivial, rfl⟩⟩
  · obtain ⟨p, hp, rfl⟩ := List.mem_map.1 hg
    have := (h5 p hp).2
    omega
theorem ArgC.rd {v : V} {gs : List Cg} (h : ArgC v gs) (σ : St) : RdC σ v gs := by
  obtain ⟨⟨l, rfl, h1, h2⟩, -⟩ := h
  exact ⟨l, rfl, h1 σ, fun p hp => h2 p hp σ⟩
/-- The first change. -/
def cgF : Cg := ⟨1, 0, 1, [], 1, 1, 0, 0, 0, 0, 0, [112], []⟩
section
variable {σ : St} {i m j y : Nat} {mo : Option Nat} {s d v kv w p : V} {ov : List V} {room r n most : Int} {P O : List (V × Cg)} {g : Cg} {x : Sp} {l k : List Int} {L gs : List Cg}
set_option maxRecDepth 100000 in
theorem first_ok : CallA Try.prog 15 [] σ fun v σ' => v = cgV v0 cgF ∧ σ' = σ := by
  refine fn_at Try.func15 (by decide) comp15 rfl fun Q q1 q2 => ?_
  unfold cgF cgV cgC v0 at q2
  simp -implicitDefEqProofs only [go_sem, Nat.reduceBEq, Nat.reduceAdd, eq_self, true_and, and_true, and_self, List.getElem?_cons_zero, List.getElem?_cons_succ, Nat.reduceLeDiff, Nat.zero_add, Nat.reduceSub, Nat.le_refl, c15]
  refine q2 _ _ ?_
  simp -implicitDefEqProofs only [go_sem, Nat.reduceBEq, Nat.reduceAdd, eq_self, true_and, and_true, and_self, List.getElem?_cons_zero, List.getElem?_cons_succ, Nat.reduceLeDiff, Nat.zero_add, Nat.reduceSub, Nat.le_refl, Nat.lt_irrefl]
  try exact ⟨rfl, rfl⟩
theorem LTo.fresh {σ0 σ τ : St} {i : Nat} {mo : Option Nat} {s s' : V} {ov ov' : List V} (h : LTo σ τ i mo s s' ov ov') (he : Ext σ0 σ) (hf : ∀ j, Own i mo s ov j → σ0.objs.length ≤ j) : Ext σ0 τ ∧ ∀ j, Own i mo s' ov' j → σ0.objs.length ≤ j :=
  ⟨h.upd.toExt he hf, fun j hj => (h.own j hj).elim (hf j) fun hl => Nat.le_trans he.olen hl⟩
theorem v0_rd (σ : St) : RdS σ v0 1 (intsV .i64 []) := ⟨_, _, _, rfl, fun _ => rfl, .inl rfl⟩
theorem whyF : whyR [] 3 cgF = 0 := by decide
theorem whyF2 : whyR [cgF] 3 cgF = 5 := by decide
set_option maxRecDepth 100000 in
set_option maxHeartbeats 3200000 in
theorem awake_ok : CallA Try.prog 19 [] σ fun v σ' => v = .bool true ∧ Ext σ σ' := by
  refine fn_at Try.func19 (by decide) comp19 rfl fun Q q1 q2 => ?_
  have h00 : decide ((0 : Int) = 0) = true := by decide
  have h55 : decide ((5 : Int) = 5) = true := by decide
  have h11 : decide ((1 : Int) = 1) = true := by decide
  simp -implicitDefEqProofs only [go_sem, Nat.reduceBEq, Nat.reduceAdd, eq_self, true_and, and_true, and_self, List.getElem?_cons_zero, List.getElem?_cons_succ, Nat.reduceLeDiff, Nat.zero_add, Nat.reduceSub, Nat.le_refl, c19]
  refine call_at (new_ok (room := 3) rfl) ?_
  rintro v τ ⟨rfl, h0, he0⟩
  refine ⟨kept_none, ?_⟩
  have hf0 : ∀ j, Own (σ.objs.length + 1) (some σ.objs.length) (.sl true .pub 0 []) nilO j → σ.objs.length ≤ j := fun j hj => by
    rcases own_new hj with rfl | h
    · omega
    · cases h; omega
  simp -implicitDefEqProofs only [go_sem, Nat.reduceBEq, Nat.reduceAdd, eq_self, true_and, and_true, and_self, List.getElem?_cons_zero, List.getElem?_cons_succ, Nat.reduceLeDiff, Nat.zero_add, Nat.reduceSub, Nat.le_refl, h00]
  refine call_at first_ok ?_
  rintro v τ1 ⟨rfl, hτ⟩
  have hτ := hτ.symm
  subst hτ
  refine ⟨kept_none, ?_⟩
  simp -implicitDefEqProofs only [go_sem, Nat.reduceBEq, Nat.reduceAdd, eq_self, true_and, and_true, and_self, List.getElem?_cons_zero, List.getElem?_cons_succ, Nat.reduceLeDiff, Nat.zero_add, Nat.reduceSub, Nat.le_refl, Nat.lt_irrefl]
  refine call_at (add_ok h0 (by simp) (v0_rd _) (by decide)) ?_
  rintro v τ1 ⟨rfl, s1, ov1, P1, h1, hP1, k1, -⟩
  refine ⟨kept_none, ?_⟩
  obtain ⟨he1, hf1⟩ := k1.fresh he0 hf0
  have hL1 : cgL P1 = [cgF] := by rw [hP1]; decide
  have hw1 : whyR [] 3 cgF = 0 := whyF
  simp -implicitDefEqProofs only [go_sem, Nat.reduceBEq, Nat.reduceAdd, eq_self, true_and, and_true, and_self, List.getElem?_cons_zero, List.getElem?_cons_succ, Nat.reduceLeDiff, Nat.zero_add, Nat.reduceSub, Nat.le_refl, hw1, h00]
  refine call_at first_ok ?_
  rintro v τ2 ⟨rfl, hτ⟩
  have hτ := hτ.symm
  subst hτ
  refine ⟨kept_none, ?_⟩
  have hPl : P1.length = 1 := by have := congrArg List.length hL1; rw [List.length_map] at this; exact this
  simp -implicitDefEqProofs only [go_sem, Nat.reduceBEq, Nat.reduceAdd, eq_self, true_and, and_true, and_self, List.getElem?_cons_zero, List.getElem?_cons_succ, Nat.reduceLeDiff, Nat.zero_add, Nat.reduceSub, Nat.le_refl, Nat.lt_irrefl]
  refine call_at (add_ok h1 (by omega) (v0_rd _) (by decide)) ?_
  rintro v τ2 ⟨rfl, s2, ov2, P2, h2, hP2, k2, -⟩
  refine ⟨kept_none, ?_⟩
  obtain ⟨he2, hf2⟩ := k2.fresh he1 hf1
  rw [hL1] at hP2
  have hL2 : cgL P2 = [cgF] := by rw [hP2]; decide
  have hPl2 : P2.length = 1 := by have := congrArg List.length hL2; rw [List.length_map] at this; exact this
  have hw2 : whyR (cgL P1) 3 cgF = 5 := by rw [hL1]; exact whyF2
  simp -implicitDefEqProofs only [go_sem, Nat.reduceBEq, Nat.reduceAdd, eq_self, true_and, and_true, and_self, List.getElem?_cons_zero, List.getElem?_cons_succ, Nat.reduceLeDiff, Nat.zero_add, Nat.reduceSub, Nat.le_refl, hw2, h55]
  refine call_at (len_ok h2) ?_
  rintro v τ3 ⟨rfl, hτ⟩
  have hτ := hτ.symm
  subst hτ
  refine ⟨kept_none, ?_⟩
  have hll : decide ((P2.length : Int) = 1) = true := by rw [hPl2]; rfl
  simp -implicitDefEqProofs only [go_sem, Nat.reduceBEq, Nat.reduceAdd, eq_self, true_and, and_true, and_self, List.getElem?_cons_zero, List.getElem?_cons_succ, Nat.reduceLeDiff, Nat.zero_add, Nat.reduceSub, Nat.le_refl, hll]
  refine call_at (last_ok h2 (by omega)) ?_
  rintro v τ3 ⟨rfl, hτ⟩
  have hτ := hτ.symm
  subst hτ
  refine ⟨kept_none, ?_⟩
  have hla : decide (lastR (cgL P2) = 1) = true := by rw [hL2]; decide
  simp -implicitDefEqProofs only [go_sem, Nat.reduceBEq, Nat.reduceAdd, eq_self, true_and, and_true, and_self, List.getElem?_cons_zero, List.getElem?_cons_succ, Nat.reduceLeDiff, Nat.zero_add, Nat.reduceSub, Nat.le_refl, hla]
  refine q2 _ _ ?_
  simp -implicitDefEqProofs only [go_sem, Nat.reduceBEq, Nat.reduceAdd, eq_self, true_and, and_true, and_self, List.getElem?_cons_zero, List.getElem?_cons_succ, Nat.reduceLeDiff, Nat.zero_add, Nat.reduceSub, Nat.le_refl, Nat.lt_irrefl]
  exact he2
/-- A late slice. -/
def FrD (lo : Nat) (τ : St) (p : V × Cg) : Prop := ∃ q, p.1 = .sl false (.own q) 1 (intsV .i64 p.2.deps) ∧ τ.live[q]? = some true ∧ lo ≤ q
theorem FrD.keep {lo : Nat} {τ τ' : St} {p : V × Cg} (h : FrD lo τ p) (k : ∀ r, lo ≤ r → τ.live[r]? = some true → τ'.live[r]? = some true) : FrD lo τ' p := by
  obtain ⟨q, h1, h2, h3⟩ := h
  exact ⟨q, h1, k _ h3 h2, h3⟩
/-- The log of some changes. -/
def logR (gs : List Cg) (room : Int) : List Cg := gs.foldl (fun L g => addR L room g) []
theorem logR_snoc (gs : List Cg) (g : Cg) (room : Int) : logR (gs ++ [g]) room = addR (logR gs room) room g := by simp [logR]
theorem logR_take {gs : List Cg} {y : Nat} (h : y < gs.length) (room : Int) : logR (gs.take (y + 1)) room = addR (logR (gs.take y) room) room gs[y] := by
  rw [List.take_succ_eq_append_getElem h, logR_snoc]
theorem addR_room {L : List Cg} {room : Int} {g : Cg} (h : L.length ≤ room.toNat) : (addR L room g).length ≤ room.toNat := by
  unfold addR
  cases hc : decide (whyR L room g = 0)
  · exact h
  · have := (why_fits (of_decide_eq_true hc)).room
    rw [cond_true, putC_len]; omega
theorem logR_good (gs : List Cg) (room : Int) : Good (logR gs room) := by
  unfold logR
  suffices ∀ (gs : List Cg) (L : List Cg), Good L → Good (gs.foldl (fun L g => addR L room g) L) from this gs [] good_nil
  intro gs
  induction gs with
  | nil => intro L h; exact h
  | cons a t ih => intro L h; exact ih _ (addR_good h)
theorem logR_room (gs : List Cg) (room : Int) : (logR gs room).length ≤ room.toNat := by
  unfold logR
  suffices ∀ (gs : List Cg) (L : List Cg), L.length ≤ room.toNat → (gs.foldl (fun L g => addR L room g) L).length ≤ room.toNat from this gs [] (Nat.zero_le _)
  intro gs
  induction gs with
  | nil => intro L h; exact h
  | cons a t ih => intro L h; exact ih _ (addR_room h)
theorem RdC.isSl {σ : St} {v : V} {gs : List Cg} (h : RdC σ v gs) : ∃ b R z es, v = V.sl b R z es := by
  obtain ⟨_, _, h, _⟩ := h
  obtain ⟨b, R, z, rfl, -, -⟩ := h
  exact ⟨b, R, z, _, rfl⟩
set_option maxRecDepth 100000 in
set_option maxHeartbeats 4000000 in
theorem filled_ok (hr : (decide (room < 1) || decide (room > 4096)) = false) (hv : RdC σ v gs) (hgs : gs.length ≤ 90000) (hb : ∀ g ∈ gs, g.deps.length + g.name.length + g.val.length < 1048576) :
    CallA Try.prog 12 [.int .i64 room, v] σ fun w σ' => ∃ i m s ov P u, w = .tup [.ptr (some (i, 0)), .agg [.int .i64 room, u]] ∧ LogIs σ' i (some m) s ov room P ∧ cgL P = logR gs room ∧ RdC σ' u (logR gs room) ∧ Ext σ σ' ∧ (∀ j, Own i (some m) s ov j → σ.objs.length ≤ j) ∧ ∀ p ∈ P, FrD σ.live.length σ' p := by
  obtain ⟨l, rfl, hv2, hds⟩ := id hv
  obtain ⟨b, R, z, rfl, -, -⟩ := id hv2
  have hr' := hr
  rw [Bool.or_eq_false_iff, decide_eq_false_iff_not, decide_eq_false_iff_not] at hr'
  refine fn_at Try.func12 (by decide) comp12 rfl fun Q q1 q2 => ?_
  have hcl := cgsV_len l
  rw [List.length_map] at hgs
  simp -implicitDefEqProofs only [go_sem, Nat.reduceBEq, Nat.reduceAdd, eq_self, true_and, and_true, and_self, List.getElem?_cons_zero, List.getElem?_cons_succ, Nat.reduceLeDiff, Nat.zero_add, Nat.reduceSub, Nat.le_refl, c12]
  refine call_at (new_ok hr) ?_
  rintro w τ ⟨rfl, h0, he0⟩
  refine ⟨kept_none, ?_⟩
  have hf0 : ∀ j, Own (σ.objs.length + 1) (some σ.objs.length) (.sl true .pub 0 []) nilO j → σ.objs.length ≤ j := fun j hj => by
    rcases own_new hj with rfl | h
    · omega
    · cases h; omega
  generalize σ.objs.length + 1 = i at h0 hf0 ⊢
  generalize hm : σ.objs.length = m at h0 hf0
  simp -implicitDefEqProofs only [go_sem, Nat.reduceBEq, Nat.reduceAdd, eq_self, true_and, and_true, and_self, List.getElem?_cons_zero, List.getElem?_cons_succ, Nat.reduceLeDiff, Nat.zero_add, Nat.reduceSub, Nat.le_refl, flats, V.flat]
  refine loop_at (fun (y : Nat × V) => ⟨[(1, .v (.sl b R z (cgsV l))), (5, .loc 5 0), (6, .v (.ptr (some (i, 0)))), (8, .loc 8 0), (9, .v (.int .i64 y.1))], [(5, [.int .i64 0, .sl true .pub 0 []]), (8, [.int .i64 room, y.2])]⟩)
    (fun y t => y.1 ≤ l.length ∧ Ext σ t ∧ RdC t y.2 (logR ((l.map (·.2)).take y.1) room) ∧ ∃ s ov P, LogIs t i (some m) s ov room P ∧ cgL P = logR ((l.map (·.2)).take y.1) room ∧ (∀ j, Own i (some m) s ov j → σ.objs.length ≤ j) ∧ ∀ p ∈ P, FrD σ.live.length t p) (fun y => l.length - y.1) (0, .sl true .pub 0 []) ?_ ?_ ?_
  · refine .inr ?_
    simp -implicitDefEqProofs only [go_sem, Nat.reduceBEq, Nat.reduceAdd, eq_self, true_and, and_true, and_self, List.getElem?_cons_zero, List.getElem?_cons_succ, Nat.reduceLeDiff, Nat.zero_add, Nat.reduceSub, Nat.le_refl, Nat.lt_irrefl]
    try exact ⟨rfl, rfl⟩
    try exact rfl
  · exact ⟨Nat.zero_le _, he0, ⟨[], rfl, ⟨_, _, _, rfl, fun _ => rfl, .inl rfl⟩, by intro p hp; cases hp⟩, _, _, [], h0, rfl, (by rw [hm]; exact hf0), by intro p hp; cases hp⟩
  rintro ⟨y, u⟩ t ⟨g1, g2, g3, s, ov, P, g4, g5, g6, g7⟩ Z z1 z2 z3
  simp only at g1 g3 g5
  have hPr : P.length ≤ 4096 := by
    have h1 := logR_room ((l.map (·.2)).take y) room
    rw [← g5, map2_len] at h1
    omega
  simp -implicitDefEqProofs only [go_sem, Nat.reduceBEq, Nat.reduceAdd, eq_self, true_and, and_true, and_self, List.getElem?_cons_zero, List.getElem?_cons_succ, Nat.reduceLeDiff, Nat.zero_add, Nat.reduceSub, Nat.le_refl, hcl]
  cases hc : decide ((y : Int) < l.length)
  · have hy : y = l.length := by have := of_decide_eq_false hc; omega
    rw [List.take_of_length_le (by rw [List.length_map]; omega)] at g3 g5
    obtain ⟨b3, R3, z3', es3, rfl⟩ := g3.isSl
    simp -implicitDefEqProofs only [go_sem, Nat.reduceBEq, Nat.reduceAdd, eq_self, true_and, and_true, and_self, List.getElem?_cons_zero, List.getElem?_cons_succ, Nat.reduceLeDiff, Nat.zero_add, Nat.reduceSub, Nat.le_refl, hc]
    refine z2 _ _ _ ?_
    simp -implicitDefEqProofs only [go_sem, Nat.reduceBEq, Nat.reduceAdd, eq_self, true_and, and_true, and_self, List.getElem?_cons_zero, List.getElem?_cons_succ, Nat.reduceLeDiff, Nat.zero_add, Nat.reduceSub, Nat.le_refl, flats, V.flat]
    refine q2 _ _ ?_
    simp -implicitDefEqProofs only [go_sem, Nat.reduceBEq, Nat.reduceAdd, eq_self, true_and, and_true, and_self, List.getElem?_cons_zero, List.getElem?_cons_succ, Nat.reduceLeDiff, Nat.zero_add, Nat.reduceSub, Nat.le_refl, Nat.lt_irrefl]
    exact ⟨_, _, s, ov, P, _, rfl, g4, g5, g3, g2, g6, g7⟩
  · have hi : y < l.length := by have := of_decide_eq_true hc; omega
    have hget := cgsV_get hi
    have hwy : IntKind.i64.wrap ((y : Int) + 1) = ((y + 1 : Nat) : Int) := by rw [i64_in _ (by omega)]; omega
    obtain ⟨k1, k2⟩ := rdl (hv2.ext g2) (cgsV_ne hi)
    have hdi := hds _ (List.getElem_mem hi)
    have hbi := hb _ (List.mem_map_of_mem (List.getElem_mem hi))
    have htk : logR ((l.map (·.2)).take (y + 1)) room = addR (logR ((l.map (·.2)).take y) room) room l[y].2 := by
      rw [logR_take (by simpa using hi)]; simp
    generalize l[y] = p at hget htk hdi hbi
    obtain ⟨d2, g⟩ := p
    simp only at hget htk hdi hbi
    obtain ⟨db, dr, dz, rfl, -, -⟩ := id hdi
    have had := add_ok g4 (by omega) (hdi.ext g2) (by omega)
    simp only [cgV, cgC] at had
    simp -implicitDefEqProofs only [go_sem, Nat.reduceBEq, Nat.reduceAdd, eq_self, true_and, and_true, and_self, List.getElem?_cons_zero, List.getElem?_cons_succ, Nat.reduceLeDiff, Nat.zero_add, Nat.reduceSub, Nat.le_refl, hc, hcl, hget, cgC]
    refine ⟨⟨by omega, by omega, k2⟩, k1, ?_⟩
    refine call_at had ?_
    rintro w t1 ⟨rfl, s1, ov1, P1, h1, hP1, kt, hnw⟩
    refine ⟨kept_none, ?_⟩
    obtain ⟨he1, hf1⟩ := kt.fresh g2 g6
    have g3' : RdC t1 u (logR ((l.map (·.2)).take y) room) := by
      obtain ⟨l', e1, e2, e3⟩ := g3
      exact ⟨l', e1, rdS_up e2 kt.upd, fun p hp => rdS_up (e3 p hp) kt.upd⟩
    obtain ⟨b3, R3, z3', es3, rfl⟩ := g3.isSl
    have hgd := logR_good ((l.map (·.2)).take y) room
    have hra := radd_ok (room := room) (σ := t1) (d := .sl db dr dz (intsV .i64 g.deps)) (g := g) g3' (by rw [← g5, map2_len]; omega) (hdi.ext he1) (by omega) (fun h hh => by have := hgd.deps h hh; omega) (by omega)
    simp only [cgV, cgC] at hra
    obtain ⟨k1', k2'⟩ := rdl (hv2.ext he1) (cgsV_ne hi)
    simp -implicitDefEqProofs only [go_sem, Nat.reduceBEq, Nat.reduceAdd, eq_self, true_and, and_true, and_self, List.getElem?_cons_zero, List.getElem?_cons_succ, Nat.reduceLeDiff, Nat.zero_add, Nat.reduceSub, Nat.le_refl, hc, hcl, hget, cgC]
    refine ⟨⟨by omega, by omega, k2'⟩, k1', ?_⟩
    refine call_at hra ?_
    rintro w t2 ⟨⟨u2, rfl, hu2⟩, e2, o2⟩
    refine ⟨e2.kept, ?_⟩
    obtain ⟨b4, R4, z4, es4, rfl⟩ := hu2.isSl
    simp -implicitDefEqProofs only [go_sem, Nat.reduceBEq, Nat.reduceAdd, eq_self, true_and, and_true, and_self, List.getElem?_cons_zero, List.getElem?_cons_succ, Nat.reduceLeDiff, Nat.zero_add, Nat.reduceSub, Nat.le_refl, hwy, flats, V.flat]
    refine z1 (y + 1, _) _ _ (.inr ?_) (by simp only; omega) ⟨by simp only; omega, he1.trans e2, by rw [htk]; exact hu2, s1, ov1, P1, h1.ext e2, by rw [htk, hP1, g5], hf1, fun p hp => ?_⟩
    · simp -implicitDefEqProofs only [go_sem, Nat.reduceBEq, Nat.reduceAdd, eq_self, true_and, and_true, and_self, List.getElem?_cons_zero, List.getElem?_cons_succ, Nat.reduceLeDiff, Nat.zero_add, Nat.reduceSub, Nat.le_refl, hwy]
      try exact ⟨rfl, rfl⟩
      try exact rfl
    · rcases hnw p hp with hp | ⟨q, x1, x2, x3⟩
      · exact (g7 p hp).keep fun r _ hr => e2.live _ (kt.upd.live _ hr)
      · exact ⟨q, x1, e2.live _ x2, Nat.le_trans g2.llen x3⟩
set_option maxRecDepth 100000 in
set_option maxHeartbeats 4000000 in
theorem told_ok {u : V} (h : LogIs σ i mo s ov room P) (hl : P.length ≤ 1000000) (hu : RdC σ u (cgL P)) :
    CallA Try.prog 36 [.ptr (some (i, 0)), .agg [.int .i64 room, u]] σ fun w σ' => w = .bool true ∧ Ext σ σ' := by
  obtain ⟨b, R, z, es, rfl⟩ := hu.isSl
  have hesl : es.length = P.length := by
    obtain ⟨l, e1, ⟨_, _, _, e2, -, -⟩, -⟩ := hu
    cases e2
    rw [cgsV_len, ← map2_len, e1, map2_len]
  refine fn_at Try.func36 (by decide) comp36 rfl fun Q q1 q2 => ?_
  simp -implicitDefEqProofs only [go_sem, Nat.reduceBEq, Nat.reduceAdd, eq_self, true_and, and_true, and_self, List.getElem?_cons_zero, List.getElem?_cons_succ, Nat.reduceLeDiff, Nat.zero_add, Nat.reduceSub, Nat.le_refl, c36]
  refine call_at (len_ok h) ?_
  rintro w τ ⟨rfl, hτ⟩
  have hτ := hτ.symm
  subst hτ
  refine ⟨(Ext.refl _).kept, ?_⟩
  have hd1 : decide ((P.length : Int) = es.length) = true := by rw [hesl]; simp
  simp -implicitDefEqProofs only [go_sem, Nat.reduceBEq, Nat.reduceAdd, eq_self, true_and, and_true, and_self, List.getElem?_cons_zero, List.getElem?_cons_succ, Nat.reduceLeDiff, Nat.zero_add, Nat.reduceSub, Nat.le_refl, hd1]
  refine call_at (room_ok h) ?_
  rintro w τ ⟨rfl, hτ⟩
  have hτ := hτ.symm
  subst hτ
  refine ⟨(Ext.refl _).kept, ?_⟩
  simp -implicitDefEqProofs only [go_sem, Nat.reduceBEq, Nat.reduceAdd, eq_self, true_and, and_true, and_self, List.getElem?_cons_zero, List.getElem?_cons_succ, Nat.reduceLeDiff, Nat.zero_add, Nat.reduceSub, Nat.le_refl, Nat.lt_irrefl]
  refine call_at (last_ok h hl) ?_
  rintro w τ ⟨rfl, hτ⟩
  have hτ := hτ.symm
  subst hτ
  refine ⟨(Ext.refl _).kept, ?_⟩
  simp -implicitDefEqProofs only [go_sem, Nat.reduceBEq, Nat.reduceAdd, eq_self, true_and, and_true, and_self, List.getElem?_cons_zero, List.getElem?_cons_succ, Nat.reduceLeDiff, Nat.zero_add, Nat.reduceSub, Nat.le_refl, Nat.lt_irrefl]
  refine call_at (rlast_ok hu (by rw [map2_len]; exact hl)) ?_
  rintro w τ ⟨rfl, hτ⟩
  have hτ := hτ.symm
  subst hτ
  refine ⟨(Ext.refl _).kept, ?_⟩
  simp -implicitDefEqProofs only [go_sem, Nat.reduceBEq, Nat.reduceAdd, eq_self, true_and, and_true, and_self, List.getElem?_cons_zero, List.getElem?_cons_succ, Nat.reduceLeDiff, Nat.zero_add, Nat.reduceSub, Nat.le_refl, Nat.lt_irrefl]
  refine call_at (pclock_ok h) ?_
  rintro w τ ⟨⟨o1, z1, t1, r1⟩, e1⟩
  refine ⟨e1.kept, ?_⟩
  simp -implicitDefEqProofs only [go_sem, Nat.reduceBEq, Nat.reduceAdd, eq_self, true_and, and_true, and_self, List.getElem?_cons_zero, List.getElem?_cons_succ, Nat.reduceLeDiff, Nat.zero_add, Nat.reduceSub, Nat.le_refl, Nat.lt_irrefl]
  refine call_at (rclk_ok (hu.ext e1) (by rw [map2_len]; omega)) ?_
  rintro w2 τ2 ⟨⟨o2, z2, t2, r2⟩, e2, -⟩
  refine ⟨e2.kept, ?_⟩
  have ho := t1.uniq t2
  subst ho
  have hol : o1.length ≤ 64 := by
    have := congrArg List.length t1.1
    rw [cnts_len, List.length_append] at this
    omega
  simp -implicitDefEqProofs only [go_sem, Nat.reduceBEq, Nat.reduceAdd, eq_self, true_and, and_true, and_self, List.getElem?_cons_zero, List.getElem?_cons_succ, Nat.reduceLeDiff, Nat.zero_add, Nat.reduceSub, Nat.le_refl, Nat.lt_irrefl]
  refine call_at (rsame_ok (r1.ext e2) r2 (by omega)) ?_
  rintro w3 τ3 ⟨hτ, rfl⟩
  have hτ := hτ.symm
  subst hτ
  refine ⟨(Ext.refl _).kept, ?_⟩
  have e3 := e1.trans e2
  have hoo : decide (o1 = o1) = true := decide_eq_true rfl
  simp -implicitDefEqProofs only [go_sem, Nat.reduceBEq, Nat.reduceAdd, eq_self, true_and, and_true, and_self, List.getElem?_cons_zero, List.getElem?_cons_succ, Nat.reduceLeDiff, Nat.zero_add, Nat.reduceSub, Nat.le_refl, hoo]
  refine call_at (all_ok (h.ext e3) hl) ?_
  rintro w4 τ4 ⟨n1, e4⟩
  refine ⟨e4.kept, ?_⟩
  simp -implicitDefEqProofs only [go_sem, Nat.reduceBEq, Nat.reduceAdd, eq_self, true_and, and_true, and_self, List.getElem?_cons_zero, List.getElem?_cons_succ, Nat.reduceLeDiff, Nat.zero_add, Nat.reduceSub, Nat.le_refl, Nat.lt_irrefl]
  refine call_at (sameAll_ok n1.rd ((hu.ext e3).ext e4) (by rw [map2_len]; omega) fun g hg => by have := h.good.deps g hg; omega) ?_
  rintro w5 τ5 ⟨hτ, rfl⟩
  have hτ := hτ.symm
  subst hτ
  refine ⟨(Ext.refl _).kept, ?_⟩
  have hpp : decide (cgL P = cgL P) = true := decide_eq_true rfl
  simp -implicitDefEqProofs only [go_sem, Nat.reduceBEq, Nat.reduceAdd, eq_self, true_and, and_true, and_self, List.getElem?_cons_zero, List.getElem?_cons_succ, Nat.reduceLeDiff, Nat.zero_add, Nat.reduceSub, Nat.le_refl, hpp]
  refine q2 _ _ ?_
  simp -implicitDefEqProofs only [go_sem, Nat.reduceBEq, Nat.reduceAdd, eq_self, true_and, and_true, and_self, List.getElem?_cons_zero, List.getElem?_cons_succ, Nat.reduceLeDiff, Nat.zero_add, Nat.reduceSub, Nat.le_refl, Nat.lt_irrefl]
  exact e3.trans e4
set_option maxRecDepth 100000 in
set_option maxHeartbeats 4000000 in
theorem told_nil : CallA Try.prog 36 [.ptr none, .agg [.int .i64 0, .sl true .pub 0 []]] σ fun w σ' => w = .bool true ∧ Ext σ σ' := by
  have hu : ∀ τ : St, RdC τ (.sl true .pub 0 []) [] := fun τ => ⟨[], rfl, ⟨_, _, _, rfl, fun _ => rfl, .inl rfl⟩, by intro p hp; cases hp⟩
  refine fn_at Try.func36 (by decide) comp36 rfl fun Q q1 q2 => ?_
  have h00 : decide ((0 : Int) = ((0 : Nat) : Int)) = true := rfl
  have h01 : decide ((0 : Int) = 0) = true := rfl
  have hl0 : decide ((0 : Int) = lastR []) = true := rfl
  simp -implicitDefEqProofs only [go_sem, Nat.reduceBEq, Nat.reduceAdd, eq_self, true_and, and_true, and_self, List.getElem?_cons_zero, List.getElem?_cons_succ, Nat.reduceLeDiff, Nat.zero_add, Nat.reduceSub, Nat.le_refl, c36]
  refine call_at len_nil ?_
  rintro w τ ⟨rfl, hτ⟩
  have hτ := hτ.symm
  subst hτ
  refine ⟨(Ext.refl _).kept, ?_⟩
  simp -implicitDefEqProofs only [go_sem, Nat.reduceBEq, Nat.reduceAdd, eq_self, true_and, and_true, and_self, List.getElem?_cons_zero, List.getElem?_cons_succ, Nat.reduceLeDiff, Nat.zero_add, Nat.reduceSub, Nat.le_refl, h00]
  refine call_at room_nil ?_
  rintro w τ ⟨rfl, hτ⟩
  have hτ := hτ.symm
  subst hτ
  refine ⟨(Ext.refl _).kept, ?_⟩
  simp -implicitDefEqProofs only [go_sem, Nat.reduceBEq, Nat.reduceAdd, eq_self, true_and, and_true, and_self, List.getElem?_cons_zero, List.getElem?_cons_succ, Nat.reduceLeDiff, Nat.zero_add, Nat.reduceSub, Nat.le_refl, h01]
  refine call_at last_nil ?_
  rintro w τ ⟨rfl, hτ⟩
  have hτ := hτ.symm
  subst hτ
  refine ⟨(Ext.refl _).kept, ?_⟩
  simp -implicitDefEqProofs only [go_sem, Nat.reduceBEq, Nat.reduceAdd, eq_self, true_and, and_true, and_self, List.getElem?_cons_zero, List.getElem?_cons_succ, Nat.reduceLeDiff, Nat.zero_add, Nat.reduceSub, Nat.le_refl, Nat.lt_irrefl]
  refine call_at (rlast_ok (hu _) (by simp)) ?_
  rintro w τ ⟨rfl, hτ⟩
  have hτ := hτ.symm
  subst hτ
  refine ⟨(Ext.refl _).kept, ?_⟩
  simp -implicitDefEqProofs only [go_sem, Nat.reduceBEq, Nat.reduceAdd, eq_self, true_and, and_true, and_self, List.getElem?_cons_zero, List.getElem?_cons_succ, Nat.reduceLeDiff, Nat.zero_add, Nat.reduceSub, Nat.le_refl, hl0]
  refine call_at pclock_nil ?_
  rintro w τ ⟨rfl, hτ⟩
  have hτ := hτ.symm
  subst hτ
  refine ⟨(Ext.refl _).kept, ?_⟩
  simp -implicitDefEqProofs only [go_sem, Nat.reduceBEq, Nat.reduceAdd, eq_self, true_and, and_true, and_self, List.getElem?_cons_zero, List.getElem?_cons_succ, Nat.reduceLeDiff, Nat.zero_add, Nat.reduceSub, Nat.le_refl, Nat.lt_irrefl]
  refine call_at (rclk_ok (hu _) (by simp)) ?_
  rintro w2 τ2 ⟨⟨o2, z2, t2, r2⟩, e2, -⟩
  refine ⟨e2.kept, ?_⟩
  have t0 : Trims (cnts []) [] 64 := ⟨by rw [cnts_nil]; rfl, .inl rfl⟩
  have ho := t0.uniq t2
  subst ho
  simp -implicitDefEqProofs only [go_sem, Nat.reduceBEq, Nat.reduceAdd, eq_self, true_and, and_true, and_self, List.getElem?_cons_zero, List.getElem?_cons_succ, Nat.reduceLeDiff, Nat.zero_add, Nat.reduceSub, Nat.le_refl, Nat.lt_irrefl]
  refine call_at (rsame_ok (l := []) ⟨_, _, _, rfl, fun _ => rfl, .inl rfl⟩ r2 (by simp)) ?_
  rintro w3 τ3 ⟨hτ, rfl⟩
  have hτ := hτ.symm
  subst hτ
  refine ⟨(Ext.refl _).kept, ?_⟩
  have hoo : decide (([] : List Int) = []) = true := rfl
  simp -implicitDefEqProofs only [go_sem, Nat.reduceBEq, Nat.reduceAdd, eq_self, true_and, and_true, and_self, List.getElem?_cons_zero, List.getElem?_cons_succ, Nat.reduceLeDiff, Nat.zero_add, Nat.reduceSub, Nat.le_refl, hoo]
  refine call_at all_nil ?_
  rintro w4 τ4 ⟨n1, e4⟩
  refine ⟨e4.kept, ?_⟩
  simp -implicitDefEqProofs only [go_sem, Nat.reduceBEq, Nat.reduceAdd, eq_self, true_and, and_true, and_self, List.getElem?_cons_zero, List.getElem?_cons_succ, Nat.reduceLeDiff, Nat.zero_add, Nat.reduceSub, Nat.le_refl, Nat.lt_irrefl]
  refine call_at (sameAll_ok n1.rd (hu _) (by simp) fun g hg => by cases hg) ?_
  rintro w5 τ5 ⟨hτ, rfl⟩
  have hτ := hτ.symm
  subst hτ
  refine ⟨(Ext.refl _).kept, ?_⟩
  have hpp : decide (([] : List Cg) = []) = true := rfl
  simp -implicitDefEqProofs only [go_sem, Nat.reduceBEq, Nat.reduceAdd, eq_self, true_and, and_true, and_self, List.getElem?_cons_zero, List.getElem?_cons_succ, Nat.reduceLeDiff, Nat.zero_add, Nat.reduceSub, Nat.le_refl, hpp]
  refine q2 _ _ ?_
  simp -implicitDefEqProofs only [go_sem, Nat.reduceBEq, Nat.reduceAdd, eq_self, true_and, and_true, and_self, List.getElem?_cons_zero, List.getElem?_cons_succ, Nat.reduceLeDiff, Nat.zero_add, Nat.reduceSub, Nat.le_refl, Nat.lt_irrefl]
  exact e2.trans e4
end
end Go.VL.opl

namespace Go.VL.opl
open Go Go.VL Go.Proofs Go.IntWalk Go.VL.st Go.VL.row

section
variable {σ : St} {v d kv : V} {room n most : Int} {k : List Int} {gs : List Cg} {g : Cg}
/-- What the answer has: a late slice of changes whose slices are anybody's or late. -/
def AnsC (lo : Nat) (τ : St) (u : V) (L : List Cg) : Prop :=
  ((L = [] ∧ u = .sl true .pub 0 []) ∨ ∃ O q, u = .sl false (.own q) 13 (cgsV O) ∧ lo ≤ q ∧ τ.live[q]? = some true ∧ O.map (·.2) = L ∧ ∀ p ∈ O, (∀ σ, RdS σ p.1 1 (intsV .i64 p.2.deps)) ∨ FrD lo τ p)
theorem AnsC.keep {lo : Nat} {τ τ' : St} {u : V} {L : List Cg} (h : AnsC lo τ u L) (k : ∀ r, lo ≤ r → τ.live[r]? = some true → τ'.live[r]? = some true) : AnsC lo τ' u L := by
  refine h.imp_right ?_
  rintro ⟨O, q, h1, h2, h3, h4, h5⟩
  exact ⟨O, q, h1, h2, k _ h2 h3, h4, fun p hp => (h5 p hp).imp_right fun h => h.keep k⟩
theorem FrD.rd {lo : Nat} {τ : St} {p : V × Cg} (h : FrD lo τ p) : RdS τ p.1 1 (intsV .i64 p.2.deps) := by
  obtain ⟨q, h1, h2, -⟩ := h
  rw [h1]; exact ⟨_, _, _, rfl, by simp, .inr ⟨h2, rfl⟩⟩
theorem AnsC.lst {lo : Nat} {τ : St} {u : V} {L : List Cg} (h : AnsC lo τ u L) : ∃ l : List (V × Cg), l.map (·.2) = L ∧ RdS τ u 13 (cgsV l) ∧ Rds τ l ∧ ∀ p ∈ l, (∀ σ, RdS σ p.1 1 (intsV .i64 p.2.deps)) ∨ FrD lo τ p := by
  rcases h with ⟨rfl, rfl⟩ | ⟨O, q, rfl, h2, h3, h4, h5⟩
  · exact ⟨[], rfl, ⟨_, _, _, rfl, fun _ => rfl, .inl rfl⟩, (by intro p hp; cases hp), by intro p hp; cases hp⟩
  · exact ⟨O, h4, ⟨_, _, _, rfl, by simp, .inr ⟨h3, rfl⟩⟩, (fun p hp => (h5 p hp).elim (fun h => h τ) fun h => h.rd), h5⟩
theorem AnsC.rdC {lo : Nat} {τ : St} {u : V} {L : List Cg} (h : AnsC lo τ u L) : RdC τ u L := by
  obtain ⟨l, h1, h2, h3, -⟩ := h.lst
  exact ⟨l, h1, h2, h3⟩
end
theorem but_step {t : St} {q r : Nat} (h : (St.but t q).live[r]? = some true) : (St.but ⟨t.objs, t.live.set q false ++ [true]⟩ t.live.length).live[r]? = some true := by
  have hl : r < (t.live.set q false).length := (List.getElem?_eq_some_iff.1 h).1
  show ((t.live.set q false ++ [true]).set t.live.length false)[r]? = _
  rw [List.getElem?_set_ne (by simp at hl; omega), List.getElem?_append_left hl]
  exact h
theorem but_keep {t t' : St} {q r : Nat} (k : ∀ r : Nat, t.live[r]? = some true → t'.live[r]? = some true) (h : (St.but t q).live[r]? = some true) : (St.but t' q).live[r]? = some true := by
  obtain ⟨h1, h2⟩ := live_but h
  show (t'.live.set q false)[r]? = some true
  rw [List.getElem?_set_ne (Ne.symm h1)]
  exact k r h2
theorem but_live {t : St} {q r : Nat} (h : (St.but t q).live[r]? = some true) : t.live[r]? = some true := (live_but h).2
theorem but_in {t : St} {q r : Nat} (hr : r ≠ q) (h : t.live[r]? = some true) : (St.but t q).live[r]? = some true := by
  show (t.live.set q false)[r]? = some true
  rw [List.getElem?_set_ne (Ne.symm hr)]; exact h
theorem LogIs.lv {τ : St} {lv : List Bool} {i : Nat} {mo : Option Nat} {s : V} {ov : List V} {room : Int} {P : List (V × Cg)} (h : LogIs τ i mo s ov room P) (hr : Rds ⟨τ.objs, lv⟩ P) : LogIs ⟨τ.objs, lv⟩ i mo s ov room P :=
  ⟨h.cells, h.ovl, h.row, hr, (by have := h.map; cases mo <;> exact this), h.own, h.sep, h.good⟩
theorem fidx_some {α : Type} {p : α → Bool} {l : List α} {a : α} (h : l.find? p = some a) : ∃ (i : Nat) (hi : i < l.length), fidx p l = i ∧ l[i] = a := by
  obtain ⟨hp, i, hi, e, h2⟩ := List.find?_eq_some_iff_getElem.1 h
  refine ⟨i, hi, fidx_at hi ?_ (by rw [e]; exact hp), e⟩
  rw [List.any_eq_false]
  intro y hy
  obtain ⟨j, hj, rfl⟩ := List.getElem_of_mem hy
  rw [List.getElem_take]
  have := h2 j (by simp at hj; omega)
  simpa using this
theorem fidx_no {α : Type} {p : α → Bool} {l : List α} (h : l.find? p = none) : fidx p l = -1 := by
  refine fidx_none ?_
  rw [List.any_eq_false]
  exact List.find?_eq_none.1 h
/-- A change out of a list. -/
theorem rdC_get {σ : St} {b : Bool} {R : R} {z : Nat} {es : List (List V)} {L : List Cg} {i : Nat} (h : RdC σ (.sl b R z es) L) (hi : i < L.length) : ∃ d, es[i]?.getD [] = cgC d L[i] ∧ RdS σ d 1 (intsV .i64 L[i].deps) ∧ (i : Int) < es.length ∧ (b = true ∨ z = 13 → z = 13 ∨ b = true) ∧ rd σ.live R ∧ z = 13 ∧ es.length = L.length := by
  obtain ⟨l, rfl, ⟨_, _, _, e, h1, h2⟩, h3⟩ := h
  cases e
  have hi' : i < l.length := by simpa using hi
  refine ⟨l[i].1, ?_, ?_, ?_, fun h => h.symm, ?_, ?_, ?_⟩
  · have := cgsV_get hi'
    simpa using this
  · have := h3 _ (List.getElem_mem hi')
    simpa using this
  · rw [cgsV_len]; omega
  · rcases h2 with h2 | h2
    · have := h1 h2
      have hl := congrArg List.length this
      rw [cgsV_len] at hl
      simp only [List.length_nil] at hl
      omega
    · exact h2.1
  · rcases h2 with h2 | h2
    · have := h1 h2
      have hl := congrArg List.length this
      rw [cgsV_len] at hl
      simp only [List.length_nil] at hl
      omega
    · exact h2.2
  · rw [cgsV_len, List.length_map]
end Go.VL.opl

namespace Go.VL.opl
open Go Go.VL Go.Proofs
/-- topiary/topiarylaw07.OplogGoes: 3 parameters, 117 slots. -/
def c3 : C :=
  .seq (.ops [⟨none, .bxH 5 (.t 2)⟩,
    ⟨none, .alH 6 [.bool false]⟩])
  (.seq (.ops [⟨none, .mv 19 (.t 0)⟩,
    ⟨none, .ca (some 20) 12 [(.c (.int .i64 50)), (.t 19)]⟩,
    ⟨none, .mv 18 (.t 20)⟩,
    ⟨none, .ex 21 (.t 18) 0⟩,
    ⟨none, .ex 22 (.t 18) 1⟩,
    ⟨none, .alL 8 [.int .i64 0, .sl true .pub 0 []]⟩,
    ⟨none, .mv 7 (.t 21)⟩,
    ⟨none, .st (.t 8) (.t 22) 2⟩])
  (.seq (.ops [⟨none, .lit 23 1 []⟩,
    ⟨none, .mv 24 (.t 1)⟩,
    ⟨none, .ap 25 1 (.t 23) (.t 24)⟩,
    ⟨none, .mv 9 (.t 25)⟩])
  (.seq (.ops [⟨none, .mv 26 (.t 7)⟩,
    ⟨none, .mv 27 (.t 9)⟩,
    ⟨none, .ca (some 28) 13 [(.t 26), (.t 27)]⟩,
    ⟨none, .mv 10 (.t 28)⟩])
  (.seq (.seq (.ops [⟨none, .mv 29 (.t 10)⟩,
    ⟨none, .bq 30 false .fn (.t 29) (.c (.nilf))⟩])
  (.cond (.t 30) (.seq (.ops [⟨none, .st (.t 6) (.c (.bool false)) 1⟩])
    (.ret))
    (.skip)))
  (.seq (.seq (.ops [⟨none, .mv 11 (.c (.int .i64 0))⟩])
  (.block 0 (.loop (.seq (.seq (.ops [⟨none, .mv 31 (.t 11)⟩,
    ⟨none, .mv 32 (.t 9)⟩,
    ⟨none, .ln 33 .sl (.t 32)⟩,
    ⟨none, .bi 34 .lss (.t 31) (.t 33)⟩])
  (.cond (.t 34) (.skip)
    (.exit 0)))
  (.seq (.block 1 (.ops [⟨none, .mv 37 (.t 9)⟩,
    ⟨none, .mv 38 (.t 11)⟩,
    ⟨none, .ia 39 (.t 37) (.t 38) 1⟩,
    ⟨none, .se (.t 39) (.c (.int .i64 1)) 1⟩]))
  (.ops [⟨none, .mv 35 (.t 11)⟩,
    ⟨none, .bi 36 .add (.t 35) (.c (.int .i64 1))⟩,
    ⟨none, .mv 11 (.t 36)⟩]))))))
  (.seq (.ops [⟨none, .mv 40 (.t 7)⟩,
    ⟨none, .ca (some 41) 15 []⟩,
    ⟨none, .ca (some 42) 14 [(.t 40), (.t 41)]⟩])
  (.seq (.ops [⟨none, .lit 43 13 []⟩,
    ⟨none, .alH 12 [.sl true .pub 0 []]⟩,
    ⟨none, .st (.t 12) (.t 43) 1⟩])
  (.cut (.seq (.ops [⟨none, .mv 44 (.t 1)⟩,
    ⟨none, .ca (some 45) 16 [(.t 44)]⟩,
    ⟨none, .bi 46 .eql (.t 45) (.c (.int .i64 0))⟩])
  (.cond (.t 46) (.ops [⟨none, .fa 47 (.t 8) 1⟩,
      ⟨none, .ld 48 (.t 47) 1 false⟩,
      ⟨none, .mv 49 (.t 1)⟩,
      ⟨none, .ca (some 50) 17 [(.t 48), (.t 49)]⟩,
      ⟨none, .st (.t 12) (.t 50) 1⟩])
    (.skip)))
  (.seq (.ops [⟨none, .alH 13 [.int .i64 0]⟩,
    ⟨none, .st (.t 13) (.c (.int .i64 0)) 1⟩])
  (.cut (.seq (.ops [⟨none, .mv 51 (.t 10)⟩])
  (.block 2 (.range (.t 51) [52] (.ops [⟨none, .alL 14 [.int .i64 0, .int .i64 0, .int .i64 0, .sl true .pub 0 [], .int .i64 0, .int .i64 0, .int .i64 0, .int .i64 0, .int .i64 0, .int .i64 0, .int .i64 0, .str [], .str []]⟩,
    ⟨none, .st (.t 14) (.t 52) 13⟩])
  (.block 3 (.seq (.seq (.ops [⟨none, .ld 53 (.t 13) 1 false⟩,
    ⟨none, .ld 54 (.t 5) 1 false⟩,
    ⟨none, .bi 55 .eql (.t 53) (.t 54)⟩])
  (.cond (.t 55) (.exit 2)
    (.skip)))
  (.seq (.seq (.opsD [⟨none, .ld 56 (.t 13) 1 false⟩,
    ⟨none, .ld 57 (.t 12) 1 false⟩,
    ⟨none, .ln 58 .sl (.t 57)⟩,
    ⟨none, .bi 59 .geq (.t 56) (.t 58)⟩,
    ⟨none, .mv 60 (.t 59)⟩,
    ⟨some (60, false), .ld 61 (.t 14) 13 true⟩,
    ⟨some (60, false), .ld 62 (.t 12) 1 false⟩,
    ⟨some (60, false), .ld 63 (.t 13) 1 false⟩,
    ⟨some (60, false), .ia 64 (.t 62) (.t 63) 13⟩,
    ⟨some (60, false), .ld 65 (.t 64) 13 true⟩,
    ⟨some (60, false), .ca (some 66) 18 [(.t 61), (.t 65)]⟩,
    ⟨some (60, false), .un 67 .not (.t 66)⟩,
    ⟨none, .pk 68 (.t 60) (.c (.bool true)) (.t 67)⟩])
  (.cond (.t 68) (.seq (.ops [⟨none, .st (.t 6) (.c (.bool false)) 1⟩])
    (.ret))
    (.skip)))
  (.seq (.ops [⟨none, .ld 69 (.t 13) 1 false⟩,
    ⟨none, .bi 70 .add (.t 69) (.c (.int .i64 1))⟩,
    ⟨none, .st (.t 13) (.t 70) 1⟩])
  (.seq (.ops [⟨none, .mv 15 (.c (.int .i64 0))⟩])
  (.block 4 (.loop (.seq (.seq (.ops [⟨none, .mv 71 (.t 15)⟩,
    ⟨none, .fa 72 (.t 14) 3⟩,
    ⟨none, .ld 73 (.t 72) 1 false⟩,
    ⟨none, .ln 74 .sl (.t 73)⟩,
    ⟨none, .bi 75 .lss (.t 71) (.t 74)⟩])
  (.cond (.t 75) (.skip)
    (.exit 4)))
  (.seq (.block 5 (.ops [⟨none, .fa 78 (.t 14) 3⟩,
    ⟨none, .ld 79 (.t 78) 1 false⟩,
    ⟨none, .mv 80 (.t 15)⟩,
    ⟨none, .ia 81 (.t 79) (.t 80) 1⟩,
    ⟨none, .se (.t 81) (.c (.int .i64 (-7))) 1⟩]))
  (.ops [⟨none, .mv 76 (.t 15)⟩,
    ⟨none, .bi 77 .add (.t 76) (.c (.int .i64 1))⟩,
    ⟨none, .mv 15 (.t 77)⟩])))))))))))))
  (.seq (.ops [⟨none, .alH 16 [.int .i64 0]⟩,
    ⟨none, .st (.t 16) (.c (.int .i64 0)) 1⟩])
  (.seq (.seq (.ops [⟨none, .mv 82 (.t 10)⟩])
  (.block 6 (.range (.t 82) [83] (.ops [⟨none, .alL 17 [.int .i64 0, .int .i64 0, .int .i64 0, .sl true .pub 0 [], .int .i64 0, .int .i64 0, .int .i64 0, .int .i64 0, .int .i64 0, .int .i64 0, .int .i64 0, .str [], .str []]⟩,
    ⟨none, .st (.t 17) (.t 83) 13⟩])
  (.block 7 (.seq (.seq (.opsD [⟨none, .ld 84 (.t 16) 1 false⟩,
    ⟨none, .ld 85 (.t 12) 1 false⟩,
    ⟨none, .ln 86 .sl (.t 85)⟩,
    ⟨none, .bi 87 .geq (.t 84) (.t 86)⟩,
    ⟨none, .mv 88 (.t 87)⟩,
    ⟨some (88, false), .ld 89 (.t 17) 13 true⟩,
    ⟨some (88, false), .ld 90 (.t 12) 1 false⟩,
    ⟨some (88, false), .ld 91 (.t 16) 1 false⟩,
    ⟨some (88, false), .ia 92 (.t 90) (.t 91) 13⟩,
    ⟨some (88, false), .ld 93 (.t 92) 13 true⟩,
    ⟨some (88, false), .ca (some 94) 18 [(.t 89), (.t 93)]⟩,
    ⟨some (88, false), .un 95 .not (.t 94)⟩,
    ⟨none, .pk 96 (.t 88) (.c (.bool true)) (.t 95)⟩])
  (.cond (.t 96) (.seq (.ops [⟨none, .st (.t 6) (.c (.bool false)) 1⟩])
    (.ret))
    (.skip)))
  (.ops [⟨none, .ld 97 (.t 16) 1 false⟩,
    ⟨none, .bi 98 .add (.t 97) (.c (.int .i64 1))⟩,
    ⟨none, .st (.t 16) (.t 98) 1⟩]))))))
  (.seq (.ops [⟨none, .ld 99 (.t 16) 1 false⟩,
    ⟨none, .ld 100 (.t 12) 1 false⟩,
    ⟨none, .ln 101 .sl (.t 100)⟩,
    ⟨none, .bi 102 .eql (.t 99) (.t 101)⟩,
    ⟨none, .mv 103 (.t 102)⟩,
    ⟨some (103, true), .ld 104 (.t 13) 1 false⟩,
    ⟨some (103, true), .ld 105 (.t 12) 1 false⟩,
    ⟨some (103, true), .ln 106 .sl (.t 105)⟩,
    ⟨some (103, true), .bi 107 .eql (.t 104) (.t 106)⟩,
    ⟨some (103, true), .mv 108 (.t 107)⟩,
    ⟨some (108, false), .ld 109 (.t 13) 1 false⟩,
    ⟨some (108, false), .ld 110 (.t 5) 1 false⟩,
    ⟨some (108, false), .bi 111 .eql (.t 109) (.t 110)⟩,
    ⟨some (103, true), .pk 112 (.t 108) (.c (.bool true)) (.t 111)⟩,
    ⟨none, .pk 113 (.t 103) (.t 112) (.c (.bool false))⟩,
    ⟨none, .mv 114 (.t 113)⟩,
    ⟨some (114, true), .ca (some 115) 19 []⟩,
    ⟨none, .pk 116 (.t 114) (.t 115) (.c (.bool false))⟩,
    ⟨none, .st (.t 6) (.t 116) 1⟩])
  (.ret))))))))))))))
theorem comp3 : compFn Try.prog [8, 14, 17, 1000039, 1000081] Try.f3 = some ([.c 6 1 false], c3) := by kernel_rfl
end Go.VL.opl

namespace Go.VL.opl
open Go Go.VL Go.Proofs Go.IntWalk Go.VL.st Go.VL.row

theorem ext0 (σ : St) : Ext ⟨[], []⟩ σ := ⟨fun j o h => absurd h (by simp), fun r h => absurd h (by simp), Nat.zero_le _, Nat.zero_le _⟩
theorem LogIs.own_lt {σ : St} {i m : Nat} {s : V} {ov : List V} {room : Int} {P : List (V × Cg)} (h : LogIs σ i (some m) s ov room P) {j : Nat} (hj : Own i (some m) s ov j) : j < σ.objs.length := h.mid.own_lt hj
section
variable {σ : St} {v kv : V} {stop : Int} {gs : List Cg} {k : List Int}
set_option maxRecDepth 100000 in
set_option maxHeartbeats 8000000 in
theorem goes_law (hv : ArgC v gs) (hk0 : RdS ⟨[], []⟩ kv 1 (intsV .i64 k)) (hkl : k.length ≤ 1048576) : CallA Try.prog 3 [v, kv, .int .i64 stop] σ fun w _ => w = .bool true := by
  have hk : ∀ σ, RdS σ kv 1 (intsV .i64 k) := fun σ => hk0.ext (ext0 σ)
  obtain ⟨kb, kR, kz, rfl, -, -⟩ := id hk0
  have hkr : ∀ q r' s' es, renS q r' s' es (.v (.sl kb kR kz (intsV .i64 k))) = .v (.sl kb kR kz (intsV .i64 k)) := fun q r' s' es => renS_old hk0 (Nat.zero_le _)
  refine fn_at Try.func3 (by decide) comp3 rfl fun Q q1 q2 => ?_
  simp -implicitDefEqProofs only [go_sem, Nat.reduceBEq, Nat.reduceAdd, eq_self, true_and, and_true, and_self, List.getElem?_cons_zero, List.getElem?_cons_succ, Nat.reduceLeDiff, Nat.zero_add, Nat.reduceSub, Nat.le_refl, c3]
  have e0 : Ext σ (⟨σ.objs ++ [.cells [.int .i64 stop]] ++ [.cells [.bool false]], σ.live⟩ : St) := (ext_obj _ _).trans (ext_obj _ _)
  have h5 : (⟨σ.objs ++ [.cells [.int .i64 stop]] ++ [.cells [.bool false]], σ.live⟩ : St).objs[σ.objs.length]? = some (.cells [.int .i64 stop]) := by simp
  have h6 : (⟨σ.objs ++ [.cells [.int .i64 stop]] ++ [.cells [.bool false]], σ.live⟩ : St).objs[σ.objs.length + 1]? = some (.cells [.bool false]) := by simp
  have hl0 : (⟨σ.objs ++ [.cells [.int .i64 stop]] ++ [.cells [.bool false]], σ.live⟩ : St).objs.length = σ.objs.length + 2 := by simp
  generalize (⟨σ.objs ++ [.cells [.int .i64 stop]] ++ [.cells [.bool false]], σ.live⟩ : St) = τ0 at e0 h5 h6 hl0 ⊢
  simp only [List.length_append, List.length_cons, List.length_nil, Nat.zero_add, Nat.add_assoc, Nat.reduceAdd]
  refine call_at (filled_ok (room := 50) rfl (hv.rd _) hv.2.1 hv.2.2) ?_
  rintro w τ1 ⟨i, m, s, ov, P, u, rfl, hL, hP, hu, e1, ho1, hf1⟩
  refine ⟨kept_none, ?_⟩
  obtain ⟨b, R, z, es, rfl⟩ := hu.isSl
  have hgd := logR_good gs 50
  have hPl : P.length ≤ 50 := by
    have := logR_room gs 50
    rw [← hP, map2_len] at this
    exact this
  generalize logR gs 50 = L at hP hu hgd
  subst hP
  have hsz := rd_src ((hk τ1).ext (ext_live τ1 true))
  have hkl2 := intsV_len k
  obtain ⟨lu, hlu1, hlu2, hlu3⟩ := id hu
  have hur : ∀ q r' s' es', τ1.live.length ≤ q → renV q r' s' es' (.sl b R z es) = .sl b R z es := fun q r' s' es' hq => by
    obtain ⟨_, _, _, e, -, -⟩ := id hlu2
    cases e
    exact renV_old hlu2 hq
  simp -implicitDefEqProofs only [go_sem, Nat.reduceBEq, Nat.reduceAdd, eq_self, true_and, and_true, and_self, List.getElem?_cons_zero, List.getElem?_cons_succ, Nat.reduceLeDiff, Nat.zero_add, Nat.reduceSub, Nat.le_refl, flats, V.flat]
  refine ⟨⟨.inr trivial, .inr (live_last _ _), hsz, by rw [hkl2]; omega⟩, ?_⟩
  have e2 : Ext τ1 (⟨τ1.objs, kill (τ1.live ++ [true]) (.own τ1.live.length) ++ [true]⟩ : St) := ext_kill (ext_push (Ext.refl τ1)) (Nat.le_refl _)
  have hq0 : (⟨τ1.objs, kill (τ1.live ++ [true]) (.own τ1.live.length) ++ [true]⟩ : St).live[(τ1.live ++ [true]).length]? = some true := live_last' _ _ _
  have hq0l : τ1.live.length ≤ (τ1.live ++ [true]).length := by simp
  generalize (τ1.live ++ [true]).length = q0 at hq0 hq0l ⊢
  generalize (⟨τ1.objs, kill (τ1.live ++ [true]) (.own τ1.live.length) ++ [true]⟩ : St) = τ2 at e2 hq0 ⊢
  have hq0n := (List.getElem?_eq_some_iff.1 hq0).1
  have hown : RdS τ2 (.sl false (.own q0) 1 (intsV .i64 k)) 1 (intsV .i64 k) := ⟨_, _, _, rfl, by simp, .inr ⟨hq0, rfl⟩⟩
  refine call_at (each_ok (hL.ext e2) (by omega) hown) ?_
  rintro w τ3 ⟨⟨j, wc, O, rfl, hj, hjo, hF, hO⟩, e3⟩
  refine ⟨kept_none, ?_⟩
  have hq3 := e3.live _ hq0
  have e23 := e2.trans e3
  simp -implicitDefEqProofs only [go_sem, Nat.reduceBEq, Nat.reduceAdd, eq_self, true_and, and_true, and_self, List.getElem?_cons_zero, List.getElem?_cons_succ, Nat.reduceLeDiff, Nat.zero_add, Nat.reduceSub, Nat.le_refl, Nat.lt_irrefl]
  refine loop_at (fun (y : Nat × Nat × List Int) => ⟨[(1, .v (.sl kb kR kz (intsV .i64 k))), (5, .v (.ptr (some (σ.objs.length, 0)))), (6, .v (.ptr (some (σ.objs.length + 1, 0)))), (7, .v (.ptr (some (i, 0)))), (8, .loc 8 0), (9, .v (.sl false (.own y.2.1) 1 (intsV .i64 y.2.2))), (10, .v (.fn 46 [.ptr (some (j, 0))])), (11, .v (.int .i64 ((y.1 : Nat) : Int)))], [(8, [.int .i64 50, .sl b R z es])]⟩)
    (fun y t => y.1 ≤ k.length ∧ y.2.2.length = k.length ∧ t.objs = τ3.objs ∧ t.live[y.2.1]? = some true ∧ τ1.live.length ≤ y.2.1 ∧ (y.2.1 = q0 ∨ τ3.live.length ≤ y.2.1) ∧ (∀ r : Nat, r ≠ q0 → τ3.live[r]? = some true → t.live[r]? = some true) ∧ τ3.live.length ≤ t.live.length) (fun y => k.length - y.1) (0, q0, k) ?_ ?_ ?_
  · refine .inr ?_
    simp -implicitDefEqProofs only [go_sem, Nat.reduceBEq, Nat.reduceAdd, eq_self, true_and, and_true, and_self, List.getElem?_cons_zero, List.getElem?_cons_succ, Nat.reduceLeDiff, Nat.zero_add, Nat.reduceSub, Nat.le_refl, Nat.lt_irrefl]
    try exact ⟨rfl, rfl⟩
    try exact rfl
  · exact ⟨Nat.zero_le _, rfl, rfl, hq3, hq0l, .inl rfl, fun r _ h => h, Nat.le_refl _⟩
  rintro ⟨y, qy, ds⟩ t ⟨f1, f2, f3, f4, f5, f6, f7, f8⟩ X x1 x2 x3
  simp only at f1 f2 f4 f5 f6
  have hdl := intsV_len ds
  simp -implicitDefEqProofs only [go_sem, Nat.reduceBEq, Nat.reduceAdd, eq_self, true_and, and_true, and_self, List.getElem?_cons_zero, List.getElem?_cons_succ, Nat.reduceLeDiff, Nat.zero_add, Nat.reduceSub, Nat.le_refl, hdl, f2]
  cases hc : decide ((y : Int) < k.length)
  case true =>
    have hi : y < ds.length := by have := of_decide_eq_true hc; omega
    have hcd := of_decide_eq_true hc
    have hwk : IntKind.i64.wrap ((y : Int) + 1) = ((y + 1 : Nat) : Int) := by rw [i64_in _ (by omega)]; omega
    have hgk : (intsV .i64 ds)[y]? = some [.int .i64 ds[y]] := by simp [intsV, hi]
    have hset : (intsV .i64 ds).set y [.int .i64 1] = intsV .i64 (ds.set y 1) := by simp [intsV, List.map_set]
    have hu' := hur qy
    have hu2 : ∀ r' s' es', renV qy r' s' es' (.sl b R z es) = .sl b R z es := fun r' s' es' => hur qy r' s' es' f5
    simp -implicitDefEqProofs only [go_sem, Nat.reduceBEq, Nat.reduceAdd, eq_self, true_and, and_true, and_self, List.getElem?_cons_zero, List.getElem?_cons_succ, Nat.reduceLeDiff, Nat.zero_add, Nat.reduceSub, Nat.le_refl, hc, hdl, f2, Int.toNat_natCast, hgk, hkr, hu2, beq_self_eq_true]
    refine ⟨⟨by omega, hcd⟩, f4, ?_⟩
    refine x1 (y + 1, t.live.length, ds.set y 1) _ _ (.inr ?_) (by simp only; omega) ⟨by simp only; omega, by simp only [List.length_set]; exact f2, f3, live_last' _ _ _, by have := (List.getElem?_eq_some_iff.1 f4).1; simp only; omega, .inr f8, fun r hr h => ?_, by show _ ≤ (t.live.set qy false ++ [true]).length; simp; omega⟩
    · simp -implicitDefEqProofs only [go_sem, Nat.reduceBEq, Nat.reduceAdd, eq_self, true_and, and_true, and_self, List.getElem?_cons_zero, List.getElem?_cons_succ, Nat.reduceLeDiff, Nat.zero_add, Nat.reduceSub, Nat.le_refl, hwk, ← hset]
      try exact ⟨rfl, rfl⟩
      try exact rfl
    · have h2 := f7 r hr h
      have h3 := (List.getElem?_eq_some_iff.1 h2).1
      have h4 := (List.getElem?_eq_some_iff.1 h).1
      have hne : r ≠ qy := by rcases f6 with e | e <;> omega
      show (t.live.set qy false ++ [true])[r]? = some true
      rw [List.getElem?_append_left (by simp; omega), List.getElem?_set_ne (Ne.symm hne)]; exact h2
  simp -implicitDefEqProofs only [go_sem, Nat.reduceBEq, Nat.reduceAdd, eq_self, true_and, and_true, and_self, List.getElem?_cons_zero, List.getElem?_cons_succ, Nat.reduceLeDiff, Nat.zero_add, Nat.reduceSub, Nat.le_refl, hc]
  refine x2 _ _ _ ?_
  clear x1 x2 x3 hc
  obtain ⟨to, tl⟩ := t
  simp only at f3 f4 f7 f8
  subst f3
  have key0 : ∀ r : Nat, τ1.live[r]? = some true → tl[r]? = some true := fun r hr => f7 r (by have := (List.getElem?_eq_some_iff.1 hr).1; omega) (e23.live _ hr)
  have hLt : LogIs ⟨τ3.objs, tl⟩ i (some m) s ov 50 P := (hL.ext e23).lv fun p hp => by
    have := (hf1 p hp).keep (τ' := ⟨τ3.objs, tl⟩) fun r _ => key0 r
    exact this.rd
  simp -implicitDefEqProofs only [go_sem, Nat.reduceBEq, Nat.reduceAdd, eq_self, true_and, and_true, and_self, List.getElem?_cons_zero, List.getElem?_cons_succ, Nat.reduceLeDiff, Nat.zero_add, Nat.reduceSub, Nat.le_refl, Nat.lt_irrefl]
  refine call_at first_ok ?_
  rintro w τ ⟨rfl, hτ⟩
  have hτ := hτ.symm
  subst hτ
  refine ⟨kept_none, ?_⟩
  simp -implicitDefEqProofs only [go_sem, Nat.reduceBEq, Nat.reduceAdd, eq_self, true_and, and_true, and_self, List.getElem?_cons_zero, List.getElem?_cons_succ, Nat.reduceLeDiff, Nat.zero_add, Nat.reduceSub, Nat.le_refl, Nat.lt_irrefl]
  refine call_at (add_ok hLt (by omega) (v0_rd _) (by decide)) ?_
  rintro w τ4 ⟨-, s4, ov4, P4, -, -, kt, -⟩
  refine ⟨kept_none, ?_⟩
  have hoj : ∀ j', Own i (some m) s ov j' → j' < τ1.objs.length := fun j' hj' => hL.own_lt hj'
  have key1 : ∀ r : Nat, τ1.live[r]? = some true → τ4.live[r]? = some true := fun r hr => kt.upd.live _ (key0 r hr)
  have hol1 := e1.olen
  have hol2 := e2.olen
  have hol3 := e3.olen
  have a5 : τ4.objs[σ.objs.length]? = some (.cells [.int .i64 stop]) := kt.upd.objs _ _ (fun h => by have := ho1 _ h; omega) (e23.objs _ _ (e1.objs _ _ h5))
  have a6 : τ4.objs[σ.objs.length + 1]? = some (.cells [.bool false]) := kt.upd.objs _ _ (fun h => by have := ho1 _ h; omega) (e23.objs _ _ (e1.objs _ _ h6))
  have aj : τ4.objs[j]? = some (.cells [wc]) := kt.upd.objs _ _ (fun h => by have := hoj _ h; omega) hjo
  have aF : FrC τ2.live.length τ4 wc O := hF.keep fun r hr h => kt.upd.live _ (f7 r (by omega) h)
  have au : RdC τ4 (.sl b R z es) (cgL P) := ⟨lu, hlu1, rdS_lv hlu2 key1, fun p hp => rdS_lv (hlu3 p hp) key1⟩
  have hjl := (List.getElem?_eq_some_iff.1 aj).1
  have hWl : (eachL (cgL P) k).length ≤ 50 := by
    unfold eachL
    cases decide (clockI k = 0)
    · simp
    · have := allR_len (cgL P) k
      rw [map2_len] at this
      simp only [cond_true]; omega
  have hWd : ∀ g ∈ eachL (cgL P) k, g.deps.length ≤ 64 := fun g hg => by
    unfold eachL at hg
    cases hx : decide (clockI k = 0) <;> rw [hx] at hg
    · cases hg
    · exact hgd.deps g (List.mem_filter.1 hg).1
  have hOl : O.length ≤ 50 := by rw [← hO, map2_len] at hWl; exact hWl
  have hOd : ∀ p ∈ O, p.2.deps.length ≤ 2000000 := fun p hp => by
    have := hWd p.2 (by rw [← hO]; exact List.mem_map_of_mem hp)
    omega
  have hWdef : eachL (cgL P) k = bif decide (clockI k = 0) then allR (cgL P) k else [] := rfl
  generalize eachL (cgL P) k = W at hO hWl hWd hWdef
  have hj2 : σ.objs.length + 1 < j := by omega
  clear hjo hoj key0 kt hLt f7 f8 f6 f5 f4 f2 f1 e23 e3 e2 hL hf1 hu hur hF ho1 h5 h6 hlu1 hlu2 hlu3 key1
  have hap : ∀ (A : List AObj) x, (A ++ [x])[A.length]? = some x := by simp
  simp -implicitDefEqProofs only [go_sem, Nat.reduceBEq, Nat.reduceAdd, eq_self, true_and, and_true, and_self, List.getElem?_cons_zero, List.getElem?_cons_succ, Nat.reduceLeDiff, Nat.zero_add, Nat.reduceSub, Nat.le_refl, hap, flats, V.flat]
  have e5 : Ext τ4 ((⟨τ4.objs ++ [.cells [.sl true .pub 0 []]], τ4.live ++ [true]⟩ : St).setC τ4.objs.length [.sl false (.own τ4.live.length) 13 []]) := ext_set ((ext_live τ4 true).trans (ext_obj _ _)) (Nat.le_refl _)
  have c12 : ((⟨τ4.objs ++ [.cells [.sl true .pub 0 []]], τ4.live ++ [true]⟩ : St).setC τ4.objs.length [.sl false (.own τ4.live.length) 13 []]).objs[τ4.objs.length]? = some (.cells [.sl false (.own τ4.live.length) 13 []]) := setC_get (by simp)
  have c12q : ((⟨τ4.objs ++ [.cells [.sl true .pub 0 []]], τ4.live ++ [true]⟩ : St).setC τ4.objs.length [.sl false (.own τ4.live.length) 13 []]).live[τ4.live.length]? = some true := live_last _ _
  generalize ((⟨τ4.objs ++ [.cells [.sl true .pub 0 []]], τ4.live ++ [true]⟩ : St).setC τ4.objs.length [.sl false (.own τ4.live.length) 13 []]) = τ5 at e5 c12 c12q ⊢
  refine cut_at (fun G τ6 => Ext τ4 τ6 ∧ ∃ wv, τ6.objs[τ4.objs.length]? = some (.cells [wv]) ∧ RdC τ6 wv W ∧ G = ⟨[(5, .v (.ptr (some (σ.objs.length, 0)))), (6, .v (.ptr (some (σ.objs.length + 1, 0)))), (10, .v (.fn 46 [.ptr (some (j, 0))])), (12, .v (.ptr (some (τ4.objs.length, 0))))], []⟩) ?_ ?_
  · intro Y y1 y2 y3
    simp -implicitDefEqProofs only [go_sem, Nat.reduceBEq, Nat.reduceAdd, eq_self, true_and, and_true, and_self, List.getElem?_cons_zero, List.getElem?_cons_succ, Nat.reduceLeDiff, Nat.zero_add, Nat.reduceSub, Nat.le_refl, Nat.lt_irrefl]
    refine call_at (rclock_ok (hk τ5)) ?_
    rintro w τ ⟨hτ, rfl⟩
    have hτ := hτ.symm
    subst hτ
    refine ⟨kept_none, ?_⟩
    cases hc : decide (clockI k = 0) <;> rw [hc] at hWdef
    · simp -implicitDefEqProofs only [go_sem, Nat.reduceBEq, Nat.reduceAdd, eq_self, true_and, and_true, and_self, List.getElem?_cons_zero, List.getElem?_cons_succ, Nat.reduceLeDiff, Nat.zero_add, Nat.reduceSub, Nat.le_refl, hc]
      refine y1 _ _ _ (.inr ?_) ⟨e5, _, c12, ⟨[], by rw [hWdef]; rfl, ⟨_, _, _, rfl, by simp [cgsV], .inr ⟨c12q, rfl⟩⟩, by intro p hp; cases hp⟩, rfl⟩
      simp -implicitDefEqProofs only [go_sem, Nat.reduceBEq, Nat.reduceAdd, eq_self, true_and, and_true, and_self, List.getElem?_cons_zero, List.getElem?_cons_succ, Nat.reduceLeDiff, Nat.zero_add, Nat.reduceSub, Nat.le_refl, Nat.lt_irrefl]
      try exact ⟨rfl, rfl⟩
      try exact rfl
    · simp -implicitDefEqProofs only [go_sem, Nat.reduceBEq, Nat.reduceAdd, eq_self, true_and, and_true, and_self, List.getElem?_cons_zero, List.getElem?_cons_succ, Nat.reduceLeDiff, Nat.zero_add, Nat.reduceSub, Nat.le_refl, hc]
      refine call_at (rall_ok (au.ext e5) (by rw [map2_len]; omega) (hk τ5)) ?_
      rintro w τ6 ⟨hw, e6, -⟩
      refine ⟨kept_none, ?_⟩
      have c12' := e6.objs _ _ c12
      obtain ⟨b3, R3, z3', es3, rfl⟩ := hw.isSl
      have hn12 := (List.getElem?_eq_some_iff.1 c12').1
      simp -implicitDefEqProofs only [go_sem, Nat.reduceBEq, Nat.reduceAdd, eq_self, true_and, and_true, and_self, List.getElem?_cons_zero, List.getElem?_cons_succ, Nat.reduceLeDiff, Nat.zero_add, Nat.reduceSub, Nat.le_refl, c12', flats, V.flat]
      refine y1 _ _ _ (.inr ?_) ⟨ext_set (e5.trans e6) (Nat.le_refl _), _, setC_get hn12, by rw [hWdef]; exact hw, rfl⟩
      simp -implicitDefEqProofs only [go_sem, Nat.reduceBEq, Nat.reduceAdd, eq_self, true_and, and_true, and_self, List.getElem?_cons_zero, List.getElem?_cons_succ, Nat.reduceLeDiff, Nat.zero_add, Nat.reduceSub, Nat.le_refl, Nat.lt_irrefl]
      try exact ⟨rfl, rfl⟩
      try exact rfl
  clear e5 c12 c12q
  clear τ5
  rintro G τ5 ⟨e5, wv, c12, hWr, rfl⟩
  obtain ⟨b3, R3, z3', es3, rfl⟩ := hWr.isSl
  have hesl : es3.length = W.length := by
    obtain ⟨l', x1, ⟨_, _, _, x2, -, -⟩, -⟩ := hWr
    cases x2
    rw [cgsV_len, ← map2_len, x1]
  have hn5 := (List.getElem?_eq_some_iff.1 c12).1
  simp -implicitDefEqProofs only [go_sem, Nat.reduceBEq, Nat.reduceAdd, eq_self, true_and, and_true, and_self, List.getElem?_cons_zero, List.getElem?_cons_succ, Nat.reduceLeDiff, Nat.zero_add, Nat.reduceSub, Nat.le_refl, hap, flats, V.flat]
  have e6 : Ext τ5 ((⟨τ5.objs ++ [.cells [.int .i64 0]], τ5.live⟩ : St).setC τ5.objs.length [.int .i64 0]) := ext_set (ext_obj _ _) (Nat.le_refl _)
  have c13 : ((⟨τ5.objs ++ [.cells [.int .i64 0]], τ5.live⟩ : St).setC τ5.objs.length [.int .i64 0]).objs[τ5.objs.length]? = some (.cells [.int .i64 0]) := setC_get (by simp)
  generalize ((⟨τ5.objs ++ [.cells [.int .i64 0]], τ5.live⟩ : St).setC τ5.objs.length [.int .i64 0]) = τ6 at e6 c13 ⊢
  have e46 := e5.trans e6
  have b5 := e46.objs _ _ a5
  have b6 := e46.objs _ _ a6
  have bj := e46.objs _ _ aj
  have bF := aF.ext e46
  have b12 := e6.objs _ _ c12
  have bW := hWr.ext e6
  have hn13 := (List.getElem?_eq_some_iff.1 c13).1
  generalize τ4.objs.length = n12 at *
  generalize τ5.objs.length = n13 at *
  clear e5 e6 e46 a5 a6 aj aF c12 hWr au
  have hsame : ∀ (t : St) (x : V) (p : V × Cg) (D R : List (V × Cg)), O = D ++ p :: R → RdS t x 1 (intsV .i64 p.2.deps) → RdC t (.sl b3 R3 z3' es3) W → ∃ d2, es3[D.length]?.getD [] = cgC d2 p.2 ∧ (D.length : Int) < es3.length ∧ rd t.live R3 ∧ z3' = 13 ∧ CallA Try.prog 18 [cgV x p.2, cgV d2 p.2] t fun w σ' => σ' = t ∧ w = .bool true := fun t x p D R h1 h2 h3 => by
    have hDW : D.length < W.length := by rw [← hO, map2_len, h1]; simp
    have hg : W[D.length] = p.2 := by
      have : W = D.map (·.2) ++ p.2 :: R.map (·.2) := by rw [← hO, h1, List.map_append]; rfl
      subst this
      simp
    obtain ⟨d2, y1, y2, y3, -, y5, y6, -⟩ := rdC_get h3 hDW
    rw [hg] at y1 y2
    refine ⟨d2, y1, y3, y5, y6, ?_⟩
    have := same_ok (g := p.2) (h := p.2) h2 y2 (by have := hWd p.2 (by rw [← hO, h1]; simp); omega)
    rw [sameC_self] at this
    exact this
  refine cut_at (fun G τ7 => UpdS (fun j => j = n13) τ6 τ7 ∧ ∃ nn : Nat, τ7.objs[n13]? = some (.cells [.int .i64 nn]) ∧ (nn = W.length ∨ (nn : Int) = stop) ∧ G = ⟨[(5, .v (.ptr (some (σ.objs.length, 0)))), (6, .v (.ptr (some (σ.objs.length + 1, 0)))), (10, .v (.fn 46 [.ptr (some (j, 0))])), (12, .v (.ptr (some (n12, 0)))), (13, .v (.ptr (some (n13, 0))))], []⟩) ?_ ?_
  · intro Y0 z1 z2 z3
    simp -implicitDefEqProofs only [go_sem, Nat.reduceBEq, Nat.reduceAdd, eq_self, true_and, and_true, and_self, List.getElem?_cons_zero, List.getElem?_cons_succ, Nat.reduceLeDiff, Nat.zero_add, Nat.reduceSub, Nat.le_refl, Nat.lt_irrefl]
    refine range_at ?_
    intro yl i0 r0 r1 r2 r3 hi hyy
    have e7 := ext_obj τ6 r0
    have hr0 : (⟨τ6.objs ++ [r0], τ6.live⟩ : St).objs[i0]? = some r0 := by rw [← hi]; simp
    refine CallA.mono (each1_ok (O := O)
      (fun R t => ∃ D, O = D ++ R ∧ UpdS (fun j => j = n13) τ6 t ∧ t.objs[n13]? = some (.cells [.int .i64 ((D.length : Nat) : Int)]) ∧ t.objs[i0]? = some r0)
      (fun t => UpdS (fun j => j = n13) τ6 t ∧ ∃ nn : Nat, t.objs[n13]? = some (.cells [.int .i64 nn]) ∧ ((t.objs[i0]? = some r0 ∧ nn = W.length) ∨ (t.objs[i0]? = some (r2 (.exit 2)) ∧ (nn : Int) = stop)))
      (e7.objs _ _ bj) ((bF.ext e7).rdS) (by omega) hOd ?_ ?_ ?_ ?_) ?_
    · exact ⟨[], rfl, .of e7, e7.objs _ _ c13, hr0⟩
    · rintro R t ⟨D, s1, s2, -⟩
      have := bF.keep (τ' := t) fun r _ => s2.live r
      exact ⟨this.rdS, this.rds⟩
    · rintro a R t t' x ⟨D, s1, s2, s3, s4⟩ e8 o8 hx
      have s4' : t'.objs[i0]? = some r0 := by rw [o8]; exact s4
      refine hyy t' _ _ s4' rfl fun Y1 y0 => ?_
      simp -implicitDefEqProofs only [go_sem, Nat.reduceBEq, Nat.reduceAdd, eq_self, true_and, and_true, and_self, List.getElem?_cons_zero, List.getElem?_cons_succ, Nat.reduceLeDiff, Nat.zero_add, Nat.reduceSub, Nat.le_refl, rndF, setPs, dropL, cgV, cgC]
      obtain ⟨rx, rfl, hrx, hrxl⟩ := hx
      simp -implicitDefEqProofs only [go_sem, Nat.reduceBEq, Nat.reduceAdd, eq_self, true_and, and_true, and_self, List.getElem?_cons_zero, List.getElem?_cons_succ, Nat.reduceLeDiff, Nat.zero_add, Nat.reduceSub, Nat.le_refl, Nat.lt_irrefl]
      refine y0 _ _ s4' fun Y y1 y2 y3 => ?_
      clear y0 Y1 hyy
      have hu2 : UpdS (fun j => j = n13) τ6 (t'.setA i0 r1) := (s2.trans (.of (S := fun j => j = i0) e8) fun j hj => .inr (by omega)).trans updS_setA fun j hj => .inr (by omega)
      have b3' : (t'.setA i0 r1).objs[n13]? = some (.cells [.int .i64 ((D.length : Nat) : Int)]) := (setA_ne (by omega)).trans (by rw [o8]; exact s3)
      have b7 : (t'.setA i0 r1).objs[i0]? = some r1 := setA_at s4'
      have hrx2 : (t'.setA i0 r1).live[rx]? = some true := hrx
      have hrx3 : τ6.live.length ≤ rx := Nat.le_trans s2.llen hrxl
      generalize t'.setA i0 r1 = t2 at hu2 b3' b7 hrx2 ⊢
      have m5 := hu2.objs _ _ (by omega) b5
      have m12 := hu2.objs _ _ (by omega) b12
      obtain ⟨ad, ag⟩ := a
      have hWt : RdC t2 (.sl b3 R3 z3' es3) W := by
        obtain ⟨l', x1, x2, x3⟩ := bW
        exact ⟨l', x1, rdS_up x2 hu2, fun p hp => rdS_up (x3 p hp) hu2⟩
      obtain ⟨d2, w1, w2, w3, rfl, w5⟩ := hsame t2 (.sl false (.own rx) 1 (intsV .i64 ag.deps)) (ad, ag) D R s1 ⟨_, _, _, rfl, by simp, .inr ⟨hrx2, rfl⟩⟩ hWt
      simp only at w1 w5
      have hDO : D.length < O.length := by rw [s1]; simp
      cases hq : decide (((D.length : Nat) : Int) = stop)
      case true =>
        simp -implicitDefEqProofs only [go_sem, Nat.reduceBEq, Nat.reduceAdd, eq_self, true_and, and_true, and_self, List.getElem?_cons_zero, List.getElem?_cons_succ, Nat.reduceLeDiff, Nat.zero_add, Nat.reduceSub, Nat.le_refl, b3', m5, hq]
        refine y2 _ _ _ b7 (.inr ⟨rfl, hu2.trans updS_setA fun j hj => .inr (by omega), D.length, (setA_ne (by omega)).trans b3', .inr ⟨setA_at b7, of_decide_eq_true hq⟩⟩)
      have hge : decide (((D.length : Nat) : Int) ≥ es3.length) = false := by rw [decide_eq_false_iff_not]; omega
      have hw1 : IntKind.i64.wrap (((D.length : Nat) : Int) + 1) = ((D.length + 1 : Nat) : Int) := by rw [i64_in _ (by omega)]; omega
      simp only [cgV, cgC] at w5
      simp -implicitDefEqProofs only [go_sem, Nat.reduceBEq, Nat.reduceAdd, eq_self, true_and, and_true, and_self, List.getElem?_cons_zero, List.getElem?_cons_succ, Nat.reduceLeDiff, Nat.zero_add, Nat.reduceSub, Nat.le_refl, b3', m5, m12, hq, hge, Int.toNat_natCast, w1, cgC]
      refine ⟨⟨by omega, w2⟩, w3, ?_⟩
      refine call_at w5 ?_
      rintro w τ ⟨hτ, rfl⟩
      have hτ := hτ.symm
      subst hτ
      refine ⟨(Ext.refl _).kept, ?_⟩
      simp -implicitDefEqProofs only [go_sem, Nat.reduceBEq, Nat.reduceAdd, eq_self, true_and, and_true, and_self, List.getElem?_cons_zero, List.getElem?_cons_succ, Nat.reduceLeDiff, Nat.zero_add, Nat.reduceSub, Nat.le_refl, b3', hw1]
      have hn2 := (List.getElem?_eq_some_iff.1 b3').1
      refine loop_at (fun (y2 : Nat × Nat × List Int) => ⟨[(14, .loc 14 0), (15, .v (.int .i64 ((y2.1 : Nat) : Int)))], [(14, cgC (.sl false (.own y2.2.1) 1 (intsV .i64 y2.2.2)) ag)]⟩)
        (fun y2 t4 => y2.1 ≤ ag.deps.length ∧ y2.2.2.length = ag.deps.length ∧ t4.live[y2.2.1]? = some true ∧ τ6.live.length ≤ y2.2.1 ∧ UpdS (fun j => j = n13) τ6 t4 ∧ t4.objs[n13]? = some (.cells [.int .i64 ((D.length + 1 : Nat) : Int)]) ∧ t4.objs[i0]? = some r1) (fun y2 => ag.deps.length - y2.1) (0, rx, ag.deps) ?_ ?_ ?_
      · refine .inr ?_
        simp -implicitDefEqProofs only [go_sem, Nat.reduceBEq, Nat.reduceAdd, eq_self, true_and, and_true, and_self, List.getElem?_cons_zero, List.getElem?_cons_succ, Nat.reduceLeDiff, Nat.zero_add, Nat.reduceSub, Nat.le_refl, cgC]
        try exact ⟨rfl, rfl⟩
        try exact rfl
      · exact ⟨Nat.zero_le _, rfl, hrx2, hrx3, hu2.trans updS_setC fun j hj => .inl hj, setC_get hn2, (setC_ne (by omega)).trans b7⟩
      rintro ⟨k2, q4, ds⟩ t4 ⟨f1, f2, f3, f4, f5, f6, f7⟩ X x1 x2 x3
      simp only at f1 f2 f3 f4
      have hdl := intsV_len ds
      simp -implicitDefEqProofs only [go_sem, Nat.reduceBEq, Nat.reduceAdd, eq_self, true_and, and_true, and_self, List.getElem?_cons_zero, List.getElem?_cons_succ, Nat.reduceLeDiff, Nat.zero_add, Nat.reduceSub, Nat.le_refl, cgC, hdl, f2]
      cases hk2 : decide ((k2 : Int) < ag.deps.length)
      · simp -implicitDefEqProofs only [go_sem, Nat.reduceBEq, Nat.reduceAdd, eq_self, true_and, and_true, and_self, List.getElem?_cons_zero, List.getElem?_cons_succ, Nat.reduceLeDiff, Nat.zero_add, Nat.reduceSub, Nat.le_refl, hk2]
        refine x2 _ _ _ ?_
        simp -implicitDefEqProofs only [go_sem, Nat.reduceBEq, Nat.reduceAdd, eq_self, true_and, and_true, and_self, List.getElem?_cons_zero, List.getElem?_cons_succ, Nat.reduceLeDiff, Nat.zero_add, Nat.reduceSub, Nat.le_refl, Nat.lt_irrefl]
        refine y1 _ _ f7 (.inl ⟨rfl, D ++ [(ad, ag)], by rw [s1]; simp, f5.trans updS_setA fun j hj => .inr (by omega), by rw [List.length_append]; exact (setA_ne (by omega)).trans f6, setA_at f7⟩)
      · have hki : k2 < ds.length := by have := of_decide_eq_true hk2; omega
        have hkd := of_decide_eq_true hk2
        have hdl64 := hWd ag (by rw [← hO, s1]; simp)
        have hwk : IntKind.i64.wrap ((k2 : Int) + 1) = ((k2 + 1 : Nat) : Int) := by rw [i64_in _ (by omega)]; omega
        have hgk : (intsV .i64 ds)[k2]? = some [.int .i64 ds[k2]] := by simp [intsV, hki]
        have hset : (intsV .i64 ds).set k2 [.int .i64 (-7)] = intsV .i64 (ds.set k2 (-7)) := by simp [intsV, List.map_set]
        simp -implicitDefEqProofs only [go_sem, Nat.reduceBEq, Nat.reduceAdd, eq_self, true_and, and_true, and_self, List.getElem?_cons_zero, List.getElem?_cons_succ, Nat.reduceLeDiff, Nat.zero_add, Nat.reduceSub, Nat.le_refl, hk2, cgC, hdl, f2, Int.toNat_natCast, hgk, beq_self_eq_true]
        refine ⟨⟨by omega, hkd⟩, f3, ?_⟩
        refine x1 (k2 + 1, t4.live.length, ds.set k2 (-7)) _ _ (.inr ?_) (by simp only; omega) ⟨by simp only; omega, by simp only [List.length_set]; exact f2, live_last' _ _ _, by have := f5.llen; simp only; omega, ⟨f5.objs, fun r hr => ?_, f5.olen, ?_⟩, f6, f7⟩
        · simp -implicitDefEqProofs only [go_sem, Nat.reduceBEq, Nat.reduceAdd, eq_self, true_and, and_true, and_self, List.getElem?_cons_zero, List.getElem?_cons_succ, Nat.reduceLeDiff, Nat.zero_add, Nat.reduceSub, Nat.le_refl, hwk, ← hset, cgC]
          try exact ⟨rfl, rfl⟩
          try exact rfl
        · have h2 := f5.live r hr
          have h3 := (List.getElem?_eq_some_iff.1 h2).1
          have h4 := (List.getElem?_eq_some_iff.1 hr).1
          show (t4.live.set q4 false ++ [true])[r]? = some true
          rw [List.getElem?_append_left (by simp; omega), List.getElem?_set_ne (by omega)]; exact h2
        · have := f5.llen
          show _ ≤ (t4.live.set q4 false ++ [true]).length
          simp; omega
    · rintro t ⟨D, s1, s2, s3, s4⟩
      rw [List.append_nil] at s1
      subst s1
      exact ⟨s2, O.length, s3, .inl ⟨s4, by rw [← hO, map2_len]⟩⟩
    · rintro w t ⟨h1, nn, h2, ⟨h3, h4⟩ | ⟨h3, h4⟩⟩
      · refine .inl ⟨h3, ?_⟩
        simp -implicitDefEqProofs only [go_sem, Nat.reduceBEq, Nat.reduceAdd, eq_self, true_and, and_true, and_self, List.getElem?_cons_zero, List.getElem?_cons_succ, Nat.reduceLeDiff, Nat.zero_add, Nat.reduceSub, Nat.le_refl, Nat.lt_irrefl]
        refine z1 _ _ _ (.inr ?_) ⟨h1.trans updS_setA fun j hj => .inr (by omega), nn, (setA_ne (by omega)).trans h2, .inl h4, rfl⟩
        simp -implicitDefEqProofs only [go_sem, Nat.reduceBEq, Nat.reduceAdd, eq_self, true_and, and_true, and_self, List.getElem?_cons_zero, List.getElem?_cons_succ, Nat.reduceLeDiff, Nat.zero_add, Nat.reduceSub, Nat.le_refl, Nat.lt_irrefl]
        try exact ⟨rfl, rfl⟩
        try exact rfl
      · refine .inr ⟨.exit 2, by simp, h3, ?_⟩
        simp -implicitDefEqProofs only [go_sem, Nat.reduceBEq, Nat.reduceAdd, eq_self, true_and, and_true, and_self, List.getElem?_cons_zero, List.getElem?_cons_succ, Nat.reduceLeDiff, Nat.zero_add, Nat.reduceSub, Nat.le_refl, Nat.lt_irrefl]
        refine z1 _ _ _ (.inr ?_) ⟨h1.trans updS_setA fun j hj => .inr (by omega), nn, (setA_ne (by omega)).trans h2, .inr h4, rfl⟩
        simp -implicitDefEqProofs only [go_sem, Nat.reduceBEq, Nat.reduceAdd, eq_self, true_and, and_true, and_self, List.getElem?_cons_zero, List.getElem?_cons_succ, Nat.reduceLeDiff, Nat.zero_add, Nat.reduceSub, Nat.le_refl, Nat.lt_irrefl]
        try exact ⟨rfl, rfl⟩
        try exact rfl
  rintro G τ7 ⟨hu7, nn, c13', hnn, rfl⟩
  have d5 := hu7.objs _ _ (by omega) b5
  have d6 := hu7.objs _ _ (by omega) b6
  have dj := hu7.objs _ _ (by omega) bj
  have d12 := hu7.objs _ _ (by omega) b12
  have dF : FrC τ2.live.length τ7 wc O := bF.keep fun r _ => hu7.live r
  have dW : RdC τ7 (.sl b3 R3 z3' es3) W := by
    obtain ⟨l', x1, x2, x3⟩ := bW
    exact ⟨l', x1, rdS_up x2 hu7, fun p hp => rdS_up (x3 p hp) hu7⟩
  clear hu7 b5 b6 bj b12 bF bW c13
  have hn7 := (List.getElem?_eq_some_iff.1 c13').1
  simp -implicitDefEqProofs only [go_sem, Nat.reduceBEq, Nat.reduceAdd, eq_self, true_and, and_true, and_self, List.getElem?_cons_zero, List.getElem?_cons_succ, Nat.reduceLeDiff, Nat.zero_add, Nat.reduceSub, Nat.le_refl, hap, flats, V.flat]
  have e8 : Ext τ7 ((⟨τ7.objs ++ [.cells [.int .i64 0]], τ7.live⟩ : St).setC τ7.objs.length [.int .i64 0]) := ext_set (ext_obj _ _) (Nat.le_refl _)
  have c16 : ((⟨τ7.objs ++ [.cells [.int .i64 0]], τ7.live⟩ : St).setC τ7.objs.length [.int .i64 0]).objs[τ7.objs.length]? = some (.cells [.int .i64 0]) := setC_get (by simp)
  generalize ((⟨τ7.objs ++ [.cells [.int .i64 0]], τ7.live⟩ : St).setC τ7.objs.length [.int .i64 0]) = τ8 at e8 c16 ⊢
  have b5 := e8.objs _ _ d5
  have b6 := e8.objs _ _ d6
  have bj := e8.objs _ _ dj
  have b12 := e8.objs _ _ d12
  have b13 := e8.objs _ _ c13'
  have bF := dF.ext e8
  have bW := dW.ext e8
  have hn16 := (List.getElem?_eq_some_iff.1 c16).1
  have hjn := (List.getElem?_eq_some_iff.1 dj).1
  have hn12' := (List.getElem?_eq_some_iff.1 d12).1
  generalize τ7.objs.length = n16 at *
  clear e8 d5 d6 dj d12 c13' dF dW
  refine range_at ?_
  intro yl i0 r0 r1 r2 r3 hi hyy
  have e7 := ext_obj τ8 r0
  have hr0 : (⟨τ8.objs ++ [r0], τ8.live⟩ : St).objs[i0]? = some r0 := by rw [← hi]; simp
  refine CallA.mono (each1_ok (O := O)
    (fun R t => ∃ D, O = D ++ R ∧ UpdS (fun j => j = n16) τ8 t ∧ t.objs[n16]? = some (.cells [.int .i64 ((D.length : Nat) : Int)]) ∧ t.objs[i0]? = some r0)
    (fun t => UpdS (fun j => j = n16) τ8 t ∧ t.objs[n16]? = some (.cells [.int .i64 ((W.length : Nat) : Int)]) ∧ t.objs[i0]? = some r0)
    (e7.objs _ _ bj) ((bF.ext e7).rdS) (by omega) hOd ?_ ?_ ?_ ?_) ?_
  · exact ⟨[], rfl, .of e7, e7.objs _ _ c16, hr0⟩
  · rintro R t ⟨D, s1, s2, -⟩
    have := bF.keep (τ' := t) fun r _ => s2.live r
    exact ⟨this.rdS, this.rds⟩
  · rintro a R t t' x ⟨D, s1, s2, s3, s4⟩ e8 o8 hx
    have s4' : t'.objs[i0]? = some r0 := by rw [o8]; exact s4
    refine hyy t' _ _ s4' rfl fun Y1 y0 => ?_
    simp -implicitDefEqProofs only [go_sem, Nat.reduceBEq, Nat.reduceAdd, eq_self, true_and, and_true, and_self, List.getElem?_cons_zero, List.getElem?_cons_succ, Nat.reduceLeDiff, Nat.zero_add, Nat.reduceSub, Nat.le_refl, rndF, setPs, dropL, cgV, cgC]
    obtain ⟨rx, rfl, hrx, hrxl⟩ := hx
    simp -implicitDefEqProofs only [go_sem, Nat.reduceBEq, Nat.reduceAdd, eq_self, true_and, and_true, and_self, List.getElem?_cons_zero, List.getElem?_cons_succ, Nat.reduceLeDiff, Nat.zero_add, Nat.reduceSub, Nat.le_refl, Nat.lt_irrefl]
    refine y0 _ _ s4' fun Y y1 y2 y3 => ?_
    clear y0 Y1 hyy
    have hu2 : UpdS (fun j => j = n16) τ8 (t'.setA i0 r1) := (s2.trans (.of (S := fun j => j = i0) e8) fun j hj => .inr (by omega)).trans updS_setA fun j hj => .inr (by omega)
    have b3' : (t'.setA i0 r1).objs[n16]? = some (.cells [.int .i64 ((D.length : Nat) : Int)]) := (setA_ne (by omega)).trans (by rw [o8]; exact s3)
    have b7 : (t'.setA i0 r1).objs[i0]? = some r1 := setA_at s4'
    have hrx2 : (t'.setA i0 r1).live[rx]? = some true := hrx
    generalize t'.setA i0 r1 = t2 at hu2 b3' b7 hrx2 ⊢
    have m12 := hu2.objs _ _ (by omega) b12
    obtain ⟨ad, ag⟩ := a
    have hWt : RdC t2 (.sl b3 R3 z3' es3) W := by
      obtain ⟨l', x1, x2, x3⟩ := bW
      exact ⟨l', x1, rdS_up x2 hu2, fun p hp => rdS_up (x3 p hp) hu2⟩
    obtain ⟨d2, w1, w2, w3, rfl, w5⟩ := hsame t2 (.sl false (.own rx) 1 (intsV .i64 ag.deps)) (ad, ag) D R s1 ⟨_, _, _, rfl, by simp, .inr ⟨hrx2, rfl⟩⟩ hWt
    simp only at w1 w5
    have hDO : D.length < O.length := by rw [s1]; simp
    have hge : decide (((D.length : Nat) : Int) ≥ es3.length) = false := by rw [decide_eq_false_iff_not]; omega
    have hw1 : IntKind.i64.wrap (((D.length : Nat) : Int) + 1) = ((D.length + 1 : Nat) : Int) := by rw [i64_in _ (by omega)]; omega
    simp only [cgV, cgC] at w5
    simp -implicitDefEqProofs only [go_sem, Nat.reduceBEq, Nat.reduceAdd, eq_self, true_and, and_true, and_self, List.getElem?_cons_zero, List.getElem?_cons_succ, Nat.reduceLeDiff, Nat.zero_add, Nat.reduceSub, Nat.le_refl, b3', m12, hge, Int.toNat_natCast, w1, cgC]
    refine ⟨⟨by omega, w2⟩, w3, ?_⟩
    refine call_at w5 ?_
    rintro w τ ⟨hτ, rfl⟩
    have hτ := hτ.symm
    subst hτ
    refine ⟨(Ext.refl _).kept, ?_⟩
    have hn2 := (List.getElem?_eq_some_iff.1 b3').1
    have b7' : ∀ cs, (t2.setC n16 cs).objs[i0]? = some r1 := fun cs => (setC_ne (by omega)).trans b7
    simp -implicitDefEqProofs only [go_sem, Nat.reduceBEq, Nat.reduceAdd, eq_self, true_and, and_true, and_self, List.getElem?_cons_zero, List.getElem?_cons_succ, Nat.reduceLeDiff, Nat.zero_add, Nat.reduceSub, Nat.le_refl, b3', hw1]
    refine y1 _ _ (b7' _) (.inl ⟨rfl, D ++ [(ad, ag)], by rw [s1]; simp, (hu2.trans updS_setC fun j hj => .inl hj).trans updS_setA fun j hj => .inr (by omega), by rw [List.length_append]; exact (setA_ne (by omega)).trans (setC_get hn2), setA_at (b7' _)⟩)
  · rintro t ⟨D, s1, s2, s3, s4⟩
    rw [List.append_nil] at s1
    subst s1
    exact ⟨s2, by rw [← hO, map2_len]; exact s3, s4⟩
  · rintro w t ⟨h1, h2, h3⟩
    refine .inl ⟨h3, ?_⟩
    have u3 : UpdS (fun j => j = n16) τ8 (t.setA i0 (r3 .normal)) := h1.trans updS_setA fun j hj => .inr (by omega)
    have m5 := u3.objs _ _ (by omega) b5
    have m6 := u3.objs _ _ (by omega) b6
    have m12 := u3.objs _ _ (by omega) b12
    have m13 := u3.objs _ _ (by omega) b13
    have m16 : (t.setA i0 (r3 .normal)).objs[n16]? = _ := (setA_ne (by omega)).trans h2
    have hd1 : decide (((W.length : Nat) : Int) = es3.length) = true := by rw [hesl]; simp
    generalize t.setA i0 (r3 .normal) = t9 at u3 m5 m6 m12 m13 m16 ⊢
    cases hd2 : decide ((nn : Int) = es3.length)
    case' false =>
      have hd3 : decide ((nn : Int) = stop) = true := by
        rcases hnn with h | h
        · have := of_decide_eq_false hd2; omega
        · rw [decide_eq_true_eq]; exact h
      simp -implicitDefEqProofs only [go_sem, Nat.reduceBEq, Nat.reduceAdd, eq_self, true_and, and_true, and_self, List.getElem?_cons_zero, List.getElem?_cons_succ, Nat.reduceLeDiff, Nat.zero_add, Nat.reduceSub, Nat.le_refl, m5, m6, m12, m13, m16, hd1, hd2, hd3]
    case' true => simp -implicitDefEqProofs only [go_sem, Nat.reduceBEq, Nat.reduceAdd, eq_self, true_and, and_true, and_self, List.getElem?_cons_zero, List.getElem?_cons_succ, Nat.reduceLeDiff, Nat.zero_add, Nat.reduceSub, Nat.le_refl, m5, m6, m12, m13, m16, hd1, hd2]
    all_goals
      refine call_at awake_ok ?_
      rintro w τ10 ⟨rfl, e10⟩
      refine ⟨kept_none, ?_⟩
      have p6 := e10.objs _ _ m6
      have hn6 := (List.getElem?_eq_some_iff.1 p6).1
      have p6' : ∀ cs, (τ10.setC (σ.objs.length + 1) cs).objs[σ.objs.length + 1]? = some (.cells cs) := fun cs => setC_get hn6
      simp -implicitDefEqProofs only [go_sem, Nat.reduceBEq, Nat.reduceAdd, eq_self, true_and, and_true, and_self, List.getElem?_cons_zero, List.getElem?_cons_succ, Nat.reduceLeDiff, Nat.zero_add, Nat.reduceSub, Nat.le_refl, p6, p6']
      refine q2 _ _ ?_
      simp -implicitDefEqProofs only [go_sem, Nat.reduceBEq, Nat.reduceAdd, eq_self, true_and, and_true, and_self, List.getElem?_cons_zero, List.getElem?_cons_succ, Nat.reduceLeDiff, Nat.zero_add, Nat.reduceSub, Nat.le_refl, p6, p6']
end
end Go.VL.opl

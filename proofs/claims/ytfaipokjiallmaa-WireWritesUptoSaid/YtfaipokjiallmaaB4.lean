import Derived.Test.YtfaipokjiallmaaB3
import Derived.WalkKit
import Derived.ProofKit
import Derived.OpenShut
import Derived.JoinedCond
import Derived.ReadAgain
import Derived.WideKeyArgs
import Derived.ChangeArms
set_option linter.unusedVariables false
set_option linter.unusedSimpArgs false
namespace Go.VL.wire
open Go Go.VL Go.Proofs Go.IntWalk

/-- A change, part by part, and the reader behind it. -/
def g1 (bs : List UInt8) : Cg × RS := (⟨0, 0, 0, [], (num bs (0, 0, 0)).1, 0, 0, 0, 0, 0, 0, [], []⟩, (num bs (0, 0, 0)).2)
def g2 (bs : List UInt8) (x : Cg × RS) : Cg × RS := ({ x.1 with ac := (stp bs x.2).1.1, ar := (stp bs x.2).1.2 }, (stp bs x.2).2)
def g3 (bs : List UInt8) (x : Cg × RS) : Cg × RS := ({ x.1 with seq := (num bs x.2).1 }, (num bs x.2).2)
def g4 (bs : List UInt8) (x : Cg × RS) : Cg × RS := ({ x.1 with deps := intsN (nums bs x.2).1, nc := x.1.ac, nr := x.1.ar }, (nums bs x.2).2)
def g5 (bs : List UInt8) (x : Cg × RS) : Cg × RS := bif decide (x.1.kind = 1) then x else ({ x.1 with nc := (stp bs x.2).1.1, nr := (stp bs x.2).1.2 }, (stp bs x.2).2)
def g6 (bs : List UInt8) (x : Cg × RS) : Cg × RS := bif decide (x.1.kind = 1) || decide (x.1.kind = 2) then ({ x.1 with pc := (stp bs x.2).1.1, pr := (stp bs x.2).1.2, fc := (stp bs (stp bs x.2).2).1.1, fr := (stp bs (stp bs x.2).2).1.2 }, (stp bs (stp bs x.2).2).2) else x
def g7 (bs : List UInt8) (m : Int) (x : Cg × RS) : Cg × RS := bif namedB x.1 then ({ x.1 with name := (txt bs m x.2).1 }, (txt bs m x.2).2) else x
def g8 (bs : List UInt8) (m : Int) (x : Cg × RS) : Cg × RS := bif valuedB x.1 then ({ x.1 with val := (txt bs m x.2).1 }, (txt bs m x.2).2) else x
def gHead (bs : List UInt8) : Cg × RS := g6 bs (g5 bs (g4 bs (g3 bs (g2 bs (g1 bs)))))
def gAll (bs : List UInt8) (mn mv : Int) : Cg × RS := g8 bs mv (g7 bs mn (gHead bs))
def zeroG : Cg := ⟨0, 0, 0, [], 0, 0, 0, 0, 0, 0, 0, [], []⟩
def doneO (bs : List UInt8) (st : RS) : Int := doneR bs st.1 st.2.1
def getB (bs : List UInt8) : Bool := decide (doneO bs (gAll bs 32 256).2 = 0) && decide (chkI (gAll bs 32 256).1 = 0)
def getG (bs : List UInt8) : Cg := bif getB bs then (gAll bs 32 256).1 else zeroG
def getI (bs : List UInt8) : Int := bif getB bs then 0 else 2

section
variable {bs : List UInt8} {x : Cg × RS} {m : Int}
theorem In.g2 (h : In bs x.2) : In bs (g2 bs x).2 := h.stp
theorem In.g3 (h : In bs x.2) : In bs (g3 bs x).2 := h.num
theorem In.g4 (h : In bs x.2) : In bs (g4 bs x).2 := In.numsN _ h.cnt
theorem In.g5 (h : In bs x.2) : In bs (g5 bs x).2 := by unfold wire.g5; cases decide (x.1.kind = 1); exact h.stp; exact h
theorem In.g6 (h : In bs x.2) : In bs (g6 bs x).2 := by unfold wire.g6; cases decide (x.1.kind = 1) || decide (x.1.kind = 2); exact h; exact h.stp.stp
theorem In.g7 (h : In bs x.2) : In bs (g7 bs m x).2 := by unfold wire.g7; cases namedB x.1; exact h; exact h.txt
theorem In.g8 (h : In bs x.2) : In bs (g8 bs m x).2 := by unfold wire.g8; cases valuedB x.1; exact h; exact h.txt
theorem txt_len (bs : List UInt8) (m : Int) (st : RS) : (txt bs m st).1.length ≤ bs.length := by
  unfold wire.txt txtR
  split
  · split
    · split
      · simp
      · simp only [List.length_take, List.length_drop]; omega
    · simp
  · simp
theorem gHead_name (bs : List UInt8) : (gHead bs).1.name = [] ∧ (gHead bs).1.val = [] := by
  unfold gHead wire.g6
  have h5 : ∀ x : Cg × RS, (g5 bs x).1.name = x.1.name ∧ (g5 bs x).1.val = x.1.val := fun x => by unfold wire.g5; cases decide (x.1.kind = 1) <;> exact ⟨rfl, rfl⟩
  have h := h5 (g4 bs (g3 bs (g2 bs (g1 bs))))
  generalize g5 bs (g4 bs (g3 bs (g2 bs (g1 bs)))) = x at h
  cases decide (x.1.kind = 1) || decide (x.1.kind = 2) <;> exact h
theorem gAll_name (bs : List UInt8) (mn mv : Int) : (gAll bs mn mv).1.name.length ≤ bs.length ∧ (gAll bs mn mv).1.val.length ≤ bs.length := by
  unfold gAll
  have h := gHead_name bs
  generalize gHead bs = x at h
  have h7 : (g7 bs mn x).1.name.length ≤ bs.length ∧ (g7 bs mn x).1.val = [] := by
    unfold wire.g7
    cases namedB x.1
    · exact ⟨by show x.1.name.length ≤ _; rw [h.1]; simp, h.2⟩
    · exact ⟨txt_len _ _ _, h.2⟩
  generalize g7 bs mn x = y at h7
  unfold wire.g8
  cases valuedB y.1
  · exact ⟨h7.1, by show y.1.val.length ≤ _; rw [h7.2]; simp⟩
  · exact ⟨h7.1, txt_len _ _ _⟩
theorem in0 (bs : List UInt8) : In bs (0, 0, 0) := ⟨Nat.zero_le _, fun _ => rfl⟩
end

section
variable {σ : St} {v : V} {bs : List UInt8}
def z13 : List V := [.int .i64 0, .int .i64 0, .int .i64 0, .sl true .pub 0 [], .int .i64 0, .int .i64 0, .int .i64 0, .int .i64 0, .int .i64 0, .int .i64 0, .int .i64 0, .str [], .str []]
set_option maxRecDepth 100000 in
set_option maxHeartbeats 4000000 in
theorem get_ok (hv : RdS σ v 1 (bytesV bs)) (hlen : bs.length ≤ 100000000) :
    CallA Try.prog 15 [v] σ fun w σ' => Ext σ σ' ∧ ∃ d, w = .tup [cgV d (getG bs), .int .i64 (getI bs)] ∧ RdS σ' d 1 (intsV .i64 (getG bs).deps) ∧ FreshS σ.live.length d := by
  refine fn_at Try.func15 (by decide) comp15 rfl fun Q q1 q2 => ?_
  clear q1
  simp -implicitDefEqProofs only [go_sem, Nat.reduceBEq, Nat.reduceAdd, eq_self, true_and, and_true, and_self, List.getElem?_cons_zero, List.getElem?_cons_succ, Nat.reduceLeDiff, Nat.zero_add, Nat.reduceSub, Nat.le_refl, c15]
  refine call_at (new_ok hv (by omega)) ?_
  rintro w τ ⟨e0, rfl, ⟨s, hr1, hr2⟩, lo, hto⟩
  refine ⟨kept_none, ?_⟩
  have hr : RdrAt τ σ.objs.length s bs (0, 0, 0) := ⟨hr1, hr2⟩
  have up : ∀ {τ'}, Upd σ.objs.length τ τ' → Ext σ τ' := fun h => h.ext σ e0 (Nat.le_refl _)
  generalize σ.objs.length = i at hr up
  clear hr1 hr2 hto lo
  simp -implicitDefEqProofs only [go_sem, Nat.reduceBEq, Nat.reduceAdd, eq_self, true_and, and_true, and_self, List.getElem?_cons_zero, List.getElem?_cons_succ, Nat.reduceLeDiff, Nat.zero_add, Nat.reduceSub, Nat.le_refl, Nat.lt_irrefl]
  refine call_at (num_at hr (in0 bs) (by omega)) ?_
  rintro w τ1 ⟨rfl, hr, u1⟩
  refine ⟨kept_none, ?_⟩
  have hi : In bs (g1 bs).2 := (in0 bs).num
  simp -implicitDefEqProofs only [go_sem, Nat.reduceBEq, Nat.reduceAdd, eq_self, true_and, and_true, and_self, List.getElem?_cons_zero, List.getElem?_cons_succ, Nat.reduceLeDiff, Nat.zero_add, Nat.reduceSub, Nat.le_refl, Nat.lt_irrefl]
  refine call_at (stp_at hr hi (by omega)) ?_
  rintro w τ2 ⟨rfl, hr, u2⟩
  refine ⟨kept_none, ?_⟩
  have hi2 := hi.g2
  simp -implicitDefEqProofs only [go_sem, Nat.reduceBEq, Nat.reduceAdd, eq_self, true_and, and_true, and_self, List.getElem?_cons_zero, List.getElem?_cons_succ, Nat.reduceLeDiff, Nat.zero_add, Nat.reduceSub, Nat.le_refl, stV]
  refine call_at (num_at hr hi2 (by omega)) ?_
  rintro w τ3 ⟨rfl, hr, u3⟩
  refine ⟨kept_none, ?_⟩
  have hi3 := hi2.g3
  simp -implicitDefEqProofs only [go_sem, Nat.reduceBEq, Nat.reduceAdd, eq_self, true_and, and_true, and_self, List.getElem?_cons_zero, List.getElem?_cons_succ, Nat.reduceLeDiff, Nat.zero_add, Nat.reduceSub, Nat.le_refl, Nat.lt_irrefl]
  refine call_at (nums_at hr hi3 (by omega)) ?_
  rintro d τ4 ⟨hd, hfr, hr, u4⟩
  refine ⟨kept_none, ?_⟩
  have hi4 := hi3.g4
  obtain ⟨db, dR, dz, rfl, -, -⟩ := id hd
  simp -implicitDefEqProofs only [go_sem, Nat.reduceBEq, Nat.reduceAdd, eq_self, true_and, and_true, and_self, List.getElem?_cons_zero, List.getElem?_cons_succ, Nat.reduceLeDiff, Nat.zero_add, Nat.reduceSub, Nat.le_refl, Nat.lt_irrefl]
  have u : Upd i τ τ4 := ((u1.trans u2).trans u3).trans u4
  have hfr : FreshS σ.live.length (.sl db dR dz (intsV .i64 (g4 bs (g3 bs (g2 bs (g1 bs)))).1.deps)) := by
    have hll := Nat.le_trans e0.llen (((u1.trans u2).trans u3).llen)
    rcases hfr with h | ⟨q, z, es, h1, h2⟩
    · exact .inl h
    · exact .inr ⟨q, z, es, h1, Nat.le_trans hll h2⟩
  clear u1 u2 u3 u4
  have hin : In bs (g4 bs (g3 bs (g2 bs (g1 bs)))).2 := hi4
  have hd4 : RdS τ4 (.sl db dR dz (intsV .i64 (g4 bs (g3 bs (g2 bs (g1 bs)))).1.deps)) 1 (intsV .i64 (g4 bs (g3 bs (g2 bs (g1 bs)))).1.deps) := hd
  have hr4 : RdrAt τ4 i s bs (g4 bs (g3 bs (g2 bs (g1 bs)))).2 := hr
  have hall : gAll bs 32 256 = g8 bs 256 (g7 bs 32 (g6 bs (g5 bs (g4 bs (g3 bs (g2 bs (g1 bs))))))) := rfl
  refine cut_at (fun G τ' => ∃ x, x = g5 bs (g4 bs (g3 bs (g2 bs (g1 bs)))) ∧ x.1.deps = (g4 bs (g3 bs (g2 bs (g1 bs)))).1.deps ∧ G = ⟨[(4, .v (.ptr (some (i, 0)))), (5, .loc 5 0), (2, .loc 2 0)], [(5, cgC (.sl db dR dz (intsV .i64 (g4 bs (g3 bs (g2 bs (g1 bs)))).1.deps)) x.1), (2, z13)]⟩ ∧ RdrAt τ' i s bs x.2 ∧ Upd i τ4 τ') ?_ ?_
  · intro Z z1 z2 z3
    simp -implicitDefEqProofs only [go_sem, Nat.reduceBEq, Nat.reduceAdd, eq_self, true_and, and_true, and_self, List.getElem?_cons_zero, List.getElem?_cons_succ, Nat.reduceLeDiff, Nat.zero_add, Nat.reduceSub, Nat.le_refl, Nat.lt_irrefl]
    have hk : decide ((g4 bs (g3 bs (g2 bs (g1 bs)))).1.kind = 1) = decide (((num bs (0, 0, 0)).1 : Int) = 1) := rfl
    cases hk1 : decide (((num bs (0, 0, 0)).1 : Int) = 1) <;> rw [hk1] at hk
    · simp -implicitDefEqProofs only [go_sem, Nat.reduceBEq, Nat.reduceAdd, eq_self, true_and, and_true, and_self, List.getElem?_cons_zero, List.getElem?_cons_succ, Nat.reduceLeDiff, Nat.zero_add, Nat.reduceSub, Nat.le_refl, hk1]
      refine call_at (stp_at hr4 hin (by omega)) ?_
      rintro w τ5 ⟨rfl, a1, a2⟩
      refine ⟨kept_none, ?_⟩
      have hx : g5 bs (g4 bs (g3 bs (g2 bs (g1 bs)))) = ({ (g4 bs (g3 bs (g2 bs (g1 bs)))).1 with nc := (stp bs (g4 bs (g3 bs (g2 bs (g1 bs)))).2).1.1, nr := (stp bs (g4 bs (g3 bs (g2 bs (g1 bs)))).2).1.2 }, (stp bs (g4 bs (g3 bs (g2 bs (g1 bs)))).2).2) := by unfold wire.g5; rw [hk]; rfl
      simp -implicitDefEqProofs only [go_sem, Nat.reduceBEq, Nat.reduceAdd, eq_self, true_and, and_true, and_self, List.getElem?_cons_zero, List.getElem?_cons_succ, Nat.reduceLeDiff, Nat.zero_add, Nat.reduceSub, Nat.le_refl, stV]
      refine z1 _ _ _ (.inr ?_) ⟨_, hx.symm, rfl, rfl, a1, a2⟩
      simp -implicitDefEqProofs only [go_sem, Nat.reduceBEq, Nat.reduceAdd, eq_self, true_and, and_true, and_self, List.getElem?_cons_zero, List.getElem?_cons_succ, Nat.reduceLeDiff, Nat.zero_add, Nat.reduceSub, Nat.le_refl, cgC, z13]
      rfl
    · have hx : g5 bs (g4 bs (g3 bs (g2 bs (g1 bs)))) = g4 bs (g3 bs (g2 bs (g1 bs))) := by unfold wire.g5; rw [hk]; rfl
      simp -implicitDefEqProofs only [go_sem, Nat.reduceBEq, Nat.reduceAdd, eq_self, true_and, and_true, and_self, List.getElem?_cons_zero, List.getElem?_cons_succ, Nat.reduceLeDiff, Nat.zero_add, Nat.reduceSub, Nat.le_refl, hk1]
      refine z1 _ _ _ (.inr ?_) ⟨_, hx.symm, rfl, rfl, hr4, Upd.refl _ _⟩
      simp -implicitDefEqProofs only [go_sem, Nat.reduceBEq, Nat.reduceAdd, eq_self, true_and, and_true, and_self, List.getElem?_cons_zero, List.getElem?_cons_succ, Nat.reduceLeDiff, Nat.zero_add, Nat.reduceSub, Nat.le_refl, cgC, z13]
      rfl
  rintro G τ5 ⟨x5, hx5, hd5, rfl, hr5, u5⟩
  have hin5 : In bs x5.2 := by rw [hx5]; exact hin.g5
  rw [← hx5] at hall
  rw [← hd5] at hd4 hfr
  rw [← hd5]
  clear hx5 hd5 hr4 hr hi hi2 hi3 hi4 hin hd
  have u6 := u.trans u5
  have hd5 := rd_upd hd4 u5
  clear u5 u hd4
  generalize hdd : V.sl db dR dz (intsV .i64 x5.1.deps) = d at hd5 hfr ⊢
  have hdsl : ∃ b R z, d = V.sl b R z (intsV .i64 x5.1.deps) := ⟨_, _, _, hdd.symm⟩
  clear hdd
  refine cut_at (fun G τ' => ∃ x, x = g6 bs x5 ∧ x.1.deps = x5.1.deps ∧ G = ⟨[(4, .v (.ptr (some (i, 0)))), (5, .loc 5 0), (2, .loc 2 0)], [(5, cgC d x.1), (2, z13)]⟩ ∧ RdrAt τ' i s bs x.2 ∧ Upd i τ5 τ') ?_ ?_
  · intro Z z1 z2 z3
    simp -implicitDefEqProofs only [go_sem, Nat.reduceBEq, Nat.reduceAdd, eq_self, true_and, and_true, and_self, List.getElem?_cons_zero, List.getElem?_cons_succ, Nat.reduceLeDiff, Nat.zero_add, Nat.reduceSub, Nat.le_refl, cgC, z13]
    have hx0 : g6 bs x5 = bif decide (x5.1.kind = 1) || decide (x5.1.kind = 2) then ({ x5.1 with pc := (stp bs x5.2).1.1, pr := (stp bs x5.2).1.2, fc := (stp bs (stp bs x5.2).2).1.1, fr := (stp bs (stp bs x5.2).2).1.2 }, (stp bs (stp bs x5.2).2).2) else x5 := rfl
    cases hk1 : decide (x5.1.kind = 1) <;> rw [hk1] at hx0
    case' false =>
      cases hk2 : decide (x5.1.kind = 2) <;> rw [hk2] at hx0
      case false =>
        simp -implicitDefEqProofs only [go_sem, Nat.reduceBEq, Nat.reduceAdd, eq_self, true_and, and_true, and_self, List.getElem?_cons_zero, List.getElem?_cons_succ, Nat.reduceLeDiff, Nat.zero_add, Nat.reduceSub, Nat.le_refl, hk1, hk2]
        refine z1 _ _ _ (.inr ?_) ⟨_, hx0.symm, rfl, rfl, hr5, Upd.refl _ _⟩
        simp -implicitDefEqProofs only [go_sem, Nat.reduceBEq, Nat.reduceAdd, eq_self, true_and, and_true, and_self, List.getElem?_cons_zero, List.getElem?_cons_succ, Nat.reduceLeDiff, Nat.zero_add, Nat.reduceSub, Nat.le_refl, cgC, z13]
        rfl
      simp -implicitDefEqProofs only [go_sem, Nat.reduceBEq, Nat.reduceAdd, eq_self, true_and, and_true, and_self, List.getElem?_cons_zero, List.getElem?_cons_succ, Nat.reduceLeDiff, Nat.zero_add, Nat.reduceSub, Nat.le_refl, hk1, hk2]
    case' true =>
      simp -implicitDefEqProofs only [go_sem, Nat.reduceBEq, Nat.reduceAdd, eq_self, true_and, and_true, and_self, List.getElem?_cons_zero, List.getElem?_cons_succ, Nat.reduceLeDiff, Nat.zero_add, Nat.reduceSub, Nat.le_refl, hk1]
    all_goals
      obtain ⟨_, _, _, rfl⟩ := hdsl
      refine call_at (stp_at hr5 hin5 (by omega)) ?_
      rintro w τ6 ⟨rfl, a1, a2⟩
      refine ⟨kept_none, ?_⟩
      simp -implicitDefEqProofs only [go_sem, Nat.reduceBEq, Nat.reduceAdd, eq_self, true_and, and_true, and_self, List.getElem?_cons_zero, List.getElem?_cons_succ, Nat.reduceLeDiff, Nat.zero_add, Nat.reduceSub, Nat.le_refl, stV]
      refine call_at (stp_at a1 hin5.stp (by omega)) ?_
      rintro w τ7 ⟨rfl, a3, a4⟩
      refine ⟨kept_none, ?_⟩
      simp -implicitDefEqProofs only [go_sem, Nat.reduceBEq, Nat.reduceAdd, eq_self, true_and, and_true, and_self, List.getElem?_cons_zero, List.getElem?_cons_succ, Nat.reduceLeDiff, Nat.zero_add, Nat.reduceSub, Nat.le_refl, stV]
      refine z1 _ _ _ (.inr ?_) ⟨_, hx0.symm, rfl, rfl, a3, a2.trans a4⟩
      simp -implicitDefEqProofs only [go_sem, Nat.reduceBEq, Nat.reduceAdd, eq_self, true_and, and_true, and_self, List.getElem?_cons_zero, List.getElem?_cons_succ, Nat.reduceLeDiff, Nat.zero_add, Nat.reduceSub, Nat.le_refl, cgC, z13]
      rfl
  rintro G τ6 ⟨x6, hx6, hd6, rfl, hr6, u7⟩
  have hin6 : In bs x6.2 := by rw [hx6]; exact hin5.g6
  rw [← hx6] at hall
  rw [← hd6] at hd5 hdsl
  have hdr := rd_upd hd5 u7
  have u8 := u6.trans u7
  clear hx6 hd6 hr5 hin5 u7 u6 hd5
  refine cut_at (fun G τ' => ∃ x, x = g7 bs 32 x6 ∧ x.1.deps = x6.1.deps ∧ G = ⟨[(4, .v (.ptr (some (i, 0)))), (5, .loc 5 0), (2, .loc 2 0)], [(5, cgC d x.1), (2, z13)]⟩ ∧ RdrAt τ' i s bs x.2 ∧ Upd i τ6 τ') ?_ ?_
  · intro Z z1 z2 z3
    simp -implicitDefEqProofs only [go_sem, Nat.reduceBEq, Nat.reduceAdd, eq_self, true_and, and_true, and_self, List.getElem?_cons_zero, List.getElem?_cons_succ, Nat.reduceLeDiff, Nat.zero_add, Nat.reduceSub, Nat.le_refl, cgC, z13]
    have hx0 : g7 bs 32 x6 = bif decide (x6.1.kind = 1) || (decide (x6.1.kind = 3) || decide (x6.1.kind = 4)) then ({ x6.1 with name := (txt bs 32 x6.2).1 }, (txt bs 32 x6.2).2) else x6 := rfl
    obtain ⟨_, _, _, rfl⟩ := hdsl
    cases hk1 : decide (x6.1.kind = 1) <;> cases hk2 : decide (x6.1.kind = 3) <;> cases hk3 : decide (x6.1.kind = 4) <;> rw [hk1, hk2, hk3] at hx0
    all_goals
      simp -implicitDefEqProofs only [go_sem, Nat.reduceBEq, Nat.reduceAdd, eq_self, true_and, and_true, and_self, List.getElem?_cons_zero, List.getElem?_cons_succ, Nat.reduceLeDiff, Nat.zero_add, Nat.reduceSub, Nat.le_refl, hk1, hk2, hk3]
      first
      | (refine call_at (txt_at hr6 hin6 (by omega)) ?_
         rintro w τ7 ⟨rfl, a1, a2⟩
         refine ⟨kept_none, ?_⟩
         simp -implicitDefEqProofs only [go_sem, Nat.reduceBEq, Nat.reduceAdd, eq_self, true_and, and_true, and_self, List.getElem?_cons_zero, List.getElem?_cons_succ, Nat.reduceLeDiff, Nat.zero_add, Nat.reduceSub, Nat.le_refl, Nat.lt_irrefl]
         refine z1 _ _ _ (.inr ?_) ⟨_, hx0.symm, rfl, rfl, a1, a2⟩
         simp -implicitDefEqProofs only [go_sem, Nat.reduceBEq, Nat.reduceAdd, eq_self, true_and, and_true, and_self, List.getElem?_cons_zero, List.getElem?_cons_succ, Nat.reduceLeDiff, Nat.zero_add, Nat.reduceSub, Nat.le_refl, cgC, z13]
         rfl)
      | (refine z1 _ _ _ (.inr ?_) ⟨_, hx0.symm, rfl, rfl, hr6, Upd.refl _ _⟩
         simp -implicitDefEqProofs only [go_sem, Nat.reduceBEq, Nat.reduceAdd, eq_self, true_and, and_true, and_self, List.getElem?_cons_zero, List.getElem?_cons_succ, Nat.reduceLeDiff, Nat.zero_add, Nat.reduceSub, Nat.le_refl, cgC, z13]
         rfl)
  rintro G τ7 ⟨x7, hx7, hd7, rfl, hr7, u9⟩
  have hin7 : In bs x7.2 := by rw [hx7]; exact hin6.g7
  rw [← hx7] at hall
  rw [← hd7] at hdr hdsl
  have hdr2 := rd_upd hdr u9
  have u10 := u8.trans u9
  clear hx7 hd7 hr6 hin6 u8 u9 hdr
  refine cut_at (fun G τ' => ∃ x, x = g8 bs 256 x7 ∧ x.1.deps = x7.1.deps ∧ G = ⟨[(4, .v (.ptr (some (i, 0)))), (5, .loc 5 0), (2, .loc 2 0)], [(5, cgC d x.1), (2, z13)]⟩ ∧ RdrAt τ' i s bs x.2 ∧ Upd i τ7 τ') ?_ ?_
  · intro Z z1 z2 z3
    simp -implicitDefEqProofs only [go_sem, Nat.reduceBEq, Nat.reduceAdd, eq_self, true_and, and_true, and_self, List.getElem?_cons_zero, List.getElem?_cons_succ, Nat.reduceLeDiff, Nat.zero_add, Nat.reduceSub, Nat.le_refl, cgC, z13]
    have hx0 : g8 bs 256 x7 = bif decide (x7.1.kind = 3) || decide (x7.1.kind = 5) then ({ x7.1 with val := (txt bs 256 x7.2).1 }, (txt bs 256 x7.2).2) else x7 := rfl
    cases hk1 : decide (x7.1.kind = 3) <;> rw [hk1] at hx0
    case' false =>
      cases hk2 : decide (x7.1.kind = 5) <;> rw [hk2] at hx0
      case false =>
        simp -implicitDefEqProofs only [go_sem, Nat.reduceBEq, Nat.reduceAdd, eq_self, true_and, and_true, and_self, List.getElem?_cons_zero, List.getElem?_cons_succ, Nat.reduceLeDiff, Nat.zero_add, Nat.reduceSub, Nat.le_refl, hk1, hk2]
        refine z1 _ _ _ (.inr ?_) ⟨_, hx0.symm, rfl, rfl, hr7, Upd.refl _ _⟩
        simp -implicitDefEqProofs only [go_sem, Nat.reduceBEq, Nat.reduceAdd, eq_self, true_and, and_true, and_self, List.getElem?_cons_zero, List.getElem?_cons_succ, Nat.reduceLeDiff, Nat.zero_add, Nat.reduceSub, Nat.le_refl, cgC, z13]
        rfl
      simp -implicitDefEqProofs only [go_sem, Nat.reduceBEq, Nat.reduceAdd, eq_self, true_and, and_true, and_self, List.getElem?_cons_zero, List.getElem?_cons_succ, Nat.reduceLeDiff, Nat.zero_add, Nat.reduceSub, Nat.le_refl, hk1, hk2]
    case' true =>
      simp -implicitDefEqProofs only [go_sem, Nat.reduceBEq, Nat.reduceAdd, eq_self, true_and, and_true, and_self, List.getElem?_cons_zero, List.getElem?_cons_succ, Nat.reduceLeDiff, Nat.zero_add, Nat.reduceSub, Nat.le_refl, hk1]
    all_goals
      obtain ⟨_, _, _, rfl⟩ := hdsl
      refine call_at (txt_at hr7 hin7 (by omega)) ?_
      rintro w τ8 ⟨rfl, a1, a2⟩
      refine ⟨kept_none, ?_⟩
      simp -implicitDefEqProofs only [go_sem, Nat.reduceBEq, Nat.reduceAdd, eq_self, true_and, and_true, and_self, List.getElem?_cons_zero, List.getElem?_cons_succ, Nat.reduceLeDiff, Nat.zero_add, Nat.reduceSub, Nat.le_refl, Nat.lt_irrefl]
      refine z1 _ _ _ (.inr ?_) ⟨_, hx0.symm, rfl, rfl, a1, a2⟩
      simp -implicitDefEqProofs only [go_sem, Nat.reduceBEq, Nat.reduceAdd, eq_self, true_and, and_true, and_self, List.getElem?_cons_zero, List.getElem?_cons_succ, Nat.reduceLeDiff, Nat.zero_add, Nat.reduceSub, Nat.le_refl, cgC, z13]
      rfl
  rintro G τ8 ⟨x8, hx8, hd8, rfl, hr8, u11⟩
  have hin8 : In bs x8.2 := by rw [hx8]; exact hin7.g8
  rw [← hx8] at hall
  rw [← hd8] at hdr2 hdsl
  have hdr3 := rd_upd hdr2 u11
  have eE := up (u10.trans u11)
  clear hx8 hd8 hr7 hin7 u10 u11 hdr2
  have hB : getB bs = (decide (doneO bs x8.2 = 0) && decide (chkI x8.1 = 0)) := by unfold getB; rw [hall]
  have nlen : x8.1.name.length < 4611686018427387904 := by
    have := (gAll_name bs 32 256).1
    rw [hall] at this; omega
  simp -implicitDefEqProofs only [go_sem, Nat.reduceBEq, Nat.reduceAdd, eq_self, true_and, and_true, and_self, List.getElem?_cons_zero, List.getElem?_cons_succ, Nat.reduceLeDiff, Nat.zero_add, Nat.reduceSub, Nat.le_refl, Nat.lt_irrefl]
  refine call_at (done_ok hr8.1 hr8.2) ?_
  rintro w τ9 ⟨rfl, rfl⟩
  refine ⟨kept_none, ?_⟩
  have hdo : doneR bs x8.2.1 x8.2.2.1 = doneO bs x8.2 := rfl
  rw [hdo]
  unfold getG getI at q2
  rw [hB, hall] at q2
  cases h1 : decide (doneO bs x8.2 = 0) <;> rw [h1] at q2
  case false =>
    simp -implicitDefEqProofs only [go_sem, Nat.reduceBEq, Nat.reduceAdd, eq_self, true_and, and_true, and_self, List.getElem?_cons_zero, List.getElem?_cons_succ, Nat.reduceLeDiff, Nat.zero_add, Nat.reduceSub, Nat.le_refl, h1, cgC, z13]
    refine q2 _ _ ?_
    simp -implicitDefEqProofs only [go_sem, Nat.reduceBEq, Nat.reduceAdd, eq_self, true_and, and_true, and_self, List.getElem?_cons_zero, List.getElem?_cons_succ, Nat.reduceLeDiff, Nat.zero_add, Nat.reduceSub, Nat.le_refl, cond_true, cond_false, Bool.true_or, Bool.false_or, Bool.or_true, Bool.or_false, Bool.and_true, Bool.and_false, Bool.true_and, Bool.false_and, Bool.or_self, Bool.and_self]
    exact ⟨eE, _, rfl, ⟨true, .pub, 0, rfl, by simp [zeroG, intsV], .inl rfl⟩, .inl ⟨0, rfl⟩⟩
  obtain ⟨qb, qR, qz, rfl⟩ := hdsl
  simp -implicitDefEqProofs only [go_sem, Nat.reduceBEq, Nat.reduceAdd, eq_self, true_and, and_true, and_self, List.getElem?_cons_zero, List.getElem?_cons_succ, Nat.reduceLeDiff, Nat.zero_add, Nat.reduceSub, Nat.le_refl, h1, cgC]
  refine call_at (chk_ok (d := .sl qb qR qz (intsV .i64 x8.1.deps)) (g := x8.1) hdr3 nlen) ?_
  rintro w τ10 ⟨rfl, rfl⟩
  refine ⟨kept_none, ?_⟩
  cases h2 : decide (chkI x8.1 = 0) <;> rw [h2] at q2
  case false =>
    simp -implicitDefEqProofs only [go_sem, Nat.reduceBEq, Nat.reduceAdd, eq_self, true_and, and_true, and_self, List.getElem?_cons_zero, List.getElem?_cons_succ, Nat.reduceLeDiff, Nat.zero_add, Nat.reduceSub, Nat.le_refl, h2, cgC, z13]
    refine q2 _ _ ?_
    simp -implicitDefEqProofs only [go_sem, Nat.reduceBEq, Nat.reduceAdd, eq_self, true_and, and_true, and_self, List.getElem?_cons_zero, List.getElem?_cons_succ, Nat.reduceLeDiff, Nat.zero_add, Nat.reduceSub, Nat.le_refl, cond_true, cond_false, Bool.true_or, Bool.false_or, Bool.or_true, Bool.or_false, Bool.and_true, Bool.and_false, Bool.true_and, Bool.false_and, Bool.or_self, Bool.and_self]
    exact ⟨eE, _, rfl, ⟨true, .pub, 0, rfl, by simp [zeroG, intsV], .inl rfl⟩, .inl ⟨0, rfl⟩⟩
  simp -implicitDefEqProofs only [go_sem, Nat.reduceBEq, Nat.reduceAdd, eq_self, true_and, and_true, and_self, List.getElem?_cons_zero, List.getElem?_cons_succ, Nat.reduceLeDiff, Nat.zero_add, Nat.reduceSub, Nat.le_refl, h2, cgC, z13]
  refine q2 _ _ ?_
  simp -implicitDefEqProofs only [go_sem, Nat.reduceBEq, Nat.reduceAdd, eq_self, true_and, and_true, and_self, List.getElem?_cons_zero, List.getElem?_cons_succ, Nat.reduceLeDiff, Nat.zero_add, Nat.reduceSub, Nat.le_refl, cond_true, cond_false, Bool.true_or, Bool.false_or, Bool.or_true, Bool.or_false, Bool.and_true, Bool.and_false, Bool.true_and, Bool.false_and, Bool.or_self, Bool.and_self]
  exact ⟨eE, _, rfl, hdr3, hfr⟩
end
end Go.VL.wire

namespace Go.VL.wire
open Go Go.VL Go.Proofs Go.IntWalk

/-- A reader as a value. -/
def rst (s : V) (st : RS) : V := .agg (cellsR s st.1 st.2.1 st.2.2)
section
variable {σ : St} {s : V} {bs : List UInt8} {st : RS} {m : Int}
theorem rnum_at (hs : RdS σ s 1 (bytesV bs)) (hi : In bs st) (hlen : bs.length ≤ 1073741824) :
    CallA Try.prog 41 [rst s st] σ fun v σ' => σ' = σ ∧ v = .tup [rst s (num bs st).2, .int .i64 (num bs st).1] := refNext_ok hs hi.1 hlen hi.2
theorem rcnt_at (hs : RdS σ s 1 (bytesV bs)) (hi : In bs st) (hlen : bs.length ≤ 1073741824) :
    CallA Try.prog 57 [rst s st, .int .i64 m] σ fun v σ' => σ' = σ ∧ v = .tup [rst s (cnt bs m st).2, .int .i64 (cnt bs m st).1] := refCount_ok hs hi.1 hlen hi.2
theorem rtxt_at (hs : RdS σ s 1 (bytesV bs)) (hi : In bs st) (hlen : bs.length ≤ 1073741824) :
    CallA Try.prog 44 [rst s st, .int .i64 m] σ fun v σ' => σ' = σ ∧ v = .tup [rst s (txt bs m st).2, .str (txt bs m st).1] := refText_ok hs hi.1 hlen hi.2
set_option maxRecDepth 100000 in
theorem rstp_at (hs : RdS σ s 1 (bytesV bs)) (hi : In bs st) (hlen : bs.length ≤ 1073741824) :
    CallA Try.prog 42 [rst s st] σ fun v σ' => σ' = σ ∧ v = .tup [rst s (stp bs st).2, stV (stp bs st).1.1 (stp bs st).1.2] := by
  obtain ⟨zb, zR, zz, rfl, -, -⟩ := id hs
  refine fn_at Try.func42 (by decide) comp42 rfl fun Q q1 q2 => ?_
  clear q1
  simp -implicitDefEqProofs only [go_sem, Nat.reduceBEq, Nat.reduceAdd, eq_self, true_and, and_true, and_self, List.getElem?_cons_zero, List.getElem?_cons_succ, Nat.reduceLeDiff, Nat.zero_add, Nat.reduceSub, Nat.le_refl, c42, rst, cellsR]
  refine call_at (rnum_at hs hi hlen) ?_
  rintro v τ ⟨rfl, rfl⟩
  refine ⟨kept_none, ?_⟩
  simp -implicitDefEqProofs only [go_sem, Nat.reduceBEq, Nat.reduceAdd, eq_self, true_and, and_true, and_self, List.getElem?_cons_zero, List.getElem?_cons_succ, Nat.reduceLeDiff, Nat.zero_add, Nat.reduceSub, Nat.le_refl, rst, cellsR]
  refine call_at (rnum_at hs hi.num hlen) ?_
  rintro v τ ⟨rfl, rfl⟩
  refine ⟨kept_none, ?_⟩
  simp -implicitDefEqProofs only [go_sem, Nat.reduceBEq, Nat.reduceAdd, eq_self, true_and, and_true, and_self, List.getElem?_cons_zero, List.getElem?_cons_succ, Nat.reduceLeDiff, Nat.zero_add, Nat.reduceSub, Nat.le_refl, rst, cellsR]
  refine q2 _ _ ?_
  simp -implicitDefEqProofs only [go_sem, Nat.reduceBEq, Nat.reduceAdd, eq_self, true_and, and_true, and_self, List.getElem?_cons_zero, List.getElem?_cons_succ, Nat.reduceLeDiff, Nat.zero_add, Nat.reduceSub, Nat.le_refl, rst, cellsR, stV, stp]
  try trivial
theorem numsN_lt (bs : List UInt8) : ∀ (k : Nat) (st : RS), In bs st → ∀ n ∈ (numsN bs k st).1, n < 9223372036854775808
  | 0, st, h, n, hn => by simp [numsN] at hn
  | k + 1, st, h, n, hn => by
    rw [numsN] at hn
    rcases List.mem_cons.1 hn with rfl | hn
    · exact num_lt h
    · exact numsN_lt bs k _ h.num n hn
set_option maxRecDepth 100000 in
set_option maxHeartbeats 1000000 in
theorem rnums_at (hs : RdS σ s 1 (bytesV bs)) (hi : In bs st) (hlen : bs.length ≤ 1073741824) :
    CallA Try.prog 43 [rst s st] σ fun v σ' => Ext σ σ' ∧ σ'.objs = σ.objs ∧ ∃ d, v = .tup [rst s (nums bs st).2, d] ∧ RdS σ' d 1 (intsV .i64 (intsN (nums bs st).1)) ∧ FreshS σ.live.length d := by
  obtain ⟨zb, zR, zz, rfl, -, -⟩ := id hs
  refine fn_at Try.func43 (by decide) comp43 rfl fun Q q1 q2 => ?_
  clear q1
  simp -implicitDefEqProofs only [go_sem, Nat.reduceBEq, Nat.reduceAdd, eq_self, true_and, and_true, and_self, List.getElem?_cons_zero, List.getElem?_cons_succ, Nat.reduceLeDiff, Nat.zero_add, Nat.reduceSub, Nat.le_refl, c43, rst, cellsR]
  refine call_at (rcnt_at hs hi hlen) ?_
  rintro v τ ⟨rfl, rfl⟩
  refine ⟨kept_none, ?_⟩
  have hn := cnt_le bs st hi
  have hin := hi.cnt (m := 64)
  have hnums : nums bs st = numsN bs (cnt bs 64 st).1 (cnt bs 64 st).2 := rfl
  generalize (cnt bs 64 st).1 = n at hn hnums
  generalize (cnt bs 64 st).2 = s0 at hin hnums
  rw [hnums] at q2
  simp -implicitDefEqProofs only [go_sem, Nat.reduceBEq, Nat.reduceAdd, eq_self, true_and, and_true, and_self, List.getElem?_cons_zero, List.getElem?_cons_succ, Nat.reduceLeDiff, Nat.zero_add, Nat.reduceSub, Nat.le_refl, rst, cellsR]
  refine loop_at (fun (x : Nat × Nat) => ⟨[(4, .loc 4 0), (2, .loc 2 0), (5, .v (.int .i64 n)), (6, .v (.sl false (.own x.2) 1 (intsV .i64 (intsN (numsN bs x.1 s0).1)))), (7, .v (.int .i64 x.1))], [(4, cellsR (.sl zb zR zz (bytesV bs)) (numsN bs x.1 s0).2.1 (numsN bs x.1 s0).2.2.1 (numsN bs x.1 s0).2.2.2), (2, [.sl true .pub 0 [], .int .i64 0, .int .i64 0, .int .i64 0])]⟩)
    (fun x τ' => x.1 ≤ n ∧ Ext τ τ' ∧ τ'.objs = τ.objs ∧ τ'.live[x.2]? = some true ∧ τ.live.length ≤ x.2) (fun x => n - x.1) (0, τ.live.length) ?_ ?_ ?_
  · refine .inr ?_
    simp -implicitDefEqProofs only [go_sem, Nat.reduceBEq, Nat.reduceAdd, eq_self, true_and, and_true, and_self, List.getElem?_cons_zero, List.getElem?_cons_succ, Nat.reduceLeDiff, Nat.zero_add, Nat.reduceSub, Nat.le_refl, numsN, intsN, cellsR]
    try simp [intsV]
  · exact ⟨Nat.zero_le _, ext_live τ true, rfl, live_last _ _, Nat.le_refl _⟩
  rintro ⟨k, q⟩ τ1 ⟨g1, g2, g3, g4, g5⟩ Z z1 z2 z3
  simp only at g1 g4 g5
  simp -implicitDefEqProofs only [go_sem, Nat.reduceBEq, Nat.reduceAdd, eq_self, true_and, and_true, and_self, List.getElem?_cons_zero, List.getElem?_cons_succ, Nat.reduceLeDiff, Nat.zero_add, Nat.reduceSub, Nat.le_refl, cellsR]
  refine CondW_b (fun hc => ?_) (fun hc => ?_)
  · have hk : k < n := by simpa using hc
    simp -implicitDefEqProofs only [go_sem, Nat.reduceBEq, Nat.reduceAdd, eq_self, true_and, and_true, and_self, List.getElem?_cons_zero, List.getElem?_cons_succ, Nat.reduceLeDiff, Nat.zero_add, Nat.reduceSub, Nat.le_refl, Nat.lt_irrefl]
    refine call_at (rnum_at (st := (numsN bs k s0).2) (hs.ext g2) (In.numsN k hin) hlen) ?_
    rintro v τ2 ⟨rfl, rfl⟩
    refine ⟨kept_none, ?_⟩
    have hsn := numsN_snoc bs k s0
    have hll : (intsV .i64 (intsN (numsN bs k s0).1)).length ≤ 1073741823 := by simp [intsV, intsN, numsN_len]; omega
    have hap : intsV .i64 (intsN (numsN bs k s0).1) ++ [[V.int .i64 ((num bs (numsN bs k s0).2).1 : Int)]] = intsV .i64 (intsN (numsN bs (k + 1) s0).1) := by rw [hsn]; simp [intsV, intsN]
    simp -implicitDefEqProofs only [go_sem, Nat.reduceBEq, Nat.reduceAdd, eq_self, true_and, and_true, and_self, List.getElem?_cons_zero, List.getElem?_cons_succ, Nat.reduceLeDiff, Nat.zero_add, Nat.reduceSub, Nat.le_refl, rst, cellsR, hap]
    refine ⟨⟨.inr trivial, ?_, ⟨.inr (live_last _ _), .inl trivial⟩, hll⟩, ?_⟩
    · exact .inr ((ext_live _ _).live _ g4)
    have e1 := ext_kill (b := true) (ext_push (b := true) g2) g5
    refine z1 (k + 1, (τ2.live ++ [true]).length) _ _ (.inr ?_) (by simp only; omega) ⟨by simp only; omega, e1, g3, ?_, ?_⟩
    · simp -implicitDefEqProofs only [go_sem, Nat.reduceBEq, Nat.reduceAdd, eq_self, true_and, and_true, and_self, List.getElem?_cons_zero, List.getElem?_cons_succ, Nat.reduceLeDiff, Nat.zero_add, Nat.reduceSub, Nat.le_refl, hsn, cellsR, inc64 hk (by omega)]
      try simp [kill]
    · simp [kill]
    · simp; have := g2.llen; omega
  · have hk : ¬ k < n := by simpa using hc
    obtain rfl : k = n := by omega
    simp -implicitDefEqProofs only [go_sem, Nat.reduceBEq, Nat.reduceAdd, eq_self, true_and, and_true, and_self, List.getElem?_cons_zero, List.getElem?_cons_succ, Nat.reduceLeDiff, Nat.zero_add, Nat.reduceSub, Nat.le_refl, Nat.lt_irrefl]
    refine z2 _ _ _ ?_
    simp -implicitDefEqProofs only [go_sem, Nat.reduceBEq, Nat.reduceAdd, eq_self, true_and, and_true, and_self, List.getElem?_cons_zero, List.getElem?_cons_succ, Nat.reduceLeDiff, Nat.zero_add, Nat.reduceSub, Nat.le_refl, Nat.lt_irrefl]
    refine q2 _ _ ?_
    simp -implicitDefEqProofs only [go_sem, Nat.reduceBEq, Nat.reduceAdd, eq_self, true_and, and_true, and_self, List.getElem?_cons_zero, List.getElem?_cons_succ, Nat.reduceLeDiff, Nat.zero_add, Nat.reduceSub, Nat.le_refl, rst, cellsR]
    exact ⟨g2, g3, _, rfl, ⟨_, _, _, rfl, by simp, .inr ⟨g4, rfl⟩⟩, .inr ⟨_, _, _, rfl, g5⟩⟩
end
end Go.VL.wire

namespace Go.VL.wire
open Go Go.VL Go.Proofs Go.IntWalk

theorem i64n {n : Nat} (h : n < 9223372036854775808) : I64 (n : Int) := ⟨by omega, by omega⟩
section
variable {bs : List UInt8} {x : Cg × RS} {m : Int}
theorem intsN_lt {l : List Nat} (h : ∀ n ∈ l, n < 9223372036854775808) : ∀ n ∈ intsN l, I64 n := by
  intro n hn
  obtain ⟨k, hk, rfl⟩ := List.mem_map.1 hn
  exact i64n (h k hk)
theorem g4_I : CgI (g4 bs (g3 bs (g2 bs (g1 bs)))).1 := by
  have h0 := in0 bs
  have i0 : I64 (0 : Int) := ⟨by decide, by decide⟩
  exact ⟨i64n (num_lt h0), i64n (num_lt h0.num), i64n (num_lt h0.num.num), i64n (num_lt h0.num.num.num), intsN_lt (numsN_lt bs _ _ h0.num.num.num.num.cnt), i64n (num_lt h0.num), i64n (num_lt h0.num.num), i0, i0, i0, i0⟩
theorem g5_I (hx : CgI x.1) (h : In bs x.2) : CgI (g5 bs x).1 := by
  unfold wire.g5
  cases decide (x.1.kind = 1)
  · exact ⟨hx.kind, hx.ac, hx.ar, hx.seq, hx.deps, i64n (num_lt h), i64n (num_lt h.num), hx.pc, hx.pr, hx.fc, hx.fr⟩
  · exact hx
theorem g6_I (hx : CgI x.1) (h : In bs x.2) : CgI (g6 bs x).1 := by
  unfold wire.g6
  cases decide (x.1.kind = 1) || decide (x.1.kind = 2)
  · exact hx
  · exact ⟨hx.kind, hx.ac, hx.ar, hx.seq, hx.deps, hx.nc, hx.nr, i64n (num_lt h), i64n (num_lt h.num), i64n (num_lt h.num.num), i64n (num_lt h.num.num.num)⟩
theorem g7_I (hx : CgI x.1) : CgI (g7 bs m x).1 := by
  unfold wire.g7
  cases namedB x.1
  · exact hx
  · exact ⟨hx.kind, hx.ac, hx.ar, hx.seq, hx.deps, hx.nc, hx.nr, hx.pc, hx.pr, hx.fc, hx.fr⟩
theorem g8_I (hx : CgI x.1) : CgI (g8 bs m x).1 := by
  unfold wire.g8
  cases valuedB x.1
  · exact hx
  · exact ⟨hx.kind, hx.ac, hx.ar, hx.seq, hx.deps, hx.nc, hx.nr, hx.pc, hx.pr, hx.fc, hx.fr⟩
theorem gAll_I (bs : List UInt8) (mn mv : Int) : CgI (gAll bs mn mv).1 := by
  have h4 : In bs (g4 bs (g3 bs (g2 bs (g1 bs)))).2 := ((in0 bs).num : In bs (g1 bs).2).g2.g3.g4
  exact g8_I (g7_I (g6_I (g5_I g4_I h4) h4.g5))
end
def rgetB (bs : List UInt8) : Bool := decide (chkI (gAll bs bs.length bs.length).1 = 0) && decide (dirB (gAll bs bs.length bs.length).1 = bs)
def rgetG (bs : List UInt8) : Cg := bif rgetB bs then (gAll bs bs.length bs.length).1 else zeroG
def rgetI (bs : List UInt8) : Int := bif rgetB bs then 0 else 2

section
variable {σ : St} {v : V} {bs : List UInt8}
set_option maxRecDepth 100000 in
set_option maxHeartbeats 4000000 in
theorem rget_ok (hv : RdS σ v 1 (bytesV bs)) (hlen : bs.length ≤ 100000000) :
    CallA Try.prog 16 [v] σ fun w σ' => Ext σ σ' ∧ σ'.objs = σ.objs ∧ ∃ d, w = .tup [cgV d (rgetG bs), .int .i64 (rgetI bs)] ∧ RdS σ' d 1 (intsV .i64 (rgetG bs).deps) ∧ FreshS σ.live.length d := by
  obtain ⟨zb, zR, zz, rfl, -, -⟩ := id hv
  refine fn_at Try.func16 (by decide) comp16 rfl fun Q q1 q2 => ?_
  clear q1
  have hbl := bytesV_length bs
  simp -implicitDefEqProofs only [go_sem, Nat.reduceBEq, Nat.reduceAdd, eq_self, true_and, and_true, and_self, List.getElem?_cons_zero, List.getElem?_cons_succ, Nat.reduceLeDiff, Nat.zero_add, Nat.reduceSub, Nat.le_refl, c16]
  refine call_at (rnum_at hv (in0 bs) (by omega)) ?_
  rintro w τ ⟨rfl, rfl⟩
  refine ⟨kept_none, ?_⟩
  have hi : In bs (g1 bs).2 := (in0 bs).num
  simp -implicitDefEqProofs only [go_sem, Nat.reduceBEq, Nat.reduceAdd, eq_self, true_and, and_true, and_self, List.getElem?_cons_zero, List.getElem?_cons_succ, Nat.reduceLeDiff, Nat.zero_add, Nat.reduceSub, Nat.le_refl, rst, cellsR]
  refine call_at (rstp_at (st := (g1 bs).2) hv hi (by omega)) ?_
  rintro w τ ⟨rfl, rfl⟩
  refine ⟨kept_none, ?_⟩
  have hi2 := hi.g2
  simp -implicitDefEqProofs only [go_sem, Nat.reduceBEq, Nat.reduceAdd, eq_self, true_and, and_true, and_self, List.getElem?_cons_zero, List.getElem?_cons_succ, Nat.reduceLeDiff, Nat.zero_add, Nat.reduceSub, Nat.le_refl, rst, cellsR, stV]
  refine call_at (rnum_at (st := (g2 bs (g1 bs)).2) hv hi2 (by omega)) ?_
  rintro w τ ⟨rfl, rfl⟩
  refine ⟨kept_none, ?_⟩
  have hi3 := hi2.g3
  simp -implicitDefEqProofs only [go_sem, Nat.reduceBEq, Nat.reduceAdd, eq_self, true_and, and_true, and_self, List.getElem?_cons_zero, List.getElem?_cons_succ, Nat.reduceLeDiff, Nat.zero_add, Nat.reduceSub, Nat.le_refl, rst, cellsR]
  refine call_at (rnums_at (st := (g3 bs (g2 bs (g1 bs))).2) hv hi3 (by omega)) ?_
  rintro w τ4 ⟨eE, eo, d, rfl, hd, hfr⟩
  refine ⟨kept_none, ?_⟩
  have hi4 := hi3.g4
  obtain ⟨db, dR, dz, rfl, -, -⟩ := id hd
  simp -implicitDefEqProofs only [go_sem, Nat.reduceBEq, Nat.reduceAdd, eq_self, true_and, and_true, and_self, List.getElem?_cons_zero, List.getElem?_cons_succ, Nat.reduceLeDiff, Nat.zero_add, Nat.reduceSub, Nat.le_refl, rst, cellsR]
  have hin : In bs (g4 bs (g3 bs (g2 bs (g1 bs)))).2 := hi4
  have hfr : FreshS τ.live.length (.sl db dR dz (intsV .i64 (g4 bs (g3 bs (g2 bs (g1 bs)))).1.deps)) := hfr
  have hd4 : RdS τ4 (.sl db dR dz (intsV .i64 (g4 bs (g3 bs (g2 bs (g1 bs)))).1.deps)) 1 (intsV .i64 (g4 bs (g3 bs (g2 bs (g1 bs)))).1.deps) := hd
  have hall : gAll bs bs.length bs.length = g8 bs bs.length (g7 bs bs.length (g6 bs (g5 bs (g4 bs (g3 bs (g2 bs (g1 bs))))))) := rfl
  have hv4 := hv.ext eE
  refine cut_at (fun G τ' => ∃ x, x = g5 bs (g4 bs (g3 bs (g2 bs (g1 bs)))) ∧ x.1.deps = (g4 bs (g3 bs (g2 bs (g1 bs)))).1.deps ∧ G = ⟨[(0, .v (.sl zb zR zz (bytesV bs))), (4, .loc 4 0), (5, .loc 5 0), (2, .loc 2 0)], [(4, cgC (.sl db dR dz (intsV .i64 (g4 bs (g3 bs (g2 bs (g1 bs)))).1.deps)) x.1), (5, cellsR (.sl zb zR zz (bytesV bs)) x.2.1 x.2.2.1 x.2.2.2), (2, z13)]⟩ ∧ τ' = τ4) ?_ ?_
  · intro Z z1 z2 z3
    simp -implicitDefEqProofs only [go_sem, Nat.reduceBEq, Nat.reduceAdd, eq_self, true_and, and_true, and_self, List.getElem?_cons_zero, List.getElem?_cons_succ, Nat.reduceLeDiff, Nat.zero_add, Nat.reduceSub, Nat.le_refl, Nat.lt_irrefl]
    have hk : decide ((g4 bs (g3 bs (g2 bs (g1 bs)))).1.kind = 1) = decide (((num bs (0, 0, 0)).1 : Int) = 1) := rfl
    cases hk1 : decide (((num bs (0, 0, 0)).1 : Int) = 1) <;> rw [hk1] at hk
    · simp -implicitDefEqProofs only [go_sem, Nat.reduceBEq, Nat.reduceAdd, eq_self, true_and, and_true, and_self, List.getElem?_cons_zero, List.getElem?_cons_succ, Nat.reduceLeDiff, Nat.zero_add, Nat.reduceSub, Nat.le_refl, hk1]
      refine call_at (rstp_at (st := (g4 bs (g3 bs (g2 bs (g1 bs)))).2) hv4 hin (by omega)) ?_
      rintro w τ5 ⟨rfl, rfl⟩
      refine ⟨kept_none, ?_⟩
      have hx : g5 bs (g4 bs (g3 bs (g2 bs (g1 bs)))) = ({ (g4 bs (g3 bs (g2 bs (g1 bs)))).1 with nc := (stp bs (g4 bs (g3 bs (g2 bs (g1 bs)))).2).1.1, nr := (stp bs (g4 bs (g3 bs (g2 bs (g1 bs)))).2).1.2 }, (stp bs (g4 bs (g3 bs (g2 bs (g1 bs)))).2).2) := by unfold wire.g5; rw [hk]; rfl
      simp -implicitDefEqProofs only [go_sem, Nat.reduceBEq, Nat.reduceAdd, eq_self, true_and, and_true, and_self, List.getElem?_cons_zero, List.getElem?_cons_succ, Nat.reduceLeDiff, Nat.zero_add, Nat.reduceSub, Nat.le_refl, rst, cellsR, stV]
      refine z1 _ _ _ (.inr ?_) ⟨_, hx.symm, rfl, rfl, rfl⟩
      simp -implicitDefEqProofs only [go_sem, Nat.reduceBEq, Nat.reduceAdd, eq_self, true_and, and_true, and_self, List.getElem?_cons_zero, List.getElem?_cons_succ, Nat.reduceLeDiff, Nat.zero_add, Nat.reduceSub, Nat.le_refl, cgC, z13, cellsR]
      first | rfl | exact ⟨rfl, rfl⟩
    · have hx : g5 bs (g4 bs (g3 bs (g2 bs (g1 bs)))) = g4 bs (g3 bs (g2 bs (g1 bs))) := by unfold wire.g5; rw [hk]; rfl
      simp -implicitDefEqProofs only [go_sem, Nat.reduceBEq, Nat.reduceAdd, eq_self, true_and, and_true, and_self, List.getElem?_cons_zero, List.getElem?_cons_succ, Nat.reduceLeDiff, Nat.zero_add, Nat.reduceSub, Nat.le_refl, hk1]
      refine z1 _ _ _ (.inr ?_) ⟨_, hx.symm, rfl, rfl, rfl⟩
      simp -implicitDefEqProofs only [go_sem, Nat.reduceBEq, Nat.reduceAdd, eq_self, true_and, and_true, and_self, List.getElem?_cons_zero, List.getElem?_cons_succ, Nat.reduceLeDiff, Nat.zero_add, Nat.reduceSub, Nat.le_refl, cgC, z13, cellsR]
      first | rfl | exact ⟨rfl, rfl⟩
  rintro G τ5 ⟨x5, hx5, hd5, rfl, rfl⟩
  have hin5 : In bs x5.2 := by rw [hx5]; exact hin.g5
  rw [← hx5] at hall
  rw [← hd5] at hd4 hfr
  rw [← hd5]
  clear hx5 hd5 hi hi2 hi3 hi4 hin hd
  generalize hdd : V.sl db dR dz (intsV .i64 x5.1.deps) = d at hd4 hfr ⊢
  have hdsl : ∃ b R z, d = V.sl b R z (intsV .i64 x5.1.deps) := ⟨_, _, _, hdd.symm⟩
  clear hdd
  refine cut_at (fun G τ' => ∃ x, x = g6 bs x5 ∧ x.1.deps = x5.1.deps ∧ G = ⟨[(0, .v (.sl zb zR zz (bytesV bs))), (4, .loc 4 0), (5, .loc 5 0), (2, .loc 2 0)], [(4, cgC d x.1), (5, cellsR (.sl zb zR zz (bytesV bs)) x.2.1 x.2.2.1 x.2.2.2), (2, z13)]⟩ ∧ τ' = τ5) ?_ ?_
  · intro Z z1 z2 z3
    simp -implicitDefEqProofs only [go_sem, Nat.reduceBEq, Nat.reduceAdd, eq_self, true_and, and_true, and_self, List.getElem?_cons_zero, List.getElem?_cons_succ, Nat.reduceLeDiff, Nat.zero_add, Nat.reduceSub, Nat.le_refl, cgC, z13]
    have hx0 : g6 bs x5 = bif decide (x5.1.kind = 1) || decide (x5.1.kind = 2) then ({ x5.1 with pc := (stp bs x5.2).1.1, pr := (stp bs x5.2).1.2, fc := (stp bs (stp bs x5.2).2).1.1, fr := (stp bs (stp bs x5.2).2).1.2 }, (stp bs (stp bs x5.2).2).2) else x5 := rfl
    cases hk1 : decide (x5.1.kind = 1) <;> rw [hk1] at hx0
    case' false =>
      cases hk2 : decide (x5.1.kind = 2) <;> rw [hk2] at hx0
      case false =>
        simp -implicitDefEqProofs only [go_sem, Nat.reduceBEq, Nat.reduceAdd, eq_self, true_and, and_true, and_self, List.getElem?_cons_zero, List.getElem?_cons_succ, Nat.reduceLeDiff, Nat.zero_add, Nat.reduceSub, Nat.le_refl, hk1, hk2]
        refine z1 _ _ _ (.inr ?_) ⟨_, hx0.symm, rfl, rfl, rfl⟩
        simp -implicitDefEqProofs only [go_sem, Nat.reduceBEq, Nat.reduceAdd, eq_self, true_and, and_true, and_self, List.getElem?_cons_zero, List.getElem?_cons_succ, Nat.reduceLeDiff, Nat.zero_add, Nat.reduceSub, Nat.le_refl, cgC, z13, cellsR]
        first | rfl | exact ⟨rfl, rfl⟩
      simp -implicitDefEqProofs only [go_sem, Nat.reduceBEq, Nat.reduceAdd, eq_self, true_and, and_true, and_self, List.getElem?_cons_zero, List.getElem?_cons_succ, Nat.reduceLeDiff, Nat.zero_add, Nat.reduceSub, Nat.le_refl, hk1, hk2]
    case' true =>
      simp -implicitDefEqProofs only [go_sem, Nat.reduceBEq, Nat.reduceAdd, eq_self, true_and, and_true, and_self, List.getElem?_cons_zero, List.getElem?_cons_succ, Nat.reduceLeDiff, Nat.zero_add, Nat.reduceSub, Nat.le_refl, hk1]
    all_goals
      obtain ⟨_, _, _, rfl⟩ := hdsl
      simp -implicitDefEqProofs only [go_sem, Nat.reduceBEq, Nat.reduceAdd, eq_self, true_and, and_true, and_self, List.getElem?_cons_zero, List.getElem?_cons_succ, Nat.reduceLeDiff, Nat.zero_add, Nat.reduceSub, Nat.le_refl, cellsR]
      refine call_at (rstp_at (st := x5.2) hv4 hin5 (by omega)) ?_
      rintro w τ6 ⟨rfl, rfl⟩
      refine ⟨kept_none, ?_⟩
      simp -implicitDefEqProofs only [go_sem, Nat.reduceBEq, Nat.reduceAdd, eq_self, true_and, and_true, and_self, List.getElem?_cons_zero, List.getElem?_cons_succ, Nat.reduceLeDiff, Nat.zero_add, Nat.reduceSub, Nat.le_refl, rst, cellsR, stV]
      refine call_at (rstp_at (st := (stp bs x5.2).2) hv4 hin5.stp (by omega)) ?_
      rintro w τ7 ⟨rfl, rfl⟩
      refine ⟨kept_none, ?_⟩
      simp -implicitDefEqProofs only [go_sem, Nat.reduceBEq, Nat.reduceAdd, eq_self, true_and, and_true, and_self, List.getElem?_cons_zero, List.getElem?_cons_succ, Nat.reduceLeDiff, Nat.zero_add, Nat.reduceSub, Nat.le_refl, rst, cellsR, stV]
      refine z1 _ _ _ (.inr ?_) ⟨_, hx0.symm, rfl, rfl, rfl⟩
      simp -implicitDefEqProofs only [go_sem, Nat.reduceBEq, Nat.reduceAdd, eq_self, true_and, and_true, and_self, List.getElem?_cons_zero, List.getElem?_cons_succ, Nat.reduceLeDiff, Nat.zero_add, Nat.reduceSub, Nat.le_refl, cgC, z13, cellsR]
      first | rfl | exact ⟨rfl, rfl⟩
  rintro G τ6 ⟨x6, hx6, hd6, rfl, rfl⟩
  have hin6 : In bs x6.2 := by rw [hx6]; exact hin5.g6
  rw [← hx6] at hall
  rw [← hd6] at hd4 hdsl
  clear hx6 hd6 hin5
  refine cut_at (fun G τ' => ∃ x, x = g7 bs bs.length x6 ∧ x.1.deps = x6.1.deps ∧ G = ⟨[(0, .v (.sl zb zR zz (bytesV bs))), (4, .loc 4 0), (5, .loc 5 0), (2, .loc 2 0)], [(4, cgC d x.1), (5, cellsR (.sl zb zR zz (bytesV bs)) x.2.1 x.2.2.1 x.2.2.2), (2, z13)]⟩ ∧ τ' = τ6) ?_ ?_
  · intro Z z1 z2 z3
    simp -implicitDefEqProofs only [go_sem, Nat.reduceBEq, Nat.reduceAdd, eq_self, true_and, and_true, and_self, List.getElem?_cons_zero, List.getElem?_cons_succ, Nat.reduceLeDiff, Nat.zero_add, Nat.reduceSub, Nat.le_refl, cgC, z13]
    have hx0 : g7 bs bs.length x6 = bif decide (x6.1.kind = 1) || (decide (x6.1.kind = 3) || decide (x6.1.kind = 4)) then ({ x6.1 with name := (txt bs bs.length x6.2).1 }, (txt bs bs.length x6.2).2) else x6 := rfl
    obtain ⟨_, _, _, rfl⟩ := hdsl
    cases hk1 : decide (x6.1.kind = 1) <;> cases hk2 : decide (x6.1.kind = 3) <;> cases hk3 : decide (x6.1.kind = 4) <;> rw [hk1, hk2, hk3] at hx0
    all_goals
      simp -implicitDefEqProofs only [go_sem, Nat.reduceBEq, Nat.reduceAdd, eq_self, true_and, and_true, and_self, List.getElem?_cons_zero, List.getElem?_cons_succ, Nat.reduceLeDiff, Nat.zero_add, Nat.reduceSub, Nat.le_refl, hk1, hk2, hk3, cellsR, hbl]
      first
      | (refine call_at (rtxt_at (st := x6.2) (m := bs.length) hv4 hin6 (by omega)) ?_
         rintro w τ7 ⟨rfl, rfl⟩
         refine ⟨kept_none, ?_⟩
         simp -implicitDefEqProofs only [go_sem, Nat.reduceBEq, Nat.reduceAdd, eq_self, true_and, and_true, and_self, List.getElem?_cons_zero, List.getElem?_cons_succ, Nat.reduceLeDiff, Nat.zero_add, Nat.reduceSub, Nat.le_refl, rst, cellsR]
         refine z1 _ _ _ (.inr ?_) ⟨_, hx0.symm, rfl, rfl, rfl⟩
         simp -implicitDefEqProofs only [go_sem, Nat.reduceBEq, Nat.reduceAdd, eq_self, true_and, and_true, and_self, List.getElem?_cons_zero, List.getElem?_cons_succ, Nat.reduceLeDiff, Nat.zero_add, Nat.reduceSub, Nat.le_refl, cgC, z13, cellsR]
         first | rfl | exact ⟨rfl, rfl⟩)
      | (refine z1 _ _ _ (.inr ?_) ⟨_, hx0.symm, rfl, rfl, rfl⟩
         simp -implicitDefEqProofs only [go_sem, Nat.reduceBEq, Nat.reduceAdd, eq_self, true_and, and_true, and_self, List.getElem?_cons_zero, List.getElem?_cons_succ, Nat.reduceLeDiff, Nat.zero_add, Nat.reduceSub, Nat.le_refl, cgC, z13, cellsR]
         first | rfl | exact ⟨rfl, rfl⟩)
  rintro G τ7 ⟨x7, hx7, hd7, rfl, rfl⟩
  have hin7 : In bs x7.2 := by rw [hx7]; exact hin6.g7
  rw [← hx7] at hall
  rw [← hd7] at hd4 hdsl
  clear hx7 hd7 hin6
  refine cut_at (fun G τ' => ∃ x, x = g8 bs bs.length x7 ∧ x.1.deps = x7.1.deps ∧ G = ⟨[(0, .v (.sl zb zR zz (bytesV bs))), (4, .loc 4 0), (5, .loc 5 0), (2, .loc 2 0)], [(4, cgC d x.1), (5, cellsR (.sl zb zR zz (bytesV bs)) x.2.1 x.2.2.1 x.2.2.2), (2, z13)]⟩ ∧ τ' = τ7) ?_ ?_
  · intro Z z1 z2 z3
    simp -implicitDefEqProofs only [go_sem, Nat.reduceBEq, Nat.reduceAdd, eq_self, true_and, and_true, and_self, List.getElem?_cons_zero, List.getElem?_cons_succ, Nat.reduceLeDiff, Nat.zero_add, Nat.reduceSub, Nat.le_refl, cgC, z13]
    have hx0 : g8 bs bs.length x7 = bif decide (x7.1.kind = 3) || decide (x7.1.kind = 5) then ({ x7.1 with val := (txt bs bs.length x7.2).1 }, (txt bs bs.length x7.2).2) else x7 := rfl
    obtain ⟨_, _, _, rfl⟩ := hdsl
    cases hk1 : decide (x7.1.kind = 3) <;> cases hk2 : decide (x7.1.kind = 5) <;> rw [hk1, hk2] at hx0
    all_goals
      simp -implicitDefEqProofs only [go_sem, Nat.reduceBEq, Nat.reduceAdd, eq_self, true_and, and_true, and_self, List.getElem?_cons_zero, List.getElem?_cons_succ, Nat.reduceLeDiff, Nat.zero_add, Nat.reduceSub, Nat.le_refl, hk1, hk2, cellsR, hbl]
      first
      | (refine call_at (rtxt_at (st := x7.2) (m := bs.length) hv4 hin7 (by omega)) ?_
         rintro w τ8 ⟨rfl, rfl⟩
         refine ⟨kept_none, ?_⟩
         simp -implicitDefEqProofs only [go_sem, Nat.reduceBEq, Nat.reduceAdd, eq_self, true_and, and_true, and_self, List.getElem?_cons_zero, List.getElem?_cons_succ, Nat.reduceLeDiff, Nat.zero_add, Nat.reduceSub, Nat.le_refl, rst, cellsR]
         refine z1 _ _ _ (.inr ?_) ⟨_, hx0.symm, rfl, rfl, rfl⟩
         simp -implicitDefEqProofs only [go_sem, Nat.reduceBEq, Nat.reduceAdd, eq_self, true_and, and_true, and_self, List.getElem?_cons_zero, List.getElem?_cons_succ, Nat.reduceLeDiff, Nat.zero_add, Nat.reduceSub, Nat.le_refl, cgC, z13, cellsR]
         first | rfl | exact ⟨rfl, rfl⟩)
      | (refine z1 _ _ _ (.inr ?_) ⟨_, hx0.symm, rfl, rfl, rfl⟩
         simp -implicitDefEqProofs only [go_sem, Nat.reduceBEq, Nat.reduceAdd, eq_self, true_and, and_true, and_self, List.getElem?_cons_zero, List.getElem?_cons_succ, Nat.reduceLeDiff, Nat.zero_add, Nat.reduceSub, Nat.le_refl, cgC, z13, cellsR]
         first | rfl | exact ⟨rfl, rfl⟩)
  rintro G τ8 ⟨x8, hx8, hd8, rfl, rfl⟩
  rw [← hx8] at hall
  rw [← hd8] at hd4 hdsl
  clear hx8 hd8 hin7
  have hB : rgetB bs = (decide (chkI x8.1 = 0) && decide (dirB x8.1 = bs)) := by unfold rgetB; rw [hall]
  have nlen : x8.1.name.length < 4611686018427387904 := by
    have := (gAll_name bs bs.length bs.length).1
    rw [hall] at this; omega
  have hI : CgI x8.1 := by rw [← hall]; exact gAll_I _ _ _
  obtain ⟨qb, qR, qz, rfl⟩ := hdsl
  simp -implicitDefEqProofs only [go_sem, Nat.reduceBEq, Nat.reduceAdd, eq_self, true_and, and_true, and_self, List.getElem?_cons_zero, List.getElem?_cons_succ, Nat.reduceLeDiff, Nat.zero_add, Nat.reduceSub, Nat.le_refl, cgC]
  refine call_at (rput_ok (d := .sl qb qR qz (intsV .i64 x8.1.deps)) (g := x8.1) hd4 hI nlen) ?_
  rintro w τ9 ⟨a1, a2, x, rfl, hx⟩
  refine ⟨kept_none, ?_⟩
  obtain ⟨xb, xR, xz, rfl, -, -⟩ := id hx
  have hback : ∀ q, (bytesV q).map byteOfC = q := bytes_back
  unfold rgetG rgetI at q2
  rw [hB, hall] at q2
  have eE' := eE.trans a1
  have hd9 := hd4.ext a1
  cases h1 : decide (chkI x8.1 = 0) <;> rw [h1] at q2
  case false =>
    simp -implicitDefEqProofs only [go_sem, Nat.reduceBEq, Nat.reduceAdd, eq_self, true_and, and_true, and_self, List.getElem?_cons_zero, List.getElem?_cons_succ, Nat.reduceLeDiff, Nat.zero_add, Nat.reduceSub, Nat.le_refl, h1, z13]
    refine q2 _ _ ?_
    simp -implicitDefEqProofs only [go_sem, Nat.reduceBEq, Nat.reduceAdd, eq_self, true_and, and_true, and_self, List.getElem?_cons_zero, List.getElem?_cons_succ, Nat.reduceLeDiff, Nat.zero_add, Nat.reduceSub, Nat.le_refl, cond_true, cond_false, Bool.true_or, Bool.false_or, Bool.or_true, Bool.or_false, Bool.and_true, Bool.and_false, Bool.true_and, Bool.false_and, Bool.or_self, Bool.and_self, z13]
    exact ⟨eE', a2.trans eo, _, rfl, ⟨true, .pub, 0, rfl, by simp [zeroG, intsV], .inl rfl⟩, .inl ⟨0, rfl⟩⟩
  have hpo : putO x8.1 = dirB x8.1 := by unfold putO; rw [h1]; rfl
  rw [hpo] at hx ⊢
  have c1 : xb = true ∨ rd τ9.live xR ∧ xz = 1 := by
    obtain ⟨_, _, _, e, -, h⟩ := hx
    cases e; exact h
  have c2 : zb = true ∨ rd τ9.live zR ∧ zz = 1 := by
    obtain ⟨_, _, _, e, -, h⟩ := hv4.ext a1
    cases e; exact h
  simp -implicitDefEqProofs only [go_sem, Nat.reduceBEq, Nat.reduceAdd, eq_self, true_and, and_true, and_self, List.getElem?_cons_zero, List.getElem?_cons_succ, Nat.reduceLeDiff, Nat.zero_add, Nat.reduceSub, Nat.le_refl, h1, hback]
  refine ⟨c1, c2, ?_⟩
  cases h2 : decide (dirB x8.1 = bs) <;> rw [h2] at q2
  case false =>
    simp -implicitDefEqProofs only [go_sem, Nat.reduceBEq, Nat.reduceAdd, eq_self, true_and, and_true, and_self, List.getElem?_cons_zero, List.getElem?_cons_succ, Nat.reduceLeDiff, Nat.zero_add, Nat.reduceSub, Nat.le_refl, z13]
    refine q2 _ _ ?_
    simp -implicitDefEqProofs only [go_sem, Nat.reduceBEq, Nat.reduceAdd, eq_self, true_and, and_true, and_self, List.getElem?_cons_zero, List.getElem?_cons_succ, Nat.reduceLeDiff, Nat.zero_add, Nat.reduceSub, Nat.le_refl, cond_true, cond_false, Bool.true_or, Bool.false_or, Bool.or_true, Bool.or_false, Bool.and_true, Bool.and_false, Bool.true_and, Bool.false_and, Bool.or_self, Bool.and_self, z13]
    exact ⟨eE', a2.trans eo, _, rfl, ⟨true, .pub, 0, rfl, by simp [zeroG, intsV], .inl rfl⟩, .inl ⟨0, rfl⟩⟩
  simp -implicitDefEqProofs only [go_sem, Nat.reduceBEq, Nat.reduceAdd, eq_self, true_and, and_true, and_self, List.getElem?_cons_zero, List.getElem?_cons_succ, Nat.reduceLeDiff, Nat.zero_add, Nat.reduceSub, Nat.le_refl, z13]
  refine q2 _ _ ?_
  simp -implicitDefEqProofs only [go_sem, Nat.reduceBEq, Nat.reduceAdd, eq_self, true_and, and_true, and_self, List.getElem?_cons_zero, List.getElem?_cons_succ, Nat.reduceLeDiff, Nat.zero_add, Nat.reduceSub, Nat.le_refl, cond_true, cond_false, Bool.true_or, Bool.false_or, Bool.or_true, Bool.or_false, Bool.and_true, Bool.and_false, Bool.true_and, Bool.false_and, Bool.or_self, Bool.and_self, z13]
  exact ⟨eE', a2.trans eo, _, rfl, hd9, hfr⟩
end
end Go.VL.wire

namespace Go.VL.wire
open Go Go.VL Go.Proofs Go.IntWalk

/-- What was read between two places, if all went well. -/
def Tk (bs : List UInt8) (st st' : RS) (w : List UInt8) : Prop := st'.2.1 = 0 → st.2.1 = 0 ∧ bs.drop st.1 = w ++ bs.drop st'.1
theorem Tk.refl (bs : List UInt8) (st : RS) : Tk bs st st [] := fun h => ⟨h, rfl⟩
theorem Tk.trans {bs : List UInt8} {a b c : RS} {u v : List UInt8} (h : Tk bs a b u) (k : Tk bs b c v) : Tk bs a c (u ++ v) := fun e => by
  obtain ⟨h1, h2⟩ := k e
  obtain ⟨h3, h4⟩ := h h1
  exact ⟨h3, by rw [h4, h2, List.append_assoc]⟩
theorem Tk.of {bs : List UInt8} {a b : RS} {u v : List UInt8} (h : Tk bs a b u) (e : u = v) : Tk bs a b v := e ▸ h
/-- All's well, and this is left. -/
structure Lf (bs : List UInt8) (st : RS) (r : List UInt8) : Prop where
  le : st.1 ≤ bs.length
  ok : st.2 = (0, 0)
  dr : bs.drop st.1 = r

section
variable {bs r t : List UInt8} {st : RS} {m n a b : Int} {l : List Int}
theorem num_tk (bs : List UInt8) (st : RS) : Tk bs st (num bs st).2 (enc (num bs st).1) := by
  obtain ⟨at_, e, bad⟩ := st
  intro h
  simp only [wire.num] at h ⊢
  unfold numR at h ⊢
  by_cases he : e = 0
  · rw [if_pos he] at h ⊢
    refine ⟨he, ?_⟩
    split at h
    · rename_i n c hd
      obtain ⟨m, e1, e2, e3, -⟩ := dec_enc _ 0 0 hd
      simp only [Nat.pow_zero, Nat.mul_one, Nat.zero_add, Nat.sub_zero] at e1 e3 ⊢
      subst e1
      rw [e3, ← List.drop_drop, List.take_append_drop]
    · simp at h
  · rw [if_neg he] at h
    exact absurd h he
theorem cnt_tk (bs : List UInt8) (m : Int) (st : RS) : Tk bs st (cnt bs m st).2 (enc (cnt bs m st).1) := by
  unfold wire.cnt cntR
  split
  · intro h; simp at h
  · exact num_tk bs st
theorem txt_tk (bs : List UInt8) (m : Int) (st : RS) : Tk bs st (txt bs m st).2 (enc (txt bs m st).1.length ++ (txt bs m st).1) := by
  have hc := cnt_tk bs m st
  unfold wire.txt
  unfold wire.cnt at hc
  generalize hx : cntR bs st.1 st.2.1 st.2.2 m = x at hc
  unfold txtR
  rw [hx]
  split
  · rename_i he
    split
    · rename_i h1
      split
      · intro h; simp at h
      · rename_i h2
        intro h
        obtain ⟨h3, h4⟩ := hc h1
        have hl : ((bs.drop x.2.1).take x.1).length = x.1 := by rw [List.length_take, List.length_drop]; omega
        refine ⟨h3, ?_⟩
        simp only [hl]
        rw [h4, List.append_assoc, ← List.drop_drop, List.take_append_drop]
    · rename_i h1
      intro h; exact absurd h h1
  · rename_i he
    intro h; exact absurd h he
theorem stp_tk (bs : List UInt8) (st : RS) : Tk bs st (stp bs st).2 (enc (stp bs st).1.1 ++ enc (stp bs st).1.2) := (num_tk bs st).trans (num_tk bs _)
theorem numsN_tk (bs : List UInt8) : ∀ (k : Nat) (st : RS), Tk bs st (numsN bs k st).2 ((numsN bs k st).1.flatMap enc)
  | 0, st => Tk.refl bs st
  | k + 1, st => by
    have := (num_tk bs st).trans (numsN_tk bs k (num bs st).2)
    exact this.of (by rw [numsN]; simp)
theorem nums_tk (bs : List UInt8) (st : RS) : Tk bs st (nums bs st).2 (enc (nums bs st).1.length ++ (nums bs st).1.flatMap enc) :=
  ((cnt_tk bs 64 st).trans (numsN_tk bs _ _)).of (by unfold wire.nums; rw [numsN_len])
theorem encs_intsN (l : List Nat) : encs (intsN l) = l.flatMap enc := by
  simp only [encs, intsN, List.flatMap_map]; rfl

theorem num_lf (h0 : 0 ≤ n) (h1 : n < 9223372036854775808) (h : Lf bs st (enc n.toNat ++ r)) : ((num bs st).1 : Int) = n ∧ Lf bs (num bs st).2 r := by
  obtain ⟨at_, e, bad⟩ := st
  obtain ⟨h2, h3, h4⟩ := h
  simp only [Prod.mk.injEq] at h2 h3 h4
  obtain ⟨rfl, rfl⟩ := h3
  have hb : bs = bs.take at_ ++ (enc n.toNat ++ r) := by rw [← h4, List.take_append_drop]
  have hl : (bs.take at_).length = at_ := by rw [List.length_take]; omega
  have := numR_of_enc (pre := bs.take at_) (suf := r) (m := n.toNat) (bad := 0) (by omega)
  rw [← hb, hl] at this
  unfold wire.num
  simp only [this]
  have hle := congrArg List.length hb
  simp only [List.length_append, hl] at hle
  refine ⟨by omega, ⟨by simp only; omega, rfl, ?_⟩⟩
  simp only
  rw [← List.drop_drop, h4, List.drop_left]
theorem cnt_lf (h0 : 0 ≤ n) (h1 : n < 9223372036854775808) (hm : n ≤ m) (h : Lf bs st (enc n.toNat ++ r)) : ((cnt bs m st).1 : Int) = n ∧ Lf bs (cnt bs m st).2 r := by
  have hn := num_lf h0 h1 h
  have : cnt bs m st = num bs st := by
    unfold wire.cnt cntR
    rw [if_neg]
    · rfl
    · rintro ⟨-, -, hx⟩
      have := hn.1
      unfold wire.num at this
      omega
  rw [this]; exact hn
theorem txt_lf (h1 : t.length < 9223372036854775808) (hm : (t.length : Int) ≤ m) (h : Lf bs st (enc t.length ++ (t ++ r))) : (txt bs m st).1 = t ∧ Lf bs (txt bs m st).2 r := by
  have hc := cnt_lf (n := (t.length : Int)) (m := m) (by omega) (by omega) hm (by simpa using h)
  have he : st.2.1 = 0 := by rw [h.ok]
  unfold wire.cnt at hc
  unfold wire.txt txtR
  generalize cntR bs st.1 st.2.1 st.2.2 m = x at hc
  obtain ⟨c1, c2, c3, c4⟩ := hc
  have hx : x.1 = t.length := by omega
  rw [if_pos he, if_pos (by rw [c3])]
  have hdl := congrArg List.length c4
  rw [List.length_drop, List.length_append] at hdl
  rw [if_neg (by omega), hx, c4]
  refine ⟨by simp, ⟨by simp only; omega, by simp only; rw [c3], ?_⟩⟩
  simp only
  rw [← List.drop_drop, c4, List.drop_left]
theorem stp_lf (ha : 0 ≤ a) (ha1 : a < 9223372036854775808) (hb : 0 ≤ b) (hb1 : b < 9223372036854775808) (h : Lf bs st (encs [a, b] ++ r)) :
    ((stp bs st).1.1 : Int) = a ∧ ((stp bs st).1.2 : Int) = b ∧ Lf bs (stp bs st).2 r := by
  obtain ⟨h1, h2⟩ := num_lf (r := enc b.toNat ++ r) ha ha1 (by simpa [encs] using h)
  obtain ⟨h3, h4⟩ := num_lf hb hb1 h2
  exact ⟨h1, h3, h4⟩
theorem numsN_lf : ∀ (l : List Int) {st : RS}, (∀ n ∈ l, 0 ≤ n ∧ n < 9223372036854775808) → Lf bs st (encs l ++ r) → intsN (numsN bs l.length st).1 = l ∧ Lf bs (numsN bs l.length st).2 r
  | [], st, _, h => ⟨rfl, by simpa [encs, numsN] using h⟩
  | n :: l, st, hn, h => by
    obtain ⟨h1, h2⟩ := num_lf (r := encs l ++ r) (hn n (by simp)).1 (hn n (by simp)).2 (by simpa [encs] using h)
    obtain ⟨h3, h4⟩ := numsN_lf l (fun x hx => hn x (by simp [hx])) h2
    rw [List.length_cons, numsN]
    refine ⟨?_, h4⟩
    simp only [intsN, List.map_cons] at h3 ⊢
    rw [h3, h1]
theorem nums_lf (h64 : l.length ≤ 64) (hn : ∀ n ∈ l, 0 ≤ n ∧ n < 9223372036854775808) (h : Lf bs st (encs (l.length :: l) ++ r)) : intsN (nums bs st).1 = l ∧ Lf bs (nums bs st).2 r := by
  obtain ⟨h1, h2⟩ := cnt_lf (n := (l.length : Int)) (m := 64) (r := encs l ++ r) (by omega) (by omega) (by omega) (by simpa [encs] using h)
  have hc : (cnt bs 64 st).1 = l.length := by omega
  unfold wire.nums
  rw [hc]
  exact numsN_lf l hn h2
end

/-- A change's bytes, part by part. -/
def p4 (g : Cg) : List UInt8 := encs [g.kind, g.ac, g.ar, g.seq] ++ encs (g.deps.length :: g.deps)
def p5 (g : Cg) : List UInt8 := bif decide (g.kind = 1) then [] else encs [g.nc, g.nr]
def p6 (g : Cg) : List UInt8 := bif decide (g.kind = 1) || decide (g.kind = 2) then encs [g.pc, g.pr] ++ encs [g.fc, g.fr] else []
def p7 (g : Cg) : List UInt8 := bif namedB g then encTs [g.name] else []
def p8 (g : Cg) : List UInt8 := bif valuedB g then encTs [g.val] else []
def dir2 (g : Cg) : List UInt8 := p4 g ++ (p5 g ++ (p6 g ++ (p7 g ++ p8 g)))
theorem dirB_dir2 {g : Cg} (h : Ok g) : dirB g = dir2 g := by
  have h7 : (bif decide (g.name = []) then [] else encTs [g.name]) = p7 g := by
    unfold p7
    cases hn : namedB g with
    | true =>
      have := (nameB_len (h.nm1 hn)).1
      have e : decide (g.name = []) = false := by
        cases hg : g.name with
        | nil => rw [hg] at this; simp at this
        | cons _ _ => simp
      rw [e]; rfl
    | false => rw [h.nm2 hn]; rfl
  unfold dirB dir2
  rw [h7]
  unfold p4 p5 p6 p8 valuedB
  simp [encs]

section
variable {bs : List UInt8} {mn mv : Int}
theorem g4_tk (bs : List UInt8) : Tk bs (0, 0, 0) (g4 bs (g3 bs (g2 bs (g1 bs)))).2 (p4 (g4 bs (g3 bs (g2 bs (g1 bs)))).1) := by
  have h1 : Tk bs (0, 0, 0) (g1 bs).2 _ := num_tk bs _
  have h2 : Tk bs (g1 bs).2 (g2 bs (g1 bs)).2 _ := stp_tk bs _
  have h3 : Tk bs (g2 bs (g1 bs)).2 (g3 bs (g2 bs (g1 bs))).2 _ := num_tk bs _
  have h4 : Tk bs (g3 bs (g2 bs (g1 bs))).2 (g4 bs (g3 bs (g2 bs (g1 bs)))).2 _ := nums_tk bs _
  refine (((h1.trans h2).trans h3).trans h4).of ?_
  unfold p4
  have e : encs (((g4 bs (g3 bs (g2 bs (g1 bs)))).1.deps.length : Int) :: (g4 bs (g3 bs (g2 bs (g1 bs)))).1.deps) = enc (nums bs (g3 bs (g2 bs (g1 bs))).2).1.length ++ (nums bs (g3 bs (g2 bs (g1 bs))).2).1.flatMap enc := by
    rw [← encs_intsN]
    show encs (((intsN (nums bs (g3 bs (g2 bs (g1 bs))).2).1).length : Int) :: intsN (nums bs (g3 bs (g2 bs (g1 bs))).2).1) = _
    simp only [encs, List.flatMap_cons, intsN, List.length_map]
    rfl
  rw [e]
  simp only [encs, List.flatMap_cons, List.flatMap_nil, List.append_nil, List.append_assoc]
  rfl
theorem p4_eq {g h : Cg} (h1 : g.kind = h.kind) (h2 : g.ac = h.ac) (h3 : g.ar = h.ar) (h4 : g.seq = h.seq) (h5 : g.deps = h.deps) : p4 g = p4 h := by
  unfold p4; rw [h1, h2, h3, h4, h5]
theorem g5_tk (bs : List UInt8) (x : Cg × RS) : Tk bs x.2 (g5 bs x).2 (p5 (g5 bs x).1) ∧ p4 (g5 bs x).1 = p4 x.1 := by
  unfold p5 wire.g5
  cases h : decide (x.1.kind = 1)
  · refine ⟨(stp_tk bs x.2).of ?_, rfl⟩
    simp only [cond_false]
    rw [h]
    simp [encs]
  · refine ⟨(Tk.refl bs x.2).of ?_, rfl⟩
    simp only [cond_true]
    rw [h]; rfl
theorem g6_tk (bs : List UInt8) (x : Cg × RS) : Tk bs x.2 (g6 bs x).2 (p6 (g6 bs x).1) ∧ p4 (g6 bs x).1 = p4 x.1 ∧ p5 (g6 bs x).1 = p5 x.1 := by
  unfold p6 wire.g6
  cases h : decide (x.1.kind = 1) || decide (x.1.kind = 2)
  · refine ⟨(Tk.refl bs x.2).of ?_, rfl, rfl⟩
    simp only [cond_false]
    rw [h]; rfl
  · refine ⟨((stp_tk bs x.2).trans (stp_tk bs _)).of ?_, rfl, rfl⟩
    simp only [cond_true]
    rw [h]
    simp [encs]
theorem g7_tk (bs : List UInt8) (m : Int) (x : Cg × RS) : Tk bs x.2 (g7 bs m x).2 (p7 (g7 bs m x).1) ∧ p4 (g7 bs m x).1 = p4 x.1 ∧ p5 (g7 bs m x).1 = p5 x.1 ∧ p6 (g7 bs m x).1 = p6 x.1 := by
  unfold p7 wire.g7
  cases h : namedB x.1
  · refine ⟨(Tk.refl bs x.2).of ?_, rfl, rfl, rfl⟩
    simp only [cond_false]
    rw [h]; rfl
  · refine ⟨(txt_tk bs m x.2).of ?_, rfl, rfl, rfl⟩
    simp only [cond_true]
    have : namedB { x.1 with name := (txt bs m x.2).1 } = true := h
    rw [this]
    simp [encTs]
theorem g8_tk (bs : List UInt8) (m : Int) (x : Cg × RS) : Tk bs x.2 (g8 bs m x).2 (p8 (g8 bs m x).1) ∧ p4 (g8 bs m x).1 = p4 x.1 ∧ p5 (g8 bs m x).1 = p5 x.1 ∧ p6 (g8 bs m x).1 = p6 x.1 ∧ p7 (g8 bs m x).1 = p7 x.1 := by
  unfold p8 wire.g8
  cases h : valuedB x.1
  · refine ⟨(Tk.refl bs x.2).of ?_, rfl, rfl, rfl, rfl⟩
    simp only [cond_false]
    rw [h]; rfl
  · refine ⟨(txt_tk bs m x.2).of ?_, rfl, rfl, rfl, rfl⟩
    simp only [cond_true]
    have : valuedB { x.1 with val := (txt bs m x.2).1 } = true := h
    rw [this]
    simp [encTs]
/-- What is taken is just what is laid. -/
theorem gAll_tk (bs : List UInt8) (mn mv : Int) : Tk bs (0, 0, 0) (gAll bs mn mv).2 (dir2 (gAll bs mn mv).1) := by
  unfold gAll gHead dir2
  have h4 := g4_tk bs
  generalize g4 bs (g3 bs (g2 bs (g1 bs))) = x4 at h4
  have h5 := g5_tk bs x4
  generalize g5 bs x4 = x5 at h5
  have h6 := g6_tk bs x5
  generalize g6 bs x5 = x6 at h6
  have h7 := g7_tk bs mn x6
  generalize g7 bs mn x6 = x7 at h7
  have h8 := g8_tk bs mv x7
  generalize g8 bs mv x7 = x8 at h8
  refine ((((h4.trans h5.1).trans h6.1).trans h7.1).trans h8.1).of ?_
  rw [h8.2.1, h7.2.1, h6.2.1, h5.2, h8.2.2.1, h7.2.2.1, h6.2.2, h8.2.2.2.1, h7.2.2.2, h8.2.2.2.2]
  simp only [List.append_assoc]
end

/-- All its numbers are at least zero. -/
structure Pos (g : Cg) : Prop where
  kind : 0 ≤ g.kind
  ac : 0 ≤ g.ac
  ar : 0 ≤ g.ar
  seq : 0 ≤ g.seq
  deps : ∀ n ∈ g.deps, 0 ≤ n ∧ n ≤ 1099511627776
  nc : 0 ≤ g.nc
  nr : 0 ≤ g.nr
  pc : 0 ≤ g.pc
  pr : 0 ≤ g.pr
  fc : 0 ≤ g.fc
  fr : 0 ≤ g.fr
theorem right_pos {c r : Int} (h : right c r = true) : 0 ≤ c ∧ 0 ≤ r := by
  simp only [right, Bool.and_eq_true, decide_eq_true_eq] at h; omega
theorem zeroS_pos {c r : Int} (h : zeroS c r = true) : 0 ≤ c ∧ 0 ≤ r := by
  simp only [zeroS, Bool.and_eq_true, decide_eq_true_eq] at h; omega
theorem ahead_pos {c r a b : Int} (h : aheadS c r a b = true) : 0 ≤ c ∧ 0 ≤ r := by
  simp only [aheadS, Bool.and_eq_true] at h; exact right_pos h.1
theorem nodeS_pos {c r : Int} (h : nodeS c r = true) : 0 ≤ c ∧ 0 ≤ r := by
  simp only [nodeS, Bool.or_eq_true, Bool.and_eq_true, decide_eq_true_eq] at h
  rcases h with h | h | h
  · exact right_pos h
  · exact zeroS_pos h
  · omega
theorem clock_pos {l : List Int} (h : clockI l = 0) : ∀ n ∈ l, 0 ≤ n ∧ n ≤ 1099511627776 := by
  unfold clockI at h
  obtain ⟨-, h⟩ := bif_zero h (by decide)
  have ha : l.any badN = false := by
    cases hx : l.any badN with
    | true => rw [hx] at h; simp at h
    | false => rfl
  intro n hn
  have := List.any_eq_false.1 ha n hn
  simp only [badN, Bool.or_eq_true, decide_eq_true_eq, not_or] at this
  omega
theorem Ok.pos {g : Cg} (h : Ok g) : Pos g := by
  have ha := right_pos h.at_
  have hn : 0 ≤ g.nc ∧ 0 ≤ g.nr := by
    have := h.node
    unfold nodeB at this
    cases h1 : decide (g.kind = 1) <;> rw [h1] at this
    · cases h2 : decide (g.kind = 2) <;> rw [h2] at this
      · simp only [cond_false, Bool.or_eq_true] at this
        rcases this with h | h
        · exact zeroS_pos h
        · exact ahead_pos h
      · exact ahead_pos this
    · simp only [cond_true, Bool.and_eq_true, decide_eq_true_eq] at this
      omega
  have hp : (0 ≤ g.pc ∧ 0 ≤ g.pr) ∧ (0 ≤ g.fc ∧ 0 ≤ g.fr) := by
    have := h.place
    unfold placeB at this
    cases h1 : (!decide (g.kind = 1) && !decide (g.kind = 2)) <;> rw [h1] at this
    · simp only [cond_false, Bool.and_eq_true, Bool.or_eq_true] at this
      refine ⟨nodeS_pos (by grind), ?_⟩
      have : zeroS g.fc g.fr = true ∨ aheadS g.fc g.fr g.ac g.ar = true := by grind
      rcases this with h | h
      · exact zeroS_pos h
      · exact ahead_pos h
    · simp only [cond_true, Bool.and_eq_true] at this
      exact ⟨zeroS_pos this.1, zeroS_pos this.2⟩
  have := h.k1
  have := h.s1
  exact ⟨by omega, ha.1, ha.2, by omega, clock_pos h.clk, hn.1, hn.2, hp.1.1, hp.1.2, hp.2.1, hp.2.2⟩

section
variable {bs r : List UInt8} {g : Cg} {mn mv : Int}
/-- What is laid is taken. -/
theorem gAll_lf (h : Ok g) (hI : CgI g) (hmn : (g.name.length : Int) ≤ mn) (hmv : (g.val.length : Int) ≤ mv) (hb : Lf bs (0, 0, 0) (dir2 g ++ r)) : (gAll bs mn mv).1 = g ∧ Lf bs (gAll bs mn mv).2 r := by
  have hp := h.pos
  have hn32 := h.name32
  have hv256 := h.v1
  unfold dir2 p4 at hb
  simp only [List.append_assoc] at hb
  obtain ⟨a1, b1⟩ := num_lf (n := g.kind) hp.kind hI.kind.2 (by simpa [encs] using hb)
  obtain ⟨a2, a3, b2⟩ := stp_lf (a := g.ac) (b := g.ar) hp.ac hI.ac.2 hp.ar hI.ar.2 (by simpa [encs] using b1)
  obtain ⟨a4, b3⟩ := num_lf (n := g.seq) hp.seq hI.seq.2 b2
  obtain ⟨a5, b4⟩ := nums_lf (l := g.deps) h.deps64 (fun n hn => ⟨(hp.deps n hn).1, (hI.deps n hn).2⟩) (by simpa [encs] using b3)
  have e4 : g4 bs (g3 bs (g2 bs (g1 bs))) = (⟨g.ac, g.ar, g.seq, g.deps, g.kind, g.ac, g.ar, 0, 0, 0, 0, [], []⟩, (g4 bs (g3 bs (g2 bs (g1 bs)))).2) := by
    refine Prod.ext ?_ rfl
    show (⟨((stp bs (num bs (0, 0, 0)).2).1.1 : Int), ((stp bs (num bs (0, 0, 0)).2).1.2 : Int), ((num bs (stp bs (num bs (0, 0, 0)).2).2).1 : Int), intsN (nums bs (num bs (stp bs (num bs (0, 0, 0)).2).2).2).1, ((num bs (0, 0, 0)).1 : Int), ((stp bs (num bs (0, 0, 0)).2).1.1 : Int), ((stp bs (num bs (0, 0, 0)).2).1.2 : Int), 0, 0, 0, 0, [], []⟩ : Cg) = _
    rw [a1, a2, a3, a4, a5]
  have b4' : Lf bs (g4 bs (g3 bs (g2 bs (g1 bs)))).2 _ := b4
  unfold gAll gHead
  generalize g4 bs (g3 bs (g2 bs (g1 bs))) = x4 at e4 b4'
  obtain ⟨y4, s4⟩ := x4
  simp only [Prod.mk.injEq, and_true] at e4
  subst e4
  simp only at b4'
  clear b4 b3 b2 b1 a1 a2 a3 a4 a5 hb
  have h5 : (g5 bs (⟨g.ac, g.ar, g.seq, g.deps, g.kind, g.ac, g.ar, 0, 0, 0, 0, [], []⟩, s4)).1 = ⟨g.ac, g.ar, g.seq, g.deps, g.kind, g.nc, g.nr, 0, 0, 0, 0, [], []⟩ ∧ Lf bs (g5 bs (⟨g.ac, g.ar, g.seq, g.deps, g.kind, g.ac, g.ar, 0, 0, 0, 0, [], []⟩, s4)).2 (p6 g ++ (p7 g ++ (p8 g ++ r))) := by
    unfold wire.g5
    unfold p5 at b4'
    have hnd := h.node
    unfold nodeB at hnd
    simp only
    cases h1 : decide (g.kind = 1) <;> rw [h1] at b4' hnd
    · obtain ⟨c1, c2, c3⟩ := stp_lf hp.nc hI.nc.2 hp.nr hI.nr.2 b4'
      exact ⟨by simp only [cond_false]; rw [c1, c2], c3⟩
    · simp only [cond_true, Bool.and_eq_true, decide_eq_true_eq] at hnd
      exact ⟨by simp only [cond_true]; rw [hnd.1, hnd.2], b4'⟩
  generalize g5 bs (⟨g.ac, g.ar, g.seq, g.deps, g.kind, g.ac, g.ar, 0, 0, 0, 0, [], []⟩, s4) = x5 at h5
  obtain ⟨y5, s5⟩ := x5
  obtain ⟨rfl, b5⟩ := h5
  simp only at b5
  have h6 : (g6 bs (⟨g.ac, g.ar, g.seq, g.deps, g.kind, g.nc, g.nr, 0, 0, 0, 0, [], []⟩, s5)).1 = ⟨g.ac, g.ar, g.seq, g.deps, g.kind, g.nc, g.nr, g.pc, g.pr, g.fc, g.fr, [], []⟩ ∧ Lf bs (g6 bs (⟨g.ac, g.ar, g.seq, g.deps, g.kind, g.nc, g.nr, 0, 0, 0, 0, [], []⟩, s5)).2 (p7 g ++ (p8 g ++ r)) := by
    unfold wire.g6
    unfold p6 at b5
    have hpl := h.place
    unfold placeB at hpl
    simp only
    have e : (!decide (g.kind = 1) && !decide (g.kind = 2)) = !(decide (g.kind = 1) || decide (g.kind = 2)) := by simp
    rw [e] at hpl
    cases h1 : (decide (g.kind = 1) || decide (g.kind = 2)) <;> rw [h1] at b5 hpl
    · simp only [Bool.not_false, cond_true, Bool.and_eq_true, zeroS, decide_eq_true_eq] at hpl
      exact ⟨by simp only [cond_false]; rw [hpl.1.1, hpl.1.2, hpl.2.1, hpl.2.2], b5⟩
    · simp only [cond_true, List.append_assoc] at b5
      obtain ⟨c1, c2, c3⟩ := stp_lf hp.pc hI.pc.2 hp.pr hI.pr.2 b5
      obtain ⟨c4, c5, c6⟩ := stp_lf hp.fc hI.fc.2 hp.fr hI.fr.2 c3
      exact ⟨by simp only [cond_true]; rw [c1, c2, c4, c5], c6⟩
  generalize g6 bs (⟨g.ac, g.ar, g.seq, g.deps, g.kind, g.nc, g.nr, 0, 0, 0, 0, [], []⟩, s5) = x6 at h6
  obtain ⟨y6, s6⟩ := x6
  obtain ⟨rfl, b6⟩ := h6
  simp only at b6
  have h7 : (g7 bs mn (⟨g.ac, g.ar, g.seq, g.deps, g.kind, g.nc, g.nr, g.pc, g.pr, g.fc, g.fr, [], []⟩, s6)).1 = ⟨g.ac, g.ar, g.seq, g.deps, g.kind, g.nc, g.nr, g.pc, g.pr, g.fc, g.fr, g.name, []⟩ ∧ Lf bs (g7 bs mn (⟨g.ac, g.ar, g.seq, g.deps, g.kind, g.nc, g.nr, g.pc, g.pr, g.fc, g.fr, [], []⟩, s6)).2 (p8 g ++ r) := by
    unfold wire.g7
    unfold p7 at b6
    have e : namedB (⟨g.ac, g.ar, g.seq, g.deps, g.kind, g.nc, g.nr, g.pc, g.pr, g.fc, g.fr, [], []⟩ : Cg) = namedB g := rfl
    simp only
    rw [e]
    cases h1 : namedB g <;> rw [h1] at b6
    · exact ⟨by simp only [cond_false]; rw [h.nm2 h1], b6⟩
    · obtain ⟨c1, c2⟩ := txt_lf (t := g.name) (by omega) hmn (by simpa [encTs] using b6)
      exact ⟨by simp only [cond_true]; rw [c1], c2⟩
  generalize g7 bs mn (⟨g.ac, g.ar, g.seq, g.deps, g.kind, g.nc, g.nr, g.pc, g.pr, g.fc, g.fr, [], []⟩, s6) = x7 at h7
  obtain ⟨y7, s7⟩ := x7
  obtain ⟨rfl, b7⟩ := h7
  simp only at b7
  unfold wire.g8
  unfold p8 at b7
  have e : valuedB (⟨g.ac, g.ar, g.seq, g.deps, g.kind, g.nc, g.nr, g.pc, g.pr, g.fc, g.fr, g.name, []⟩ : Cg) = valuedB g := rfl
  simp only
  rw [e]
  cases h1 : valuedB g <;> rw [h1] at b7
  · exact ⟨by simp only [cond_false]; rw [← h.v2 h1], b7⟩
  · obtain ⟨c1, c2⟩ := txt_lf (t := g.val) (by omega) hmv (by simpa [encTs] using b7)
    exact ⟨by simp only [cond_true]; rw [c1], c2⟩
end

/-- The change that bytes are. -/
def Is (bs : List UInt8) (g : Cg) : Prop := Ok g ∧ CgI g ∧ bs = dirB g
section
variable {bs : List UInt8} {g : Cg} {mn mv : Int}
theorem Is.all (h : Is bs g) (hmn : (g.name.length : Int) ≤ mn) (hmv : (g.val.length : Int) ≤ mv) : gAll bs mn mv = (g, bs.length, 0, 0) := by
  obtain ⟨h1, h2, h3⟩ := h
  obtain ⟨h4, h5, h6, h7⟩ := gAll_lf (bs := bs) (r := []) h1 h2 hmn hmv ⟨Nat.zero_le _, rfl, by simp [h3, dirB_dir2 h1]⟩
  have : (gAll bs mn mv).2.1 = bs.length := by
    have := congrArg List.length h7
    simp at this; omega
  refine Prod.ext h4 (Prod.ext this ?_)
  rw [h6]
theorem Is.len (h : Is bs g) : g.name.length ≤ bs.length ∧ g.val.length ≤ bs.length := by
  obtain ⟨h1, h2, h3⟩ := h
  rw [h3, dirB_dir2 h1]
  unfold dir2 p7 p8
  constructor
  · cases hn : namedB g
    · rw [h1.nm2 hn]; simp
    · simp [encTs]; omega
  · cases hn : valuedB g
    · rw [h1.v2 hn]; simp
    · simp [encTs]; omega
theorem get_is (h : getB bs = true) : Is bs (gAll bs 32 256).1 := by
  unfold getB at h
  simp only [Bool.and_eq_true, decide_eq_true_eq] at h
  obtain ⟨h1, h2⟩ := h
  have ok := ok_iff.1 h2
  refine ⟨ok, gAll_I _ _ _, ?_⟩
  unfold doneO doneR at h1
  have he : (gAll bs 32 256).2.2.1 = 0 ∧ ¬ (gAll bs 32 256).2.1 < bs.length := by
    split at h1
    · cases h1
    · rename_i hx
      exact ⟨h1, fun hl => hx ⟨h1, hl⟩⟩
  have ht := (gAll_tk bs 32 256 he.1).2
  have hd0 : bs.drop (gAll bs 32 256).2.1 = [] := List.drop_eq_nil_of_le (by omega)
  rw [hd0, List.append_nil] at ht
  rw [dirB_dir2 ok]
  exact ht
theorem is_get (h : Is bs g) : getB bs = true ∧ getG bs = g ∧ getI bs = 0 := by
  have e := h.all (mn := 32) (mv := 256) (by have := h.1.name32; omega) (by have := h.1.v1; omega)
  have hb : getB bs = true := by
    unfold getB doneO doneR
    rw [e]
    simp only [ok_iff.2 h.1]
    simp
  refine ⟨hb, ?_, ?_⟩
  · unfold getG; rw [hb, e]; rfl
  · unfold getI; rw [hb]; rfl
theorem rget_is (h : rgetB bs = true) : Is bs (gAll bs bs.length bs.length).1 := by
  unfold rgetB at h
  simp only [Bool.and_eq_true, decide_eq_true_eq] at h
  exact ⟨ok_iff.1 h.1, gAll_I _ _ _, h.2.symm⟩
theorem is_rget (h : Is bs g) : rgetB bs = true ∧ rgetG bs = g ∧ rgetI bs = 0 := by
  have e := h.all (mn := bs.length) (mv := bs.length) (by have := h.len.1; omega) (by have := h.len.2; omega)
  have hb : rgetB bs = true := by
    unfold rgetB
    rw [e]
    simp only [ok_iff.2 h.1, ← h.2.2]
    simp
  refine ⟨hb, ?_, ?_⟩
  · unfold rgetG; rw [hb, e]; rfl
  · unfold rgetI; rw [hb]; rfl
/-- Both answer the same. -/
theorem get_rget (bs : List UInt8) : getG bs = rgetG bs ∧ getI bs = rgetI bs := by
  cases h1 : getB bs with
  | true =>
    have h := get_is h1
    have a := is_get h
    have b := is_rget h
    exact ⟨a.2.1.trans b.2.1.symm, a.2.2.trans b.2.2.symm⟩
  | false =>
    have h2 : rgetB bs = false := by
      cases h2 : rgetB bs with
      | false => rfl
      | true => rw [(is_get (rget_is h2)).1] at h1; cases h1
    unfold getG rgetG getI rgetI
    rw [h1, h2]
    exact ⟨rfl, rfl⟩
end
end Go.VL.wire

namespace Go.VL.wire
open Go Go.VL Go.Proofs Go.IntWalk

/-- All a frame's numbers are numbers. -/
structure FmI (f : Fm) : Prop where
  src : I64 f.src
  clock : ∀ n ∈ f.clock, I64 n
  cs : ∀ g ∈ f.cs, CgI g
def m01 (b : Bool) : Int := bif b then 1 else 0
def preB (f : Fm) : List UInt8 := encs [f.src] ++ (encs (f.clock.length :: f.clock) ++ encs [m01 f.more, f.cs.length])
def loadB (f : Fm) : List UInt8 := preB f ++ encTs (f.cs.map putO)
def writeI (f : Fm) : Int := bif decide (fchkI f = 0) then sealI f.kind (loadB f) else fchkI f
def writeO (f : Fm) : List UInt8 := bif decide (fchkI f = 0) then sealO f.kind (loadB f) else []

theorem putO_len {g : Cg} (hI : CgI g) : (putO g).length ≤ 2000 := by
  unfold putO
  cases hc : decide (chkI g = 0) with
  | false => simp
  | true =>
    have ok := ok_iff.1 (of_decide_eq_true hc)
    simp only [cond_true]
    rw [dirB_dir2 ok]
    have h64 := ok.deps64
    have hn := ok.name32
    have hv := ok.v1
    have a1 := encs_len' (l := [g.kind, g.ac, g.ar, g.seq]) (k := 4) (by
      intro n hn
      simp only [List.mem_cons, List.not_mem_nil, or_false] at hn
      rcases hn with rfl | rfl | rfl | rfl
      · exact hI.kind
      · exact hI.ac
      · exact hI.ar
      · exact hI.seq) (by simp)
    have a2 := encs_len' (l := (g.deps.length : Int) :: g.deps) (k := 65) (by
      intro n hn
      rcases List.mem_cons.1 hn with rfl | hn
      · exact ⟨by omega, by omega⟩
      · exact hI.deps n hn) (by simp; omega)
    have a3 := pair_le hI.nc hI.nr
    have a4 := pair_le hI.pc hI.pr
    have a5 := pair_le hI.fc hI.fr
    have a6 := encT_le (t := g.name) (by omega)
    have a7 := encT_le (t := g.val) (by omega)
    unfold dir2 p4 p5 p6 p7 p8
    cases decide (g.kind = 1) <;> cases decide (g.kind = 2) <;> cases namedB g <;> cases valuedB g <;>
      simp only [cond_true, cond_false, Bool.or_true, Bool.or_false, Bool.or_self, List.length_append, List.length_nil] <;> omega
theorem encTs_putO {l : List Cg} (h : ∀ g ∈ l, CgI g) : (encTs (l.map putO)).length ≤ 2010 * l.length := by
  induction l with
  | nil => simp [encTs]
  | cons g l ih =>
    have h1 := putO_len (h g (by simp))
    have h2 := encT_le (t := putO g) (by omega)
    have h3 := ih (fun x hx => h x (by simp [hx]))
    have e : encTs ((g :: l).map putO) = encTs [putO g] ++ encTs (l.map putO) := by simp [encTs]
    rw [e, List.length_append, List.length_cons]
    omega
theorem preB_len {f : Fm} (hI : FmI f) (h1 : f.clock.length ≤ 64) (h2 : f.cs.length ≤ 64) : (preB f).length ≤ 1000 := by
  unfold preB
  have a1 := encs_len' (l := [f.src]) (k := 1) (by simpa using hI.src) (by simp)
  have a2 := encs_len' (l := (f.clock.length : Int) :: f.clock) (k := 65) (by
      intro n hn
      rcases List.mem_cons.1 hn with rfl | hn
      · exact ⟨by omega, by omega⟩
      · exact hI.clock n hn) (by simp; omega)
  have a3 := pair_le (a := m01 f.more) (b := f.cs.length) (by cases f.more <;> exact ⟨by decide, by decide⟩) ⟨by omega, by omega⟩
  simp only [List.length_append]
  omega
/-- What a right frame is. -/
structure FOk (f : Fm) : Prop where
  k1 : 1 ≤ f.kind
  k3 : f.kind ≤ 3
  s0 : 0 ≤ f.src
  s64 : f.src < 64
  clk : clockI f.clock = 0
  last : lastZ f.clock = false
  len : f.cs.length ≤ 64
  bad : badK f = false
  cs : ∀ g ∈ f.cs, Ok g
theorem fok_iff {f : Fm} : fchkI f = 0 ↔ FOk f := by
  constructor
  · intro h
    unfold fchkI at h
    obtain ⟨h1, h⟩ := bif_zero h (by decide)
    have h2 : clockI f.clock = 0 := by
      cases hd : decide (clockI f.clock = 0) with
      | true => exact of_decide_eq_true hd
      | false => rw [hd] at h; simpa using h
    rw [h2] at h
    simp only [decide_true, Bool.not_true, cond_false] at h
    obtain ⟨h3, h⟩ := bif_zero h (by decide)
    obtain ⟨h4, h⟩ := bif_zero h (by decide)
    obtain ⟨h5, h⟩ := bif_zero h (by decide)
    simp only [Bool.or_eq_false_iff, decide_eq_false_iff_not] at h1 h4
    exact ⟨by omega, by omega, by omega, by omega, h2, h3, by omega, h5, fun g hg => ok_iff.1 (errL_all.1 h g hg)⟩
  · intro h
    have d1 : decide (f.kind < 1) = false := by have := h.k1; simp; omega
    have d2 : decide (3 < f.kind) = false := by have := h.k3; simp; omega
    have d3 : decide (f.src < 0) = false := by have := h.s0; simp; omega
    have d4 : decide (64 ≤ f.src) = false := by have := h.s64; simp; omega
    have d5 : decide ((64 : Int) < f.cs.length) = false := by have := h.len; simp; omega
    unfold fchkI
    rw [d1, d2, d3, d4, d5, h.clk, h.last, h.bad, errL_all.2 fun g hg => ok_iff.2 (h.cs g hg)]
    rfl
theorem FOk.clk64 {f : Fm} (h : FOk f) : f.clock.length ≤ 64 := by
  have := h.clk
  unfold clockI at this
  cases hc : decide ((64 : Int) < f.clock.length) with
  | true => rw [hc] at this; simp at this
  | false => have := of_decide_eq_false hc; omega
theorem cS_rd {τ : St} {b : Bool} {R : R} {z : Nat} {q : List UInt8} (h : RdS τ (.sl b R z (bytesV q)) 1 (bytesV q)) : b = true ∨ rd τ.live R ∧ z = 1 := by
  obtain ⟨_, _, _, e, -, h⟩ := h
  cases e; exact h

section
variable {σ : St} {c v : V} {f : Fm}
set_option maxRecDepth 100000 in
set_option maxHeartbeats 4000000 in
theorem write_ok (hf : RdF σ c v f) (hz : FmZ f) (hI : FmI f) :
    CallA Try.prog 21 [fmV c v f] σ fun w σ' => Ext σ σ' ∧ σ'.objs = σ.objs ∧ ∃ x, w = .tup [x, .int .i64 (writeI f)] ∧ RdS σ' x 1 (bytesV (writeO f)) := by
  obtain ⟨cb, cR, cz, rfl, -, -⟩ := id hf.1
  obtain ⟨l, hlm, hv, hds⟩ := id hf.2
  obtain ⟨b, R, z, rfl, -, -⟩ := id hv
  refine fn_at Try.func21 (by decide) comp21 rfl fun Q q1 q2 => ?_
  clear q1
  simp -implicitDefEqProofs only [go_sem, Nat.reduceBEq, Nat.reduceAdd, eq_self, true_and, and_true, and_self, List.getElem?_cons_zero, List.getElem?_cons_succ, Nat.reduceLeDiff, Nat.zero_add, Nat.reduceSub, Nat.le_refl, c21, fmV, fmC]
  refine call_at (fchk_ok hf hz) ?_
  rintro w τ ⟨rfl, rfl⟩
  refine ⟨kept_none, ?_⟩
  unfold writeI writeO at q2
  cases hc : decide (fchkI f = 0) <;> rw [hc] at q2
  case false =>
    simp -implicitDefEqProofs only [go_sem, Nat.reduceBEq, Nat.reduceAdd, eq_self, true_and, and_true, and_self, List.getElem?_cons_zero, List.getElem?_cons_succ, Nat.reduceLeDiff, Nat.zero_add, Nat.reduceSub, Nat.le_refl, hc]
    refine q2 _ _ ?_
    simp -implicitDefEqProofs only [go_sem, Nat.reduceBEq, Nat.reduceAdd, eq_self, true_and, and_true, and_self, List.getElem?_cons_zero, List.getElem?_cons_succ, Nat.reduceLeDiff, Nat.zero_add, Nat.reduceSub, Nat.le_refl, cond_true, cond_false, Bool.true_or, Bool.false_or, Bool.or_true, Bool.or_false, Bool.and_true, Bool.and_false, Bool.true_and, Bool.false_and, Bool.or_self, Bool.and_self]
    exact ⟨Ext.refl _, _, rfl, nil_rd⟩
  have ok := fok_iff.1 (of_decide_eq_true hc)
  have h64 := ok.clk64
  have hc64 := ok.len
  have hl := intsV_len f.clock
  have hcl := cgsV_len l
  have hll : l.length = f.cs.length := by rw [← hlm, List.length_map]
  simp -implicitDefEqProofs only [go_sem, Nat.reduceBEq, Nat.reduceAdd, eq_self, true_and, and_true, and_self, List.getElem?_cons_zero, List.getElem?_cons_succ, Nat.reduceLeDiff, Nat.zero_add, Nat.reduceSub, Nat.le_refl, hc]
  refine cut_at (fun G τ' => G = ⟨[(1, .loc 1 0), (5, .v (.int .i64 (m01 f.more)))], [(1, fmC (.sl cb cR cz (intsV .i64 f.clock)) (.sl b R z (cgsV l)) f)]⟩ ∧ τ' = τ) ?_ ?_
  · intro Z z1 z2 z3
    simp -implicitDefEqProofs only [go_sem, Nat.reduceBEq, Nat.reduceAdd, eq_self, true_and, and_true, and_self, List.getElem?_cons_zero, List.getElem?_cons_succ, Nat.reduceLeDiff, Nat.zero_add, Nat.reduceSub, Nat.le_refl, Nat.lt_irrefl]
    cases hm : f.more
    all_goals
      simp -implicitDefEqProofs only [go_sem, Nat.reduceBEq, Nat.reduceAdd, eq_self, true_and, and_true, and_self, List.getElem?_cons_zero, List.getElem?_cons_succ, Nat.reduceLeDiff, Nat.zero_add, Nat.reduceSub, Nat.le_refl, hm]
      refine z1 _ _ _ (.inr ?_) ⟨rfl, rfl⟩
      simp -implicitDefEqProofs only [go_sem, Nat.reduceBEq, Nat.reduceAdd, eq_self, true_and, and_true, and_self, List.getElem?_cons_zero, List.getElem?_cons_succ, Nat.reduceLeDiff, Nat.zero_add, Nat.reduceSub, Nat.le_refl, fmC, hm, m01]
      try exact ⟨rfl, rfl⟩
  rintro G τ' ⟨rfl, rfl⟩
  simp -implicitDefEqProofs only [go_sem, Nat.reduceBEq, Nat.reduceAdd, eq_self, true_and, and_true, and_self, List.getElem?_cons_zero, List.getElem?_cons_succ, Nat.reduceLeDiff, Nat.zero_add, Nat.reduceSub, Nat.le_refl, fmC, hl]
  refine call_at (put_lit (s := []) (b := .sl true .pub 0 []) nil_rd [f.src, f.clock.length] ?_ (by simp)) ?_
  · intro n hn
    simp only [List.mem_cons, List.not_mem_nil, or_false] at hn
    rcases hn with rfl | rfl
    · exact hI.src
    · exact ⟨by omega, by omega⟩
  rintro b1 τ1 ⟨e1, o1, r1⟩
  have a1 := encs_len' (l := [f.src, f.clock.length]) (k := 2) (by
      intro n hn
      simp only [List.mem_cons, List.not_mem_nil, or_false] at hn
      rcases hn with rfl | rfl
      · exact hI.src
      · exact ⟨by omega, by omega⟩) (by simp)
  refine ⟨kept_none, ?_⟩
  simp -implicitDefEqProofs only [go_sem, Nat.reduceBEq, Nat.reduceAdd, eq_self, true_and, and_true, and_self, List.getElem?_cons_zero, List.getElem?_cons_succ, Nat.reduceLeDiff, Nat.zero_add, Nat.reduceSub, Nat.le_refl, Nat.lt_irrefl]
  refine call_at (put_sl r1 (hf.1.ext e1) hI.clock (by simp only [List.nil_append]; omega)) ?_
  rintro b2 τ2 ⟨e2, o2, r2⟩
  have a2 := encs_len' (l := f.clock) (k := 64) hI.clock h64
  refine ⟨kept_none, ?_⟩
  simp -implicitDefEqProofs only [go_sem, Nat.reduceBEq, Nat.reduceAdd, eq_self, true_and, and_true, and_self, List.getElem?_cons_zero, List.getElem?_cons_succ, Nat.reduceLeDiff, Nat.zero_add, Nat.reduceSub, Nat.le_refl, hcl, hll]
  refine call_at (put_lit r2 [m01 f.more, f.cs.length] ?_ (by simp only [List.nil_append, List.length_append, List.length_cons, List.length_nil]; omega)) ?_
  · intro n hn
    simp only [List.mem_cons, List.not_mem_nil, or_false] at hn
    rcases hn with rfl | rfl
    · cases f.more <;> exact ⟨by decide, by decide⟩
    · exact ⟨by omega, by omega⟩
  rintro b3 τ3 ⟨e3, o3, r3⟩
  have epre : ([] ++ encs [f.src, (f.clock.length : Int)] ++ encs f.clock ++ encs [m01 f.more, (f.cs.length : Int)]) = preB f := by
    unfold preB; simp [encs]
  rw [epre] at r3
  have ee := (e1.trans e2).trans e3
  have eo : τ3.objs = τ'.objs := o3.trans (o2.trans o1)
  have hpl := preB_len hI h64 hc64
  clear e1 e2 e3 o1 o2 o3 r1 r2 a1 a2 epre
  refine ⟨kept_none, ?_⟩
  simp -implicitDefEqProofs only [go_sem, Nat.reduceBEq, Nat.reduceAdd, eq_self, true_and, and_true, and_self, List.getElem?_cons_zero, List.getElem?_cons_succ, Nat.reduceLeDiff, Nat.zero_add, Nat.reduceSub, Nat.le_refl, hcl, hll]
  refine loop_at (fun (x : Nat × V) => ⟨[(1, .loc 1 0), (6, .v x.2), (37, .v (.sl b R z (cgsV l))), (38, .v (.int .i64 f.cs.length)), (39, .v (.int .i64 x.1))], [(1, fmC (.sl cb cR cz (intsV .i64 f.clock)) (.sl b R z (cgsV l)) f)]⟩)
    (fun x τ => x.1 ≤ f.cs.length ∧ Ext τ' τ ∧ τ.objs = τ'.objs ∧ RdS τ x.2 1 (bytesV (preB f ++ encTs ((f.cs.take x.1).map putO)))) (fun x => f.cs.length - x.1) (0, b3) ?_ ?_ ?_
  · refine .inr ?_
    simp -implicitDefEqProofs only [go_sem, Nat.reduceBEq, Nat.reduceAdd, eq_self, true_and, and_true, and_self, List.getElem?_cons_zero, List.getElem?_cons_succ, Nat.reduceLeDiff, Nat.zero_add, Nat.reduceSub, Nat.le_refl, fmC]
    try trivial
  · exact ⟨Nat.zero_le _, ee, eo, by simpa [encTs] using r3⟩
  clear ee eo r3
  rintro ⟨i, w⟩ τ4 ⟨g1, g2, g3, g4⟩ Z z1 z2 z3
  simp only at g1 g4
  simp -implicitDefEqProofs only [go_sem, Nat.reduceBEq, Nat.reduceAdd, eq_self, true_and, and_true, and_self, List.getElem?_cons_zero, List.getElem?_cons_succ, Nat.reduceLeDiff, Nat.zero_add, Nat.reduceSub, Nat.le_refl, Nat.lt_irrefl]
  refine CondW_b (fun hc => ?_) (fun hc => ?_)
  · have hi : i < f.cs.length := by simpa using hc
    have hil : i < l.length := by omega
    have hget := cgsV_get hil
    obtain ⟨k1, k2⟩ := rdl (hv.ext g2) (cgsV_ne hil)
    have htk : f.cs.take (i + 1) = f.cs.take i ++ [f.cs[i]] := List.take_succ_eq_append_getElem hi
    have hdi := (hds _ (List.getElem_mem hil)).ext g2
    have hgi : f.cs[i] = l[i].2 := by simp only [← hlm, List.getElem_map]
    have hmem : f.cs[i] ∈ f.cs := List.getElem_mem hi
    have hgI := hI.cs _ hmem
    have hgn := hz.name _ hmem
    rw [hgi] at htk hgI hgn
    generalize l[i] = x at hget htk hdi hgI hgn
    obtain ⟨d, g⟩ := x
    simp only at hget hdi hgI hgn htk
    have hdl := hdi
    obtain ⟨db, dR, dz, rfl, -, -⟩ := id hdi
    simp -implicitDefEqProofs only [go_sem, Nat.reduceBEq, Nat.reduceAdd, eq_self, true_and, and_true, and_self, List.getElem?_cons_zero, List.getElem?_cons_succ, Nat.reduceLeDiff, Nat.zero_add, Nat.reduceSub, Nat.le_refl, hget, cgC]
    rw [hcl]
    refine ⟨⟨by omega, by omega, k2⟩, k1, ?_⟩
    refine call_at (wput_ok (d := .sl db dR dz (intsV .i64 g.deps)) (g := g) hdi hgI (by omega)) ?_
    rintro w1 τ5 ⟨s1, s2, x, rfl, hx⟩
    refine ⟨kept_none, ?_⟩
    obtain ⟨xb, xR, xz, rfl, -, -⟩ := id hx
    have hback : ∀ q, (bytesV q).map byteOfC = q := bytes_back
    have hplen := putO_len hgI
    have htl := encTs_putO (l := f.cs.take i) (fun g hg => hI.cs g (List.mem_of_mem_take hg))
    rw [List.length_take] at htl
    simp -implicitDefEqProofs only [go_sem, Nat.reduceBEq, Nat.reduceAdd, eq_self, true_and, and_true, and_self, List.getElem?_cons_zero, List.getElem?_cons_succ, Nat.reduceLeDiff, Nat.zero_add, Nat.reduceSub, Nat.le_refl, hback]
    refine ⟨cS_rd hx, call_at (putText_lit (g4.ext s1) (putO g) (by rw [List.length_append]; omega)) ?_⟩
    rintro b4 τ6 ⟨t1, t2, t3⟩
    refine ⟨kept_none, ?_⟩
    simp -implicitDefEqProofs only [go_sem, Nat.reduceBEq, Nat.reduceAdd, eq_self, true_and, and_true, and_self, List.getElem?_cons_zero, List.getElem?_cons_succ, Nat.reduceLeDiff, Nat.zero_add, Nat.reduceSub, Nat.le_refl, Nat.lt_irrefl]
    refine z1 (i + 1, b4) _ _ (.inr ?_) (by simp only; omega) ⟨by simp only; omega, (g2.trans s1).trans t1, t2.trans (s2.trans g3), ?_⟩
    · simp -implicitDefEqProofs only [go_sem, Nat.reduceBEq, Nat.reduceAdd, eq_self, true_and, and_true, and_self, List.getElem?_cons_zero, List.getElem?_cons_succ, Nat.reduceLeDiff, Nat.zero_add, Nat.reduceSub, Nat.le_refl, fmC]
      rw [i64_in _ (by omega)]; simp
    · simp only
      rw [htk]
      rw [List.append_assoc] at t3
      have : encTs (f.cs.take i |>.map putO) ++ encTs [putO g] = encTs ((f.cs.take i ++ [g]).map putO) := by simp [encTs]
      rw [this] at t3
      exact t3
  · have hi : ¬ i < f.cs.length := by simpa using hc
    rw [List.take_of_length_le (by omega)] at g4
    simp -implicitDefEqProofs only [go_sem, Nat.reduceBEq, Nat.reduceAdd, eq_self, true_and, and_true, and_self, List.getElem?_cons_zero, List.getElem?_cons_succ, Nat.reduceLeDiff, Nat.zero_add, Nat.reduceSub, Nat.le_refl, Nat.lt_irrefl]
    refine z2 _ _ _ ?_
    simp -implicitDefEqProofs only [go_sem, Nat.reduceBEq, Nat.reduceAdd, eq_self, true_and, and_true, and_self, List.getElem?_cons_zero, List.getElem?_cons_succ, Nat.reduceLeDiff, Nat.zero_add, Nat.reduceSub, Nat.le_refl, fmC]
    have htl := encTs_putO (l := f.cs) hI.cs
    refine call_at (seal_ok (k := f.kind) (p := loadB f) g4 (by unfold loadB; rw [List.length_append]; omega)) ?_
    rintro w1 τ5 ⟨s1, s2, x, rfl, hx⟩
    refine ⟨kept_none, ?_⟩
    obtain ⟨xb, xR, xz, rfl, -, -⟩ := id hx
    simp -implicitDefEqProofs only [go_sem, Nat.reduceBEq, Nat.reduceAdd, eq_self, true_and, and_true, and_self, List.getElem?_cons_zero, List.getElem?_cons_succ, Nat.reduceLeDiff, Nat.zero_add, Nat.reduceSub, Nat.le_refl, Nat.lt_irrefl]
    refine q2 _ _ ?_
    simp -implicitDefEqProofs only [go_sem, Nat.reduceBEq, Nat.reduceAdd, eq_self, true_and, and_true, and_self, List.getElem?_cons_zero, List.getElem?_cons_succ, Nat.reduceLeDiff, Nat.zero_add, Nat.reduceSub, Nat.le_refl, cond_true, cond_false, Bool.true_or, Bool.false_or, Bool.or_true, Bool.or_false, Bool.and_true, Bool.and_false, Bool.true_and, Bool.false_and, Bool.or_self, Bool.and_self]
    exact ⟨g2.trans s1, s2.trans g3, _, rfl, hx⟩
end
end Go.VL.wire

namespace Go.VL.wire
open Go Go.VL Go.Proofs Go.IntWalk

section
variable {σ : St} {c v : V} {f : Fm}
set_option maxRecDepth 100000 in
set_option maxHeartbeats 4000000 in
theorem rwrite_ok (hf : RdF σ c v f) (hz : FmZ f) (hI : FmI f) :
    CallA Try.prog 22 [fmV c v f] σ fun w σ' => Ext σ σ' ∧ σ'.objs = σ.objs ∧ ∃ x, w = .tup [x, .int .i64 (writeI f)] ∧ RdS σ' x 1 (bytesV (writeO f)) := by
  obtain ⟨cb, cR, cz, rfl, -, -⟩ := id hf.1
  obtain ⟨l, hlm, hv, hds⟩ := id hf.2
  obtain ⟨b, R, z, rfl, -, -⟩ := id hv
  refine fn_at Try.func22 (by decide) comp22 rfl fun Q q1 q2 => ?_
  clear q1
  simp -implicitDefEqProofs only [go_sem, Nat.reduceBEq, Nat.reduceAdd, eq_self, true_and, and_true, and_self, List.getElem?_cons_zero, List.getElem?_cons_succ, Nat.reduceLeDiff, Nat.zero_add, Nat.reduceSub, Nat.le_refl, c22, fmV, fmC]
  refine call_at (rfchk_ok hf hz) ?_
  rintro w τ ⟨⟨y1, y2⟩, rfl⟩
  refine ⟨kept_none, ?_⟩
  unfold writeI writeO at q2
  cases hc : decide (fchkI f = 0) <;> rw [hc] at q2
  case false =>
    simp -implicitDefEqProofs only [go_sem, Nat.reduceBEq, Nat.reduceAdd, eq_self, true_and, and_true, and_self, List.getElem?_cons_zero, List.getElem?_cons_succ, Nat.reduceLeDiff, Nat.zero_add, Nat.reduceSub, Nat.le_refl, hc]
    refine call_at (rfchk_ok (hf.ext y1) hz) ?_
    rintro w τ2 ⟨⟨y3, y4⟩, rfl⟩
    refine ⟨kept_none, ?_⟩
    simp -implicitDefEqProofs only [go_sem, Nat.reduceBEq, Nat.reduceAdd, eq_self, true_and, and_true, and_self, List.getElem?_cons_zero, List.getElem?_cons_succ, Nat.reduceLeDiff, Nat.zero_add, Nat.reduceSub, Nat.le_refl, Nat.lt_irrefl]
    refine q2 _ _ ?_
    simp -implicitDefEqProofs only [go_sem, Nat.reduceBEq, Nat.reduceAdd, eq_self, true_and, and_true, and_self, List.getElem?_cons_zero, List.getElem?_cons_succ, Nat.reduceLeDiff, Nat.zero_add, Nat.reduceSub, Nat.le_refl, cond_true, cond_false, Bool.true_or, Bool.false_or, Bool.or_true, Bool.or_false, Bool.and_true, Bool.and_false, Bool.true_and, Bool.false_and, Bool.or_self, Bool.and_self]
    exact ⟨y1.trans y3, y4.trans y2, _, rfl, nil_rd⟩
  have ok := fok_iff.1 (of_decide_eq_true hc)
  have h64 := ok.clk64
  have hc64 := ok.len
  have hl := intsV_len f.clock
  have hcl := cgsV_len l
  have hll : l.length = f.cs.length := by rw [← hlm, List.length_map]
  simp -implicitDefEqProofs only [go_sem, Nat.reduceBEq, Nat.reduceAdd, eq_self, true_and, and_true, and_self, List.getElem?_cons_zero, List.getElem?_cons_succ, Nat.reduceLeDiff, Nat.zero_add, Nat.reduceSub, Nat.le_refl, hc]
  refine cut_at (fun G τ' => G = ⟨[(1, .loc 1 0), (4, .v (.int .i64 (m01 f.more)))], [(1, fmC (.sl cb cR cz (intsV .i64 f.clock)) (.sl b R z (cgsV l)) f)]⟩ ∧ τ' = τ) ?_ ?_
  · intro Z z1 z2 z3
    simp -implicitDefEqProofs only [go_sem, Nat.reduceBEq, Nat.reduceAdd, eq_self, true_and, and_true, and_self, List.getElem?_cons_zero, List.getElem?_cons_succ, Nat.reduceLeDiff, Nat.zero_add, Nat.reduceSub, Nat.le_refl, Nat.lt_irrefl]
    cases hm : f.more
    all_goals
      simp -implicitDefEqProofs only [go_sem, Nat.reduceBEq, Nat.reduceAdd, eq_self, true_and, and_true, and_self, List.getElem?_cons_zero, List.getElem?_cons_succ, Nat.reduceLeDiff, Nat.zero_add, Nat.reduceSub, Nat.le_refl, hm]
      refine z1 _ _ _ (.inr ?_) ⟨rfl, rfl⟩
      simp -implicitDefEqProofs only [go_sem, Nat.reduceBEq, Nat.reduceAdd, eq_self, true_and, and_true, and_self, List.getElem?_cons_zero, List.getElem?_cons_succ, Nat.reduceLeDiff, Nat.zero_add, Nat.reduceSub, Nat.le_refl, fmC, hm, m01]
      try exact ⟨rfl, rfl⟩
  rintro G τ' ⟨rfl, rfl⟩
  simp -implicitDefEqProofs only [go_sem, Nat.reduceBEq, Nat.reduceAdd, eq_self, true_and, and_true, and_self, List.getElem?_cons_zero, List.getElem?_cons_succ, Nat.reduceLeDiff, Nat.zero_add, Nat.reduceSub, Nat.le_refl, fmC]
  refine call_at (rput (s := []) (b := .sl true .pub 0 []) nil_rd f.src hI.src (by simp)) ?_
  rintro b1 τ1 ⟨e1, o1, r1⟩
  have a1 := encs_len' (l := [f.src]) (k := 1) (by simpa using hI.src) (by simp)
  refine ⟨e1.kept, ?_⟩
  simp -implicitDefEqProofs only [go_sem, Nat.reduceBEq, Nat.reduceAdd, eq_self, true_and, and_true, and_self, List.getElem?_cons_zero, List.getElem?_cons_succ, Nat.reduceLeDiff, Nat.zero_add, Nat.reduceSub, Nat.le_refl, Nat.lt_irrefl]
  refine call_at (rlist_ok r1 ((hf.1.ext y1).ext e1) hI.clock (by simp only [List.nil_append]; omega)) ?_
  rintro b2 τ2 ⟨e2, o2, r2⟩
  have a2 := encs_len' (l := (f.clock.length : Int) :: f.clock) (k := 65) (by
      intro n hn
      rcases List.mem_cons.1 hn with rfl | hn
      · exact ⟨by omega, by omega⟩
      · exact hI.clock n hn) (by simp; omega)
  refine ⟨e2.kept, ?_⟩
  simp -implicitDefEqProofs only [go_sem, Nat.reduceBEq, Nat.reduceAdd, eq_self, true_and, and_true, and_self, List.getElem?_cons_zero, List.getElem?_cons_succ, Nat.reduceLeDiff, Nat.zero_add, Nat.reduceSub, Nat.le_refl, hcl, hll]
  refine call_at (rput r2 (m01 f.more) (by cases f.more <;> exact ⟨by decide, by decide⟩) (by simp only [List.nil_append, List.length_append]; omega)) ?_
  rintro b3 τ3 ⟨e3, o3, r3⟩
  have a3 := encs_len' (l := [m01 f.more]) (k := 1) (by cases f.more <;> simp [m01, I64]) (by simp)
  refine ⟨e3.kept, ?_⟩
  simp -implicitDefEqProofs only [go_sem, Nat.reduceBEq, Nat.reduceAdd, eq_self, true_and, and_true, and_self, List.getElem?_cons_zero, List.getElem?_cons_succ, Nat.reduceLeDiff, Nat.zero_add, Nat.reduceSub, Nat.le_refl, Nat.lt_irrefl]
  refine call_at (rput r3 f.cs.length ⟨by omega, by omega⟩ (by simp only [List.nil_append, List.length_append]; omega)) ?_
  rintro b4 τ4 ⟨e4, o4, r4⟩
  have epre : ([] ++ encs [f.src] ++ encs ((f.clock.length : Int) :: f.clock) ++ encs [m01 f.more] ++ encs [(f.cs.length : Int)]) = preB f := by
    unfold preB; simp [encs]
  rw [epre] at r4
  have ee := y1.trans (((e1.trans e2).trans e3).trans e4)
  have eo : τ4.objs = σ.objs := o4.trans (o3.trans (o2.trans (o1.trans y2)))
  have hpl := preB_len hI h64 hc64
  refine ⟨e4.kept, ?_⟩
  clear e1 e2 e3 e4 o1 o2 o3 o4 r1 r2 r3 a1 a2 a3 epre
  simp -implicitDefEqProofs only [go_sem, Nat.reduceBEq, Nat.reduceAdd, eq_self, true_and, and_true, and_self, List.getElem?_cons_zero, List.getElem?_cons_succ, Nat.reduceLeDiff, Nat.zero_add, Nat.reduceSub, Nat.le_refl, Nat.lt_irrefl]
  refine loop_at (fun (x : Nat × V) => ⟨[(1, .loc 1 0), (5, .v x.2), (6, .v (.int .i64 x.1))], [(1, fmC (.sl cb cR cz (intsV .i64 f.clock)) (.sl b R z (cgsV l)) f)]⟩)
    (fun x τ => x.1 ≤ f.cs.length ∧ Ext σ τ ∧ τ.objs = σ.objs ∧ RdS τ x.2 1 (bytesV (preB f ++ encTs ((f.cs.take x.1).map putO)))) (fun x => f.cs.length - x.1) (0, b4) ?_ ?_ ?_
  · refine .inr ?_
    simp -implicitDefEqProofs only [go_sem, Nat.reduceBEq, Nat.reduceAdd, eq_self, true_and, and_true, and_self, List.getElem?_cons_zero, List.getElem?_cons_succ, Nat.reduceLeDiff, Nat.zero_add, Nat.reduceSub, Nat.le_refl, fmC]
    try trivial
  · exact ⟨Nat.zero_le _, ee, eo, by simpa [encTs] using r4⟩
  clear ee eo r4
  rintro ⟨i, w⟩ τ4 ⟨g1, g2, g3, g4⟩ Z z1 z2 z3
  simp only at g1 g4
  simp -implicitDefEqProofs only [go_sem, Nat.reduceBEq, Nat.reduceAdd, eq_self, true_and, and_true, and_self, List.getElem?_cons_zero, List.getElem?_cons_succ, Nat.reduceLeDiff, Nat.zero_add, Nat.reduceSub, Nat.le_refl, fmC, hcl, hll]
  refine CondW_b (fun hc => ?_) (fun hc => ?_)
  · have hi : i < f.cs.length := by simpa using hc
    have hil : i < l.length := by omega
    have hget := cgsV_get hil
    obtain ⟨k1, k2⟩ := rdl (hv.ext g2) (cgsV_ne hil)
    have htk : f.cs.take (i + 1) = f.cs.take i ++ [f.cs[i]] := List.take_succ_eq_append_getElem hi
    have hdi := (hds _ (List.getElem_mem hil)).ext g2
    have hgi : f.cs[i] = l[i].2 := by simp only [← hlm, List.getElem_map]
    have hmem : f.cs[i] ∈ f.cs := List.getElem_mem hi
    have hgI := hI.cs _ hmem
    have hgn := hz.name _ hmem
    rw [hgi] at htk hgI hgn
    generalize l[i] = x at hget htk hdi hgI hgn
    obtain ⟨d, g⟩ := x
    simp only at hget hdi hgI hgn htk
    obtain ⟨db, dR, dz, rfl, -, -⟩ := id hdi
    simp -implicitDefEqProofs only [go_sem, Nat.reduceBEq, Nat.reduceAdd, eq_self, true_and, and_true, and_self, List.getElem?_cons_zero, List.getElem?_cons_succ, Nat.reduceLeDiff, Nat.zero_add, Nat.reduceSub, Nat.le_refl, hget, cgC]
    rw [hcl]
    refine ⟨⟨by omega, by omega, k2⟩, k1, ?_⟩
    refine call_at (rput_ok (d := .sl db dR dz (intsV .i64 g.deps)) (g := g) hdi hgI (by omega)) ?_
    rintro w1 τ5 ⟨s1, s2, x, rfl, hx⟩
    refine ⟨kept_none, ?_⟩
    obtain ⟨xb, xR, xz, rfl, -, -⟩ := id hx
    have hback : ∀ q, (bytesV q).map byteOfC = q := bytes_back
    have hplen := putO_len hgI
    have htl := encTs_putO (l := f.cs.take i) (fun g hg => hI.cs g (List.mem_of_mem_take hg))
    rw [List.length_take] at htl
    simp -implicitDefEqProofs only [go_sem, Nat.reduceBEq, Nat.reduceAdd, eq_self, true_and, and_true, and_self, List.getElem?_cons_zero, List.getElem?_cons_succ, Nat.reduceLeDiff, Nat.zero_add, Nat.reduceSub, Nat.le_refl, hback]
    refine ⟨cS_rd hx, call_at (rputText (g4.ext s1) (putO g) (by rw [List.length_append]; omega)) ?_⟩
    rintro b4 τ6 ⟨t1, t2, t3⟩
    refine ⟨kept_none, ?_⟩
    simp -implicitDefEqProofs only [go_sem, Nat.reduceBEq, Nat.reduceAdd, eq_self, true_and, and_true, and_self, List.getElem?_cons_zero, List.getElem?_cons_succ, Nat.reduceLeDiff, Nat.zero_add, Nat.reduceSub, Nat.le_refl, Nat.lt_irrefl]
    refine z1 (i + 1, b4) _ _ (.inr ?_) (by simp only; omega) ⟨by simp only; omega, (g2.trans s1).trans t1, t2.trans (s2.trans g3), ?_⟩
    · simp -implicitDefEqProofs only [go_sem, Nat.reduceBEq, Nat.reduceAdd, eq_self, true_and, and_true, and_self, List.getElem?_cons_zero, List.getElem?_cons_succ, Nat.reduceLeDiff, Nat.zero_add, Nat.reduceSub, Nat.le_refl, fmC]
      rw [i64_in _ (by omega)]; simp
    · simp only
      rw [htk]
      rw [List.append_assoc] at t3
      have : encTs (f.cs.take i |>.map putO) ++ encTs [putO g] = encTs ((f.cs.take i ++ [g]).map putO) := by simp [encTs]
      rw [this] at t3
      exact t3
  · have hi : ¬ i < f.cs.length := by simpa using hc
    rw [List.take_of_length_le (by omega)] at g4
    simp -implicitDefEqProofs only [go_sem, Nat.reduceBEq, Nat.reduceAdd, eq_self, true_and, and_true, and_self, List.getElem?_cons_zero, List.getElem?_cons_succ, Nat.reduceLeDiff, Nat.zero_add, Nat.reduceSub, Nat.le_refl, Nat.lt_irrefl]
    refine z2 _ _ _ ?_
    simp -implicitDefEqProofs only [go_sem, Nat.reduceBEq, Nat.reduceAdd, eq_self, true_and, and_true, and_self, List.getElem?_cons_zero, List.getElem?_cons_succ, Nat.reduceLeDiff, Nat.zero_add, Nat.reduceSub, Nat.le_refl, fmC]
    have htl := encTs_putO (l := f.cs) hI.cs
    refine call_at (rseal_ok (k := f.kind) (p := loadB f) g4 (by unfold loadB; rw [List.length_append]; omega)) ?_
    rintro w1 τ5 ⟨s1, s2, x, rfl, hx⟩
    refine ⟨kept_none, ?_⟩
    obtain ⟨xb, xR, xz, rfl, -, -⟩ := id hx
    simp -implicitDefEqProofs only [go_sem, Nat.reduceBEq, Nat.reduceAdd, eq_self, true_and, and_true, and_self, List.getElem?_cons_zero, List.getElem?_cons_succ, Nat.reduceLeDiff, Nat.zero_add, Nat.reduceSub, Nat.le_refl, Nat.lt_irrefl]
    refine q2 _ _ ?_
    simp -implicitDefEqProofs only [go_sem, Nat.reduceBEq, Nat.reduceAdd, eq_self, true_and, and_true, and_self, List.getElem?_cons_zero, List.getElem?_cons_succ, Nat.reduceLeDiff, Nat.zero_add, Nat.reduceSub, Nat.le_refl, cond_true, cond_false, Bool.true_or, Bool.false_or, Bool.or_true, Bool.or_false, Bool.and_true, Bool.and_false, Bool.true_and, Bool.false_and, Bool.or_self, Bool.and_self]
    exact ⟨g2.trans s1, s2.trans g3, _, rfl, hx⟩
end
end Go.VL.wire

namespace Go.VL.wire
open Go Go.VL Go.Proofs Go.IntWalk

theorem FreshS.mono {n m : Nat} {v : V} (h : FreshS n v) (hm : m ≤ n) : FreshS m v := by
  rcases h with h | ⟨q, z, es, h1, h2⟩
  · exact .inl h
  · exact .inr ⟨q, z, es, h1, Nat.le_trans hm h2⟩

section
variable {σ : St} {s : V} {bs : List UInt8} {st : RS} {l n ri nb rb : Nat}
set_option maxRecDepth 100000 in
set_option maxHeartbeats 1000000 in
theorem changes1_ok (J : Nat → RS → St → Prop) (K : St → Prop) (hn : n ≤ 1000000) (hlen : bs.length ≤ 1000000)
    (hJ : ∀ k st τ, J k st τ → τ.objs[rb]? = some (.cells [.ptr (some (ri, 0))]) ∧ RdrAt τ ri s bs st ∧ In bs st)
    (hY : ∀ k st τ τ1 d, J (k + 1) st τ → RdrAt τ1 ri s bs (txt bs 65536 st).2 → Upd ri τ τ1 → RdS τ1 d 1 (intsV .i64 (getG (txt bs 65536 st).1).deps) → FreshS τ.live.length d →
      YldA Try.prog l [cgV d (getG (txt bs 65536 st).1), .int .i64 (getI (txt bs 65536 st).1)] τ1 fun v τ2 =>
        v = .bool (decide (getI (txt bs 65536 st).1 = 0)) ∧ (getI (txt bs 65536 st).1 = 0 → J k (txt bs 65536 st).2 τ2) ∧ (getI (txt bs 65536 st).1 ≠ 0 → K τ2))
    (h0 : ∀ st τ, J 0 st τ → K τ) (hnb : σ.objs[nb]? = some (.cells [.int .i64 n])) (hst : J n st σ) :
    CallA Try.prog 76 [yv l, .ptr (some (nb, 0)), .ptr (some (rb, 0))] σ fun _ σ' => K σ' := by
  refine fn_at Try.func76 (by decide) comp76 rfl fun Q q1 q2 => ?_
  simp -implicitDefEqProofs only [go_sem, Nat.reduceBEq, Nat.reduceAdd, eq_self, true_and, and_true, and_self, List.getElem?_cons_zero, List.getElem?_cons_succ, Nat.reduceLeDiff, Nat.zero_add, Nat.reduceSub, Nat.le_refl, c76, hnb]
  refine loop_at (fun (i : Nat) => ⟨[(0, .v (yv l)), (2, .v (.ptr (some (rb, 0)))), (6, .v (.int .i64 n)), (7, .v (.int .i64 i))], []⟩)
    (fun i τ => i ≤ n ∧ ∃ st, J (n - i) st τ) (fun i => n - i) 0 ?_ ?_ ?_
  · refine .inr ?_
    simp -implicitDefEqProofs only [go_sem, Nat.reduceBEq, Nat.reduceAdd, eq_self, true_and, and_true, and_self, List.getElem?_cons_zero, List.getElem?_cons_succ, Nat.reduceLeDiff, Nat.zero_add, Nat.reduceSub, Nat.le_refl, Nat.lt_irrefl]
    try trivial
  · exact ⟨Nat.zero_le _, st, hst⟩
  rintro i τ ⟨g1, st, g2⟩ Z z1 z2 z3
  simp -implicitDefEqProofs only [go_sem, Nat.reduceBEq, Nat.reduceAdd, eq_self, true_and, and_true, and_self, List.getElem?_cons_zero, List.getElem?_cons_succ, Nat.reduceLeDiff, Nat.zero_add, Nat.reduceSub, Nat.le_refl, Nat.lt_irrefl]
  refine CondW_b (fun hc => ?_) (fun hc => ?_)
  · have hi : i < n := by simpa using hc
    obtain ⟨k, hk⟩ : ∃ k, n - i = k + 1 := ⟨n - i - 1, by omega⟩
    rw [hk] at g2
    obtain ⟨b1, b2, b3⟩ := hJ _ _ _ g2
    have ht := txt_len bs 65536 st
    simp -implicitDefEqProofs only [go_sem, Nat.reduceBEq, Nat.reduceAdd, eq_self, true_and, and_true, and_self, List.getElem?_cons_zero, List.getElem?_cons_succ, Nat.reduceLeDiff, Nat.zero_add, Nat.reduceSub, Nat.le_refl, b1]
    refine call_at (txt_at (m := 65536) b2 b3 (by omega)) ?_
    rintro v τ1 ⟨rfl, a1, a2⟩
    refine ⟨kept_none, ?_⟩
    simp -implicitDefEqProofs only [go_sem, Nat.reduceBEq, Nat.reduceAdd, eq_self, true_and, and_true, and_self, List.getElem?_cons_zero, List.getElem?_cons_succ, Nat.reduceLeDiff, Nat.zero_add, Nat.reduceSub, Nat.le_refl, Nat.lt_irrefl]
    refine call_at (get_ok (bs := (txt bs 65536 st).1) ⟨_, _, _, rfl, by simp, .inr ⟨live_last _ _, rfl⟩⟩ (by omega)) ?_
    rintro v τ2 ⟨a3, d, rfl, a4, a5⟩
    refine ⟨kept_none, ?_⟩
    obtain ⟨db, dR, dz, rfl, -, -⟩ := id a4
    simp -implicitDefEqProofs only [go_sem, Nat.reduceBEq, Nat.reduceAdd, eq_self, true_and, and_true, and_self, List.getElem?_cons_zero, List.getElem?_cons_succ, Nat.reduceLeDiff, Nat.zero_add, Nat.reduceSub, Nat.le_refl, cgV, cgC]
    have e3 := (ext_live τ1 true).trans a3
    refine yld_at (hY k st τ τ2 (.sl db dR dz (intsV .i64 (getG (txt bs 65536 st).1).deps)) g2 (a1.ext e3) (a2.trans (Upd.of_ext e3)) a4 (a5.mono (by have := a2.llen; simp; omega))) ?_
    rintro v τ3 ⟨rfl, c1, c2⟩
    refine ⟨kept_none, ?_⟩
    cases h : decide (getI (txt bs 65536 st).1 = 0)
    · simp -implicitDefEqProofs only [go_sem, Nat.reduceBEq, Nat.reduceAdd, eq_self, true_and, and_true, and_self, List.getElem?_cons_zero, List.getElem?_cons_succ, Nat.reduceLeDiff, Nat.zero_add, Nat.reduceSub, Nat.le_refl, h]
      refine z3 _ _ ?_
      simp -implicitDefEqProofs only [go_sem, Nat.reduceBEq, Nat.reduceAdd, eq_self, true_and, and_true, and_self, List.getElem?_cons_zero, List.getElem?_cons_succ, Nat.reduceLeDiff, Nat.zero_add, Nat.reduceSub, Nat.le_refl, Nat.lt_irrefl]
      refine q2 _ _ ?_
      simp -implicitDefEqProofs only [go_sem, Nat.reduceBEq, Nat.reduceAdd, eq_self, true_and, and_true, and_self, List.getElem?_cons_zero, List.getElem?_cons_succ, Nat.reduceLeDiff, Nat.zero_add, Nat.reduceSub, Nat.le_refl, Nat.lt_irrefl]
      exact c2 (of_decide_eq_false h)
    · simp -implicitDefEqProofs only [go_sem, Nat.reduceBEq, Nat.reduceAdd, eq_self, true_and, and_true, and_self, List.getElem?_cons_zero, List.getElem?_cons_succ, Nat.reduceLeDiff, Nat.zero_add, Nat.reduceSub, Nat.le_refl, h]
      refine z1 (i + 1) _ _ (.inr ?_) (by omega) ⟨by omega, (txt bs 65536 st).2, ?_⟩
      · simp -implicitDefEqProofs only [go_sem, Nat.reduceBEq, Nat.reduceAdd, eq_self, true_and, and_true, and_self, List.getElem?_cons_zero, List.getElem?_cons_succ, Nat.reduceLeDiff, Nat.zero_add, Nat.reduceSub, Nat.le_refl, Nat.lt_irrefl]
        rw [i64_in _ (by omega)]; simp
      · have : n - (i + 1) = k := by omega
        rw [this]
        exact c1 (of_decide_eq_true h)
  · have hi : i = n := by have : ¬ i < n := by simpa using hc
                          omega
    subst hi
    rw [Nat.sub_self] at g2
    simp -implicitDefEqProofs only [go_sem, Nat.reduceBEq, Nat.reduceAdd, eq_self, true_and, and_true, and_self, List.getElem?_cons_zero, List.getElem?_cons_succ, Nat.reduceLeDiff, Nat.zero_add, Nat.reduceSub, Nat.le_refl, Nat.lt_irrefl]
    refine z2 _ _ _ ?_
    simp -implicitDefEqProofs only [go_sem, Nat.reduceBEq, Nat.reduceAdd, eq_self, true_and, and_true, and_self, List.getElem?_cons_zero, List.getElem?_cons_succ, Nat.reduceLeDiff, Nat.zero_add, Nat.reduceSub, Nat.le_refl, Nat.lt_irrefl]
    refine q1 _ _ ?_
    simp -implicitDefEqProofs only [go_sem, Nat.reduceBEq, Nat.reduceAdd, eq_self, true_and, and_true, and_self, List.getElem?_cons_zero, List.getElem?_cons_succ, Nat.reduceLeDiff, Nat.zero_add, Nat.reduceSub, Nat.le_refl, Nat.lt_irrefl]
    exact h0 _ _ g2
end
end Go.VL.wire

namespace Go.VL.wire
open Go Go.VL Go.Proofs Go.IntWalk

/-- The changes that are texts one behind the other. -/
def chs (bs : List UInt8) (m : Int) : Nat → RS → Option (List Cg × RS)
  | 0, st => some ([], st)
  | k + 1, st => bif decide (getI (txt bs m st).1 = 0) then (chs bs m k (txt bs m st).2).map (fun x => (getG (txt bs m st).1 :: x.1, x.2)) else none
def h2 (bs : List UInt8) : RS := (nums bs (num bs (0, 0, 0)).2).2
def h3 (bs : List UInt8) : RS := (cnt bs 1 (h2 bs)).2
def h4 (bs : List UInt8) : RS := (cnt bs 64 (h3 bs)).2
def hN (bs : List UInt8) : Nat := (cnt bs 64 (h3 bs)).1
def rdFm (k : Int) (ld : List UInt8) (cs : List Cg) : Fm := ⟨k, (num ld (0, 0, 0)).1, intsN (nums ld (num ld (0, 0, 0)).2).1, decide (((cnt ld 1 (h2 ld)).1 : Int) = 1), cs⟩
def zeroF : Fm := ⟨0, 0, [], false, []⟩
def readB (p : List UInt8) : Option Fm := (chs (openL p) 65536 (hN (openL p)) (h4 (openL p))).bind fun x =>
  bif decide (doneO (openL p) x.2 = 0) && decide (fchkI (rdFm (openK p) (openL p) x.1) = 0) then some (rdFm (openK p) (openL p) x.1) else none
def readF (p : List UInt8) : Fm := bif decide (openE p = 0) then (readB p).getD zeroF else zeroF
def readI (p : List UInt8) : Int := bif decide (openE p = 0) then (bif (readB p).isSome then 0 else 2) else openE p

/-- What they are. -/
theorem chs_is {bs : List UInt8} {m : Int} : ∀ (k : Nat) (st : RS) {x : List Cg × RS}, chs bs m k st = some x → x.1.length = k ∧ ∀ g ∈ x.1, Ok g ∧ CgI g
  | 0, st, x, h => by
    simp only [chs, Option.some.injEq] at h
    subst h
    exact ⟨rfl, by simp⟩
  | k + 1, st, x, h => by
    rw [chs] at h
    cases hc : decide (getI (txt bs m st).1 = 0) <;> rw [hc] at h
    · simp at h
    · simp only [cond_true, Option.map_eq_some_iff] at h
      obtain ⟨y, h1, rfl⟩ := h
      obtain ⟨h2, h3⟩ := chs_is k _ h1
      have hb : getB (txt bs m st).1 = true := by
        have := of_decide_eq_true hc
        unfold getI at this
        cases hb : getB (txt bs m st).1 with
        | true => rfl
        | false => rw [hb] at this; simp at this
      have hi := get_is hb
      have hg := (is_get hi).2.1
      refine ⟨by simp [h2], fun g hm => ?_⟩
      rcases List.mem_cons.1 hm with rfl | hm
      · rw [hg]; exact ⟨hi.1, hi.2.1⟩
      · exact h3 g hm
/-- A frame, under rights that are not older. -/
def FrsF (n : Nat) (σ : St) (c v : V) (f : Fm) : Prop := FreshS n c ∧ RdS σ c 1 (intsV .i64 f.clock) ∧ ∃ l : List (V × Cg), l.map (·.2) = f.cs ∧ RdS σ v 13 (cgsV l) ∧ FreshS n v ∧ ∀ p ∈ l, RdS σ p.1 1 (intsV .i64 p.2.deps) ∧ FreshS n p.1
theorem FrsF.rd {n : Nat} {σ : St} {c v : V} {f : Fm} (h : FrsF n σ c v f) : RdF σ c v f := by
  obtain ⟨-, h1, l, h2, h3, -, h4⟩ := h
  exact ⟨h1, l, h2, h3, fun p hp => (h4 p hp).1⟩
theorem frsF_zero {n : Nat} {σ : St} {f : Fm} (h1 : f.clock = []) (h2 : f.cs = []) : FrsF n σ (.sl true .pub 0 []) (.sl true .pub 0 []) f :=
  ⟨.inl ⟨_, rfl⟩, by rw [h1]; exact ⟨true, .pub, 0, rfl, by simp [intsV], .inl rfl⟩, [], h2.symm, ⟨_, _, _, rfl, by simp [cgsV], .inl rfl⟩, .inl ⟨_, rfl⟩, by simp⟩
/-- A right that is older may go. -/
theorem fresh_but {n q : Nat} {σ : St} {v : V} {s : Nat} {es : List (List V)} (h : RdS σ v s es) (hf : FreshS n v) (hq : q < n) : RdS (St.but σ q) v s es := by
  obtain ⟨b, R, z, rfl, h6, h7⟩ := h
  rcases hf with ⟨z', hz⟩ | ⟨q', z', es', hz, hle⟩
  · simp only [V.sl.injEq] at hz
    obtain ⟨rfl, rfl, rfl, -⟩ := hz
    exact ⟨_, _, _, rfl, h6, .inl rfl⟩
  · simp only [V.sl.injEq] at hz
    obtain ⟨rfl, rfl, rfl, -⟩ := hz
    rcases h7 with h7 | ⟨h7, h8⟩
    · cases h7
    · refine ⟨_, _, _, rfl, h6, .inr ⟨?_, h8⟩⟩
      show (σ.live.set q false)[q']? = _
      rw [List.getElem?_set_ne (by omega)]; exact h7
theorem FrsF.but {n q : Nat} {σ : St} {c v : V} {f : Fm} (h : FrsF n σ c v f) (hq : q < n) : RdF (St.but σ q) c v f := by
  obtain ⟨h0, h1, l, h2, h3, h5, h4⟩ := h
  exact ⟨fresh_but h1 h0 hq, l, h2, fresh_but h3 h5 hq, fun p hp => fresh_but (h4 p hp).1 (h4 p hp).2 hq⟩
/-- What may be read though one more right goes. -/
def Sep (n : Nat) (τ : St) (w : V) (l : List (V × Cg)) (us : List (V × List (List V))) : Prop :=
  ((∃ z, w = .sl true .pub z []) ∧ l = [] ∧ ∀ u ∈ us, RdS τ u.1 1 u.2) ∨
  ∃ q, w = .sl false (.own q) 13 (cgsV l) ∧ τ.live[q]? = some true ∧ n ≤ q ∧ Rds (St.but τ q) l ∧ (∀ u ∈ us, RdS (St.but τ q) u.1 1 u.2) ∧ ∀ p ∈ l, FreshS n p.1

theorem but_lv {τ τ1 : St} (h : ∀ (r : Nat), τ.live[r]? = some true → τ1.live[r]? = some true) (q : Nat) : ∀ (r : Nat), (St.but τ q).live[r]? = some true → (St.but τ1 q).live[r]? = some true := by
  intro r hr
  obtain ⟨h1, h2⟩ := live_but hr
  have h3 := h r h2
  show (τ1.live.set q false)[r]? = _
  rw [List.getElem?_set_ne (Ne.symm h1)]; exact h3
theorem Sep.lv {n : Nat} {τ τ1 : St} {w : V} {l : List (V × Cg)} {us : List (V × List (List V))} (h : Sep n τ w l us) (hl : ∀ (r : Nat), τ.live[r]? = some true → τ1.live[r]? = some true) : Sep n τ1 w l us := by
  rcases h with ⟨h1, h2, h3⟩ | ⟨q, h1, h2, h3, h4, h5, h6⟩
  · exact .inl ⟨h1, h2, fun u hu => rd_lv (h3 u hu) hl⟩
  · exact .inr ⟨q, h1, hl q h2, h3, fun p hp => rd_lv (h4 p hp) (but_lv hl q), fun u hu => rd_lv (h5 u hu) (but_lv hl q), h6⟩
theorem Sep.rds {n : Nat} {τ : St} {w : V} {l : List (V × Cg)} {us : List (V × List (List V))} (h : Sep n τ w l us) : (∀ u ∈ us, RdS τ u.1 1 u.2) ∧ RdC τ w (l.map (·.2)) := by
  rcases h with ⟨⟨z, rfl⟩, rfl, h3⟩ | ⟨q, rfl, h2, h3, h4, h5, h6⟩
  · exact ⟨h3, [], rfl, ⟨_, _, _, rfl, by simp [cgsV], .inl rfl⟩, by intro p hp; simp at hp⟩
  · exact ⟨fun u hu => (h5 u hu).ext (but_ext _ _), l, rfl, ⟨_, _, _, rfl, by simp, .inr ⟨h2, rfl⟩⟩, h4.ext (but_ext _ _)⟩
theorem Sep.frs {n : Nat} {τ : St} {w : V} {l : List (V × Cg)} {us : List (V × List (List V))} (h : Sep n τ w l us) : RdS τ w 13 (cgsV l) ∧ FreshS n w ∧ ∀ p ∈ l, RdS τ p.1 1 (intsV .i64 p.2.deps) ∧ FreshS n p.1 := by
  rcases h with ⟨⟨z, rfl⟩, rfl, h3⟩ | ⟨q, rfl, h2, h3, h4, h5, h6⟩
  · exact ⟨⟨_, _, _, rfl, by simp [cgsV], .inl rfl⟩, .inl ⟨_, rfl⟩, by simp⟩
  · exact ⟨⟨_, _, _, rfl, by simp, .inr ⟨h2, rfl⟩⟩, .inr ⟨_, _, _, rfl, h3⟩, fun p hp => ⟨(h4 p hp).ext (but_ext _ _), h6 p hp⟩⟩
/-- One more change behind. -/
theorem Sep.app {n m : Nat} {τ : St} {w d : V} {g : Cg} {l : List (V × Cg)} {us : List (V × List (List V))} (h : Sep n τ w l us) (hd : RdS τ d 1 (intsV .i64 g.deps)) (hf : FreshS m d) (hn : n ≤ τ.live.length) (hnm : n ≤ m)
    (hm : ∀ q, w = .sl false (.own q) 13 (cgsV l) → q < m) :
    ∃ b R z, w = .sl b R z (cgsV l) ∧ (b = true ∨ z = 13) ∧ (St.ow ⟨τ.objs, τ.live ++ [true]⟩ b R) ∧ (b = true → l = []) ∧ (kill (τ.live ++ [true]) R).length = τ.live.length + 1 ∧ (∀ r, r < n → τ.live[r]? = some true → (kill (τ.live ++ [true]) R ++ [true])[r]? = some true) ∧
      Sep n ⟨τ.objs, kill (τ.live ++ [true]) R ++ [true]⟩ (.sl false (.own (τ.live ++ [true]).length) 13 (cgsV (l ++ [(d, g)]))) (l ++ [(d, g)]) us := by
  have hfm : FreshS n d := hf.mono hnm
  rcases h with ⟨⟨z, rfl⟩, rfl, h3⟩ | ⟨q, rfl, h2, h3, h4, h5, h6⟩
  · have e : Ext τ (St.but ⟨τ.objs, kill (τ.live ++ [true]) .pub ++ [true]⟩ (τ.live ++ [true]).length) := by
      refine ⟨fun _ _ h => h, fun r hr => ?_, Nat.le_refl _, by simp [St.but, kill]⟩
      have hlt := (List.getElem?_eq_some_iff.1 hr).1
      show ((τ.live ++ [true] ++ [true]).set _ false)[r]? = _
      rw [List.getElem?_set_ne (by simp; omega), List.getElem?_append_left (by simp; omega), List.getElem?_append_left hlt]; exact hr
    refine ⟨true, .pub, z, rfl, .inl rfl, rfl, fun _ => rfl, by simp [kill], fun r hr h => ?_, .inr ⟨_, rfl, by simp only [kill]; exact live_last _ _, by simp; omega, ?_, fun u hu => (h3 u hu).ext e, by simp only [List.nil_append, List.mem_singleton]; rintro p rfl; exact hfm⟩⟩
    · have hlt := (List.getElem?_eq_some_iff.1 h).1
      show (τ.live ++ [true] ++ [true])[r]? = _
      rw [List.getElem?_append_left (by simp; omega), List.getElem?_append_left hlt]; exact h
    · intro p hp
      simp only [List.nil_append, List.mem_singleton] at hp
      subst hp
      exact hd.ext e
  · have hqm := hm q rfl
    have hq := (List.getElem?_eq_some_iff.1 h2).1
    have e := but_app (q := q) (Ext.refl τ)
    refine ⟨false, .own q, 13, rfl, .inr rfl, .inr ((ext_live τ true).live _ h2), by simp, by simp [kill], fun r hr h => ?_, .inr ⟨_, rfl, live_last' _ _ _, by simp; omega, ?_, fun u hu => (h5 u hu).ext e, fun p hp => ?_⟩⟩
    · have hlt := (List.getElem?_eq_some_iff.1 h).1
      show (((τ.live ++ [true]).set q false) ++ [true])[r]? = _
      rw [List.getElem?_append_left (by simp; omega), List.getElem?_set_ne (by omega), List.getElem?_append_left hlt]; exact h
    · intro p hp
      rcases List.mem_append.1 hp with hp | hp
      · exact (h4 p hp).ext e
      · simp only [List.mem_singleton] at hp
        subst hp
        have hb : RdS (St.but τ q) d 1 (intsV .i64 g.deps) := by
          obtain ⟨b, R, z, rfl, h6, h7⟩ := hd
          rcases hf with ⟨z', hz⟩ | ⟨q', z', es', hz, hle⟩
          · simp only [V.sl.injEq] at hz
            obtain ⟨rfl, rfl, rfl, -⟩ := hz
            exact ⟨_, _, _, rfl, h6, .inl rfl⟩
          · simp only [V.sl.injEq] at hz
            obtain ⟨rfl, rfl, rfl, -⟩ := hz
            rcases h7 with h7 | ⟨h7, h8⟩
            · cases h7
            · refine ⟨_, _, _, rfl, h6, .inr ⟨?_, h8⟩⟩
              show (τ.live.set q false)[q']? = _
              rw [List.getElem?_set_ne (by omega)]; exact h7
        exact hb.ext e
    · rcases List.mem_append.1 hp with hp | hp
      · exact h6 p hp
      · simp only [List.mem_singleton] at hp
        subst hp; exact hfm

section
variable {σ : St} {ri n : Nat}
set_option maxRecDepth 100000 in
theorem changes_ok : CallA Try.prog 55 [.ptr (some (ri, 0)), .int .i64 n] σ fun v σ' => σ' = ⟨σ.objs ++ [.cells [.ptr (some (ri, 0))]] ++ [.cells [.int .i64 n]], σ.live⟩ ∧
    v = .fn 76 [.ptr (some ((σ.objs ++ [AObj.cells [.ptr (some (ri, 0))]]).length, 0)), .ptr (some (σ.objs.length, 0))] := by
  refine fn_at Try.func55 (by decide) comp55 rfl fun Q q1 q2 => ?_
  simp -implicitDefEqProofs only [go_sem, Nat.reduceBEq, Nat.reduceAdd, eq_self, true_and, and_true, and_self, List.getElem?_cons_zero, List.getElem?_cons_succ, Nat.reduceLeDiff, Nat.zero_add, Nat.reduceSub, Nat.le_refl, c55]
  refine q2 _ _ ?_
  simp -implicitDefEqProofs only [go_sem, Nat.reduceBEq, Nat.reduceAdd, eq_self, true_and, and_true, and_self, List.getElem?_cons_zero, List.getElem?_cons_succ, Nat.reduceLeDiff, Nat.zero_add, Nat.reduceSub, Nat.le_refl, Nat.lt_irrefl]
  try exact ⟨rfl, rfl⟩
theorem changes_ok' : CallA Try.prog 55 [.ptr (some (ri, 0)), .int .i64 n] σ fun v σ' => ∃ rb nb, v = .fn 76 [.ptr (some (nb, 0)), .ptr (some (rb, 0))] ∧ Ext σ σ' ∧ σ.objs.length ≤ rb ∧ σ.objs.length ≤ nb ∧
    σ'.objs[rb]? = some (.cells [.ptr (some (ri, 0))]) ∧ σ'.objs[nb]? = some (.cells [.int .i64 n]) := by
  refine changes_ok.mono ?_
  rintro v σ' ⟨rfl, rfl⟩
  refine ⟨_, _, rfl, (ext_obj σ _).trans (ext_obj _ _), Nat.le_refl _, by simp, ?_, by simp⟩
  exact (ext_obj ⟨σ.objs ++ [.cells [.ptr (some (ri, 0))]], σ.live⟩ (.cells [.int .i64 n])).objs σ.objs.length (.cells [.ptr (some (ri, 0))]) (by simp)
theorem alH_st {o : List AObj} {L : List Bool} {z cs : List V} : (⟨o ++ [.cells z], L⟩ : St).setC o.length cs = ⟨o ++ [.cells cs], L⟩ := by simp [St.setC]
theorem alH_get {o : List AObj} {x : AObj} : (o ++ [x])[o.length]? = some x := by simp
end
end Go.VL.wire

namespace Go.VL.wire
open Go Go.VL Go.Proofs Go.IntWalk

theorem openL_len (p : List UInt8) : (openL p).length ≤ p.length := by
  unfold openL
  cases badF p || badS p
  · simp only [cond_false, List.length_take, List.length_drop]; omega
  · simp
theorem openE_ok {p : List UInt8} (h : openE p = 0) : badF p = false ∧ badS p = false := by
  unfold openE at h
  cases h1 : badF p <;> rw [h1] at h
  · cases h2 : badS p <;> rw [h2] at h
    · exact ⟨rfl, rfl⟩
    · simp at h
  · simp at h
theorem openL_65 {p : List UInt8} (h : openE p = 0) : (openL p).length ≤ 65536 := by
  obtain ⟨h1, h2⟩ := openE_ok h
  unfold openL
  rw [h1, h2]
  unfold badF at h1
  simp only [Bool.or_eq_false_iff, decide_eq_false_iff_not, Bool.not_eq_false', decide_eq_true_eq] at h1
  simp only [Bool.or_self, cond_false, List.length_take, List.length_drop]
  omega
theorem alH_step (τ : St) (o : AObj) : Ext τ ⟨τ.objs ++ [o], τ.live⟩ ∧ (⟨τ.objs ++ [o], τ.live⟩ : St).objs[τ.objs.length]? = some o := ⟨ext_obj τ o, alH_get⟩
theorem setA_ne {τ : St} {i j : Nat} {o : AObj} (h : j ≠ i) : (τ.setA i o).objs[j]? = τ.objs[j]? := by
  show (τ.objs.set i o)[j]? = _
  rw [List.getElem?_set_ne (Ne.symm h)]
theorem setA_at {τ : St} {i : Nat} {o o' : AObj} (h : τ.objs[i]? = some o') : (τ.setA i o).objs[i]? = some o := by
  show (τ.objs.set i o)[i]? = _
  rw [List.getElem?_set_self (List.getElem?_eq_some_iff.1 h).1]
theorem ext_setA {σ τ : St} (h : Ext σ τ) {i : Nat} (hi : σ.objs.length ≤ i) {o : AObj} : Ext σ (τ.setA i o) :=
  ⟨fun j x hj => by
    have h1 := (List.getElem?_eq_some_iff.1 hj).1
    rw [setA_ne (by omega)]
    exact h.objs _ _ hj, h.live, by
    show σ.objs.length ≤ (τ.objs.set i _).length
    rw [List.length_set]; exact h.olen, h.llen⟩
theorem setC_ne {τ : St} {i j : Nat} {cs : List V} (h : j ≠ i) : (τ.setC i cs).objs[j]? = τ.objs[j]? := setA_ne (o := .cells cs) h
theorem rdr_setA {τ : St} {ri i : Nat} {s : V} {bs : List UInt8} {st : RS} {o : AObj} (h : RdrAt τ ri s bs st) (hi : ri ≠ i) : RdrAt (τ.setA i o) ri s bs st := ⟨by rw [setA_ne hi]; exact h.1, rd_lv h.2 fun _ h => h⟩
def z5 : List V := [.int .i64 0, .int .i64 0, .sl true .pub 0 [], .bool false, .sl true .pub 0 []]

section
variable {σ : St} {v : V} {p : List UInt8}
set_option maxRecDepth 100000 in
set_option maxHeartbeats 4000000 in
theorem read_ok (hv : RdS σ v 1 (bytesV p)) (hlen : p.length ≤ 100000000) :
    CallA Try.prog 24 [v] σ fun w σ' => Ext σ σ' ∧ ∃ c x, w = .tup [fmV c x (readF p), .int .i64 (readI p)] ∧ FrsF σ.live.length σ' c x (readF p) := by
  refine fn_at Try.func24 (by decide) comp24 rfl fun Q q1 q2 => ?_
  clear q1
  simp -implicitDefEqProofs only [go_sem, Nat.reduceBEq, Nat.reduceAdd, eq_self, true_and, and_true, and_self, List.getElem?_cons_zero, List.getElem?_cons_succ, Nat.reduceLeDiff, Nat.zero_add, Nat.reduceSub, Nat.le_refl, c24]
  refine call_at (open_ok hv hlen) ?_
  rintro w τ0 ⟨e0, o0, x, rfl, hx⟩
  refine ⟨kept_none, ?_⟩
  have q3 : ∀ (F : Fr) (σ' : St) (c y : V), lget 2 F.l = some (fmC c y (readF p)) → sget 2 F.s = .loc 2 0 → sget 3 F.s = .v (.int .i64 (readI p)) → Ext σ σ' → FrsF σ.live.length σ' c y (readF p) → Q .ret F σ' := by
    intro F σ' c y h1 h2 h3 h4 h5
    refine q2 _ _ ?_
    have hs : ∀ x, sget 0 (sset 0 x F.s) = x := fun x => by simp [sget_sset]
    simp -implicitDefEqProofs only [go_sem, Nat.reduceBEq, Nat.reduceAdd, eq_self, true_and, and_true, and_self, List.getElem?_cons_zero, List.getElem?_cons_succ, Nat.reduceLeDiff, Nat.zero_add, Nat.reduceSub, Nat.le_refl, h1, h2, h3, hs, fmC]
    exact ⟨h4, c, y, rfl, h5⟩
  clear q2
  cases hE : decide (openE p = 0)
  case false =>
    have hF : readF p = zeroF := by unfold readF; rw [hE]; rfl
    have hI : readI p = openE p := by unfold readI; rw [hE]; rfl
    simp -implicitDefEqProofs only [go_sem, Nat.reduceBEq, Nat.reduceAdd, eq_self, true_and, and_true, and_self, List.getElem?_cons_zero, List.getElem?_cons_succ, Nat.reduceLeDiff, Nat.zero_add, Nat.reduceSub, Nat.le_refl, hE]
    refine q3 _ _ (.sl true .pub 0 []) (.sl true .pub 0 []) ?_ rfl (by rw [hI]; rfl) e0 ?_
    · rw [hF]; rfl
    · rw [hF]; exact frsF_zero rfl rfl
  have hE' := of_decide_eq_true hE
  have hl65 := openL_65 hE'
  have hF : readF p = (readB p).getD zeroF := by unfold readF; rw [hE]; rfl
  have hI : readI p = bif (readB p).isSome then 0 else 2 := by unfold readI; rw [hE]; rfl
  have hB : readB p = (chs (openL p) 65536 (hN (openL p)) (h4 (openL p))).bind fun x =>
    bif decide (doneO (openL p) x.2 = 0) && decide (fchkI (rdFm (openK p) (openL p) x.1) = 0) then some (rdFm (openK p) (openL p) x.1) else none := rfl
  generalize openL p = ld at hx hl65 hB
  obtain ⟨xb, xR, xz, rfl, -, -⟩ := id hx
  simp -implicitDefEqProofs only [go_sem, Nat.reduceBEq, Nat.reduceAdd, eq_self, true_and, and_true, and_self, List.getElem?_cons_zero, List.getElem?_cons_succ, Nat.reduceLeDiff, Nat.zero_add, Nat.reduceSub, Nat.le_refl, hE]
  refine call_at (new_ok hx (by omega)) ?_
  rintro w τ ⟨e1, rfl, ⟨s, hr1, hr2⟩, lo, hto⟩
  refine ⟨kept_none, ?_⟩
  have hr : RdrAt τ τ0.objs.length s ld (0, 0, 0) := ⟨hr1, hr2⟩
  have hri := e0.olen
  have eE := e0.trans e1
  generalize τ0.objs.length = ri at hr hri
  clear hr1 hr2 hto lo hx e1 e0 o0
  simp -implicitDefEqProofs only [go_sem, Nat.reduceBEq, Nat.reduceAdd, eq_self, true_and, and_true, and_self, List.getElem?_cons_zero, List.getElem?_cons_succ, Nat.reduceLeDiff, Nat.zero_add, Nat.reduceSub, Nat.le_refl, Nat.lt_irrefl]
  refine call_at (num_at hr (in0 ld) (by omega)) ?_
  rintro w τ1 ⟨rfl, hr, u1⟩
  refine ⟨kept_none, ?_⟩
  have i1 : In ld (num ld (0, 0, 0)).2 := (in0 ld).num
  have eE := u1.ext σ eE hri
  have hlc := eE.llen
  simp -implicitDefEqProofs only [go_sem, Nat.reduceBEq, Nat.reduceAdd, eq_self, true_and, and_true, and_self, List.getElem?_cons_zero, List.getElem?_cons_succ, Nat.reduceLeDiff, Nat.zero_add, Nat.reduceSub, Nat.le_refl, Nat.lt_irrefl]
  refine call_at (nums_at hr i1 (by omega)) ?_
  rintro c τ2 ⟨hc, hfr, hr, u2⟩
  have hr : RdrAt τ2 ri s ld (h2 ld) := hr
  have i2 : In ld (h2 ld) := In.numsN _ i1.cnt
  have eE := u2.ext σ eE hri
  refine ⟨kept_none, ?_⟩
  obtain ⟨cb, cR, cz, rfl, -, -⟩ := id hc
  have hfr : FreshS σ.live.length (.sl cb cR cz (intsV .i64 (intsN (nums ld (num ld (0, 0, 0)).2).1))) := hfr.mono hlc
  clear u1 u2
  have hfi : ri < τ2.objs.length := (List.getElem?_eq_some_iff.1 hr.1).1
  have hfo := eE.olen
  simp -implicitDefEqProofs only [go_sem, Nat.reduceBEq, Nat.reduceAdd, eq_self, true_and, and_true, and_self, List.getElem?_cons_zero, List.getElem?_cons_succ, Nat.reduceLeDiff, Nat.zero_add, Nat.reduceSub, Nat.le_refl, alH_get, alH_st]
  obtain ⟨e23, hf3⟩ := alH_step τ2 (.cells [.int .i64 (openK p), .int .i64 (num ld (0, 0, 0)).1, .sl cb cR cz (intsV .i64 (intsN (nums ld (num ld (0, 0, 0)).2).1)), .bool false, .sl true .pub 0 []])
  generalize (⟨τ2.objs ++ [AObj.cells [.int .i64 (openK p), .int .i64 (num ld (0, 0, 0)).1, .sl cb cR cz (intsV .i64 (intsN (nums ld (num ld (0, 0, 0)).2).1)), .bool false, .sl true .pub 0 []]], τ2.live⟩ : St) = τ3 at e23 hf3 ⊢
  have hr := hr.ext e23
  have hc := hc.ext e23
  have eE := eE.trans e23
  generalize τ2.objs.length = fi at hfi hfo hf3 ⊢
  clear e23
  refine call_at (cnt_at (m := 1) hr i2 (by omega)) ?_
  rintro w τ4 ⟨rfl, hr, u⟩
  have hr : RdrAt τ4 ri s ld (h3 ld) := hr
  have i3 : In ld (h3 ld) := i2.cnt
  have eE := u.ext σ eE hri
  have hf4 := u.objs _ _ (by omega) hf3
  have hc := rd_upd hc u
  refine ⟨kept_none, ?_⟩
  clear u hf3
  have hflt := (List.getElem?_eq_some_iff.1 hf4).1
  simp -implicitDefEqProofs only [go_sem, Nat.reduceBEq, Nat.reduceAdd, eq_self, true_and, and_true, and_self, List.getElem?_cons_zero, List.getElem?_cons_succ, Nat.reduceLeDiff, Nat.zero_add, Nat.reduceSub, Nat.le_refl, hf4]
  have hf5 : (τ4.setC fi [.int .i64 (openK p), .int .i64 (num ld (0, 0, 0)).1, .sl cb cR cz (intsV .i64 (intsN (nums ld (num ld (0, 0, 0)).2).1)), .bool (decide (((cnt ld 1 (h2 ld)).1 : Int) = 1)), .sl true .pub 0 []]).objs[fi]? = some (.cells [.int .i64 (openK p), .int .i64 (num ld (0, 0, 0)).1, .sl cb cR cz (intsV .i64 (intsN (nums ld (num ld (0, 0, 0)).2).1)), .bool (decide (((cnt ld 1 (h2 ld)).1 : Int) = 1)), .sl true .pub 0 []]) := setC_get hflt
  have eE := ext_set eE hfo (cs := [.int .i64 (openK p), .int .i64 (num ld (0, 0, 0)).1, .sl cb cR cz (intsV .i64 (intsN (nums ld (num ld (0, 0, 0)).2).1)), .bool (decide (((cnt ld 1 (h2 ld)).1 : Int) = 1)), .sl true .pub 0 []])
  have u5 := Upd.setC τ4 fi [.int .i64 (openK p), .int .i64 (num ld (0, 0, 0)).1, .sl cb cR cz (intsV .i64 (intsN (nums ld (num ld (0, 0, 0)).2).1)), .bool (decide (((cnt ld 1 (h2 ld)).1 : Int) = 1)), .sl true .pub 0 []]
  have hc := rd_upd hc u5
  have hr : RdrAt (τ4.setC fi [.int .i64 (openK p), .int .i64 (num ld (0, 0, 0)).1, .sl cb cR cz (intsV .i64 (intsN (nums ld (num ld (0, 0, 0)).2).1)), .bool (decide (((cnt ld 1 (h2 ld)).1 : Int) = 1)), .sl true .pub 0 []]) ri s ld (h3 ld) := ⟨u5.objs _ _ (by omega) hr.1, rd_upd hr.2 u5⟩
  generalize τ4.setC fi [.int .i64 (openK p), .int .i64 (num ld (0, 0, 0)).1, .sl cb cR cz (intsV .i64 (intsN (nums ld (num ld (0, 0, 0)).2).1)), .bool (decide (((cnt ld 1 (h2 ld)).1 : Int) = 1)), .sl true .pub 0 []] = τ5 at hf5 eE hr hc u5 ⊢
  clear u5 hf4
  simp -implicitDefEqProofs only [go_sem, Nat.reduceBEq, Nat.reduceAdd, eq_self, true_and, and_true, and_self, List.getElem?_cons_zero, List.getElem?_cons_succ, Nat.reduceLeDiff, Nat.zero_add, Nat.reduceSub, Nat.le_refl, alH_get, alH_st]
  have hbi : fi < τ5.objs.length := (List.getElem?_eq_some_iff.1 hf5).1
  obtain ⟨e56, hb6⟩ := alH_step τ5 (.cells [.bool false])
  generalize (⟨τ5.objs ++ [AObj.cells [.bool false]], τ5.live⟩ : St) = τ6 at e56 hb6 ⊢
  have hr := hr.ext e56
  have hc := hc.ext e56
  have hbo := eE.olen
  have eE := eE.trans e56
  have hf6 := e56.objs _ _ hf5
  generalize τ5.objs.length = bi at hb6 hbi hbo ⊢
  clear e56 hf5
  refine cut_at (fun G τ => G = ⟨[(7, .v (.ptr (some (ri, 0)))), (8, .v (.ptr (some (fi, 0)))), (9, .v (.ptr (some (bi, 0)))), (2, .loc 2 0)], [(2, z5)]⟩ ∧ Ext σ τ ∧
    ((∃ x l w, chs ld 65536 (hN ld) (h4 ld) = some x ∧ l.map (·.2) = x.1 ∧ τ.objs[fi]? = some (.cells [.int .i64 (openK p), .int .i64 (num ld (0, 0, 0)).1, .sl cb cR cz (intsV .i64 (intsN (nums ld (num ld (0, 0, 0)).2).1)), .bool (decide (((cnt ld 1 (h2 ld)).1 : Int) = 1)), w]) ∧ τ.objs[bi]? = some (.cells [.bool false]) ∧ RdrAt τ ri s ld x.2 ∧ In ld x.2 ∧ Sep σ.live.length τ w l [(.sl cb cR cz (intsV .i64 (intsN (nums ld (num ld (0, 0, 0)).2).1)), intsV .i64 (intsN (nums ld (num ld (0, 0, 0)).2).1)), (s, bytesV ld)]) ∨
     chs ld 65536 (hN ld) (h4 ld) = none ∧ τ.objs[bi]? = some (.cells [.bool true]))) ?_ ?_
  · intro Z z1 z2 z3
    simp -implicitDefEqProofs only [go_sem, Nat.reduceBEq, Nat.reduceAdd, eq_self, true_and, and_true, and_self, List.getElem?_cons_zero, List.getElem?_cons_succ, Nat.reduceLeDiff, Nat.zero_add, Nat.reduceSub, Nat.le_refl, Nat.lt_irrefl]
    refine call_at (cnt_at (m := 64) hr i3 (by omega)) ?_
    rintro w τ7 ⟨rfl, hr, u⟩
    have hr : RdrAt τ7 ri s ld (h4 ld) := hr
    have i4 : In ld (h4 ld) := i3.cnt
    have eE := u.ext σ eE hri
    have hf7 := u.objs _ _ (by omega) hf6
    have hb7 := u.objs _ _ (by omega) hb6
    have hc := rd_upd hc u
    have hN64 : hN ld ≤ 64 := cnt_le ld (h3 ld) i3
    have hNe : (cnt ld 64 (h3 ld)).1 = hN ld := rfl
    refine ⟨kept_none, ?_⟩
    clear u hf6 hb6
    simp -implicitDefEqProofs only [go_sem, Nat.reduceBEq, Nat.reduceAdd, eq_self, true_and, and_true, and_self, List.getElem?_cons_zero, List.getElem?_cons_succ, Nat.reduceLeDiff, Nat.zero_add, Nat.reduceSub, Nat.le_refl, hNe]
    refine call_at changes_ok' ?_
    rintro w τ8 ⟨rb, nb, rfl, e78, hrb, hnb, k1, k2⟩
    refine ⟨kept_none, ?_⟩
    have hlb : bi < τ7.objs.length := (List.getElem?_eq_some_iff.1 hb7).1
    have hr := hr.ext e78
    have hc := hc.ext e78
    have eE := eE.trans e78
    have hf8 := e78.objs _ _ hf7
    have hb8 := e78.objs _ _ hb7
    have hl1 := (List.getElem?_eq_some_iff.1 k1).1
    have hl2 := (List.getElem?_eq_some_iff.1 k2).1
    clear e78 hf7 hb7
    simp -implicitDefEqProofs only [go_sem, Nat.reduceBEq, Nat.reduceAdd, eq_self, true_and, and_true, and_self, List.getElem?_cons_zero, List.getElem?_cons_succ, Nat.reduceLeDiff, Nat.zero_add, Nat.reduceSub, Nat.le_refl, Nat.lt_irrefl]
    refine range_at ?_
    intro yl i r0 r1 r2 r3 hi hy
    have hlr : ri < rb := by omega
    refine CallA.mono (changes1_ok (bs := ld) (ri := ri) (rb := rb) (n := hN ld) (st := h4 ld) (s := s)
      (fun k st τ => ∃ l w, chs ld 65536 (hN ld) (h4 ld) = (chs ld 65536 k st).map (fun x => (l.map (·.2) ++ x.1, x.2)) ∧ l.length + k = hN ld ∧ RdrAt τ ri s ld st ∧ In ld st ∧ τ.objs[rb]? = some (.cells [.ptr (some (ri, 0))]) ∧ τ.objs[fi]? = some (.cells [.int .i64 (openK p), .int .i64 (num ld (0, 0, 0)).1, .sl cb cR cz (intsV .i64 (intsN (nums ld (num ld (0, 0, 0)).2).1)), .bool (decide (((cnt ld 1 (h2 ld)).1 : Int) = 1)), w]) ∧ τ.objs[bi]? = some (.cells [.bool false]) ∧ τ.objs[i]? = some r0 ∧ Ext σ τ ∧ Sep σ.live.length τ w l [(.sl cb cR cz (intsV .i64 (intsN (nums ld (num ld (0, 0, 0)).2).1)), intsV .i64 (intsN (nums ld (num ld (0, 0, 0)).2).1)), (s, bytesV ld)])
      (fun τ => Ext σ τ ∧ ((τ.objs[i]? = some r0 ∧ ∃ x l w, chs ld 65536 (hN ld) (h4 ld) = some x ∧ l.map (·.2) = x.1 ∧ τ.objs[fi]? = some (.cells [.int .i64 (openK p), .int .i64 (num ld (0, 0, 0)).1, .sl cb cR cz (intsV .i64 (intsN (nums ld (num ld (0, 0, 0)).2).1)), .bool (decide (((cnt ld 1 (h2 ld)).1 : Int) = 1)), w]) ∧ τ.objs[bi]? = some (.cells [.bool false]) ∧ RdrAt τ ri s ld x.2 ∧ In ld x.2 ∧ Sep σ.live.length τ w l [(.sl cb cR cz (intsV .i64 (intsN (nums ld (num ld (0, 0, 0)).2).1)), intsV .i64 (intsN (nums ld (num ld (0, 0, 0)).2).1)), (s, bytesV ld)]) ∨
        (τ.objs[i]? = some (r2 (.exit 0)) ∧ chs ld 65536 (hN ld) (h4 ld) = none ∧ τ.objs[bi]? = some (.cells [.bool true]))))
      (by omega) (by omega) ?_ ?_ ?_ ?_ ?_) ?_
    · rintro k st τ ⟨l, w, j1, j2, j3, j4, j5, -⟩
      exact ⟨j5, j3, j4⟩
    · rintro k st τ t1 d ⟨l, w, j1, j2, j3, j4, j5, j6, j7, j8, j9, j10⟩ gr gu gd gf
      have gi := gu.objs _ _ (by omega) j8
      have gx := gu.ext σ j9 hri
      have gfi := gu.objs _ _ (by omega) j6
      have gbi := gu.objs _ _ (by omega) j7
      have grb := gu.objs _ _ (by omega) j5
      have gs := j10.lv gu.live
      have gll := j9.llen
      have gqm : ∀ q, w = .sl false (.own q) 13 (cgsV l) → q < τ.live.length := by
        intro q hq
        rcases j10 with ⟨⟨z, hz⟩, -⟩ | ⟨q', hz, hlv, -⟩
        · rw [hz] at hq; cases hq
        · rw [hz] at hq
          simp only [V.sl.injEq, R.own.injEq, true_and, and_true] at hq
          subst hq
          exact (List.getElem?_eq_some_iff.1 hlv).1
      have gn : In ld (txt ld 65536 st).2 := j4.txt
      have gch : chs ld 65536 (k + 1) st = bif decide (getI (txt ld 65536 st).1 = 0) then (chs ld 65536 k (txt ld 65536 st).2).map (fun x => (getG (txt ld 65536 st).1 :: x.1, x.2)) else none := rfl
      rw [gch] at j1
      generalize getI (txt ld 65536 st).1 = e at j1 ⊢
      generalize getG (txt ld 65536 st).1 = g at j1 gd ⊢
      generalize (txt ld 65536 st).2 = st' at j1 gr gn ⊢
      clear gch j3 j4 j5 j6 j7 j8 j9 j10
      refine hy t1 _ _ gi rfl fun Y0 y0 => ?_
      obtain ⟨db, dR, dz, rfl, -, -⟩ := id gd
      simp -implicitDefEqProofs only [go_sem, Nat.reduceBEq, Nat.reduceAdd, eq_self, true_and, and_true, and_self, List.getElem?_cons_zero, List.getElem?_cons_succ, Nat.reduceLeDiff, Nat.zero_add, Nat.reduceSub, Nat.le_refl, rndF, setPs, dropL, cgV, cgC]
      refine y0 _ _ gi fun Y y1 y2 y3 => ?_
      clear y0 Y0
      have bfi : (t1.setA i r1).objs[fi]? = _ := (setA_ne (by omega)).trans gfi
      have bbi : (t1.setA i r1).objs[bi]? = _ := (setA_ne (by omega)).trans gbi
      have brb : (t1.setA i r1).objs[rb]? = _ := (setA_ne (by omega)).trans grb
      have bi1 : (t1.setA i r1).objs[i]? = some r1 := setA_at gi
      have bx := ext_setA gx (i := i) (o := r1) (by omega)
      have bs' : Sep σ.live.length (t1.setA i r1) w l [(.sl cb cR cz (intsV .i64 (intsN (nums ld (num ld (0, 0, 0)).2).1)), intsV .i64 (intsN (nums ld (num ld (0, 0, 0)).2).1)), (s, bytesV ld)] := gs.lv fun _ h => h
      have br := rdr_setA (o := r1) gr (show ri ≠ i by omega)
      have bd : RdS (t1.setA i r1) _ 1 _ := rd_lv gd fun _ h => h
      have bl : τ.live.length ≤ (t1.setA i r1).live.length := gu.llen
      generalize t1.setA i r1 = t2 at bfi bbi brb bi1 bx bs' br bd bl ⊢
      clear gi gx gfi gbi grb gs gr gu gd t1 hy
      simp -implicitDefEqProofs only [go_sem, Nat.reduceBEq, Nat.reduceAdd, eq_self, true_and, and_true, and_self, List.getElem?_cons_zero, List.getElem?_cons_succ, Nat.reduceLeDiff, Nat.zero_add, Nat.reduceSub, Nat.le_refl, Nat.lt_irrefl]
      cases he : decide (e = 0)
      · rw [he] at j1
        simp -implicitDefEqProofs only [go_sem, Nat.reduceBEq, Nat.reduceAdd, eq_self, true_and, and_true, and_self, List.getElem?_cons_zero, List.getElem?_cons_succ, Nat.reduceLeDiff, Nat.zero_add, Nat.reduceSub, Nat.le_refl, he, bbi]
        refine y2 0 _ _ ?_ ⟨by rw [he], fun h => absurd h (of_decide_eq_false he), fun _ => ⟨?_, .inr ⟨?_, j1, ?_⟩⟩⟩
        · rw [setC_ne (by omega)]; exact bi1
        · exact ext_setA (ext_set bx hbo) (by omega)
        · exact setA_at (o' := r1) (by rw [setC_ne (by omega)]; exact bi1)
        · rw [setA_ne (by omega)]; exact setC_get (List.getElem?_eq_some_iff.1 bbi).1
      · rw [he] at j1
        obtain ⟨ab, aR, az, rfl, a2, a3, -, a4', a5', a6⟩ := bs'.app (g := g) bd gf (Nat.le_trans bx.llen (Nat.le_refl _)) gll gqm
        have hex : (ab && ([cgC (.sl db dR dz (intsV .i64 g.deps)) g] : List (List V)).isEmpty) = false := by cases ab <;> rfl
        have hap : cgsV l ++ [cgC (.sl db dR dz (intsV .i64 g.deps)) g] = cgsV (l ++ [(.sl db dR dz (intsV .i64 g.deps), g)]) := by simp [cgsV]
        have hll : (cgsV l).length ≤ 1073741823 := by rw [cgsV_len]; omega
        unfold cgC at hex hap
        simp -implicitDefEqProofs only [go_sem, Nat.reduceBEq, Nat.reduceAdd, eq_self, true_and, and_true, and_self, List.getElem?_cons_zero, List.getElem?_cons_succ, Nat.reduceLeDiff, Nat.zero_add, Nat.reduceSub, Nat.le_refl, he, bfi, hex, hap]
        refine ⟨⟨a2, a3, ⟨.inr (live_last _ _), .inl trivial⟩, hll⟩, ?_⟩
        have ex1 : Ext σ ⟨t2.objs, kill (t2.live ++ [true]) aR ++ [true]⟩ := ⟨bx.objs, fun r hr => a5' r (List.getElem?_eq_some_iff.1 hr).1 (bx.live r hr), bx.olen, by
          have := bx.llen
          simp only [List.length_append, a4', List.length_cons, List.length_nil]; omega⟩
        refine y1 _ _ ?_ ⟨by rw [he], fun _ => ⟨l ++ [(.sl db dR dz (intsV .i64 g.deps), g)], .sl false (.own (t2.live ++ [true]).length) 13 (cgsV (l ++ [(.sl db dR dz (intsV .i64 g.deps), g)])), ?_, ?_, ?_, gn, ?_, ?_, ?_, ?_, ?_, ?_⟩, fun h => absurd (of_decide_eq_true he) h⟩
        · rw [setC_ne (by omega)]; exact bi1
        · rw [j1]
          simp only [cond_true]
          cases chs ld 65536 k st' <;> simp
        · simp only [List.length_append, List.length_cons, List.length_nil]; omega
        · refine ⟨?_, ?_⟩
          · rw [setA_ne (by omega), setC_ne (by omega)]; exact br.1
          · exact rd_lv (a6.rds.1 (s, bytesV ld) (by simp)) fun _ h => h
        · rw [setA_ne (by omega), setC_ne (by omega)]; exact brb
        · rw [setA_ne (by omega)]; exact setC_get (List.getElem?_eq_some_iff.1 bfi).1
        · rw [setA_ne (by omega), setC_ne (by omega)]; exact bbi
        · exact setA_at (o' := r1) (by rw [setC_ne (by omega)]; exact bi1)
        · exact ext_setA (ext_set ex1 hfo) (by omega)
        · exact a6.lv fun _ h => h
    · rintro st τ ⟨l, w, j1, j2, j3, j4, j5, j6, j7, j8, j9, j10⟩
      exact ⟨j9, .inl ⟨j8, _, l, w, j1, by simp, j6, j7, j3, j4, j10⟩⟩
    · exact (ext_obj τ8 r0).objs _ _ k2
    · have e8 := ext_obj τ8 r0
      refine ⟨[], .sl true .pub 0 [], ?_, by simp, hr.ext e8, i4, e8.objs _ _ k1, e8.objs _ _ hf8, e8.objs _ _ hb8, ?_, eE.trans e8, .inl ⟨⟨0, rfl⟩, rfl, ?_⟩⟩
      · cases chs ld 65536 (hN ld) (h4 ld) <;> simp
      · rw [← hi]; exact alH_get
      · intro u hu
        simp only [List.mem_cons, List.not_mem_nil, or_false] at hu
        rcases hu with rfl | rfl
        · exact hc.ext e8
        · exact hr.2.ext e8
    · rintro w t ⟨c1, ⟨c2, x, l, w', c3, c4, c5, c6, c7, c8, c9⟩ | ⟨c2, c3, c4⟩⟩
      · refine .inl ⟨c2, ?_⟩
        simp -implicitDefEqProofs only [go_sem, Nat.reduceBEq, Nat.reduceAdd, eq_self, true_and, and_true, and_self, List.getElem?_cons_zero, List.getElem?_cons_succ, Nat.reduceLeDiff, Nat.zero_add, Nat.reduceSub, Nat.le_refl, Nat.lt_irrefl]
        refine z1 _ _ _ (.inr ?_) ⟨rfl, ext_setA c1 (by omega), .inl ⟨x, l, w', c3, c4, ?_, ?_, rdr_setA c7 (by omega), c8, c9.lv fun _ h => h⟩⟩
        · simp -implicitDefEqProofs only [go_sem, Nat.reduceBEq, Nat.reduceAdd, eq_self, true_and, and_true, and_self, List.getElem?_cons_zero, List.getElem?_cons_succ, Nat.reduceLeDiff, Nat.zero_add, Nat.reduceSub, Nat.le_refl, z5]
        · rw [setA_ne (by omega)]; exact c5
        · rw [setA_ne (by omega)]; exact c6
      · refine .inr ⟨.exit 0, by simp, c2, ?_⟩
        simp -implicitDefEqProofs only [go_sem, Nat.reduceBEq, Nat.reduceAdd, eq_self, true_and, and_true, and_self, List.getElem?_cons_zero, List.getElem?_cons_succ, Nat.reduceLeDiff, Nat.zero_add, Nat.reduceSub, Nat.le_refl, Nat.lt_irrefl]
        refine z1 _ _ _ (.inr ?_) ⟨rfl, ext_setA c1 (by omega), .inr ⟨c3, ?_⟩⟩
        · simp -implicitDefEqProofs only [go_sem, Nat.reduceBEq, Nat.reduceAdd, eq_self, true_and, and_true, and_self, List.getElem?_cons_zero, List.getElem?_cons_succ, Nat.reduceLeDiff, Nat.zero_add, Nat.reduceSub, Nat.le_refl, z5]
        · rw [setA_ne (by omega)]; exact c4
  · rintro G τ ⟨rfl, d1, hd⟩
    rcases hd with ⟨x, l, w, d2, d3, d4, d5, d6, d7, d8⟩ | ⟨d2, d3⟩
    · have hBx : readB p = bif decide (doneO ld x.2 = 0) && decide (fchkI (rdFm (openK p) ld x.1) = 0) then some (rdFm (openK p) ld x.1) else none := by rw [hB, d2]; rfl
      obtain ⟨k1, k2⟩ := chs_is _ _ d2
      have hN64 : hN ld ≤ 64 := cnt_le ld (h3 ld) i3
      have hrd := d8.rds
      have hfm : RdF τ (.sl cb cR cz (intsV .i64 (intsN (nums ld (num ld (0, 0, 0)).2).1))) w (rdFm (openK p) ld x.1) := ⟨hrd.1 (_, _) List.mem_cons_self, by rw [← d3]; exact hrd.2⟩
      have hz : FmZ (rdFm (openK p) ld x.1) := by
        refine ⟨?_, ?_, fun g hg => ?_, fun g hg => ?_⟩
        · show (intsN (nums ld (num ld (0, 0, 0)).2).1).length ≤ 2000000
          unfold intsN wire.nums
          rw [List.length_map, numsN_len]
          have := cnt_le ld (num ld (0, 0, 0)).2 i1
          omega
        · show x.1.length ≤ 2000000
          omega
        · have := (k2 g hg).1.deps64; omega
        · have := (k2 g hg).1.name32; omega
      simp -implicitDefEqProofs only [go_sem, Nat.reduceBEq, Nat.reduceAdd, eq_self, true_and, and_true, and_self, List.getElem?_cons_zero, List.getElem?_cons_succ, Nat.reduceLeDiff, Nat.zero_add, Nat.reduceSub, Nat.le_refl, d5]
      refine call_at (done_ok d6.1 d6.2) ?_
      rintro v1 t1 ⟨rfl, rfl⟩
      refine ⟨kept_none, ?_⟩
      have hdo : doneR ld x.2.1 x.2.2.1 = doneO ld x.2 := rfl
      rw [hdo]
      obtain ⟨wb, wR, wz, we, rfl⟩ : ∃ b R z es, w = V.sl b R z es := by
        obtain ⟨_, _, h, _⟩ := hfm.2
        exact h.isSl
      cases h1 : decide (doneO ld x.2 = 0) <;> rw [h1] at hBx
      case false =>
        have hn : readB p = none := hBx
        rw [hn] at hF hI
        simp -implicitDefEqProofs only [go_sem, Nat.reduceBEq, Nat.reduceAdd, eq_self, true_and, and_true, and_self, List.getElem?_cons_zero, List.getElem?_cons_succ, Nat.reduceLeDiff, Nat.zero_add, Nat.reduceSub, Nat.le_refl, h1, z5]
        refine q3 _ _ (.sl true .pub 0 []) (.sl true .pub 0 []) ?_ rfl (by rw [hI]; rfl) d1 ?_
        · rw [hF]; rfl
        · rw [hF]; exact frsF_zero rfl rfl
      simp -implicitDefEqProofs only [go_sem, Nat.reduceBEq, Nat.reduceAdd, eq_self, true_and, and_true, and_self, List.getElem?_cons_zero, List.getElem?_cons_succ, Nat.reduceLeDiff, Nat.zero_add, Nat.reduceSub, Nat.le_refl, h1, d4]
      refine call_at (fchk_ok hfm hz) ?_
      rintro v1 t1 ⟨rfl, rfl⟩
      refine ⟨kept_none, ?_⟩
      cases h2 : decide (fchkI (rdFm (openK p) ld x.1) = 0) <;> rw [h2] at hBx
      case false =>
        have hn : readB p = none := hBx
        rw [hn] at hF hI
        simp -implicitDefEqProofs only [go_sem, Nat.reduceBEq, Nat.reduceAdd, eq_self, true_and, and_true, and_self, List.getElem?_cons_zero, List.getElem?_cons_succ, Nat.reduceLeDiff, Nat.zero_add, Nat.reduceSub, Nat.le_refl, h2, z5]
        refine q3 _ _ (.sl true .pub 0 []) (.sl true .pub 0 []) ?_ rfl (by rw [hI]; rfl) d1 ?_
        · rw [hF]; rfl
        · rw [hF]; exact frsF_zero rfl rfl
      have hn : readB p = some (rdFm (openK p) ld x.1) := hBx
      rw [hn] at hF hI
      simp -implicitDefEqProofs only [go_sem, Nat.reduceBEq, Nat.reduceAdd, eq_self, true_and, and_true, and_self, List.getElem?_cons_zero, List.getElem?_cons_succ, Nat.reduceLeDiff, Nat.zero_add, Nat.reduceSub, Nat.le_refl, h2, d4, z5]
      refine q3 _ _ _ _ ?_ rfl (by rw [hI]; rfl) d1 (by rw [hF]; exact ⟨hfr, hfm.1, l, d3, d8.frs⟩)
      rw [hF]; rfl
    · have hn : readB p = none := by rw [hB, d2]; rfl
      rw [hn] at hF hI
      simp -implicitDefEqProofs only [go_sem, Nat.reduceBEq, Nat.reduceAdd, eq_self, true_and, and_true, and_self, List.getElem?_cons_zero, List.getElem?_cons_succ, Nat.reduceLeDiff, Nat.zero_add, Nat.reduceSub, Nat.le_refl, d3, z5]
      refine q3 _ _ (.sl true .pub 0 []) (.sl true .pub 0 []) ?_ rfl (by rw [hI]; rfl) d1 ?_
      · rw [hF]; rfl
      · rw [hF]; exact frsF_zero rfl rfl
end
end Go.VL.wire

namespace Go.VL.wire
open Go Go.VL Go.Proofs Go.IntWalk

def k3 (bs : List UInt8) : RS := (num bs (h2 bs)).2
def k4 (bs : List UInt8) : RS := (cnt bs 64 (k3 bs)).2
def kN (bs : List UInt8) : Nat := (cnt bs 64 (k3 bs)).1
def rrdFm (k : Int) (ld : List UInt8) (cs : List Cg) : Fm := ⟨k, (num ld (0, 0, 0)).1, intsN (nums ld (num ld (0, 0, 0)).2).1, decide (((num ld (h2 ld)).1 : Int) = 1), cs⟩
def rreadB (p : List UInt8) : Option Fm := (chs (openL p) (openL p).length (kN (openL p)) (k4 (openL p))).bind fun x =>
  bif decide (writeI (rrdFm (openK p) (openL p) x.1) = 0) && decide (writeO (rrdFm (openK p) (openL p) x.1) = p) then some (rrdFm (openK p) (openL p) x.1) else none
def rreadF (p : List UInt8) : Fm := bif decide (openE p = 0) then (rreadB p).getD zeroF else zeroF
def rreadI (p : List UInt8) : Int := bif decide (openE p = 0) then (bif (rreadB p).isSome then 0 else 2) else openE p

section
variable {σ : St} {v : V} {p : List UInt8}
set_option maxRecDepth 100000 in
set_option maxHeartbeats 4000000 in
theorem rread_ok (hv : RdS σ v 1 (bytesV p)) (hlen : p.length ≤ 100000000) :
    CallA Try.prog 25 [v] σ fun w σ' => Ext σ σ' ∧ σ'.objs = σ.objs ∧ ∃ c x, w = .tup [fmV c x (rreadF p), .int .i64 (rreadI p)] ∧ FrsF σ.live.length σ' c x (rreadF p) := by
  obtain ⟨vb, vR, vz, rfl, -, -⟩ := id hv
  refine fn_at Try.func25 (by decide) comp25 rfl fun Q q1 q2 => ?_
  clear q1
  simp -implicitDefEqProofs only [go_sem, Nat.reduceBEq, Nat.reduceAdd, eq_self, true_and, and_true, and_self, List.getElem?_cons_zero, List.getElem?_cons_succ, Nat.reduceLeDiff, Nat.zero_add, Nat.reduceSub, Nat.le_refl, c25]
  refine call_at (ropen_ok hv hlen) ?_
  rintro w τ0 ⟨e0, o0, x, rfl, hx⟩
  refine ⟨kept_none, ?_⟩
  have q3 : ∀ (F : Fr) (σ' : St) (c y : V), lget 2 F.l = some (fmC c y (rreadF p)) → sget 2 F.s = .loc 2 0 → sget 3 F.s = .v (.int .i64 (rreadI p)) → Ext σ σ' → σ'.objs = σ.objs → FrsF σ.live.length σ' c y (rreadF p) → Q .ret F σ' := by
    intro F σ' c y h1 h2 h3 h4 h6 h5
    refine q2 _ _ ?_
    have hs : ∀ x, sget 0 (sset 0 x F.s) = x := fun x => by simp [sget_sset]
    simp -implicitDefEqProofs only [go_sem, Nat.reduceBEq, Nat.reduceAdd, eq_self, true_and, and_true, and_self, List.getElem?_cons_zero, List.getElem?_cons_succ, Nat.reduceLeDiff, Nat.zero_add, Nat.reduceSub, Nat.le_refl, h1, h2, h3, hs, fmC]
    exact ⟨h4, h6, c, y, rfl, h5⟩
  clear q2
  have hzF : ∀ τ : St, FrsF σ.live.length τ (.sl true .pub 0 []) (.sl true .pub 0 []) zeroF := fun τ => frsF_zero rfl rfl
  cases hE : decide (openE p = 0)
  case false =>
    have hF : rreadF p = zeroF := by unfold rreadF; rw [hE]; rfl
    have hI : rreadI p = openE p := by unfold rreadI; rw [hE]; rfl
    simp -implicitDefEqProofs only [go_sem, Nat.reduceBEq, Nat.reduceAdd, eq_self, true_and, and_true, and_self, List.getElem?_cons_zero, List.getElem?_cons_succ, Nat.reduceLeDiff, Nat.zero_add, Nat.reduceSub, Nat.le_refl, hE]
    refine q3 _ _ (.sl true .pub 0 []) (.sl true .pub 0 []) ?_ rfl (by rw [hI]; rfl) e0 o0 ?_
    · rw [hF]; rfl
    · rw [hF]; exact hzF _
  have hE' := of_decide_eq_true hE
  have hl65 := openL_65 hE'
  have hF : rreadF p = (rreadB p).getD zeroF := by unfold rreadF; rw [hE]; rfl
  have hI : rreadI p = bif (rreadB p).isSome then 0 else 2 := by unfold rreadI; rw [hE]; rfl
  have hB : rreadB p = (chs (openL p) (openL p).length (kN (openL p)) (k4 (openL p))).bind fun x =>
    bif decide (writeI (rrdFm (openK p) (openL p) x.1) = 0) && decide (writeO (rrdFm (openK p) (openL p) x.1) = p) then some (rrdFm (openK p) (openL p) x.1) else none := rfl
  have hn : rreadB p = none → ∀ (F : Fr) (σ' : St), lget 2 F.l = some z5 → sget 2 F.s = .loc 2 0 → sget 3 F.s = .v (.int .i64 2) → Ext σ σ' → σ'.objs = σ.objs → Q .ret F σ' := by
    intro h F σ' h1 h2 h3 h4 h5
    rw [h] at hF hI
    refine q3 F σ' (.sl true .pub 0 []) (.sl true .pub 0 []) ?_ h2 (by rw [hI]; exact h3) h4 h5 (by rw [hF]; exact hzF _)
    rw [h1, hF]; rfl
  generalize openL p = ld at hx hl65 hB
  obtain ⟨xb, xR, xz, rfl, -, -⟩ := id hx
  have hldl := bytesV_length ld
  simp -implicitDefEqProofs only [go_sem, Nat.reduceBEq, Nat.reduceAdd, eq_self, true_and, and_true, and_self, List.getElem?_cons_zero, List.getElem?_cons_succ, Nat.reduceLeDiff, Nat.zero_add, Nat.reduceSub, Nat.le_refl, hE]
  refine call_at (rnum_at hx (in0 ld) (by omega)) ?_
  rintro w τ ⟨rfl, rfl⟩
  refine ⟨kept_none, ?_⟩
  have i1 : In ld (num ld (0, 0, 0)).2 := (in0 ld).num
  simp -implicitDefEqProofs only [go_sem, Nat.reduceBEq, Nat.reduceAdd, eq_self, true_and, and_true, and_self, List.getElem?_cons_zero, List.getElem?_cons_succ, Nat.reduceLeDiff, Nat.zero_add, Nat.reduceSub, Nat.le_refl, rst, cellsR]
  refine call_at (rnums_at hx i1 (by omega)) ?_
  rintro w τ1 ⟨e1, o1, c, rfl, hc, hfr⟩
  have hfr := hfr.mono e0.llen
  refine ⟨kept_none, ?_⟩
  have i2 : In ld (h2 ld) := In.numsN _ i1.cnt
  obtain ⟨cb, cR, cz, rfl, -, -⟩ := id hc
  have hx := hx.ext e1
  have eE := e0.trans e1
  have eo : τ1.objs = σ.objs := o1.trans o0
  simp -implicitDefEqProofs only [go_sem, Nat.reduceBEq, Nat.reduceAdd, eq_self, true_and, and_true, and_self, List.getElem?_cons_zero, List.getElem?_cons_succ, Nat.reduceLeDiff, Nat.zero_add, Nat.reduceSub, Nat.le_refl, rst, cellsR]
  refine call_at (rnum_at (st := h2 ld) hx i2 (by omega)) ?_
  rintro w τ ⟨rfl, rfl⟩
  refine ⟨kept_none, ?_⟩
  have i3 : In ld (k3 ld) := i2.num
  simp -implicitDefEqProofs only [go_sem, Nat.reduceBEq, Nat.reduceAdd, eq_self, true_and, and_true, and_self, List.getElem?_cons_zero, List.getElem?_cons_succ, Nat.reduceLeDiff, Nat.zero_add, Nat.reduceSub, Nat.le_refl, rst, cellsR]
  refine call_at (rcnt_at (st := k3 ld) (m := 64) hx i3 (by omega)) ?_
  rintro w τ ⟨rfl, rfl⟩
  refine ⟨kept_none, ?_⟩
  have i4 : In ld (k4 ld) := i3.cnt
  have hN64 : kN ld ≤ 64 := cnt_le ld (k3 ld) i3
  have hNe : (cnt ld 64 (k3 ld)).1 = kN ld := rfl
  have hSe : (cnt ld 64 (k3 ld)).2 = k4 ld := rfl
  simp -implicitDefEqProofs only [go_sem, Nat.reduceBEq, Nat.reduceAdd, eq_self, true_and, and_true, and_self, List.getElem?_cons_zero, List.getElem?_cons_succ, Nat.reduceLeDiff, Nat.zero_add, Nat.reduceSub, Nat.le_refl, rst, cellsR, hNe, hSe]
  refine loop_at (fun (x : Nat × V × RS) => ⟨[(0, .v (.sl vb vR vz (bytesV p))), (2, .loc 2 0), (5, .v (.sl xb xR xz (bytesV ld))), (7, .loc 7 0), (8, .loc 8 0), (10, .v (.int .i64 (kN ld))), (11, .v (.int .i64 x.1))],
      [(2, z5), (7, [.int .i64 (openK p), .int .i64 (num ld (0, 0, 0)).1, .sl cb cR cz (intsV .i64 (intsN (nums ld (num ld (0, 0, 0)).2).1)), .bool (decide (((num ld (h2 ld)).1 : Int) = 1)), x.2.1]), (8, cellsR (.sl xb xR xz (bytesV ld)) x.2.2.1 x.2.2.2.1 x.2.2.2.2)]⟩)
    (fun x τ => x.1 ≤ kN ld ∧ Ext σ τ ∧ τ.objs = σ.objs ∧ In ld x.2.2 ∧ ∃ l, chs ld ld.length (kN ld) (k4 ld) = (chs ld ld.length (kN ld - x.1) x.2.2).map (fun y => (l.map (·.2) ++ y.1, y.2)) ∧ l.length = x.1 ∧
      Sep σ.live.length τ x.2.1 l [(.sl cb cR cz (intsV .i64 (intsN (nums ld (num ld (0, 0, 0)).2).1)), intsV .i64 (intsN (nums ld (num ld (0, 0, 0)).2).1)), (.sl xb xR xz (bytesV ld), bytesV ld)]) (fun x => kN ld - x.1) (0, .sl true .pub 0 [], k4 ld) ?_ ?_ ?_
  · refine .inr ?_
    simp -implicitDefEqProofs only [go_sem, Nat.reduceBEq, Nat.reduceAdd, eq_self, true_and, and_true, and_self, List.getElem?_cons_zero, List.getElem?_cons_succ, Nat.reduceLeDiff, Nat.zero_add, Nat.reduceSub, Nat.le_refl, cellsR, z5]
    try trivial
  · refine ⟨Nat.zero_le _, eE, eo, i4, [], ?_, rfl, .inl ⟨⟨0, rfl⟩, rfl, ?_⟩⟩
    · simp only [Nat.sub_zero]
      cases chs ld ld.length (kN ld) (k4 ld) <;> simp
    · intro u hu
      simp only [List.mem_cons, List.not_mem_nil, or_false] at hu
      rcases hu with rfl | rfl
      · exact hc
      · exact hx
  clear hNe hSe eE eo hc hx e1 o1
  rintro ⟨i, w, st⟩ τ2 ⟨g1, g2, g3, g4, l, g5, g6, g7⟩ Z z1 z2 z3
  simp only at g1 g4 g5 g6 g7
  simp -implicitDefEqProofs only [go_sem, Nat.reduceBEq, Nat.reduceAdd, eq_self, true_and, and_true, and_self, List.getElem?_cons_zero, List.getElem?_cons_succ, Nat.reduceLeDiff, Nat.zero_add, Nat.reduceSub, Nat.le_refl, cellsR]
  refine CondW_b (fun hcc => ?_) (fun hcc => ?_)
  · have hi : i < kN ld := by simpa using hcc
    obtain ⟨k, hk⟩ : ∃ k, kN ld - i = k + 1 := ⟨kN ld - i - 1, by omega⟩
    rw [hk] at g5
    have hrd := g7.rds.1 (.sl xb xR xz (bytesV ld), bytesV ld) (by simp)
    have ht := txt_len ld ld.length st
    simp -implicitDefEqProofs only [go_sem, Nat.reduceBEq, Nat.reduceAdd, eq_self, true_and, and_true, and_self, List.getElem?_cons_zero, List.getElem?_cons_succ, Nat.reduceLeDiff, Nat.zero_add, Nat.reduceSub, Nat.le_refl, hldl]
    refine call_at (rtxt_at (st := st) (m := ld.length) hrd g4 (by omega)) ?_
    rintro w1 τ3 ⟨rfl, rfl⟩
    refine ⟨kept_none, ?_⟩
    simp -implicitDefEqProofs only [go_sem, Nat.reduceBEq, Nat.reduceAdd, eq_self, true_and, and_true, and_self, List.getElem?_cons_zero, List.getElem?_cons_succ, Nat.reduceLeDiff, Nat.zero_add, Nat.reduceSub, Nat.le_refl, rst, cellsR]
    refine call_at (rget_ok (bs := (txt ld ld.length st).1) ⟨_, _, _, rfl, by simp, .inr ⟨live_last _ _, rfl⟩⟩ (by omega)) ?_
    rintro w1 τ4 ⟨a1, a2, d, rfl, a3, a4⟩
    refine ⟨kept_none, ?_⟩
    obtain ⟨db, dR, dz, rfl, -, -⟩ := id a3
    obtain ⟨y1, y2⟩ := get_rget (txt ld ld.length st).1
    rw [← y1] at a3 a4 ⊢
    rw [← y2]
    have gn : In ld (txt ld ld.length st).2 := g4.txt
    have gch : chs ld ld.length (k + 1) st = bif decide (getI (txt ld ld.length st).1 = 0) then (chs ld ld.length k (txt ld ld.length st).2).map (fun x => (getG (txt ld ld.length st).1 :: x.1, x.2)) else none := rfl
    rw [gch] at g5
    clear y1 y2 gch g4
    generalize getI (txt ld ld.length st).1 = e at g5 ⊢
    generalize getG (txt ld ld.length st).1 = g at g5 a3 a4 ⊢
    generalize (txt ld ld.length st).2 = st' at g5 gn ⊢
    have a5 := (ext_live τ3 true).trans a1
    have g7' := g7.lv a5.live
    have gE := g2.trans a5
    have go : τ4.objs = σ.objs := a2.trans g3
    cases he : decide (e = 0) <;> rw [he] at g5
    · have hnn : rreadB p = none := by rw [hB, g5]; rfl
      simp -implicitDefEqProofs only [go_sem, Nat.reduceBEq, Nat.reduceAdd, eq_self, true_and, and_true, and_self, List.getElem?_cons_zero, List.getElem?_cons_succ, Nat.reduceLeDiff, Nat.zero_add, Nat.reduceSub, Nat.le_refl, he, cgV, cgC, z5]
      refine z3 _ _ ?_
      simp -implicitDefEqProofs only [go_sem, Nat.reduceBEq, Nat.reduceAdd, eq_self, true_and, and_true, and_self, List.getElem?_cons_zero, List.getElem?_cons_succ, Nat.reduceLeDiff, Nat.zero_add, Nat.reduceSub, Nat.le_refl, Nat.lt_irrefl]
      exact hn hnn _ _ rfl rfl rfl gE go
    · have gqm : ∀ q, w = .sl false (.own q) 13 (cgsV l) → q < (τ3.live ++ [true]).length := by
        intro q hq
        rcases g7 with ⟨⟨z, hz⟩, -⟩ | ⟨q', hz, hlv, -⟩
        · rw [hz] at hq; cases hq
        · rw [hz] at hq
          simp only [V.sl.injEq, R.own.injEq, true_and, and_true] at hq
          subst hq
          have := (List.getElem?_eq_some_iff.1 hlv).1
          simp; omega
      obtain ⟨ab, aR, az, rfl, b2, b3, -, b4, b5, b6⟩ := g7'.app (g := g) a3 a4 gE.llen (by have := g2.llen; simp; omega) gqm
      have hex : (ab && ([cgC (.sl db dR dz (intsV .i64 g.deps)) g] : List (List V)).isEmpty) = false := by cases ab <;> rfl
      have hap : cgsV l ++ [cgC (.sl db dR dz (intsV .i64 g.deps)) g] = cgsV (l ++ [(.sl db dR dz (intsV .i64 g.deps), g)]) := by simp [cgsV]
      have hll : (cgsV l).length ≤ 1073741823 := by rw [cgsV_len]; omega
      unfold cgC at hex hap
      simp -implicitDefEqProofs only [go_sem, Nat.reduceBEq, Nat.reduceAdd, eq_self, true_and, and_true, and_self, List.getElem?_cons_zero, List.getElem?_cons_succ, Nat.reduceLeDiff, Nat.zero_add, Nat.reduceSub, Nat.le_refl, he, cgV, cgC, hex, hap, z5]
      refine ⟨⟨b2, b3, ⟨.inr (live_last _ _), .inl trivial⟩, hll⟩, ?_⟩
      have ex1 : Ext σ ⟨τ4.objs, kill (τ4.live ++ [true]) aR ++ [true]⟩ := ⟨gE.objs, fun r hr => b5 r (List.getElem?_eq_some_iff.1 hr).1 (gE.live r hr), gE.olen, by
        have := gE.llen
        simp only [List.length_append, b4, List.length_cons, List.length_nil]; omega⟩
      refine z1 (i + 1, .sl false (.own (τ4.live ++ [true]).length) 13 (cgsV (l ++ [(.sl db dR dz (intsV .i64 g.deps), g)])), st') _ _ (.inr ?_) (by simp only; omega) ⟨by simp only; omega, ex1, go, gn, l ++ [(.sl db dR dz (intsV .i64 g.deps), g)], ?_, ?_, b6⟩
      · have hw : IntKind.i64.wrap ((i : Int) + 1) = ((i + 1 : Nat) : Int) := by rw [i64_in _ (by omega)]; omega
        simp -implicitDefEqProofs only [go_sem, Nat.reduceBEq, Nat.reduceAdd, eq_self, true_and, and_true, and_self, List.getElem?_cons_zero, List.getElem?_cons_succ, Nat.reduceLeDiff, Nat.zero_add, Nat.reduceSub, Nat.le_refl, cellsR, z5, hw]
        try trivial
      · have hk2 : kN ld - (i + 1) = k := by omega
        simp only
        rw [g5, hk2]
        simp only [cond_true]
        cases chs ld ld.length k st' <;> simp
      · simp only [List.length_append, List.length_cons, List.length_nil]; omega
  · have hi : ¬ i < kN ld := by simpa using hcc
    have hi0 : kN ld - i = 0 := by omega
    rw [hi0] at g5
    have g5 : chs ld ld.length (kN ld) (k4 ld) = some (l.map (·.2), st) := by rw [g5]; simp [chs]
    obtain ⟨k1, k2⟩ := chs_is _ _ g5
    have hrd := g7.rds
    have hfm : RdF τ2 (.sl cb cR cz (intsV .i64 (intsN (nums ld (num ld (0, 0, 0)).2).1))) w (rrdFm (openK p) ld (l.map (·.2))) := ⟨hrd.1 (_, _) List.mem_cons_self, hrd.2⟩
    have hz : FmZ (rrdFm (openK p) ld (l.map (·.2))) := by
      refine ⟨?_, ?_, fun g hg => ?_, fun g hg => ?_⟩
      · show (intsN (nums ld (num ld (0, 0, 0)).2).1).length ≤ 2000000
        unfold intsN wire.nums
        rw [List.length_map, numsN_len]
        have := cnt_le ld (num ld (0, 0, 0)).2 i1
        omega
      · show (l.map (·.2)).length ≤ 2000000
        simp only at k1
        omega
      · have := (k2 g hg).1.deps64; omega
      · have := (k2 g hg).1.name32; omega
    have hIm : FmI (rrdFm (openK p) ld (l.map (·.2))) := ⟨i64n (num_lt (in0 ld)), intsN_lt (numsN_lt ld _ _ i1.cnt), fun g hg => (k2 g hg).2⟩
    have hBx : rreadB p = bif decide (writeI (rrdFm (openK p) ld (l.map (·.2))) = 0) && decide (writeO (rrdFm (openK p) ld (l.map (·.2))) = p) then some (rrdFm (openK p) ld (l.map (·.2))) else none := by rw [hB, g5]; rfl
    obtain ⟨wb, wR, wz, we, rfl⟩ : ∃ b R z es, w = V.sl b R z es := by
      obtain ⟨_, _, h, _⟩ := hfm.2
      exact h.isSl
    simp -implicitDefEqProofs only [go_sem, Nat.reduceBEq, Nat.reduceAdd, eq_self, true_and, and_true, and_self, List.getElem?_cons_zero, List.getElem?_cons_succ, Nat.reduceLeDiff, Nat.zero_add, Nat.reduceSub, Nat.le_refl, Nat.lt_irrefl]
    refine z2 _ _ _ ?_
    simp -implicitDefEqProofs only [go_sem, Nat.reduceBEq, Nat.reduceAdd, eq_self, true_and, and_true, and_self, List.getElem?_cons_zero, List.getElem?_cons_succ, Nat.reduceLeDiff, Nat.zero_add, Nat.reduceSub, Nat.le_refl, Nat.lt_irrefl]
    refine call_at (rwrite_ok hfm hz hIm) ?_
    rintro w1 τ3 ⟨a1, a2, y, rfl, hy⟩
    refine ⟨kept_none, ?_⟩
    obtain ⟨yb, yR, yz, rfl, -, -⟩ := id hy
    have gE := g2.trans a1
    have go : τ3.objs = σ.objs := a2.trans g3
    have hback : ∀ q, (bytesV q).map byteOfC = q := bytes_back
    cases h1 : decide (writeI (rrdFm (openK p) ld (l.map (·.2))) = 0) <;> rw [h1] at hBx
    case false =>
      simp -implicitDefEqProofs only [go_sem, Nat.reduceBEq, Nat.reduceAdd, eq_self, true_and, and_true, and_self, List.getElem?_cons_zero, List.getElem?_cons_succ, Nat.reduceLeDiff, Nat.zero_add, Nat.reduceSub, Nat.le_refl, h1, z5]
      exact hn hBx _ _ rfl rfl rfl gE go
    simp -implicitDefEqProofs only [go_sem, Nat.reduceBEq, Nat.reduceAdd, eq_self, true_and, and_true, and_self, List.getElem?_cons_zero, List.getElem?_cons_succ, Nat.reduceLeDiff, Nat.zero_add, Nat.reduceSub, Nat.le_refl, h1, hback]
    refine ⟨cS_rd hy, cS_rd (hv.ext gE), ?_⟩
    cases h2 : decide (writeO (rrdFm (openK p) ld (l.map (·.2))) = p) <;> rw [h2] at hBx
    case false =>
      simp -implicitDefEqProofs only [go_sem, Nat.reduceBEq, Nat.reduceAdd, eq_self, true_and, and_true, and_self, List.getElem?_cons_zero, List.getElem?_cons_succ, Nat.reduceLeDiff, Nat.zero_add, Nat.reduceSub, Nat.le_refl, h2, z5]
      exact hn hBx _ _ rfl rfl rfl gE go
    have hnn : rreadB p = some (rrdFm (openK p) ld (l.map (·.2))) := hBx
    rw [hnn] at hF hI
    simp -implicitDefEqProofs only [go_sem, Nat.reduceBEq, Nat.reduceAdd, eq_self, true_and, and_true, and_self, List.getElem?_cons_zero, List.getElem?_cons_succ, Nat.reduceLeDiff, Nat.zero_add, Nat.reduceSub, Nat.le_refl, h2, z5]
    refine q3 _ _ _ _ ?_ rfl (by rw [hI]; rfl) gE go (by rw [hF]; exact ⟨hfr, hfm.1.ext a1, l, rfl, g7.frs.1.ext a1, g7.frs.2.1, fun p hp => ⟨(g7.frs.2.2 p hp).1.ext a1, (g7.frs.2.2 p hp).2⟩⟩)
    rw [hF]; rfl
end
end Go.VL.wire

namespace Go.VL.wire
open Go Go.VL Go.Proofs Go.IntWalk

theorem num4_app (a b : List UInt8) (h : 4 ≤ a.length) : num4 (a ++ b) = num4 a := by
  match a, h with
  | w :: x :: y :: z :: r, _ => simp [num4]
theorem sealB_parts (k : Int) (l : List UInt8) : sealB k l = headB k l ++ four (sumN (headB k l)) ∧ (headB k l).length = l.length + 5 := by
  refine ⟨rfl, ?_⟩
  simp [headB, four_len]; omega
theorem sealI_ok {k : Int} {l : List UInt8} (h : sealI k l = 0) : 1 ≤ k ∧ k ≤ 15 ∧ l.length ≤ 65536 := by
  unfold sealI at h
  obtain ⟨h1, h⟩ := bif_zero h (by decide)
  obtain ⟨h2, -⟩ := bif_zero h (by decide)
  simp only [Bool.or_eq_false_iff, decide_eq_false_iff_not] at h1 h2
  omega
theorem ok_sealI {k : Int} {l : List UInt8} (h1 : 1 ≤ k) (h2 : k ≤ 15) (h3 : l.length ≤ 65536) : sealI k l = 0 := by
  unfold sealI
  have d1 : decide (k < 1) = false := by simp; omega
  have d2 : decide (15 < k) = false := by simp; omega
  have d3 : decide ((65536 : Int) < l.length) = false := by simp; omega
  rw [d1, d2, d3]; rfl
/-- What is sealed is opened. -/
theorem open_seal {k : Int} {l : List UInt8} (h : sealI k l = 0) : openE (sealB k l) = 0 ∧ openK (sealB k l) = k ∧ openL (sealB k l) = l := by
  obtain ⟨h1, h2, h3⟩ := sealI_ok h
  obtain ⟨e, hl⟩ := sealB_parts k l
  have hlen : (sealB k l).length = l.length + 9 := by rw [e, List.length_append, hl, four_len]
  have hh : hd0 (sealB k l) = k.toNat := by
    show (UInt8.ofNat k.toNat).toNat = _
    rw [UInt8.toNat_ofNat']; omega
  have hn : num4 ((sealB k l).drop 1) = l.length := by
    show num4 ((four l.length ++ l) ++ four (sumN (headB k l))) = _
    rw [List.append_assoc, num4_app _ _ (by rw [four_len]; exact Nat.le_refl _), num4_four (by omega)]
  have ht : (sealB k l).take ((sealB k l).length - 4) = headB k l := by
    rw [hlen, e, List.take_left' (by omega)]
  have hd : (sealB k l).drop ((sealB k l).length - 4) = four (sumN (headB k l)) := by
    rw [hlen, e, List.drop_left' (by omega)]
  have hF : badF (sealB k l) = false := by
    unfold badF
    rw [hlen, hh, hn]
    simp only [Bool.or_eq_false_iff, decide_eq_false_iff_not, Bool.not_eq_false', decide_eq_true_eq]
    omega
  have hS : badS (sealB k l) = false := by
    unfold badS
    rw [ht, hd, num4_four (sumN_lt _)]
    simp
  refine ⟨?_, ?_, ?_⟩
  · unfold openE; rw [hF, hS]; rfl
  · unfold openK; rw [hF, hS, hh]; show ((k.toNat : Nat) : Int) = k; omega
  · unfold openL
    rw [hF, hS, hlen]
    show ((sealB k l).drop 5).take _ = _
    have : (sealB k l).drop 5 = l ++ four (sumN (headB k l)) := by
      show ((four l.length ++ l) ++ four (sumN (headB k l))).drop 4 = _
      rw [List.append_assoc, List.drop_left' (four_len _)]
    rw [this, List.take_left' (by omega)]
/-- What is opened is just what would be sealed. -/
theorem seal_open {p : List UInt8} (h : openE p = 0) : sealI (openK p) (openL p) = 0 ∧ p = sealB (openK p) (openL p) := by
  obtain ⟨hF, hS⟩ := openE_ok h
  have hK : openK p = hd0 p := by unfold openK; rw [hF, hS]; rfl
  have hL : openL p = (p.drop 5).take (p.length - 9) := by unfold openL; rw [hF, hS]; rfl
  unfold badF at hF
  unfold badS at hS
  simp only [Bool.or_eq_false_iff, decide_eq_false_iff_not, Bool.not_eq_false', decide_eq_true_eq] at hF hS
  have hll : (openL p).length = p.length - 9 := by rw [hL, List.length_take, List.length_drop]; omega
  refine ⟨ok_sealI (by omega) (by omega) (by omega), ?_⟩
  have hhead : headB (openK p) (openL p) = p.take (p.length - 4) := by
    unfold headB
    rw [hll, hK, hL]
    match p, hF with
    | b :: q, hF =>
      simp only [List.drop_succ_cons, List.length_cons, List.drop_zero] at hF ⊢
      have e1 : UInt8.ofNat ((hd0 (b :: q) : Int)).toNat = b := by
        show UInt8.ofNat ((b.toNat : Int)).toNat = b
        simp
      have e2 : four (q.length + 1 - 9) = q.take 4 := by
        have : q.length + 1 - 9 = num4 (q.take 4) := by
          have := num4_app (q.take 4) (q.drop 4) (by rw [List.length_take]; omega)
          rw [List.take_append_drop] at this
          omega
        rw [this]
        exact four_num4 (by rw [List.length_take]; omega)
      have e3 : q.length + 1 - 4 = (q.length + 1 - 9 + 4) + 1 := by omega
      rw [e1, e2, e3, List.take_succ_cons]
      congr 1
      rw [Nat.add_comm _ 4, List.take_add]
  have e4 : four (sumN (headB (openK p) (openL p))) = p.drop (p.length - 4) := by
    rw [hhead, ← hS]
    exact four_num4 (by rw [List.length_drop]; omega)
  unfold sealB
  rw [e4, hhead, List.take_append_drop]

theorem cnt_most {bs : List UInt8} {m : Int} {st : RS} (h : (cnt bs m st).2.2.1 = 0) : ((cnt bs m st).1 : Int) ≤ m := by
  unfold wire.cnt cntR at h ⊢
  by_cases hc : st.2.1 = 0 ∧ (numR bs st.1 st.2.1 st.2.2).2.2.1 = 0 ∧ m < (numR bs st.1 st.2.1 st.2.2).1
  · rw [if_pos hc] at h; simp at h
  · rw [if_neg hc] at h ⊢
    have he : st.2.1 = 0 := by
      by_cases he : st.2.1 = 0
      · exact he
      · unfold numR at h; rw [if_neg he] at h; exact absurd h he
    have : ¬ m < (numR bs st.1 st.2.1 st.2.2).1 := fun hm => hc ⟨he, h, hm⟩
    omega
theorem chs_tk {bs : List UInt8} {m : Int} : ∀ (k : Nat) (st : RS) {x : List Cg × RS}, chs bs m k st = some x → Tk bs st x.2 (encTs (x.1.map dirB))
  | 0, st, x, h => by
    simp only [chs, Option.some.injEq] at h
    subst h
    exact (Tk.refl bs st).of (by simp [encTs])
  | k + 1, st, x, h => by
    rw [chs] at h
    cases hc : decide (getI (txt bs m st).1 = 0) <;> rw [hc] at h
    · simp at h
    · simp only [cond_true, Option.map_eq_some_iff] at h
      obtain ⟨y, h1, rfl⟩ := h
      have hb : getB (txt bs m st).1 = true := by
        have := of_decide_eq_true hc
        unfold getI at this
        cases hb : getB (txt bs m st).1 with
        | true => rfl
        | false => rw [hb] at this; simp at this
      have hi := get_is hb
      have hg := (is_get hi).2.1
      refine ((txt_tk bs m st).trans (chs_tk k _ h1)).of ?_
      have : dirB (getG (txt bs m st).1) = (txt bs m st).1 := by rw [hg]; exact hi.2.2.symm
      simp only [List.map_cons, encTs, List.flatMap_cons, this]
theorem chs_lf {bs r : List UInt8} {m : Int} : ∀ (l : List Cg) {st : RS}, (∀ g ∈ l, Ok g ∧ CgI g ∧ ((dirB g).length : Int) ≤ m ∧ (dirB g).length < 9223372036854775808) → Lf bs st (encTs (l.map dirB) ++ r) →
    ∃ st', chs bs m l.length st = some (l, st') ∧ Lf bs st' r
  | [], st, _, h => ⟨st, rfl, by simpa [encTs] using h⟩
  | g :: l, st, hg, h => by
    obtain ⟨h1, h2, h3, h4⟩ := hg g (by simp)
    have h' : Lf bs st (enc (dirB g).length ++ (dirB g ++ (encTs (l.map dirB) ++ r))) := by simpa [encTs] using h
    obtain ⟨a1, a2⟩ := txt_lf h4 h3 h'
    obtain ⟨b1, b2, b3⟩ := is_get (bs := dirB g) ⟨h1, h2, rfl⟩
    obtain ⟨st', c1, c2⟩ := chs_lf l (fun x hx => hg x (by simp [hx])) a2
    refine ⟨st', ?_, c2⟩
    rw [List.length_cons, chs, a1, b2, b3, c1]
    rfl

/-- The frame that bytes are. -/
def IsF (p : List UInt8) (f : Fm) : Prop := FOk f ∧ FmI f ∧ sealI f.kind (loadB f) = 0 ∧ p = sealB f.kind (loadB f)
theorem map_putO {l : List Cg} (h : ∀ g ∈ l, Ok g) : l.map putO = l.map dirB := by
  apply List.map_congr_left
  intro g hg
  unfold putO
  rw [ok_iff.2 (h g hg)]; rfl
theorem preB_lf {f : Fm} {bs r : List UInt8} (hf : FOk f) (hI : FmI f) (h : Lf bs (0, 0, 0) (preB f ++ r)) :
    ((num bs (0, 0, 0)).1 : Int) = f.src ∧ intsN (nums bs (num bs (0, 0, 0)).2).1 = f.clock ∧ Lf bs (h2 bs) (encs [m01 f.more, f.cs.length] ++ r) := by
  unfold preB at h
  have hs := hf.s64
  obtain ⟨a1, a2⟩ := num_lf (n := f.src) (r := encs (f.clock.length :: f.clock) ++ (encs [m01 f.more, f.cs.length] ++ r)) hf.s0 (by omega) (by simpa [encs] using h)
  obtain ⟨b1, b2⟩ := nums_lf (l := f.clock) (r := encs [m01 f.more, f.cs.length] ++ r) hf.clk64 (fun n hn => by have := clock_pos hf.clk n hn; omega) a2
  exact ⟨a1, b1, b2⟩
theorem m01_one (b : Bool) : decide (m01 b = 1) = b := by cases b <;> rfl
theorem m01_pos (b : Bool) : 0 ≤ m01 b ∧ m01 b ≤ 1 := by cases b <;> decide
theorem load_len {f : Fm} (hf : FOk f) {g : Cg} (hg : g ∈ f.cs) : (dirB g).length ≤ (loadB f).length := by
  unfold loadB
  rw [map_putO hf.cs, List.length_append]
  have : ∀ l : List Cg, g ∈ l → (dirB g).length ≤ (encTs (l.map dirB)).length := by
    intro l
    induction l with
    | nil => simp
    | cons x l ih =>
      intro hm
      simp only [List.map_cons, encTs, List.flatMap_cons, List.length_append]
      rcases List.mem_cons.1 hm with rfl | hm
      · omega
      · have := ih hm
        unfold encTs at this
        omega
  have := this f.cs hg
  omega
theorem dirB_len {g : Cg} (h : Ok g) (hI : CgI g) : (dirB g).length ≤ 2000 := by
  have := putO_len hI
  unfold putO at this
  rw [ok_iff.2 h] at this
  exact this
theorem isF_read {p : List UInt8} {f : Fm} (h : IsF p f) : openE p = 0 ∧ readB p = some f ∧ rreadB p = some f := by
  obtain ⟨hf, hI, hs, rfl⟩ := h
  obtain ⟨o1, o2, o3⟩ := open_seal hs
  have hz : Lf (loadB f) (0, 0, 0) (preB f ++ encTs (f.cs.map dirB)) := ⟨Nat.zero_le _, rfl, by rw [← map_putO hf.cs]; rfl⟩
  obtain ⟨a1, a2, a3⟩ := preB_lf hf hI hz
  have hc64 := hf.len
  have hmp := m01_pos f.more
  have hlen := o3 ▸ openL_65 o1
  refine ⟨o1, ?_, ?_⟩
  · obtain ⟨b1, b2⟩ := cnt_lf (n := m01 f.more) (m := 1) (r := encs [(f.cs.length : Int)] ++ encTs (f.cs.map dirB)) hmp.1 (by omega) hmp.2 (by simpa [encs] using a3)
    obtain ⟨c1, c2⟩ := cnt_lf (n := (f.cs.length : Int)) (m := 64) (r := encTs (f.cs.map dirB)) (by omega) (by omega) (by omega) (by simpa [encs] using b2)
    have hN : hN (loadB f) = f.cs.length := by unfold hN h3; omega
    obtain ⟨st', d1, d2⟩ := chs_lf (m := 65536) (r := []) f.cs (fun g hg => ⟨hf.cs g hg, hI.cs g hg, by have := dirB_len (hf.cs g hg) (hI.cs g hg); omega, by have := dirB_len (hf.cs g hg) (hI.cs g hg); omega⟩) (by simpa using c2)
    have hfm : rdFm f.kind (loadB f) f.cs = f := by
      unfold rdFm
      rw [a1, a2, b1, m01_one]
    unfold readB
    rw [o2, o3, hN]
    have d1' : chs (loadB f) 65536 f.cs.length (h4 (loadB f)) = some (f.cs, st') := d1
    rw [d1']
    simp only [Option.bind_some]
    rw [hfm, fok_iff.2 hf]
    have hdo : doneO (loadB f) st' = 0 := by
      have := congrArg List.length d2.dr
      simp only [List.length_drop, List.length_nil] at this
      unfold doneO doneR
      rw [if_neg (by omega)]
      rw [d2.ok]
    rw [hdo]; rfl
  · obtain ⟨b1, b2⟩ := num_lf (n := m01 f.more) (r := encs [(f.cs.length : Int)] ++ encTs (f.cs.map dirB)) hmp.1 (by omega) (by simpa [encs] using a3)
    obtain ⟨c1, c2⟩ := cnt_lf (n := (f.cs.length : Int)) (m := 64) (r := encTs (f.cs.map dirB)) (by omega) (by omega) (by omega) (by simpa [encs] using b2)
    have hN : kN (loadB f) = f.cs.length := by unfold kN k3; omega
    obtain ⟨st', d1, d2⟩ := chs_lf (m := (loadB f).length) (r := []) f.cs (fun g hg => ⟨hf.cs g hg, hI.cs g hg, by have := load_len hf hg; omega, by have := dirB_len (hf.cs g hg) (hI.cs g hg); omega⟩) (by simpa using c2)
    have hfm : rrdFm f.kind (loadB f) f.cs = f := by
      unfold rrdFm
      rw [a1, a2, b1, m01_one]
    unfold rreadB
    rw [o2, o3, hN]
    have d1' : chs (loadB f) (loadB f).length f.cs.length (k4 (loadB f)) = some (f.cs, st') := d1
    rw [d1']
    simp only [Option.bind_some]
    rw [hfm]
    unfold writeI writeO sealO
    rw [fok_iff.2 hf, hs]
    simp
theorem bind_if {α β : Type} {o : Option α} {c : α → Bool} {k : α → β} {y : β} (h : (o.bind fun x => bif c x then some (k x) else none) = some y) : ∃ x, o = some x ∧ c x = true ∧ k x = y := by
  cases o with
  | none => simp at h
  | some x =>
    refine ⟨x, rfl, ?_⟩
    simp only [Option.bind_some] at h
    cases hc : c x <;> rw [hc] at h
    · simp at h
    · simpa using h
theorem read_isF {p : List UInt8} {f : Fm} (ho : openE p = 0) (h : readB p = some f) : IsF p f := by
  unfold readB at h
  obtain ⟨x, h1, hc, rfl⟩ := bind_if h
  simp only [Bool.and_eq_true, decide_eq_true_eq] at hc
  obtain ⟨c1, c2⟩ := hc
  obtain ⟨s1, s2⟩ := seal_open ho
  have hf := fok_iff.1 c2
  obtain ⟨k1, k2⟩ := chs_is _ _ h1
  have i1 : In (openL p) (num (openL p) (0, 0, 0)).2 := (in0 _).num
  have hI : FmI (rdFm (openK p) (openL p) x.1) := ⟨i64n (num_lt (in0 _)), intsN_lt (numsN_lt _ _ _ i1.cnt), fun g hg => (k2 g hg).2⟩
  have he : x.2.2.1 = 0 ∧ ¬ x.2.1 < (openL p).length := by
    unfold doneO doneR at c1
    split at c1
    · cases c1
    · rename_i hx
      exact ⟨c1, fun hl => hx ⟨c1, hl⟩⟩
  have t1 : Tk (openL p) (0, 0, 0) (h2 (openL p)) _ := (num_tk (openL p) (0, 0, 0)).trans (nums_tk (openL p) _)
  have t2 : Tk (openL p) (h2 (openL p)) (h3 (openL p)) _ := cnt_tk (openL p) 1 _
  have t3 : Tk (openL p) (h3 (openL p)) (h4 (openL p)) _ := cnt_tk (openL p) 64 _
  have t4 := chs_tk _ _ h1
  have e4 : (h4 (openL p)).2.1 = 0 := (t4 he.1).1
  have e3 : (h3 (openL p)).2.1 = 0 := (t3 e4).1
  have hm1 : ((cnt (openL p) 1 (h2 (openL p))).1 : Int) ≤ 1 := cnt_most e3
  have ht := (((t1.trans t2).trans t3).trans t4) he.1
  have hd0 : (openL p).drop x.2.1 = [] := List.drop_eq_nil_of_le (by omega)
  rw [hd0, List.append_nil] at ht
  have hload : loadB (rdFm (openK p) (openL p) x.1) = openL p := by
    have h0 : (openL p).drop (0, ((0 : Int), (0 : Int))).1 = openL p := rfl
    rw [h0] at ht
    refine Eq.trans ?_ ht.2.symm
    unfold loadB preB
    rw [map_putO hf.cs]
    have hmm : (m01 (rdFm (openK p) (openL p) x.1).more).toNat = (cnt (openL p) 1 (h2 (openL p))).1 := by
      show (m01 (decide (((cnt (openL p) 1 (h2 (openL p))).1 : Int) = 1))).toNat = _
      generalize (cnt (openL p) 1 (h2 (openL p))).1 = n at hm1
      match n, hm1 with
      | 0, _ => rfl
      | 1, _ => rfl
      | n + 2, h => omega
    have hcs : ((rdFm (openK p) (openL p) x.1).cs.length : Int).toNat = (cnt (openL p) 64 (h3 (openL p))).1 := by
      show ((x.1.length : Int)).toNat = _
      rw [k1]; simp only [Int.toNat_natCast]; rfl
    have hcl : encs ((rdFm (openK p) (openL p) x.1).clock.length :: (rdFm (openK p) (openL p) x.1).clock) = enc (nums (openL p) (num (openL p) (0, 0, 0)).2).1.length ++ (nums (openL p) (num (openL p) (0, 0, 0)).2).1.flatMap enc := by
      rw [← encs_intsN]
      show encs (((intsN (nums (openL p) (num (openL p) (0, 0, 0)).2).1).length : Int) :: intsN (nums (openL p) (num (openL p) (0, 0, 0)).2).1) = _
      simp only [encs, List.flatMap_cons, intsN, List.length_map]
      rfl
    have hsr : encs [(rdFm (openK p) (openL p) x.1).src] = enc (num (openL p) (0, 0, 0)).1 := by
      show encs [(((num (openL p) (0, 0, 0)).1 : Nat) : Int)] = _
      simp [encs]
    have h2e : encs [m01 (rdFm (openK p) (openL p) x.1).more, ((rdFm (openK p) (openL p) x.1).cs.length : Int)] = enc (cnt (openL p) 1 (h2 (openL p))).1 ++ enc (cnt (openL p) 64 (h3 (openL p))).1 := by
      simp only [encs, List.flatMap_cons, List.flatMap_nil, List.append_nil]
      rw [hmm, hcs]
    rw [hcl, hsr, h2e]
    simp only [List.append_assoc]
    rfl
  refine ⟨hf, hI, ?_, ?_⟩
  · rw [hload]; exact s1
  · rw [hload]; exact s2
theorem write_isF {f : Fm} {p : List UInt8} (hI : FmI f) (h1 : writeI f = 0) (h2 : writeO f = p) : IsF p f := by
  unfold writeI at h1
  unfold writeO at h2
  have hf : fchkI f = 0 := by
    cases hc : decide (fchkI f = 0) with
    | true => exact of_decide_eq_true hc
    | false => rw [hc] at h1; simpa using h1
  rw [hf] at h1 h2
  simp only [decide_true, cond_true] at h1 h2
  unfold sealO at h2
  rw [h1] at h2
  exact ⟨fok_iff.1 hf, hI, h1, h2.symm⟩
theorem isF_write {f : Fm} {p : List UInt8} (h : IsF p f) : writeI f = 0 ∧ writeO f = p := by
  obtain ⟨hf, hI, hs, rfl⟩ := h
  unfold writeI writeO sealO
  rw [fok_iff.2 hf, hs]
  simp
theorem rread_isF {p : List UInt8} {f : Fm} (ho : openE p = 0) (h : rreadB p = some f) : IsF p f := by
  unfold rreadB at h
  obtain ⟨x, h1, hc, rfl⟩ := bind_if h
  simp only [Bool.and_eq_true, decide_eq_true_eq] at hc
  obtain ⟨k1, k2⟩ := chs_is _ _ h1
  have i1 : In (openL p) (num (openL p) (0, 0, 0)).2 := (in0 _).num
  exact write_isF ⟨i64n (num_lt (in0 _)), intsN_lt (numsN_lt _ _ _ i1.cnt), fun g hg => (k2 g hg).2⟩ hc.1 hc.2
/-- Both answer the same. -/
theorem read_rread (p : List UInt8) : readF p = rreadF p ∧ readI p = rreadI p := by
  unfold readF rreadF readI rreadI
  cases ho : decide (openE p = 0)
  · exact ⟨rfl, rfl⟩
  · have ho' := of_decide_eq_true ho
    simp only [cond_true]
    have : readB p = rreadB p := by
      cases h1 : readB p with
      | some f => exact (isF_read (read_isF ho' h1)).2.2.symm
      | none =>
        cases h2 : rreadB p with
        | none => rfl
        | some f => rw [(isF_read (rread_isF ho' h2)).2.1] at h1; cases h1
    rw [this]
    exact ⟨rfl, rfl⟩
theorem isF_readF {p : List UInt8} {f : Fm} (h : IsF p f) : readF p = f ∧ readI p = 0 := by
  obtain ⟨h1, h2, -⟩ := isF_read h
  unfold readF readI
  rw [h1, h2]
  exact ⟨rfl, rfl⟩
theorem readI_isF {p : List UInt8} (h : readI p = 0) : IsF p (readF p) := by
  unfold readI at h
  cases ho : decide (openE p = 0)
  · rw [ho] at h; exact absurd h (of_decide_eq_false ho)
  · rw [ho] at h
    have ho' := of_decide_eq_true ho
    cases h1 : readB p with
    | none => rw [h1] at h; simp at h
    | some f =>
      have hi := read_isF ho' h1
      rw [(isF_readF hi).1]; exact hi
end Go.VL.wire

namespace Go.VL
open Go Go.ChangeShapes Go.WideShapes Go.ChangeAt Go.RowKit

/-- What was there is as it was. -/
structure OldKept (W w' : World) : Prop where
  os : w'.os = W.os
  out : w'.output = W.output
  heap : ∀ (b : Nat) (o : Obj), W.heap[b]? = some o → w'.heap[b]? = some o

def pubOf (W : World) (b : Nat) : List Value := match W.heap[b]? with
  | some (.cells c _ _) => c.toList
  | _ => []
/-- The ghost at a claim's start: all that is there is laid aside, and may be read. -/
def g0 (W : World) : G := { mu := [], rho := [], pub := pubOf W, phi := fun b => W.heap[b]?, snap := fun _ _ => none, os := W.os, tape := W.tape, out := W.output }

theorem inv0 (W : World) : INV (g0 W) ⟨[], []⟩ W where
  os := rfl
  tape := rfl
  out := rfl
  phi := fun _ _ h => h
  pub := fun b i v h => by
    simp only [g0, pubOf] at h
    split at h
    · rename_i c e z hx
      exact ⟨c, e, z, hx, by simpa using h⟩
    · simp at h
  mulen := rfl
  objs := fun i b o h => by simp [g0] at h
  inj := fun i j b h => by simp [g0] at h
  rholen := rfl
  own := fun r v s es h => by simp at h
  snapb := fun b n x h => by simp [g0] at h
  apart := fun r r' v s es v' s' es' b h => by simp at h

theorem entry {P : Program} {f : FuncId} {xs : List V} {W : World} {vs : List Value} {K : V → St → Prop} (h : CallA P f xs ⟨[], []⟩ K) (hr : RepL (g0 W) xs vs) :
    Calls P f vs.toArray W fun e w' => ∃ v x σ γ, e = .returned v ∧ OldKept W w' ∧ INV γ σ w' ∧ Rep γ x v ∧ K x σ := by
  refine (h.2 (g0 W) W vs (inv0 W) hr).mono ?_
  rintro e w' ⟨v, x, σ, γ, rfl, hle, hi, hx, hk⟩
  refine ⟨v, x, σ, γ, rfl, ⟨hi.os.trans hle.os, hi.out.trans hle.out, fun b o hb => hi.phi b o ?_⟩, hi, hx, hk⟩
  rw [hle.phi]; exact hb

theorem OldKept.frame {W w' : World} (h : OldKept W w') (may : MemPlace → Prop) : W.keptBut w' may := by
  refine ⟨h.os, h.out, fun i hi => ?_⟩
  have h1 : W.heap[i]? = some W.heap[i] := Array.getElem?_eq_getElem hi
  rw [h1, h.heap _ _ h1]
  cases W.heap[i] <;> simp

theorem OldKept.frozen {W w' : World} (h : OldKept W w') {a : Addr} (ha : a.block < W.heap.size) : w'.frozen? a = W.frozen? a := by
  have h1 : W.heap[a.block]? = some W.heap[a.block] := Array.getElem?_eq_getElem ha
  simp only [World.frozen?, h1, h.heap _ _ h1]

/-- A claim's postcondition where nothing that was there has changed. -/
theorem post_of_old {H : Type} {enc : TypeId × Value → H} {P : Program} {f : Func} {s : ChangeSpec} {apart fresh handsOn again : Bool} {W W' : World} {args : Array Value} {v : Value} {ds gs : List (DataW H)} {before pa pv : List MemPlace}
    (hW : DataW.Whole enc P f.params.toList s.vars apart W args.toList ds gs before)
    (hres : ∀ (b : Nat) (sp : Nat → Bool) (hd : Bool), DataW.TrodAll enc P W' b sp hd f.resultTypes.toList (v.resultList f.resultTypes.size) (s.fn H (ds ++ gs)).results [])
    (hargs : ∀ sp : Nat → Bool, (∀ p ∈ before, sp p.block = true) → DataW.TrodAll enc P W' 0 sp true f.params.toList args.toList (s.fn H (ds ++ gs)).args pa)
    (hvars : ∀ sp : Nat → Bool, (∀ p ∈ before, sp p.block = true) → DataW.TrodVars enc P W' sp s.vars (s.fn H (ds ++ gs)).vars pv)
    (hps : before = pa ++ pv) (hk : OldKept W W')
    (hok : ∀ (j : Nat) (t : TypeId) (r : Value), f.resultTypes[j]? = some t → (v.resultList f.resultTypes.size)[j]? = some r → Value.okWide P W' .any 0 t r) :
    s.post enc P f apart fresh handsOn again W args v W' := by
  have hold : ∀ p ∈ before, (fun b => decide (b < W.heap.size)) p.block = true := fun p hp => by simpa using hW.lt p hp
  have hlt := hW.lt
  refine ⟨ds, gs, before, [], pa, pv, hW, hres _ _ _, hargs _ hold, hvars _ hold, World.keptBut_mono (fun p hp => ⟨hp, ?_⟩) (hk.frame (· ∈ before)), fun _ => ?_⟩
  · rw [hps, List.mem_append] at hp
    exact Or.inr hp
  · obtain ⟨_, _, _, _, _, hz, hn⟩ := hW
    refine ⟨hok, _, _, ([] ++ pa) ++ pv, ⟨[] ++ pa, pv, trodAll_append (hargs _ (fun _ _ => rfl)) (hres _ _ _), hvars _ (fun _ _ => rfl), rfl, ?_, ?_⟩, ?_⟩
    · intro b off hp
      have hp' : MemPlace.cell b off ∈ before := by rw [hps]; simpa using hp
      rw [hk.frozen (by have := hlt _ hp'; exact this)]
      exact hz b off hp'
    · intro ha
      have := hn ha
      rw [hps] at this
      simpa using this
    · intro p hp _
      rw [hps]
      simpa using hp
end Go.VL

namespace Go.VL
open Go

section
variable {H : Type} {enc : TypeId × Value → H} {P : Program} {w w' : World} {base : Nat} {sp : Nat → Bool} {held : Bool}

theorem OldKept.same {W W' : World} (h : OldKept W W') {p : MemPlace} (hp : p.block < W.heap.size) : W.sameAt W' p := by
  have h1 : W.heap[p.block]? = some W.heap[p.block] := Array.getElem?_eq_getElem hp
  have h2 := h.heap _ _ h1
  cases p with
  | cell b off =>
    simp only [MemPlace.block] at h1 h2
    simp only [World.sameAt, World.cell?, h1, h2]
  | map b =>
    simp only [MemPlace.block] at h1 h2
    simp only [World.sameAt, h1, h2]

theorem trodAll_old : ∀ {ts : List TypeId} {vs : List Value} {ds : List (DataW H)} {ps : List MemPlace}, DataW.TrodAll enc P w base sp held ts vs ds ps → (∀ p ∈ ps, w.sameAt w' p) → DataW.TrodAll enc P w' base sp held ts vs ds ps
  | [], [], [], _, h, _ => h
  | _ :: _, _ :: _, _ :: _, _, ⟨p, q, ⟨n, h1⟩, h2, e⟩, hs =>
    ⟨p, q, ⟨n, DataW.trod_carry n _ _ _ h1 (fun x hx => hs x (by rw [e]; exact List.mem_append_left _ hx))⟩, trodAll_old h2 (fun x hx => hs x (by rw [e]; exact List.mem_append_right _ hx)), e⟩
end
end Go.VL

namespace Go.VL
open Go

/-- Cells that were there from the start. -/
theorem pub_cells {W : World} {a : Addr} {vs : List Value} (h : ∀ (i : Nat) v, vs[i]? = some v → W.cell? ⟨a.block, a.off + i, none⟩ = some v) : pubAt (g0 W) a.block a.off vs := by
  intro i v hv
  have hc := h i v hv
  simp only [g0, pubOf]
  unfold World.cell? at hc
  cases hb : W.heap[a.block]? with
  | none => rw [hb] at hc; cases hc
  | some o =>
    rw [hb] at hc
    cases o with
    | cells c e z => simpa using hc
    | _ => cases hc

theorem repE_ints {γ : G} (k : IntKind) : ∀ (zs : List Int), RepE γ 1 (intsV k zs) (zs.map fun n => Value.int k n)
  | [] => by simp [intsV, RepE]
  | z :: r => by
    simp only [intsV, List.map_cons, RepE]
    exact ⟨[.int k z], r.map fun n => Value.int k n, rfl, rfl, by simp only [RepL]; exact ⟨_, _, rfl, by simp only [Rep], rfl⟩, repE_ints k r, by simp [Value.oneCell']⟩

/-- A slice of numbers that was there. -/
theorem arg_ints {W : World} {k : IntKind} {a : Addr} {len cap : Nat} {zs : List Int} (hsp : a.spot = none) (hl : zs.length = len) (hc : len ≤ cap) (h : ∀ i, i < zs.length → W.cell? (a.add i) = some (.int k (zs.getD i 0))) :
    Rep (g0 W) (.sl false .pub 1 (intsV k zs)) (.slice (some a) len cap) := by
  simp only [Rep, intsV_length]
  refine ⟨a, cap, zs.map fun n => Value.int k n, by rw [hl], .inr hsp, by omega, pub_cells fun i v hv => ?_, repE_ints k zs⟩
  rw [List.getElem?_map] at hv
  cases hz : zs[i]? with
  | none => rw [hz] at hv; cases hv
  | some z =>
    rw [hz] at hv
    have hi := (List.getElem?_eq_some_iff.1 hz).1
    have := h i hi
    obtain ⟨b, o, s⟩ := a
    simp only at hsp
    subst hsp
    simp only [Option.map_some, Option.some.injEq] at hv
    subst hv
    have hd : zs.getD i 0 = z := by simp [List.getD, hz]
    rw [hd] at this
    rwa [add_spot rfl] at this

theorem repE_strs {γ : G} : ∀ (ss : List ByteArray), RepE γ 1 (ss.map fun s => [V.str s.data.toList]) (ss.map Value.string)
  | [] => by simp [RepE]
  | s :: r => by
    simp only [List.map_cons, RepE]
    exact ⟨[.string s], r.map Value.string, rfl, rfl, by simp only [RepL]; exact ⟨_, _, rfl, by simp only [Rep], rfl⟩, repE_strs r, by simp [Value.oneCell']⟩

/-- A slice of texts that was there. -/
theorem arg_strs {W : World} {a : Addr} {len cap : Nat} {ss : List ByteArray} (hsp : a.spot = none) (hl : ss.length = len) (hc : len ≤ cap) (h : ∀ i, i < ss.length → W.cell? (a.add i) = some (.string (ss.getD i ByteArray.empty))) :
    Rep (g0 W) (.sl false .pub 1 (ss.map fun s => [V.str s.data.toList])) (.slice (some a) len cap) := by
  simp only [Rep, List.length_map]
  refine ⟨a, cap, ss.map Value.string, by rw [hl], .inr hsp, by omega, pub_cells fun i v hv => ?_, repE_strs ss⟩
  rw [List.getElem?_map] at hv
  cases hz : ss[i]? with
  | none => rw [hz] at hv; cases hv
  | some z =>
    rw [hz] at hv
    have hi := (List.getElem?_eq_some_iff.1 hz).1
    have := h i hi
    obtain ⟨b, o, s⟩ := a
    simp only at hsp
    subst hsp
    simp only [Option.map_some, Option.some.injEq] at hv
    subst hv
    have hd : ss.getD i ByteArray.empty = z := by simp [List.getD, hz]
    rw [hd] at this
    rwa [add_spot rfl] at this
end Go.VL

namespace Go.VL
open Go Go.ChangeShapes Go.WideShapes Go.ChangeAt Go.RowKit

/-- Shapes of what is read. -/
inductive T where
  | int (k : IntKind)
  | bool
  | str
  | sl (s : Nat) (e : T)
  | agg (l : List T)
  | arr (n : Nat) (e : T)

def tysOf (P : Program) (f : TypeId → Option T) (all : Nat) : Nat → List Field → Option (List T)
  | o, [] => bif Nat.beq o all then some [] else none
  | o, x :: r => bif Nat.beq x.offset o then (match f x.type, tysOf P f all (o + P.cellsOf x.type) r with
    | some a, some b => some (a :: b)
    | _, _ => none) else none
/-- A type's shape. -/
def tyOf (P : Program) : Nat → TypeId → Option T
  | 0, _ => none
  | n + 1, t => match P.underlying t with
    | some (.int k) => bif Nat.beq (P.cellsOf t) 1 then some (.int k) else none
    | some .bool => bif Nat.beq (P.cellsOf t) 1 then some .bool else none
    | some .string => bif Nat.beq (P.cellsOf t) 1 then some .str else none
    | some (.slice e) => bif Nat.beq (P.cellsOf t) 1 && Nat.ble 1 (P.cellsOf e) then (tyOf P n e).map (.sl (P.cellsOf e)) else none
    | some (.struct fs) => (tysOf P (tyOf P n) (P.cellsOf t) 0 fs.toList).map .agg
    | some (.array m e) => bif Nat.beq (P.cellsOf t) (m * P.cellsOf e) then (tyOf P n e).map (.arr m) else none
    | _ => none

mutual
/-- Cells of a shape. -/
def T.has : T → List V → Prop
  | .int k, xs => ∃ n, xs = [.int k n] ∧ (Lit.int k n).wf = true
  | .bool, xs => ∃ b, xs = [.bool b]
  | .str, xs => ∃ s, xs = [.str s]
  | .sl s e, xs => xs = [.sl true .pub 0 []] ∨ ∃ es, xs = [.sl false .pub s es] ∧ ∀ x ∈ es, e.has x
  | .agg l, xs => T.hasL l xs
  | .arr n e, xs => ∃ l : List (List V), l.length = n ∧ xs = l.flatten ∧ ∀ x ∈ l, e.has x
def T.hasL : List T → List V → Prop
  | [], xs => xs = []
  | t :: r, xs => ∃ a b, xs = a ++ b ∧ t.has a ∧ T.hasL r b
end

mutual
/-- How much there is of it. -/
def vb : V → Nat
  | .str s => s.length + 1
  | .sl _ _ _ es => vbe es + 1
  | .int _ _ | .bool _ | .agg _ | .tup _ | .ptr _ | .elt _ _ _ _ _ | .map _ | .fn _ _ | .nilf | .raw _ | .bad => 1
def vbs : List V → Nat
  | [] => 0
  | x :: r => vb x + vbs r
def vbe : List (List V) → Nat
  | [] => 0
  | x :: r => vbs x + vbe r
end
theorem vbs_append : ∀ (a b : List V), vbs (a ++ b) = vbs a + vbs b
  | [], b => by simp [vbs]
  | x :: a, b => by simp [vbs, vbs_append a b, Nat.add_assoc]
theorem vbs_flatten : ∀ (l : List (List V)), vbs l.flatten = vbe l
  | [] => by simp [vbs, vbe]
  | x :: l => by simp [vbe, vbs_append, vbs_flatten l]

/-- A measure of data that counts at least so much. -/
structure Bulk {H : Type} (B : DataW H → Nat) : Prop where
  lit : ∀ l, 1 ≤ B (.lit l)
  str : ∀ s, s.length + 1 ≤ B (.lit (.string s))
  nil : 1 ≤ B .nil
  slice : ∀ es sp, (es.map B).sum + 1 ≤ B (.slice es sp)
  agg : ∀ ps, (ps.map B).sum ≤ B (.agg ps)

section
variable {H : Type} {enc : TypeId × Value → H} {P : Program} {W : World} {sp : Nat → Bool} {held : Bool} {B : DataW H → Nat}

/-- What is read is of its type's shape. -/
def Reads (W : World) (B : DataW H → Nat) (T0 : T) (c : Nat) (cs : List Value) (d : DataW H) : Prop :=
  ∃ xs, RepL (g0 W) xs cs ∧ T0.has xs ∧ vbs xs ≤ B d ∧ (∀ v ∈ cs, v.oneCell' = true) ∧ cs.length = c

theorem RepL.len {γ : G} : ∀ {xs : List V} {vs : List Value}, RepL γ xs vs → xs.length = vs.length
  | [], vs, h => by simp only [RepL] at h; subst h; rfl
  | x :: xs, vs, h => by
    simp only [RepL] at h
    obtain ⟨v, ws, rfl, _, h2⟩ := h
    simp [RepL.len h2]

theorem rows_read {T0 : T} {a : Addr} {c : Nat} (hsp : a.spot = none) : ∀ (elems : List (DataW H × List MemPlace)) (k : Nat),
    (∀ (i : Nat) y, elems[i]? = some y → ∃ cs, W.cells? 0 (a.add ((k + i) * c)) c = some cs ∧ Reads W B T0 c cs y.1) →
    ∃ es vs, es.length = elems.length ∧ RepE (g0 W) c es vs ∧ (∀ x ∈ es, T0.has x) ∧ vbe es ≤ ((elems.map (·.1)).map B).sum ∧ ∀ (j : Nat) v, vs[j]? = some v → W.cell? ⟨a.block, a.off + k * c + j, none⟩ = some v
  | [], k, _ => ⟨[], [], rfl, by simp [RepE], by simp, by simp [vbe], by simp⟩
  | y :: r, k, h => by
    obtain ⟨es, vs, h1, h2, h3, h4, h5⟩ := rows_read hsp r (k + 1) fun i y hy => by
      obtain ⟨cs, e1, e2⟩ := h (i + 1) y (by simpa using hy)
      exact ⟨cs, by rw [show k + 1 + i = k + (i + 1) from by omega]; exact e1, e2⟩
    obtain ⟨cs, e1, xs, f1, f2, f3, f4, f5⟩ := h 0 y rfl
    obtain ⟨_, g1, g2⟩ := World.cells?_some e1
    refine ⟨xs :: es, cs ++ vs, by simp [h1], ?_, ?_, ?_, ?_⟩
    · simp only [RepE]
      exact ⟨cs, vs, rfl, by rw [f1.len, f5], f1, h2, f4⟩
    · intro x hx
      rcases List.mem_cons.1 hx with rfl | hx
      · exact f2
      · exact h3 x hx
    · simp only [vbe, List.map_cons, List.sum_cons]; omega
    · intro j v hv
      by_cases hj : j < cs.length
      · rw [List.getElem?_append_left hj] at hv
        have := g2 j (by omega)
        rw [hv, Nat.add_zero, add_spot hsp, add_spot rfl] at this
        exact this
      · rw [List.getElem?_append_right (by omega)] at hv
        have := h5 _ _ hv
        rw [show a.off + k * c + j = a.off + (k + 1) * c + (j - cs.length) from by rw [Nat.succ_mul]; omega]
        exact this

theorem fields_read (hB : Bulk B) {f : TypeId → Option T} {rd : TypeId → List Value → Option (DataW H × List MemPlace)} (ih : ∀ t T0 cs d ps, f t = some T0 → rd t cs = some (d, ps) → Reads W B T0 (P.cellsOf t) cs d) {all : Nat} :
    ∀ (fs : List Field) (o : Nat) (Ts : List T) (cs : List Value) (xs : List (DataW H × List MemPlace)), tysOf P f all o fs = some Ts → cs.length + o = all → xs.length = fs.length →
      (∀ (i : Nat) (x : Field), fs[i]? = some x → rd x.type ((cs.drop (x.offset - o)).take (P.cellsOf x.type)) = xs[i]?) →
      ∃ ys, RepL (g0 W) ys cs ∧ T.hasL Ts ys ∧ vbs ys ≤ ((xs.map (·.1)).map B).sum ∧ (∀ v ∈ cs, v.oneCell' = true)
  | [], o, Ts, cs, xs, ht, hl, hx, h => by
    simp only [tysOf] at ht
    cases hb : Nat.beq o all with
    | false => simp [hb] at ht
    | true =>
      simp only [hb, cond_true, Option.some.injEq] at ht
      subst ht
      have := Nat.eq_of_beq_eq_true hb
      have : cs = [] := by apply List.eq_nil_of_length_eq_zero; omega
      subst this
      exact ⟨[], by simp [RepL], by simp [T.hasL], by simp [vbs], by simp⟩
  | x :: r, o, Ts, cs, xs, ht, hl, hx, h => by
    simp only [tysOf] at ht
    cases hb : Nat.beq x.offset o with
    | false => simp [hb] at ht
    | true =>
      have ho := Nat.eq_of_beq_eq_true hb
      simp only [hb, cond_true] at ht
      split at ht
      · rename_i a b ha hbb
        simp only [Option.some.injEq] at ht
        subst ht
        cases xs with
        | nil => simp at hx
        | cons y ys =>
          have h0 := h 0 x rfl
          simp only [ho, Nat.sub_self, List.drop_zero, List.getElem?_cons_zero] at h0
          obtain ⟨zs, f1, f2, f3, f4, f5⟩ := ih _ _ _ _ _ ha h0
          have hle : P.cellsOf x.type ≤ cs.length := by rw [← f5, List.length_take]; omega
          obtain ⟨us, k1, k2, k3, k4⟩ := fields_read hB ih r (o + P.cellsOf x.type) b (cs.drop (P.cellsOf x.type)) ys hbb (by rw [List.length_drop]; omega) (by simpa using hx) (by
            intro i fd hfd
            have := h (i + 1) fd (by simpa using hfd)
            simp only [List.getElem?_cons_succ] at this
            rw [← this, List.drop_drop]
            -- a field's place is not ahead of where we are
            have hge : o + P.cellsOf x.type ≤ fd.offset := tysOf_ge hbb hfd
            congr 3
            omega)
          refine ⟨zs ++ us, ?_, ⟨zs, us, rfl, f2, k2⟩, ?_, ?_⟩
          · rw [← List.take_append_drop (P.cellsOf x.type) cs]
            exact f1.append k1
          · rw [vbs_append]; simp only [List.map_cons, List.sum_cons]; omega
          · intro v hv
            rw [← List.take_append_drop (P.cellsOf x.type) cs] at hv
            rcases List.mem_append.1 hv with hv | hv
            · exact f4 v hv
            · exact k4 v hv
      · cases ht
where
  tysOf_ge {f : TypeId → Option T} {all : Nat} : ∀ {fs : List Field} {o : Nat} {Ts : List T} {i : Nat} {fd : Field}, tysOf P f all o fs = some Ts → fs[i]? = some fd → o ≤ fd.offset
    | [], o, Ts, i, fd, _, h => by simp at h
    | x :: r, o, Ts, i, fd, ht, h => by
      simp only [tysOf] at ht
      cases hb : Nat.beq x.offset o with
      | false => simp [hb] at ht
      | true =>
        have ho := Nat.eq_of_beq_eq_true hb
        simp only [hb, cond_true] at ht
        split at ht
        · rename_i a b ha hbb
          cases i with
          | zero => simp only [List.getElem?_cons_zero, Option.some.injEq] at h; subst h; omega
          | succ i =>
            simp only [List.getElem?_cons_succ] at h
            have := tysOf_ge hbb h
            omega
        · cases ht

theorem arr_read {T0 : T} {c : Nat} {rd : List Value → Option (DataW H × List MemPlace)} (ih : ∀ cs d ps, rd cs = some (d, ps) → Reads W B T0 c cs d) :
    ∀ (n : Nat) (cs : List Value) (xs : List (DataW H × List MemPlace)), cs.length = n * c → xs.length = n → (∀ (i : Nat), i < n → rd ((cs.drop (i * c)).take c) = xs[i]?) →
      ∃ l : List (List V), l.length = n ∧ RepL (g0 W) l.flatten cs ∧ (∀ x ∈ l, T0.has x) ∧ vbe l ≤ ((xs.map (·.1)).map B).sum ∧ (∀ v ∈ cs, v.oneCell' = true)
  | 0, cs, xs, hl, hx, h => by
    have : cs = [] := by apply List.eq_nil_of_length_eq_zero; omega
    subst this
    exact ⟨[], rfl, by simp [RepL], by simp, by simp [vbe], by simp⟩
  | n + 1, cs, xs, hl, hx, h => by
    cases xs with
    | nil => simp at hx
    | cons y ys =>
      have h0 := h 0 (by omega)
      simp only [Nat.zero_mul, List.drop_zero, List.getElem?_cons_zero] at h0
      obtain ⟨zs, f1, f2, f3, f4, f5⟩ := ih _ _ _ h0
      obtain ⟨l, k1, k2, k3, k4, k5⟩ := arr_read ih n (cs.drop c) ys (by rw [List.length_drop, hl, Nat.succ_mul]; omega) (by simpa using hx) (fun i hi => by
        have := h (i + 1) (by omega)
        simp only [List.getElem?_cons_succ] at this
        rw [← this, List.drop_drop, Nat.succ_mul, Nat.add_comm])
      refine ⟨zs :: l, by simp [k1], ?_, ?_, ?_, ?_⟩
      · rw [List.flatten_cons, ← List.take_append_drop c cs]
        exact f1.append k2
      · intro x hx
        rcases List.mem_cons.1 hx with rfl | hx
        · exact f2
        · exact k3 x hx
      · simp only [vbe, List.map_cons, List.sum_cons]; omega
      · intro v hv
        rw [← List.take_append_drop c cs] at hv
        rcases List.mem_append.1 hv with hv | hv
        · exact f4 v hv
        · exact k5 v hv

theorem one_read {x : V} {v : Value} {T0 : T} {d : DataW H} (hr : Rep (g0 W) x v) (ht : T0.has [x]) (hb : vb x ≤ B d) (h1 : v.oneCell' = true) : Reads W B T0 1 [v] d :=
  ⟨[x], by simp only [RepL]; exact ⟨v, [], rfl, hr, rfl⟩, ht, by simpa [vbs] using hb, by simpa using h1, rfl⟩

theorem read_has (hB : Bulk B) : ∀ (n : Nat) (t : TypeId) (T0 : T) (fuel : Nat) (cs : List Value) (d : DataW H) (ps : List MemPlace), tyOf P n t = some T0 → DataW.trod enc P W 0 sp held fuel t cs = some (d, ps) → Reads W B T0 (P.cellsOf t) cs d
  | 0, t, T0, fuel, cs, d, ps, ht, _ => by simp [tyOf] at ht
  | n + 1, t, T0, fuel, cs, d, ps, ht, h => by
    have c1 : ∀ {x : Option T}, (bif Nat.beq (P.cellsOf t) 1 then x else none) = some T0 → P.cellsOf t = 1 ∧ x = some T0 := by
      intro x hx
      cases hb : Nat.beq (P.cellsOf t) 1 with
      | false => simp [hb] at hx
      | true => exact ⟨Nat.eq_of_beq_eq_true hb, by simpa [hb] using hx⟩
    simp only [tyOf] at ht
    split at ht
    · rename_i k hu
      obtain ⟨hc, h0⟩ := c1 ht
      cases h0
      rw [hc]
      obtain ⟨n', rfl, h1, hw⟩ := DataW.trod_int hu h
      simp only [Prod.mk.injEq] at h1
      obtain ⟨rfl, rfl⟩ := h1
      exact one_read (x := .int k n') (by simp only [Rep]) ⟨_, rfl, hw⟩ (by simpa [vb] using hB.lit _) rfl
    · rename_i hu
      obtain ⟨hc, h0⟩ := c1 ht
      cases h0
      rw [hc]
      obtain ⟨b, rfl, h1⟩ := DataW.trod_bool hu h
      simp only [Prod.mk.injEq] at h1
      obtain ⟨rfl, rfl⟩ := h1
      exact one_read (x := .bool b) (by simp only [Rep]) ⟨_, rfl⟩ (by simpa [vb] using hB.lit _) rfl
    · rename_i hu
      obtain ⟨hc, h0⟩ := c1 ht
      cases h0
      rw [hc]
      obtain ⟨s, rfl, h1, _⟩ := DataW.trod_string hu h
      simp only [Prod.mk.injEq] at h1
      obtain ⟨rfl, rfl⟩ := h1
      exact one_read (x := .str s.data.toList) (by simp only [Rep]) ⟨_, rfl⟩ (by simp only [vb]; exact hB.str _) rfl
    · rename_i e hu
      cases hb : (Nat.beq (P.cellsOf t) 1 && Nat.ble 1 (P.cellsOf e)) with
      | false => simp [hb] at ht
      | true =>
        simp only [hb, cond_true, Option.map_eq_some_iff] at ht
        obtain ⟨Te, hTe, rfl⟩ := ht
        simp only [Bool.and_eq_true] at hb
        have hc := Nat.eq_of_beq_eq_true hb.1
        have he := Nat.le_of_ble_eq_true hb.2
        rw [hc]
        rcases DataW.trod_slice hu h with ⟨rfl, h0⟩ | ⟨a, len, cap, elems, rest, m, _, rfl, h0, _, hl, _, hlen, hel, _⟩
        · simp only [Prod.mk.injEq] at h0
          obtain ⟨rfl, rfl⟩ := h0
          exact one_read (x := .sl true .pub 0 []) (by simp [Rep]) (.inl rfl) (by simpa [vb, vbe] using hB.nil) rfl
        · simp only [Prod.mk.injEq] at h0
          obtain ⟨rfl, rfl⟩ := h0
          have each : ∀ (i : Nat) y, elems[i]? = some y → ∃ cs, W.cells? 0 (a.add ((0 + i) * P.cellsOf e)) (P.cellsOf e) = some cs ∧ Reads W B Te (P.cellsOf e) cs y.1 := by
            intro i y hy
            have hi : i < len := by rw [← hlen]; exact (List.getElem?_eq_some_iff.1 hy).1
            have := hel i hi
            rw [hy, Option.bind_eq_some_iff] at this
            obtain ⟨cs, e1, e2⟩ := this
            exact ⟨cs, by rw [Nat.zero_add]; exact e1, read_has hB n e Te m cs y.1 y.2 hTe e2⟩
          by_cases hsp : a.spot = none
          · obtain ⟨es, vs, k1, k2, k3, k4, k5⟩ := rows_read hsp elems 0 each
            refine one_read (x := .sl false .pub (P.cellsOf e) es) ?_ (.inr ⟨es, rfl, k3⟩) ?_ rfl
            · simp only [Rep]
              exact ⟨a, cap, vs, by rw [k1, hlen], .inr hsp, by omega, pub_cells (fun i v hv => by simpa using k5 i v hv), k2⟩
            · have := hB.slice (elems.map (·.1)) (rest.map (·.1))
              simp only [vb]
              omega
          · have hnil : elems = [] := by
              cases elems with
              | nil => rfl
              | cons y r =>
                exfalso
                obtain ⟨cs, e1, _⟩ := each 0 y rfl
                obtain ⟨_, g1, g2⟩ := World.cells?_some e1
                have := g2 0 he
                have h0 : (a.add ((0 + 0) * P.cellsOf e)).add 0 = a := by simp [Addr.add]
                rw [h0] at this
                have hcs : cs[0]? = some cs[0] := List.getElem?_eq_getElem (by omega)
                rw [hcs] at this
                unfold World.cell? at this
                split at this
                · cases hx : a.spot with
                  | none => exact hsp hx
                  | some b => simp [hx] at this
                · cases this
            subst hnil
            refine one_read (x := .sl false .pub (P.cellsOf e) []) ?_ (.inr ⟨[], rfl, by simp⟩) ?_ rfl
            · simp only [Rep]
              simp only [List.length_nil] at hlen
              exact ⟨a, cap, [], by rw [← hlen]; rfl, .inl trivial, by simp, fun i v hv => by simp at hv, by simp [RepE]⟩
            · have := hB.slice ([] : List (DataW H)) (rest.map (·.1))
              simp only [vb, vbe]
              simp only [List.map_nil, List.sum_nil] at this ⊢
              omega
    · rename_i fs hu
      simp only [Option.map_eq_some_iff] at ht
      obtain ⟨Ts, hTs, rfl⟩ := ht
      obtain ⟨xs, m, _, h0, hl, hlen, hf⟩ := DataW.trod_struct hu h
      simp only [Prod.mk.injEq] at h0
      obtain ⟨rfl, rfl⟩ := h0
      obtain ⟨ys, k1, k2, k3, k4⟩ := fields_read (P := P) hB (f := tyOf P n) (rd := fun t cs => DataW.trod enc P W 0 sp held m t cs) (fun t T0 cs d ps h1 h2 => read_has hB n t T0 m cs d ps h1 h2) fs.toList 0 Ts cs xs hTs (by omega) (by simpa using hlen)
        (fun i x hx => by simpa using hf i x (by simpa using hx))
      exact ⟨ys, k1, k2, Nat.le_trans k3 (hB.agg _), k4, hl⟩
    · rename_i m e hu
      cases hb : Nat.beq (P.cellsOf t) (m * P.cellsOf e) with
      | false => simp [hb] at ht
      | true =>
        simp only [hb, cond_true, Option.map_eq_some_iff] at ht
        obtain ⟨Te, hTe, rfl⟩ := ht
        have hc := Nat.eq_of_beq_eq_true hb
        obtain ⟨xs, q, _, h0, hl, hlen, hf⟩ := DataW.trod_array hu h
        simp only [Prod.mk.injEq] at h0
        obtain ⟨rfl, rfl⟩ := h0
        obtain ⟨l, k1, k2, k3, k4, k5⟩ := arr_read (rd := fun cs => DataW.trod enc P W 0 sp held q e cs) (T0 := Te) (c := P.cellsOf e) (W := W) (B := B) (fun cs d ps h2 => read_has hB n e Te q cs d ps hTe h2) m cs xs (by rw [hl, hc]) hlen hf
        exact ⟨l.flatten, k2, ⟨l, k1, rfl, k3⟩, by rw [vbs_flatten]; exact Nat.le_trans k4 (hB.agg _), k5, hl⟩
    · cases ht

/-- An argument of a shape. -/
def T.arg : T → V → Prop
  | .agg l, x => ∃ xs, x = .agg xs ∧ T.hasL l xs
  | .arr n e, x => ∃ xs, x = .agg xs ∧ (T.arr n e).has xs
  | t, x => t.has [x]
def T.args : List T → List V → Prop
  | [], xs => xs = []
  | t :: r, xs => ∃ x ys, xs = x :: ys ∧ t.arg x ∧ T.args r ys
def vba : V → Nat
  | .agg xs => vbs xs
  | x => vb x
def vbas : List V → Nat
  | [] => 0
  | x :: r => vba x + vbas r

theorem vba_one {x : V} (h : ∀ xs, x ≠ .agg xs) : vba x = vbs [x] := by
  cases x <;> first | rfl | exact absurd rfl (h _)

def tysAll (P : Program) (n : Nat) : List TypeId → Option (List T)
  | [] => some []
  | t :: r => match tyOf P n t, tysAll P n r with
    | some a, some b => some (a :: b)
    | _, _ => none

theorem cells_one {v q : Value} (hq : v.cells.toList = [q]) (ha : ∀ cs, v ≠ .agg cs) : v.cells.toList = [v] := by
  cases v <;> first | rfl | exact absurd rfl (ha _)

theorem arg_read (hB : Bulk B) {n : Nat} {t : TypeId} {T0 : T} {base : Nat} {v : Value} {d : DataW H} {ps : List MemPlace} (ht : tyOf P n t = some T0) (hok : Value.okWide P W .any base t v) (h : DataW.Trod enc P W 0 sp held t v d ps) :
    ∃ x, Rep (g0 W) x v ∧ T0.arg x ∧ vba x ≤ B d := by
  obtain ⟨fuel, h⟩ := h
  obtain ⟨xs, k1, k2, k3, k4, k5⟩ := read_has hB n t T0 fuel _ d ps ht h
  have flat : ∀ (T1 : T), T0 = T1 → (∀ x, T1.has [x] → T1.arg x ∧ ∀ xs, x ≠ .agg xs) → v.cells.toList = [v] → (∃ x, xs = [x]) → ∃ x, Rep (g0 W) x v ∧ T0.arg x ∧ vba x ≤ B d := by
    rintro T1 rfl ha hv ⟨x, rfl⟩
    rw [hv] at k1
    simp only [RepL, List.cons.injEq] at k1
    obtain ⟨w, ws, ⟨rfl, rfl⟩, k1, -⟩ := k1
    obtain ⟨a1, a2⟩ := ha x k2
    exact ⟨x, k1, a1, by rw [vba_one a2]; exact k3⟩
  have agg : ∀ cs, v = .agg cs → Rep (g0 W) (.agg xs) v := by
    intro cs hv
    subst hv
    simp only [Rep]
    exact ⟨cs.toList, by simp, k1⟩
  cases n with
  | zero => simp [tyOf] at ht
  | succ n =>
    unfold Value.okWide at hok
    simp only [tyOf] at ht
    split at ht
    · rename_i k hu
      rw [hu] at hok
      have hT : T0 = .int k := by
        cases hb : Nat.beq (P.cellsOf t) 1 <;> simp [hb] at ht
        exact ht.symm
      subst hT
      obtain ⟨m, rfl, hw⟩ := k2
      exact flat _ rfl (fun x hx => ⟨hx, by obtain ⟨m, hx, _⟩ := hx; simp only [List.cons.injEq, and_true] at hx; subst hx; simp⟩) (by
        obtain ⟨q, hq, _⟩ := DataW.trod_int hu h
        exact cells_one hq (by intro cs hcs; subst hcs; simp [Cell.okWide, Cell.ok, hu] at hok)) ⟨_, rfl⟩
    · rename_i hu
      rw [hu] at hok
      have hT : T0 = .bool := by
        cases hb : Nat.beq (P.cellsOf t) 1 <;> simp [hb] at ht
        exact ht.symm
      subst hT
      obtain ⟨m, rfl⟩ := k2
      exact flat _ rfl (fun x hx => ⟨hx, by obtain ⟨m, hx⟩ := hx; simp only [List.cons.injEq, and_true] at hx; subst hx; simp⟩) (by
        obtain ⟨q, hq, _⟩ := DataW.trod_bool hu h
        exact cells_one hq (by intro cs hcs; subst hcs; simp [Cell.okWide, Cell.ok, hu] at hok)) ⟨_, rfl⟩
    · rename_i hu
      rw [hu] at hok
      have hT : T0 = .str := by
        cases hb : Nat.beq (P.cellsOf t) 1 <;> simp [hb] at ht
        exact ht.symm
      subst hT
      obtain ⟨m, rfl⟩ := k2
      exact flat _ rfl (fun x hx => ⟨hx, by obtain ⟨m, hx⟩ := hx; simp only [List.cons.injEq, and_true] at hx; subst hx; simp⟩) (by
        obtain ⟨q, hq, _⟩ := DataW.trod_string hu h
        exact cells_one hq (by intro cs hcs; subst hcs; simp [Cell.okWide, Cell.ok, hu] at hok)) ⟨_, rfl⟩
    · rename_i e hu
      rw [hu] at hok
      have hT : ∃ s Te, T0 = .sl s Te := by
        cases hb : (Nat.beq (P.cellsOf t) 1 && Nat.ble 1 (P.cellsOf e)) <;> simp [hb] at ht
        obtain ⟨Te, _, h⟩ := ht
        exact ⟨_, _, h.symm⟩
      obtain ⟨s, Te, rfl⟩ := hT
      have hxs : ∃ x, xs = [x] := by
        rcases k2 with rfl | ⟨es, rfl, _⟩ <;> exact ⟨_, rfl⟩
      exact flat _ rfl (fun x hx => ⟨hx, by
        rcases hx with hx | ⟨es, hx, _⟩ <;> (simp only [List.cons.injEq, and_true] at hx; subst hx; simp)⟩) (by
        have : ∃ q, v.cells.toList = [q] := by
          rcases DataW.trod_slice hu h with ⟨hq, _⟩ | ⟨a, len, cap, elems, rest, m, _, hq, _⟩ <;> exact ⟨_, hq⟩
        obtain ⟨q, hq⟩ := this
        exact cells_one hq (by intro cs hcs; subst hcs; simp [Cell.okWide, Cell.ok, hu] at hok)) hxs
    · rename_i fs hu
      rw [hu] at hok
      obtain ⟨cs, hv, _⟩ := hok
      simp only [Option.map_eq_some_iff] at ht
      obtain ⟨Ts, hTs, rfl⟩ := ht
      exact ⟨.agg xs, agg cs hv, ⟨xs, rfl, k2⟩, k3⟩
    · rename_i m e hu
      rw [hu] at hok
      obtain ⟨cs, hv, _⟩ := hok
      have hT : ∃ Te, T0 = .arr m Te := by
        cases hb : Nat.beq (P.cellsOf t) (m * P.cellsOf e) <;> simp [hb] at ht
        obtain ⟨Te, _, h⟩ := ht
        exact ⟨_, h.symm⟩
      obtain ⟨Te, rfl⟩ := hT
      exact ⟨.agg xs, agg cs hv, ⟨xs, rfl, k2⟩, k3⟩
    · cases ht
theorem args_read (hB : Bulk B) {n base : Nat} : ∀ (ts : List TypeId) (Ts : List T) (vs : List Value) (ds : List (DataW H)) (ps : List MemPlace), tysAll P n ts = some Ts → (∀ (j : Nat) t v, ts[j]? = some t → vs[j]? = some v → Value.okWide P W .any base t v) →
    DataW.TrodAll enc P W 0 sp held ts vs ds ps → ∃ xs, RepL (g0 W) xs vs ∧ T.args Ts xs ∧ vbas xs ≤ (ds.map B).sum
  | [], Ts, [], [], ps, ht, _, _ => by
    simp only [tysAll, Option.some.injEq] at ht
    subst ht
    exact ⟨[], by simp [RepL], by simp [T.args], by simp [vbas]⟩
  | t :: ts, Ts, v :: vs, d :: ds, ps, ht, hok, ⟨p, q, h1, h2, _⟩ => by
    simp only [tysAll] at ht
    split at ht
    · rename_i a b ha hb
      simp only [Option.some.injEq] at ht
      subst ht
      obtain ⟨x, e1, e2, e3⟩ := arg_read hB ha (hok 0 t v rfl rfl) h1
      obtain ⟨xs, f1, f2, f3⟩ := args_read hB ts b vs ds q hb (fun j t v h1 h2 => hok (j + 1) t v (by simpa using h1) (by simpa using h2)) h2
      refine ⟨x :: xs, by simp only [RepL]; exact ⟨v, vs, rfl, e1, f1⟩, ⟨x, xs, rfl, e2, f2⟩, ?_⟩
      simp only [vbas, List.map_cons, List.sum_cons]; omega
    · cases ht
  | [], _, _ :: _, _, _, _, _, h => by simp [DataW.TrodAll] at h
  | [], _, [], _ :: _, _, _, _, h => by simp [DataW.TrodAll] at h
  | _ :: _, _, [], _, _, _, _, h => by simp [DataW.TrodAll] at h
  | _ :: _, _, _ :: _, [], _, _, _, h => by simp [DataW.TrodAll] at h

theorem trodAll_stays (hl : laidOutB P = true) {W' : World} {sp' : Nat → Bool} : ∀ {ts : List TypeId} {vs : List Value} {ds : List (DataW H)} {ps : List MemPlace}, (ts.all fun t => P.readableRec t && decide (t < P.types.size)) = true →
    DataW.TrodAll enc P W 0 (fun _ => true) true ts vs ds ps → (∀ p ∈ ps, W.sameAt W' p) → (∀ p ∈ ps, sp' p.block = true) → DataW.TrodAll enc P W' 0 sp' true ts vs ds ps
  | [], [], [], _, _, h, _, _ => h
  | _ :: _, _ :: _, _ :: _, _, hr, ⟨p, q, h1, h2, e⟩, hs, hp => by
    simp only [List.all_cons, Bool.and_eq_true, decide_eq_true_eq] at hr
    exact ⟨p, q, WideElems.Trod_stays hl hr.1.1 hr.1.2 h1 (fun x hx => hs x (by rw [e]; exact List.mem_append_left _ hx)) (fun x hx => hp x (by rw [e]; exact List.mem_append_left _ hx)),
      trodAll_stays hl (by simpa using hr.2) h2 (fun x hx => hs x (by rw [e]; exact List.mem_append_right _ hx)) (fun x hx => hp x (by rw [e]; exact List.mem_append_right _ hx)), e⟩

/-- A law's contract, from V-logic: whatever the arguments of the types' shapes, it tells true. -/
theorem law_calls (hB : Bulk B) {f : Func} {fid : FuncId} {s : ChangeSpec} {W : World} {base n : Nat} {args : Array Value} {ds gs : List (DataW H)} {before : List MemPlace} {Ts : List T} {tb : TypeId}
    (hlo : laidOutB P = true) (hts : tysAll P n f.params.toList = some Ts) (hrd : (f.params.toList.all fun t => P.readableRec t && decide (t < P.types.size)) = true) (hvars : s.vars = []) (hres : f.resultTypes = #[tb]) (hb : P.underlying tb = some .bool)
    (hspec : ∀ ds : List (DataW H), ds.length = f.params.size → s.fn H ds = { results := [.lit (.bool true)], args := ds })
    (hval : ∀ (j : Nat) t v, f.params[j]? = some t → args[j]? = some v → Value.okWide P W .any base t v)
    (hW : DataW.Whole enc P f.params.toList s.vars false W args.toList ds gs before)
    (hc : ∀ xs, T.args Ts xs → vbas xs ≤ ((ds ++ gs).map B).sum → CallA P fid xs ⟨[], []⟩ fun v _ => v = .bool true) :
    Calls P fid args W fun e W' => ∃ v, e = .returned v ∧ s.post enc P f false true false false W args v W' := by
  have hW' := hW
  obtain ⟨p, q, hA, hV, rfl, hfz, hnd⟩ := hW
  rw [hvars] at hV
  obtain ⟨rfl, rfl⟩ := trodVars_none hV
  rw [List.append_nil] at hc
  have hlen : ∀ {ts : List TypeId} {vs : List Value} {ds : List (DataW H)} {ps : List MemPlace}, DataW.TrodAll enc P W 0 (fun _ => true) true ts vs ds ps → ds.length = ts.length := by
    intro ts
    induction ts with
    | nil => intro vs ds ps h; cases vs <;> cases ds <;> simp_all [DataW.TrodAll]
    | cons t ts ih =>
      intro vs ds ps h
      cases vs <;> cases ds <;> simp only [DataW.TrodAll] at h
      obtain ⟨_, _, _, h2, _⟩ := h
      simp [ih h2]
  have hs := hspec ds (by rw [hlen hA]; simp)
  obtain ⟨xs, k1, k2, k3⟩ := args_read hB f.params.toList Ts args.toList ds p hts (fun j t v h1 h2 => hval j t v (by simpa using h1) (by simpa using h2)) hA
  refine (entry (hc xs k2 k3) k1).mono fun e W' ⟨v, x, σ, γ, he, hk, hi, hx, hxv⟩ => ?_
  subst he hxv
  simp only [Rep] at hx
  subst hx
  simp only [List.append_nil] at hW'
  refine ⟨_, rfl, post_of_old (pa := p) (pv := []) (gs := []) (ds := ds) (before := p) (by simpa using hW') ?_ ?_ ?_ (by simp) hk (ok_one hres rfl (okWide_bool_mk hb _))⟩
  · intro b sp hd
    rw [List.append_nil, hs, hres]
    exact (trodAll_cons_mk (shut_bool hb _) trodAll_mk0)
  · intro sp hsp
    rw [List.append_nil, hs]
    exact trodAll_stays hlo hrd hA (fun x hx => hk.same (hW'.lt x (by simpa using hx))) hsp
  · intro sp _
    rw [List.append_nil, hs, hvars]
    rfl
end
end Go.VL
namespace Go.VL
open Go

/-- A slice whose elements are one cell. -/
theorem has_sl {s : Nat} {e : T} {x : V} (h : (T.sl s e).arg x) : ∃ es, (x = .sl true .pub 0 [] ∧ es = [] ∨ x = .sl false .pub s es) ∧ (∀ y ∈ es, e.has y) ∧ vbe es + 1 = vba x := by
  rcases h with h | ⟨es, h, h2⟩
  · simp only [List.cons.injEq, and_true] at h
    subst h
    exact ⟨[], .inl ⟨rfl, rfl⟩, by simp, by simp [vba, vb, vbe]⟩
  · simp only [List.cons.injEq, and_true] at h
    subst h
    exact ⟨es, .inr rfl, h2, by simp [vba, vb]⟩
theorem arg_rd {s : Nat} {e : T} {x : V} (h : (T.sl s e).arg x) : ∃ es, RdS ⟨[], []⟩ x s es ∧ (∀ y ∈ es, e.has y) ∧ vbe es < vba x := by
  obtain ⟨es, h1, h2, h3⟩ := has_sl h
  refine ⟨es, ?_, h2, by omega⟩
  rcases h1 with ⟨rfl, rfl⟩ | rfl
  · exact ⟨true, .pub, 0, rfl, by simp, .inl rfl⟩
  · exact ⟨false, .pub, s, rfl, by simp, .inr ⟨trivial, rfl⟩⟩
theorem bytes_of : ∀ {es : List (List V)}, (∀ y ∈ es, (T.int .u8).has y) → ∃ bs, es = bytesV bs ∧ bs.length ≤ vbe es
  | [], _ => ⟨[], rfl, by simp⟩
  | y :: es, h => by
    obtain ⟨bs, rfl, h2⟩ := bytes_of (es := es) fun y hy => h y (by simp [hy])
    obtain ⟨n, rfl, hw⟩ := h y (by simp)
    have hr : 0 ≤ n ∧ n ≤ 255 := by
      have : 0 ≤ n ∧ n ≤ 255 := by simpa [Lit.wf, IntKind.min, IntKind.max, IntKind.signed, IntKind.bits] using hw
      exact this
    refine ⟨UInt8.ofNat n.toNat :: bs, ?_, by simp only [List.length_cons, vbe, vbs, vb]; omega⟩
    have := byte1 n hr
    simp only [bytesV, List.map_cons, List.map_nil, List.cons.injEq, and_true] at this ⊢
    exact this
theorem ints_of : ∀ {es : List (List V)}, (∀ y ∈ es, (T.int .i64).has y) → ∃ ns : List Int, es = intsV .i64 ns ∧ ns.length ≤ vbe es ∧ ∀ n ∈ ns, -9223372036854775808 ≤ n ∧ n < 9223372036854775808
  | [], _ => ⟨[], rfl, by simp, by simp⟩
  | y :: es, h => by
    obtain ⟨bs, rfl, h2, h3⟩ := ints_of (es := es) fun y hy => h y (by simp [hy])
    obtain ⟨n, rfl, hw⟩ := h y (by simp)
    have hr : -9223372036854775808 ≤ n ∧ n ≤ 9223372036854775807 := by
      simpa [Lit.wf, IntKind.min, IntKind.max, IntKind.signed, IntKind.bits] using hw
    refine ⟨n :: bs, rfl, by simp only [List.length_cons, vbe, vbs, vb]; omega, fun m hm => ?_⟩
    rcases List.mem_cons.1 hm with rfl | hm
    · omega
    · exact h3 m hm
theorem strs_of : ∀ {es : List (List V)}, (∀ y ∈ es, T.str.has y) → ∃ ss : List (List UInt8), es = (ss.map fun s => [V.str s]) ∧ (ss.map fun s => s.length + 1).sum ≤ vbe es
  | [], _ => ⟨[], rfl, by simp⟩
  | y :: es, h => by
    obtain ⟨bs, rfl, h2⟩ := strs_of (es := es) fun y hy => h y (by simp [hy])
    obtain ⟨s, rfl⟩ := h y (by simp)
    exact ⟨s :: bs, rfl, by simp only [List.map_cons, List.sum_cons, vbe, vbs, vb]; omega⟩
theorem arg_bytes {x : V} (h : (T.sl 1 (.int .u8)).arg x) : ∃ bs, RdS ⟨[], []⟩ x 1 (bytesV bs) ∧ bs.length < vba x := by
  obtain ⟨es, h1, h2, h3⟩ := arg_rd h
  obtain ⟨bs, rfl, h4⟩ := bytes_of h2
  exact ⟨bs, h1, by omega⟩
theorem arg_int {x : V} (h : (T.int .i64).arg x) : ∃ n, x = .int .i64 n ∧ -9223372036854775808 ≤ n ∧ n < 9223372036854775808 := by
  obtain ⟨n, h1, hw⟩ := h
  simp only [List.cons.injEq, and_true] at h1
  have hr : -9223372036854775808 ≤ n ∧ n ≤ 9223372036854775807 := by
    simpa [Lit.wf, IntKind.min, IntKind.max, IntKind.signed, IntKind.bits] using hw
  exact ⟨n, h1, by omega, by omega⟩
end Go.VL
namespace Go.VL
open Go
theorem arg_ints' {x : V} (h : (T.sl 1 (.int .i64)).arg x) : ∃ ns : List Int, RdS ⟨[], []⟩ x 1 (intsV .i64 ns) ∧ ns.length < vba x ∧ ∀ n ∈ ns, -9223372036854775808 ≤ n ∧ n < 9223372036854775808 := by
  obtain ⟨es, h1, h2, h3⟩ := arg_rd h
  obtain ⟨ns, rfl, h4, h5⟩ := ints_of h2
  exact ⟨ns, h1, by omega, h5⟩
theorem arg_strs' {x : V} (h : (T.sl 1 .str).arg x) : ∃ ss : List (List UInt8), RdS ⟨[], []⟩ x 1 (ss.map fun s => [V.str s]) ∧ (ss.map fun s => s.length + 1).sum < vba x := by
  obtain ⟨es, h1, h2, h3⟩ := arg_rd h
  obtain ⟨ss, rfl, h4⟩ := strs_of h2
  exact ⟨ss, h1, by omega⟩
end Go.VL

namespace Go.VL.wire
open Go Go.VL Go.Proofs Go.IntWalk

def StT : T := .agg [.int .i64, .int .i64]
def CgT : List T := [StT, .int .i64, .sl 1 (.int .i64), .int .i64, StT, StT, StT, .str, .str]
def FmT : List T := [.int .i64, .int .i64, .sl 1 (.int .i64), .bool, .sl 13 (.agg CgT)]
theorem RdC.isSl {σ : St} {v : V} {gs : List Cg} (h : RdC σ v gs) : ∃ b R z es, v = V.sl b R z es := by
  obtain ⟨_, _, h, _⟩ := h
  exact h.isSl
theorem i64_wf {n : Int} (hw : (Lit.int .i64 n).wf = true) : I64 n := by
  have hr : -9223372036854775808 ≤ n ∧ n ≤ 9223372036854775807 := by
    simpa [Lit.wf, IntKind.min, IntKind.max, IntKind.signed, IntKind.bits] using hw
  exact ⟨by omega, by omega⟩
theorem has_ints {xs : List V} (h : (T.sl 1 (.int .i64)).has xs) : ∃ d l, xs = [d] ∧ (∀ σ, RdS σ d 1 (intsV .i64 l)) ∧ l.length < vbs xs ∧ ∀ n ∈ l, I64 n := by
  rcases h with rfl | ⟨es, rfl, h⟩
  · exact ⟨_, [], rfl, fun σ => ⟨_, _, _, rfl, by simp [intsV], .inl rfl⟩, by simp [vbs, vb], by simp⟩
  · obtain ⟨l, rfl, h2, h3⟩ := ints_of h
    exact ⟨_, l, rfl, fun σ => ⟨_, _, _, rfl, by simp, .inr ⟨trivial, rfl⟩⟩, by simp only [vbs, vb]; omega, fun n hn => ⟨(h3 n hn).1, (h3 n hn).2⟩⟩
theorem arg_bytes' {x : V} (h : (T.sl 1 (.int .u8)).arg x) : ∃ bs, (∀ σ, RdS σ x 1 (bytesV bs)) ∧ bs.length < vba x := by
  obtain ⟨es, h1, h2, h3⟩ := has_sl h
  obtain ⟨bs, rfl, h4⟩ := bytes_of h2
  refine ⟨bs, fun σ => ?_, by omega⟩
  rcases h1 with ⟨rfl, h1⟩ | rfl
  · rw [h1]; exact ⟨true, .pub, 0, rfl, by simp, .inl rfl⟩
  · exact ⟨false, .pub, 1, rfl, by simp, .inr ⟨trivial, rfl⟩⟩
theorem has_st {xs : List V} (h : StT.has xs) : ∃ c r, xs = [.int .i64 c, .int .i64 r] ∧ I64 c ∧ I64 r := by
  obtain ⟨_, _, rfl, ⟨c, rfl, h1⟩, _, _, rfl, ⟨r, rfl, h2⟩, rfl⟩ := h
  exact ⟨c, r, rfl, i64_wf h1, i64_wf h2⟩
theorem has_cg {xs : List V} (h : T.hasL CgT xs) : ∃ d g, xs = cgC d g ∧ (∀ σ, RdS σ d 1 (intsV .i64 g.deps)) ∧ CgI g ∧ g.deps.length + g.name.length + g.val.length < vbs xs := by
  obtain ⟨_, _, rfl, h1, _, _, rfl, ⟨seq, rfl, h2⟩, _, _, rfl, h3, _, _, rfl, ⟨kind, rfl, h4⟩, _, _, rfl, h5, _, _, rfl, h6, _, _, rfl, h7, _, _, rfl, ⟨name, rfl⟩, _, _, rfl, ⟨val, rfl⟩, rfl⟩ := h
  obtain ⟨ac, ar, rfl, a1, a2⟩ := has_st h1
  obtain ⟨d, deps, rfl, a3, a4, a5⟩ := has_ints h3
  obtain ⟨nc, nr, rfl, a6, a7⟩ := has_st h5
  obtain ⟨pc, pr, rfl, a8, a9⟩ := has_st h6
  obtain ⟨fc, fr, rfl, a10, a11⟩ := has_st h7
  refine ⟨d, ⟨ac, ar, seq, deps, kind, nc, nr, pc, pr, fc, fr, name, val⟩, rfl, a3, ⟨i64_wf h4, a1, a2, i64_wf h2, a5, a6, a7, a8, a9, a10, a11⟩, ?_⟩
  simp only [List.cons_append, List.nil_append, List.append_nil, vbs, vb] at a4 ⊢
  omega
theorem cgs_of : ∀ {es : List (List V)}, (∀ y ∈ es, (T.agg CgT).has y) → ∃ l : List (V × Cg), es = cgsV l ∧ l.length ≤ vbe es ∧ ∀ p ∈ l, (∀ σ, RdS σ p.1 1 (intsV .i64 p.2.deps)) ∧ CgI p.2 ∧ p.2.deps.length + p.2.name.length + p.2.val.length < vbe es
  | [], _ => ⟨[], rfl, by simp, by simp⟩
  | y :: es, h => by
    obtain ⟨l, rfl, h2, h3⟩ := cgs_of (es := es) fun y hy => h y (by simp [hy])
    obtain ⟨d, g, rfl, a1, a2, a3⟩ := has_cg (h y (by simp))
    refine ⟨(d, g) :: l, rfl, by simp only [List.length_cons, vbe]; omega, fun q hq => ?_⟩
    simp only [vbe]
    rcases List.mem_cons.1 hq with rfl | hq
    · exact ⟨a1, a2, by simp only; omega⟩
    · obtain ⟨b1, b2, b3⟩ := h3 q hq
      exact ⟨b1, b2, by omega⟩
theorem has_fm {xs : List V} (h : T.hasL FmT xs) : ∃ c v f, xs = fmC c v f ∧ (∀ σ, RdF σ c v f) ∧ FmI f ∧ f.clock.length < vbs xs ∧ f.cs.length < vbs xs ∧ ∀ g ∈ f.cs, g.deps.length + g.name.length + g.val.length < vbs xs := by
  obtain ⟨_, _, rfl, ⟨kind, rfl, h1⟩, _, _, rfl, ⟨src, rfl, h2⟩, _, _, rfl, h3, _, _, rfl, ⟨more, rfl⟩, _, _, rfl, h4, rfl⟩ := h
  obtain ⟨c, clock, rfl, a3, a4, a5⟩ := has_ints h3
  rcases h4 with rfl | ⟨es, rfl, h4⟩
  · refine ⟨c, .sl true .pub 0 [], ⟨kind, src, clock, more, []⟩, rfl, fun σ => ⟨a3 σ, [], rfl, ⟨_, _, _, rfl, by simp [cgsV], .inl rfl⟩, by intro p hp; simp at hp⟩, ⟨i64_wf h2, a5, by simp⟩, ?_, ?_, by simp⟩
    · simp only [List.cons_append, List.nil_append, List.append_nil, vbs, vb] at a4 ⊢
      omega
    · simp only [List.cons_append, List.nil_append, List.append_nil, vbs, vb, List.length_nil] at a4 ⊢
      omega
  · obtain ⟨l, rfl, b1, b2⟩ := cgs_of h4
    refine ⟨c, .sl false .pub 13 (cgsV l), ⟨kind, src, clock, more, l.map (·.2)⟩, rfl, fun σ => ⟨a3 σ, l, rfl, ⟨_, _, _, rfl, by simp, .inr ⟨trivial, rfl⟩⟩, fun p hp => (b2 p hp).1 σ⟩, ⟨i64_wf h2, a5, fun g hg => ?_⟩, ?_, ?_, fun g hg => ?_⟩
    · obtain ⟨p, hp, rfl⟩ := List.mem_map.1 hg
      exact (b2 p hp).2.1
    · simp only [List.cons_append, List.nil_append, List.append_nil, vbs, vb] at a4 ⊢
      omega
    · simp only [List.cons_append, List.nil_append, List.append_nil, vbs, vb, List.length_map] at a4 ⊢
      omega
    · obtain ⟨p, hp, rfl⟩ := List.mem_map.1 hg
      have := (b2 p hp).2.2
      simp only [List.cons_append, List.nil_append, List.append_nil, vbs, vb] at a4 ⊢
      omega
theorem arg_cg {x : V} (h : (T.agg CgT).arg x) : ∃ d g, x = cgV d g ∧ (∀ σ, RdS σ d 1 (intsV .i64 g.deps)) ∧ CgI g ∧ g.deps.length + g.name.length + g.val.length < vba x := by
  obtain ⟨xs, rfl, h⟩ := h
  obtain ⟨d, g, rfl, h1, h2, h3⟩ := has_cg h
  exact ⟨d, g, rfl, h1, h2, h3⟩
theorem arg_fm {x : V} (h : (T.agg FmT).arg x) : ∃ c v f, x = fmV c v f ∧ (∀ σ, RdF σ c v f) ∧ FmI f ∧ (vba x ≤ 1048576 → FmZ f) := by
  obtain ⟨xs, rfl, h⟩ := h
  obtain ⟨c, v, f, rfl, h1, h2, h3, h4, h5⟩ := has_fm h
  refine ⟨c, v, f, rfl, h1, h2, fun hb => ?_⟩
  have hb : vbs (fmC c v f) ≤ 1048576 := hb
  exact ⟨by omega, by omega, fun g hg => by have := h5 g hg; omega, fun g hg => by have := h5 g hg; omega⟩

/-- The frame that is tried. -/
def fa : Fm := ⟨2, 2, [1, 0, 3], false, []⟩
theorem fa_load : loadB fa = [2, 3, 1, 0, 3, 0, 0] := by
  simp [loadB, preB, fa, encs, encTs, m01, enc_lt]
theorem fa_fok : FOk fa := fok_iff.1 (by decide)
theorem fa_I : FmI fa := ⟨⟨by decide, by decide⟩, fun n hn => by
  simp only [fa, List.mem_cons, List.not_mem_nil, or_false] at hn
  rcases hn with rfl | rfl | rfl <;> exact ⟨by decide, by decide⟩, by simp [fa]⟩
theorem fa_is : IsF (sealB 2 (loadB fa)) fa := ⟨fa_fok, fa_I, ok_sealI (by decide) (by decide) (by rw [fa_load]; decide), rfl⟩
theorem fa_write : writeI fa = 0 ∧ writeO fa = sealB 2 (loadB fa) := isF_write fa_is
theorem fa_len : (sealB 2 (loadB fa)).length = 16 := by
  obtain ⟨e, hl⟩ := sealB_parts 2 (loadB fa)
  rw [e, List.length_append, hl, four_len, fa_load]; rfl
theorem fa_read : readF (sealB 2 (loadB fa)) = fa ∧ readI (sealB 2 (loadB fa)) = 0 := isF_readF fa_is

section
variable {σ : St}
set_option maxRecDepth 100000 in
set_option maxHeartbeats 1000000 in
theorem awake_ok : CallA Try.prog 14 [] σ fun w σ' => Ext σ σ' ∧ w = .bool true := by
  refine fn_at Try.func14 (by decide) comp14 rfl fun Q q1 q2 => ?_
  clear q1
  simp -implicitDefEqProofs only [go_sem, Nat.reduceBEq, Nat.reduceAdd, eq_self, true_and, and_true, and_self, List.getElem?_cons_zero, List.getElem?_cons_succ, Nat.reduceLeDiff, Nat.zero_add, Nat.reduceSub, Nat.le_refl, c14]
  have e0 := ext_live σ true
  have hf : RdF ⟨σ.objs, σ.live ++ [true]⟩ (.sl false (.own σ.live.length) 1 (intsV .i64 [1, 0, 3])) (.sl true .pub 0 []) fa := ⟨lit_rd (l := []), [], rfl, ⟨_, _, _, rfl, by simp [cgsV], .inl rfl⟩, by intro p hp; simp at hp⟩
  have hz : FmZ fa := ⟨by decide, by decide, by simp [fa], by simp [fa]⟩
  refine call_at (write_ok hf hz fa_I) ?_
  rintro w τ ⟨e1, -, x, rfl, hx⟩
  refine ⟨kept_none, ?_⟩
  rw [fa_write.2] at hx
  rw [fa_write.1]
  obtain ⟨b, R, z, rfl, -, -⟩ := id hx
  have hl : (bytesV (sealB 2 (loadB fa))).length = 16 := by rw [bytesV_length, fa_len]
  simp -implicitDefEqProofs only [go_sem, Nat.reduceBEq, Nat.reduceAdd, eq_self, true_and, and_true, and_self, List.getElem?_cons_zero, List.getElem?_cons_succ, Nat.reduceLeDiff, Nat.zero_add, Nat.reduceSub, Nat.le_refl, Nat.lt_irrefl]
  refine call_at (read_ok hx (by rw [fa_len]; decide)) ?_
  rintro w τ2 ⟨e2, c, y, rfl, hr⟩
  have hr := hr.rd
  refine ⟨kept_none, ?_⟩
  rw [fa_read.1] at hr ⊢
  rw [fa_read.2]
  obtain ⟨b2, R2, z2, rfl, -, -⟩ := id hr.1
  obtain ⟨b3, R3, z3, es3, rfl⟩ := hr.2.isSl
  have hl2 : (intsV .i64 fa.clock).length = 3 := rfl
  have hs : fa.src = 2 := rfl
  have d0 : decide ((0 : Int) = 0) = true := by decide
  have d2 : decide ((2 : Int) = 2) = true := by decide
  have d3 : decide (((3 : Nat) : Int) = 3) = true := by decide
  have d16 : decide (((16 : Nat) : Int) = 16) = true := by decide
  simp -implicitDefEqProofs only [go_sem, Nat.reduceBEq, Nat.reduceAdd, eq_self, true_and, and_true, and_self, List.getElem?_cons_zero, List.getElem?_cons_succ, Nat.reduceLeDiff, Nat.zero_add, Nat.reduceSub, Nat.le_refl, fmV, fmC, hl2, hs, hl, d0, d2, d3, d16]
  refine q2 _ _ ?_
  simp -implicitDefEqProofs only [go_sem, Nat.reduceBEq, Nat.reduceAdd, eq_self, true_and, and_true, and_self, List.getElem?_cons_zero, List.getElem?_cons_succ, Nat.reduceLeDiff, Nat.zero_add, Nat.reduceSub, Nat.le_refl, Nat.lt_irrefl]
  exact (e0.trans e1).trans e2
end
end Go.VL.wire

namespace Go.VL.wire
open Go Go.VL Go.Proofs Go.IntWalk

section
variable {σ : St} {c d v : V} {g : Cg} {f : Fm} {p : List UInt8}
set_option maxRecDepth 100000 in
set_option maxHeartbeats 1000000 in
theorem puts_ok (hd : ∀ σ, RdS σ d 1 (intsV .i64 g.deps)) (hI : CgI g) (hlen : g.deps.length + g.name.length + g.val.length ≤ 1048576) :
    CallA Try.prog 3 [cgV d g] σ fun w σ' => w = .bool true := by
  refine fn_at Try.func3 (by decide) comp3 rfl fun Q q1 q2 => ?_
  clear q1
  obtain ⟨db, dR, dz, rfl, -, -⟩ := id (hd σ)
  simp -implicitDefEqProofs only [go_sem, Nat.reduceBEq, Nat.reduceAdd, eq_self, true_and, and_true, and_self, List.getElem?_cons_zero, List.getElem?_cons_succ, Nat.reduceLeDiff, Nat.zero_add, Nat.reduceSub, Nat.le_refl, c3, cgV, cgC]
  refine call_at (copy_ok (d := .sl db dR dz (intsV .i64 g.deps)) (g := g) (hd _) (by omega)) ?_
  rintro w τ ⟨e1, -, x, rfl, hx⟩
  refine ⟨kept_none, ?_⟩
  obtain ⟨b, R, z, rfl, -, -⟩ := id hx.rd
  simp -implicitDefEqProofs only [go_sem, Nat.reduceBEq, Nat.reduceAdd, eq_self, true_and, and_true, and_self, List.getElem?_cons_zero, List.getElem?_cons_succ, Nat.reduceLeDiff, Nat.zero_add, Nat.reduceSub, Nat.le_refl, cgV, cgC]
  refine call_at (wput_ok (d := .sl b R z (intsV .i64 g.deps)) (g := g) hx.rd hI (by omega)) ?_
  rintro w τ1 ⟨e2, -, y, rfl, hy⟩
  refine ⟨kept_none, ?_⟩
  obtain ⟨yb, yR, yz, rfl, -, -⟩ := id hy
  simp -implicitDefEqProofs only [go_sem, Nat.reduceBEq, Nat.reduceAdd, eq_self, true_and, and_true, and_self, List.getElem?_cons_zero, List.getElem?_cons_succ, Nat.reduceLeDiff, Nat.zero_add, Nat.reduceSub, Nat.le_refl, Nat.lt_irrefl]
  refine call_at (rput_ok (d := .sl db dR dz (intsV .i64 g.deps)) (g := g) (hd _) hI (by omega)) ?_
  rintro w τ2 ⟨e3, -, u, rfl, hu⟩
  refine ⟨kept_none, ?_⟩
  obtain ⟨ub, uR, uz, rfl, -, -⟩ := id hu
  have hback : ∀ q, (bytesV q).map byteOfC = q := bytes_back
  have d1 : decide (chkI g = chkI g) = true := by simp
  have d2 : decide (putO g = putO g) = true := by simp
  simp -implicitDefEqProofs only [go_sem, Nat.reduceBEq, Nat.reduceAdd, eq_self, true_and, and_true, and_self, List.getElem?_cons_zero, List.getElem?_cons_succ, Nat.reduceLeDiff, Nat.zero_add, Nat.reduceSub, Nat.le_refl, hback]
  refine ⟨cS_rd (hy.ext e3), cS_rd hu, ?_⟩
  try simp -implicitDefEqProofs only [go_sem, Nat.reduceBEq, Nat.reduceAdd, eq_self, true_and, and_true, and_self, List.getElem?_cons_zero, List.getElem?_cons_succ, Nat.reduceLeDiff, Nat.zero_add, Nat.reduceSub, Nat.le_refl, d1, d2]
  refine call_at awake_ok ?_
  rintro w τ3 ⟨e4, rfl⟩
  refine ⟨kept_none, ?_⟩
  simp -implicitDefEqProofs only [go_sem, Nat.reduceBEq, Nat.reduceAdd, eq_self, true_and, and_true, and_self, List.getElem?_cons_zero, List.getElem?_cons_succ, Nat.reduceLeDiff, Nat.zero_add, Nat.reduceSub, Nat.le_refl, Nat.lt_irrefl]
  refine q2 _ _ ?_
  simp -implicitDefEqProofs only [go_sem, Nat.reduceBEq, Nat.reduceAdd, eq_self, true_and, and_true, and_self, List.getElem?_cons_zero, List.getElem?_cons_succ, Nat.reduceLeDiff, Nat.zero_add, Nat.reduceSub, Nat.le_refl, Nat.lt_irrefl]
set_option maxRecDepth 100000 in
set_option maxHeartbeats 1000000 in
theorem gets_ok (hv : RdS σ v 1 (bytesV p)) (hlen : p.length ≤ 1048576) :
    CallA Try.prog 4 [v] σ fun w σ' => w = .bool true := by
  refine fn_at Try.func4 (by decide) comp4 rfl fun Q q1 q2 => ?_
  clear q1
  obtain ⟨b, R, z, rfl, -, -⟩ := id hv
  have hbl := bytesV_length p
  have hr := rd_src (hv.ext (ext_live σ true))
  simp -implicitDefEqProofs only [go_sem, Nat.reduceBEq, Nat.reduceAdd, eq_self, true_and, and_true, and_self, List.getElem?_cons_zero, List.getElem?_cons_succ, Nat.reduceLeDiff, Nat.zero_add, Nat.reduceSub, Nat.le_refl, c4]
  refine ⟨⟨.inr trivial, .inr (live_last _ _), hr, by rw [hbl]; omega⟩, ?_⟩
  have e1 : Ext σ ⟨σ.objs, kill (σ.live ++ [true]) (.own σ.live.length) ++ [true]⟩ := ext_kill (ext_push (Ext.refl σ)) (Nat.le_refl _)
  refine call_at (get_ok (bs := p) ⟨_, _, _, rfl, by simp, .inr ⟨live_last' _ _ _, rfl⟩⟩ (by omega)) ?_
  rintro w τ ⟨e2, x, rfl, hx, -⟩
  refine ⟨kept_none, ?_⟩
  obtain ⟨xb, xR, xz, rfl, -, -⟩ := id hx
  simp -implicitDefEqProofs only [go_sem, Nat.reduceBEq, Nat.reduceAdd, eq_self, true_and, and_true, and_self, List.getElem?_cons_zero, List.getElem?_cons_succ, Nat.reduceLeDiff, Nat.zero_add, Nat.reduceSub, Nat.le_refl, cgV, cgC]
  refine call_at (rget_ok ((hv.ext e1).ext e2) (by omega)) ?_
  rintro w τ1 ⟨e3, -, y, rfl, hy, -⟩
  refine ⟨kept_none, ?_⟩
  obtain ⟨yb, yR, yz, rfl, -, -⟩ := id hy
  obtain ⟨g1, g2⟩ := get_rget p
  rw [← g1] at hy ⊢
  rw [← g2]
  have hlg : (getG p).deps.length < 4611686018427387904 := by
    unfold getG
    cases hb : getB p with
    | true => have := (get_is hb).1.deps64; simp only [cond_true]; omega
    | false => simp [zeroG]
  have d1 : decide (getI p = getI p) = true := by simp
  simp -implicitDefEqProofs only [go_sem, Nat.reduceBEq, Nat.reduceAdd, eq_self, true_and, and_true, and_self, List.getElem?_cons_zero, List.getElem?_cons_succ, Nat.reduceLeDiff, Nat.zero_add, Nat.reduceSub, Nat.le_refl, cgV, cgC]
  refine call_at (same_ok (d := .sl xb xR xz (intsV .i64 (getG p).deps)) (f := .sl yb yR yz (intsV .i64 (getG p).deps)) (g := getG p) (h := getG p) (hx.ext e3) hy hlg) ?_
  rintro w τ2 ⟨rfl, rfl⟩
  refine ⟨kept_none, ?_⟩
  rw [sameC_self]
  simp -implicitDefEqProofs only [go_sem, Nat.reduceBEq, Nat.reduceAdd, eq_self, true_and, and_true, and_self, List.getElem?_cons_zero, List.getElem?_cons_succ, Nat.reduceLeDiff, Nat.zero_add, Nat.reduceSub, Nat.le_refl, d1]
  refine call_at awake_ok ?_
  rintro w τ3 ⟨e4, rfl⟩
  refine ⟨kept_none, ?_⟩
  simp -implicitDefEqProofs only [go_sem, Nat.reduceBEq, Nat.reduceAdd, eq_self, true_and, and_true, and_self, List.getElem?_cons_zero, List.getElem?_cons_succ, Nat.reduceLeDiff, Nat.zero_add, Nat.reduceSub, Nat.le_refl, Nat.lt_irrefl]
  refine q2 _ _ ?_
  simp -implicitDefEqProofs only [go_sem, Nat.reduceBEq, Nat.reduceAdd, eq_self, true_and, and_true, and_self, List.getElem?_cons_zero, List.getElem?_cons_succ, Nat.reduceLeDiff, Nat.zero_add, Nat.reduceSub, Nat.le_refl, Nat.lt_irrefl]
set_option maxRecDepth 100000 in
set_option maxHeartbeats 1000000 in
theorem checks_ok (hf : ∀ σ, RdF σ c v f) (hz : FmZ f) :
    CallA Try.prog 5 [fmV c v f] σ fun w σ' => w = .bool true := by
  refine fn_at Try.func5 (by decide) comp5 rfl fun Q q1 q2 => ?_
  clear q1
  obtain ⟨b, R, z, rfl, -, -⟩ := id (hf σ).1
  obtain ⟨b2, R2, z2, es, rfl⟩ := (hf σ).2.isSl
  simp -implicitDefEqProofs only [go_sem, Nat.reduceBEq, Nat.reduceAdd, eq_self, true_and, and_true, and_self, List.getElem?_cons_zero, List.getElem?_cons_succ, Nat.reduceLeDiff, Nat.zero_add, Nat.reduceSub, Nat.le_refl, c5, fmV, fmC]
  refine call_at (fcopy_ok (hf _) hz) ?_
  rintro w τ ⟨e1, -, x, y, rfl, hx⟩
  refine ⟨e1.kept, ?_⟩
  obtain ⟨b3, R3, z3, rfl, -, -⟩ := id hx.1
  obtain ⟨b4, R4, z4, es4, rfl⟩ := hx.2.isSl
  simp -implicitDefEqProofs only [go_sem, Nat.reduceBEq, Nat.reduceAdd, eq_self, true_and, and_true, and_self, List.getElem?_cons_zero, List.getElem?_cons_succ, Nat.reduceLeDiff, Nat.zero_add, Nat.reduceSub, Nat.le_refl, fmV, fmC]
  refine call_at (fchk_ok hx hz) ?_
  rintro w τ1 ⟨rfl, rfl⟩
  refine ⟨(Ext.refl _).kept, ?_⟩
  simp -implicitDefEqProofs only [go_sem, Nat.reduceBEq, Nat.reduceAdd, eq_self, true_and, and_true, and_self, List.getElem?_cons_zero, List.getElem?_cons_succ, Nat.reduceLeDiff, Nat.zero_add, Nat.reduceSub, Nat.le_refl, Nat.lt_irrefl]
  refine call_at (rfchk_ok (hf _) hz) ?_
  rintro w τ2 ⟨⟨e2, -⟩, rfl⟩
  refine ⟨e2.kept, ?_⟩
  have d1 : decide (fchkI f = fchkI f) = true := by simp
  simp -implicitDefEqProofs only [go_sem, Nat.reduceBEq, Nat.reduceAdd, eq_self, true_and, and_true, and_self, List.getElem?_cons_zero, List.getElem?_cons_succ, Nat.reduceLeDiff, Nat.zero_add, Nat.reduceSub, Nat.le_refl, d1]
  refine call_at awake_ok ?_
  rintro w τ3 ⟨e4, rfl⟩
  refine ⟨e4.kept, ?_⟩
  simp -implicitDefEqProofs only [go_sem, Nat.reduceBEq, Nat.reduceAdd, eq_self, true_and, and_true, and_self, List.getElem?_cons_zero, List.getElem?_cons_succ, Nat.reduceLeDiff, Nat.zero_add, Nat.reduceSub, Nat.le_refl, Nat.lt_irrefl]
  refine q2 _ _ ?_
  simp -implicitDefEqProofs only [go_sem, Nat.reduceBEq, Nat.reduceAdd, eq_self, true_and, and_true, and_self, List.getElem?_cons_zero, List.getElem?_cons_succ, Nat.reduceLeDiff, Nat.zero_add, Nat.reduceSub, Nat.le_refl, Nat.lt_irrefl]
set_option maxRecDepth 100000 in
set_option maxHeartbeats 1000000 in
theorem writes_ok (hf : ∀ σ, RdF σ c v f) (hz : FmZ f) (hI : FmI f) :
    CallA Try.prog 6 [fmV c v f] σ fun w σ' => w = .bool true := by
  refine fn_at Try.func6 (by decide) comp6 rfl fun Q q1 q2 => ?_
  clear q1
  obtain ⟨b, R, z, rfl, -, -⟩ := id (hf σ).1
  obtain ⟨b2, R2, z2, es, rfl⟩ := (hf σ).2.isSl
  simp -implicitDefEqProofs only [go_sem, Nat.reduceBEq, Nat.reduceAdd, eq_self, true_and, and_true, and_self, List.getElem?_cons_zero, List.getElem?_cons_succ, Nat.reduceLeDiff, Nat.zero_add, Nat.reduceSub, Nat.le_refl, c6, fmV, fmC]
  refine call_at (fcopy_ok (hf _) hz) ?_
  rintro w τ ⟨e1, -, x, y, rfl, hx⟩
  refine ⟨kept_none, ?_⟩
  obtain ⟨b3, R3, z3, rfl, -, -⟩ := id hx.1
  obtain ⟨b4, R4, z4, es4, rfl⟩ := hx.2.isSl
  simp -implicitDefEqProofs only [go_sem, Nat.reduceBEq, Nat.reduceAdd, eq_self, true_and, and_true, and_self, List.getElem?_cons_zero, List.getElem?_cons_succ, Nat.reduceLeDiff, Nat.zero_add, Nat.reduceSub, Nat.le_refl, fmV, fmC]
  refine call_at (write_ok hx hz hI) ?_
  rintro w τ1 ⟨e2, -, y1, rfl, hy1⟩
  refine ⟨kept_none, ?_⟩
  obtain ⟨yb, yR, yz, rfl, -, -⟩ := id hy1
  simp -implicitDefEqProofs only [go_sem, Nat.reduceBEq, Nat.reduceAdd, eq_self, true_and, and_true, and_self, List.getElem?_cons_zero, List.getElem?_cons_succ, Nat.reduceLeDiff, Nat.zero_add, Nat.reduceSub, Nat.le_refl, Nat.lt_irrefl]
  refine call_at (rwrite_ok (hf _) hz hI) ?_
  rintro w τ2 ⟨e3, -, u, rfl, hu⟩
  refine ⟨kept_none, ?_⟩
  obtain ⟨ub, uR, uz, rfl, -, -⟩ := id hu
  have hback : ∀ q, (bytesV q).map byteOfC = q := bytes_back
  simp -implicitDefEqProofs only [go_sem, Nat.reduceBEq, Nat.reduceAdd, eq_self, true_and, and_true, and_self, List.getElem?_cons_zero, List.getElem?_cons_succ, Nat.reduceLeDiff, Nat.zero_add, Nat.reduceSub, Nat.le_refl, hback]
  refine ⟨cS_rd (hy1.ext e3), cS_rd hu, ?_⟩
  try simp -implicitDefEqProofs only [go_sem, Nat.reduceBEq, Nat.reduceAdd, eq_self, true_and, and_true, and_self, List.getElem?_cons_zero, List.getElem?_cons_succ, Nat.reduceLeDiff, Nat.zero_add, Nat.reduceSub, Nat.le_refl, Nat.lt_irrefl]
  refine call_at (fsame_ok ((hx.ext e2).ext e3) (hf _) hz) ?_
  rintro w τ3 ⟨rfl, rfl⟩
  refine ⟨kept_none, ?_⟩
  have d1 : decide (f = f) = true := by simp
  simp -implicitDefEqProofs only [go_sem, Nat.reduceBEq, Nat.reduceAdd, eq_self, true_and, and_true, and_self, List.getElem?_cons_zero, List.getElem?_cons_succ, Nat.reduceLeDiff, Nat.zero_add, Nat.reduceSub, Nat.le_refl, d1]
  refine call_at awake_ok ?_
  rintro w τ3 ⟨e4, rfl⟩
  refine ⟨kept_none, ?_⟩
  simp -implicitDefEqProofs only [go_sem, Nat.reduceBEq, Nat.reduceAdd, eq_self, true_and, and_true, and_self, List.getElem?_cons_zero, List.getElem?_cons_succ, Nat.reduceLeDiff, Nat.zero_add, Nat.reduceSub, Nat.le_refl, Nat.lt_irrefl]
  refine q2 _ _ ?_
  simp -implicitDefEqProofs only [go_sem, Nat.reduceBEq, Nat.reduceAdd, eq_self, true_and, and_true, and_self, List.getElem?_cons_zero, List.getElem?_cons_succ, Nat.reduceLeDiff, Nat.zero_add, Nat.reduceSub, Nat.le_refl, Nat.lt_irrefl]
end
end Go.VL.wire

namespace Go.VL.wire
open Go Go.VL Go.Proofs Go.IntWalk

theorem sealO_len (k : Int) (l : List UInt8) : (sealO k l).length ≤ l.length + 9 := by
  unfold sealO
  cases decide (sealI k l = 0)
  · simp
  · obtain ⟨e, hl⟩ := sealB_parts k l
    simp only [cond_true]
    rw [e, List.length_append, hl, four_len]; omega
theorem writeO_len {f : Fm} (hI : FmI f) : (writeO f).length ≤ 1000000 := by
  unfold writeO
  cases hc : decide (fchkI f = 0)
  · simp
  · have ok := fok_iff.1 (of_decide_eq_true hc)
    have h1 := preB_len hI ok.clk64 ok.len
    have h2 := encTs_putO hI.cs
    have h3 := sealO_len f.kind (loadB f)
    have h4 := ok.len
    simp only [cond_true]
    unfold loadB at h3
    rw [List.length_append] at h3
    unfold loadB
    omega
theorem readF_I (p : List UInt8) : FmI (readF p) ∧ (readF p).clock.length ≤ 64 ∧ (readF p).cs.length ≤ 64 ∧ FmZ (readF p) := by
  have hz : FmI zeroF ∧ zeroF.clock.length ≤ 64 ∧ zeroF.cs.length ≤ 64 ∧ FmZ zeroF := ⟨⟨⟨by decide, by decide⟩, by simp [zeroF], by simp [zeroF]⟩, by decide, by decide, ⟨by decide, by decide, by simp [zeroF], by simp [zeroF]⟩⟩
  unfold readF
  cases ho : decide (openE p = 0)
  · exact hz
  · simp only [cond_true]
    cases hb : readB p with
    | none => exact hz
    | some f =>
      obtain ⟨h1, h2, -⟩ := read_isF (of_decide_eq_true ho) hb
      have h3 := h1.clk64
      have h4 := h1.len
      exact ⟨h2, h3, h4, ⟨by show f.clock.length ≤ _; omega, by show f.cs.length ≤ _; omega, fun g hg => by have := (h1.cs g hg).deps64; omega, fun g hg => by have := (h1.cs g hg).name32; omega⟩⟩

section
variable {σ : St} {c d v : V} {g : Cg} {f : Fm} {p : List UInt8}
set_option maxRecDepth 100000 in
set_option maxHeartbeats 2000000 in
theorem back_ok (hf : ∀ σ, RdF σ c v f) (hz : FmZ f) (hI : FmI f) {w : V} (hv : ∀ σ, RdS σ w 1 (bytesV p)) (hlen : p.length ≤ 1048576) :
    CallA Try.prog 8 [fmV c v f, w] σ fun w σ' => w = .bool true := by
  refine fn_at Try.func8 (by decide) comp8 rfl fun Q q1 q2 => ?_
  clear q1
  obtain ⟨b, R, z, rfl, -, -⟩ := id (hf σ).1
  obtain ⟨b2, R2, z2, es, rfl⟩ := (hf σ).2.isSl
  obtain ⟨wb, wR, wz, rfl, -, -⟩ := id (hv σ)
  have hback : ∀ q, (bytesV q).map byteOfC = q := bytes_back
  have htt : decide ((0 : Int) = 0) = true := by decide
  simp -implicitDefEqProofs only [go_sem, Nat.reduceBEq, Nat.reduceAdd, eq_self, true_and, and_true, and_self, List.getElem?_cons_zero, List.getElem?_cons_succ, Nat.reduceLeDiff, Nat.zero_add, Nat.reduceSub, Nat.le_refl, c8, fmV, fmC]
  refine call_at (write_ok (hf _) hz hI) ?_
  rintro w τ1 ⟨e2, -, y1, rfl, hy1⟩
  refine ⟨kept_none, ?_⟩
  obtain ⟨yb, yR, yz, rfl, -, -⟩ := id hy1
  have hwl := writeO_len hI
  simp -implicitDefEqProofs only [go_sem, Nat.reduceBEq, Nat.reduceAdd, eq_self, true_and, and_true, and_self, List.getElem?_cons_zero, List.getElem?_cons_succ, Nat.reduceLeDiff, Nat.zero_add, Nat.reduceSub, Nat.le_refl, Nat.lt_irrefl]
  refine cut_at (fun G τ' => G = ⟨[(1, .v (.sl wb wR wz (bytesV p)))], []⟩) ?_ ?_
  · intro Z z1 z2' z3
    simp -implicitDefEqProofs only [go_sem, Nat.reduceBEq, Nat.reduceAdd, eq_self, true_and, and_true, and_self, List.getElem?_cons_zero, List.getElem?_cons_succ, Nat.reduceLeDiff, Nat.zero_add, Nat.reduceSub, Nat.le_refl, Nat.lt_irrefl]
    cases h1 : decide (writeI f = 0)
    · simp -implicitDefEqProofs only [go_sem, Nat.reduceBEq, Nat.reduceAdd, eq_self, true_and, and_true, and_self, List.getElem?_cons_zero, List.getElem?_cons_succ, Nat.reduceLeDiff, Nat.zero_add, Nat.reduceSub, Nat.le_refl, h1]
      refine z1 _ _ _ (.inr ?_) rfl
      simp -implicitDefEqProofs only [go_sem, Nat.reduceBEq, Nat.reduceAdd, eq_self, true_and, and_true, and_self, List.getElem?_cons_zero, List.getElem?_cons_succ, Nat.reduceLeDiff, Nat.zero_add, Nat.reduceSub, Nat.le_refl, Nat.lt_irrefl]
    · obtain ⟨r1, r2⟩ := isF_readF (write_isF hI (of_decide_eq_true h1) rfl)
      simp -implicitDefEqProofs only [go_sem, Nat.reduceBEq, Nat.reduceAdd, eq_self, true_and, and_true, and_self, List.getElem?_cons_zero, List.getElem?_cons_succ, Nat.reduceLeDiff, Nat.zero_add, Nat.reduceSub, Nat.le_refl, h1]
      refine call_at (read_ok hy1 (by omega)) ?_
      rintro w τ2 ⟨e3, c', x, rfl, hx⟩
      have hx := hx.rd
      refine ⟨kept_none, ?_⟩
      rw [r1] at hx ⊢
      rw [r2]
      obtain ⟨cb', cR', cz', rfl, -, -⟩ := id hx.1
      obtain ⟨xb', xR', xz', es', rfl⟩ := hx.2.isSl
      have d1 : decide (f = f) = true := by simp
      simp -implicitDefEqProofs only [go_sem, Nat.reduceBEq, Nat.reduceAdd, eq_self, true_and, and_true, and_self, List.getElem?_cons_zero, List.getElem?_cons_succ, Nat.reduceLeDiff, Nat.zero_add, Nat.reduceSub, Nat.le_refl, fmV, fmC, htt]
      refine call_at (fsame_ok (hf _) hx hz) ?_
      rintro w τ3 ⟨rfl, rfl⟩
      refine ⟨kept_none, ?_⟩
      try simp -implicitDefEqProofs only [go_sem, Nat.reduceBEq, Nat.reduceAdd, eq_self, true_and, and_true, and_self, List.getElem?_cons_zero, List.getElem?_cons_succ, Nat.reduceLeDiff, Nat.zero_add, Nat.reduceSub, Nat.le_refl, d1]
      refine z1 _ _ _ (.inr ?_) rfl
      simp -implicitDefEqProofs only [go_sem, Nat.reduceBEq, Nat.reduceAdd, eq_self, true_and, and_true, and_self, List.getElem?_cons_zero, List.getElem?_cons_succ, Nat.reduceLeDiff, Nat.zero_add, Nat.reduceSub, Nat.le_refl, Nat.lt_irrefl]
  rintro G τ rfl
  simp -implicitDefEqProofs only [go_sem, Nat.reduceBEq, Nat.reduceAdd, eq_self, true_and, and_true, and_self, List.getElem?_cons_zero, List.getElem?_cons_succ, Nat.reduceLeDiff, Nat.zero_add, Nat.reduceSub, Nat.le_refl, Nat.lt_irrefl]
  refine call_at (read_ok (hv _) (by omega)) ?_
  rintro w τ2 ⟨e3, c', x, rfl, hx⟩
  have hx := hx.rd
  refine ⟨kept_none, ?_⟩
  obtain ⟨cb', cR', cz', rfl, -, -⟩ := id hx.1
  obtain ⟨xb', xR', xz', es', rfl⟩ := hx.2.isSl
  obtain ⟨i1, i2, i3, i4⟩ := readF_I p
  simp -implicitDefEqProofs only [go_sem, Nat.reduceBEq, Nat.reduceAdd, eq_self, true_and, and_true, and_self, List.getElem?_cons_zero, List.getElem?_cons_succ, Nat.reduceLeDiff, Nat.zero_add, Nat.reduceSub, Nat.le_refl, fmV, fmC]
  refine cut_at (fun G τ' => G = ⟨[], []⟩) ?_ ?_
  · intro Z z1 z2' z3
    simp -implicitDefEqProofs only [go_sem, Nat.reduceBEq, Nat.reduceAdd, eq_self, true_and, and_true, and_self, List.getElem?_cons_zero, List.getElem?_cons_succ, Nat.reduceLeDiff, Nat.zero_add, Nat.reduceSub, Nat.le_refl, Nat.lt_irrefl]
    cases h1 : decide (readI p = 0)
    · simp -implicitDefEqProofs only [go_sem, Nat.reduceBEq, Nat.reduceAdd, eq_self, true_and, and_true, and_self, List.getElem?_cons_zero, List.getElem?_cons_succ, Nat.reduceLeDiff, Nat.zero_add, Nat.reduceSub, Nat.le_refl, h1]
      refine z1 _ _ _ (.inr ?_) rfl
      simp -implicitDefEqProofs only [go_sem, Nat.reduceBEq, Nat.reduceAdd, eq_self, true_and, and_true, and_self, List.getElem?_cons_zero, List.getElem?_cons_succ, Nat.reduceLeDiff, Nat.zero_add, Nat.reduceSub, Nat.le_refl, Nat.lt_irrefl]
    · obtain ⟨r1, r2⟩ := isF_write (readI_isF (of_decide_eq_true h1))
      simp -implicitDefEqProofs only [go_sem, Nat.reduceBEq, Nat.reduceAdd, eq_self, true_and, and_true, and_self, List.getElem?_cons_zero, List.getElem?_cons_succ, Nat.reduceLeDiff, Nat.zero_add, Nat.reduceSub, Nat.le_refl, h1]
      refine call_at (write_ok hx i4 i1) ?_
      rintro w τ3 ⟨e4, -, y1, rfl, hy1⟩
      refine ⟨kept_none, ?_⟩
      obtain ⟨yb, yR, yz, rfl, -, -⟩ := id hy1
      rw [r2] at hy1 ⊢
      rw [r1]
      have d1 : decide (p = p) = true := by simp
      simp -implicitDefEqProofs only [go_sem, Nat.reduceBEq, Nat.reduceAdd, eq_self, true_and, and_true, and_self, List.getElem?_cons_zero, List.getElem?_cons_succ, Nat.reduceLeDiff, Nat.zero_add, Nat.reduceSub, Nat.le_refl, htt, hback]
      refine ⟨cS_rd hy1, cS_rd (hv _), ?_⟩
      try simp -implicitDefEqProofs only [go_sem, Nat.reduceBEq, Nat.reduceAdd, eq_self, true_and, and_true, and_self, List.getElem?_cons_zero, List.getElem?_cons_succ, Nat.reduceLeDiff, Nat.zero_add, Nat.reduceSub, Nat.le_refl, d1]
      refine z1 _ _ _ (.inr ?_) rfl
      simp -implicitDefEqProofs only [go_sem, Nat.reduceBEq, Nat.reduceAdd, eq_self, true_and, and_true, and_self, List.getElem?_cons_zero, List.getElem?_cons_succ, Nat.reduceLeDiff, Nat.zero_add, Nat.reduceSub, Nat.le_refl, Nat.lt_irrefl]
  rintro G τ rfl
  simp -implicitDefEqProofs only [go_sem, Nat.reduceBEq, Nat.reduceAdd, eq_self, true_and, and_true, and_self, List.getElem?_cons_zero, List.getElem?_cons_succ, Nat.reduceLeDiff, Nat.zero_add, Nat.reduceSub, Nat.le_refl, Nat.lt_irrefl]
  refine call_at awake_ok ?_
  rintro w τ3 ⟨e4, rfl⟩
  refine ⟨kept_none, ?_⟩
  simp -implicitDefEqProofs only [go_sem, Nat.reduceBEq, Nat.reduceAdd, eq_self, true_and, and_true, and_self, List.getElem?_cons_zero, List.getElem?_cons_succ, Nat.reduceLeDiff, Nat.zero_add, Nat.reduceSub, Nat.le_refl, Nat.lt_irrefl]
  refine q2 _ _ ?_
  simp -implicitDefEqProofs only [go_sem, Nat.reduceBEq, Nat.reduceAdd, eq_self, true_and, and_true, and_self, List.getElem?_cons_zero, List.getElem?_cons_succ, Nat.reduceLeDiff, Nat.zero_add, Nat.reduceSub, Nat.le_refl, Nat.lt_irrefl]
theorem putO_Is (hI : CgI g) (h : chkI g = 0) : Is (putO g) g := by
  refine ⟨ok_iff.1 h, hI, ?_⟩
  unfold putO; rw [h]; rfl
theorem getI_Is {p : List UInt8} (h : getI p = 0) : Is p (getG p) := by
  unfold getI at h
  cases hb : getB p with
  | false => rw [hb] at h; simp at h
  | true => have := get_is hb; rw [(is_get this).2.1]; exact this
theorem zeroG_I : CgI zeroG := ⟨⟨by decide, by decide⟩, ⟨by decide, by decide⟩, ⟨by decide, by decide⟩, ⟨by decide, by decide⟩, by simp [zeroG], ⟨by decide, by decide⟩, ⟨by decide, by decide⟩, ⟨by decide, by decide⟩, ⟨by decide, by decide⟩, ⟨by decide, by decide⟩, ⟨by decide, by decide⟩⟩
theorem getG_I (p : List UInt8) : CgI (getG p) ∧ (getG p).name.length ≤ 32 ∧ (getG p).deps.length ≤ 64 := by
  unfold getG
  cases hb : getB p with
  | false => exact ⟨zeroG_I, Nat.zero_le _, Nat.zero_le _⟩
  | true => have := get_is hb; exact ⟨this.2.1, this.1.name32, this.1.deps64⟩
set_option maxRecDepth 100000 in
set_option maxHeartbeats 2000000 in
theorem changes_ok2 (hd : ∀ σ, RdS σ d 1 (intsV .i64 g.deps)) (hI : CgI g) (hl : g.deps.length + g.name.length + g.val.length ≤ 1048576) {w : V} (hv : ∀ σ, RdS σ w 1 (bytesV p)) (hlen : p.length ≤ 1048576) :
    CallA Try.prog 9 [cgV d g, w] σ fun w σ' => w = .bool true := by
  refine fn_at Try.func9 (by decide) comp9 rfl fun Q q1 q2 => ?_
  clear q1
  obtain ⟨b, R, z, rfl, -, -⟩ := id (hd σ)
  obtain ⟨wb, wR, wz, rfl, -, -⟩ := id (hv σ)
  have hback : ∀ q, (bytesV q).map byteOfC = q := bytes_back
  have htt : decide ((0 : Int) = 0) = true := by decide
  simp -implicitDefEqProofs only [go_sem, Nat.reduceBEq, Nat.reduceAdd, eq_self, true_and, and_true, and_self, List.getElem?_cons_zero, List.getElem?_cons_succ, Nat.reduceLeDiff, Nat.zero_add, Nat.reduceSub, Nat.le_refl, c9, cgV, cgC]
  refine call_at (wput_ok (d := .sl b R z (intsV .i64 g.deps)) (g := g) (hd _) hI (by omega)) ?_
  rintro w τ1 ⟨e2, -, y1, rfl, hy1⟩
  refine ⟨kept_none, ?_⟩
  obtain ⟨yb, yR, yz, rfl, -, -⟩ := id hy1
  have hwl := putO_len hI
  simp -implicitDefEqProofs only [go_sem, Nat.reduceBEq, Nat.reduceAdd, eq_self, true_and, and_true, and_self, List.getElem?_cons_zero, List.getElem?_cons_succ, Nat.reduceLeDiff, Nat.zero_add, Nat.reduceSub, Nat.le_refl, Nat.lt_irrefl]
  refine cut_at (fun G τ' => G = ⟨[(1, .v (.sl wb wR wz (bytesV p)))], []⟩) ?_ ?_
  · intro Z z1 z2' z3
    simp -implicitDefEqProofs only [go_sem, Nat.reduceBEq, Nat.reduceAdd, eq_self, true_and, and_true, and_self, List.getElem?_cons_zero, List.getElem?_cons_succ, Nat.reduceLeDiff, Nat.zero_add, Nat.reduceSub, Nat.le_refl, Nat.lt_irrefl]
    cases h1 : decide (chkI g = 0)
    · simp -implicitDefEqProofs only [go_sem, Nat.reduceBEq, Nat.reduceAdd, eq_self, true_and, and_true, and_self, List.getElem?_cons_zero, List.getElem?_cons_succ, Nat.reduceLeDiff, Nat.zero_add, Nat.reduceSub, Nat.le_refl, h1]
      refine z1 _ _ _ (.inr ?_) rfl
      simp -implicitDefEqProofs only [go_sem, Nat.reduceBEq, Nat.reduceAdd, eq_self, true_and, and_true, and_self, List.getElem?_cons_zero, List.getElem?_cons_succ, Nat.reduceLeDiff, Nat.zero_add, Nat.reduceSub, Nat.le_refl, Nat.lt_irrefl]
    · obtain ⟨-, r1, r2⟩ := is_get (putO_Is hI (of_decide_eq_true h1))
      simp -implicitDefEqProofs only [go_sem, Nat.reduceBEq, Nat.reduceAdd, eq_self, true_and, and_true, and_self, List.getElem?_cons_zero, List.getElem?_cons_succ, Nat.reduceLeDiff, Nat.zero_add, Nat.reduceSub, Nat.le_refl, h1]
      refine call_at (get_ok hy1 (by omega)) ?_
      rintro w τ2 ⟨e3, x, rfl, hx, -⟩
      refine ⟨kept_none, ?_⟩
      rw [r1] at hx ⊢
      rw [r2]
      obtain ⟨cb', cR', cz', rfl, -, -⟩ := id hx
      simp -implicitDefEqProofs only [go_sem, Nat.reduceBEq, Nat.reduceAdd, eq_self, true_and, and_true, and_self, List.getElem?_cons_zero, List.getElem?_cons_succ, Nat.reduceLeDiff, Nat.zero_add, Nat.reduceSub, Nat.le_refl, cgV, cgC, htt]
      refine call_at (same_ok (d := .sl b R z (intsV .i64 g.deps)) (f := .sl cb' cR' cz' (intsV .i64 g.deps)) (g := g) (h := g) (hd _) hx (by omega)) ?_
      rintro w τ3 ⟨rfl, rfl⟩
      refine ⟨kept_none, ?_⟩
      rw [sameC_self]
      simp -implicitDefEqProofs only [go_sem, Nat.reduceBEq, Nat.reduceAdd, eq_self, true_and, and_true, and_self, List.getElem?_cons_zero, List.getElem?_cons_succ, Nat.reduceLeDiff, Nat.zero_add, Nat.reduceSub, Nat.le_refl, Nat.lt_irrefl]
      refine z1 _ _ _ (.inr ?_) rfl
      simp -implicitDefEqProofs only [go_sem, Nat.reduceBEq, Nat.reduceAdd, eq_self, true_and, and_true, and_self, List.getElem?_cons_zero, List.getElem?_cons_succ, Nat.reduceLeDiff, Nat.zero_add, Nat.reduceSub, Nat.le_refl, Nat.lt_irrefl]
  rintro G τ rfl
  simp -implicitDefEqProofs only [go_sem, Nat.reduceBEq, Nat.reduceAdd, eq_self, true_and, and_true, and_self, List.getElem?_cons_zero, List.getElem?_cons_succ, Nat.reduceLeDiff, Nat.zero_add, Nat.reduceSub, Nat.le_refl, Nat.lt_irrefl]
  refine call_at (get_ok (hv _) (by omega)) ?_
  rintro w τ2 ⟨e3, x, rfl, hx, -⟩
  refine ⟨kept_none, ?_⟩
  obtain ⟨cb', cR', cz', rfl, -, -⟩ := id hx
  obtain ⟨i1, i2, i3⟩ := getG_I p
  simp -implicitDefEqProofs only [go_sem, Nat.reduceBEq, Nat.reduceAdd, eq_self, true_and, and_true, and_self, List.getElem?_cons_zero, List.getElem?_cons_succ, Nat.reduceLeDiff, Nat.zero_add, Nat.reduceSub, Nat.le_refl, cgV, cgC]
  refine cut_at (fun G τ' => G = ⟨[], []⟩) ?_ ?_
  · intro Z z1 z2' z3
    simp -implicitDefEqProofs only [go_sem, Nat.reduceBEq, Nat.reduceAdd, eq_self, true_and, and_true, and_self, List.getElem?_cons_zero, List.getElem?_cons_succ, Nat.reduceLeDiff, Nat.zero_add, Nat.reduceSub, Nat.le_refl, Nat.lt_irrefl]
    cases h1 : decide (getI p = 0)
    · simp -implicitDefEqProofs only [go_sem, Nat.reduceBEq, Nat.reduceAdd, eq_self, true_and, and_true, and_self, List.getElem?_cons_zero, List.getElem?_cons_succ, Nat.reduceLeDiff, Nat.zero_add, Nat.reduceSub, Nat.le_refl, h1]
      refine z1 _ _ _ (.inr ?_) rfl
      simp -implicitDefEqProofs only [go_sem, Nat.reduceBEq, Nat.reduceAdd, eq_self, true_and, and_true, and_self, List.getElem?_cons_zero, List.getElem?_cons_succ, Nat.reduceLeDiff, Nat.zero_add, Nat.reduceSub, Nat.le_refl, Nat.lt_irrefl]
    · have hi := getI_Is (of_decide_eq_true h1)
      have r1 : chkI (getG p) = 0 := ok_iff.2 hi.1
      have r2 : putO (getG p) = p := by unfold putO; rw [r1]; exact hi.2.2.symm
      simp -implicitDefEqProofs only [go_sem, Nat.reduceBEq, Nat.reduceAdd, eq_self, true_and, and_true, and_self, List.getElem?_cons_zero, List.getElem?_cons_succ, Nat.reduceLeDiff, Nat.zero_add, Nat.reduceSub, Nat.le_refl, h1]
      refine call_at (wput_ok (d := .sl cb' cR' cz' (intsV .i64 (getG p).deps)) (g := getG p) hx i1 (by omega)) ?_
      rintro w τ3 ⟨e4, -, y1, rfl, hy1⟩
      refine ⟨kept_none, ?_⟩
      obtain ⟨yb, yR, yz, rfl, -, -⟩ := id hy1
      rw [r2] at hy1 ⊢
      rw [r1]
      have d1 : decide (p = p) = true := by simp
      simp -implicitDefEqProofs only [go_sem, Nat.reduceBEq, Nat.reduceAdd, eq_self, true_and, and_true, and_self, List.getElem?_cons_zero, List.getElem?_cons_succ, Nat.reduceLeDiff, Nat.zero_add, Nat.reduceSub, Nat.le_refl, htt, hback]
      refine ⟨cS_rd hy1, cS_rd (hv _), ?_⟩
      try simp -implicitDefEqProofs only [go_sem, Nat.reduceBEq, Nat.reduceAdd, eq_self, true_and, and_true, and_self, List.getElem?_cons_zero, List.getElem?_cons_succ, Nat.reduceLeDiff, Nat.zero_add, Nat.reduceSub, Nat.le_refl, d1]
      refine z1 _ _ _ (.inr ?_) rfl
      simp -implicitDefEqProofs only [go_sem, Nat.reduceBEq, Nat.reduceAdd, eq_self, true_and, and_true, and_self, List.getElem?_cons_zero, List.getElem?_cons_succ, Nat.reduceLeDiff, Nat.zero_add, Nat.reduceSub, Nat.le_refl, Nat.lt_irrefl]
  rintro G τ rfl
  simp -implicitDefEqProofs only [go_sem, Nat.reduceBEq, Nat.reduceAdd, eq_self, true_and, and_true, and_self, List.getElem?_cons_zero, List.getElem?_cons_succ, Nat.reduceLeDiff, Nat.zero_add, Nat.reduceSub, Nat.le_refl, Nat.lt_irrefl]
  refine call_at awake_ok ?_
  rintro w τ3 ⟨e4, rfl⟩
  refine ⟨kept_none, ?_⟩
  simp -implicitDefEqProofs only [go_sem, Nat.reduceBEq, Nat.reduceAdd, eq_self, true_and, and_true, and_self, List.getElem?_cons_zero, List.getElem?_cons_succ, Nat.reduceLeDiff, Nat.zero_add, Nat.reduceSub, Nat.le_refl, Nat.lt_irrefl]
  refine q2 _ _ ?_
  simp -implicitDefEqProofs only [go_sem, Nat.reduceBEq, Nat.reduceAdd, eq_self, true_and, and_true, and_self, List.getElem?_cons_zero, List.getElem?_cons_succ, Nat.reduceLeDiff, Nat.zero_add, Nat.reduceSub, Nat.le_refl, Nat.lt_irrefl]
end
end Go.VL.wire

namespace Go.VL.wire
open Go Go.VL Go.Proofs Go.IntWalk

theorem but_set (τ : St) (q : Nat) : Ext (St.but τ q) (St.but ⟨τ.objs, τ.live.set q false ++ [true]⟩ τ.live.length) := by
  refine ⟨fun _ _ h => h, fun r hr => ?_, Nat.le_refl _, by simp [St.but]⟩
  obtain ⟨h1, h2⟩ := live_but hr
  have hlt := (List.getElem?_eq_some_iff.1 h2).1
  show ((τ.live.set q false ++ [true]).set τ.live.length false)[r]? = _
  rw [List.getElem?_set_ne (by omega), List.getElem?_append_left (by simp; omega), List.getElem?_set_ne (Ne.symm h1)]
  exact h2
section
variable {σ : St} {v : V} {p : List UInt8}
set_option maxRecDepth 100000 in
set_option maxHeartbeats 2000000 in
theorem reads_ok (hv : ∀ σ, RdS σ v 1 (bytesV p)) (hlen : p.length ≤ 1048576) :
    CallA Try.prog 7 [v] σ fun w σ' => w = .bool true := by
  refine fn_at Try.func7 (by decide) comp7 rfl fun Q q1 q2 => ?_
  clear q1
  obtain ⟨b, R, z, rfl, -, -⟩ := id (hv σ)
  have hbl := bytesV_length p
  have hr := rd_src ((hv σ).ext (ext_live σ true))
  simp -implicitDefEqProofs only [go_sem, Nat.reduceBEq, Nat.reduceAdd, eq_self, true_and, and_true, and_self, List.getElem?_cons_zero, List.getElem?_cons_succ, Nat.reduceLeDiff, Nat.zero_add, Nat.reduceSub, Nat.le_refl, c7]
  refine ⟨⟨.inr trivial, .inr (live_last _ _), hr, by rw [hbl]; omega⟩, ?_⟩
  have hg : (St.mk σ.objs (kill (σ.live ++ [true]) (.own σ.live.length) ++ [true])).live[(σ.live ++ [true]).length]? = some true := by simp [kill]
  generalize (σ.live ++ [true]).length = rg at hg ⊢
  generalize St.mk σ.objs (kill (σ.live ++ [true]) (.own σ.live.length) ++ [true]) = τ0 at hg ⊢
  refine call_at (read_ok (p := p) ⟨_, _, _, rfl, by simp, .inr ⟨hg, rfl⟩⟩ (by omega)) ?_
  rintro w τ ⟨e2, c, x, rfl, hx⟩
  refine ⟨kept_none, ?_⟩
  have hq := (List.getElem?_eq_some_iff.1 hg).1
  have hx := hx.but hq
  have hg := e2.live _ hg
  clear e2 hq
  obtain ⟨c1b, c1R, c1z, rfl, -, -⟩ := id hx.1
  obtain ⟨x1b, x1R, x1z, x1e, rfl⟩ := hx.2.isSl
  simp -implicitDefEqProofs only [go_sem, Nat.reduceBEq, Nat.reduceAdd, eq_self, true_and, and_true, and_self, List.getElem?_cons_zero, List.getElem?_cons_succ, Nat.reduceLeDiff, Nat.zero_add, Nat.reduceSub, Nat.le_refl, fmV, fmC]
  refine call_at (rread_ok (p := p) (hv _) (by omega)) ?_
  rintro w τ1 ⟨e3, -, c2, x2, rfl, hy⟩
  refine ⟨kept_none, ?_⟩
  obtain ⟨y1, y2⟩ := read_rread p
  rw [← y1] at hy ⊢
  rw [← y2]
  have hy := hy.but (List.getElem?_eq_some_iff.1 hg).1
  have hx := hx.ext (⟨e3.objs, but_lv e3.live rg, e3.olen, by have := e3.llen; simp [St.but]; omega⟩ : Ext (St.but τ rg) (St.but τ1 rg))
  have hg := e3.live _ hg
  obtain ⟨c2b, c2R, c2z, rfl, -, -⟩ := id hy.1
  obtain ⟨x2b, x2R, x2z, x2e, rfl⟩ := hy.2.isSl
  obtain ⟨-, -, -, hz⟩ := readF_I p
  have d1 : decide (readI p = readI p) = true := by simp
  have d2 : decide (readF p = readF p) = true := by simp
  generalize readF p = f at hx hy hz d2 ⊢
  generalize readI p = e at d1 ⊢
  simp -implicitDefEqProofs only [go_sem, Nat.reduceBEq, Nat.reduceAdd, eq_self, true_and, and_true, and_self, List.getElem?_cons_zero, List.getElem?_cons_succ, Nat.reduceLeDiff, Nat.zero_add, Nat.reduceSub, Nat.le_refl, fmV, fmC]
  refine loop_at (fun (x : Nat × Nat × List UInt8) => ⟨[(3, .v (.sl false (.own x.2.1) 1 (bytesV x.2.2))), (4, .loc 4 0), (5, .v (.int .i64 e)), (6, .loc 6 0), (7, .v (.int .i64 e)), (8, .v (.int .i64 x.1))],
      [(4, fmC (.sl c1b c1R c1z (intsV .i64 f.clock)) (.sl x1b x1R x1z x1e) f), (6, fmC (.sl c2b c2R c2z (intsV .i64 f.clock)) (.sl x2b x2R x2z x2e) f)]⟩)
    (fun x τ => x.1 ≤ x.2.2.length ∧ x.2.2.length = p.length ∧ τ.live[x.2.1]? = some true ∧ RdF (St.but τ x.2.1) (.sl c1b c1R c1z (intsV .i64 f.clock)) (.sl x1b x1R x1z x1e) f ∧ RdF (St.but τ x.2.1) (.sl c2b c2R c2z (intsV .i64 f.clock)) (.sl x2b x2R x2z x2e) f) (fun x => x.2.2.length - x.1) (0, rg, p) ?_ ?_ ?_
  · refine .inr ?_
    simp -implicitDefEqProofs only [go_sem, Nat.reduceBEq, Nat.reduceAdd, eq_self, true_and, and_true, and_self, List.getElem?_cons_zero, List.getElem?_cons_succ, Nat.reduceLeDiff, Nat.zero_add, Nat.reduceSub, Nat.le_refl, fmC]
    try trivial
  · exact ⟨Nat.zero_le _, rfl, hg, hx, hy⟩
  clear hx hy hg e3
  rintro ⟨i, q, g⟩ t ⟨h1, h2, h3, h4, h5⟩ Z z1 z2 z3
  simp only at h1 h2 h3 h4 h5
  have hgl := bytesV_length g
  simp -implicitDefEqProofs only [go_sem, Nat.reduceBEq, Nat.reduceAdd, eq_self, true_and, and_true, and_self, List.getElem?_cons_zero, List.getElem?_cons_succ, Nat.reduceLeDiff, Nat.zero_add, Nat.reduceSub, Nat.le_refl, hgl]
  refine CondW_b (fun hc => ?_) (fun hc => ?_)
  · have hi : i < g.length := by simpa using hc
    have hget := bytesV_get hi
    have hcell : (bytesV g)[((i : Nat) : Int).toNat]? = some [V.int .u8 (g[i]).toNat] := by simp [bytesV, hi]
    have hb1 := (g[i]).toNat_lt
    have hw : IntKind.u8.wrap (255 - ((g[i]).toNat : Int)) = 255 - ((g[i]).toNat : Int) := by rw [IntKind.wrap_u8]; omega
    have hset := bytesV_set (g := g) (i := i) (x := 255 - ((g[i]).toNat : Int)) (by omega)
    have hwi : IntKind.i64.wrap ((i : Int) + 1) = ((i + 1 : Nat) : Int) := by rw [i64_in _ (by omega)]; omega
    have htn : ((i : Nat) : Int).toNat = i := by omega
    generalize (g[i]).toNat = y at *
    simp -implicitDefEqProofs only [go_sem, Nat.reduceBEq, Nat.reduceAdd, eq_self, true_and, and_true, and_self, List.getElem?_cons_zero, List.getElem?_cons_succ, Nat.reduceLeDiff, Nat.zero_add, Nat.reduceSub, Nat.le_refl, hcell, Option.getD_some, beq_self_eq_true]
    have hib : (i : Int) < (bytesV g).length := by rw [bytesV_length]; omega
    refine ⟨⟨by omega, hib⟩, h3, ⟨by omega, hib⟩, h3, ?_⟩
    refine z1 (i + 1, t.live.length, g.set i (UInt8.ofNat (255 - (y : Int)).toNat)) _ _ (.inr ?_) ?_ ?_
    · simp -implicitDefEqProofs only [go_sem, Nat.reduceBEq, Nat.reduceAdd, eq_self, true_and, and_true, and_self, List.getElem?_cons_zero, List.getElem?_cons_succ, Nat.reduceLeDiff, Nat.zero_add, Nat.reduceSub, Nat.le_refl, hw, Int.toNat_natCast, hset, hwi]
      try trivial
    · simp only [List.length_set]; omega
    · refine ⟨by simp only [List.length_set]; omega, by simp only [List.length_set]; exact h2, live_last' _ _ _, h4.ext (but_set t q), h5.ext (but_set t q)⟩
  · simp -implicitDefEqProofs only [go_sem, Nat.reduceBEq, Nat.reduceAdd, eq_self, true_and, and_true, and_self, List.getElem?_cons_zero, List.getElem?_cons_succ, Nat.reduceLeDiff, Nat.zero_add, Nat.reduceSub, Nat.le_refl, Nat.lt_irrefl]
    refine z2 _ _ _ ?_
    simp -implicitDefEqProofs only [go_sem, Nat.reduceBEq, Nat.reduceAdd, eq_self, true_and, and_true, and_self, List.getElem?_cons_zero, List.getElem?_cons_succ, Nat.reduceLeDiff, Nat.zero_add, Nat.reduceSub, Nat.le_refl, fmC]
    refine call_at (fsame_ok (h4.ext (but_ext _ _)) (h5.ext (but_ext _ _)) hz) ?_
    rintro w τ3 ⟨rfl, rfl⟩
    refine ⟨kept_none, ?_⟩
    simp -implicitDefEqProofs only [go_sem, Nat.reduceBEq, Nat.reduceAdd, eq_self, true_and, and_true, and_self, List.getElem?_cons_zero, List.getElem?_cons_succ, Nat.reduceLeDiff, Nat.zero_add, Nat.reduceSub, Nat.le_refl, d1, d2]
    refine call_at awake_ok ?_
    rintro w τ3 ⟨e4, rfl⟩
    refine ⟨kept_none, ?_⟩
    simp -implicitDefEqProofs only [go_sem, Nat.reduceBEq, Nat.reduceAdd, eq_self, true_and, and_true, and_self, List.getElem?_cons_zero, List.getElem?_cons_succ, Nat.reduceLeDiff, Nat.zero_add, Nat.reduceSub, Nat.le_refl, Nat.lt_irrefl]
    refine q2 _ _ ?_
    simp -implicitDefEqProofs only [go_sem, Nat.reduceBEq, Nat.reduceAdd, eq_self, true_and, and_true, and_self, List.getElem?_cons_zero, List.getElem?_cons_succ, Nat.reduceLeDiff, Nat.zero_add, Nat.reduceSub, Nat.le_refl, Nat.lt_irrefl]
end
end Go.VL.wire

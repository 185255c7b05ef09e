import Derived.Test.YtbhlnbffdhojcaaOctM
set_option linter.unusedVariables false
set_option linter.unusedSimpArgs false
namespace Go.VL
open Go Go.Proofs Go.IntWalk

def doneR (bs : List UInt8) (at_ : Nat) (e : Int) : Int := if e = 0 ∧ at_ < bs.length then 7 else e

set_option maxRecDepth 100000 in
/-- Done. -/
theorem done_ok {σ : St} {i at_ : Nat} {e bad : Int} {bs : List UInt8} {s : V} (h : σ.objs[i]? = some (.cells (cellsR s at_ e bad))) (hs : RdS σ s 1 (bytesV bs)) :
    CallA Try.prog 18 [.ptr (some (i, 0))] σ fun v σ' => σ' = σ ∧ v = .int .i64 (doneR bs at_ e) := by
  obtain ⟨b, r, s', rfl, hb1, hb2⟩ := hs
  simp only [cellsR] at h
  have hl : (bytesV bs).length = bs.length := bytesV_length _
  refine fn_at Try.func18 (by decide) comp18 rfl fun Q q1 q2 => ?_
  by_cases he : e = 0
  · have hd : decide (e = 0) = true := by simp [he]
    by_cases ha : at_ < bs.length
    · have hd2 : decide ((at_ : Int) < (bs.length : Int)) = true := by simp [ha]
      simp -implicitDefEqProofs only [c18, go_sem, Nat.reduceBEq, Nat.reduceAdd, h, hd, hl, hd2]
      refine q2 _ _ ?_
      simp -implicitDefEqProofs only [go_sem, Nat.reduceBEq, Nat.reduceAdd]
      simp [doneR, he, ha]
    · have hd2 : decide ((at_ : Int) < (bs.length : Int)) = false := by simp; omega
      simp -implicitDefEqProofs only [c18, go_sem, Nat.reduceBEq, Nat.reduceAdd, h, hd, hl, hd2]
      refine q2 _ _ ?_
      simp -implicitDefEqProofs only [go_sem, Nat.reduceBEq, Nat.reduceAdd]
      simp [doneR, ha]
  · have hd : decide (e = 0) = false := by simp [he]
    simp -implicitDefEqProofs only [c18, go_sem, Nat.reduceBEq, Nat.reduceAdd, h, hd, hl]
    refine q2 _ _ ?_
    simp -implicitDefEqProofs only [go_sem, Nat.reduceBEq, Nat.reduceAdd]
    simp [doneR, he]

theorem RdS.setC {σ : St} {v : V} {s i : Nat} {es : List (List V)} {cs : List V} (h : RdS σ v s es) : RdS (σ.setC i cs) v s es := by
  obtain ⟨b, r, s', h1, h2, h3⟩ := h
  refine ⟨b, r, s', h1, h2, h3.imp_right fun x => ⟨?_, x.2⟩⟩
  have := x.1
  cases r <;> exact this
theorem lit_rd {σ : St} {l : List Bool} {es : List (List V)} {n : Nat} : RdS ⟨σ.objs, σ.live ++ [true]⟩ (.sl false (.own σ.live.length) n es) n es :=
  ⟨false, _, n, rfl, by simp, .inr ⟨live_last _ _, rfl⟩⟩

theorem ext_set {σ σ' : St} (h : Ext σ σ') {i : Nat} (hi : σ.objs.length ≤ i) {cs : List V} : Ext σ (σ'.setC i cs) :=
  ⟨fun j o hj => by
    have h1 := (List.getElem?_eq_some_iff.1 hj).1
    show (σ'.objs.set i _)[j]? = some o
    rw [List.getElem?_set_ne (by omega)]
    exact h.objs _ _ hj, h.live, by
    show σ.objs.length ≤ (σ'.objs.set i _).length
    rw [List.length_set]; exact h.olen, h.llen⟩

theorem encs_300 : [] ++ encs [300, 5] = [172, 2, 5] := by
  have h1 : enc 300 = [172, 2] := by
    rw [enc, if_neg (by decide), enc, if_pos (by decide)]; rfl
  have h2 : enc 5 = [5] := by rw [enc, if_pos (by decide)]; rfl
  show [] ++ (enc 300 ++ (enc 5 ++ [])) = _
  rw [h1, h2]; rfl

set_option maxRecDepth 100000 in
/-- The program answers. -/
theorem awake_ok {σ : St} : CallA Try.prog 11 [] σ fun v σ' => Ext σ σ' ∧ v = .bool true := by
  refine fn_at Try.func11 (by decide) comp11 rfl fun Q q1 q2 => ?_
  simp -implicitDefEqProofs only [c11, go_sem, Nat.reduceBEq, Nat.reduceAdd]
  have hin : RdS ⟨σ.objs, σ.live ++ [true]⟩ (.sl false (.own σ.live.length) 1 [[V.int .u8 172], [.int .u8 2], [.int .u8 5]]) 1 (bytesV [172, 2, 5]) := lit_rd (σ := σ) (l := [])
  refine call_at (new_ok hin (by decide)) ?_
  rintro v σ1 ⟨he1, rfl, ⟨s, hr1, hs1⟩, l, hσ⟩
  refine ⟨kept_none, ?_⟩
  simp -implicitDefEqProofs only [go_sem, Nat.reduceBEq, Nat.reduceAdd]
  refine call_at (num_ok (at_ := 0) (e := 0) (bad := 0) hr1 hs1 (by decide) (by decide)) ?_
  rintro v σ2 ⟨rfl, rfl⟩
  refine ⟨kept_none, ?_⟩
  have d1 : numR [172, 2, 5] 0 0 0 = (300, 2, 0, 0) := by decide
  have hlt : σ.objs.length < σ1.objs.length := (List.getElem?_eq_some_iff.1 hr1).1
  have d2 : decide (((300 : Nat) : Int) = 300) = true := by decide
  simp -implicitDefEqProofs only [go_sem, Nat.reduceBEq, Nat.reduceAdd, d1, d2]
  refine call_at (num_ok (at_ := 2) (e := 0) (bad := 0) (setC_get hlt) hs1.setC (by decide) (by decide)) ?_
  rintro v σ2 ⟨rfl, rfl⟩
  refine ⟨kept_none, ?_⟩
  have d3 : numR [172, 2, 5] 2 0 0 = (5, 3, 0, 0) := by decide
  have d4 : decide (((5 : Nat) : Int) = 5) = true := by decide
  simp -implicitDefEqProofs only [go_sem, Nat.reduceBEq, Nat.reduceAdd, d3, d4]
  refine call_at (done_ok (at_ := 3) (e := 0) (bad := 0) (setC_get hlt) hs1.setC) ?_
  rintro v σ2 ⟨rfl, rfl⟩
  refine ⟨kept_none, ?_⟩
  have d5 : decide (doneR [172, 2, 5] 3 0 = 0) = true := by decide
  simp -implicitDefEqProofs only [go_sem, Nat.reduceBEq, Nat.reduceAdd, d5]
  have hE : Ext σ (σ1.setC σ.objs.length (cellsR s 3 0 0)) := ext_set ((ext_live σ true).trans he1) (Nat.le_refl _)
  generalize hσ2 : σ1.setC σ.objs.length (cellsR s 3 0 0) = σ2 at hE
  have hin2 : RdS ⟨σ2.objs, σ2.live ++ [true]⟩ (.sl false (.own σ2.live.length) 1 [[V.int .i64 300], [.int .i64 5]]) 1 (intsV .i64 [300, 5]) := lit_rd (σ := σ2) (l := [])
  have hnil : RdS ⟨σ2.objs, σ2.live ++ [true]⟩ (.sl true .pub 0 []) 1 (bytesV []) := ⟨true, .pub, 0, rfl, by simp [bytesV], .inl rfl⟩
  refine call_at (put_ok hnil hin2 (by intro n hn; simp at hn; rcases hn with rfl | rfl <;> exact ⟨by decide, by decide⟩) (by decide)) ?_
  rintro v σ3 ⟨he3, _, r, rfl, hr3, _⟩
  refine ⟨kept_none, ?_⟩
  have d6 : [] ++ encs [300, 5] = [172, 2, 5] := encs_300
  rw [d6]
  simp -implicitDefEqProofs only [go_sem, Nat.reduceBEq, Nat.reduceAdd, bytes_back]
  refine ⟨⟨.inr ⟨hr3, trivial⟩, trivial⟩, q2 _ _ ?_⟩
  simp -implicitDefEqProofs only [go_sem, Nat.reduceBEq, Nat.reduceAdd]
  exact ⟨hE.trans ((ext_live _ _).trans he3), trivial⟩
end Go.VL

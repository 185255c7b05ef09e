/- octet: OctetStrict. -/
import Derived.Test.YtbhlnbffdhojcaaOctV
set_option linter.unusedVariables false
set_option linter.unusedSimpArgs false
namespace Go.VL
open Go Go.Proofs Go.IntWalk

theorem numR_enc {p : List UInt8} {at_ : Nat} {bad : Int} {n at' : Nat} {bad' : Int} (h : numR p at_ 0 bad = (n, at', 0, bad')) : ∃ c, at' = at_ + c ∧ enc n = (p.drop at_).take c := by
  simp only [numR, if_true] at h
  split at h
  · rename_i m c hd
    simp only [Prod.mk.injEq] at h
    obtain ⟨rfl, rfl, _⟩ := h
    obtain ⟨m', e1, _, e3, _⟩ := dec_enc _ _ _ hd
    refine ⟨c, rfl, ?_⟩
    have : m = m' := by simpa using e1
    rw [this, e3]; rfl
  · simp at h

theorem txtR_enc {p : List UInt8} {most bad : Int} {t : List UInt8} {at' : Nat} {bad' : Int} (h : txtR p 0 0 bad most = (t, at', 0, bad')) : at' ≤ p.length ∧ t.length ≤ p.length ∧ enc t.length ++ t = p.take at' := by
  have hb := cntR_bound p 0 bad most (Nat.zero_le _)
  simp only [txtR, if_true] at h
  generalize hx : cntR p 0 0 bad most = x at h hb
  obtain ⟨n, a, e, b⟩ := x
  simp only at h hb
  split at h
  · rename_i he
    subst he
    split at h
    · simp at h
    · rename_i hl
      simp only [Prod.mk.injEq] at h
      obtain ⟨rfl, rfl, -, -⟩ := h
      have hn : numR p 0 0 bad = (n, a, 0, b) := by
        simp only [cntR] at hx
        split at hx
        · simp at hx
        · exact hx
      obtain ⟨c, h1, h2⟩ := numR_enc hn
      have hlen : ((p.drop a).take n).length = n := by rw [List.length_take, List.length_drop]; omega
      have hc : c = a := by omega
      rw [hlen, h2, hc, List.drop_zero]
      refine ⟨by omega, by omega, ?_⟩
      rw [List.take_add]
  · simp only [Prod.mk.injEq] at h
    rename_i he
    exact absurd h.2.2.1 he

theorem put2 {σ : St} {n : Int} (hn : I64 n) : CallA Try.prog 9 [.sl true .pub 0 [], .sl false (.own σ.live.length) 1 [[.int .i64 n]]] ⟨σ.objs, σ.live ++ [true]⟩ fun v σ' => Ext ⟨σ.objs, σ.live ++ [true]⟩ σ' ∧ ∃ r, v = .sl false (.own r) 1 (bytesV (enc n.toNat)) ∧ σ'.live[r]? = some true := by
  have hin : RdS ⟨σ.objs, σ.live ++ [true]⟩ (.sl false (.own σ.live.length) 1 [[V.int .i64 n]]) 1 (intsV .i64 [n]) := lit_rd (σ := σ) (l := [])
  have hnil : RdS ⟨σ.objs, σ.live ++ [true]⟩ (.sl true .pub 0 []) 1 (bytesV []) := ⟨true, .pub, 0, rfl, by simp [bytesV], .inl rfl⟩
  refine (put_ok hnil hin (by intro m hm; simp at hm; subst hm; exact hn) (by simp)).mono ?_
  rintro v σ' ⟨h1, _, r, h2, h3, _⟩
  refine ⟨h1, r, ?_, h3⟩
  rw [h2]; simp [encs]
theorem putText2 {σ : St} {t : List UInt8} (ht : t.length ≤ 134217728) : CallA Try.prog 14 [.sl true .pub 0 [], .sl false (.own σ.live.length) 1 [[.str t]]] ⟨σ.objs, σ.live ++ [true]⟩ fun v σ' => Ext ⟨σ.objs, σ.live ++ [true]⟩ σ' ∧ ∃ r, v = .sl false (.own r) 1 (bytesV (enc t.length ++ t)) ∧ σ'.live[r]? = some true := by
  have hin : RdS ⟨σ.objs, σ.live ++ [true]⟩ (.sl false (.own σ.live.length) 1 [[V.str t]]) 1 (strsV [t]) := lit_rd (σ := σ) (l := [])
  have hnil : RdS ⟨σ.objs, σ.live ++ [true]⟩ (.sl true .pub 0 []) 1 (bytesV []) := ⟨true, .pub, 0, rfl, by simp [bytesV], .inl rfl⟩
  refine (putText_ok hnil hin (by simp [sizes]; omega)).mono ?_
  rintro v σ' ⟨h1, _, r, h2, h3, _⟩
  refine ⟨h1, r, ?_, h3⟩
  rw [h2]; simp [encTs]

set_option maxRecDepth 100000 in
set_option maxHeartbeats 1600000 in
/-- OctetStrict. -/
theorem strict_ok {σ : St} {b : V} {p : List UInt8} (hb : RdS σ b 1 (bytesV p)) (hlen : p.length ≤ 16777216) : CallA Try.prog 8 [b] σ fun v _ => v = .bool true := by
  refine fn_at Try.func8 (by decide) comp8 rfl fun Q q1 q2 => ?_
  have hl : (bytesV p).length = p.length := bytesV_length _
  simp -implicitDefEqProofs only [c8, go_sem, Nat.reduceBEq, Nat.reduceAdd]
  refine call_at (new_ok hb (by omega)) ?_
  rintro v σ1 ⟨he1, rfl, ⟨s1, hr1, hs1⟩, l1, hσ1⟩
  refine ⟨kept_none, ?_⟩
  simp -implicitDefEqProofs only [go_sem, Nat.reduceBEq, Nat.reduceAdd]
  refine call_at (new_ok (hb.ext he1) (by omega)) ?_
  rintro v σ2 ⟨he2, rfl, ⟨s2, hr2, hs2⟩, l2, hσ2⟩
  refine ⟨kept_none, ?_⟩
  simp -implicitDefEqProofs only [go_sem, Nat.reduceBEq, Nat.reduceAdd]
  have hlt : σ.objs.length < σ1.objs.length := (List.getElem?_eq_some_iff.1 hr1).1
  have hr1' := he2.objs _ _ hr1
  have hs1' := hs1.ext he2
  have hb2 := (hb.ext he1).ext he2
  refine call_at (num_ok (at_ := 0) (e := 0) (bad := 0) hr1' hs1' (Nat.zero_le _) (by omega)) ?_
  rintro v σ3 ⟨rfl, rfl⟩
  refine ⟨kept_none, ?_⟩
  have hnb := numR_bound p 0 0 (Nat.zero_le p.length)
  generalize hx : numR p 0 0 0 = x at hnb
  obtain ⟨n, at', e', bad'⟩ := x
  have hlt2 : σ.objs.length < σ2.objs.length := (List.getElem?_eq_some_iff.1 hr1').1
  have hg := setC_get (cs := cellsR s1 at' e' bad') hlt2
  have hq2 : (σ2.setC σ.objs.length (cellsR s1 at' e' bad')).objs[σ1.objs.length]? = some (.cells (cellsR s2 0 0 0)) := by
    show (σ2.objs.set _ _)[_]? = _
    rw [List.getElem?_set_ne (by omega)]; exact hr2
  have hb3 := hb2.setC (i := σ.objs.length) (cs := cellsR s1 at' e' bad')
  have hs3 := hs2.setC (i := σ.objs.length) (cs := cellsR s1 at' e' bad')
  generalize σ2.setC σ.objs.length (cellsR s1 at' e' bad') = τ at hg hq2 hb3 hs3
  obtain ⟨bb, br, bs, rfl, hb4, hb5⟩ := hb
  simp only at hnb
  simp -implicitDefEqProofs only [go_sem, Nat.reduceBEq, Nat.reduceAdd]
  refine call_at (why_ok hg) ?_
  rintro v τ' ⟨rfl, rfl⟩
  refine ⟨kept_none, ?_⟩
  have hgetE : ∀ (a b : V), [a, b][0]? = some a ∧ [a, b][1]? = some b := fun a b => ⟨rfl, rfl⟩
  have hlive : ∀ (l : List Bool), rd l br.toView = rd l br := by intro l; cases br <;> rfl
  by_cases he' : e' = 0
  case' pos =>
    subst he'
    obtain ⟨c, e1, e2⟩ := numR_enc hx
    have hca : c = at' := by omega
    subst hca
    have hd1 : decide ((0 : Int) = 0) = true := by decide
    have hd2 : decide ((p.length : Int) < (c : Int)) = false := by simp; omega
    simp -implicitDefEqProofs only [go_sem, Nat.reduceBEq, Nat.reduceAdd, List.getElem?_cons_zero, List.getElem?_cons_succ, hd1, hl]
    refine call_at (at_ok hg) ?_
    rintro v τ'' ⟨rfl, rfl⟩
    refine ⟨(Ext.refl _).kept, ?_⟩
    simp -implicitDefEqProofs only [go_sem, Nat.reduceBEq, Nat.reduceAdd, hd2]
    refine call_at (put2 (n := (n : Int)) ⟨by omega, by omega⟩) ?_
    rintro v τ1 ⟨he3, r1, rfl, hr3⟩
    refine ⟨he3.kept, ?_⟩
    have hT' : List.take c (bytesV p) = bytesV (p.take c) := by simp [bytesV, List.map_take]
    have hd3 : (!decide (enc n = List.take c p)) = false := by simp only [Bool.not_eq_false', decide_eq_true_eq]; rw [e2]; simp
    have hq3 := he3.objs _ _ (show (St.mk τ''.objs (τ''.live ++ [true])).objs[σ1.objs.length]? = _ from hq2)
    have hs4 := (hs3.ext (ext_live _ true)).ext he3
    have hb6 := (hb3.ext (ext_live _ true)).ext he3
    have hg3 := he3.objs _ _ (show (St.mk τ''.objs (τ''.live ++ [true])).objs[σ.objs.length]? = _ from hg)
    obtain ⟨_, _, _, hbe, _, hb7⟩ := id hb6
    cases hbe
    simp -implicitDefEqProofs only [go_sem, Nat.reduceBEq, Nat.reduceAdd, Int.toNat_natCast, bytes_back, Bool.not_true]
    refine ⟨⟨.inr ⟨hr3, trivial⟩, trivial⟩, ?_⟩
    refine call_at (at_ok hg3) ?_
    rintro v τ3 ⟨rfl, rfl⟩
    refine ⟨(Ext.refl _).kept, ?_⟩
    simp -implicitDefEqProofs only [go_sem, Nat.reduceBEq, Nat.reduceAdd, Int.toNat_natCast, bytes_back, hT', hd3]
    refine ⟨⟨hb7.imp_right (·.2), trivial, by omega, by omega, by rw [hl]; omega⟩, ⟨hb7.imp_right fun x => ⟨by rw [hlive]; exact x.1, x.2⟩, trivial⟩, ?_⟩
    clear hq2 hs3 hb3 hg hb7 hr3 hd3 hT' hd1 hd2 he3 hg3 e2 e1 hnb hx
    rename τ3.objs[σ1.objs.length]? = _ => hq2
    rename RdS τ3 s2 1 _ => hs3
    rename RdS τ3 (V.sl bb br bs _) 1 _ => hb3
    rename St => τ'
  case' neg =>
    have hd1 : decide (e' = 0) = false := by simp [he']
    simp -implicitDefEqProofs only [go_sem, Nat.reduceBEq, Nat.reduceAdd, List.getElem?_cons_zero, List.getElem?_cons_succ, hd1]
    clear hd1
  all_goals
    refine call_at (text_ok (at_ := 0) (e := 0) (bad := 0) hq2 hs3 (Nat.zero_le _) (by omega)) ?_
    rintro v τ4 ⟨rfl, rfl⟩
    refine ⟨kept_none, ?_⟩
    rw [hl]
    have hlt3 := (List.getElem?_eq_some_iff.1 hq2).1
    have hxt := fun t at' bad' => txtR_enc (p := p) (most := p.length) (bad := 0) (t := t) (at' := at') (bad' := bad')
    generalize txtR p 0 0 0 p.length = x at hxt
    obtain ⟨t, a, e, bad⟩ := x
    have hgt := setC_get (cs := cellsR s2 a e bad) hlt3
    have hb8 := hb3.setC (i := σ1.objs.length) (cs := cellsR s2 a e bad)
    simp only
    generalize τ'.setC σ1.objs.length (cellsR s2 a e bad) = τ5 at hgt hb8
    simp -implicitDefEqProofs only [go_sem, Nat.reduceBEq, Nat.reduceAdd]
    refine call_at (why_ok hgt) ?_
    rintro v τ6 ⟨rfl, rfl⟩
    refine ⟨kept_none, ?_⟩
    by_cases he : e = 0
    case' pos =>
      subst he
      obtain ⟨g1, g2, g3⟩ := hxt _ _ _ rfl
      have hd1 : decide ((0 : Int) = 0) = true := by decide
      have hd2 : decide ((p.length : Int) < (a : Int)) = false := by simp; omega
      have hT' : List.take a (bytesV p) = bytesV (p.take a) := by simp [bytesV, List.map_take]
      have hd3 : (!decide (enc t.length ++ t = List.take a p)) = false := by simp only [Bool.not_eq_false', decide_eq_true_eq]; exact g3
      simp -implicitDefEqProofs only [go_sem, Nat.reduceBEq, Nat.reduceAdd, List.getElem?_cons_zero, List.getElem?_cons_succ, hd1, hl]
      refine call_at (at_ok hgt) ?_
      rintro v τ'' ⟨rfl, rfl⟩
      refine ⟨(Ext.refl _).kept, ?_⟩
      simp -implicitDefEqProofs only [go_sem, Nat.reduceBEq, Nat.reduceAdd, hd2]
      refine call_at (putText2 (t := t) (by omega)) ?_
      rintro v τ7 ⟨he3, r1, rfl, hr3⟩
      refine ⟨he3.kept, ?_⟩
      have hb6 := (hb8.ext (ext_live _ true)).ext he3
      have hg3 := he3.objs _ _ (show (St.mk τ''.objs (τ''.live ++ [true])).objs[σ1.objs.length]? = _ from hgt)
      obtain ⟨_, _, _, hbe, _, hb7⟩ := id hb6
      cases hbe
      simp -implicitDefEqProofs only [go_sem, Nat.reduceBEq, Nat.reduceAdd, Int.toNat_natCast, bytes_back, Bool.not_true]
      refine ⟨⟨.inr ⟨hr3, trivial⟩, trivial⟩, ?_⟩
      refine call_at (at_ok hg3) ?_
      rintro v τ3 ⟨rfl, rfl⟩
      refine ⟨(Ext.refl _).kept, ?_⟩
      simp -implicitDefEqProofs only [go_sem, Nat.reduceBEq, Nat.reduceAdd, Int.toNat_natCast, bytes_back, hT', hd3]
      refine ⟨⟨hb7.imp_right (·.2), trivial, by omega, by omega, by rw [hl]; omega⟩, ⟨hb7.imp_right fun x => ⟨by rw [hlive]; exact x.1, x.2⟩, trivial⟩, ?_⟩
    case' neg =>
      have hd1 : decide (e = 0) = false := by simp [he]
      simp -implicitDefEqProofs only [go_sem, Nat.reduceBEq, Nat.reduceAdd, List.getElem?_cons_zero, List.getElem?_cons_succ, hd1]
    all_goals
      refine call_at awake_ok ?_
      rintro v τ8 ⟨_, rfl⟩
      refine ⟨kept_none, ?_⟩
      simp -implicitDefEqProofs only [go_sem, Nat.reduceBEq, Nat.reduceAdd]
      refine q2 _ _ ?_
      simp -implicitDefEqProofs only [go_sem, Nat.reduceBEq, Nat.reduceAdd]
end Go.VL

import Derived.Test.YtbhlnbffdhojcaaOctD
set_option linter.unusedVariables false
set_option linter.unusedSimpArgs false
namespace Go.VL
open Go Go.Proofs Go.IntWalk

theorem enc_lt {n : Nat} (h : n < 128) : enc n = [UInt8.ofNat n] := by rw [enc, if_pos h]
theorem enc_ge {n : Nat} (h : ¬ n < 128) : enc n = UInt8.ofNat (n % 128 + 128) :: enc (n / 128) := by rw [enc, if_neg h]
theorem byte_inj {a b : Nat} (ha : a < 256) (hb : b < 256) (h : UInt8.ofNat a = UInt8.ofNat b) : a = b := by
  have := congrArg UInt8.toNat h
  simp only [UInt8.toNat_ofNat'] at this
  omega
/-- No number's bytes begin another one's. -/
theorem enc_prefix : ∀ (m n : Nat), enc m <+: enc n → m = n := by
  intro m
  induction m using Nat.strongRecOn with
  | _ m ih =>
    intro n h
    by_cases hm : m < 128 <;> by_cases hn : n < 128
    · rw [enc_lt hm, enc_lt hn, List.cons_prefix_cons] at h
      exact byte_inj (by omega) (by omega) h.1
    · rw [enc_lt hm, enc_ge hn, List.cons_prefix_cons] at h
      have := byte_inj (by omega) (by omega) h.1
      omega
    · rw [enc_ge hm, enc_lt hn, List.cons_prefix_cons] at h
      have := byte_inj (by omega) (by omega) h.1
      omega
    · rw [enc_ge hm, enc_ge hn, List.cons_prefix_cons] at h
      have h1 := byte_inj (by omega) (by omega) h.1
      have h2 := ih (m / 128) (by omega) (n / 128) h.2
      omega

theorem max0 (a : Int) : (if 0 > a then 0 else a) = ((a.toNat : Nat) : Int) := by split <;> omega

/-- The frame behind the exchange. -/
def apF (a b : Int) (r1 r2 : Nat) (p q : Nat) : Fr :=
  ⟨[(0, .v (.int .i64 a)), (1, .v (.int .i64 b)), (5, .v (.sl false (.own r1) 1 (bytesV (enc p)))), (6, .v (.sl false (.own r2) 1 (bytesV (enc q))))], []⟩

theorem put1 {σ : St} {n : Int} (hn : I64 n) : CallA Try.prog 9 [.sl true .pub 0 [], .sl false (.own σ.live.length) 1 [[.int .i64 n]]] ⟨σ.objs, σ.live ++ [true]⟩ fun v σ' => Ext σ σ' ∧ ∃ r, v = .sl false (.own r) 1 (bytesV (enc n.toNat)) ∧ σ'.live[r]? = some true := by
  have hin : RdS ⟨σ.objs, σ.live ++ [true]⟩ (.sl false (.own σ.live.length) 1 [[V.int .i64 n]]) 1 (intsV .i64 [n]) := lit_rd (σ := σ) (l := [])
  have hnil : RdS ⟨σ.objs, σ.live ++ [true]⟩ (.sl true .pub 0 []) 1 (bytesV []) := ⟨true, .pub, 0, rfl, by simp [bytesV], .inl rfl⟩
  refine (put_ok hnil hin (by intro m hm; simp at hm; subst hm; exact hn) (by simp)).mono ?_
  rintro v σ' ⟨h1, _, r, h2, h3, _⟩
  refine ⟨(ext_live _ _).trans h1, r, ?_, h3⟩
  rw [h2]; simp [encs]

set_option maxRecDepth 100000 in
/-- OctetApart. -/
theorem apart_ok {σ : St} {a b : Int} (ha : I64 a) (hb : I64 b) : CallA Try.prog 3 [.int .i64 a, .int .i64 b] σ fun v _ => v = .bool true := by
  refine fn_at Try.func3 (by decide) comp3 rfl fun Q q1 q2 => ?_
  simp -implicitDefEqProofs only [c3, go_sem, Nat.reduceBEq, Nat.reduceAdd]
  refine call_at (put1 ha) ?_
  rintro v σ1 ⟨he1, r1, rfl, hr1⟩
  refine ⟨kept_none, ?_⟩
  simp -implicitDefEqProofs only [go_sem, Nat.reduceBEq, Nat.reduceAdd]
  refine call_at (put1 hb) ?_
  rintro v σ2 ⟨he2, r2, rfl, hr2⟩
  refine ⟨kept_none, ?_⟩
  simp -implicitDefEqProofs only [go_sem, Nat.reduceBEq, Nat.reduceAdd]
  refine cut_at (fun G τ => ∃ r1 r2 p q, G = apF a b r1 r2 p q ∧ τ.live[r1]? = some true ∧ τ.live[r2]? = some true ∧ (enc p).length ≤ (enc q).length ∧ (p = a.toNat ∧ q = b.toNat ∨ p = b.toNat ∧ q = a.toNat)) ?_ ?_
  · intro Z z1 z2 z3
    simp -implicitDefEqProofs only [go_sem, Nat.reduceBEq, Nat.reduceAdd]
    refine CondW_b (fun hc => ?_) (fun hc => ?_)
    · have hc := of_decide_eq_true hc
      simp -implicitDefEqProofs only [go_sem, Nat.reduceBEq, Nat.reduceAdd]
      refine call_at (put1 hb) ?_
      rintro v σ3 ⟨he3, r3, rfl, hr3⟩
      refine ⟨kept_none, ?_⟩
      simp -implicitDefEqProofs only [go_sem, Nat.reduceBEq, Nat.reduceAdd]
      refine call_at (put1 ha) ?_
      rintro v σ4 ⟨he4, r4, rfl, hr4⟩
      refine ⟨kept_none, ?_⟩
      simp -implicitDefEqProofs only [go_sem, Nat.reduceBEq, Nat.reduceAdd]
      refine z1 (apF a b r3 r4 b.toNat a.toNat) _ _ (.inr ?_) ⟨r3, r4, _, _, rfl, he4.live _ hr3, hr4, ?_, .inr ⟨rfl, rfl⟩⟩
      · simp -implicitDefEqProofs only [apF, go_sem, Nat.reduceBEq, Nat.reduceAdd, and_true]
      · simp only [bytesV_length] at hc; omega
    · have hc := of_decide_eq_false hc
      simp -implicitDefEqProofs only [go_sem, Nat.reduceBEq, Nat.reduceAdd]
      refine z1 (apF a b r1 r2 a.toNat b.toNat) _ _ (.inr ?_) ⟨r1, r2, _, _, rfl, he2.live _ hr1, hr2, ?_, .inl ⟨rfl, rfl⟩⟩
      · simp -implicitDefEqProofs only [apF, go_sem, Nat.reduceBEq, Nat.reduceAdd, and_true]
      · simp only [bytesV_length] at hc; omega
  · rintro G τ ⟨s1, s2, p, q, rfl, g1, g2, g3, g4⟩
    have hpos : 0 < (enc p).length := by rw [enc]; split <;> simp
    have d1 : decide ((0 : Int) < ((bytesV (enc p)).length : Int)) = true := by rw [bytesV_length]; simp; omega
    have hT : List.take ((bytesV (enc p)).length : Int).toNat (bytesV (enc q)) = bytesV ((enc q).take (enc p).length) := by simp [bytesV, List.map_take]
    have d2 : (decide (enc p = (enc q).take (enc p).length) == decide (((a.toNat : Nat) : Int) = ((b.toNat : Nat) : Int))) = true := by
      rw [beq_iff_eq, decide_eq_decide, ← List.prefix_iff_eq_take]
      constructor
      · intro h
        have := enc_prefix _ _ h
        omega
      · intro h
        have : p = q := by omega
        rw [this]; exact List.prefix_refl _
    simp -implicitDefEqProofs only [apF, go_sem, Nat.reduceBEq, Nat.reduceAdd, d1, hT, bytes_back, max0, d2]
    refine ⟨⟨.inr ⟨g1, trivial⟩, trivial⟩, ⟨.inr trivial, trivial, by omega, by omega, by simp only [bytesV_length]; omega⟩, ⟨.inr ⟨g2, trivial⟩, trivial⟩, ?_⟩
    refine call_at (size_ok ha) ?_
    rintro v τ1 ⟨rfl, rfl⟩
    refine ⟨(Ext.refl _).kept, ?_⟩
    simp -implicitDefEqProofs only [go_sem, Nat.reduceBEq, Nat.reduceAdd]
    refine call_at (size_ok hb) ?_
    rintro v τ1 ⟨rfl, rfl⟩
    refine ⟨(Ext.refl _).kept, ?_⟩
    have la := enc_len ha
    have lb := enc_len hb
    have d3 : decide (IntKind.i64.wrap (((enc a.toNat).length : Int) + ((enc b.toNat).length : Int)) = IntKind.i64.wrap (((bytesV (enc p)).length : Int) + ((bytesV (enc q)).length : Int))) = true := by
      rw [bytesV_length, bytesV_length, decide_eq_true_eq]
      congr 1
      rcases g4 with ⟨rfl, rfl⟩ | ⟨rfl, rfl⟩ <;> omega
    simp -implicitDefEqProofs only [go_sem, Nat.reduceBEq, Nat.reduceAdd, d3]
    refine call_at awake_ok ?_
    rintro v τ1 ⟨he, rfl⟩
    refine ⟨he.kept, ?_⟩
    simp -implicitDefEqProofs only [go_sem, Nat.reduceBEq, Nat.reduceAdd]
    refine q2 _ _ ?_
    simp -implicitDefEqProofs only [go_sem, Nat.reduceBEq, Nat.reduceAdd]
end Go.VL

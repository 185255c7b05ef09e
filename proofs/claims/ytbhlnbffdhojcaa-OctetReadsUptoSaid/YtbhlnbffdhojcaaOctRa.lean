/- octet: the answer's Put and PutText. -/
import Derived.Test.YtbhlnbffdhojcaaOctY
set_option linter.unusedVariables false
set_option linter.unusedSimpArgs false
namespace Go.VL
open Go Go.Proofs Go.IntWalk

theorem tmod_nat (a b : Nat) : ((a : Int).tmod (b : Int)) = ((a % b : Nat) : Int) := by rw [Int.ofNat_tmod]
theorem tdiv_nat (a b : Nat) : ((a : Int).tdiv (b : Int)) = ((a / b : Nat) : Int) := by rw [Int.ofNat_tdiv]

set_option maxRecDepth 100000 in
theorem refPut_ok {σ : St} {b : V} {s : List UInt8} {n : Int} (hb : RdS σ b 1 (bytesV s)) (hn : I64 n) (hlen : s.length ≤ 536870912) :
    CallA Try.prog 12 [b, .int .i64 n] σ fun v σ' => Ext σ σ' ∧ σ'.objs = σ.objs ∧ NewS σ σ' v 1 (bytesV (s ++ enc n.toNat)) := by
  obtain ⟨bb, br, bs, rfl, hb1, hb2⟩ := hb
  refine fn_at Try.func12 (by decide) comp12 rfl fun Q q1 q2 => ?_
  simp -implicitDefEqProofs only [go_sem, Nat.reduceBEq, Nat.reduceAdd, c12]
  have hb3 : (bb = true ∨ rd (σ.live ++ [true]) br) ∧ (bs = 1 ∨ bytesV s = []) := by
    rcases hb2 with h | h
    · exact ⟨.inl h, .inr (hb1 h)⟩
    · exact ⟨.inr (rd_ext (ext_live σ true) h.1), .inl h.2⟩
  refine ⟨⟨.inr trivial, .inr (live_last _ _), hb3, by simp only [bytesV_length]; omega⟩, ?_⟩
  refine cut_at (fun G τ => G = ⟨[(1, .v (.int .i64 n.toNat)), (5, .v (.sl false (.own (σ.live ++ [true]).length) 1 (bytesV s)))], []⟩ ∧ τ = ⟨σ.objs, kill (σ.live ++ [true]) (.own σ.live.length) ++ [true]⟩) ?_ ?_
  · intro Z z1 z2 z3
    simp -implicitDefEqProofs only [go_sem, Nat.reduceBEq, Nat.reduceAdd]
    refine CondW_b (fun hc => ?_) (fun hc => ?_)
    · have hc := of_decide_eq_true hc
      simp -implicitDefEqProofs only [go_sem, Nat.reduceBEq, Nat.reduceAdd]
      refine z1 _ _ _ (.inr ?_) ⟨rfl, rfl⟩
      simp -implicitDefEqProofs only [go_sem, Nat.reduceBEq, Nat.reduceAdd, and_true, true_and]
      rw [show n.toNat = 0 from by omega]; rfl
    · have hc := of_decide_eq_false hc
      simp -implicitDefEqProofs only [go_sem, Nat.reduceBEq, Nat.reduceAdd]
      refine z1 _ _ _ (.inr ?_) ⟨rfl, rfl⟩
      simp -implicitDefEqProofs only [go_sem, Nat.reduceBEq, Nat.reduceAdd, and_true, true_and]
      rw [show ((n.toNat : Nat) : Int) = n from by omega]
  · rintro G τ ⟨rfl, rfl⟩
    simp -implicitDefEqProofs only [go_sem, Nat.reduceBEq, Nat.reduceAdd]
    refine loop_at (fun (x : Nat × Nat × List UInt8) => ⟨[(1, .v (.int .i64 x.1)), (5, .v (.sl false (.own x.2.1) 1 (bytesV x.2.2)))], []⟩)
      (fun x τ => x.1 ≤ n.toNat ∧ Ext σ τ ∧ τ.objs = σ.objs ∧ τ.live[x.2.1]? = some true ∧ σ.live.length ≤ x.2.1 ∧ x.2.2 ++ enc x.1 = s ++ enc n.toNat) (fun x => x.1) (n.toNat, (σ.live ++ [true]).length, s) ?_ ?_ ?_
    · exact .inr (by simp [go_sem])
    · exact ⟨Nat.le_refl _, ext_kill (ext_live σ true) (Nat.le_refl _), rfl, by simp [kill], by simp, rfl⟩
    rintro ⟨m, r, acc⟩ τ ⟨g1, g2, g3, g4, g5, g6⟩ Z z1 z2 z3
    simp only at g1 g4 g5 g6
    have hacc : acc.length ≤ s.length + 10 := by
      have h1 := congrArg List.length g6
      have h2 := enc_len hn
      simp at h1
      omega
    have hni := hn.2
    simp -implicitDefEqProofs only [go_sem, Nat.reduceBEq, Nat.reduceAdd]
    refine CondW_b (fun hc => ?_) (fun hc => ?_)
    · have hm : ¬ (m < 128) := by have := of_decide_eq_true hc; omega
      have e1 : IntKind.i64.wrap (128 + ((m % 128 : Nat) : Int)) = ((m % 128 + 128 : Nat) : Int) := by rw [i64_in _ (by omega)]; omega
      have e2 : IntKind.i64.wrap ((m / 128 : Nat) : Int) = ((m / 128 : Nat) : Int) := by rw [i64_in _ (by omega)]
      have t1 : (m : Int).tmod 128 = ((m % 128 : Nat) : Int) := tmod_nat m 128
      have t2 : (m : Int).tdiv 128 = ((m / 128 : Nat) : Int) := tdiv_nat m 128
      simp -implicitDefEqProofs only [go_sem, Nat.reduceBEq, Nat.reduceAdd, t1, t2, e1, e2, u8_in ((m % 128 + 128 : Nat) : Int) (by omega)]
      have hb1 : [[V.int .u8 ((m % 128 + 128 : Nat) : Int)]] = bytesV [UInt8.ofNat (m % 128 + 128)] := byte1 _ (by omega)
      refine ⟨by decide, ⟨.inr trivial, .inr ((ext_live _ _).live _ g4), ⟨.inr (live_last _ _), .inl trivial⟩, by simp only [bytesV_length]; omega⟩, by decide, ?_⟩
      refine z1 (m / 128, (τ.live ++ [true]).length, acc ++ [UInt8.ofNat (m % 128 + 128)]) _ _ (.inr ?_) ?_ ?_
      · simp -implicitDefEqProofs only [go_sem, Nat.reduceBEq, Nat.reduceAdd, hb1, bytesV_append, and_true]
      · simp only; omega
      · refine ⟨by simp only; omega, ext_kill (ext_push g2) g5, g3, live_last' _ _ _, by have := g2.llen; simp; omega, ?_⟩
        rw [enc_ge hm] at g6
        simpa using g6
    · have hm : m < 128 := by have := of_decide_eq_false hc; omega
      simp -implicitDefEqProofs only [go_sem, Nat.reduceBEq, Nat.reduceAdd]
      refine z2 _ _ _ ?_
      simp -implicitDefEqProofs only [go_sem, Nat.reduceBEq, Nat.reduceAdd, u8_in (m : Int) (by omega)]
      have hb1 : [[V.int .u8 (m : Int)]] = bytesV [UInt8.ofNat m] := byte1 _ (by omega)
      refine ⟨⟨.inr trivial, .inr ((ext_live _ _).live _ g4), ⟨.inr (live_last _ _), .inl trivial⟩, by simp only [bytesV_length]; omega⟩, q2 _ _ ?_⟩
      simp -implicitDefEqProofs only [go_sem, Nat.reduceBEq, Nat.reduceAdd, hb1, bytesV_append]
      rw [enc_lt hm] at g6
      exact ⟨ext_kill (ext_push g2) g5, g3, _, by rw [g6], live_last' _ _ _, by have := g2.llen; simp; omega⟩

set_option maxRecDepth 100000 in
theorem refPutText_ok {σ : St} {b : V} {s t : List UInt8} (hb : RdS σ b 1 (bytesV s)) (hlen : s.length + t.length ≤ 268435456) :
    CallA Try.prog 13 [b, .str t] σ fun v σ' => Ext σ σ' ∧ σ'.objs = σ.objs ∧ NewS σ σ' v 1 (bytesV (s ++ (enc t.length ++ t))) := by
  refine fn_at Try.func13 (by decide) comp13 rfl fun Q q1 q2 => ?_
  simp -implicitDefEqProofs only [go_sem, Nat.reduceBEq, Nat.reduceAdd, c13]
  refine call_at (refPut_ok (n := (t.length : Int)) hb ⟨by omega, by omega⟩ (by omega)) ?_
  rintro v σ1 ⟨he1, ho1, r1, rfl, hr1, hn1⟩
  refine ⟨kept_none, ?_⟩
  simp -implicitDefEqProofs only [go_sem, Nat.reduceBEq, Nat.reduceAdd, Int.toNat_natCast]
  have hel := enc_len (n := (t.length : Int)) ⟨by omega, by omega⟩
  simp only [Int.toNat_natCast] at hel
  refine loop_at (fun (x : Nat × Nat) => ⟨[(1, .v (.str t)), (5, .v (.sl false (.own x.2) 1 (bytesV (s ++ (enc t.length ++ t.take x.1))))), (6, .v (.int .i64 x.1))], []⟩)
    (fun x τ => x.1 ≤ t.length ∧ Ext σ τ ∧ τ.objs = σ.objs ∧ τ.live[x.2]? = some true ∧ σ.live.length ≤ x.2) (fun x => t.length - x.1) (0, r1) ?_ ?_ ?_
  · exact .inr (by simp [go_sem])
  · exact ⟨Nat.zero_le _, he1, ho1, hr1, hn1⟩
  rintro ⟨i, r⟩ τ ⟨g1, g2, g3, g4, g5⟩ Z z1 z2 z3
  simp only at g1 g4 g5
  simp -implicitDefEqProofs only [go_sem, Nat.reduceBEq, Nat.reduceAdd]
  refine CondW_b (fun hc => ?_) (fun hc => ?_)
  · have hi : i < t.length := by simpa using hc
    have hget : (t[((i : Nat) : Int).toNat]?.getD 0) = t[i] := by simp [hi]
    simp -implicitDefEqProofs only [go_sem, Nat.reduceBEq, Nat.reduceAdd, hget]
    have hb1 : [[V.int .u8 ((t[i]).toNat : Int)]] = bytesV [t[i]] := rfl
    refine ⟨⟨by omega, by omega⟩, ⟨.inr trivial, .inr ((ext_live _ _).live _ g4), ⟨.inr (live_last _ _), .inl trivial⟩, by simp only [bytesV_length, List.length_append, List.length_take]; omega⟩, ?_⟩
    refine z1 (i + 1, (τ.live ++ [true]).length) _ _ (.inr ?_) ?_ ?_
    · simp -implicitDefEqProofs only [go_sem, Nat.reduceBEq, Nat.reduceAdd, hb1, bytesV_append, and_true, List.append_assoc, List.take_succ_eq_append_getElem hi]
      rw [i64_in _ (by omega)]; simp
    · simp only; omega
    · exact ⟨by simp only; omega, ext_kill (ext_push g2) g5, g3, live_last' _ _ _, by have := g2.llen; simp; omega⟩
  · have hi : ¬ (i < t.length) := by simpa using hc
    simp -implicitDefEqProofs only [go_sem, Nat.reduceBEq, Nat.reduceAdd]
    refine z2 _ _ _ ?_
    simp -implicitDefEqProofs only [go_sem, Nat.reduceBEq, Nat.reduceAdd]
    refine q2 _ _ ?_
    simp -implicitDefEqProofs only [go_sem, Nat.reduceBEq, Nat.reduceAdd]
    refine ⟨g2, g3, r, ?_, g4, g5⟩
    rw [List.take_of_length_le (by omega)]
end Go.VL

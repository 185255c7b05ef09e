import Derived.Test.YtbhlnbffdhojcaaOctB
set_option linter.unusedVariables false
set_option linter.unusedSimpArgs false
namespace Go.VL
open Go Go.Proofs Go.IntWalk

/-- The number at the beginning of bytes: it, its bytes, is it of the one form. -/
def dec : Nat → Nat → List UInt8 → Option (Nat × Nat × Bool)
  | _, _, [] => none
  | k, a, c :: r => if k = 9 then none else if c.toNat < 128 then some (a + c.toNat % 128 * 128 ^ k, k + 1, decide (c.toNat ≠ 0) || decide (k = 0)) else dec (k + 1) (a + c.toNat % 128 * 128 ^ k) r

theorem and_127b (c : Nat) (h : c < 256) : ibits .and .u8 c 127 = (c % 128 : Nat) := by
  have h1 : (BitVec.ofInt IntKind.u8.bits (c : Int)).toNat = c := by
    rw [BitVec.ofInt_natCast, BitVec.toNat_ofNat, show IntKind.u8.bits = 8 from rfl]; omega
  have h2 : (BitVec.ofInt IntKind.u8.bits 127).toNat = 127 := rfl
  simp only [ibits, BitVec.toNat_and, h1, h2]
  rw [show c &&& 127 = c % 128 from Nat.and_two_pow_sub_one_eq_mod c 7, u8_in _ (by omega)]
theorem pow_128 (k : Nat) : 128 ^ k = 2 ^ (7 * k) := by rw [Nat.pow_mul]
theorem pow_le {k : Nat} (h : k ≤ 8) : 128 ^ k ≤ 72057594037927936 := by
  have := Nat.pow_le_pow_right (n := 128) (by decide) h
  exact this
theorem shl_7 {k m : Nat} (hk : k ≤ 8) (hm : m < 128) : IntKind.i64.wrap ((m : Int) * 2 ^ min (Int.toNat ((7 * k : Nat) : Int)) 64) = ((m * 128 ^ k : Nat) : Int) := by
  have h1 : min (Int.toNat ((7 * k : Nat) : Int)) 64 = 7 * k := by omega
  have h2 : (m : Int) * 2 ^ (7 * k) = ((m * 128 ^ k : Nat) : Int) := by rw [pow_128]; simp
  have h3 : m * 128 ^ k ≤ 127 * 72057594037927936 := Nat.mul_le_mul (by omega) (pow_le hk)
  rw [h1, h2, i64_in _ (by omega)]
theorem or_add {k n m : Nat} (hk : k ≤ 8) (hn : n < 128 ^ k) (hm : m < 128) : ibits .or .i64 n ((m * 128 ^ k : Nat) : Int) = ((n + m * 128 ^ k : Nat) : Int) := by
  have h3 : m * 128 ^ k ≤ 127 * 72057594037927936 := Nat.mul_le_mul (by omega) (pow_le hk)
  have h4 := pow_le hk
  have h1 : (BitVec.ofInt IntKind.i64.bits (n : Int)).toNat = n := by
    rw [BitVec.ofInt_natCast, BitVec.toNat_ofNat, show IntKind.i64.bits = 64 from rfl]; omega
  have h2 : (BitVec.ofInt IntKind.i64.bits ((m * 128 ^ k : Nat) : Int)).toNat = m * 128 ^ k := by
    rw [BitVec.ofInt_natCast, BitVec.toNat_ofNat, show IntKind.i64.bits = 64 from rfl]; omega
  simp only [ibits, BitVec.toNat_or, h1, h2]
  have : n ||| m * 128 ^ k = n + m * 128 ^ k := by
    have := Nat.two_pow_add_eq_or_of_lt (i := 7 * k) (b := n) (by rw [← pow_128]; exact hn) m
    rw [← pow_128] at this
    rw [Nat.or_comm, Nat.mul_comm m, ← this, Nat.add_comm]
  rw [this, i64_in _ (by omega)]

/-- What number tells. -/
def numV (at_ : Nat) : Option (Nat × Nat × Bool) → V
  | none => .tup [.int .i64 0, .int .i64 0, .bool false]
  | some x => .tup [.int .i64 x.1, .int .i64 ((at_ + x.2.1 : Nat) : Int), .bool x.2.2]

set_option maxRecDepth 100000 in
/-- number. -/
theorem number_ok {σ : St} {i at_ : Nat} {e bad : Int} {bs : List UInt8} (h : Rdr σ i bs at_ e bad) (ha : at_ ≤ bs.length) (hlen : bs.length ≤ 1073741824) :
    CallA Try.prog 27 [.ptr (some (i, 0))] σ fun v σ' => σ' = σ ∧ v = numV at_ (dec 0 0 (bs.drop at_)) := by
  obtain ⟨s, h, b, r, s', rfl, hb1, hb2⟩ := h
  refine fn_at Try.func27 (by decide) comp27 rfl fun Q q1 q2 => ?_
  simp -implicitDefEqProofs only [c27, go_sem, Nat.reduceBEq, Nat.reduceAdd, h]
  refine loop_at (fun (x : Nat × Nat) => ⟨[(0, .v (.ptr (some (i, 0)))), (5, .v (.int .i64 x.2)), (7, .v (.int .i64 ((at_ + x.1 : Nat) : Int))), (8, .v (.int .i64 x.1))], []⟩)
    (fun x τ => τ = σ ∧ x.1 ≤ 9 ∧ at_ + x.1 ≤ bs.length ∧ x.2 < 128 ^ x.1 ∧ dec 0 0 (bs.drop at_) = dec x.1 x.2 (bs.drop (at_ + x.1))) (fun x => 10 - x.1) (0, 0) ?_ ?_ ?_
  · exact .inr (by simp [go_sem])
  · exact ⟨rfl, by simp, ha, by simp, rfl⟩
  rintro ⟨k, n⟩ τ ⟨rfl, h1, h2, h3, h4⟩ Z z1 z2 z3
  simp only at h1 h2 h3 h4
  have hl : (bytesV bs).length = bs.length := bytesV_length _
  by_cases hne : at_ + k = bs.length
  · have hd : decide (((at_ + k : Nat) : Int) = (bs.length : Int)) = true := by rw [hne]; simp
    simp -implicitDefEqProofs only [go_sem, Nat.reduceBEq, Nat.reduceAdd, h, hl, hd]
    refine z3 _ _ ?_
    simp -implicitDefEqProofs only [go_sem, Nat.reduceBEq, Nat.reduceAdd]
    refine q2 _ _ ?_
    simp -implicitDefEqProofs only [go_sem, Nat.reduceBEq, Nat.reduceAdd]
    refine ⟨trivial, ?_⟩
    rw [h4, hne, List.drop_length]
    rfl
  have hlt : at_ + k < bs.length := by omega
  have hdrop := List.drop_eq_getElem_cons hlt
  have hd : decide (((at_ + k : Nat) : Int) = (bs.length : Int)) = false := by simp; omega
  by_cases hk : k = 9
  · have hd2 : decide ((k : Int) = 9) = true := by rw [hk]; rfl
    simp -implicitDefEqProofs only [go_sem, Nat.reduceBEq, Nat.reduceAdd, h, hl, hd, hd2]
    refine z3 _ _ ?_
    simp -implicitDefEqProofs only [go_sem, Nat.reduceBEq, Nat.reduceAdd]
    refine q2 _ _ ?_
    simp -implicitDefEqProofs only [go_sem, Nat.reduceBEq, Nat.reduceAdd]
    refine ⟨trivial, ?_⟩
    rw [h4, hdrop]
    simp [dec, hk, numV]
  have hd2 : decide ((k : Int) = 9) = false := by simp; omega
  rw [hdrop] at h4
  have hget := bytesV_get hlt
  generalize bs[at_ + k] = c at h4 hget
  have hcb := c.toNat_lt
  have hm : c.toNat % 128 < 128 := Nat.mod_lt _ (by decide)
  have e1 : IntKind.i64.wrap (ibits .and .u8 (c.toNat : Int) 127) = ((c.toNat % 128 : Nat) : Int) := by rw [and_127b _ (by omega), i64_in _ (by omega)]
  have e2 : IntKind.i64.wrap (7 * (k : Int)) = ((7 * k : Nat) : Int) := by rw [i64_in _ (by omega)]; simp
  have e3 := shl_7 (k := k) (by omega) hm
  have e4 := or_add (k := k) (by omega) h3 hm
  have e5 : IntKind.i64.wrap (((at_ + k : Nat) : Int) + 1) = ((at_ + (k + 1) : Nat) : Int) := by rw [i64_in _ (by omega)]; omega
  have hrd : rd τ.live r ∧ s' = 1 := by
    rcases hb2 with x | x
    · have := congrArg List.length (hb1 x)
      rw [hl] at this
      simp at this
      rw [this] at hlt
      simp at hlt
    · exact x
  simp only [dec, if_neg hk] at h4
  have hpow : n + c.toNat % 128 * 128 ^ k < 128 ^ (k + 1) := by
    have : c.toNat % 128 * 128 ^ k ≤ 127 * 128 ^ k := Nat.mul_le_mul_right _ (by omega)
    rw [Nat.pow_succ]; omega
  by_cases hc : c.toNat < 128
  · have hd3 : decide ((c.toNat : Int) < 128) = true := by simp; omega
    rw [if_pos hc] at h4
    simp -implicitDefEqProofs only [go_sem, Nat.reduceBEq, Nat.reduceAdd, h, hl, hd, hd2, hget, e1, e2, e3, e4, e5, hd3]
    refine ⟨⟨by omega, by omega, hrd.2⟩, hrd.1, by omega, z2 _ _ _ ?_⟩
    by_cases hz : c.toNat = 0
    · have hd4 : (!decide ((c.toNat : Int) = 0)) = false := by simp; omega
      simp -implicitDefEqProofs only [go_sem, Nat.reduceBEq, Nat.reduceAdd, h, hd4]
      refine q2 _ _ ?_
      have hd5 : decide (((at_ + (k + 1) : Nat) : Int) = IntKind.i64.wrap ((at_ : Int) + 1)) = decide (k = 0) := by
        rw [i64_in _ (by omega)]
        by_cases hk0 : k = 0
        · simp [hk0]
        · simp [hk0]; omega
      simp -implicitDefEqProofs only [go_sem, Nat.reduceBEq, Nat.reduceAdd, hd5]
      refine ⟨trivial, ?_⟩
      rw [h4]
      simp [numV, hz]
    · have hd4 : (!decide ((c.toNat : Int) = 0)) = true := by simp; omega
      simp -implicitDefEqProofs only [go_sem, Nat.reduceBEq, Nat.reduceAdd, h, hd4]
      refine q2 _ _ ?_
      simp -implicitDefEqProofs only [go_sem, Nat.reduceBEq, Nat.reduceAdd]
      refine ⟨trivial, ?_⟩
      rw [h4]
      simp [numV, hz]
  · have hd3 : decide ((c.toNat : Int) < 128) = false := by simp; omega
    rw [if_neg hc] at h4
    have e6 : IntKind.i64.wrap ((k : Int) + 1) = ((k + 1 : Nat) : Int) := by rw [i64_in _ (by omega)]; rfl
    simp -implicitDefEqProofs only [go_sem, Nat.reduceBEq, Nat.reduceAdd, h, hl, hd, hd2, hget, e1, e2, e3, e4, e5, e6, hd3]
    refine ⟨⟨by omega, by omega, hrd.2⟩, hrd.1, by omega, z1 (k + 1, n + c.toNat % 128 * 128 ^ k) _ _ (.inr ?_) ?_ ?_⟩
    · simp -implicitDefEqProofs only [go_sem, Nat.reduceBEq, Nat.reduceAdd, and_true]
    · simp only; omega
    · exact ⟨rfl, by simp only; omega, by simp only; omega, hpow, h4⟩
end Go.VL

/- octet: what is taken as a number is just what would be laid. -/
import Derived.Test.YtbhlnbffdhojcaaOctU
import Derived.Test.YtbhlnbffdhojcaaOctP
set_option linter.unusedVariables false
set_option linter.unusedSimpArgs false
namespace Go.VL
open Go Go.Proofs Go.IntWalk

/-- What dec takes, written out again. -/
theorem dec_enc : ∀ (l : List UInt8) (k a : Nat) {n c : Nat}, dec k a l = some (n, c, true) → ∃ m, n = a + m * 128 ^ k ∧ k < c ∧ enc m = l.take (c - k) ∧ (0 < k → 0 < m)
  | [], k, a, n, c, h => by simp [dec] at h
  | x :: r, k, a, n, c, h => by
    have hx := x.toNat_lt
    simp only [dec] at h
    split at h
    · cases h
    · split at h
      · rename_i h1
        simp only [Option.some.injEq, Prod.mk.injEq] at h
        obtain ⟨rfl, rfl, h3⟩ := h
        refine ⟨x.toNat, by rw [Nat.mod_eq_of_lt h1], by omega, ?_, fun hk => ?_⟩
        · rw [enc_lt h1, show k + 1 - k = 1 from by omega]
          simp
        · simp at h3; omega
      · rename_i h1
        obtain ⟨m, e1, e2, e3, e4⟩ := dec_enc r (k + 1) _ h
        refine ⟨x.toNat % 128 + m * 128, ?_, by omega, ?_, fun _ => ?_⟩
        · rw [e1, Nat.pow_succ, Nat.add_mul, Nat.mul_assoc m, Nat.mul_comm 128, ← Nat.mul_assoc m]
          rw [Nat.mul_assoc m, Nat.add_assoc]
        · have := e4 (by omega)
          rw [enc_ge (by omega), show c - k = (c - (k + 1)) + 1 from by omega, List.take_succ_cons, ← e3]
          have h5 : (x.toNat % 128 + m * 128) % 128 + 128 = x.toNat := by omega
          have h6 : (x.toNat % 128 + m * 128) / 128 = m := by omega
          rw [h5, h6]; simp
        · have := e4 (by omega); omega
end Go.VL

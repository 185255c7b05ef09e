/- lww: LwwLatest: the plain law. -/
import Derived.Test.YtefbofjonjdebaaLwwH
set_option linter.unusedVariables false
set_option linter.unusedSimpArgs false
namespace Go.VL.lww
open Go Go.VL Go.Proofs Go.IntWalk

theorem strLess_trans : ∀ {a b c : List UInt8}, strLess a b = true → strLess b c = true → strLess a c = true
  | _, [], _, h, _ => by simp [strLess] at h
  | _, _ :: _, [], _, h => by simp [strLess] at h
  | [], _ :: _, _ :: _, _, _ => by simp [strLess]
  | x :: a, y :: b, z :: c, h1, h2 => by
    simp only [strLess, Bool.or_eq_true, Bool.and_eq_true, decide_eq_true_eq, beq_iff_eq] at *
    rcases h1 with h1 | ⟨rfl, h1⟩
    · rcases h2 with h2 | ⟨rfl, h2⟩
      · left; rw [UInt8.lt_iff_toNat_lt] at *; omega
      · exact .inl h1
    · rcases h2 with h2 | ⟨rfl, h2⟩
      · exact .inl h2
      · exact .inr ⟨rfl, strLess_trans h1 h2⟩
theorem less_trans {a1 a2 b1 b2 c1 c2 : Int} (h : less a1 a2 b1 b2 = true) (k : less b1 b2 c1 c2 = true) : less a1 a2 c1 c2 = true := by
  unfold less at *
  simp only [Bool.or_eq_true, Bool.and_eq_true, decide_eq_true_eq] at *
  omega
theorem wins_trans {a b c : Rg} (h : wins a b = true) (k : wins b c = true) : wins a c = true := by
  unfold wins at *
  cases h1 : (decide (a.ac = b.ac) && decide (a.ar = b.ar)) <;> cases h2 : (decide (b.ac = c.ac) && decide (b.ar = c.ar)) <;> rw [h1] at h <;> rw [h2] at k <;> simp only [cond_true, cond_false] at h k
  · cases h3 : (decide (a.ac = c.ac) && decide (a.ar = c.ar))
    · exact less_trans k h
    · exfalso
      simp only [Bool.and_eq_true, decide_eq_true_eq] at h3
      unfold less at h k
      simp only [Bool.or_eq_true, Bool.and_eq_true, decide_eq_true_eq] at h k
      omega
  · simp only [Bool.and_eq_true, decide_eq_true_eq] at h2
    rw [← h2.1, ← h2.2, h1]
    exact h
  · simp only [Bool.and_eq_true, decide_eq_true_eq] at h1
    rw [h1.1, h1.2, h2]
    exact k
  · simp only [Bool.and_eq_true, decide_eq_true_eq] at h1 h2
    have h3 : (decide (a.ac = c.ac) && decide (a.ar = c.ar)) = true := by simp; omega
    rw [h3]
    simp only [cond_true]
    cases ha : a.gone <;> cases hb : b.gone <;> cases hc : c.gone <;> rw [ha, hb] at h <;> rw [hb, hc] at k <;> simp at h k ⊢
    exact strLess_trans k h

theorem sameK_iff {a b : Rg} : sameK a b = true ↔ a.nc = b.nc ∧ a.nr = b.nr ∧ a.name = b.name := by
  simp only [sameK, Bool.and_eq_true, decide_eq_true_eq]
theorem sameK_self (a : Rg) : sameK a a = true := sameK_iff.2 ⟨rfl, rfl, rfl⟩
theorem sameK_congr {a b : Rg} (h : sameK a b = true) : sameK a = sameK b := by
  obtain ⟨h1, h2, h3⟩ := sameK_iff.1 h
  funext x
  simp only [sameK, h1, h2, h3]
theorem find_updR_same {r : Rg} : ∀ (S : List Rg) {w : Rg}, S.find? (sameK r) = some w → (updR r S).find? (sameK r) = some r
  | [], _, h => by simp at h
  | x :: S, w, h => by
    simp only [updR]
    cases hs : sameK r x with
    | true => simp [sameK_self]
    | false =>
      simp only [List.find?_cons, hs] at h
      simp only [cond_false, List.find?_cons, hs]
      exact find_updR_same S h
theorem find_updR_other {r q : Rg} (hq : sameK q r = false) : ∀ (S : List Rg) {w : Rg}, S.find? (sameK r) = some w → (updR r S).find? (sameK q) = S.find? (sameK q)
  | [], _, h => by simp at h
  | x :: S, w, h => by
    simp only [updR]
    cases hs : sameK r x with
    | true =>
      have hx : sameK q x = false := by
        cases hx : sameK q x with
        | false => rfl
        | true =>
          have h1 := sameK_iff.1 hx
          have h2 := sameK_iff.1 hs
          rw [sameK_iff.2 ⟨h1.1.trans h2.1.symm, h1.2.1.trans h2.2.1.symm, h1.2.2.trans h2.2.2.symm⟩] at hq
          cases hq
      simp [hq, hx]
    | false =>
      simp only [List.find?_cons, hs] at h
      simp only [cond_false, List.find?_cons]
      rw [find_updR_other hq S h]
theorem mem_updR {r x : Rg} : ∀ {S : List Rg}, x ∈ updR r S → x = r ∨ x ∈ S
  | [], h => by simpa [updR] using h
  | y :: S, h => by
    simp only [updR] at h
    cases hs : sameK r y <;> rw [hs] at h <;> simp only [cond_true, cond_false, List.mem_cons] at h ⊢
    · rcases h with h | h
      · exact .inr (.inl h)
      · rcases mem_updR h with h | h
        · exact .inl h
        · exact .inr (.inr h)
    · rcases h with h | h
      · exact .inl h
      · exact .inr (.inr h)

/-- What registers have is the latest. -/
def Latest (L S : List Rg) : Prop := (∀ w ∈ S, w ∈ L) ∧ ∀ r ∈ L, chk r = 0 → ∃ w, S.find? (sameK r) = some w ∧ wins r w = false
theorem latest_step {L S : List Rg} (h : Latest L S) (r0 : Rg) : Latest (L ++ [r0]) (putR S r0) := by
  obtain ⟨h1, h2⟩ := h
  have up : ∀ {w}, w ∈ L → w ∈ L ++ [r0] := fun h => by simp [h]
  unfold putR
  cases hc : decide (chk r0 = 0) with
  | false =>
    refine ⟨fun w hw => up (h1 w hw), fun r hr hk => ?_⟩
    rcases List.mem_append.1 hr with hr | hr
    · exact h2 r hr hk
    · simp only [List.mem_singleton] at hr
      subst hr
      simp [hk] at hc
  | true =>
    simp only [cond_true]
    cases hf : S.find? (sameK r0) with
    | none =>
      refine ⟨fun w hw => ?_, fun r hr hk => ?_⟩
      · rcases List.mem_append.1 hw with hw | hw
        · exact up (h1 w hw)
        · simp only [List.mem_singleton] at hw; simp [hw]
      · rw [List.find?_append]
        rcases List.mem_append.1 hr with hr | hr
        · obtain ⟨w, q1, q2⟩ := h2 r hr hk
          exact ⟨w, by rw [q1]; rfl, q2⟩
        · simp only [List.mem_singleton] at hr
          subst hr
          exact ⟨r, by rw [hf]; simp [sameK_self], wins_self r⟩
    | some w0 =>
      simp only
      cases hw : wins r0 w0 with
      | false =>
        refine ⟨fun w hw => up (h1 w hw), fun r hr hk => ?_⟩
        rcases List.mem_append.1 hr with hr | hr
        · exact h2 r hr hk
        · simp only [List.mem_singleton] at hr
          subst hr
          exact ⟨w0, hf, hw⟩
      | true =>
        refine ⟨fun w hm => ?_, fun r hr hk => ?_⟩
        · rcases mem_updR hm with e | hm
          · simp [e]
          · exact up (h1 w hm)
        · cases hs : sameK r r0 with
          | true =>
            refine ⟨r0, by rw [sameK_congr hs, cond_true]; exact find_updR_same S hf, ?_⟩
            rcases List.mem_append.1 hr with hr | hr
            · obtain ⟨w, q1, q2⟩ := h2 r hr hk
              rw [sameK_congr hs, hf] at q1
              cases q1
              cases hx : wins r r0 with
              | false => rfl
              | true => rw [wins_trans hx hw] at q2; cases q2
            · simp only [List.mem_singleton] at hr
              subst hr
              exact wins_self r
          | false =>
            rcases List.mem_append.1 hr with hr | hr
            · obtain ⟨w, q1, q2⟩ := h2 r hr hk
              exact ⟨w, by rw [cond_true, find_updR_other hs S hf]; exact q1, q2⟩
            · simp only [List.mem_singleton] at hr
              subst hr
              rw [sameK_self] at hs
              cases hs
theorem latest_puts (l : List Rg) : Latest l (puts l) := by
  suffices h : ∀ (n : Nat) (l : List Rg), l.length = n → Latest l (puts l) from h _ l rfl
  intro n
  induction n with
  | zero => intro l h; rw [List.length_eq_zero_iff.1 h]; exact ⟨by simp [puts], by simp⟩
  | succ n ih =>
    intro l h
    obtain ⟨a, b, rfl⟩ : ∃ a b, l = a ++ [b] := ⟨l.dropLast, l.getLast (by intro e; rw [e] at h; simp at h), (List.dropLast_concat_getLast _).symm⟩
    rw [puts_snoc]
    exact latest_step (ih a (by simpa using h)) b
end Go.VL.lww

/- The V-logic, part 4: how a frame lies in a machine's frame. -/
import Derived.Test.YtefbofjonjdebaaVc
import Derived.Below
set_option linter.unusedVariables false
set_option linter.unusedSimpArgs false
namespace Go.VL
open Go

def SRep (γ : G) (lam : Nat → Nat) : S → Value → Prop
  | .v x, v => Rep γ x v
  | .loc k o, v => v = .pointer (some ⟨lam k, o, none⟩)

/-- A local variable's block: nobody else knows it. -/
structure LocAt (γ : G) (σ : St) (w : World) (b : Nat) (cs : List V) : Prop where
  cells : ∃ vs e, w.heap[b]? = some (.cells (List.toArray vs) e (0, 0)) ∧ RepL γ cs vs
  phi : γ.phi b = none
  pub : γ.pub b = []
  mu : b ∉ γ.mu
  own : ∀ (r : Nat) v s es, σ.live[r]? = some true → γ.rho[r]? = some (v, s, es) → blockOf v ≠ some b

structure FRep (γ : G) (σ : St) (F : Fr) (a : Act) (w : World) (lam : Nat → Nat) : Prop where
  s : ∀ t, SRep γ lam (sget t F.s) (a.tmps.getD t undef)
  l : ∀ k cs, lget k F.l = some cs → LocAt γ σ w (lam k) cs
  inj : ∀ k k' cs cs', lget k F.l = some cs → lget k' F.l = some cs' → lam k = lam k' → k = k'

theorem SRep.mono {γ γ' : G} (h : LeR γ γ') {lam : Nat → Nat} : ∀ {s : S} {v : Value}, SRep γ lam s v → SRep γ' lam s v
  | .v x, _, k => Rep.mono h x _ k
  | .loc _ _, _, k => k

theorem beqF {a b : Nat} (h : a ≠ b) : Nat.beq a b = false := by
  cases e : Nat.beq a b
  · rfl
  · exact absurd (Nat.eq_of_beq_eq_true e) h

theorem sget_sset (t d : Nat) (x : S) : ∀ l : List (Nat × S), sget t (sset d x l) = if t = d then x else sget t l
  | [] => by
    by_cases h : t = d
    · subst h; simp [sset, sget]
    · have : Nat.beq d t = false := beqF fun e => h e.symm
      simp [sset, sget, h, this]
  | p :: r => by
    have ih := sget_sset t d x r
    by_cases hp : p.1 = d
    · have h1 : Nat.beq p.1 d = true := by rw [hp]; simp
      by_cases h : t = d
      · subst h; simp [sset, h1, sget]
      · have h2 : Nat.beq d t = false := beqF fun e => h e.symm
        have h3 : Nat.beq p.1 t = false := by rw [hp]; exact h2
        simp [sset, h1, sget, h, h2, h3]
    · have h1 : Nat.beq p.1 d = false := beqF hp
      simp only [sset, h1, cond_false, sget]
      by_cases h : Nat.beq p.1 t = true
      · have e : p.1 = t := Nat.eq_of_beq_eq_true h
        have : t ≠ d := fun e' => hp (e.trans e')
        simp [h, this]
      · simp only [Bool.not_eq_true] at h
        simp [h, ih]
theorem lget_lset (t d : Nat) (x : List V) : ∀ l : List (Nat × List V), lget t (lset d x l) = if t = d then some x else lget t l
  | [] => by
    by_cases h : t = d
    · subst h; simp [lset, lget]
    · have : Nat.beq d t = false := beqF fun e => h e.symm
      simp [lset, lget, h, this]
  | p :: r => by
    have ih := lget_lset t d x r
    by_cases hp : p.1 = d
    · have h1 : Nat.beq p.1 d = true := by rw [hp]; simp
      by_cases h : t = d
      · subst h; simp [lset, h1, lget]
      · have h2 : Nat.beq d t = false := beqF fun e => h e.symm
        have h3 : Nat.beq p.1 t = false := by rw [hp]; exact h2
        simp [lset, h1, lget, h, h2, h3]
    · have h1 : Nat.beq p.1 d = false := beqF hp
      simp only [lset, h1, cond_false, lget]
      by_cases h : Nat.beq p.1 t = true
      · have e : p.1 = t := Nat.eq_of_beq_eq_true h
        have : t ≠ d := fun e' => hp (e.trans e')
        simp [h, this]
      · simp only [Bool.not_eq_true] at h
        simp [h, ih]
theorem sget_sdrop (t k : Nat) : ∀ l : List (Nat × S), sget t (sdrop k l) = match sget t l with
    | .loc k' o => bif Nat.beq k' k then .v .bad else .loc k' o
    | x => x
  | [] => rfl
  | (t', .v x) :: r => by
    simp only [sdrop, sget]
    cases Nat.beq t' t <;> simp [sget_sdrop t k r]
  | (t', .loc k' o) :: r => by
    simp only [sdrop, sget]
    cases Nat.beq t' t <;> simp [sget_sdrop t k r]

theorem getD_set (xs : Array Value) (d t : Nat) (v : Value) (h : d < xs.size) : (xs.setIfInBounds d v).getD t undef = if t = d then v else xs.getD t undef := by
  simp only [Array.getD_eq_getD_getElem?, Array.getElem?_setIfInBounds]
  by_cases e : d = t
  · subst e; simp [h]
  · have : ¬ t = d := fun x => e x.symm
    simp [e, this]

theorem FRep.set {γ : G} {σ : St} {F : Fr} {a : Act} {w : World} {lam : Nat → Nat} (h : FRep γ σ F a w lam) {d : Nat} {x : S} {v : Value} (hx : SRep γ lam x v)
    (hd : d < a.tmps.size) : FRep γ σ (F.set d x) (a.put (some d) v) w lam := by
  refine ⟨fun t => ?_, h.l, h.inj⟩
  simp only [Fr.set, sget_sset, Act.put, getD_set _ _ _ _ hd]
  by_cases e : t = d
  · simp [e, hx]
  · simp only [e, if_false]; exact h.s t

/-- Nothing is known of a slot any more. -/
theorem FRep.forget {γ : G} {σ : St} {F : Fr} {a : Act} {w : World} {lam : Nat → Nat} (h : FRep γ σ F a w lam) {d : Option Nat} {v : Value} : FRep γ σ (setO F d .bad) (a.put d v) w lam := by
  cases d with
  | none => exact h
  | some d =>
    refine ⟨fun t => ?_, h.l, h.inj⟩
    simp only [setO, Fr.set, sget_sset, Act.put]
    by_cases e : t = d
    · simp [e, SRep, Rep]
    · simp only [e, if_false]
      have : (a.tmps.setIfInBounds d v).getD t undef = a.tmps.getD t undef := by
        simp only [Array.getD_eq_getD_getElem?, Array.getElem?_setIfInBounds]
        have : ¬ d = t := fun x => e x.symm
        simp [this]
      rw [this]; exact h.s t

/-- A slot of what was skipped. -/
theorem FRep.forgetU {γ : G} {σ : St} {F : Fr} {a : Act} {w : World} {lam : Nat → Nat} (h : FRep γ σ F a w lam) {d : Option Nat} : FRep γ σ (setO F d (.tup [])) (a.put d undef) w lam := by
  cases d with
  | none => exact h
  | some d =>
    refine ⟨fun t => ?_, h.l, h.inj⟩
    simp only [setO, Fr.set, sget_sset, Act.put]
    by_cases e : t = d
    · subst e
      have : (a.tmps.setIfInBounds t undef).getD t undef = undef := by
        by_cases hx : t < a.tmps.size
        · simp [Array.getD_eq_getD_getElem?, hx]
        · simp [Array.getD_eq_getD_getElem?, hx]
      rw [this]
      simp only [if_true, SRep, Rep]
      exact ⟨[], rfl, rfl⟩
    · simp only [e, if_false]
      have : (a.tmps.setIfInBounds d undef).getD t undef = a.tmps.getD t undef := by
        simp only [Array.getD_eq_getD_getElem?, Array.getElem?_setIfInBounds]
        have : ¬ d = t := fun x => e x.symm
        simp [this]
      rw [this]; exact h.s t

theorem sLe.get {F : List (Nat × S)} : ∀ {G : List (Nat × S)}, sLe F G → ∀ t, sget t G = sget t F ∨ sget t G = .v .bad
  | [], _, _ => .inr rfl
  | p :: r, h, t => by
    simp only [sget]
    by_cases e : Nat.beq p.1 t = true
    · have : p.1 = t := Nat.eq_of_beq_eq_true e
      simp only [e, cond_true]
      exact .inl (by rw [← this]; exact h.1.symm)
    · simp only [Bool.not_eq_true] at e
      simp only [e, cond_false]
      exact sLe.get h.2 t
theorem lLe.get {F : List (Nat × List V)} : ∀ {G : List (Nat × List V)}, lLe F G → ∀ t cs, lget t G = some cs → lget t F = some cs
  | [], _, _, _, h => by simp [lget] at h
  | p :: r, h, t, cs, hc => by
    simp only [lget] at hc
    by_cases e : Nat.beq p.1 t = true
    · have : p.1 = t := Nat.eq_of_beq_eq_true e
      simp only [e, cond_true] at hc
      rw [← this, h.1, hc]
    · simp only [Bool.not_eq_true] at e
      simp only [e, cond_false] at hc
      exact lLe.get h.2 t cs hc

/-- What a smaller frame says holds too. -/
theorem FRep.weaken {γ : G} {σ : St} {F G : Fr} {a : Act} {w : World} {lam : Nat → Nat} (h : FRep γ σ F a w lam) (hle : FrLe G F) : FRep γ σ G a w lam := by
  rcases hle with rfl | hle
  · exact h
  refine ⟨fun t => ?_, fun k cs hk => h.l k cs (hle.2.get k cs hk), fun k k' cs cs' h1 h2 => h.inj k k' cs cs' (hle.2.get _ _ h1) (hle.2.get _ _ h2)⟩
  rcases hle.1.get t with e | e
  · rw [e]; exact h.s t
  · rw [e]; simp [SRep, Rep]
end Go.VL

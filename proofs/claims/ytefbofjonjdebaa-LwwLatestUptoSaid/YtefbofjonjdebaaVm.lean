/- The V-logic, part 13: new blocks, writes. -/
import Derived.Test.YtefbofjonjdebaaVl
set_option linter.unusedVariables false
set_option linter.unusedSimpArgs false
namespace Go.VL
open Go

section
variable {P : Program} {γ : G} {σ : St} {F : Fr} {a : Act} {w w' : World} {lam : Nat → Nat} {o : Oper} {K : Fr → St → Prop}

theorem heap_push (w : World) (x : Obj) : ({ w with heap := w.heap.push x } : World).heap[w.heap.size]? = some x := by simp

theorem Free.mono {live : List Bool} {b : Nat} (h : Free γ σ b) (hsub : ∀ (r : Nat), live[r]? = some true → σ.live[r]? = some true) : Free γ ⟨σ.objs, live⟩ b :=
  ⟨h.phi, h.pub, h.mu, fun r v s es h1 h2 => h.own r v s es (hsub r h1) h2⟩

theorem lam_lt (h : FRep γ σ F a w lam) {k : Nat} {cs : List V} (hk : lget k F.l = some cs) : lam k < w.heap.size := by
  obtain ⟨vs, e, h1, _⟩ := (h.l k cs hk).cells
  exact lt_of_heap h1

theorem FRep.newL (hi : INV γ σ w) (h : FRep γ σ F a w lam) (hb : But none w w') {b : Nat} (hlt : w.heap.size ≤ b) {d : Nat} {cs : List V} {vs : List Value} {e : TypeId}
    (hc : w'.heap[b]? = some (.cells vs.toArray e (0, 0))) (hr : RepL γ cs vs) (hd : d < a.tmps.size) :
    FRep γ σ (F.newL d cs) (a.put (some d) (.pointer (some ⟨b, 0, none⟩))) w' (fun k => if k = d then b else lam k) := by
  have h' := h.step hb
  have hfr := hi.free_new hlt
  refine ⟨fun t => ?_, fun k cs' hk => ?_, fun k k' cs1 cs2 h1 h2 he => ?_⟩
  · simp only [Fr.newL, sget_sset, Act.put, getD_set _ _ _ _ hd, sget_sdrop]
    by_cases e : t = d
    · simp [e, SRep]
    · simp only [e, if_false]
      have := h.s t
      cases hs : sget t F.s with
      | v x => rw [hs] at this; exact this
      | loc k q =>
        rw [hs] at this
        simp only
        by_cases hk : k = d
        · subst hk; simp [SRep, Rep]
        · simp only [beqF hk, cond_false, SRep, if_neg hk]
          exact this
  · simp only [Fr.newL, lget_lset] at hk
    by_cases e : k = d
    · subst e
      simp only [if_true, Option.some.injEq] at hk
      subst hk
      simp only [if_true]
      exact ⟨⟨vs, _, hc, hr⟩, hfr.phi, hfr.pub, hfr.mu, hfr.own⟩
    · simp only [e, if_false] at hk ⊢
      exact h'.l k cs' hk
  · simp only [Fr.newL, lget_lset] at h1 h2
    by_cases e1 : k = d <;> by_cases e2 : k' = d
    · rw [e1, e2]
    · simp only [e1, e2, if_true, if_false] at h2 he
      exact absurd (lam_lt h h2) (by omega)
    · simp only [e1, e2, if_true, if_false] at h1 he
      exact absurd (lam_lt h h1) (by omega)
    · simp only [e1, e2, if_false] at h1 h2 he
      exact h.inj k k' _ _ h1 h2 he

/-- A new object. -/
theorem INV.newObj (h : INV γ σ w) (hb : But none w w') {b : Nat} (hlt : w.heap.size ≤ b) {sn : Nat → Nat → Option (List MapEntry × Nat)}
    (hs : ∀ (c n : Nat) x, γ.snap c n = some x → sn c n = some x) (hs2 : ∀ c n, c ≠ b → sn c n = γ.snap c n) {ob : AObj}
    (ho : ORep { γ with mu := γ.mu ++ [b], snap := sn } w' b ob) : INV { γ with mu := γ.mu ++ [b], snap := sn } ⟨σ.objs ++ [ob], σ.live⟩ w' ∧ Le γ { γ with mu := γ.mu ++ [b], snap := sn } := by
  have h' := h.step hb
  have hfr := h.free_new hlt
  have hmu : ∀ (i c : Nat), γ.mu[i]? = some c → (γ.mu ++ [b])[i]? = some c := fun i c hi => by
    rw [List.getElem?_append_left (List.getElem?_eq_some_iff.1 hi).1]; exact hi
  have hle : LeR γ { γ with mu := γ.mu ++ [b], snap := sn } := ⟨hmu, fun _ _ x => x, fun _ _ _ x => x⟩
  have hsz : b < w'.heap.size := by obtain ⟨x, hx⟩ := ho.heap; exact lt_of_heap hx
  refine ⟨⟨h'.os, h'.tape, h'.out, h'.phi, h'.pub, by simp [h.mulen], ?_, ?_, h.rholen, ?_, ?_, h.apart⟩, ⟨hle, fun _ _ => rfl, rfl, hs, rfl, rfl, rfl⟩⟩
  · intro i c o h1 h2
    by_cases hi : i < γ.mu.length
    · have k1 : γ.mu[i]? = some c := by rwa [List.getElem?_append_left hi] at h1
      have k2 : σ.objs[i]? = some o := by rwa [List.getElem?_append_left (by rw [← h.mulen]; exact hi)] at h2
      obtain ⟨p1, p2, p3⟩ := h'.objs _ _ _ k1 k2
      have hne : c ≠ b := by
        intro e; subst e
        obtain ⟨_, _, q3⟩ := h.objs _ _ _ k1 k2
        obtain ⟨x, hx⟩ := q3.heap
        exact absurd (lt_of_heap hx) (by omega)
      exact ⟨p1, p2, p3.but (k := w'.heap.size) (.refl _ _) (by obtain ⟨x, hx⟩ := p3.heap; have := lt_of_heap hx; omega) hle (fun n => hs2 c n hne) hs⟩
    · have : i = γ.mu.length := by
        have := (List.getElem?_eq_some_iff.1 h1).1
        simp only [List.length_append, List.length_cons, List.length_nil] at this
        omega
      subst this
      rw [List.getElem?_append_right (Nat.le_refl _)] at h1
      rw [h.mulen, List.getElem?_append_right (Nat.le_refl _)] at h2
      simp only [Nat.sub_self, List.getElem?_cons_zero, Option.some.injEq] at h1 h2
      subst h1; subst h2
      exact ⟨hfr.phi, hfr.pub, ho⟩
  · intro i j c h1 h2
    have bnd : ∀ (i : Nat), (γ.mu ++ [b])[i]? = some c → (i < γ.mu.length ∧ γ.mu[i]? = some c) ∨ (i = γ.mu.length ∧ c = b) := by
      intro i hi
      by_cases hl : i < γ.mu.length
      · left; exact ⟨hl, by rwa [List.getElem?_append_left hl] at hi⟩
      · right
        have : i = γ.mu.length := by
          have := (List.getElem?_eq_some_iff.1 hi).1
          simp only [List.length_append, List.length_cons, List.length_nil] at this
          omega
        subst this
        rw [List.getElem?_append_right (Nat.le_refl _)] at hi
        simp only [Nat.sub_self, List.getElem?_cons_zero, Option.some.injEq] at hi
        exact ⟨rfl, hi.symm⟩
    rcases bnd i h1 with ⟨_, k1⟩ | ⟨rfl, e1⟩ <;> rcases bnd j h2 with ⟨_, k2⟩ | ⟨rfl, e2⟩
    · exact h.inj _ _ _ k1 k2
    · subst e2; exact absurd (mem_of_get k1) hfr.mu
    · subst e1; exact absurd (mem_of_get k2) hfr.mu
    · rfl
  · intro r v s es h1 h2
    have ho' := h'.own _ _ _ _ h1 h2
    have hne := hfr.own _ _ _ _ h1 h2
    refine ho'.but (k := w'.heap.size) (.refl _ _) ?_ hle ?_
    · obtain ⟨a, cap, rfl, _, _, _, _, _, c, _, _, _, h7, _⟩ := ho'
      simp only [blockOf, ne_eq, Option.some.injEq]
      have := lt_of_heap h7
      omega
    · obtain ⟨a, cap, rfl, _, _, h3, h4, h5, _⟩ := ho'
      intro c hc
      simp only [blockOf, Option.some.injEq] at hc hne
      subst hc
      exact ⟨h3, h4, by simp only [List.mem_append, List.mem_singleton, not_or]; exact ⟨h5, fun e => hne (by rw [e])⟩⟩
  · intro c n x hx
    by_cases e : c = b
    · subst e; exact hsz
    · exact h'.snapb c n x (by rw [← hs2 c n e]; exact hx)

theorem FRep.newObj (h : FRep γ σ F a w lam) (hb : But none w w') {b : Nat} (hlt : w.heap.size ≤ b) {sn : Nat → Nat → Option (List MapEntry × Nat)} {objs : List AObj} :
    FRep { γ with mu := γ.mu ++ [b], snap := sn } ⟨objs, σ.live⟩ F a w' lam := by
  have h' := h.step hb
  have hle : LeR γ { γ with mu := γ.mu ++ [b], snap := sn } := ⟨fun i c hi => by
    show (γ.mu ++ [b])[i]? = some c
    rw [List.getElem?_append_left (List.getElem?_eq_some_iff.1 hi).1]; exact hi, fun _ _ x => x, fun _ _ _ x => x⟩
  refine ⟨fun t => (h.s t).mono hle, fun k cs hk => ?_, h.inj⟩
  have hl := h'.l k cs hk
  have := lam_lt h hk
  obtain ⟨vs, e, h1, h2⟩ := hl.cells
  exact ⟨⟨vs, e, h1, RepL.mono hle _ _ h2⟩, hl.phi, hl.pub, by
    show lam k ∉ γ.mu ++ [b]
    simp only [List.mem_append, List.mem_singleton, not_or]; exact ⟨hl.mu, by omega⟩, hl.own⟩

/-- A new right: of the one block that has changed. -/
theorem INV.right (h : INV γ σ w) {k : Nat} (hb : But (some k) w w') {live : List Bool} (hll : live.length = σ.live.length) (hsub : ∀ (r : Nat), live[r]? = some true → σ.live[r]? = some true)
    (hf : Free γ ⟨σ.objs, live⟩ k) {v : Value} {s : Nat} {es : List (List V)} {f : Bool} (ho : f = true → blockOf v = some k ∧ OwnAt { γ with rho := γ.rho ++ [(v, s, es)] } w' v s es) :
    INV { γ with rho := γ.rho ++ [(v, s, es)] } ⟨σ.objs, live ++ [f]⟩ w' ∧ Le γ { γ with rho := γ.rho ++ [(v, s, es)] } := by
  have h0 : INV γ ⟨σ.objs, live⟩ w := ⟨h.os, h.tape, h.out, h.phi, h.pub, h.mulen, h.objs, h.inj, by rw [h.rholen, hll], fun r v s es h1 h2 => h.own r v s es (hsub r h1) h2, h.snapb,
    fun r r' v s es v' s' es' b h1 h2 => h.apart r r' v s es v' s' es' b (hsub r h1) (hsub r' h2)⟩
  have h' := h0.but hb hf
  have hle : LeR γ { γ with rho := γ.rho ++ [(v, s, es)] } := ⟨fun _ _ x => x, fun i c hi => by
    show (γ.rho ++ [(v, s, es)])[i]? = some c
    rw [List.getElem?_append_left (List.getElem?_eq_some_iff.1 hi).1]; exact hi, fun _ _ _ x => x⟩
  have hlen : γ.rho.length = live.length := by rw [h.rholen, hll]
  have part : ∀ (r : Nat) (x : Value × Nat × List (List V)), (live ++ [f])[r]? = some true → (γ.rho ++ [(v, s, es)])[r]? = some x →
      (live[r]? = some true ∧ γ.rho[r]? = some x) ∨ (r = live.length ∧ f = true ∧ x = (v, s, es)) := by
    intro r x h1 h2
    by_cases hr : r < live.length
    · left
      rw [List.getElem?_append_left hr] at h1
      rw [List.getElem?_append_left (by omega)] at h2
      exact ⟨h1, h2⟩
    · right
      have : r = live.length := by
        have := (List.getElem?_eq_some_iff.1 h1).1
        simp only [List.length_append, List.length_cons, List.length_nil] at this
        omega
      subst this
      rw [List.getElem?_append_right (Nat.le_refl _)] at h1
      rw [← hlen, List.getElem?_append_right (Nat.le_refl _)] at h2
      simp only [Nat.sub_self, List.getElem?_cons_zero, Option.some.injEq] at h1 h2
      exact ⟨rfl, h1, h2.symm⟩
  refine ⟨⟨h'.os, h'.tape, h'.out, h'.phi, h'.pub, h'.mulen, ?_, h'.inj, by simp [h.rholen, hll], ?_, h'.snapb, ?_⟩, ⟨hle, fun _ _ => rfl, rfl, fun _ _ _ x => x, rfl, rfl, rfl⟩⟩
  · intro i b o h1 h2
    obtain ⟨p1, p2, p3⟩ := h'.objs _ _ _ h1 h2
    exact ⟨p1, p2, p3.but (k := w'.heap.size) (.refl _ _) (by obtain ⟨x, hx⟩ := p3.heap; have := lt_of_heap hx; omega) hle (fun _ => rfl) (fun _ _ _ x => x)⟩
  · intro r v2 s2 es2 h1 h2
    rcases part r _ h1 h2 with ⟨k1, k2⟩ | ⟨_, k2, k3⟩
    · have ho' := h'.own _ _ _ _ k1 k2
      refine ho'.but (k := w'.heap.size) (.refl _ _) ?_ hle ?_
      · obtain ⟨a, cap, rfl, _, _, _, _, _, c, _, _, _, h7, _⟩ := ho'
        simp only [blockOf, ne_eq, Option.some.injEq]
        have := lt_of_heap h7
        omega
      · obtain ⟨a, cap, rfl, _, _, h3, h4, h5, _⟩ := ho'
        intro c hc
        cases hc
        exact ⟨h3, h4, h5⟩
    · cases k3
      exact (ho k2).2
  · intro r r' v1 s1 es1 v2 s2 es2 b h1 h2 h3 h4 h5 h6
    rcases part r _ h1 h3 with ⟨k1, k2⟩ | ⟨e1, k1, k2⟩ <;> rcases part r' _ h2 h4 with ⟨k3, k4⟩ | ⟨e2, k3, k4⟩
    · exact h'.apart r r' _ _ _ _ _ _ b k1 k3 k2 k4 h5 h6
    · cases k4
      have := (ho k3).1
      rw [this] at h6
      cases h6
      exact absurd h5 (hf.own _ _ _ _ k1 k2)
    · cases k2
      have := (ho k1).1
      rw [this] at h5
      cases h5
      exact absurd h6 (hf.own _ _ _ _ k3 k4)
    · rw [e1, e2]

theorem FRep.right (h : FRep γ σ F a w lam) {k : Nat} (hb : But (some k) w w') {live : List Bool} (hll : live.length = γ.rho.length) (hsub : ∀ (r : Nat), live[r]? = some true → σ.live[r]? = some true)
    (hk : ∀ j cs, lget j F.l = some cs → lam j ≠ k) {v : Value} {s : Nat} {es : List (List V)} {f : Bool} (ho : f = true → blockOf v = some k) :
    FRep { γ with rho := γ.rho ++ [(v, s, es)] } ⟨σ.objs, live ++ [f]⟩ F a w' lam := by
  have hle : LeR γ { γ with rho := γ.rho ++ [(v, s, es)] } := ⟨fun _ _ x => x, fun i c hi => by
    show (γ.rho ++ [(v, s, es)])[i]? = some c
    rw [List.getElem?_append_left (List.getElem?_eq_some_iff.1 hi).1]; exact hi, fun _ _ _ x => x⟩
  refine ⟨fun t => (h.s t).mono hle, fun j cs hj => ?_, h.inj⟩
  have hl := h.l j cs hj
  have hne := hk j cs hj
  obtain ⟨vs, e, h1, h2⟩ := hl.cells
  refine ⟨⟨vs, e, hb.heap _ _ (fun x => hne (by cases x; rfl)) h1, RepL.mono hle _ _ h2⟩, hl.phi, hl.pub, hl.mu, ?_⟩
  intro r v2 s2 es2 k1 k2 k3
  by_cases hr : r < live.length
  · rw [List.getElem?_append_left hr] at k1
    have k2' : γ.rho[r]? = some (v2, s2, es2) := by
      have : (γ.rho ++ [(v, s, es)])[r]? = some (v2, s2, es2) := k2
      rwa [List.getElem?_append_left (by omega)] at this
    exact hl.own _ _ _ _ (hsub _ k1) k2' k3
  · have : r = live.length := by
      have := (List.getElem?_eq_some_iff.1 k1).1
      simp only [List.length_append, List.length_cons, List.length_nil] at this
      omega
    subst this
    rw [List.getElem?_append_right (Nat.le_refl _)] at k1
    have k2' : (γ.rho ++ [(v, s, es)])[live.length]? = some (v2, s2, es2) := k2
    rw [hll, List.getElem?_append_right (Nat.le_refl _)] at k2'
    simp only [Nat.sub_self, List.getElem?_cons_zero, Option.some.injEq] at k1 k2'
    cases k2'
    rw [ho k1] at k3
    cases k3
    exact hne rfl
end
end Go.VL

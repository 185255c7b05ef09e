/- The V-logic, part 19: regions, statements, functions. -/
import Derived.Test.YtefbofjonjdebaaVr
set_option linter.unusedVariables false
set_option linter.unusedSimpArgs false
namespace Go.VL
open Go

section
variable {P : Program} {γ0 γ : G} {σ : St} {F : Fr} {a : Act} {w : World} {lam : Nat → Nat} {o : Oper} {N : Nat} {ro : Option Nat} {n : Nat} {Q : X → Fr → St → Prop} {loc : List Nat}

theorem yielded_of (hf : FRep γ σ F a w lam) {ops : Array Oper} {j g : Nat} (hg : (ops[j]?).bind (·.dst) = some g) {c : Bool} (hc : F.va (.t g) = .bool c) :
    yielded ops a.tmps j = some c := by
  have hr := va_rep hf (s := 0) (x := .tmp g) (e := .t g) rfl
  rw [hc] at hr
  simp only [Rep, Act.eval] at hr
  unfold yielded
  rw [hg]
  simp only [Option.bind_some]
  cases hx : a.tmps[g]? with
  | none => rw [Array.getD_eq_getD_getElem?, hx] at hr; cases hr
  | some v => rw [Array.getD_eq_getD_getElem?, hx] at hr; simp only [Option.getD_some] at hr; subst hr; rfl

theorem dstOK_spec {N : Nat} : ∀ {x y : Option Nat}, dstOK N x y = true → y = x ∧ ∀ d, x = some d → d < N
  | some d, some e, h => by
    simp only [dstOK, Bool.and_eq_true, Nat.ble_eq] at h
    have he : d = e := Nat.eq_of_beq_eq_true h.1
    refine ⟨by rw [he], ?_⟩
    intro d' hd
    simp only [Option.some.injEq] at hd
    omega
  | none, none, _ => ⟨rfl, fun d h => by cases h⟩
  | none, some _, h => by simp [dstOK] at h
  | some _, none, h => by simp [dstOK] at h

/-- What was skipped yields nothing. -/
theorem yielded_u (hf : FRep γ σ F a w lam) {ops : Array Oper} {j g : Nat} (hg : (ops[j]?).bind (·.dst) = some g) (hc : F.va (.t g) = .tup []) :
    yielded ops a.tmps j = none := by
  have hr := va_rep hf (s := 0) (x := .tmp g) (e := .t g) rfl
  rw [hc] at hr
  simp only [Rep, Act.eval, RepL] at hr
  obtain ⟨vs, hr, rfl⟩ := hr
  unfold yielded
  rw [hg]
  simp only [Option.bind_some]
  cases hx : a.tmps[g]? with
  | none => rfl
  | some v => rw [Array.getD_eq_getD_getElem?, hx] at hr; simp only [Option.getD_some] at hr; subst hr; rfl

theorem O.W_mono {K K' : Option (List Nat) → Fr → St → Prop} {o : O} {e : Option (List Nat)} (h : o.W P e F σ K) (hk : ∀ e F σ, K e F σ → K' e F σ) : o.W P e F σ K' := by
  have hr : ∀ {r : Res} {K K' : Fr → St → Prop}, resK K r → (∀ F σ, K F σ → K' F σ) → resK K' r := by
    intro r K K' h hk
    cases r with
    | bad => exact h
    | ok F σ => exact hk _ _ h
    | need p F σ => exact ⟨h.1, hk _ _ h.2⟩
  cases hc : o.isCall with
  | false =>
    have e1 : ∀ K, o.W P e F σ K = resK (K (o.seen e F)) (o.run F σ) := by intro K; cases o <;> first | rfl | (simp [O.isCall] at hc)
    rw [e1] at h ⊢
    exact hr h (hk _)
  | true =>
    cases o <;> simp only [O.isCall, Bool.false_eq_true] at hc
    · exact CallA.mono h fun v σ' x => ⟨x.1, hk _ _ _ x.2⟩
    · obtain ⟨g, caps, h1, h2⟩ := h; exact ⟨g, caps, h1, CallA.mono h2 fun v σ' x => ⟨x.1, hk _ _ _ x.2⟩⟩

theorem GO.W_mono {K K' : Option (List Nat) → Fr → St → Prop} {o : GO} {e : Option (List Nat)} (h : o.W P e F σ K) (hk : ∀ e F σ, K e F σ → K' e F σ) : o.W P e F σ K' := by
  unfold GO.W at h ⊢
  cases hg : o.g with
  | none => simp only [hg] at h ⊢; exact O.W_mono h hk
  | some g =>
    simp only [hg] at h ⊢
    rcases h with ⟨h1, h2⟩ | ⟨c, h1, h2, h3⟩
    · exact .inl ⟨h1, hk _ _ _ h2⟩
    · exact .inr ⟨c, h1, fun e => O.W_mono (h2 e) hk, fun e => hk _ _ _ (h3 e)⟩

theorem ops_wp {ops : Array Oper} (QQ : Exit → Act → World → Prop) (hQ : ∀ a w, Post γ0 N Q .normal a w → QQ .normal a w) :
    ∀ (l : List Oper) (gs : List GO) (e : Option (List Nat)) (F : Fr) (σ : St) (γ : G) (a : Act) (w : World) (lam : Nat → Nat), compGs P N loc ops l = some gs → opsW P e gs F σ Q →
      LeB γ0 γ → INV γ σ w → FRep γ σ F a w lam → a.tmps.size = N → Marks γ0 γ a.defers → wpListIn (Fw ro) n P ops QQ l a w
  | [], gs, e, F, σ, γ, a, w, lam, hc, h, hle, hi, hf, hN, hm => by
    simp only [compGs, Option.some.injEq] at hc
    subst hc
    exact hQ _ _ ⟨.normal, F, σ, γ, lam, trivial, hle, hi, hf, hN, hm, h⟩
  | o :: r, gs, e, F, σ, γ, a, w, lam, hc, h, hle, hi, hf, hN, hm => by
    simp only [compGs] at hc
    split at hc
    · rename_i g l hg hl
      simp only [Option.some.injEq] at hc
      subst hc
      simp only [compG] at hg
      split at hg
      · cases hg
      · rename_i c hcO
        cases hok : dstOK N o.dst c.dst with
        | false => simp [hok] at hg
        | true =>
          obtain ⟨hdst, hd0⟩ := dstOK_spec hok
          have hd' : ∀ d, o.dst = some d → d < a.tmps.size := fun d hd => hN ▸ hd0 d hd
          have next : ∀ F' σ', (∃ e', opsW P e' l F' σ' Q) → ∀ a' w' γ' lam', LeB γ γ' → INV γ' σ' w' → FRep γ' σ' F' a' w' lam' → a'.tmps.size = a.tmps.size → a'.defers = a.defers →
              wpListIn (Fw ro) n P ops QQ r a' w' := by
            intro F' σ' ⟨e', hW⟩ a' w' γ' lam' h1 h2 h3 h4 h5
            exact ops_wp QQ hQ r l e' F' σ' γ' a' w' lam' hl hW (hle.trans h1) h2 h3 (h4.trans hN) (by rw [h5]; exact hm.mono h1)
          have hop : c.W P e F σ (fun e' F' σ' => opsW P e' l F' σ' Q) → o.wpIn (Fw ro) n P a w (wpListIn (Fw ro) n P ops QQ r) QQ := fun hW =>
            op_wp hcO (O.W_mono (K' := fun _ F' σ' => ∃ e', opsW P e' l F' σ' Q) hW fun e' _ _ h => ⟨e', h⟩) hi hf hd' fun a' w' γ' σ' F' lam' h1 h2 h3 h4 h5 h6 => next F' σ' h6 a' w' γ' lam' h1 h2 h3 h4 h5
          unfold wpListIn
          simp only [hok] at hg
          split at hg
          · rename_i hgd
            simp only [Option.some.injEq] at hg
            subst hg
            simp only [opsW, GO.W] at h
            rw [if_pos (by simp [Region.wanted, hgd])]
            exact hop h
          · rename_i j b _ hgd
            simp only [Option.map_eq_some_iff] at hg
            obtain ⟨g', hg1, rfl⟩ := hg
            simp only [opsW, GO.W] at h
            have skip : opsW P e l (setO F c.dst (.tup [])) σ Q → Region.wanted o (yielded ops a.tmps) ≠ true → (if Region.wanted o (yielded ops a.tmps) = true then o.wpIn (Fw ro) n P a w (wpListIn (Fw ro) n P ops QQ r) QQ
                else (∀ f, o.about P w a.eval = some f → (Fw ro).fn f) ∧ wpListIn (Fw ro) n P ops QQ r (a.put o.dst undef) w) := by
              intro h hw
              rw [if_neg hw]
              refine ⟨fun _ _ => trivial, ?_⟩
              rw [hdst] at h
              exact next _ _ ⟨e, h⟩ _ _ γ lam (LeB.refl γ) hi (hf.forgetU) (put_size a o.dst undef).1 (put_size a o.dst undef).2
            rcases h with ⟨hu, h⟩ | ⟨cb, hcb, ht, hs⟩
            · have hy := yielded_u hf hg1 hu
              exact skip h (by simp [Region.wanted, hgd, hy])
            have hy := yielded_of hf hg1 hcb
            by_cases hcc : cb = b
            · rw [if_pos (by simp [Region.wanted, hgd, hy, hcc])]
              exact hop (ht hcc)
            · exact skip (hs hcc) (by simp [Region.wanted, hgd, hy, hcc])
          · cases hg
    · cases hc

/-- One operation of a region. -/
theorem go_wp {e : Option (List Nat)} {ops : Array Oper} {g : GO} {K : Fr → St → Prop} {next : Act → World → Prop} {QQ : Exit → Act → World → Prop} (hg : compG P N loc ops o = some g) (h : g.W P e F σ fun _ => K)
    (hi : INV γ σ w) (hf : FRep γ σ F a w lam) (hN : a.tmps.size = N) (hn : Nxt γ a next K) :
    if Region.wanted o (yielded ops a.tmps) = true then o.wpIn (Fw ro) n P a w next QQ else (∀ f, o.about P w a.eval = some f → (Fw ro).fn f) ∧ next (a.put o.dst undef) w := by
  simp only [compG] at hg
  split at hg
  · cases hg
  · rename_i c hcO
    cases hok : dstOK N o.dst c.dst with
    | false => simp [hok] at hg
    | true =>
      obtain ⟨hdst, hd0⟩ := dstOK_spec hok
      have hd' : ∀ d, o.dst = some d → d < a.tmps.size := fun d hd => hN ▸ hd0 d hd
      have hop : (c.W P e F σ fun _ => K) → o.wpIn (Fw ro) n P a w next QQ := fun hW => op_wp hcO hW hi hf hd' hn
      simp only [hok] at hg
      split at hg
      · rename_i hgd
        simp only [Option.some.injEq] at hg
        subst hg
        simp only [GO.W] at h
        rw [if_pos (by simp [Region.wanted, hgd])]
        exact hop h
      · rename_i j b _ hgd
        simp only [Option.map_eq_some_iff] at hg
        obtain ⟨g', hg1, rfl⟩ := hg
        simp only [GO.W] at h
        have skip : K (setO F c.dst (.tup [])) σ → Region.wanted o (yielded ops a.tmps) ≠ true → (if Region.wanted o (yielded ops a.tmps) = true then o.wpIn (Fw ro) n P a w next QQ
            else (∀ f, o.about P w a.eval = some f → (Fw ro).fn f) ∧ next (a.put o.dst undef) w) := by
          intro h hw
          rw [if_neg hw]
          refine ⟨fun _ _ => trivial, ?_⟩
          rw [hdst] at h
          exact hn _ _ _ _ _ _ (LeB.refl γ) hi (hf.forgetU) (put_size a o.dst undef).1 (put_size a o.dst undef).2 h
        rcases h with ⟨hu, h⟩ | ⟨cb, hcb, ht, hs⟩
        · have hy := yielded_u hf hg1 hu
          exact skip h (by simp [Region.wanted, hgd, hy])
        have hy := yielded_of hf hg1 hcb
        by_cases hcc : cb = b
        · rw [if_pos (by simp [Region.wanted, hgd, hy, hcc])]
          exact hop (ht hcc)
        · exact skip (hs hcc) (by simp [Region.wanted, hgd, hy, hcc])
      · cases hg
end
end Go.VL

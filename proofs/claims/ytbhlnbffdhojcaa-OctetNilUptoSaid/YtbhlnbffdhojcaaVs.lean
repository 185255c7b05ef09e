/- The V-logic, part 19: regions, statements, functions. -/
import Derived.Test.YtbhlnbffdhojcaaVr
set_option linter.unusedVariables false
set_option linter.unusedSimpArgs false
namespace Go.VL
open Go

section
variable {P : Program} {γ0 γ : G} {σ : St} {F : Fr} {a : Act} {w : World} {lam : Nat → Nat} {o : Oper} {N : Nat} {ro : Option Nat} {n : Nat} {Q : X → Fr → St → Prop} {loc : List Nat}

theorem yielded_of (hf : FRep γ σ F a w lam) {ops : Array Oper} {j g : Nat} (hg : (ops[j]?).bind (·.dst) = some g) {c : Bool} (hc : F.va (.t g) = .bool c) :
    yielded ops a.tmps j = some c := by
  have hr := va_rep hf (s := 0) (x := .tmp g) (e := .t g) rfl
  rw [hc] at hr
  simp only [Rep, Act.eval] at hr
  unfold yielded
  rw [hg]
  simp only [Option.bind_some]
  cases hx : a.tmps[g]? with
  | none => rw [Array.getD_eq_getD_getElem?, hx] at hr; cases hr
  | some v => rw [Array.getD_eq_getD_getElem?, hx] at hr; simp only [Option.getD_some] at hr; subst hr; rfl

theorem dstOK_spec {N : Nat} : ∀ {x y : Option Nat}, dstOK N x y = true → y = x ∧ ∀ d, x = some d → d < N
  | some d, some e, h => by
    simp only [dstOK, Bool.and_eq_true, Nat.ble_eq] at h
    have he : d = e := Nat.eq_of_beq_eq_true h.1
    refine ⟨by rw [he], ?_⟩
    intro d' hd
    simp only [Option.some.injEq] at hd
    omega
  | none, none, _ => ⟨rfl, fun d h => by cases h⟩
  | none, some _, h => by simp [dstOK] at h
  | some _, none, h => by simp [dstOK] at h

theorem ops_wp {e : Bool} {ops : Array Oper} (QQ : Exit → Act → World → Prop) (hQ : ∀ a w, Post γ0 N Q .normal a w → QQ .normal a w) :
    ∀ (l : List Oper) (gs : List GO) (F : Fr) (σ : St) (γ : G) (a : Act) (w : World) (lam : Nat → Nat), compGs P N loc ops l = some gs → opsW P e gs F σ Q →
      LeB γ0 γ → INV γ σ w → FRep γ σ F a w lam → a.tmps.size = N → Marks γ0 γ a.defers → wpListIn (Fw ro) n P ops QQ l a w
  | [], gs, F, σ, γ, a, w, lam, hc, h, hle, hi, hf, hN, hm => by
    simp only [compGs, Option.some.injEq] at hc
    subst hc
    exact hQ _ _ ⟨.normal, F, σ, γ, lam, trivial, hle, hi, hf, hN, hm, h⟩
  | o :: r, gs, F, σ, γ, a, w, lam, hc, h, hle, hi, hf, hN, hm => by
    simp only [compGs] at hc
    split at hc
    · rename_i g l hg hl
      simp only [Option.some.injEq] at hc
      subst hc
      simp only [compG] at hg
      split at hg
      · cases hg
      · rename_i c hcO
        cases hok : dstOK N o.dst c.dst with
        | false => simp [hok] at hg
        | true =>
          obtain ⟨hdst, hd0⟩ := dstOK_spec hok
          have hd' : ∀ d, o.dst = some d → d < a.tmps.size := fun d hd => hN ▸ hd0 d hd
          have next : ∀ F' σ', opsW P e l F' σ' Q → ∀ a' w' γ' lam', LeB γ γ' → INV γ' σ' w' → FRep γ' σ' F' a' w' lam' → a'.tmps.size = a.tmps.size → a'.defers = a.defers →
              wpListIn (Fw ro) n P ops QQ r a' w' := by
            intro F' σ' hW a' w' γ' lam' h1 h2 h3 h4 h5
            exact ops_wp QQ hQ r l F' σ' γ' a' w' lam' hl hW (hle.trans h1) h2 h3 (h4.trans hN) (by rw [h5]; exact hm.mono h1)
          have hop : c.W P e F σ (fun F' σ' => opsW P e l F' σ' Q) → o.wpIn (Fw ro) n P a w (wpListIn (Fw ro) n P ops QQ r) QQ := fun hW =>
            op_wp hcO hW hi hf hd' fun a' w' γ' σ' F' lam' h1 h2 h3 h4 h5 h6 => next F' σ' h6 a' w' γ' lam' h1 h2 h3 h4 h5
          unfold wpListIn
          simp only [hok] at hg
          split at hg
          · rename_i hgd
            simp only [Option.some.injEq] at hg
            subst hg
            simp only [opsW, GO.W] at h
            rw [if_pos (by simp [Region.wanted, hgd])]
            exact hop h
          · rename_i j b _ hgd
            simp only [Option.map_eq_some_iff] at hg
            obtain ⟨g', hg1, rfl⟩ := hg
            simp only [opsW, GO.W] at h
            obtain ⟨cb, hcb, ht, hs⟩ := h
            have hy := yielded_of hf hg1 hcb
            by_cases hcc : cb = b
            · rw [if_pos (by simp [Region.wanted, hgd, hy, hcc])]
              exact hop (ht hcc)
            · rw [if_neg (by simp [Region.wanted, hgd, hy, hcc])]
              refine ⟨fun _ _ => trivial, ?_⟩
              have h := hs hcc
              rw [hdst] at h
              exact next _ _ h _ _ γ lam (LeB.refl γ) hi (hf.forget) (put_size a o.dst undef).1 (put_size a o.dst undef).2
          · cases hg
    · cases hc

/-- One operation of a region. -/
theorem go_wp {e : Bool} {ops : Array Oper} {g : GO} {K : Fr → St → Prop} {next : Act → World → Prop} {QQ : Exit → Act → World → Prop} (hg : compG P N loc ops o = some g) (h : g.W P e F σ K)
    (hi : INV γ σ w) (hf : FRep γ σ F a w lam) (hN : a.tmps.size = N) (hn : Nxt γ a next K) :
    if Region.wanted o (yielded ops a.tmps) = true then o.wpIn (Fw ro) n P a w next QQ else (∀ f, o.about P w a.eval = some f → (Fw ro).fn f) ∧ next (a.put o.dst undef) w := by
  simp only [compG] at hg
  split at hg
  · cases hg
  · rename_i c hcO
    cases hok : dstOK N o.dst c.dst with
    | false => simp [hok] at hg
    | true =>
      obtain ⟨hdst, hd0⟩ := dstOK_spec hok
      have hd' : ∀ d, o.dst = some d → d < a.tmps.size := fun d hd => hN ▸ hd0 d hd
      have hop : c.W P e F σ K → o.wpIn (Fw ro) n P a w next QQ := fun hW => op_wp hcO hW hi hf hd' hn
      simp only [hok] at hg
      split at hg
      · rename_i hgd
        simp only [Option.some.injEq] at hg
        subst hg
        simp only [GO.W] at h
        rw [if_pos (by simp [Region.wanted, hgd])]
        exact hop h
      · rename_i j b _ hgd
        simp only [Option.map_eq_some_iff] at hg
        obtain ⟨g', hg1, rfl⟩ := hg
        simp only [GO.W] at h
        obtain ⟨cb, hcb, ht, hs⟩ := h
        have hy := yielded_of hf hg1 hcb
        by_cases hcc : cb = b
        · rw [if_pos (by simp [Region.wanted, hgd, hy, hcc])]
          exact hop (ht hcc)
        · rw [if_neg (by simp [Region.wanted, hgd, hy, hcc])]
          refine ⟨fun _ _ => trivial, ?_⟩
          have h := hs hcc
          rw [hdst] at h
          exact hn _ _ _ _ _ _ (LeB.refl γ) hi (hf.forget) (put_size a o.dst undef).1 (put_size a o.dst undef).2 h
      · cases hg
end
end Go.VL

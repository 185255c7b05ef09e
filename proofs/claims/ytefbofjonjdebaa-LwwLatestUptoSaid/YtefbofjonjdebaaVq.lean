/- The V-logic, part 17: every operation that is compiled does what its compiled form says. -/
import Derived.Test.YtefbofjonjdebaaVmb
set_option linter.unusedVariables false
set_option linter.unusedSimpArgs false
namespace Go.VL
open Go

section
variable {P : Program} {γ : G} {σ : St} {F : Fr} {a : Act} {w : World} {lam : Nat → Nat} {o : Oper} {K : Fr → St → Prop}

theorem fieldsOf_some {t : TypeId} {fs : Array Field} (h : fieldsOf P t = some fs) : P.underlying t = some (.struct fs) := by
  unfold fieldsOf at h
  split at h
  · rename_i gs hu
    cases h
    exact hu
  · simp at h

theorem compO'_good {loc : List Nat} {c : O} (hc : compO' P loc o = some c) (hi : INV γ σ w) (hf : FRep γ σ F a w lam) (hN : ∀ d, o.dst = some d → d < a.tmps.size)
    (h : resK K (c.run F σ)) : Good P o a w γ K := by
  unfold compO' at hc
  split at hc
  · rename_i x d hop hd
    simp only [Option.map_eq_some_iff] at hc; obtain ⟨e, h1, rfl⟩ := hc
    exact good_mv hi hf (.inl hop) hd (hN d hd) h1 h
  · rename_i x d hop hd
    simp only [Option.map_eq_some_iff] at hc; obtain ⟨e, h1, rfl⟩ := hc
    exact good_mv hi hf (.inr hop) hd (hN d hd) h1 h
  · rename_i c' x y d hop hd
    split at hc
    · rename_i ec ex ey h1 h2 h3
      cases hc
      exact good_pk hi hf hop hd (hN d hd) h1 h2 h3 h
    · simp at hc
  · rename_i t d hop hd
    simp only [Option.map_eq_some_iff] at hc; obtain ⟨z, h1, rfl⟩ := hc
    by_cases hl : loc.contains d = true
    · rw [if_pos hl] at h; exact good_al true hi hf hop hd (hN d hd) h1 h
    · rw [if_neg hl] at h; exact good_al false hi hf hop hd (hN d hd) h1 h
  · rename_i t x d hop hd
    simp only [Option.map_eq_some_iff] at hc; obtain ⟨e, h1, rfl⟩ := hc
    by_cases hl : loc.contains d = true
    · rw [if_pos hl] at h; exact good_bx true hi hf hop hd (hN d hd) h1 h
    · rw [if_neg hl] at h; exact good_bx false hi hf hop hd (hN d hd) h1 h
  · rename_i t ps d hop hd
    split at hc
    · rename_i fs z h1 h2
      split at hc
      · rename_i hall
        simp only [Option.map_eq_some_iff] at hc; obtain ⟨qs, h3, rfl⟩ := hc
        exact good_bld hi hf hop hd (hN d hd) (fieldsOf_some h1) (fun f hf => by
          simp only [Array.all_eq_true'] at hall
          exact hall f hf) h2 h3 h
      · simp at hc
    · simp at hc
  · rename_i t len ps d hop hd
    split at hc
    · rename_i e hu
      split at hc
      · rename_i s z l h1 h2 h3
        split at hc
        · rename_i hcond
          cases hc
          simp only [Bool.and_eq_true, decide_eq_true_eq] at hcond
          exact good_lit hi hf hop hd (hN d hd) hu h1 h2 h3 hcond.1 hcond.2 h
        · simp at hc
      · simp at hc
    · simp at hc
  · rename_i t x d hop hd
    split at hc
    · rename_i n g e h1 h2 h3
      cases hc
      exact good_ld hi hf hop hd (hN d hd) h1 h2 h3 h
    · simp at hc
  · rename_i t x y hop hd
    split at hc
    · rename_i n ex ey h1 h2 h3
      cases hc
      cases hse : isSe loc x with
      | true => rw [hse] at h; exact good_se hi hf hop hd h1 h2 h3 h
      | false => rw [hse] at h; exact good_st hi hf hop hd h1 h2 h3 h
    · simp at hc
  · rename_i x d hop hd
    simp only [Option.map_eq_some_iff] at hc; obtain ⟨e, h1, rfl⟩ := hc
    exact good_nc hi hf hop hd (hN d hd) h1 h
  · rename_i op t x y u d hop hd
    split at hc
    · rename_i ex ey h1 h2
      split at hc
      · rename_i fs hu
        split at hc
        · rename_i lv hl
          split at hc
          · simp at hc
          · rename_i hg
            cases hc
            exact good_be hi hf hop hd (hN d hd) hu hl (by simpa using hg) (.inl ⟨rfl, rfl⟩) h1 h2 h
        · rename_i lv hl
          split at hc
          · simp at hc
          · rename_i hg
            cases hc
            exact good_be hi hf hop hd (hN d hd) hu hl (by simpa using hg) (.inr ⟨rfl, rfl⟩) h1 h2 h
        · simp at hc
      · cases hc
        exact good_bi hi hf hop hd (hN d hd) h1 h2 h
      · cases hc
        exact good_bi hi hf hop hd (hN d hd) h1 h2 h
      · rename_i T hu
        split at hc
        · rename_i k hk
          cases hc
          exact good_bq hi hf hop hd (hN d hd) hu hk (.inl ⟨rfl, rfl⟩) h1 h2 h
        · rename_i k hk
          cases hc
          exact good_bq hi hf hop hd (hN d hd) hu hk (.inr ⟨rfl, rfl⟩) h1 h2 h
        · simp at hc
      · simp at hc
    · simp at hc
  · rename_i op t x d hop hd
    simp only [Option.map_eq_some_iff] at hc; obtain ⟨e, h1, rfl⟩ := hc
    exact good_un hi hf hop hd (hN d hd) h1 h
  · rename_i s t x d hop hd
    split at hc
    · rename_i k' k e h1 h2 h3
      cases hc
      exact good_cI hi hf hop hd (hN d hd) h1 h2 h3 h
    · rename_i et e h1 h2 h3
      split at hc
      · rename_i hm
        cases hc
        refine good_cS hi hf hop hd (hN d hd) h1 ?_ h2 h3 h
        revert hm
        cases P.underlying et with
        | none => simp
        | some u => cases u <;> simp
      · simp at hc
    · rename_i e h1 h2 h3
      cases hc
      exact good_cT hi hf hop hd (hN d hd) h1 h2 h3 h
    · rename_i et e h1 h2 h3
      split at hc
      · rename_i hm
        cases hc
        refine good_cB hi hf hop hd (hN d hd) h1 h2 ?_ h3 h
        revert hm
        cases P.underlying et with
        | none => simp
        | some u => cases u <;> simp
      · simp at hc
    · simp at hc
  · rename_i f first caps d hop hd
    split at hc
    · rename_i hfi
      simp only [Option.map_eq_some_iff] at hc; obtain ⟨es, h1, rfl⟩ := hc
      exact good_mf hi hf hop hfi hd (hN d hd) h1 h
    · simp at hc
  · rename_i t d hop hd
    split at hc
    · simp only [Option.map_eq_some_iff] at hc; obtain ⟨lv, h1, rfl⟩ := hc
      exact good_mm hi hf hop hd (hN d hd) h
    · simp at hc
  · rename_i t l c' d hop hd
    split at hc
    · rename_i e hu
      split at hc
      · rename_i i z el ec h1 h2 h3 h4
        split at hc
        · rename_i hcond
          cases hc
          simp only [Bool.and_eq_true, decide_eq_true_eq] at hcond
          exact good_ms hi hf hop hd (hN d hd) hu h1 h2 hcond.1.1 hcond.1.2 hcond.2 h3 h4 h
        · simp at hc
      · simp at hc
    · simp at hc
  · rename_i t x lo hi' d hop hd
    split at hc
    · rename_i e ex el eh hu h1 h2 h3
      simp only [Option.map_eq_some_iff] at hc; obtain ⟨n, h4, rfl⟩ := hc
      exact good_sl hi hf hop hd (hN d hd) hu h4 h1 h2 h3 h
    · rename_i ex el eh hu h1 h2 h3
      cases hc
      exact good_ss hi hf hop hd (hN d hd) hu h1 h2 h3 h
    · simp at hc
  · rename_i t x i d hop hd
    split at hc
    · rename_i fs e h1 h2
      split at hc
      · rename_i f hf'
        split at hc
        · rename_i n hn
          cases hc
          exact good_fa hi hf hop hd (hN d hd) (fieldsOf_some h1) hf' hn h2 h
        · simp at hc
      · simp at hc
    · simp at hc
  · rename_i t x i d hop hd
    split at hc
    · rename_i fs e h1 h2
      split at hc
      · rename_i f hf'
        split at hc
        · rename_i n g hn hg
          cases hc
          exact good_fd hi hf hop hd (hN d hd) (fieldsOf_some h1) hf' hn hg h2 h
        · simp at hc
      · simp at hc
    · simp at hc
  · rename_i t x i d hop hd
    split at hc
    · rename_i e ex ei hu h1 h2
      simp only [Option.map_eq_some_iff] at hc; obtain ⟨n, h4, rfl⟩ := hc
      exact good_ia hi hf hop hd (hN d hd) hu h4 h1 h2 h
    · rename_i n e ex ei hu h1 h2
      simp only [Option.map_eq_some_iff] at hc; obtain ⟨s, h4, rfl⟩ := hc
      exact good_iA hi hf hop hd (hN d hd) hu h4 h1 h2 h
    · simp at hc
  · rename_i t x i d hop hd
    split at hc
    · rename_i ex ei hu h1 h2
      cases hc
      exact good_ix hi hf hop hd (hN d hd) hu h1 h2 h
    · simp at hc
  · rename_i x i d hop hd
    simp only [Option.map_eq_some_iff] at hc; obtain ⟨e, h1, rfl⟩ := hc
    exact good_ex hi hf hop hd (hN d hd) h1 h
  · rename_i t m k ok d hop hd
    split at hc
    · rename_i kt e hu
      split at hc
      · rename_i lv em ek z h1 h2 h3 h4
        cases hc
        exact good_lk hi hf hop hd (hN d hd) hu h1 h2 h3 h4 h
      · simp at hc
    · simp at hc
  · rename_i t m k v hop hd
    split at hc
    · rename_i kt e hu
      split at hc
      · rename_i lv em ek ev h1 h2 h3 h4
        cases hc
        exact good_mu hi hf hop hd hu h1 h2 h3 h4 h
      · simp at hc
    · simp at hc
  · simp at hc

theorem compO_good {loc : List Nat} {c : O} (hc : compO P loc o = some c) (hcall : c.isCall = false) (hi : INV γ σ w) (hf : FRep γ σ F a w lam) (hN : ∀ d, o.dst = some d → d < a.tmps.size)
    (h : resK K (c.run F σ)) : Good P o a w γ K := by
  unfold compO at hc
  split at hc
  · rename_i c' hop
    unfold compCall at hc
    split at hc
    · simp only [Option.map_eq_some_iff] at hc; obtain ⟨es, h1, rfl⟩ := hc
      simp [O.isCall] at hcall
    · simp only [Option.map_eq_some_iff] at hc; obtain ⟨es, h1, rfl⟩ := hc
      simp [O.isCall] at hcall
    · rename_i b hcal
      split at hc
      · rename_i x y d hargs hdst
        split at hc
        · rename_i e u h1 h2
          split at hc
          · simp at hc
          · rename_i hss
            split at hc
            · rename_i i ex ey h3 h4 h5
              split at hc
              · rename_i hcond
                cases hc
                simp only [Option.bind_eq_some_iff] at h1 h2
                obtain ⟨t1, g1, g2⟩ := h1
                obtain ⟨t2, g3, g4⟩ := h2
                simp only [Bool.and_eq_true, decide_eq_true_eq] at hcond
                obtain ⟨hb, hz0⟩ := hcond
                unfold zsOK at hz0
                split at hz0
                · rename_i zv hz
                  exact good_ap hi hf hcal hargs hop hdst (hN d hdst) g1 g2 g3 g4 (by simpa using hss) h3 hz hb (by simpa using hz0) h4 h5 h
                · simp at hz0
              · simp at hc
            · simp at hc
        · simp at hc
      · rename_i x d hargs hdst
        split at hc
        · rename_i e h1
          simp only [Option.map_eq_some_iff] at hc; obtain ⟨ex, h2, rfl⟩ := hc
          simp only [Option.bind_eq_some_iff] at h1
          obtain ⟨t1, g1, g2⟩ := h1
          exact good_ln hi hf hop hcal hargs g1 g2 (.inl ⟨e, rfl, rfl⟩) hdst (hN d hdst) h2 h
        · rename_i h1
          simp only [Option.map_eq_some_iff] at hc; obtain ⟨ex, h2, rfl⟩ := hc
          simp only [Option.bind_eq_some_iff] at h1
          obtain ⟨t1, g1, g2⟩ := h1
          exact good_ln hi hf hop hcal hargs g1 g2 (.inr (.inl ⟨rfl, rfl⟩)) hdst (hN d hdst) h2 h
        · rename_i u e h1
          simp only [Option.map_eq_some_iff] at hc; obtain ⟨ex, h2, rfl⟩ := hc
          simp only [Option.bind_eq_some_iff] at h1
          obtain ⟨t1, g1, g2⟩ := h1
          exact good_ln hi hf hop hcal hargs g1 g2 (.inr (.inr ⟨u, e, rfl, rfl⟩)) hdst (hN d hdst) h2 h
        · simp at hc
      · rename_i x y d hargs hdst
        split at hc
        · rename_i ex ey h1 h2
          cases hc
          exact good_mx hi hf hop hcal hargs hdst (hN d hdst) h1 h2 h
        · simp at hc
      · rename_i x y d hargs hdst
        split at hc
        · rename_i ex ey h1 h2
          cases hc
          exact good_mn hi hf hop hcal hargs hdst (hN d hdst) h1 h2 h
        · simp at hc
      · rename_i x y hargs hdst
        split at hc
        · rename_i kt e h1
          split at hc
          · rename_i lv em ek h2 h3 h4
            cases hc
            simp only [Option.bind_eq_some_iff] at h1
            obtain ⟨t1, g1, g2⟩ := h1
            exact good_de hi hf hop hcal hargs hdst g1 g2 h2 h3 h4 h
          · simp at hc
        · simp at hc
      · simp at hc
    · simp at hc
  · simp at hc
  · split at hc
    · rename_i c' h1
      split at hc
      · simp at hc
      · cases hc
        exact compO'_good h1 hi hf hN h
    · simp at hc
end
end Go.VL

/- The V-logic, part 16a: a write into an owned slice. -/
import Derived.Test.YtefbofjonjdebaaVp
set_option linter.unusedVariables false
set_option linter.unusedSimpArgs false
namespace Go.VL
open Go

section
variable {P : Program} {γ : G} {σ : St} {F : Fr} {a : Act} {w : World} {lam : Nat → Nat} {o : Oper} {K : Fr → St → Prop}

theorem RepE.set {s q : Nat} {xs : List V} {ws : List Value} (hx : RepL γ xs ws) (ho : ∀ v ∈ ws, v.oneCell' = true) : ∀ {es : List (List V)} {vs : List Value} {i : Nat} {cs : List V}, RepE γ s es vs → es[i]? = some cs →
    q + xs.length ≤ cs.length → RepE γ s (es.set i (over cs q xs)) (vs.take (i * s + q) ++ ws ++ vs.drop (i * s + q + ws.length))
  | [], _, _, _, _, h, _ => by simp at h
  | c :: es, vs, i, cs, hr, h, hq => by
    simp only [RepE] at hr
    obtain ⟨w0, us, rfl, h2, h3, h4, h5⟩ := hr
    have hl0 := h3.length
    have hlx := hx.length
    cases i with
    | zero =>
      simp only [List.getElem?_cons_zero, Option.some.injEq] at h
      subst h
      simp only [List.set_cons_zero, RepE]
      refine ⟨w0.take q ++ ws ++ w0.drop (q + ws.length), us, ?_, ?_, over_rep h3 hx q, h4, ?_⟩
      · rw [Nat.zero_mul, Nat.zero_add, List.take_append_of_le_length (by omega), List.drop_append_of_le_length (by omega)]
        simp
      · simp only [over, List.length_append, List.length_take, List.length_drop]
        omega
      · intro v hv
        rcases List.mem_append.1 hv with hv | hv
        · rcases List.mem_append.1 hv with hv | hv
          · exact h5 v (List.mem_of_mem_take hv)
          · exact ho v hv
        · exact h5 v (List.mem_of_mem_drop hv)
    | succ i =>
      simp only [List.getElem?_cons_succ] at h
      have ih := RepE.set hx ho h4 h hq
      simp only [List.set_cons_succ, RepE]
      refine ⟨w0, _, ?_, h2, h3, ih, h5⟩
      have e : (i + 1) * s + q = w0.length + (i * s + q) := by rw [← hl0, h2, Nat.succ_mul]; omega
      rw [e, List.take_append, List.take_of_length_le (by omega), show w0.length + (i * s + q) - w0.length = i * s + q from by omega, Nat.add_assoc, List.drop_append,
        List.drop_eq_nil_of_le (by omega), show w0.length + (i * s + q + ws.length) - w0.length = i * s + q + ws.length from by omega]
      simp

theorem sget_renL {r r' s : Nat} {es : List (List V)} (t : Nat) : ∀ (l : List (Nat × S)), sget t (renL r r' s es l) = renS r r' s es (sget t l)
  | [] => rfl
  | p :: l => by
    simp only [renL, sget]
    cases Nat.beq p.1 t with
    | true => rfl
    | false => simp only [cond_false]; exact sget_renL t l

theorem good_se {n : Nat} {t : TypeId} {x y : Operand} {ex ey : E} (hi : INV γ σ w) (hf : FRep γ σ F a w lam) (hop : o.op = .store t x y) (hd : o.dst = none)
    (hn : szOf P t = some n) (hx : compE 0 x = some ex) (hy : compE 0 y = some ey) (h : resK K ((O.se ex ey n).run F σ)) : Good P o a w γ K := by
  have vx := va_rep hf hx
  have vy := va_rep hf hy
  simp only [O.run] at h
  cases hc : cellsOf (F.va ey) with
  | none => rw [hc] at h; exact h.elim
  | some xs =>
    rw [hc] at h
    simp only [seC] at h
    obtain ⟨⟨h1, h2⟩, h⟩ := resK_also h
    have hr := cells_rep vy hc
    have hone := flats_cells h2 hr
    have hl := hr.length
    cases hsx : F.va ex <;> rw [hsx] at h vx <;> (try exact h.elim)
    rename_i R s es i q
    cases R with
    | pub => exact h.elim
    | view r => exact h.elim
    | own r =>
      simp only [seV] at h
      cases hcs : es[i]? with
      | none => rw [hcs] at h; exact h.elim
      | some cs =>
        rw [hcs] at h
        simp only [seO, resK] at h
        obtain ⟨⟨hlive, hq⟩, hK⟩ := h
        simp only [Rep] at vx
        obtain ⟨c, cap, e1, hlt, hrho, hsp⟩ := vx
        obtain ⟨c2, cap2, f1, _, f3, f4, f5, f6, cc, ce, cz, vs, k1, k2, k3, k4, k5⟩ := hi.own r _ _ _ hlive hrho
        simp only [Value.slice.injEq, Option.some.injEq] at f1
        obtain ⟨rfl, _, rfl⟩ := f1
        generalize hws : (a.eval y).cells.toList = ws at hr hone hl
        have hvl := k3.length
        obtain ⟨us, m1, m2, m3⟩ := k3.get hcs
        have hmul : es.length * s ≤ cap * s := Nat.mul_le_mul_right _ f3
        have hmul2 : (i + 1) * s ≤ es.length * s := Nat.mul_le_mul_right _ hlt
        rw [Nat.succ_mul] at hmul2
        obtain ⟨w', r1, r2, cc', r3, r4⟩ := run_storeCells (P := P) ws w c.block (c.off + i * s + q) 0 cc ce cz k1 (by omega) (fun j h1 h2 => k5 j (by omega) (by omega)) hone
        have hrun : (execOp a.eval o).run P w = .ok .skip w' := by
          have hsz : ¬ ((a.eval y).cells.size ≠ n) := by
            have := congrArg List.length hws
            simp at this ⊢
            omega
          simp [execOp, hop, e1, Instr.storeAt, Instr.sureAddr, storeVar, run_sizeOf hn, hsz, hws, r1]
        have hfr : Free γ ⟨σ.objs, kill σ.live (.own r)⟩ c.block := ⟨f4, f5, f6, fun q v s es' h1 h2 h3 => by
          have hq := kill_own h1
          exact hq (hi.apart q r _ _ _ _ _ _ c.block (kill_sub (live := σ.live) (r := .own r) h1) hlive h2 hrho h3 rfl)⟩
        have hsub : ∀ q : Nat, (kill σ.live (.own r))[q]? = some true → σ.live[q]? = some true := fun q hq => kill_sub hq
        have hle : LeR γ { γ with rho := γ.rho ++ [(.slice (some c) (es.set i (over cs q xs)).length cap, s, es.set i (over cs q xs))] } := ⟨fun _ _ x => x, fun i c hi => by
          show (γ.rho ++ [_])[i]? = some c
          rw [List.getElem?_append_left (List.getElem?_eq_some_iff.1 hi).1]; exact hi, fun _ _ _ x => x⟩
        have hsize : cc'.size = cc.size := by
          have := congrArg List.length r4
          simp only [Array.length_toList, List.length_append, List.length_take, List.length_drop] at this
          omega
        have hcells : ∀ (j : Nat) (v : Value), (vs.take (i * s + q) ++ ws ++ vs.drop (i * s + q + ws.length))[j]? = some v → cc'[c.off + j]? = some v := by
          intro j v hv
          have e5 : cc'[c.off + j]? = cc'.toList[c.off + j]? := by simp
          rw [e5, r4]
          by_cases hj : j < i * s + q
          · rw [List.append_assoc, List.getElem?_append_left (by simp; omega), List.getElem?_take, if_pos hj] at hv
            rw [List.append_assoc, List.getElem?_append_left (by simp; omega), List.getElem?_take, if_pos (by omega)]
            simpa using k2 _ _ hv
          · rw [List.append_assoc, List.getElem?_append_right (by simp; omega)] at hv
            rw [List.append_assoc, List.getElem?_append_right (by simp; omega)]
            simp only [List.length_take, Array.length_toList] at hv ⊢
            by_cases hj2 : j < i * s + q + ws.length
            · rw [List.getElem?_append_left (by omega)] at hv
              rw [List.getElem?_append_left (by omega), ← hv]
              congr 1
              omega
            · rw [List.getElem?_append_right (by omega), List.getElem?_drop] at hv
              rw [List.getElem?_append_right (by omega), List.getElem?_drop]
              have := k2 _ _ hv
              rw [Array.getElem?_toList, ← this]
              congr 1
              omega
        have hown : OwnAt { γ with rho := γ.rho ++ [(.slice (some c) (es.set i (over cs q xs)).length cap, s, es.set i (over cs q xs))] } w' (.slice (some c) (es.set i (over cs q xs)).length cap) s (es.set i (over cs q xs)) :=
          ⟨c, cap, rfl, hsp, by simpa using f3, f4, f5, f6, cc', ce, cz, _, r3, hcells, RepE.mono hle _ _ _ (RepE.set hr hone k3 hcs hq), by rw [hsize]; exact k4, k5⟩
        obtain ⟨n1, n2⟩ := hi.right r2 (kill_length (r := .own r)) hsub hfr (f := true) (fun _ => ⟨rfl, hown⟩)
        refine ⟨_, w', _, _, _, lam, undef, hrun, .inr ⟨rfl, rfl⟩, n2, n1, ?_, hK⟩
        rw [hd]
        have hf' := hf.right (v := .slice (some c) (es.set i (over cs q xs)).length cap) (s := s) (es := es.set i (over cs q xs)) (f := true) r2 (live := kill σ.live (.own r)) (by rw [kill_length, hi.rholen]) hsub
          (fun j cs hj e => (hf.l j cs hj).own r _ _ _ hlive hrho (by rw [e]; rfl)) (fun _ => rfl)
        refine ⟨fun t => ?_, hf'.l, hf'.inj⟩
        have ht := hf'.s t
        simp only [sget_renL]
        have hnew : (γ.rho ++ [(Value.slice (some c) (es.set i (over cs q xs)).length cap, s, es.set i (over cs q xs))])[σ.live.length]? = some (.slice (some c) (es.set i (over cs q xs)).length cap, s, es.set i (over cs q xs)) := by
          rw [← hi.rholen]; simp
        have hold := hle.rho _ _ hrho
        show SRep _ lam (renS r σ.live.length s (es.set i (over cs q xs)) (sget t F.s)) _
        have ht : SRep _ lam (sget t F.s) ((Act.put a none undef).tmps.getD t undef) := ht
        revert ht
        cases sget t F.s with
        | loc k o => exact id
        | v z =>
          cases z with
          | sl b R s0 l =>
            cases b with
            | true => exact id
            | false =>
              cases R with
              | pub => exact id
              | view _ => exact id
              | own q0 =>
                simp only [renS]
                cases hb : Nat.beq q0 r with
                | false => exact id
                | true =>
                  have := Nat.eq_of_beq_eq_true hb
                  subst this
                  simp only [cond_true, SRep, Rep]
                  rintro ⟨ad, cap0, x1, x2, x3, x4⟩
                  have x5 : some (_, _, _) = some (_, _, _) := x4.symm.trans hold
                  simp only [Option.some.injEq, Prod.mk.injEq] at x5
                  obtain ⟨y1, rfl, rfl⟩ := x5
                  rw [x1] at y1
                  simp only [Value.slice.injEq, Option.some.injEq] at y1
                  obtain ⟨rfl, _, rfl⟩ := y1
                  exact ⟨ad, cap0, by rw [x1]; simp, x2, by simpa using x3, by rw [x1]; simpa using hnew⟩
          | elt R s0 l i0 o0 =>
            cases R with
            | pub => exact id
            | view _ => exact id
            | own q0 =>
              simp only [renS]
              cases hb : Nat.beq q0 r with
              | false => exact id
              | true =>
                have := Nat.eq_of_beq_eq_true hb
                subst this
                simp only [cond_true, SRep, Rep]
                rintro ⟨ad, cap0, x1, x2, x3, x4⟩
                have x5 : some (_, _, _) = some (_, _, _) := x3.symm.trans hold
                simp only [Option.some.injEq, Prod.mk.injEq, Value.slice.injEq] at x5
                obtain ⟨⟨rfl, _, rfl⟩, rfl, rfl⟩ := x5
                exact ⟨ad, cap0, x1, by simpa using x2, hnew, x4⟩
          | _ => exact id
end
end Go.VL

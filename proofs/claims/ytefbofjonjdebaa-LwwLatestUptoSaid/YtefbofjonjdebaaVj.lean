/- The V-logic, part 10: operations that only compute, each. -/
import Derived.Test.YtefbofjonjdebaaVi
set_option linter.unusedVariables false
set_option linter.unusedSimpArgs false
namespace Go.VL
open Go

section
variable {P : Program} {γ : G} {σ : St} {F : Fr} {a : Act} {w : World} {lam : Nat → Nat} {o : Oper} {K : Fr → St → Prop}

theorem eqGuard_pass {op : BinOp} {t : TypeId} {x y : Operand} {u v : Value} (h1 : ∀ cs, u ≠ .agg cs) (h2 : u ≠ .nilIface) : (eqGuard op t x y u v).run P w = .ok () w := by
  unfold eqGuard
  cases op <;> simp only [Bool.not_true, Bool.false_eq_true, if_false, Bool.not_false, if_true] <;> (first | rfl | (cases u <;> cases v <;> first | rfl | (exact absurd rfl h2) | (exact absurd rfl (h1 _))))

theorem maxDepth_succ : Op.maxDepth = 9999 + 1 := rfl

theorem good_bq {d : Nat} {ne : Bool} {k : EK} {op : BinOp} {t u : TypeId} {x y : Operand} {ex ey : E} {T : TypeDesc} (hi : INV γ σ w) (hf : FRep γ σ F a w lam) (hop : o.op = .binOp op t x y u) (hd : o.dst = some d)
    (hN : d < a.tmps.size) (hT : P.underlying t = some T)
    (hk : ekOf T = some k)
    (hne : (op = .eql ∧ ne = false) ∨ (op = .neq ∧ ne = true))
    (hx : compE 0 x = some ex) (hy : compE 0 y = some ey) (h : resK K ((O.bq d ne k ex ey).run F σ)) : Good P o a w γ K := by
  have vx := va_rep hf hx
  have vy := va_rep hf hy
  simp only [O.run] at h
  have fin : ∀ (b : Bool), (eqGuard op t x y (a.eval x) (a.eval y)).run P w = .ok () w → (Op.equal t (a.eval x) (a.eval y)).run P w = .ok b w →
      (∀ op', op = op' → (op' = .eql ∨ op' = .neq) → binOp op' t (a.eval x) (a.eval y) = match op' with | .neq => (do pure (.bool (!(← Op.equal t (a.eval x) (a.eval y))))) | _ => (do pure (.bool (← Op.equal t (a.eval x) (a.eval y))))) →
      K (F.set d (.v (.bool (bif ne then !b else b)))) σ → Good P o a w γ K := by
    intro b h1 h2 h3 h4
    refine good_pure (v := .bool (bif ne then !b else b)) hi hf hd hN ?_ (x := .v (.bool (bif ne then !b else b))) (by simp [SRep, Rep]) h4
    rcases hne with ⟨rfl, rfl⟩ | ⟨rfl, rfl⟩
    · simp [execOp, hop, h1, h3 .eql rfl (.inl rfl), h2]
    · simp [execOp, hop, h1, h3 .neq rfl (.inr rfl), h2]
  cases T <;> simp only [ekOf, Option.some.injEq, reduceCtorEq] at hk
  case bool =>
    subst hk
    cases hsx : F.va ex <;> rw [hsx] at h vx <;> (try exact h.elim)
    cases hsy : F.va ey <;> rw [hsy] at h vy <;> (try exact h.elim)
    rename_i p q
    simp only [Rep] at vx vy
    refine fin (p == q) (by rw [vx]; exact eqGuard_pass (by simp) (by simp)) ?_ ?_ h
    · rw [vx, vy, Op.equal, maxDepth_succ, run_equalIn_bool' w _ t _ _ hT]
    · intro op' _ ho
      rw [vx, vy]
      rcases ho with rfl | rfl <;> rfl
  case pointer e =>
    subst hk
    cases hsx : F.va ex <;> rw [hsx] at h vx <;> (try exact h.elim)
    cases hsy : F.va ey <;> rw [hsy] at h vy <;> (try exact h.elim)
    rename_i p q
    cases q with
    | some q => exact h.elim
    | none =>
      simp only [Rep] at vy
      have hp : ∃ z, a.eval x = .pointer z ∧ z.isNone = p.isNone := by
        cases p with
        | none => simp only [Rep] at vx; exact ⟨_, vx, rfl⟩
        | some p => simp only [Rep] at vx; obtain ⟨b, _, vx⟩ := vx; exact ⟨_, vx, rfl⟩
      obtain ⟨z, vx, hz⟩ := hp
      refine fin p.isNone (by rw [vx]; exact eqGuard_pass (by simp) (by simp)) ?_ ?_ h
      · rw [vx, vy, Op.equal, maxDepth_succ, Op.equalIn, ← hz]
        cases z <;> simp [run_underlying hT]
      · intro op' _ ho
        rw [vx, vy]
        rcases ho with rfl | rfl <;> cases z <;> rfl
  case slice e =>
    subst hk
    cases hsx : F.va ex <;> rw [hsx] at h vx <;> (try exact h.elim)
    cases hsy : F.va ey <;> rw [hsy] at h vy <;> (try exact h.elim)
    rename_i p1 p2 p3 p4 q1 q2 q3 q4
    cases q1 with
    | false => exact h.elim
    | true =>
      cases q4 with
      | cons _ _ => exact h.elim
      | nil =>
        simp only [Rep] at vy
        have hp : ∃ z n c, a.eval x = .slice z n c ∧ z.isNone = p1 := by
          cases p1 with
          | true => simp only [Rep] at vx; exact ⟨_, _, _, vx.2, rfl⟩
          | false =>
            cases p2 with
            | pub => simp only [Rep] at vx; obtain ⟨_, _, _, vx, _⟩ := vx; exact ⟨_, _, _, vx, rfl⟩
            | own r => simp only [Rep] at vx; obtain ⟨_, _, vx, _⟩ := vx; exact ⟨_, _, _, vx, rfl⟩
            | view r => simp only [Rep] at vx; obtain ⟨_, _, vx, _⟩ := vx; exact ⟨_, _, _, vx, rfl⟩
        obtain ⟨z, n, c, vx, hz⟩ := hp
        refine fin p1 (by rw [vx]; exact eqGuard_pass (by simp) (by simp)) ?_ ?_ h
        · rw [vx, vy.2, Op.equal, maxDepth_succ, Op.equalIn, ← hz]
          cases z <;> simp [run_underlying hT]
        · intro op' _ ho
          rw [vx, vy.2]
          rcases ho with rfl | rfl <;> rfl
  case map k e =>
    subst hk
    cases hsx : F.va ex <;> rw [hsx] at h vx <;> (try exact h.elim)
    cases hsy : F.va ey <;> rw [hsy] at h vy <;> (try exact h.elim)
    rename_i p q
    cases q with
    | some q => exact h.elim
    | none =>
      simp only [Rep] at vy
      have hp : ∃ z, a.eval x = .map z ∧ z.isNone = p.isNone := by
        cases p with
        | none => simp only [Rep] at vx; exact ⟨_, vx, rfl⟩
        | some p => simp only [Rep] at vx; obtain ⟨b, _, vx⟩ := vx; exact ⟨_, vx, rfl⟩
      obtain ⟨z, vx, hz⟩ := hp
      refine fin p.isNone (by rw [vx]; exact eqGuard_pass (by simp) (by simp)) ?_ ?_ h
      · rw [vx, vy, Op.equal, maxDepth_succ, Op.equalIn, ← hz]
        cases z <;> simp [run_underlying hT]
      · intro op' _ ho
        rw [vx, vy]
        rcases ho with rfl | rfl <;> rfl
  case func ps rs vv =>
    subst hk
    cases hsx : F.va ex <;> rw [hsx] at h vx <;> (try exact h.elim)
    all_goals cases hsy : F.va ey <;> rw [hsy] at h vy <;> (try exact h.elim)
    · simp only [Rep] at vx vy
      obtain ⟨vs, vx, _⟩ := vx
      refine fin false (by rw [vx]; exact eqGuard_pass (by simp) (by simp)) ?_ ?_ (by cases ne <;> exact h)
      · rw [vx, vy, Op.equal, maxDepth_succ, Op.equalIn]
        simp [run_underlying hT]
      · intro op' _ ho
        rw [vx, vy]
        rcases ho with rfl | rfl <;> rfl
    · simp only [Rep] at vx vy
      refine fin true (by rw [vx]; exact eqGuard_pass (by simp) (by simp)) ?_ ?_ (by cases ne <;> exact h)
      · rw [vx, vy, Op.equal, maxDepth_succ, Op.equalIn]
        simp [run_underlying hT]
      · intro op' _ ho
        rw [vx, vy]
        rcases ho with rfl | rfl <;> rfl

theorem good_be {d : Nat} {ne : Bool} {lv : List LK} {op : BinOp} {t u : TypeId} {x y : Operand} {ex ey : E} {fs : Array Field} (hi : INV γ σ w) (hf : FRep γ σ F a w lam) (hop : o.op = .binOp op t x y u) (hd : o.dst = some d)
    (hN : d < a.tmps.size) (hT : P.underlying t = some (.struct fs)) (hlv : leaves P 20 t = some lv) (hg : P.eqGuardType P.depth t = false) (hne : (op = .eql ∧ ne = false) ∨ (op = .neq ∧ ne = true))
    (hx : compE 0 x = some ex) (hy : compE 0 y = some ey) (h : resK K ((O.be d ne lv ex ey).run F σ)) : Good P o a w γ K := by
  have vx := va_rep hf hx
  have vy := va_rep hf hy
  simp only [O.run] at h
  cases hsx : F.va ex <;> rw [hsx] at h vx <;> (try exact h.elim)
  cases hsy : F.va ey <;> rw [hsy] at h vy <;> (try exact h.elim)
  rename_i p q
  simp only [beW, resK] at h
  simp only [Rep] at vx vy
  obtain ⟨vs, vx, rx⟩ := vx
  obtain ⟨us, vy, ry⟩ := vy
  have hag : aggOf P t = some true := by simp [aggOf, hT]
  have he := eq_leaves w 20 t lv hlv 10000 (by omega) p q vs us h.1.1 h.1.2 rx ry
  simp only [pack, hag] at he
  refine good_pure (v := .bool (bif ne then !(V.eqs p q) else V.eqs p q)) hi hf hd hN ?_ (x := .v (.bool (bif ne then !(V.eqs p q) else V.eqs p q))) (by simp [SRep, Rep]) h.2
  rcases hne with ⟨rfl, rfl⟩ | ⟨rfl, rfl⟩
  · simp [execOp, hop, vx, vy, run_eqGuard_agg w .eql t x y _ _ hg, run_eql_struct, he]
  · simp [execOp, hop, vx, vy, run_eqGuard_agg w .neq t x y _ _ hg, run_neq_struct, he]

theorem good_un {d : Nat} {op : UnOp} {t : TypeId} {x : Operand} {e : E} (hi : INV γ σ w) (hf : FRep γ σ F a w lam) (hop : o.op = .unOp op t x) (hd : o.dst = some d) (hN : d < a.tmps.size)
    (hc : compE 0 x = some e) (h : resK K ((O.un d op e).run F σ)) : Good P o a w γ K := by
  have hv := va_rep hf hc
  simp only [O.run] at h
  cases hs : F.va e <;> rw [hs] at h hv <;> (try exact h.elim)
  · rename_i k n
    simp only [Rep] at hv
    cases op <;> simp only [unW, resK] at h <;> (try exact h.elim)
    · exact good_pure (v := .int k (k.wrap (0 - n))) hi hf hd hN (by simp only [execOp, hop, hv, Op.unary, Op.intArith]; rfl) (x := .v _) (by simp [SRep, Rep]) h
    · exact good_pure (v := .int k (ibits .xor k (if k.signed then -1 else k.max) n)) hi hf hd hN (by simp only [execOp, hop, hv, Op.unary, Op.intBits]; rfl) (x := .v _) (by simp [SRep, Rep]) h
  · rename_i b
    simp only [Rep] at hv
    cases op <;> simp only [unW, resK] at h <;> (try exact h.elim)
    exact good_pure (v := .bool (!b)) hi hf hd hN (by simp only [execOp, hop, hv, Op.unary]; rfl) (x := .v _) (by simp [SRep, Rep]) h

theorem good_cI {d : Nat} {k k' : IntKind} {s t : TypeId} {x : Operand} {e : E} (hi : INV γ σ w) (hf : FRep γ σ F a w lam) (hop : o.op = .convert s t x) (hd : o.dst = some d) (hN : d < a.tmps.size)
    (hs : P.underlying s = some (.int k')) (ht : P.underlying t = some (.int k)) (hc : compE 0 x = some e) (h : resK K ((O.cI d k e).run F σ)) : Good P o a w γ K := by
  have hv := va_rep hf hc
  simp only [O.run] at h
  cases hsv : F.va e <;> rw [hsv] at h hv <;> (try exact h.elim)
  rename_i k2 n
  simp only [Rep] at hv
  exact good_pure (v := .int k (k.wrap n)) hi hf hd hN (by simp [execOp, hop, hv, convert, run_underlying hs, run_underlying ht, Conv.intToInt]) (x := .v _) (by simp [SRep, Rep]) h

theorem RepL.get {γ : G} : ∀ {xs : List V} {vs : List Value} {i : Nat} {x : V}, RepL γ xs vs → xs[i]? = some x → ∃ v, vs[i]? = some v ∧ Rep γ x v
  | [], _, _, _, _, h => by simp at h
  | y :: xs, vs, i, x, hr, h => by
    simp only [RepL] at hr
    obtain ⟨v, ws, rfl, h2, h3⟩ := hr
    cases i with
    | zero =>
      simp only [List.getElem?_cons_zero, Option.some.injEq] at h
      subst h
      exact ⟨v, rfl, h2⟩
    | succ i =>
      simp only [List.getElem?_cons_succ] at h ⊢
      exact RepL.get h3 h

theorem good_ex {d i : Nat} {x : Operand} {e : E} (hi : INV γ σ w) (hf : FRep γ σ F a w lam) (hop : o.op = .extract x i) (hd : o.dst = some d) (hN : d < a.tmps.size)
    (hc : compE 0 x = some e) (h : resK K ((O.ex d e i).run F σ)) : Good P o a w γ K := by
  have hv := va_rep hf hc
  simp only [O.run] at h
  cases hs : F.va e <;> rw [hs] at h hv <;> (try exact h.elim)
  rename_i vs
  simp only [exW] at h
  cases hg : vs[i]? with
  | none => rw [hg] at h; exact h.elim
  | some y =>
    rw [hg] at h
    simp only [Rep] at hv
    obtain ⟨us, hv, hr⟩ := hv
    obtain ⟨v, hu, hy⟩ := hr.get hg
    exact good_pure (v := v) hi hf hd hN (by simp [execOp, hop, hv, Instr.extract, hu]) (x := .v y) hy h

theorem ldC_val {d n : Nat} {g : Bool} {t : TypeId} {xs : List Value} {off : Nat} {cs : List V} (hr : RepL γ cs xs) (hn : szOf P t = some n) (hg : aggOf P t = some g)
    (h : resK K (ldC d F σ (cs.drop off) n g)) : ∃ v x, (part t xs.toArray off).run P w = .ok v w ∧ Rep γ x v ∧ K (F.set d (.v x)) σ := by
  cases g with
  | true =>
    simp only [ldC, resK] at h
    obtain ⟨h1, h2⟩ := h
    refine ⟨.agg ((xs.drop off).take n).toArray, _, ?_, ?_, h2⟩
    · simp only [part, Sem.run_bind, run_isAgg hg, Result.andThen_ok, if_true, run_sizeOf hn, Sem.run_pure]
      congr 2
      apply Array.ext'
      simp only [Array.toList_extract, List.extract_eq_take_drop]
      congr 1
      omega
    · simp only [Rep]
      exact ⟨_, rfl, hr.drop.take⟩
  | false =>
    cases hcs : cs.drop off with
    | nil => rw [hcs] at h; exact h.elim
    | cons x ys =>
      rw [hcs] at h
      have hd := hr.drop (n := off)
      rw [hcs] at hd
      simp only [RepL] at hd
      obtain ⟨v, ws, e, h2, _⟩ := hd
      have : xs[off]? = some v := by
        have h3 : (xs.drop off)[0]? = some v := by rw [e]; rfl
        rw [List.getElem?_drop] at h3
        simpa using h3
      refine ⟨v, x, ?_, h2, h⟩
      simp only [part, Sem.run_bind, run_isAgg hg, Result.andThen_ok, Bool.false_eq_true, if_false]
      simp [this]

theorem good_fd {d i : Nat} {t : TypeId} {x : Operand} {e : E} {fs : Array Field} {f : Field} {n : Nat} {g : Bool} (hi : INV γ σ w) (hf : FRep γ σ F a w lam) (hop : o.op = .field t x i) (hd : o.dst = some d) (hN : d < a.tmps.size)
    (hfs : P.underlying t = some (.struct fs)) (hfi : fs[i]? = some f) (hn : szOf P f.type = some n) (hg : aggOf P f.type = some g) (hc : compE 0 x = some e)
    (h : resK K ((O.fd d e f.offset n g).run F σ)) : Good P o a w γ K := by
  have hv := va_rep hf hc
  simp only [O.run] at h
  cases hs : F.va e <;> rw [hs] at h hv <;> (try exact h.elim)
  rename_i cs
  simp only [fdW] at h
  simp only [Rep] at hv
  obtain ⟨vs, hv, hr⟩ := hv
  obtain ⟨v, y, h1, h2, h3⟩ := ldC_val (P := P) (w := w) hr hn hg h
  exact good_pure (v := v) hi hf hd hN (by simp [execOp, hop, hv, Instr.field, run_underlying hfs, hfi, asAgg, h1]) (x := .v y) h2 h3
end
end Go.VL

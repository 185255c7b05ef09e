/- The V-logic, part 11: addresses, slices, texts. -/
import Derived.Test.YtefbofjonjdebaaVj
import Derived.Laws.BytesString
set_option linter.unusedVariables false
set_option linter.unusedSimpArgs false
namespace Go.VL
open Go

section
variable {P : Program} {γ : G} {σ : St} {F : Fr} {a : Act} {w : World} {lam : Nat → Nat} {o : Oper} {K : Fr → St → Prop}

theorem add_spot {a : Addr} (h : a.spot = none) (n : Nat) : a.add n = ⟨a.block, a.off + n, none⟩ := by
  obtain ⟨b, q, s⟩ := a
  simp only at h
  subst h
  exact add_none b q n

theorem good_fa {d i n : Nat} {t : TypeId} {x : Operand} {e : E} {fs : Array Field} {f : Field} (hi : INV γ σ w) (hf : FRep γ σ F a w lam) (hop : o.op = .fieldAddr t x i) (hd : o.dst = some d) (hN : d < a.tmps.size)
    (hfs : P.underlying t = some (.struct fs)) (hfi : fs[i]? = some f) (hn : szOf P f.type = some (n + 1)) (hc : compE 0 x = some e) (h : resK K ((O.fa d e f.offset).run F σ)) : Good P o a w γ K := by
  have hv := ev_rep hf hc
  simp only [O.run] at h
  have run : ∀ b q, a.eval x = .pointer (some ⟨b, q, none⟩) → (execOp a.eval o).run P w = .ok (.value (.pointer (some ⟨b, q + f.offset, none⟩))) w := by
    intro b q hx
    simp [execOp, hop, hx, Instr.fieldAt, run_underlying hfs, hfi, Instr.sureAddr, fieldPlace, run_sizeOf hn, add_none]
  cases hs : F.ev e with
  | loc k q =>
    rw [hs] at h hv
    exact good_pure hi hf hd hN (run _ _ hv) (x := .loc k (q + f.offset)) rfl h
  | v y =>
    rw [hs] at h hv
    cases y with
    | ptr p =>
      cases p with
      | none => exact h.elim
      | some p =>
        simp only [SRep, Rep] at hv
        obtain ⟨b, h1, hv⟩ := hv
        exact good_pure hi hf hd hN (run _ _ hv) (x := .v (.ptr (some (p.1, p.2 + f.offset)))) (by simp only [SRep, Rep]; exact ⟨b, h1, rfl⟩) h
    | elt r s es i q =>
      cases r with
      | pub =>
        simp only [SRep, Rep] at hv
        obtain ⟨b, vs, hv, h1, h2⟩ := hv
        exact good_pure hi hf hd hN (run _ _ hv) (x := .v (.elt .pub s es i (q + f.offset))) (by simp only [SRep, Rep]; exact ⟨b, vs, by rw [Nat.add_assoc], h1, h2⟩) h
      | own r =>
        simp only [SRep, Rep] at hv
        obtain ⟨b, cap, hv, h1, h2⟩ := hv
        exact good_pure hi hf hd hN (run _ _ hv) (x := .v (.elt (.own r) s es i (q + f.offset))) (by simp only [SRep, Rep]; exact ⟨b, cap, by rw [Nat.add_assoc], h1, h2⟩) h
      | view r =>
        simp only [SRep, Rep] at hv
        obtain ⟨b, hv, h1, h2⟩ := hv
        exact good_pure hi hf hd hN (run _ _ hv) (x := .v (.elt (.view r) s es i (q + f.offset))) (by simp only [SRep, Rep]; exact ⟨b, by rw [Nat.add_assoc], h1, h2⟩) h
    | _ => exact h.elim

theorem good_ia {d s : Nat} {t et : TypeId} {x ix : Operand} {ex ei : E} (hi : INV γ σ w) (hf : FRep γ σ F a w lam) (hop : o.op = .indexAddr t x ix) (hd : o.dst = some d) (hN : d < a.tmps.size)
    (ht : P.underlying t = some (.slice et)) (hs : szOf P et = some s) (hx : compE 0 x = some ex) (hy : compE 0 ix = some ei) (h : resK K ((O.ia d ex ei s).run F σ)) : Good P o a w γ K := by
  have vx := va_rep hf hx
  have vy := va_rep hf hy
  simp only [O.run] at h
  cases hsx : F.va ex <;> rw [hsx] at h vx <;> (try exact h.elim)
  cases hsy : F.va ei <;> rw [hsy] at h vy <;> (try exact h.elim)
  rename_i b r s' es k n
  simp only [iaW, resK] at h
  obtain ⟨⟨h1, h2, rfl⟩, h⟩ := h
  simp only [Rep] at vy
  have run : ∀ (c : Addr) cap, a.eval x = .slice (some c) es.length cap → c.spot = none → (execOp a.eval o).run P w = .ok (.value (.pointer (some ⟨c.block, c.off + n.toNat * s' + 0, none⟩))) w := by
    intro c cap hx hsp
    simp [execOp, hop, hx, vy, Instr.indexAt, asIntOf, run_underlying ht, run_sizeOf hs, add_spot hsp, h1, h2]
  have hlt : n.toNat < es.length := by omega
  cases b with
  | true =>
    simp only [Rep] at vx
    rw [vx.1] at h2
    simp at h2
    omega
  | false =>
    cases r with
    | pub =>
      simp only [Rep] at vx
      obtain ⟨c, cap, vs, e1, e2, e3, e4, e5⟩ := vx
      have e2 : c.spot = none := by
        rcases e2 with e2 | e2
        · rw [e2] at hlt; simp at hlt
        · exact e2
      exact good_pure hi hf hd hN (run c cap e1 e2) (x := .v (.elt .pub s' es n.toNat 0)) (by simp only [SRep, Rep]; exact ⟨c, vs, rfl, hlt, e4, e5⟩) h
    | own r =>
      simp only [Rep] at vx
      obtain ⟨c, cap, e1, e2, e3, e4⟩ := vx
      refine good_pure hi hf hd hN (run c cap e1 e2) (x := .v (.elt (.own r) s' es n.toNat 0)) ?_ h
      simp only [SRep, Rep]
      exact ⟨c, cap, rfl, hlt, by rw [← e1]; exact e4, e2⟩
    | view r =>
      simp only [Rep] at vx
      obtain ⟨c, cap, e1, e2, e3, e4⟩ := vx
      rcases e4 with e4 | e4
      · rw [e4] at hlt; simp at hlt
      · exact good_pure hi hf hd hN (run c cap e1 e2) (x := .v (.elt (.view r) s' es n.toNat 0)) (by simp only [SRep, Rep]; exact ⟨c, rfl, hlt, e4⟩) h

theorem good_iA {d s len : Nat} {t et : TypeId} {x ix : Operand} {ex ei : E} (hi : INV γ σ w) (hf : FRep γ σ F a w lam) (hop : o.op = .indexAddr t x ix) (hd : o.dst = some d) (hN : d < a.tmps.size)
    (ht : P.underlying t = some (.array len et)) (hs : szOf P et = some s) (hx : compE 0 x = some ex) (hy : compE 0 ix = some ei) (h : resK K ((O.iA d ex ei s len).run F σ)) : Good P o a w γ K := by
  have hv := ev_rep hf hx
  have vy := va_rep hf hy
  simp only [O.run] at h
  cases hsy : F.va ei <;> rw [hsy] at h vy <;> (try exact h.elim)
  rename_i k n
  simp only [iAW] at h
  simp only [Rep] at vy
  have run : ∀ b q, a.eval x = .pointer (some ⟨b, q, none⟩) → 0 ≤ n ∧ n < (len : Int) → (execOp a.eval o).run P w = .ok (.value (.pointer (some ⟨b, q + n.toNat * s, none⟩))) w := by
    intro b q hx hb
    simp [execOp, hop, hx, vy, Instr.indexAt, asIntOf, run_underlying ht, run_sizeOf hs, Instr.sureAddr, add_none, hb.1, hb.2]
  cases hss : F.ev ex with
  | loc k q =>
    rw [hss] at h hv
    simp only [iAV, resK] at h
    exact good_pure hi hf hd hN (run _ _ hv h.1) (x := .loc k (q + n.toNat * s)) rfl h.2
  | v y =>
    rw [hss] at h hv
    cases y with
    | ptr p =>
      cases p with
      | none => exact h.elim
      | some p =>
        simp only [iAV, resK] at h
        simp only [SRep, Rep] at hv
        obtain ⟨b, h1, hv⟩ := hv
        exact good_pure hi hf hd hN (run _ _ hv h.1) (x := .v (.ptr (some (p.1, p.2 + n.toNat * s)))) (by simp only [SRep, Rep]; exact ⟨b, h1, rfl⟩) h.2
    | elt r s2 es i q =>
      simp only [iAV, resK] at h
      cases r with
      | pub =>
        simp only [SRep, Rep] at hv
        obtain ⟨b, vs, hv, h1, h2⟩ := hv
        exact good_pure hi hf hd hN (run _ _ hv h.1) (x := .v (.elt .pub s2 es i (q + n.toNat * s))) (by simp only [SRep, Rep]; exact ⟨b, vs, by rw [Nat.add_assoc], h1, h2⟩) h.2
      | own r =>
        simp only [SRep, Rep] at hv
        obtain ⟨b, cap, hv, h1, h2⟩ := hv
        exact good_pure hi hf hd hN (run _ _ hv h.1) (x := .v (.elt (.own r) s2 es i (q + n.toNat * s))) (by simp only [SRep, Rep]; exact ⟨b, cap, by rw [Nat.add_assoc], h1, h2⟩) h.2
      | view r =>
        simp only [SRep, Rep] at hv
        obtain ⟨b, hv, h1, h2⟩ := hv
        exact good_pure hi hf hd hN (run _ _ hv h.1) (x := .v (.elt (.view r) s2 es i (q + n.toNat * s))) (by simp only [SRep, Rep]; exact ⟨b, by rw [Nat.add_assoc], h1, h2⟩) h.2
    | _ => exact h.elim

theorem get_mk (m : List UInt8) (i : Nat) : (⟨m.toArray⟩ : ByteArray)[i]? = m[i]? := by
  by_cases h : i < m.length
  · have h2 : i < (⟨m.toArray⟩ : ByteArray).size := by simpa [ByteArray.size] using h
    rw [ByteArray.getElem?_lt' _ _ h2, List.getElem?_eq_getElem h]
    rfl
  · have h2 : ¬ i < (⟨m.toArray⟩ : ByteArray).size := by simpa [ByteArray.size] using h
    rw [ByteArray.getElem?_ge' _ _ h2, List.getElem?_eq_none (by omega)]

theorem good_ix {d : Nat} {t : TypeId} {x ix : Operand} {ex ei : E} (hi : INV γ σ w) (hf : FRep γ σ F a w lam) (hop : o.op = .index t x ix) (hd : o.dst = some d) (hN : d < a.tmps.size)
    (ht : P.underlying t = some .string) (hx : compE 0 x = some ex) (hy : compE 0 ix = some ei) (h : resK K ((O.ix d ex ei).run F σ)) : Good P o a w γ K := by
  have vx := va_rep hf hx
  have vy := va_rep hf hy
  simp only [O.run] at h
  cases hsx : F.va ex <;> rw [hsx] at h vx <;> (try exact h.elim)
  cases hsy : F.va ei <;> rw [hsy] at h vy <;> (try exact h.elim)
  rename_i s k n
  simp only [ixW, resK] at h
  obtain ⟨⟨h1, h2⟩, h⟩ := h
  simp only [Rep] at vx vy
  have hlt : n.toNat < s.length := by omega
  refine good_pure (v := .int .u8 (s[n.toNat]?.getD 0).toNat) hi hf hd hN ?_ (x := .v (.int .u8 (s[n.toNat]?.getD 0).toNat)) (by simp [SRep, Rep]) h
  simp [execOp, hop, vx, vy, Instr.index, asIntOf, run_underlying ht, h1, get_mk, hlt]

theorem good_mx {d : Nat} {c : Call} {x y : Operand} {ex ey : E} (hi : INV γ σ w) (hf : FRep γ σ F a w lam) (hop : o.op = .call c) (hcal : c.callee = .builtin .max) (hargs : c.args.toList = [x, y]) (hd : o.dst = some d)
    (hN : d < a.tmps.size) (hx : compE 0 x = some ex) (hy : compE 0 y = some ey) (h : resK K ((O.mx d ex ey).run F σ)) : Good P o a w γ K := by
  have vx := va_rep hf hx
  have vy := va_rep hf hy
  simp only [O.run] at h
  cases hsx : F.va ex <;> rw [hsx] at h vx <;> (try exact h.elim)
  cases hsy : F.va ey <;> rw [hsy] at h vy <;> (try exact h.elim)
  rename_i k m k' n
  simp only [Rep] at vx vy
  have ha : c.args = #[x, y] := by rw [← Array.toArray_toList (xs := c.args), hargs]
  exact good_pure (v := .int k (if n > m then n else m)) hi hf hd hN (by simp [execOp, hop, resolve, hcal, invoke, builtin, Builtin.max_, ha, vx, vy, Builtin.max2]) (x := .v (.int k (if n > m then n else m))) (by simp [SRep, Rep]) h

theorem good_mn {d : Nat} {c : Call} {x y : Operand} {ex ey : E} (hi : INV γ σ w) (hf : FRep γ σ F a w lam) (hop : o.op = .call c) (hcal : c.callee = .builtin .min) (hargs : c.args.toList = [x, y]) (hd : o.dst = some d)
    (hN : d < a.tmps.size) (hx : compE 0 x = some ex) (hy : compE 0 y = some ey) (h : resK K ((O.mn d ex ey).run F σ)) : Good P o a w γ K := by
  have vx := va_rep hf hx
  have vy := va_rep hf hy
  simp only [O.run] at h
  cases hsx : F.va ex <;> rw [hsx] at h vx <;> (try exact h.elim)
  cases hsy : F.va ey <;> rw [hsy] at h vy <;> (try exact h.elim)
  rename_i k m k' n
  simp only [Rep] at vx vy
  have ha : c.args = #[x, y] := by rw [← Array.toArray_toList (xs := c.args), hargs]
  exact good_pure (v := .int k (if n < m then n else m)) hi hf hd hN (by simp [execOp, hop, resolve, hcal, invoke, builtin, Builtin.min_, ha, vx, vy, Builtin.min2]) (x := .v (.int k (if n < m then n else m))) (by simp [SRep, Rep]) h

theorem good_mf {d : Nat} {f : FuncId} {first caps : Array Operand} {es : List E} (hi : INV γ σ w) (hf : FRep γ σ F a w lam) (hop : o.op = .makeFunc (.func f) first caps) (hfi : first.isEmpty = true) (hd : o.dst = some d)
    (hN : d < a.tmps.size) (hx : compEs 0 caps.toList = some es) (h : resK K ((O.mf d f es).run F σ)) : Good P o a w γ K := by
  have vx := vas_rep hf hx
  simp only [O.run] at h
  have hfi' : first = #[] := by simpa using hfi
  refine good_pure (v := .func (.func f) #[] (caps.map a.eval)) hi hf hd hN (by simp [execOp, hop, Instr.makeFunc, hfi']) (x := .v (.fn f (es.map F.va))) ?_ h
  simp only [SRep, Rep]
  exact ⟨caps.toList.map a.eval, by congr 1; apply Array.ext'; simp, vx⟩

theorem good_ln {d : Nat} {k : EK} {c : Call} {t : TypeId} {T : TypeDesc} {x : Operand} {ex : E} (hi : INV γ σ w) (hf : FRep γ σ F a w lam) (hop : o.op = .call c) (hcal : c.callee = .builtin .len) (hargs : c.args.toList = [x])
    (hty : c.argTypes[0]? = some t) (hT : P.underlying t = some T) (hk : (∃ e, T = .slice e ∧ k = .sl) ∨ (T = .string ∧ k = .fn) ∨ (∃ u e, T = .map u e ∧ k = .map)) (hd : o.dst = some d)
    (hN : d < a.tmps.size) (hx : compE 0 x = some ex) (h : resK K ((O.ln d k ex).run F σ)) : Good P o a w γ K := by
  have vx := va_rep hf hx
  simp only [O.run] at h
  have ha : c.args = #[x] := by rw [← Array.toArray_toList (xs := c.args), hargs]
  have run : ∀ n : Int, (Builtin.len_ c.argTypes o.type #[a.eval x]).run P w = .ok (.int .i64 n) w → (execOp a.eval o).run P w = .ok (.value (.int .i64 n)) w := by
    intro n hr
    simp [execOp, hop, resolve, hcal, invoke, builtin, ha, hr]
  rcases hk with ⟨e, rfl, rfl⟩ | ⟨rfl, rfl⟩ | ⟨u, e, rfl, rfl⟩
  · cases hsx : F.va ex <;> rw [hsx] at h vx <;> (try exact h.elim)
    rename_i b r s es
    simp only [lnW, resK] at h
    have hp : ∃ z cp, a.eval x = .slice z es.length cp := by
      cases b with
      | true => simp only [Rep] at vx; exact ⟨_, _, by rw [vx.2, vx.1]; rfl⟩
      | false =>
        cases r with
        | pub => simp only [Rep] at vx; obtain ⟨_, _, _, vx, _⟩ := vx; exact ⟨_, _, vx⟩
        | own r => simp only [Rep] at vx; obtain ⟨_, _, vx, _⟩ := vx; exact ⟨_, _, vx⟩
        | view r => simp only [Rep] at vx; obtain ⟨_, _, vx, _⟩ := vx; exact ⟨_, _, vx⟩
    obtain ⟨z, cp, hz⟩ := hp
    exact good_pure hi hf hd hN (run es.length (by simp [Builtin.len_, hty, run_underlying hT, hz, goInt])) (x := .v (.int .i64 es.length)) (by simp [SRep, Rep]) h
  · cases hsx : F.va ex <;> rw [hsx] at h vx <;> (try exact h.elim)
    rename_i s
    simp only [lnW, resK] at h
    simp only [Rep] at vx
    have hsz : (⟨s.toArray⟩ : ByteArray).size = s.length := by simp [ByteArray.size]
    exact good_pure hi hf hd hN (run s.length (by simp only [Builtin.len_, hty, vx, List.getElem?_toArray, List.getElem?_cons_zero, Sem.run_bind, run_underlying hT, Result.andThen_ok, Sem.run_pure, goInt, hsz])) (x := .v (.int .i64 s.length)) (by simp [SRep, Rep]) h
  · cases hsx : F.va ex <;> rw [hsx] at h vx <;> (try exact h.elim)
    rename_i p
    cases p with
    | none =>
      simp only [lnW, resK] at h
      simp only [Rep] at vx
      exact good_pure hi hf hd hN (run 0 (by simp [Builtin.len_, hty, run_underlying hT, vx, goInt])) (x := .v (.int .i64 0)) (by simp [SRep, Rep]) h
    | some i =>
      simp only [lnW] at h
      simp only [Rep] at vx
      obtain ⟨b, hb, vx⟩ := vx
      cases ho : σ.objs[i]? with
      | none => rw [ho] at h; exact h.elim
      | some ob =>
        rw [ho] at h
        cases ob with
        | mp lv es ver =>
          simp only [lnO, resK] at h
          obtain ⟨_, _, ents, clock, h1, h2, h3, h4, _⟩ := hi.objs _ _ _ hb ho
          have hl : ∀ (es : List (V × V)) (ms : List MapEntry), RepM γ lv es ms → es.length = ms.length := by
            intro es
            induction es with
            | nil => intro ms hm; simp only [RepM] at hm; subst hm; rfl
            | cons p r ih => intro ms hm; obtain ⟨e, t, rfl, _, _, _, h5⟩ := hm; simp [ih t h5]
          exact good_pure hi hf hd hN (run es.length (by simp [Builtin.len_, hty, run_underlying hT, vx, goInt, getObj, Sem.run, h1, hl es ents h4])) (x := .v (.int .i64 es.length)) (by simp [SRep, Rep]) h
        | _ => exact h.elim
end
end Go.VL

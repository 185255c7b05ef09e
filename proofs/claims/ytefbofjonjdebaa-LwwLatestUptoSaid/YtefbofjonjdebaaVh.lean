/- The V-logic, part 8: reads. -/
import Derived.Test.YtefbofjonjdebaaVg
set_option linter.unusedVariables false
set_option linter.unusedSimpArgs false
namespace Go.VL
open Go

def cellsAt (w : World) (b o : Nat) (vs : List Value) : Prop := ∀ (i : Nat) (v : Value), vs[i]? = some v → w.cell? ⟨b, o + i, none⟩ = some v

theorem add_none (b o n : Nat) : (⟨b, o, none⟩ : Addr).add n = ⟨b, o + n, none⟩ := by
  unfold Addr.add
  split
  · simp_all
  · rfl

theorem cell_of_heap {w : World} {b : Nat} {c : Array Value} {e : TypeId} {z : Nat × Nat} (h : w.heap[b]? = some (.cells c e z)) (o : Nat) : w.cell? ⟨b, o, none⟩ = c[o]? := by
  simp [World.cell?, h]

theorem run_loadCellsFrom {P : Program} {w : World} {b o : Nat} {vs : List Value} (h : cellsAt w b o vs) : ∀ (n i : Nat) (acc : Array Value), i + n ≤ vs.length →
    (loadCellsFrom ⟨b, o, none⟩ i n acc).run P w = .ok (acc ++ ((vs.drop i).take n).toArray) w
  | 0, i, acc, _ => by simp [loadCellsFrom]
  | n + 1, i, acc, hn => by
    have hlt : i < vs.length := by omega
    have h1 : vs[i]? = some vs[i] := List.getElem?_eq_getElem hlt
    have h2 := h i _ h1
    have ih := run_loadCellsFrom (P := P) h n (i + 1) (acc.push vs[i]) (by omega)
    simp only [loadCellsFrom, add_none, Sem.run_bind, run_load, h2, Result.andThen_ok, ih]
    rw [List.drop_eq_getElem_cons hlt, List.take_succ_cons]
    congr 1
    apply Array.ext'
    simp

theorem run_loadCells {P : Program} {w : World} {b o : Nat} {vs : List Value} (h : cellsAt w b o vs) {n : Nat} (hn : n ≤ vs.length) :
    (loadCells ⟨b, o, none⟩ n).run P w = .ok (vs.take n).toArray w := by
  rw [loadCells, run_loadCellsFrom h n 0 #[] (by omega)]
  simp

theorem RepL.length {γ : G} : ∀ {xs : List V} {vs : List Value}, RepL γ xs vs → xs.length = vs.length
  | [], vs, h => by simp only [RepL] at h; subst h; rfl
  | x :: xs, vs, h => by
    simp only [RepL] at h
    obtain ⟨v, ws, rfl, _, h3⟩ := h
    simp [RepL.length h3]
theorem RepL.take {γ : G} : ∀ {n : Nat} {xs : List V} {vs : List Value}, RepL γ xs vs → RepL γ (xs.take n) (vs.take n)
  | 0, _, _, _ => by simp [RepL]
  | n + 1, [], vs, h => by simp only [RepL] at h; subst h; simp [RepL]
  | n + 1, x :: xs, vs, h => by
    simp only [RepL] at h
    obtain ⟨v, ws, rfl, h2, h3⟩ := h
    simp only [List.take_succ_cons, RepL]
    exact ⟨v, _, rfl, h2, RepL.take h3⟩
theorem RepL.drop {γ : G} : ∀ {n : Nat} {xs : List V} {vs : List Value}, RepL γ xs vs → RepL γ (xs.drop n) (vs.drop n)
  | 0, _, _, h => by simpa using h
  | n + 1, [], vs, h => by simp only [RepL] at h; subst h; simp [RepL]
  | n + 1, x :: xs, vs, h => by
    simp only [RepL] at h
    obtain ⟨v, ws, rfl, h2, h3⟩ := h
    simp only [List.drop_succ_cons]
    exact RepL.drop h3
theorem RepL.append {γ : G} : ∀ {xs ys : List V} {vs us : List Value}, RepL γ xs vs → RepL γ ys us → RepL γ (xs ++ ys) (vs ++ us)
  | [], _, vs, _, h, k => by simp only [RepL] at h; subst h; simpa using k
  | x :: xs, _, vs, _, h, k => by
    simp only [RepL] at h
    obtain ⟨v, ws, rfl, h2, h3⟩ := h
    simp only [List.cons_append, RepL]
    exact ⟨v, _, rfl, h2, RepL.append h3 k⟩
theorem cellsAt.drop {w : World} {b o : Nat} {vs : List Value} (h : cellsAt w b o vs) (n : Nat) : cellsAt w b (o + n) (vs.drop n) := by
  intro i v hv
  rw [List.getElem?_drop] at hv
  have := h _ _ hv
  rw [show o + n + i = o + (n + i) from by omega]
  exact this
theorem cellsAt_heap {w : World} {b : Nat} {vs : List Value} {e : TypeId} {z : Nat × Nat} (h : w.heap[b]? = some (.cells vs.toArray e z)) : cellsAt w b 0 vs := by
  intro i v hv
  rw [cell_of_heap h]
  simpa using hv

section
variable {P : Program} {γ : G} {σ : St} {F : Fr} {a : Act} {w : World} {lam : Nat → Nat} {o : Oper} {K : Fr → St → Prop}

theorem ldC_ok {d n : Nat} {g : Bool} {t : TypeId} {b off : Nat} {vs : List Value} {cs : List V} (hc : cellsAt w b off vs) (hr : RepL γ cs vs) (hn : szOf P t = some n) (hg : aggOf P t = some g)
    (h : resK K (ldC d F σ cs n g)) : ∃ v x, (loadVar t ⟨b, off, none⟩).run P w = .ok v w ∧ Rep γ x v ∧ K (F.set d (.v x)) σ := by
  cases g with
  | true =>
    simp only [ldC, resK] at h
    obtain ⟨h1, h2⟩ := h
    have hlen : n ≤ vs.length := by
      have := hr.length
      simp only [List.length_take] at h1
      omega
    refine ⟨.agg (vs.take n).toArray, _, ?_, ?_, h2⟩
    · simp [loadVar, run_isAgg hg, run_sizeOf hn, run_loadCells hc hlen]
    · simp only [Rep]
      exact ⟨_, rfl, hr.take⟩
  | false =>
    cases cs with
    | nil => exact h.elim
    | cons x xs =>
      simp only [RepL] at hr
      obtain ⟨v, ws, rfl, h2, _⟩ := hr
      have hcell : w.cell? ⟨b, off, none⟩ = some v := by simpa using hc 0 v rfl
      refine ⟨v, x, ?_, h2, h⟩
      simp [loadVar, run_isAgg hg, hcell]

theorem RepE.get {γ : G} {s : Nat} : ∀ {es : List (List V)} {vs : List Value}, RepE γ s es vs → ∀ {i : Nat} {cs : List V}, es[i]? = some cs →
    ∃ ws, RepL γ cs ws ∧ cs.length = s ∧ ∀ (j : Nat) (v : Value), ws[j]? = some v → vs[i * s + j]? = some v
  | [], _, _, _, _, h => by simp at h
  | c :: es, vs, hr, i, cs, h => by
    simp only [RepE] at hr
    obtain ⟨ws, us, rfl, h2, h3, h4, _⟩ := hr
    cases i with
    | zero =>
      simp only [List.getElem?_cons_zero, Option.some.injEq] at h
      subst h
      refine ⟨ws, h3, h2, fun j v hv => ?_⟩
      have hj : j < ws.length := (List.getElem?_eq_some_iff.1 hv).1
      rw [Nat.zero_mul, Nat.zero_add, List.getElem?_append_left hj, hv]
    | succ i =>
      simp only [List.getElem?_cons_succ] at h
      obtain ⟨xs, k1, k2, k3⟩ := RepE.get h4 h
      refine ⟨xs, k1, k2, fun j v hv => ?_⟩
      have hl : ws.length = s := by rw [← h3.length, h2]
      have := k3 j v hv
      rw [List.getElem?_append_right (by rw [hl, Nat.succ_mul]; omega), hl]
      rw [show (i + 1) * s + j - s = i * s + j from by rw [Nat.succ_mul]; omega]
      exact this

theorem RepE.length {γ : G} {s : Nat} : ∀ {es : List (List V)} {vs : List Value}, RepE γ s es vs → vs.length = es.length * s
  | [], _, hr => by simp only [RepE] at hr; subst hr; simp
  | c :: es, vs, hr => by
    simp only [RepE] at hr
    obtain ⟨ws, us, rfl, h2, h3, h4, _⟩ := hr
    have := RepE.length h4
    have := h3.length
    simp only [List.length_append, List.length_cons, Nat.succ_mul]
    omega

/-- The cells of an element, wherever it lies. -/
theorem elt_cells (hi : INV γ σ w) {r : R} {s i q : Nat} {es : List (List V)} {v : Value} (hv : Rep γ (.elt r s es i q) v) (hrd : rd σ.live r) :
    ∃ b off ws, v = .pointer (some ⟨b, off, none⟩) ∧ cellsAt w b off ws ∧ RepL γ ((es[i]?.getD []).drop q) ws := by
  have view : ∀ r a, viewAt γ r s es a → σ.live[r]? = some true → i < es.length → ∃ ws, cellsAt w a.block (a.off + i * s + q) ws ∧ RepL γ ((es[i]?.getD []).drop q) ws := by
    intro r a ⟨a0, n, cap, es0, lo, h1, h2, h3, h4, h5, _⟩ hl hlt
    obtain ⟨a1, cap1, e1, _, _, _, _, _, c, e, z, vs, k1, k2, k3, _⟩ := hi.own r _ _ _ hl h1
    cases e1
    have hes : es[i]? = es0[lo + i]? := by
      rw [h3, List.getElem?_take, if_pos hlt, List.getElem?_drop]
    obtain ⟨cs, hcs⟩ : ∃ cs, es[i]? = some cs := ⟨_, List.getElem?_eq_getElem hlt⟩
    obtain ⟨ws, m1, m2, m3⟩ := k3.get (hes ▸ hcs)
    refine ⟨ws.drop q, ?_, ?_⟩
    · intro j v hv
      rw [List.getElem?_drop] at hv
      have := k2 _ _ (m3 _ _ hv)
      rw [h4, cell_of_heap k1, h5, ← this]
      congr 1
      rw [Nat.add_mul]
      omega
    · rw [hcs]
      exact m1.drop
  cases r with
  | pub =>
    simp only [Rep] at hv
    obtain ⟨a, vs, rfl, hlt, hp, hr⟩ := hv
    obtain ⟨cs, hcs⟩ : ∃ cs, es[i]? = some cs := ⟨_, List.getElem?_eq_getElem hlt⟩
    obtain ⟨ws, m1, m2, m3⟩ := hr.get hcs
    refine ⟨_, _, ws.drop q, rfl, ?_, by rw [hcs]; exact m1.drop⟩
    intro j v hv
    rw [List.getElem?_drop] at hv
    obtain ⟨c, e, z, k1, k2⟩ := hi.pub _ _ _ (hp _ _ (m3 _ _ hv))
    rw [cell_of_heap k1, ← k2]
    congr 1
    omega
  | own r =>
    simp only [Rep] at hv
    obtain ⟨a, cap, rfl, hlt, hva, hsp⟩ := hv
    obtain ⟨ws, k1, k2⟩ := view r a ⟨a, es.length, cap, es, 0, hva, by omega, by simp, rfl, by omega, hsp⟩ hrd hlt
    exact ⟨_, _, ws, rfl, k1, k2⟩
  | view r =>
    simp only [Rep] at hv
    obtain ⟨a, rfl, hlt, hva⟩ := hv
    obtain ⟨ws, k1, k2⟩ := view r a hva hrd hlt
    exact ⟨_, _, ws, rfl, k1, k2⟩

theorem resK_also {p : Prop} {r : Res} (h : resK K (r.also p)) : p ∧ resK K r := by
  cases r with
  | bad => exact h.elim
  | ok F σ => exact h
  | need q F σ => exact ⟨h.1.1, h.1.2, h.2⟩

/-- A read through an address that is at hand. -/
theorem ld_ok {d n : Nat} {g : Bool} {t : TypeId} {x : Operand} {e : E} (hi : INV γ σ w) (hf : FRep γ σ F a w lam)
    (hn : szOf P t = some n) (hg : aggOf P t = some g) (hc : compE 0 x = some e) (h : resK K (ldW d F σ n g (F.ev e))) :
    ∃ ad v y, a.eval x = .pointer (some ad) ∧ (loadVar t ad).run P w = .ok v w ∧ Rep γ y v ∧ K (F.set d (.v y)) σ := by
  have hv := ev_rep hf hc
  have fin : ∀ b off vs cs, a.eval x = .pointer (some ⟨b, off, none⟩) → cellsAt w b off vs → RepL γ cs vs → resK K (ldC d F σ cs n g) →
      ∃ ad v y, a.eval x = .pointer (some ad) ∧ (loadVar t ad).run P w = .ok v w ∧ Rep γ y v ∧ K (F.set d (.v y)) σ := by
    intro b off vs cs hx hcs hr hk
    obtain ⟨v, y, h1, h2, h3⟩ := ldC_ok (P := P) hcs hr hn hg hk
    exact ⟨_, v, y, hx, h1, h2, h3⟩
  cases hs : F.ev e with
  | loc k q =>
    rw [hs] at h hv
    simp only [ldW] at h
    cases hl : lget k F.l with
    | none => rw [hl] at h; exact h.elim
    | some cs =>
      rw [hl] at h
      obtain ⟨vs, ee, h1, h2⟩ := (hf.l k cs hl).cells
      exact fin _ _ _ _ hv (by simpa using (cellsAt_heap h1).drop q) h2.drop h
  | v y =>
    rw [hs] at h hv
    simp only [ldW] at h
    cases y with
    | ptr p =>
      cases p with
      | none => exact h.elim
      | some p =>
        simp only [ldV] at h
        simp only [SRep, Rep] at hv
        obtain ⟨b, hb, hv⟩ := hv
        cases ho : σ.objs[p.1]? with
        | none => rw [ho] at h; exact h.elim
        | some ob =>
          rw [ho] at h
          cases ob with
          | cells cs =>
            obtain ⟨_, _, vs, ee, h1, h2⟩ := hi.objs _ _ _ hb ho
            exact fin _ _ _ _ hv (by simpa using (cellsAt_heap h1).drop p.2) h2.drop h
          | _ => exact h.elim
    | elt r s es i q =>
      simp only [ldV] at h
      obtain ⟨hrd, h⟩ := resK_also h
      obtain ⟨b, off, ws, h1, h2, h3⟩ := elt_cells hi hv hrd
      exact fin _ _ _ _ h1 h2 h3 h
    | _ => exact h.elim

theorem good_ld {d n : Nat} {g : Bool} {t : TypeId} {x : Operand} {e : E} (hi : INV γ σ w) (hf : FRep γ σ F a w lam) (hop : o.op = .load t x) (hd : o.dst = some d) (hN : d < a.tmps.size)
    (hn : szOf P t = some n) (hg : aggOf P t = some g) (hc : compE 0 x = some e) (h : resK K ((O.ld d e n g).run F σ)) : Good P o a w γ K := by
  obtain ⟨ad, v, y, hx, h1, h2, h3⟩ := ld_ok (P := P) hi hf hn hg hc h
  exact good_pure hi hf hd hN (by simp [execOp, hop, hx, Instr.loadAt, Instr.sureAddr, h1]) (x := .v y) h2 h3
end
end Go.VL

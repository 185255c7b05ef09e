/- The V-logic, part 14: operations that make blocks or write. -/
import Derived.Test.YtefbofjonjdebaaVm
import Derived.Lib.ConvBytes
set_option linter.unusedVariables false
set_option linter.unusedSimpArgs false
namespace Go.VL
open Go

section
variable {P : Program} {γ : G} {σ : St} {F : Fr} {a : Act} {w : World} {lam : Nat → Nat} {o : Oper} {K : Fr → St → Prop}

def pushed (w : World) (x : Obj) : World := { w with heap := w.heap.push x }

theorem good_newL {d : Nat} {cs : List V} {vs : List Value} {e : TypeId} (hi : INV γ σ w) (hf : FRep γ σ F a w lam) (hd : o.dst = some d) (hN : d < a.tmps.size)
    (hr : (execOp a.eval o).run P w = .ok (.value (.pointer (some ⟨w.heap.size, 0, none⟩))) (pushed w (.cells vs.toArray e))) (hv : RepL γ cs vs) (h : K (F.newL d cs) σ) : Good P o a w γ K := by
  have hb : But none w (pushed w (.cells vs.toArray e)) := .push w _
  refine ⟨_, _, γ, σ, F.newL d cs, (fun k => if k = d then w.heap.size else lam k), _, hr, .inl rfl, .refl γ, hi.step hb, ?_, h⟩
  rw [hd]
  exact FRep.newL hi hf hb (Nat.le_refl _) (heap_push w _) hv hN

theorem good_newH {d : Nat} {cs : List V} {vs : List Value} {e : TypeId} (hi : INV γ σ w) (hf : FRep γ σ F a w lam) (hd : o.dst = some d) (hN : d < a.tmps.size)
    (hr : (execOp a.eval o).run P w = .ok (.value (.pointer (some ⟨w.heap.size, 0, none⟩))) (pushed w (.cells vs.toArray e))) (hv : RepL γ cs vs)
    (h : K (F.set d (.v (.ptr (some (σ.objs.length, 0))))) ⟨σ.objs ++ [.cells cs], σ.live⟩) : Good P o a w γ K := by
  have hb : But none w (pushed w (.cells vs.toArray e)) := .push w _
  have hle : LeR γ { γ with mu := γ.mu ++ [w.heap.size] } := ⟨fun i c hi => by
    show (γ.mu ++ [w.heap.size])[i]? = some c
    rw [List.getElem?_append_left (List.getElem?_eq_some_iff.1 hi).1]; exact hi, fun _ _ x => x, fun _ _ _ x => x⟩
  obtain ⟨h1, h2⟩ := hi.newObj hb (Nat.le_refl _) (sn := γ.snap) (fun _ _ _ x => x) (fun _ _ _ => rfl) (ob := .cells cs) ⟨vs, e, heap_push w _, RepL.mono hle _ _ hv⟩
  refine ⟨_, _, _, _, _, lam, _, hr, .inl rfl, h2, h1, ?_, h⟩
  rw [hd]
  refine (FRep.newObj hf hb (Nat.le_refl _)).set ?_ hN
  simp only [SRep, Rep]
  exact ⟨w.heap.size, by rw [← hi.mulen]; simp, rfl⟩

theorem vOfs_cells {t : TypeId} {z : List V} (h : zeroC P t = some z) : ∃ i zv, P.info? t = some i ∧ i.zero = some zv ∧ vOfs zv.cells.toList = some z := by
  simp only [zeroC, Option.bind_eq_some_iff] at h
  obtain ⟨zv, ⟨i, h1, h2⟩, h3⟩ := h
  exact ⟨i, zv, h1, h2, h3⟩

theorem run_zeroValue {t : TypeId} {i : TypeInfo} {zv : Value} (h1 : P.info? t = some i) (h2 : i.zero = some zv) : (zeroValue t).run P w = .ok zv w := by
  simp [zeroValue, run_typeInfo h1, h2]

theorem good_al {d : Nat} {t : TypeId} {z : List V} (loc : Bool) (hi : INV γ σ w) (hf : FRep γ σ F a w lam) (hop : o.op = .alloc t) (hd : o.dst = some d) (hN : d < a.tmps.size) (hz : zeroC P t = some z)
    (h : resK K ((bif loc then O.alL d z else O.alH d z).run F σ)) : Good P o a w γ K := by
  obtain ⟨i, zv, h1, h2, h3⟩ := vOfs_cells hz
  have hr : (execOp a.eval o).run P w = .ok (.value (.pointer (some ⟨w.heap.size, 0, none⟩))) (pushed w (.cells zv.cells.toList.toArray t)) := by
    simp [execOp, hop, Instr.alloc, run_zeroValue h1 h2, newVar, newRow, pushed]
  cases loc with
  | true => exact good_newL hi hf hd hN hr (vOfs_rep γ _ _ h3) h
  | false => exact good_newH hi hf hd hN hr (vOfs_rep γ _ _ h3) h

/-- A value's cells. -/
theorem cells_rep {x : V} {v : Value} {cs : List V} (hx : Rep γ x v) (hc : cellsOf x = some cs) : RepL γ cs v.cells.toList := by
  cases x <;> simp only [cellsOf, Option.some.injEq, reduceCtorEq] at hc <;> subst hc
  case agg cs =>
    simp only [Rep] at hx
    obtain ⟨vs, rfl, h⟩ := hx
    simpa [Value.cells] using h
  case int k n => simp only [Rep] at hx; subst hx; simp [Value.cells, RepL, Rep]
  case bool b => simp only [Rep] at hx; subst hx; simp [Value.cells, RepL, Rep]
  case str s => simp only [Rep] at hx; subst hx; simp [Value.cells, RepL, Rep]
  case nilf => simp only [Rep] at hx; subst hx; simp [Value.cells, RepL, Rep]
  case sl b r s es =>
    have : ∃ z n c, v = .slice z n c := by
      cases b with
      | true => simp only [Rep] at hx; exact ⟨_, _, _, hx.2⟩
      | false =>
        cases r with
        | pub => simp only [Rep] at hx; obtain ⟨_, _, _, e, _⟩ := hx; exact ⟨_, _, _, e⟩
        | own r => simp only [Rep] at hx; obtain ⟨_, _, e, _⟩ := hx; exact ⟨_, _, _, e⟩
        | view r => simp only [Rep] at hx; obtain ⟨_, _, e, _⟩ := hx; exact ⟨_, _, _, e⟩
    obtain ⟨z, n, c, rfl⟩ := this
    simp only [Value.cells, RepL]
    exact ⟨_, [], rfl, hx, rfl⟩
  case ptr p =>
    have : ∃ z, v = .pointer z := by
      cases p with
      | none => simp only [Rep] at hx; exact ⟨_, hx⟩
      | some p => simp only [Rep] at hx; obtain ⟨_, _, e⟩ := hx; exact ⟨_, e⟩
    obtain ⟨z, rfl⟩ := this
    simp only [Value.cells, RepL]
    exact ⟨_, [], rfl, hx, rfl⟩
  case elt r s es i q =>
    have : ∃ z, v = .pointer z := by
      cases r with
      | pub => simp only [Rep] at hx; obtain ⟨_, _, e, _⟩ := hx; exact ⟨_, e⟩
      | own r => simp only [Rep] at hx; obtain ⟨_, _, e, _⟩ := hx; exact ⟨_, e⟩
      | view r => simp only [Rep] at hx; obtain ⟨_, e, _⟩ := hx; exact ⟨_, e⟩
    obtain ⟨z, rfl⟩ := this
    simp only [Value.cells, RepL]
    exact ⟨_, [], rfl, hx, rfl⟩
  case map p =>
    have : ∃ z, v = .map z := by
      cases p with
      | none => simp only [Rep] at hx; exact ⟨_, hx⟩
      | some p => simp only [Rep] at hx; obtain ⟨_, _, e⟩ := hx; exact ⟨_, e⟩
    obtain ⟨z, rfl⟩ := this
    simp only [Value.cells, RepL]
    exact ⟨_, [], rfl, hx, rfl⟩
  case fn f caps =>
    have : ∃ g c d, v = .func g c d := by simp only [Rep] at hx; obtain ⟨_, e, _⟩ := hx; exact ⟨_, _, _, e⟩
    obtain ⟨g, c, d, rfl⟩ := this
    simp only [Value.cells, RepL]
    exact ⟨_, [], rfl, hx, rfl⟩

theorem good_bx {d : Nat} {t : TypeId} {x : Operand} {e : E} (loc : Bool) (hi : INV γ σ w) (hf : FRep γ σ F a w lam) (hop : o.op = .box t x) (hd : o.dst = some d) (hN : d < a.tmps.size) (hc : compE 0 x = some e)
    (h : resK K ((bif loc then O.bxL d e else O.bxH d e).run F σ)) : Good P o a w γ K := by
  have hv := va_rep hf hc
  cases hs : cellsOf (F.va e) with
  | none => cases loc <;> (simp only [cond_true, cond_false, O.run, hs] at h; exact h.elim)
  | some cs =>
    have hr : (execOp a.eval o).run P w = .ok (.value (.pointer (some ⟨w.heap.size, 0, none⟩))) (pushed w (.cells (a.eval x).cells.toList.toArray t)) := by
      simp [execOp, hop, Instr.box, newVar, newRow, pushed]
    cases loc with
    | true =>
      simp only [cond_true, O.run, hs] at h
      exact good_newL hi hf hd hN hr (cells_rep hv hs) h
    | false =>
      simp only [cond_false, O.run, hs] at h
      exact good_newH hi hf hd hN hr (cells_rep hv hs) h

/-! ### Structs -/
theorem foldl_set (n : Nat) : ∀ (xs : List Value) (cs : Array Value) (i : Nat), n + i + xs.length ≤ cs.size →
    ((xs.zipIdx i).foldl (fun cs (p : Value × Nat) => cs.setIfInBounds (n + p.2) p.1) cs).toList = cs.toList.take (n + i) ++ xs ++ cs.toList.drop (n + i + xs.length)
  | [], cs, i, _ => by simp
  | x :: xs, cs, i, h => by
    simp only [List.zipIdx_cons, List.foldl_cons]
    simp only [List.length_cons] at h
    rw [foldl_set n xs _ (i + 1) (by simp; omega)]
    have hlt : n + i < cs.toList.length := by simp; omega
    simp only [Array.toList_setIfInBounds]
    have e1 : (cs.toList.set (n + i) x).take (n + (i + 1)) = cs.toList.take (n + i) ++ [x] := by
      rw [show n + (i + 1) = n + i + 1 from by omega, List.take_succ_eq_append_getElem (by simpa using hlt), List.take_set_of_le (Nat.le_refl _)]
      simp
    have e2 : (cs.toList.set (n + i) x).drop (n + (i + 1) + xs.length) = cs.toList.drop (n + i + (x :: xs).length) := by
      rw [List.drop_set_of_lt (by omega)]
      congr 1
      simp; omega
    rw [e1, e2]
    simp

theorem over_rep {z xs : List V} {vs us : List Value} (hz : RepL γ z vs) (hx : RepL γ xs us) (q : Nat) : RepL γ (over z q xs) (vs.take q ++ us ++ vs.drop (q + us.length)) := by
  unfold over
  rw [← hx.length]
  exact (hz.take.append hx).append hz.drop

theorem fill_ok (hf : FRep γ σ F a w lam) {fs : Array Field} {places : Array (Nat × Nat)} (hp : ∀ (i : Nat) (f : Field) (s : Nat), fs[i]? = some f → szOf P f.type = some s → places[i]? = some (f.offset, s)) :
    ∀ (ps : List (Nat × Operand)) (qs : List (Nat × Nat × E)) (z : List V) (cs : Array Value), compBld P fs ps = some qs → RepL γ z cs.toList → ∀ z', overs F (some z) qs = some z' →
      ∃ cs', Instr.fill (places[·]?) cs (ps.map fun p => (p.1, a.eval p.2)) = some cs' ∧ RepL γ z' cs'.toList
  | [], qs, z, cs, h, hz, z', ho => by
    simp only [compBld, Option.some.injEq] at h
    subst h
    simp only [overs, Option.some.injEq] at ho
    subst ho
    exact ⟨cs, rfl, hz⟩
  | p :: r, qs, z, cs, h, hz, z', ho => by
    simp only [compBld] at h
    split at h
    · rename_i f x l h1 h2 h3
      simp only [Option.map_eq_some_iff] at h
      obtain ⟨s, hs, rfl⟩ := h
      simp only [overs] at ho
      have hv := va_rep hf h2
      cases hc : cellsOf (F.va x) with
      | none => rw [hc] at ho; simp only [overC] at ho; cases l <;> simp [overs] at ho
      | some xs =>
        rw [hc] at ho
        simp only [overC] at ho
        cases hb : Nat.beq xs.length s && Nat.ble (f.offset + s) z.length with
        | false => rw [hb] at ho; simp only [cond_false] at ho; cases l <;> simp [overs] at ho
        | true =>
          rw [hb] at ho
          simp only [cond_true] at ho
          simp only [Bool.and_eq_true] at hb
          have hl := Nat.eq_of_beq_eq_true hb.1
          have hle := Nat.le_of_ble_eq_true hb.2
          have hr := cells_rep hv hc
          have hl2 := hr.length
          have hzl := hz.length
          simp only [Array.length_toList] at hl2 hzl
          have hcond : ¬ ((a.eval p.2).cells.size ≠ s ∨ f.offset + (a.eval p.2).cells.size > cs.size) := by omega
          have hfold : ((a.eval p.2).cells.zipIdx.foldl (fun cs (q : Value × Nat) => cs.setIfInBounds (f.offset + q.2) q.1) cs).toList =
              cs.toList.take f.offset ++ (a.eval p.2).cells.toList ++ cs.toList.drop (f.offset + (a.eval p.2).cells.toList.length) := by
            rw [← Array.foldl_toList, Array.toList_zipIdx]
            have := foldl_set f.offset (a.eval p.2).cells.toList cs 0 (by simp; omega)
            simpa using this
          obtain ⟨cs', k1, k2⟩ := fill_ok hf hp r l _ ((a.eval p.2).cells.zipIdx.foldl (fun cs (q : Value × Nat) => cs.setIfInBounds (f.offset + q.2) q.1) cs) h3 (by rw [hfold]; exact over_rep hz hr f.offset) z' ho
          refine ⟨cs', ?_, k2⟩
          simp only [List.map_cons, Instr.fill, hp _ _ _ h1 hs]
          rw [if_neg (by simpa using hcond)]
          exact k1
    · simp at h

theorem places_run : ∀ (fs : List Field) (places : List (Nat × Nat)), (∀ (i : Nat) (f : Field), fs[i]? = some f → ∃ s, szOf P f.type = some s ∧ places[i]? = some (f.offset, s)) → fs.length = places.length →
    (fs.mapM fun f => (do pure (f.offset, ← sizeOf f.type) : Sem (Nat × Nat))).run P w = .ok places w
  | [], places, _, hl => by
    have : places = [] := by cases places <;> simp_all
    subst this
    simp
  | f :: r, places, h, hl => by
    cases places with
    | nil => simp at hl
    | cons p ps =>
      obtain ⟨s, h1, h2⟩ := h 0 f rfl
      simp only [List.getElem?_cons_zero, Option.some.injEq] at h2
      subst h2
      have ih := places_run r ps (fun i f hi => h (i + 1) f hi) (by simpa using hl)
      simp only [List.mapM_cons, Sem.run_bind, run_sizeOf h1, Result.andThen_ok, Sem.run_pure, ih]

theorem good_bld {d : Nat} {t : TypeId} {ps : Array (Nat × Operand)} {fs : Array Field} {z : List V} {qs : List (Nat × Nat × E)} (hi : INV γ σ w) (hf : FRep γ σ F a w lam) (hop : o.op = .build t ps) (hd : o.dst = some d)
    (hN : d < a.tmps.size) (hfs : P.underlying t = some (.struct fs)) (hsz : ∀ f ∈ fs, (szOf P f.type).isSome = true) (hz : zeroC P t = some z) (hc : compBld P fs ps.toList = some qs)
    (h : resK K ((O.bld d z qs).run F σ)) : Good P o a w γ K := by
  obtain ⟨i, zv, h1, h2, h3⟩ := vOfs_cells hz
  simp only [O.run] at h
  cases ho : overs F (some z) qs with
  | none => rw [ho] at h; exact h.elim
  | some z' =>
    rw [ho] at h
    have hpl : ∀ (i : Nat) (f : Field), fs.toList[i]? = some f → ∃ s, szOf P f.type = some s ∧ (fs.toList.map fun f => (f.offset, (szOf P f.type).getD 0))[i]? = some (f.offset, s) := by
      intro i f hi
      have hm : f ∈ fs := by
        obtain ⟨hlt, he⟩ := List.getElem?_eq_some_iff.1 hi
        rw [← Array.mem_toList_iff, ← he]
        exact List.getElem_mem hlt
      obtain ⟨s, hs⟩ := Option.isSome_iff_exists.1 (hsz f hm)
      exact ⟨s, hs, by simp only [List.getElem?_map, hi, Option.map_some, hs, Option.getD_some]⟩
    have hrun := places_run (P := P) (w := w) fs.toList _ hpl (by simp)
    obtain ⟨cs', k1, k2⟩ := fill_ok (P := P) hf (fs := fs) (places := (fs.toList.map fun f => (f.offset, (szOf P f.type).getD 0)).toArray) (fun i f s hi hs => by
      obtain ⟨s', e1, e2⟩ := hpl i f (by simpa using hi)
      rw [hs] at e1
      cases e1
      simpa using e2) ps.toList qs z zv.cells hc (vOfs_rep γ _ _ h3) z' ho
    refine good_pure (v := .agg cs') hi hf hd hN ?_ (x := .v (.agg z')) (by simp only [SRep, Rep]; exact ⟨cs'.toList, by simp, k2⟩) h
    have hm : (fs.mapM fun f => (do pure (f.offset, ← sizeOf f.type) : Sem (Nat × Nat))).run P w = .ok (fs.toList.map fun f => (f.offset, (szOf P f.type).getD 0)).toArray w := by
      rw [← Array.toArray_toList (xs := fs)]
      rw [List.mapM_toArray]
      simp only [Sem.run_map, hrun, Result.andThen_ok]
    simp only [execOp, hop, Instr.build, Sem.run_bind, run_zeroValue h1 h2, Result.andThen_ok, run_underlying hfs, hm]
    rw [show (ps.map fun p => (p.1, a.eval p.2)).toList = ps.toList.map fun p => (p.1, a.eval p.2) from by simp, k1]
    simp

/-! ### Writes -/
theorem flat_cell {x : V} {v : Value} (h : x.flat = true) (hx : Rep γ x v) : v.oneCell' = true := by
  cases x <;> simp only [V.flat, Bool.false_eq_true] at h
  case int k n => simp only [Rep] at hx; subst hx; rfl
  case bool b => simp only [Rep] at hx; subst hx; rfl
  case str s => simp only [Rep] at hx; subst hx; rfl
  case nilf => simp only [Rep] at hx; subst hx; rfl
  case sl b r s es =>
    cases b with
    | true => simp only [Rep] at hx; rw [hx.2]; rfl
    | false =>
      cases r with
      | pub => simp only [Rep] at hx; obtain ⟨_, _, _, rfl, _⟩ := hx; rfl
      | own r => simp only [Rep] at hx; obtain ⟨_, _, rfl, _⟩ := hx; rfl
      | view r => simp only [Rep] at hx; obtain ⟨_, _, rfl, _⟩ := hx; rfl
  case ptr p =>
    cases p with
    | none => simp only [Rep] at hx; rw [hx]; rfl
    | some p => simp only [Rep] at hx; obtain ⟨_, _, rfl⟩ := hx; rfl
  case elt r s es i q =>
    cases r with
    | pub => simp only [Rep] at hx; obtain ⟨_, _, rfl, _⟩ := hx; rfl
    | own r => simp only [Rep] at hx; obtain ⟨_, _, rfl, _⟩ := hx; rfl
    | view r => simp only [Rep] at hx; obtain ⟨_, rfl, _⟩ := hx; rfl
  case map p =>
    cases p with
    | none => simp only [Rep] at hx; rw [hx]; rfl
    | some p => simp only [Rep] at hx; obtain ⟨_, _, rfl⟩ := hx; rfl
  case fn f caps => simp only [Rep] at hx; obtain ⟨_, rfl, _⟩ := hx; rfl
theorem flats_cells : ∀ {xs : List V} {vs : List Value}, flats xs = true → RepL γ xs vs → ∀ v ∈ vs, v.oneCell' = true
  | [], vs, _, hr, v, hv => by simp only [RepL] at hr; subst hr; simp at hv
  | x :: xs, vs, h, hr, v, hv => by
    simp only [flats, Bool.and_eq_true] at h
    simp only [RepL] at hr
    obtain ⟨u, ws, rfl, h2, h3⟩ := hr
    rcases List.mem_cons.1 hv with rfl | hv
    · exact flat_cell h.1 h2
    · exact flats_cells h.2 h3 v hv

theorem setCell_heap {w : World} {b q : Nat} {c : Array Value} {e : TypeId} {z : Nat × Nat} (h : w.heap[b]? = some (.cells c e z)) (v : Value) :
    (w.setCell ⟨b, q, none⟩ v).heap[b]? = some (.cells (c.setIfInBounds q v) e z) := by
  simp [World.setCell, Array.getElem?_modify, h]
theorem setCell_but (w : World) (b q : Nat) (v : Value) : But (some b) w (w.setCell ⟨b, q, none⟩ v) :=
  ⟨rfl, rfl, rfl, by simp [World.setCell], fun k x hk h => by
    have : ¬ b = k := fun e => hk (by rw [e])
    simp [World.setCell, Array.getElem?_modify, this, h]⟩

/-- Cells are written one behind the other. -/
theorem run_storeCells : ∀ (vs : List Value) (w : World) (b q i : Nat) (c : Array Value) (e : TypeId) (z : Nat × Nat), w.heap[b]? = some (.cells c e z) → q + i + vs.length ≤ c.size →
    (∀ j, q + i ≤ j → j < q + i + vs.length → ¬ (z.1 ≤ j ∧ j < z.2)) → (∀ v ∈ vs, v.oneCell' = true) →
    ∃ w', (storeCells ⟨b, q, none⟩ vs i).run P w = .ok () w' ∧ But (some b) w w' ∧ ∃ c' : Array Value, w'.heap[b]? = some (.cells c' e z) ∧ c'.toList = c.toList.take (q + i) ++ vs ++ c.toList.drop (q + i + vs.length)
  | [], w, b, q, i, c, e, z, h, _, _, _ => ⟨w, by simp [storeCells], .refl _ _, c, h, by simp⟩
  | v :: vs, w, b, q, i, c, e, z, h, hs, hz, ho => by
    simp only [List.length_cons] at hs hz
    have hlt : q + i < c.size := by omega
    have hc : w.cell? ⟨b, q + i, none⟩ = some c[q + i] := by rw [cell_of_heap h, Array.getElem?_eq_getElem hlt]
    have hfz : w.frozen? ⟨b, q + i, none⟩ = false := by
      have := hz (q + i) (by omega) (by omega)
      simp only [World.frozen?, h, Bool.and_eq_false_iff, decide_eq_false_iff_not]
      omega
    obtain ⟨w', h1, h2, c', h3, h4⟩ := run_storeCells vs (w.setCell ⟨b, q + i, none⟩ v) b q (i + 1) _ e z (setCell_heap h v) (by simp; omega) (fun j h1 h2 => hz j (by omega) (by omega)) (fun x hx => ho x (List.mem_cons_of_mem _ hx))
    refine ⟨w', ?_, (setCell_but w b (q + i) v).trans h2, c', h3, ?_⟩
    · simp only [storeCells, add_none, Sem.run_bind, run_store P w _ v .plain (ho v (List.mem_cons_self ..)), hc, hfz, Bool.false_eq_true, if_false, Result.andThen_ok]
      exact h1
    · rw [h4, Array.toList_setIfInBounds]
      rw [show q + (i + 1) = q + i + 1 from by omega, List.take_succ_eq_append_getElem (by simpa using hlt), List.take_set_of_le (Nat.le_refl _), List.drop_set_of_lt (by omega)]
      simp only [List.getElem_set_self, List.append_assoc, List.cons_append, List.nil_append, List.length_cons]
      rw [show q + i + 1 + vs.length = q + i + (vs.length + 1) from by omega]

/-- A write into a block of known cells. -/
theorem run_storeVar {t : TypeId} {n : Nat} {v : Value} {b q : Nat} {vs : List Value} {e : TypeId} (hn : szOf P t = some n) (h : w.heap[b]? = some (.cells vs.toArray e (0, 0))) (hv : v.cells.toList.length = n) (hl : q + n ≤ vs.length)
    (ho : ∀ x ∈ v.cells.toList, x.oneCell' = true) :
    ∃ w', (storeVar t ⟨b, q, none⟩ v).run P w = .ok () w' ∧ But (some b) w w' ∧ w'.heap[b]? = some (.cells (vs.take q ++ v.cells.toList ++ vs.drop (q + v.cells.toList.length)).toArray e (0, 0)) := by
  obtain ⟨w', h1, h2, c', h3, h4⟩ := run_storeCells (P := P) v.cells.toList w b q 0 vs.toArray e (0, 0) h (by simp; simp at hv; omega) (fun j _ _ => by simp) ho
  refine ⟨w', ?_, h2, ?_⟩
  · have : ¬ (v.cells.size ≠ n) := by simp at hv; simp [hv]
    simp only [storeVar, Sem.run_bind, run_sizeOf hn, Result.andThen_ok, if_neg this]
    exact h1
  · rw [h3]
    congr 2
    apply Array.ext'
    simpa using h4

/-- An object's content has changed. -/
theorem setObj_ok {w' : World} (hi : INV γ σ w) (hf : FRep γ σ F a w lam) {i b : Nat} (hb : γ.mu[i]? = some b) (hbut : But (some b) w w') {ob : AObj} {sn : Nat → Nat → Option (List MapEntry × Nat)}
    (hs : ∀ (c n : Nat) x, γ.snap c n = some x → sn c n = some x) (hs2 : ∀ c n, c ≠ b → sn c n = γ.snap c n) (hs3 : ∀ (c n : Nat) x, sn c n = some x → c < w'.heap.size) (ho : ORep { γ with snap := sn } w' b ob) :
    INV { γ with snap := sn } ⟨σ.objs.set i ob, σ.live⟩ w' ∧ FRep { γ with snap := sn } ⟨σ.objs.set i ob, σ.live⟩ F a w' lam := by
  have hlt : i < σ.objs.length := by rw [← hi.mulen]; exact (List.getElem?_eq_some_iff.1 hb).1
  obtain ⟨p1, p2, p3⟩ := hi.objs i b σ.objs[i] hb (List.getElem?_eq_getElem hlt)
  have hmem := mem_of_get hb
  have hle : LeR γ { γ with snap := sn } := ⟨fun _ _ x => x, fun _ _ x => x, fun _ _ _ x => x⟩
  have hown : ∀ (r : Nat) v s es, σ.live[r]? = some true → γ.rho[r]? = some (v, s, es) → blockOf v ≠ some b := by
    intro r v s es h1 h2 h3
    obtain ⟨c, cap, rfl, _, _, _, _, h5, _⟩ := hi.own _ _ _ _ h1 h2
    simp only [blockOf, Option.some.injEq] at h3
    exact h5 (h3 ▸ hmem)
  refine ⟨⟨hbut.os.trans hi.os, hbut.tape.trans hi.tape, hbut.out.trans hi.out, ?_, ?_, by simp [hi.mulen], ?_, hi.inj, hi.rholen, ?_, hs3, hi.apart⟩, ⟨fun t => (hf.s t).mono hle, fun k cs hk => ?_, hf.inj⟩⟩
  · intro c x hx
    exact hbut.heap _ _ (fun e => by cases e; rw [p1] at hx; cases hx) (hi.phi _ _ hx)
  · intro c j v hx
    obtain ⟨x1, x2, x3, h1, h2⟩ := hi.pub _ _ _ hx
    exact ⟨x1, x2, x3, hbut.heap _ _ (fun e => by cases e; rw [p2] at hx; simp at hx) h1, h2⟩
  · intro j c x h1 h2
    by_cases hj : j = i
    · subst hj
      have h1' : γ.mu[j]? = some c := h1
      rw [hb] at h1'
      cases h1'
      rw [List.getElem?_set_self hlt] at h2
      cases h2
      exact ⟨p1, p2, ho⟩
    · have h2' : σ.objs[j]? = some x := by
        have : (σ.objs.set i ob)[j]? = some x := h2
        rwa [List.getElem?_set_ne (fun e => hj e.symm)] at this
      obtain ⟨q1, q2, q3⟩ := hi.objs j c x h1 h2'
      have hne : c ≠ b := fun e => hj (hi.inj j i b (e ▸ h1) hb)
      exact ⟨q1, q2, q3.but hbut hne hle (fun n => hs2 c n hne) hs⟩
  · intro r v s es h1 h2
    have ho' := hi.own _ _ _ _ h1 h2
    refine ho'.but hbut (hown _ _ _ _ h1 h2) hle ?_
    obtain ⟨c, cap, rfl, _, _, h3, h4, h5, _⟩ := ho'
    intro d hd
    cases hd
    exact ⟨h3, h4, h5⟩
  · have hl := hf.l k cs hk
    obtain ⟨vs, e, h1, h2⟩ := hl.cells
    exact ⟨⟨vs, e, hbut.heap _ _ (fun x => hl.mu (by cases x; exact hmem)) h1, RepL.mono hle _ _ h2⟩, hl.phi, hl.pub, hl.mu, hl.own⟩

theorem good_st {n : Nat} {t : TypeId} {x y : Operand} {ex ey : E} (hi : INV γ σ w) (hf : FRep γ σ F a w lam) (hop : o.op = .store t x y) (hd : o.dst = none)
    (hn : szOf P t = some n) (hx : compE 0 x = some ex) (hy : compE 0 y = some ey) (h : resK K ((O.st ex ey n).run F σ)) : Good P o a w γ K := by
  have hv := ev_rep hf hx
  have vy := va_rep hf hy
  simp only [O.run] at h
  cases hc : cellsOf (F.va ey) with
  | none => rw [hc] at h; exact h.elim
  | some xs =>
    rw [hc] at h
    simp only [stC] at h
    obtain ⟨⟨h1, h2⟩, h⟩ := resK_also h
    have hr := cells_rep vy hc
    have hone := flats_cells h2 hr
    have hl := hr.length
    have fin : ∀ (b q : Nat) (vs : List Value) (cs : List V) (e : TypeId), a.eval x = .pointer (some ⟨b, q, none⟩) → w.heap[b]? = some (.cells vs.toArray e (0, 0)) → RepL γ cs vs → q + xs.length ≤ cs.length →
        ∃ w', (execOp a.eval o).run P w = .ok .skip w' ∧ But (some b) w w' ∧ ∃ us, w'.heap[b]? = some (.cells (List.toArray us) e (0, 0)) ∧ RepL γ (over cs q xs) us := by
      intro b q vs cs e hx hb hcs hle
      have := hcs.length
      obtain ⟨w', k1, k2, k3⟩ := run_storeVar (P := P) (v := a.eval y) (q := q) hn hb (by omega) (by omega) hone
      exact ⟨w', by simp [execOp, hop, hx, Instr.storeAt, Instr.sureAddr, k1], k2, _, k3, over_rep hcs hr q⟩
    cases hs : F.ev ex with
    | loc k q =>
      rw [hs] at h hv
      simp only [stW] at h
      cases hlk : lget k F.l with
      | none => rw [hlk] at h; exact h.elim
      | some cs =>
        rw [hlk] at h
        simp only [stL, resK] at h
        have hloc := hf.l k cs hlk
        obtain ⟨vs, e, k1, k2⟩ := hloc.cells
        obtain ⟨w', r1, r2, us, r3, r4⟩ := fin _ q vs cs e hv k1 k2 h.1
        refine ⟨_, w', γ, σ, _, lam, undef, r1, .inr ⟨rfl, rfl⟩, .refl γ, hi.but r2 ⟨hloc.phi, hloc.pub, hloc.mu, hloc.own⟩, ?_, h.2⟩
        rw [hd]
        refine ⟨hf.s, fun j cs' hj => ?_, fun j j' c1 c2 g1 g2 he => ?_⟩
        · simp only [Fr.setL, lget_lset] at hj
          by_cases e1 : j = k
          · subst e1
            simp only [if_true, Option.some.injEq] at hj
            subst hj
            exact ⟨⟨us, e, r3, r4⟩, hloc.phi, hloc.pub, hloc.mu, hloc.own⟩
          · simp only [e1, if_false] at hj
            exact (hf.l j cs' hj).but r2 (fun e2 => e1 (hf.inj _ _ _ _ hj hlk e2))
        · simp only [Fr.setL, lget_lset] at g1 g2
          have get : ∀ j c, (if j = k then some (over cs q xs) else lget j F.l) = some c → ∃ c', lget j F.l = some c' := by
            intro j c hj
            by_cases e : j = k
            · subst e; exact ⟨cs, hlk⟩
            · simp only [e, if_false] at hj; exact ⟨c, hj⟩
          obtain ⟨c3, g3⟩ := get _ _ g1
          obtain ⟨c4, g4⟩ := get _ _ g2
          exact hf.inj _ _ _ _ g3 g4 he
    | v z =>
      rw [hs] at h hv
      simp only [stW] at h
      cases z with
      | ptr p =>
        cases p with
        | none => exact h.elim
        | some p =>
          simp only [stV] at h
          simp only [SRep, Rep] at hv
          obtain ⟨b, hb, hv⟩ := hv
          cases ho : σ.objs[p.1]? with
          | none => rw [ho] at h; exact h.elim
          | some ob =>
            rw [ho] at h
            cases ob with
            | cells cs =>
              simp only [stO, resK] at h
              obtain ⟨p1, p2, vs, e, k1, k2⟩ := hi.objs _ _ _ hb ho
              obtain ⟨w', r1, r2, us, r3, r4⟩ := fin _ p.2 vs cs e hv k1 k2 h.1
              obtain ⟨q1, q2⟩ := setObj_ok hi hf hb r2 (ob := .cells (over cs p.2 xs)) (sn := γ.snap) (fun _ _ _ x => x) (fun _ _ _ => rfl) (fun c n x hx => Nat.lt_of_lt_of_le (hi.snapb c n x hx) r2.size) ⟨us, e, r3, r4⟩
              exact ⟨_, w', _, _, F, lam, undef, r1, .inr ⟨rfl, rfl⟩, ⟨⟨fun _ _ x => x, fun _ _ x => x, fun _ _ _ x => x⟩, fun _ _ => rfl, rfl, fun _ _ _ x => x, rfl, rfl, rfl⟩, q1, by rw [hd]; exact q2, h.2⟩
            | _ => exact h.elim
      | _ => exact h.elim
end
end Go.VL

/- The V-logic, part 15: new slices; append. -/
import Derived.Test.YtefbofjonjdebaaVn
set_option linter.unusedVariables false
set_option linter.unusedSimpArgs false
namespace Go.VL
open Go

section
variable {P : Program} {γ : G} {σ : St} {F : Fr} {a : Act} {w : World} {lam : Nat → Nat} {o : Oper} {K : Fr → St → Prop}

/-- A slice in a new block. -/
theorem good_row {d s len cap : Nat} {es : List (List V)} {e : TypeId} {c : Array Value} {z : Nat × Nat} {vs : List Value} {w' : World} {b : Nat} (hi : INV γ σ w) (hf : FRep γ σ F a w lam) (hd : o.dst = some d) (hN : d < a.tmps.size)
    (hb : But none w w') (hlt : w.heap.size ≤ b) (hr : (execOp a.eval o).run P w = .ok (.value (.slice (some ⟨b, 0, none⟩) len cap)) w') (hw : w'.heap[b]? = some (.cells c e z)) (hlen : es.length = len) (hcap : len ≤ cap)
    (hvs : ∀ (i : Nat) (x : Value), vs[i]? = some x → c[i]? = some x) (hrep : RepE γ s es vs) (hc : cap * s ≤ c.size) (hz : ∀ q, q < cap * s → ¬ (z.1 ≤ q ∧ q < z.2))
    {live : List Bool} (hll : live.length = σ.live.length) (hsub : ∀ (r : Nat), live[r]? = some true → σ.live[r]? = some true)
    (h : K (F.set d (.v (.sl false (.own σ.live.length) s es))) ⟨σ.objs, live ++ [true]⟩) : Good P o a w γ K := by
  subst hlen
  have hfr := (hi.free_new hlt).mono hsub
  have hle : LeR γ { γ with rho := γ.rho ++ [(.slice (some ⟨b, 0, none⟩) es.length cap, s, es)] } := ⟨fun _ _ x => x, fun i c hi => by
    show (γ.rho ++ [_])[i]? = some c
    rw [List.getElem?_append_left (List.getElem?_eq_some_iff.1 hi).1]; exact hi, fun _ _ _ x => x⟩
  have hown : OwnAt { γ with rho := γ.rho ++ [(.slice (some ⟨b, 0, none⟩) es.length cap, s, es)] } w' (.slice (some ⟨b, 0, none⟩) es.length cap) s es :=
    ⟨⟨b, 0, none⟩, cap, rfl, rfl, hcap, hfr.phi, hfr.pub, hfr.mu, c, e, z, vs, hw, fun i x hx => by simpa using hvs i x hx, RepE.mono hle _ _ _ hrep, by simpa using hc, fun q _ hq => hz q (by simpa using hq)⟩
  obtain ⟨h1, h2⟩ := hi.right (hb.some (some b)) hll hsub hfr (v := .slice (some ⟨b, 0, none⟩) es.length cap) (s := s) (es := es) (f := true) (fun _ => ⟨rfl, hown⟩)
  refine ⟨_, w', _, _, _, lam, _, hr, .inl rfl, h2, h1, ?_, h⟩
  rw [hd]
  refine (hf.right (hb.some (some b)) (by rw [hll, hi.rholen]) hsub (fun j cs hj => by have := lam_lt hf hj; omega) (fun _ => rfl)).set ?_ hN
  simp only [SRep, Rep]
  exact ⟨⟨b, 0, none⟩, cap, rfl, rfl, hcap, by rw [← hi.rholen]; simp⟩

theorem fillS_ok (hf : FRep γ σ F a w lam) {s : Nat} : ∀ (ps : List (Nat × Operand)) (i : Nat) (qs : List E) (cs : Array Value) (vs : List Value) (pre : List Value), compLit i ps = some qs → ∀ es, lits F s qs = some es →
    cs.toList = pre ++ vs → pre.length = i * s → vs.length = ps.length * s →
      ∃ cs' us, Instr.fill (fun i => some (i * s, s)) cs (ps.map fun p => (p.1, a.eval p.2)) = some cs' ∧ cs'.toList = pre ++ us ∧ RepE γ s es us
  | [], i, qs, cs, vs, pre, h, es, ho, hcs, hp, hv => by
    simp only [compLit, Option.some.injEq] at h
    subst h
    simp only [lits, Option.some.injEq] at ho
    subst ho
    have : vs = [] := by apply List.eq_nil_of_length_eq_zero; simpa using hv
    subst this
    exact ⟨cs, [], rfl, by simpa using hcs, by simp [RepE]⟩
  | p :: r, i, qs, cs, vs, pre, h, es, ho, hcs, hp, hv => by
    simp only [compLit] at h
    split at h
    · simp at h
    · rename_i hpi
      simp only [ne_eq, Decidable.not_not] at hpi
      split at h
      · rename_i x l h2 h3
        simp only [Option.some.injEq] at h
        subst h
        simp only [lits] at ho
        split at ho
        · rename_i xs es' hc hl
          cases hb : Nat.beq xs.length s && flats xs with
          | false => rw [hb] at ho; simp at ho
          | true =>
            rw [hb] at ho
            simp only [cond_true, Option.some.injEq] at ho
            subst ho
            simp only [Bool.and_eq_true] at hb
            have hle := Nat.eq_of_beq_eq_true hb.1
            have hr := cells_rep (va_rep hf h2) hc
            have hl2 := hr.length
            simp only [Array.length_toList] at hl2
            simp only [List.length_cons, Nat.succ_mul] at hv
            have hsz : cs.size = i * s + vs.length := by rw [← Array.length_toList, hcs, List.length_append, hp]
            have hcond : ¬ ((a.eval p.2).cells.size ≠ s ∨ i * s + (a.eval p.2).cells.size > cs.size) := by omega
            have hfold : ((a.eval p.2).cells.zipIdx.foldl (fun cs (q : Value × Nat) => cs.setIfInBounds (i * s + q.2) q.1) cs).toList = (pre ++ (a.eval p.2).cells.toList) ++ vs.drop s := by
              rw [← Array.foldl_toList, Array.toList_zipIdx]
              have := foldl_set (i * s) (a.eval p.2).cells.toList cs 0 (by simp; omega)
              simp only [Nat.add_zero] at this
              rw [this, hcs, List.take_left' hp, List.drop_append, List.drop_eq_nil_of_le (by simp; omega), List.nil_append, hp]
              congr 2
              simp; omega
            obtain ⟨cs', us, k1, k2, k3⟩ := fillS_ok hf r (i + 1) l _ (vs.drop s) (pre ++ (a.eval p.2).cells.toList) h3 es' hl hfold (by simp [hp, Nat.succ_mul]; omega) (by simp; omega)
            refine ⟨cs', (a.eval p.2).cells.toList ++ us, ?_, by rw [k2, List.append_assoc], ?_⟩
            · simp only [List.map_cons, Instr.fill, hpi]
              rw [if_neg (by simpa using hcond)]
              exact k1
            · simp only [RepE]
              exact ⟨_, us, rfl, hle, hr, k3, flats_cells hb.2 hr⟩
        · simp at ho
      · simp at h

theorem compLit_length : ∀ {ps : List (Nat × Operand)} {i : Nat} {qs : List E}, compLit i ps = some qs → qs.length = ps.length
  | [], _, _, h => by simp only [compLit, Option.some.injEq] at h; subst h; rfl
  | p :: r, i, qs, h => by
    simp only [compLit] at h
    split at h
    · simp at h
    · split at h
      · rename_i x l h2 h3
        simp only [Option.some.injEq] at h
        subst h
        simp [compLit_length h3]
      · simp at h
theorem lits_length {s : Nat} : ∀ {qs : List E} {es : List (List V)}, lits F s qs = some es → es.length = qs.length
  | [], _, h => by simp only [lits, Option.some.injEq] at h; subst h; rfl
  | x :: r, es, h => by
    simp only [lits] at h
    split at h
    · rename_i xs es' h1 h2
      cases hb : Nat.beq xs.length s && flats xs with
      | false => rw [hb] at h; simp at h
      | true =>
        rw [hb] at h
        simp only [cond_true, Option.some.injEq] at h
        subst h
        simp [lits_length h2]
    · simp at h

theorem good_lit {d s len : Nat} {t et : TypeId} {ps : Array (Nat × Operand)} {z : List V} {qs : List E} (hi : INV γ σ w) (hf : FRep γ σ F a w lam) (hop : o.op = .buildSlice t len ps) (hd : o.dst = some d)
    (hN : d < a.tmps.size) (ht : P.underlying t = some (.slice et)) (hs : szOf P et = some s) (hz : zeroC P et = some z) (hc : compLit 0 ps.toList = some qs) (hlen : qs.length = len) (hbig : len * s ≤ 65536)
    (h : resK K ((O.lit d s qs).run F σ)) : Good P o a w γ K := by
  obtain ⟨i, zv, h1, h2, h3⟩ := vOfs_cells hz
  simp only [O.run] at h
  cases ho : lits F s qs with
  | none => rw [ho] at h; exact h.elim
  | some es =>
    rw [ho] at h
    simp only [litW, resK] at h
    have hps : ps.toList.length = len := by rw [← compLit_length hc, hlen]
    have hess : es.length = len := by rw [lits_length ho, hlen]
    have main : ∀ zero : Array Value, (len * s = 0 ∧ zero = #[]) ∨ (len * s ≠ 0 ∧ zero = zv.cells) → Good P o a w γ K := by
      intro zero hzero
      obtain ⟨cs', us, k1, k2, k3⟩ := fillS_ok (s := s) hf ps.toList 0 qs ((Array.range (len * s)).map (zero[· % zero.size]!)) ((Array.range (len * s)).map (zero[· % zero.size]!)).toList [] hc es ho (by simp) (by simp) (by simp [hps])
      have hr : (execOp a.eval o).run P w = .ok (.value (.slice (some ⟨w.heap.size, 0, none⟩) len len)) (pushed w (.cells cs' et)) := by
        have hbig' : ¬ (len * s > 2 ^ 24) := by omega
        simp only [execOp, hop, Instr.buildSlice, Sem.run_bind, run_underlying ht, Result.andThen_ok, run_sizeOf hs, Sem.run_ite, if_neg hbig']
        rcases hzero with ⟨e0, rfl⟩ | ⟨e0, rfl⟩
        · simp only [if_pos e0, Sem.run_pure, Result.andThen_ok]
          rw [show (ps.map fun p => (p.1, a.eval p.2)).toList = ps.toList.map fun p => (p.1, a.eval p.2) from by simp, k1]
          simp [newRow, pushed]
        · simp only [if_neg e0, run_zeroValue h1 h2, Sem.run_pure, Result.andThen_ok]
          rw [show (ps.map fun p => (p.1, a.eval p.2)).toList = ps.toList.map fun p => (p.1, a.eval p.2) from by simp, k1]
          simp [newRow, pushed]
      have hul := k3.length
      simp only [List.nil_append] at k2
      refine good_row hi hf hd hN (.push w _) (Nat.le_refl _) hr (heap_push w _) hess (Nat.le_refl _) (vs := us) ?_ k3 ?_ (fun q _ hq => by omega) rfl (fun _ x => x) h
      · intro i x hx
        rw [← k2] at hx
        simpa using hx
      · rw [← Array.length_toList, k2, hul, hess]
        exact Nat.le_refl _
    by_cases h0 : len * s = 0
    · exact main #[] (.inl ⟨h0, rfl⟩)
    · exact main zv.cells (.inr ⟨h0, rfl⟩)

theorem good_mm {d : Nat} {t : TypeId} {lv : List LK} (hi : INV γ σ w) (hf : FRep γ σ F a w lam) (hop : o.op = .makeMap t none) (hd : o.dst = some d) (hN : d < a.tmps.size)
    (h : resK K ((O.mm d lv).run F σ)) : Good P o a w γ K := by
  simp only [O.run, resK] at h
  have hb : But none w (pushed w (.map #[] 0)) := .push w _
  have hr : (execOp a.eval o).run P w = .ok (.value (.map (some w.heap.size))) (pushed w (.map #[] 0)) := by
    simp [execOp, hop, Instr.makeMap, pushed]
  have hsn : ∀ n, γ.snap w.heap.size n = none := by
    intro n
    cases hx : γ.snap w.heap.size n with
    | none => rfl
    | some x => exact absurd (hi.snapb _ _ _ hx) (by omega)
  obtain ⟨h1, h2⟩ := hi.newObj hb (Nat.le_refl _) (sn := fun c n => if c = w.heap.size ∧ n = 0 then some ([], 0) else γ.snap c n)
    (fun c n x hx => by
      have : ¬ (c = w.heap.size ∧ n = 0) := by rintro ⟨rfl, rfl⟩; rw [hsn] at hx; cases hx
      simp [this, hx]) (fun c n hc => by simp [hc]) (ob := .mp lv [] 0)
    ⟨[], 0, heap_push w _, by simp, fun n hn => by
      have : ¬ (n = 0) := by omega
      simp [this, hsn], by simp [RepM], by simp, by simp⟩
  refine ⟨_, _, _, _, _, lam, _, hr, .inl rfl, h2, h1, ?_, h⟩
  rw [hd]
  refine (FRep.newObj hf hb (Nat.le_refl _)).set ?_ hN
  simp only [SRep, Rep]
  exact ⟨w.heap.size, by rw [← hi.mulen]; simp, rfl⟩

theorem vOf1_one {s : Nat} {v : Value} {x : V} (h : vOf1 s v = some x) : v.oneCell' = true := by
  cases v <;> first | rfl | (simp [vOf1] at h)
theorem vOfs_one : ∀ {vs : List Value} {xs : List V}, vOfs vs = some xs → ∀ v ∈ vs, v.oneCell' = true
  | [], _, _, v, hv => by simp at hv
  | u :: r, xs, h, v, hv => by
    simp only [vOfs] at h
    split at h
    · rename_i x ys h1 h2
      rcases List.mem_cons.1 hv with rfl | hv
      · exact vOf1_one h1
      · exact vOfs_one h2 v hv
    · simp at h
theorem repE_zeros {z : List V} {zs : List Value} (hz : RepL γ z zs) (ho : ∀ v ∈ zs, v.oneCell' = true) (hs : 0 < z.length) : ∀ n : Nat, RepE γ z.length (List.replicate n z) ((List.range (n * z.length)).map fun i => zs.toArray[i % zs.toArray.size]!)
  | 0 => by simp [RepE]
  | n + 1 => by
    have ih := repE_zeros hz ho hs n
    rw [List.replicate_succ', Nat.succ_mul, List.range_add, List.map_append, List.map_map]
    refine ih.append ?_
    simp only [RepE]
    refine ⟨zs, [], ?_, trivial, hz, rfl, ho⟩
    have hl := hz.length
    apply List.ext_getElem?
    intro i
    by_cases hi : i < z.length
    · have e1 : (n * z.length + i) % zs.length = i := by rw [← hl, Nat.mul_comm, Nat.mul_add_mod, Nat.mod_eq_of_lt hi]
      simp [hi, e1, hl ▸ hi]
    · rw [List.getElem?_eq_none (by simpa using hi)]
      simp only [List.append_nil]
      rw [List.getElem?_eq_none (by omega)]

theorem good_ms {d : Nat} {t et : TypeId} {l c : Operand} {el ec : E} {i : TypeInfo} {z : List V} (hi : INV γ σ w) (hf : FRep γ σ F a w lam) (hop : o.op = .makeSlice t l c) (hd : o.dst = some d)
    (hN : d < a.tmps.size) (ht : P.underlying t = some (.slice et)) (hti : P.info? et = some i) (hz : zeroC P et = some z) (hbytes : i.bytes ≤ 65536) (hsz : i.size = z.length) (hpos : 0 < i.size)
    (hl : compE 0 l = some el) (hc : compE 0 c = some ec) (h : resK K ((O.ms d z el ec).run F σ)) : Good P o a w γ K := by
  have vl := va_rep hf hl
  have vc := va_rep hf hc
  obtain ⟨i', zv, h1, h2, h3⟩ := vOfs_cells hz
  rw [hti] at h1
  cases h1
  simp only [O.run] at h
  cases hsx : F.va el <;> rw [hsx] at h vl <;> (try exact h.elim)
  cases hsy : F.va ec <;> rw [hsy] at h vc <;> (try exact h.elim)
  rename_i k n k' m
  simp only [msW, resK] at h
  obtain ⟨⟨g1, g2, g3⟩, h⟩ := h
  simp only [Rep] at vl vc
  have w1 : IntKind.i64.wrap n = n := by rw [IntKind.wrap_i64]; omega
  have w2 : IntKind.i64.wrap m = m := by rw [IntKind.wrap_i64]; omega
  have hzr := vOfs_rep γ _ _ h3
  have hzl := hzr.length
  simp only [Array.length_toList] at hzl
  have hr : (execOp a.eval o).run P w = .ok (.value (.slice (some ⟨w.heap.size, 0, none⟩) n.toNat m.toNat)) (pushed w (.cells ((Array.range (m.toNat * i.size)).map (zv.cells[· % zv.cells.size]!)) et)) := by
    have t0 : (i.bytes : Int) * m ≤ 65536 * 1073741824 := Int.mul_le_mul (by omega) (by omega) (by omega) (by omega)
    have t1 : (decide (m < 0) || decide ((i.bytes : Int) * m > 2 ^ 48) || decide (n < 0) || decide (n > m)) = false := by
      simp only [Bool.or_eq_false_iff, decide_eq_false_iff_not]
      omega
    have t2 : szOf P et = some i.size := by simp [szOf, hti]
    simp only [execOp, hop, Instr.makeSlice, Sem.run_bind, run_underlying ht, Result.andThen_ok, vl, vc, asInt, asIntOf, Sem.run_pure, run_typeInfo hti, w1, w2, t1, Bool.false_eq_true, if_false, run_askRoom, run_sizeOf t2]
    by_cases h0 : m.toNat * i.size = 0
    · have e0 : ∀ f g : Nat → Value, (Array.range 0).map f = (Array.range 0).map g := fun f g => by apply Array.ext'; simp
      simp only [h0, if_true, Sem.run_pure, Result.andThen_ok, newRow, Sem.run_bind, run_newObj, pushed]
      rw [e0 _ (fun x => zv.cells[x % zv.cells.size]!)]
    · simp [h0, newRow, pushed, run_zeroValue hti h2]
  refine good_row hi hf hd hN (.push w _) (Nat.le_refl _) hr (heap_push w _) (s := z.length) (es := List.replicate n.toNat z) (by simp) (by omega) (vs := (List.range (n.toNat * z.length)).map fun i => zv.cells.toList.toArray[i % zv.cells.toList.toArray.size]!)
    ?_ (repE_zeros hzr (vOfs_one h3) (by omega) _) ?_ (fun q _ hq => by omega) rfl (fun _ x => x) h
  · intro j x hx
    have hj : j < n.toNat * z.length := by have := (List.getElem?_eq_some_iff.1 hx).1; simpa using this
    have hj2 : j < m.toNat * i.size := Nat.lt_of_lt_of_le hj (by rw [hsz]; exact Nat.mul_le_mul_right _ (by omega))
    simp only [List.getElem?_map, List.getElem?_range hj, Option.map_some, Option.some.injEq] at hx
    rw [← hx]
    simp [hj2]
  · simp [hsz]

theorem bytesV_rep (s : List UInt8) : RepE γ 1 (bytesV s) (s.map fun b => Value.int .u8 b.toNat) := by
  induction s with
  | nil => simp [bytesV, RepE]
  | cons b t ih =>
    simp only [bytesV, List.map_cons, RepE, RepL, Rep]
    exact ⟨[.int .u8 b.toNat], _, rfl, rfl, ⟨_, [], rfl, rfl, rfl⟩, ih, by simp [Value.oneCell']⟩

theorem good_cB {d : Nat} {s t et : TypeId} {x : Operand} {ex : E} (hi : INV γ σ w) (hf : FRep γ σ F a w lam) (hop : o.op = .convert s t x) (hd : o.dst = some d) (hN : d < a.tmps.size)
    (hs : P.underlying s = some .string) (ht : P.underlying t = some (.slice et)) (he : P.underlying et = some (.int .u8)) (hx : compE 0 x = some ex) (h : resK K ((O.cB d ex).run F σ)) : Good P o a w γ K := by
  have vx := va_rep hf hx
  simp only [O.run] at h
  cases hsx : F.va ex <;> rw [hsx] at h vx <;> (try exact h.elim)
  rename_i m
  simp only [cBW, resK] at h
  simp only [Rep] at vx
  have hrun := Lib.run_convert_string_bytes (P := P) w s t et ⟨m.toArray⟩ hs ht he
  have hsz : (⟨m.toArray⟩ : ByteArray).size = m.length := by simp [ByteArray.size]
  have hcap : m.length ≤ grownCap w m.length 0 et := by simp only [grownCap, Question.cut]; omega
  rw [hsz] at hrun
  have hcs : (Lib.bytesCells w et ⟨m.toArray⟩).size = grownCap w m.length 0 et := by
    simp only [Lib.bytesCells, hsz, Array.size_append, Array.size_map, List.size_toArray, Array.size_replicate]
    omega
  have hold : ∀ (k : Nat) (x : Obj), w.heap[k]? = some x → (Lib.bytesWorld w et ⟨m.toArray⟩).heap[k]? = some x := fun k x hx => by
    rw [Lib.bytesWorld_at_old _ _ _ _ (lt_of_heap hx)]; exact hx
  have hb : But none w (Lib.bytesWorld w et ⟨m.toArray⟩) := ⟨by simp [Lib.bytesWorld, World.freeze]; rfl, by simp [Lib.bytesWorld, World.freeze], by simp [Lib.bytesWorld, World.freeze]; rfl, by rw [Lib.bytesWorld_size]; omega, fun k x _ hx => hold k x hx⟩
  refine good_row hi hf hd hN hb (Nat.le_refl _) (len := m.length) (cap := grownCap w m.length 0 et) (by simp [execOp, hop, vx, hrun]) (Lib.bytesWorld_at_new w et ⟨m.toArray⟩) (by simp [bytesV]) hcap
    (vs := m.map fun b => Value.int .u8 b.toNat) ?_ (bytesV_rep m) (by rw [hcs]; omega) (fun q hq => by rw [hcs]; omega) rfl (fun _ x => x) h
  intro i x hx
  have hi' : i < m.length := by have := (List.getElem?_eq_some_iff.1 hx).1; simpa using this
  simp only [Lib.bytesCells]
  rw [Array.getElem?_append_left (by simpa using hi')]
  simpa using hx
end
end Go.VL

/- The V-logic, part 16c: operations on maps. -/
import Derived.Test.YtefbofjonjdebaaVma
set_option linter.unusedVariables false
set_option linter.unusedSimpArgs false
namespace Go.VL
open Go

theorem RepM.get {γ : G} {lv : List LK} : ∀ {es : List (V × V)} {ents : List MapEntry}, RepM γ lv es ents → ∀ {i : Nat} {p : V × V}, es[i]? = some p → ∃ e, ents[i]? = some e ∧ keyFits lv p.1 = true ∧ Rep γ p.1 e.key ∧ Rep γ p.2 e.val
  | [], _, h, i, p, hp => by simp at hp
  | q :: r, ents, h, i, p, hp => by
    obtain ⟨e, t, rfl, h1, h2, h3, h4⟩ := h
    cases i with
    | zero => simp only [List.getElem?_cons_zero, Option.some.injEq] at hp; subst hp; exact ⟨e, rfl, h1, h2, h3⟩
    | succ i => simp only [List.getElem?_cons_succ] at hp ⊢; exact RepM.get h4 hp
theorem RepM.length {γ : G} {lv : List LK} : ∀ {es : List (V × V)} {ents : List MapEntry}, RepM γ lv es ents → es.length = ents.length
  | [], _, h => by simp only [RepM] at h; subst h; rfl
  | _ :: r, _, h => by
    obtain ⟨e, t, rfl, _, _, _, h4⟩ := h
    simp [RepM.length h4]
theorem RepM.set {γ : G} {lv : List LK} {k v : V} {kv vv : Value} (hk : keyFits lv k = true) (hr : Rep γ k kv) (hv : Rep γ v vv) : ∀ {es : List (V × V)} {ents : List MapEntry}, RepM γ lv es ents → ∀ (i : Nat) {e : MapEntry}, ents[i]? = some e →
    RepM γ lv (es.set i (k, v)) (ents.set i { e with key := kv, val := vv })
  | [], _, h, i, e, he => by simp only [RepM] at h; subst h; simp at he
  | q :: r, _, h, i, e, he => by
    obtain ⟨e', t, rfl, h1, h2, h3, h4⟩ := h
    cases i with
    | zero => exact ⟨_, t, rfl, hk, hr, hv, h4⟩
    | succ i => simp only [List.getElem?_cons_succ] at he; exact ⟨e', _, rfl, h1, h2, h3, RepM.set hk hr hv h4 i he⟩
theorem RepM.push {γ : G} {lv : List LK} {k v : V} {e : MapEntry} (hk : keyFits lv k = true) (hr : Rep γ k e.key) (hv : Rep γ v e.val) : ∀ {es : List (V × V)} {ents : List MapEntry}, RepM γ lv es ents → RepM γ lv (es ++ [(k, v)]) (ents ++ [e])
  | [], _, h => by simp only [RepM] at h; subst h; exact ⟨e, [], rfl, hk, hr, hv, rfl⟩
  | q :: r, _, h => by
    obtain ⟨e', t, rfl, h1, h2, h3, h4⟩ := h
    exact ⟨e', _, rfl, h1, h2, h3, RepM.push hk hr hv h4⟩
theorem RepM.erase {γ : G} {lv : List LK} : ∀ {es : List (V × V)} {ents : List MapEntry}, RepM γ lv es ents → ∀ i, RepM γ lv (es.eraseIdx i) (ents.eraseIdx i)
  | [], _, h, i => by simp only [RepM] at h; subst h; simp [RepM]
  | q :: r, _, h, i => by
    obtain ⟨e', t, rfl, h1, h2, h3, h4⟩ := h
    cases i with
    | zero => simpa using h4
    | succ i => exact ⟨e', _, rfl, h1, h2, h3, RepM.erase h4 i⟩

section
variable {P : Program} {γ : G} {σ : St} {F : Fr} {a : Act} {w : World} {lam : Nat → Nat} {o : Oper} {K : Fr → St → Prop}

theorem run_getMap {b : Nat} {es : Array MapEntry} {c : Nat} (h : w.heap[b]? = some (.map es c)) : (getObj b).run P w = .ok (.map es c) w := by
  simp [getObj, Sem.run, h]

theorem good_lk {d : Nat} {t kt e : TypeId} {x y : Operand} {em ek : E} {lv : List LK} {ok : Bool} {z : V} (hi : INV γ σ w) (hf : FRep γ σ F a w lam) (hop : o.op = .lookup t x y ok) (hd : o.dst = some d) (hN : d < a.tmps.size)
    (ht : P.underlying t = some (.map kt e)) (hl : leavesK P kt = some lv) (hx : compE 0 x = some em) (hy : compE 0 y = some ek) (hz : ((P.info? e).bind (·.zero)).bind (vOf 0) = some z)
    (h : resK K ((O.lk d lv em ek ok z).run F σ)) : Good P o a w γ K := by
  have vx := va_rep hf hx
  have vy := va_rep hf hy
  simp only [O.run] at h
  obtain ⟨zv, hz1, hz2⟩ : ∃ zv, (∃ i, P.info? e = some i ∧ i.zero = some zv) ∧ Rep γ z zv := by
    cases hi0 : P.info? e with
    | none => rw [hi0] at hz; simp at hz
    | some i =>
      rw [hi0] at hz
      simp only [Option.bind_some] at hz
      cases hz0 : i.zero with
      | none => rw [hz0] at hz; simp at hz
      | some zv =>
        rw [hz0] at hz
        exact ⟨zv, ⟨i, rfl, hz0⟩, vOf_rep γ 0 zv z hz⟩
  obtain ⟨i, hz1, hz3⟩ := hz1
  have hzr := run_zeroValue (P := P) (w := w) hz1 hz3
  have key : ∀ (es : List (V × V)) (ents : List MapEntry) (em : Bool), RepM γ lv es ents → keyFits lv (F.va ek) = true → resK K (lkR d F σ ok z (find (F.va ek) es)) →
      ∃ r u v, (Instr.checkKey em 10000 kt (a.eval y)).run P w = .ok () w ∧ (Instr.findKey kt (a.eval y) ents).run P w = .ok r w ∧ Rep γ u v ∧ K (F.set d (.v u)) σ ∧
        (r = none ∧ v = (if ok = true then .tuple #[zv, .bool false] else zv) ∨ ∃ n x, r = some (n, x) ∧ v = (if ok = true then .tuple #[x, .bool true] else x)) := by
    intro es ents em hm hk hK
    obtain ⟨r, h1, h2⟩ := run_find (w := w) hl hk vy hm
    have hc := run_check (w := w) hl hk vy em
    rw [findI_find _ es 0] at hK
    cases hfi : findI (F.va ek) es 0 with
    | none =>
      rw [hfi] at h2 hK
      simp only [FoundAt] at h2
      subst h2
      cases ok with
      | true =>
        refine ⟨none, .tup [z, .bool false], .tuple #[zv, .bool false], hc, h1, ?_, hK, .inl ⟨rfl, rfl⟩⟩
        simp only [Rep, RepL]
        exact ⟨[zv, .bool false], rfl, _, _, rfl, hz2, _, _, rfl, rfl, rfl⟩
      | false => exact ⟨none, z, zv, hc, h1, hz2, hK, .inl ⟨rfl, rfl⟩⟩
    | some q =>
      rw [hfi] at h2 hK
      obtain ⟨en, g1, _, rfl⟩ := h2
      have hv : Rep γ q.2 en.val := by
        have := findI_get (k := F.va ek) es 0 hfi
        obtain ⟨k', hk'⟩ := this
        obtain ⟨en', q1, _, _, q2⟩ := hm.get hk'
        rw [g1] at q1
        cases q1
        exact q2
      cases ok with
      | true =>
        refine ⟨some (q.1, en.val), .tup [q.2, .bool true], .tuple #[en.val, .bool true], hc, h1, ?_, hK, .inr ⟨_, _, rfl, rfl⟩⟩
        simp only [Rep, RepL]
        exact ⟨[en.val, .bool true], rfl, _, _, rfl, hv, _, _, rfl, rfl, rfl⟩
      | false => exact ⟨some (q.1, en.val), q.2, en.val, hc, h1, hv, hK, .inr ⟨_, _, rfl, rfl⟩⟩
  have done_ : ∀ {v : Value} {u : V}, (Instr.lookup t (a.eval x) (a.eval y) ok).run P w = .ok v w → Rep γ u v → K (F.set d (.v u)) σ → Good P o a w γ K := by
    intro v u hr hu hK
    exact good_pure hi hf hd hN (by simp [execOp, hop, hr]) (x := .v u) hu hK
  cases hsx : F.va em <;> rw [hsx] at h vx <;> (try exact h.elim)
  rename_i p
  cases p with
  | none =>
    simp only [lkW] at h
    obtain ⟨hk, hK⟩ := resK_also h
    simp only [Rep] at vx
    obtain ⟨r, u, v, h1, h2, h3, h4, h5⟩ := key [] [] true rfl hk hK
    refine done_ ?_ h3 h4
    rcases h5 with ⟨rfl, rfl⟩ | ⟨n, x, rfl, rfl⟩ <;> simp [Instr.lookup, run_underlying ht, vx, h1, h2, hzr]
  | some i =>
    simp only [Rep] at vx
    obtain ⟨b, hb, vx⟩ := vx
    simp only [lkW] at h
    cases ho : σ.objs[i]? with
    | none => rw [ho] at h; exact h.elim
    | some ob =>
      rw [ho] at h
      cases ob with
      | mp lv' es ver =>
        simp only [lkO] at h
        obtain ⟨⟨rfl, hk⟩, hK⟩ := resK_also h
        obtain ⟨_, _, ents, clock, g1, _, _, g4, _⟩ := hi.objs _ _ _ hb ho
        obtain ⟨r, u, v, h1, h2, h3, h4, h5⟩ := key es ents ents.toArray.isEmpty g4 hk hK
        refine done_ ?_ h3 h4
        simp only [List.isEmpty_toArray] at h1
        rcases h5 with ⟨rfl, rfl⟩ | ⟨n, x, rfl, rfl⟩ <;> simp [Instr.lookup, run_underlying ht, vx, run_getMap g1, h1, h2, hzr]
      | _ => exact h.elim

theorem setMap_heap {b : Nat} {es es' : Array MapEntry} {c c' : Nat} (h : w.heap[b]? = some (.map es c)) : ∃ w', (setObj b (.map es' c')).run P w = .ok () w' ∧ But (some b) w w' ∧ w'.heap[b]? = some (.map es' c') := by
  have hlt := lt_of_heap h
  refine ⟨{ w with heap := w.heap.setIfInBounds b (.map es' c') }, by simp [setObj, Sem.run, h], ⟨rfl, rfl, rfl, by simp, fun k o hk hx => ?_⟩, by simp [hlt]⟩
  have : b ≠ k := fun e => hk (by rw [e])
  show (w.heap.setIfInBounds b _)[k]? = some o
  rw [Array.getElem?_setIfInBounds, if_neg this]
  exact hx

/-- A map has another content. -/
theorem good_map {i b ver : Nat} {lv : List LK} {es' : List (V × V)} {ents' : List MapEntry} {clock' : Nat} {r : Next} {v0 : Value} {w' : World} (hi : INV γ σ w) (hf : FRep γ σ F a w lam) (hb : γ.mu[i]? = some b)
    (hver : ∀ n, ver < n → γ.snap b n = none) (hrun : (execOp a.eval o).run P w = .ok r w') (hr : r = .value v0 ∨ (r = .skip ∧ v0 = undef)) (hd : o.dst = none) (hbut : But (some b) w w')
    (hh : w'.heap[b]? = some (.map ents'.toArray clock')) (hm : RepM γ lv es' ents') (hnd : (ents'.map (·.born)).Nodup) (hlt : ∀ e ∈ ents', e.born < clock') (h : K F (σ.setM i lv es' (ver + 1))) : Good P o a w γ K := by
  have hblt := lt_of_heap hh
  have hn : ∀ c n, γ.snap c n ≠ none → ¬ (c = b ∧ n = ver + 1) := by
    rintro c n hc ⟨rfl, rfl⟩
    exact hc (hver _ (Nat.lt_succ_self _))
  obtain ⟨sn, hsn⟩ : ∃ sn : Nat → Nat → Option (List MapEntry × Nat), sn = fun c n => if c = b ∧ n = ver + 1 then some (ents', clock') else γ.snap c n := ⟨_, rfl⟩
  have hold : ∀ (c n : Nat) x, γ.snap c n = some x → sn c n = some x := by
    intro c n x hx
    rw [hsn]
    simp only
    rw [if_neg (hn c n (by rw [hx]; simp))]
    exact hx
  have hle : LeR γ { γ with snap := sn } := ⟨fun _ _ x => x, fun _ _ x => x, fun _ _ _ x => x⟩
  obtain ⟨q1, q2⟩ := setObj_ok hi hf hb hbut (ob := .mp lv es' (ver + 1)) (sn := sn) hold (fun c n hc => by rw [hsn]; simp only; rw [if_neg (fun h => hc h.1)])
    (fun c n x hx => by
      rw [hsn] at hx
      simp only at hx
      by_cases e : c = b ∧ n = ver + 1
      · rw [e.1]; exact hblt
      · rw [if_neg e] at hx
        exact Nat.lt_of_lt_of_le (hi.snapb c n x hx) hbut.size)
    ⟨ents', clock', hh, by rw [hsn]; simp, fun n hn => by
      have : ¬ n = ver + 1 := by omega
      show sn b n = none
      rw [hsn]
      simp only [true_and, if_neg this]
      exact hver n (by omega), RepM.mono hle lv es' ents' hm, hnd, hlt⟩
  exact ⟨r, w', { γ with snap := sn }, σ.setM i lv es' (ver + 1), F, lam, v0, hrun, hr, ⟨hle, fun _ _ => rfl, rfl, hold, rfl, rfl, rfl⟩, q1, by rw [hd]; exact q2, h⟩

theorem good_mu {t kt e : TypeId} {x y z : Operand} {em ek ev : E} {lv : List LK} (hi : INV γ σ w) (hf : FRep γ σ F a w lam) (hop : o.op = .mapUpdate t x y z) (hd : o.dst = none)
    (ht : P.underlying t = some (.map kt e)) (hl : leavesK P kt = some lv) (hx : compE 0 x = some em) (hy : compE 0 y = some ek) (hz : compE 0 z = some ev)
    (h : resK K ((O.mu lv em ek ev).run F σ)) : Good P o a w γ K := by
  have vx := va_rep hf hx
  have vy := va_rep hf hy
  have vz := va_rep hf hz
  simp only [O.run] at h
  cases hsx : F.va em <;> rw [hsx] at h vx <;> (try exact h.elim)
  rename_i p
  cases p with
  | none => exact h.elim
  | some i =>
    simp only [Rep] at vx
    obtain ⟨b, hb, vx⟩ := vx
    simp only [muW] at h
    cases ho : σ.objs[i]? with
    | none => rw [ho] at h; exact h.elim
    | some ob =>
      rw [ho] at h
      cases ob with
      | mp lv' es ver =>
        simp only [muO] at h
        obtain ⟨⟨rfl, hk⟩, hK⟩ := resK_also h
        simp only [resK] at hK
        obtain ⟨_, _, ents, clock, g1, g2, g3, g4, g5, g6⟩ := hi.objs _ _ _ hb ho
        obtain ⟨r, h1, h2⟩ := run_find (w := w) hl hk vy g4
        have hc := run_check (w := w) hl hk vy false
        rw [upd_findI] at hK
        cases hfi : findI (F.va ek) es 0 with
        | none =>
          rw [hfi] at h2 hK
          simp only [FoundAt] at h2
          subst h2
          obtain ⟨w', r1, r2, r3⟩ := setMap_heap (P := P) (es' := (ents ++ [({ key := a.eval y, val := a.eval z, born := clock } : MapEntry)]).toArray) (c' := clock + 1) g1
          refine good_map (r := .skip) (v0 := undef) (clock' := clock + 1) (ents' := ents ++ [{ key := a.eval y, val := a.eval z, born := clock }]) hi hf hb g3 ?_ (.inr ⟨rfl, rfl⟩) hd r2 r3 (RepM.push hk vy vz g4) ?_ ?_ hK
          · simp [execOp, hop, Instr.mapUpdate, run_underlying ht, vx, run_getMap g1, hc, h1, r1]
          · rw [List.map_append, List.nodup_append]
            refine ⟨g5, by simp, ?_⟩
            intro m hm n hn
            simp only [List.map_cons, List.map_nil, List.mem_singleton] at hn
            subst hn
            obtain ⟨e', he', rfl⟩ := List.mem_map.1 hm
            have := g6 e' he'
            simp only [ne_eq]; omega
          · intro e' he'
            rcases List.mem_append.1 he' with he' | he'
            · have := g6 e' he'; omega
            · simp only [List.mem_singleton] at he'; subst he'; simp
        | some q =>
          rw [hfi] at h2 hK
          obtain ⟨en, k1, _, rfl⟩ := h2
          rw [Nat.sub_zero] at k1
          obtain ⟨k', hk'⟩ := findI_get (k := F.va ek) es 0 hfi
          rw [Nat.sub_zero] at hk'
          obtain ⟨en', q1, q3, q4, q5⟩ := g4.get hk'
          rw [k1] at q1
          cases q1
          have heq : V.eq (F.va ek) k' = true := findI_eq es 0 hfi hk'
          have hsame : en.key = a.eval y := (keys_same hl hk q3 vy q4 heq).symm
          have hbits : Instr.sameBits 10000 en.key (a.eval y) = true := by rw [hsame]; exact key_bits hl hk vy
          have hstay := run_keyStays (P := P) (w := w) hbits
          obtain ⟨w', r1, r2, r3⟩ := setMap_heap (P := P) (es' := (ents.modify q.1 fun e => { e with key := a.eval y, val := a.eval z }).toArray) (c' := clock) g1
          have hmod : ents.modify q.1 (fun e => { e with key := a.eval y, val := a.eval z }) = ents.set q.1 { en with key := a.eval y, val := a.eval z } := by
            apply List.ext_getElem?
            intro j
            rw [List.getElem?_modify, List.getElem?_set]
            by_cases e : q.1 = j
            · subst e
              obtain ⟨hlt, hget⟩ := List.getElem?_eq_some_iff.1 k1
              simp [hlt, hget]
            · simp [e]
          refine good_map (r := .skip) (v0 := undef) (clock' := clock) (ents' := ents.set q.1 { en with key := a.eval y, val := a.eval z }) hi hf hb g3 ?_ (.inr ⟨rfl, rfl⟩) hd r2 (by rw [r3, hmod]) (RepM.set hk vy vz g4 q.1 k1) ?_ ?_ hK
          · simp [execOp, hop, Instr.mapUpdate, run_underlying ht, vx, run_getMap g1, hc, h1, k1, hstay, r1]
          · have : (ents.set q.1 { en with key := a.eval y, val := a.eval z }).map (·.born) = ents.map (·.born) := by
              apply List.ext_getElem?
              intro j
              rw [List.getElem?_map, List.getElem?_map, List.getElem?_set]
              by_cases e : q.1 = j
              · subst e
                obtain ⟨hlt, hget⟩ := List.getElem?_eq_some_iff.1 k1
                simp [hlt, hget]
              · simp [e]
            rw [this]; exact g5
          · intro e' he'
            rcases List.mem_or_eq_of_mem_set he' with he' | rfl
            · exact g6 e' he'
            · exact g6 en (List.mem_of_getElem? k1)
      | _ => exact h.elim

theorem good_de {t kt e : TypeId} {c : Call} {x y : Operand} {em ek : E} {lv : List LK} (hi : INV γ σ w) (hf : FRep γ σ F a w lam) (hop : o.op = .call c) (hcal : c.callee = .builtin .delete) (hargs : c.args.toList = [x, y]) (hd : o.dst = none)
    (hty : c.argTypes[0]? = some t) (ht : P.underlying t = some (.map kt e)) (hl : leavesK P kt = some lv) (hx : compE 0 x = some em) (hy : compE 0 y = some ek)
    (h : resK K ((O.de lv em ek).run F σ)) : Good P o a w γ K := by
  have vx := va_rep hf hx
  have vy := va_rep hf hy
  simp only [O.run] at h
  have hargs' : c.args = #[x, y] := by apply Array.ext'; simpa using hargs
  cases hsx : F.va em <;> rw [hsx] at h vx <;> (try exact h.elim)
  rename_i p
  cases p with
  | none =>
    simp only [deW] at h
    obtain ⟨hk, hK⟩ := resK_also h
    simp only [resK] at hK
    simp only [Rep] at vx
    have hc := run_check (w := w) hl hk vy true
    refine ⟨.value (.tuple #[]), w, γ, σ, F, lam, .tuple #[], ?_, .inl rfl, .refl γ, hi, by rw [hd]; exact hf, hK⟩
    simp [execOp, hop, resolve, invoke, builtin, hcal, hargs', Builtin.delete_, hty, run_underlying ht, vx, hc]
  | some i =>
    simp only [Rep] at vx
    obtain ⟨b, hb, vx⟩ := vx
    simp only [deW] at h
    cases ho : σ.objs[i]? with
    | none => rw [ho] at h; exact h.elim
    | some ob =>
      rw [ho] at h
      cases ob with
      | mp lv' es ver =>
        simp only [deO] at h
        obtain ⟨⟨rfl, hk⟩, hK⟩ := resK_also h
        simp only [resK] at hK
        obtain ⟨_, _, ents, clock, g1, g2, g3, g4, g5, g6⟩ := hi.objs _ _ _ hb ho
        obtain ⟨r, h1, h2⟩ := run_find (w := w) hl hk vy g4
        have hc := run_check (w := w) hl hk vy ents.isEmpty
        rw [del_findI] at hK
        cases hfi : findI (F.va ek) es 0 with
        | none =>
          rw [hfi] at h2 hK
          simp only [FoundAt] at h2
          subst h2
          obtain ⟨w', r1, r2, r3⟩ := setMap_heap (P := P) (es' := ents.toArray) (c' := clock) g1
          refine good_map (r := .value (.tuple #[])) (v0 := .tuple #[]) (clock' := clock) (ents' := ents) hi hf hb g3 ?_ (.inl rfl) hd r2 r3 g4 g5 g6 hK
          simp [execOp, hop, resolve, invoke, builtin, hcal, hargs', Builtin.delete_, hty, run_underlying ht, vx, run_getMap g1, hc, h1, r1]
        | some q =>
          rw [hfi] at h2 hK
          obtain ⟨en, k1, _, rfl⟩ := h2
          obtain ⟨w', r1, r2, r3⟩ := setMap_heap (P := P) (es' := (ents.eraseIdx q.1).toArray) (c' := clock) g1
          refine good_map (r := .value (.tuple #[])) (v0 := .tuple #[]) (clock' := clock) (ents' := ents.eraseIdx q.1) hi hf hb g3 ?_ (.inl rfl) hd r2 r3 (RepM.erase g4 q.1) ?_ ?_ hK
          · simp [execOp, hop, resolve, invoke, builtin, hcal, hargs', Builtin.delete_, hty, run_underlying ht, vx, run_getMap g1, hc, h1, r1]
          · exact ((List.eraseIdx_sublist _ _).map _).nodup g5
          · exact fun e' he' => g6 e' ((List.eraseIdx_sublist _ _).subset he')
      | _ => exact h.elim
end
end Go.VL

/- The V-logic, part 12: parts of slices and texts; texts out of bytes. -/
import Derived.Test.YtefbofjonjdebaaVk
set_option linter.unusedVariables false
set_option linter.unusedSimpArgs false
namespace Go.VL
open Go

section
variable {P : Program} {γ : G} {σ : St} {F : Fr} {a : Act} {w : World} {lam : Nat → Nat} {o : Oper} {K : Fr → St → Prop}

theorem RepE.drop {s : Nat} : ∀ {n : Nat} {es : List (List V)} {vs : List Value}, RepE γ s es vs → RepE γ s (es.drop n) (vs.drop (n * s))
  | 0, _, _, h => by simpa using h
  | n + 1, [], vs, h => by simp only [RepE] at h; subst h; simp [RepE]
  | n + 1, c :: es, vs, h => by
    simp only [RepE] at h
    obtain ⟨ws, us, rfl, h2, h3, h4, h5⟩ := h
    have hl : ws.length = s := by rw [← h3.length, h2]
    simp only [List.drop_succ_cons]
    have e1 : ws.drop ((n + 1) * s) = [] := List.drop_eq_nil_of_le (by rw [hl, Nat.succ_mul]; omega)
    rw [List.drop_append, e1, List.nil_append, hl, show (n + 1) * s - s = n * s from by rw [Nat.succ_mul]; omega]
    exact RepE.drop h4
theorem RepE.take {s : Nat} : ∀ {n : Nat} {es : List (List V)} {vs : List Value}, RepE γ s es vs → RepE γ s (es.take n) (vs.take (n * s))
  | 0, _, _, _ => by simp [RepE]
  | n + 1, [], vs, h => by simp only [RepE] at h; subst h; simp [RepE]
  | n + 1, c :: es, vs, h => by
    simp only [RepE] at h
    obtain ⟨ws, us, rfl, h2, h3, h4, h5⟩ := h
    have hl : ws.length = s := by rw [← h3.length, h2]
    simp only [List.take_succ_cons, RepE]
    refine ⟨ws, us.take (n * s), ?_, h2, h3, RepE.take h4, h5⟩
    have e1 : ws.take ((n + 1) * s) = ws := List.take_of_length_le (by rw [hl, Nat.succ_mul]; omega)
    rw [List.take_append, e1, hl, show (n + 1) * s - s = n * s from by rw [Nat.succ_mul]; omega]
theorem RepE.append {s : Nat} : ∀ {es ds : List (List V)} {vs us : List Value}, RepE γ s es vs → RepE γ s ds us → RepE γ s (es ++ ds) (vs ++ us)
  | [], _, vs, _, h, k => by simp only [RepE] at h; subst h; simpa using k
  | c :: es, _, vs, _, h, k => by
    simp only [RepE] at h
    obtain ⟨ws, us, rfl, h2, h3, h4, h5⟩ := h
    simp only [List.cons_append, RepE]
    exact ⟨ws, _, by rw [List.append_assoc], h2, h3, RepE.append h4 k, h5⟩
theorem RepE.flat {s : Nat} : ∀ {es : List (List V)} {vs : List Value}, RepE γ s es vs → RepL γ es.flatten vs ∧ ∀ c ∈ es, c.length = s
  | [], vs, h => by simp only [RepE] at h; subst h; simp [RepL]
  | c :: es, vs, h => by
    simp only [RepE] at h
    obtain ⟨ws, us, rfl, h2, h3, h4, h5⟩ := h
    obtain ⟨k1, k2⟩ := RepE.flat h4
    simp only [List.flatten_cons]
    exact ⟨h3.append k1, fun x hx => by
      rcases List.mem_cons.1 hx with rfl | hx
      · exact h2
      · exact k2 x hx⟩
theorem RepE.one {s : Nat} : ∀ {es : List (List V)} {vs : List Value}, RepE γ s es vs → ∀ v ∈ vs, v.oneCell' = true
  | [], vs, h => by simp only [RepE] at h; subst h; simp
  | c :: es, vs, h => by
    simp only [RepE] at h
    obtain ⟨ws, us, rfl, h2, h3, h4, h5⟩ := h
    intro v hv
    rcases List.mem_append.1 hv with hv | hv
    · exact h5 v hv
    · exact RepE.one h4 v hv
theorem pubAt.drop {b q : Nat} {vs : List Value} (h : pubAt γ b q vs) (n : Nat) : pubAt γ b (q + n) (vs.drop n) := by
  intro i v hv
  rw [List.getElem?_drop] at hv
  rw [show q + n + i = q + (n + i) from by omega]
  exact h _ _ hv
theorem pubAt.take {b q : Nat} {vs : List Value} (h : pubAt γ b q vs) (n : Nat) : pubAt γ b q (vs.take n) := by
  intro i v hv
  rw [List.getElem?_take] at hv
  split at hv
  · exact h _ _ hv
  · simp at hv

/-- A bound of a slice expression. -/
theorem run_bound {v : Value} {x : V} (hx : Rep γ x v) {p : Prop} {n m : Nat} {c : BoundsCode} (h : bndN m (some x) = some (p, n)) (hp : p) {y : Nat} (hy : n ≤ y) : (Instr.sliceBound v y c).run P w = .ok n w := by
  cases x <;> simp only [bndN, reduceCtorEq, Option.some.injEq, Prod.mk.injEq] at h
  rename_i k i
  simp only [Rep] at hx
  subst hx
  obtain ⟨rfl, rfl⟩ := h
  have h1 : 0 ≤ i ∧ i ≤ (y : Int) := ⟨hp, by omega⟩
  simp [Instr.sliceBound, asIntOf, h1]

theorem vaO_rep (h : FRep γ σ F a w lam) {x : Option Operand} {e : Option E} (hc : compEO 0 x = some e) :
    (x = none ∧ F.vaO e = none) ∨ ∃ y z, x = some y ∧ F.vaO e = some z ∧ Rep γ z (a.eval y) := by
  cases x with
  | none =>
    simp only [compEO, Option.some.injEq] at hc
    subst hc
    exact .inl ⟨rfl, rfl⟩
  | some y =>
    simp only [compEO, Option.map_eq_some_iff] at hc
    obtain ⟨e', h1, rfl⟩ := hc
    exact .inr ⟨y, F.va e', rfl, rfl, va_rep h h1⟩

theorem run_bounds (hf : FRep γ σ F a w lam) {lo hi : Option Operand} {el eh : Option E} (hl : compEO 0 lo = some el) (hh : compEO 0 hi = some eh) {isS : Bool} {len cap : Nat} (hlc : len ≤ cap)
    {p q : Prop} {l m : Nat} (h1 : bnd0 (F.vaO el) = some (p, l)) (h2 : bndN len (F.vaO eh) = some (q, m)) (hp : p) (hq : q) (hlm : l ≤ m) (hml : m ≤ len) :
    (Instr.sliceBounds isS len cap (lo.map a.eval) (hi.map a.eval) none).run P w = .ok (l, m, cap) w := by
  rcases vaO_rep hf hl with ⟨rfl, e1⟩ | ⟨y, z, rfl, e1, r1⟩ <;> rcases vaO_rep hf hh with ⟨rfl, e2⟩ | ⟨y2, z2, rfl, e2, r2⟩
  · rw [e1] at h1; rw [e2] at h2
    simp only [bnd0, bndN, Option.some.injEq, Prod.mk.injEq] at h1 h2
    simp [Instr.sliceBounds, ← h1.2, ← h2.2]
  · rw [e1] at h1; rw [e2] at h2
    simp only [bnd0, Option.some.injEq, Prod.mk.injEq] at h1
    cases isS <;> simp [Instr.sliceBounds, ← h1.2, run_bound (P := P) (w := w) r2 h2 hq (show m ≤ cap by omega)]
  · rw [e1] at h1; rw [e2] at h2
    simp only [bndN, Option.some.injEq, Prod.mk.injEq] at h2
    simp only [bnd0] at h1
    simp [Instr.sliceBounds, h2.2, run_bound (P := P) (w := w) r1 h1 hp hlm]
  · rw [e1] at h1; rw [e2] at h2
    simp only [bnd0] at h1
    cases isS <;> simp [Instr.sliceBounds, run_bound (P := P) (w := w) r2 h2 hq (show m ≤ cap by omega), run_bound (P := P) (w := w) r1 h1 hp hlm]

theorem good_ss {d : Nat} {t : TypeId} {x : Operand} {lo hi : Option Operand} {ex : E} {el eh : Option E} (hi' : INV γ σ w) (hf : FRep γ σ F a w lam) (hop : o.op = .slice t x lo hi none) (hd : o.dst = some d) (hN : d < a.tmps.size)
    (ht : P.underlying t = some .string) (hx : compE 0 x = some ex) (hl : compEO 0 lo = some el) (hh : compEO 0 hi = some eh) (h : resK K ((O.ss d ex el eh).run F σ)) : Good P o a w γ K := by
  have vx := va_rep hf hx
  simp only [O.run] at h
  cases hsx : F.va ex <;> rw [hsx] at h vx <;> (try exact h.elim)
  rename_i s
  simp only [ssW, ssB] at h
  simp only [Rep] at vx
  cases h1 : bnd0 (F.vaO el) with
  | none => rw [h1] at h; exact h.elim
  | some p =>
    cases h2 : bndN s.length (F.vaO eh) with
    | none => rw [h1, h2] at h; exact h.elim
    | some q =>
      rw [h1, h2] at h
      simp only [resK] at h
      obtain ⟨⟨k1, k2, k3, k4⟩, h⟩ := h
      have hsz : (⟨s.toArray⟩ : ByteArray).size = s.length := by simp [ByteArray.size]
      have hb := run_bounds (P := P) (w := w) (isS := false) hf hl hh (Nat.le_refl s.length) h1 h2 k1 k2 k3 k4
      have hex : (⟨s.toArray⟩ : ByteArray).extract p.2 q.2 = ⟨((s.take q.2).drop p.2).toArray⟩ := by
        apply ByteArray.ext
        rw [ByteArray.data_extract]
        apply Array.ext'
        simp only [Array.toList_extract, List.extract_eq_take_drop, List.drop_take]
      refine good_pure (v := .string ⟨((s.take q.2).drop p.2).toArray⟩) hi' hf hd hN ?_ (x := .v (.str ((s.take q.2).drop p.2))) (by simp [SRep, Rep]) h
      simp only [execOp, hop, Instr.sliceAt, Instr.slice, Sem.run_bind, run_underlying ht, Result.andThen_ok, vx, hsz, Option.map_none, Option.isSome_none, Bool.false_eq_true, if_false, hb, hex, Sem.run_pure]

theorem good_sl {d n : Nat} {t et : TypeId} {x : Operand} {lo hi : Option Operand} {ex : E} {el eh : Option E} (hi' : INV γ σ w) (hf : FRep γ σ F a w lam) (hop : o.op = .slice t x lo hi none) (hd : o.dst = some d) (hN : d < a.tmps.size)
    (ht : P.underlying t = some (.slice et)) (hn : szOf P et = some n) (hx : compE 0 x = some ex) (hl : compEO 0 lo = some el) (hh : compEO 0 hi = some eh) (h : resK K ((O.sl d n ex el eh).run F σ)) : Good P o a w γ K := by
  have vx := va_rep hf hx
  simp only [O.run] at h
  cases hsx : F.va ex <;> rw [hsx] at h vx <;> (try exact h.elim)
  rename_i b r s es
  simp only [slW, slB] at h
  cases h1 : bnd0 (F.vaO el) with
  | none => rw [h1] at h; exact h.elim
  | some p =>
    cases h2 : bndN es.length (F.vaO eh) with
    | none => rw [h1, h2] at h; exact h.elim
    | some q =>
      rw [h1, h2] at h
      simp only [resK] at h
      obtain ⟨⟨k0, k1, k2, k3, k4⟩, h⟩ := h
      have hlen : ((es.take q.2).drop p.2).length = q.2 - p.2 := by simp; omega
      have run : ∀ (z : Option Addr) cap, a.eval x = .slice z es.length cap → es.length ≤ cap →
          (execOp a.eval o).run P w = .ok (.value (.slice (if cap = p.2 then z else z.map (·.add (p.2 * n))) (q.2 - p.2) (cap - p.2))) w := by
        intro z cap hz hc
        have hb := run_bounds (P := P) (w := w) (isS := true) hf hl hh hc h1 h2 k1 k2 k3 k4
        simp only [execOp, hop, Instr.sliceAt, Instr.slice, Sem.run_bind, run_underlying ht, Result.andThen_ok, hz, Option.map_none, hb, run_sizeOf hn, Sem.run_pure]
      cases b with
      | true =>
        simp only [Rep] at vx
        obtain ⟨rfl, vx⟩ := vx
        simp only [List.length_nil, Nat.le_zero_eq] at k4
        have hp0 : p.2 = 0 := by omega
        refine good_pure hi' hf hd hN (run none 0 (by rw [vx]; rfl) (by simp)) (x := .v (.sl true r.toView s (([] : List (List V)).take q.2 |>.drop p.2))) ?_ h
        simp [SRep, Rep, k4, hp0]
      | false =>
        have hsn : s = n := by rcases k0 with k0 | k0; exact absurd k0 (by simp); exact k0
        subst hsn
        have view : ∀ (c : Addr) cap, a.eval x = .slice (some c) es.length cap → c.spot = none → es.length ≤ cap → ∃ c' : Addr, (execOp a.eval o).run P w = .ok (.value (.slice (some c') ((es.take q.2).drop p.2).length (cap - p.2))) w ∧ c'.spot = none ∧
            ((es.take q.2).drop p.2 = [] ∨ (c'.block = c.block ∧ c'.off = c.off + p.2 * s)) := by
          intro c cap e1 e2 e3
          by_cases hc : cap = p.2
          · refine ⟨c, ?_, e2, .inl ?_⟩
            · rw [run _ _ e1 e3, hlen]; simp [hc]
            · apply List.eq_nil_of_length_eq_zero; omega
          · refine ⟨⟨c.block, c.off + p.2 * s, none⟩, ?_, rfl, .inr ⟨rfl, rfl⟩⟩
            rw [run _ _ e1 e3, hlen]; simp [hc, add_spot e2]
        cases r with
        | pub =>
          simp only [Rep] at vx
          obtain ⟨c, cap, vs, e1, e2, e3, e4, e5⟩ := vx
          by_cases hes : es = []
          · subst hes
            have hp0 : p.2 = 0 := by simp at k4; omega
            have hq0 : q.2 = 0 := by simp at k4; omega
            have hr := run _ _ e1 e3
            refine good_pure hi' hf hd hN hr (x := .v (.sl false .pub s ((([] : List (List V)).take q.2).drop p.2))) ?_ h
            simp only [SRep, Rep]
            refine ⟨c, cap - p.2, [], ?_, .inl (by simp), by simp, fun i v hv => by simp at hv, by simp [RepE]⟩
            simp [hp0, hq0, Addr.add]
          have e2 : c.spot = none := e2.resolve_left hes
          obtain ⟨c', hr, hsp, hc'⟩ := view c cap e1 e2 e3
          refine good_pure hi' hf hd hN hr (x := .v (.sl false .pub s ((es.take q.2).drop p.2))) ?_ h
          simp only [SRep, Rep]
          rcases hc' with hc' | ⟨hb, ho⟩
          · exact ⟨c', _, [], rfl, .inr hsp, by omega, fun i v hv => by simp at hv, by rw [hc']; simp [RepE]⟩
          · exact ⟨c', _, _, rfl, .inr hsp, by omega, by rw [hb, ho]; exact (e4.take (q.2 * s)).drop (p.2 * s), (e5.take).drop⟩
        | own r =>
          simp only [Rep] at vx
          obtain ⟨c, cap, e1, e2, e3, e4⟩ := vx
          obtain ⟨c', hr, hsp, hc'⟩ := view c cap e1 e2 e3
          refine good_pure hi' hf hd hN hr (x := .v (.sl false (.view r) s ((es.take q.2).drop p.2))) ?_ h
          simp only [SRep, Rep]
          refine ⟨c', _, rfl, hsp, by omega, hc'.imp id fun ⟨hb, ho⟩ => ?_⟩
          refine ⟨c, es.length, cap, es, p.2, by rw [← e1]; exact e4, by omega, ?_, hb, ho, hsp⟩
          rw [hlen, List.drop_take]
        | view r =>
          simp only [Rep] at vx
          obtain ⟨c, cap, e1, e2, e3, e4⟩ := vx
          obtain ⟨c', hr, hsp, hc'⟩ := view c cap e1 e2 e3
          refine good_pure hi' hf hd hN hr (x := .v (.sl false (.view r) s ((es.take q.2).drop p.2))) ?_ h
          simp only [SRep, Rep]
          refine ⟨c', _, rfl, hsp, by omega, ?_⟩
          rcases hc' with hc' | ⟨hb, ho⟩
          · exact .inl hc'
          · rcases e4 with e4 | ⟨a0, n0, cap0, es0, lo0, f1, f2, f3, f4, f5, f6⟩
            · left; rw [e4]; simp
            · right
              refine ⟨a0, n0, cap0, es0, lo0 + p.2, f1, by omega, ?_, by rw [hb, f4], by rw [ho, f5, Nat.add_mul]; omega, hsp⟩
              rw [hlen]
              conv => lhs; rw [f3]
              rw [List.take_take, List.drop_take, List.drop_drop]
              congr 1
              omega

theorem bytes_cells {s : List UInt8} : ∀ {vs : List Value}, RepE γ 1 (bytesV s) vs → vs = (s.map fun b => (b.toNat : Int)).map (Value.int .u8) := by
  induction s with
  | nil => intro vs h; simpa [bytesV, RepE] using h
  | cons b t ih =>
    intro vs h
    simp only [bytesV, List.map_cons, RepE] at h
    obtain ⟨ws, us, rfl, _, h3, h4, _⟩ := h
    simp only [RepL, Rep] at h3
    obtain ⟨v, ws', rfl, rfl, rfl⟩ := h3
    rw [ih h4]
    rfl
theorem foldl_bytes (s : List UInt8) : ∀ r : ByteArray, (s.map fun b => (b.toNat : Int)).foldl (fun r n => r.push (UInt8.ofNat n.toNat)) r = ⟨(r.data.toList ++ s).toArray⟩ := by
  induction s with
  | nil => intro r; simp
  | cons b t ih =>
    intro r
    simp only [List.map_cons, List.foldl_cons]
    rw [ih]
    congr 1
    apply Array.ext'
    simp

/-- All elements of a slice lie in a row. -/
theorem sl_cells (hi : INV γ σ w) {r : R} {s : Nat} {es : List (List V)} {v : Value} (hv : Rep γ (.sl false r s es) v) (hrd : rd σ.live r) :
    ∃ (c : Addr) (cap : Nat) (vs : List Value), v = .slice (some c) es.length cap ∧ (es = [] ∨ c.spot = none) ∧ es.length ≤ cap ∧ cellsAt w c.block c.off vs ∧ RepE γ s es vs := by
  cases r with
  | pub =>
    simp only [Rep] at hv
    obtain ⟨c, cap, vs, e1, e2, e3, e4, e5⟩ := hv
    refine ⟨c, cap, vs, e1, e2, e3, ?_, e5⟩
    intro i x hx
    obtain ⟨_, _, _, k1, k2⟩ := hi.pub _ _ _ (e4 _ _ hx)
    rw [cell_of_heap k1, k2]
  | own r =>
    simp only [Rep] at hv
    obtain ⟨c, cap, e1, e2, e3, e4⟩ := hv
    obtain ⟨c1, cap1, f1, _, _, _, _, _, c2, _, _, vs, k1, k2, k3, _⟩ := hi.own r _ _ _ hrd e4
    rw [e1] at f1
    cases f1
    refine ⟨c, cap, vs, e1, .inr e2, e3, ?_, k3⟩
    intro i x hx
    rw [cell_of_heap k1]
    exact k2 _ _ hx
  | view r =>
    simp only [Rep] at hv
    obtain ⟨c, cap, e1, e2, e3, e4⟩ := hv
    rcases e4 with e4 | ⟨a0, n0, cap0, es0, lo0, f1, f2, f3, f4, f5, f6⟩
    · exact ⟨c, cap, [], e1, .inr e2, e3, fun i x hx => by simp at hx, by rw [e4]; simp [RepE]⟩
    · obtain ⟨c1, cap1, g1, _, _, _, _, _, c2, _, _, vs, k1, k2, k3, _⟩ := hi.own r _ _ _ hrd f1
      cases g1
      refine ⟨c, cap, (vs.drop (lo0 * s)).take (es.length * s), e1, .inr e2, e3, ?_, ?_⟩
      · intro i x hx
        rw [List.getElem?_take] at hx
        split at hx
        · rw [List.getElem?_drop] at hx
          rw [f4, cell_of_heap k1, f5, ← k2 _ _ hx]
          congr 1
          omega
        · simp at hx
      · have := (k3.drop (n := lo0)).take (n := es.length)
        rw [← f3] at this
        exact this

theorem good_cS {d : Nat} {s t et : TypeId} {x : Operand} {ex : E} (hi : INV γ σ w) (hf : FRep γ σ F a w lam) (hop : o.op = .convert s t x) (hd : o.dst = some d) (hN : d < a.tmps.size)
    (t1 : P.underlying s = some (.slice et)) (t2 : P.underlying et = some (.int .u8)) (ht : P.underlying t = some .string) (hx : compE 0 x = some ex)
    (h : resK K ((O.cS d ex).run F σ)) : Good P o a w γ K := by
  have vx := va_rep hf hx
  simp only [O.run] at h
  cases hsx : F.va ex <;> rw [hsx] at h vx <;> (try exact h.elim)
  · rename_i m
    simp only [cSW, resK] at h
    simp only [Rep] at vx
    refine good_pure (v := .string ⟨m.toArray⟩) hi hf hd hN ?_ (x := .v (.str m)) (by simp [SRep, Rep]) h
    simp [execOp, hop, vx, convert, run_underlying t1, run_underlying ht]
  · rename_i b r n es
    simp only [cSW, resK] at h
    obtain ⟨⟨h1, h2⟩, h⟩ := h
    generalize hm : es.map byteOfC = m at h h2
    cases b with
    | true =>
      simp only [Rep] at vx
      obtain ⟨rfl, vx⟩ := vx
      simp only [List.map_nil] at hm
      subst hm
      refine good_pure (v := .string .empty) hi hf hd hN ?_ (x := .v (.str [])) (by simp only [SRep, Rep]; rfl) h
      simp [execOp, hop, vx, run_convert_bytes_string w s t et none 0 0 t1 t2 ht, Conv.bytesToString]
    | false =>
      have h1' : rd σ.live r ∧ n = 1 := by rcases h1 with h1 | h1; exact absurd h1 (by simp); exact h1
      obtain ⟨hrd, rfl⟩ := h1'
      obtain ⟨c, cap, vs, e1, e2, e3, e4, e5⟩ := sl_cells hi vx hrd
      have hlen : es.length = vs.length := by rw [e5.length]; omega
      have hvs : vs = (m.map fun b => (b.toNat : Int)).map (Value.int .u8) := bytes_cells (by rw [← h2]; exact e5)
      refine good_pure (v := .string ⟨m.toArray⟩) hi hf hd hN ?_ (x := .v (.str m)) (by simp [SRep, Rep]) h
      have hl : (loadCells c es.length).run P w = .ok ((m.map fun b => (b.toNat : Int)).map (Value.int .u8)).toArray w := by
        rcases e2 with e2 | e2
        · have hv0 : vs = [] := by apply List.eq_nil_of_length_eq_zero; rw [e5.length, e2]; simp
          rw [← hvs, hv0, e2]
          simp [loadCells, loadCellsFrom]
        obtain ⟨cb, co, cs⟩ := c
        simp only at e2
        subst e2
        rw [run_loadCells e4 (by omega), List.take_of_length_le (by omega), hvs]
      have := run_bytesToString w c es.length cap _ hl
      rw [foldl_bytes, show ByteArray.empty.data.toList = [] from rfl, List.nil_append] at this
      simp [execOp, hop, e1, run_convert_bytes_string w s t et (some c) es.length cap t1 t2 ht, this]

theorem good_cT {d : Nat} {s t : TypeId} {x : Operand} {ex : E} (hi : INV γ σ w) (hf : FRep γ σ F a w lam) (hop : o.op = .convert s t x) (hd : o.dst = some d) (hN : d < a.tmps.size)
    (hs : P.underlying s = some .string) (ht : P.underlying t = some .string) (hx : compE 0 x = some ex) (h : resK K ((O.cT d ex).run F σ)) : Good P o a w γ K := by
  have vx := va_rep hf hx
  simp only [O.run] at h
  cases hsx : F.va ex <;> rw [hsx] at h vx <;> (try exact h.elim)
  rename_i m
  simp only [cTW, resK] at h
  simp only [Rep] at vx
  exact good_pure (v := .string ⟨m.toArray⟩) hi hf hd hN (by simp [execOp, hop, vx, convert, run_underlying hs, run_underlying ht]) (x := .v (.str m)) (by simp [SRep, Rep]) h
end
end Go.VL

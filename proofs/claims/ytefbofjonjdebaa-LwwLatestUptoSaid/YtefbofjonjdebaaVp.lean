/- The V-logic, part 16: append. -/
import Derived.Test.YtefbofjonjdebaaVo
set_option linter.unusedVariables false
set_option linter.unusedSimpArgs false
namespace Go.VL
open Go

theorem growBy_le (need : Nat) : ∀ (rounds c : Nat), c ≤ 2 * need + 192 → Builtin.growBy need rounds c ≤ 2 * need + 192
  | 0, c, h => by simpa [Builtin.growBy] using h
  | r + 1, c, h => by
    simp only [Builtin.growBy]
    split
    · exact h
    · exact growBy_le need r _ (by omega)
theorem nextcap_le (need cap : Nat) (h : cap < need) : Builtin.nextslicecap need cap ≤ 2 * need + 192 := by
  unfold Builtin.nextslicecap
  split
  · omega
  · split
    · omega
    · exact growBy_le need 4 cap (by omega)

section
variable {P : Program} {γ : G} {σ : St} {F : Fr} {a : Act} {w : World} {lam : Nat → Nat} {o : Oper} {K : Fr → St → Prop}

/-- What a second operand brings, in memory. -/
theorem apE_ok (hi : INV γ σ w) {x : V} {v : Value} (hx : Rep γ x v) {s : Nat} {p : Prop × List (List V)} (h : apE σ.live s x = some p) (hp : p.1) :
    (Builtin.lenOf v).run P w = .ok p.2.length w ∧ ∃ xs : List Value, (Builtin.firstCells s p.2.length v).run P w = .ok xs.toArray w ∧ RepE γ s p.2 xs := by
  cases x <;> simp only [apE, reduceCtorEq, Option.some.injEq] at h
  case str l =>
    subst h
    simp only at hp
    subst hp
    simp only [Rep] at hx
    subst hx
    have hsz : (⟨l.toArray⟩ : ByteArray).size = l.length := by simp [ByteArray.size]
    refine ⟨by simp [Builtin.lenOf, hsz, bytesV], l.map fun b => Value.int .u8 b.toNat, ?_, bytesV_rep l⟩
    simp only [Builtin.firstCells, Sem.run_pure]
    congr 1
    apply Array.ext'
    simp [ByteArray.data_extract, bytesV]
  case sl b r s' es =>
    subst h
    obtain ⟨h1, h2⟩ := hp
    cases b with
    | true =>
      simp only [Rep] at hx
      obtain ⟨rfl, rfl⟩ := hx
      exact ⟨by simp [Builtin.lenOf], [], by simp [Builtin.firstCells], by simp [RepE]⟩
    | false =>
      have hrd : rd σ.live r := by rcases h1 with h1 | h1; exact absurd h1 (by simp); exact h1
      obtain ⟨c, cap, vs, rfl, e2, e3, e4, e5⟩ := sl_cells hi hx hrd
      refine ⟨by simp [Builtin.lenOf], vs, ?_, ?_⟩
      · rcases e2 with e2 | e2
        · have : vs = [] := by apply List.eq_nil_of_length_eq_zero; rw [e5.length, e2]; simp
          subst this
          simp [e2, Builtin.firstCells, loadCells, loadCellsFrom]
        obtain ⟨cb, co, cs⟩ := c
        simp only at e2
        subst e2
        simp only [Builtin.firstCells]
        rcases h2 with rfl | h2
        · rw [run_loadCells e4 (by rw [e5.length]; exact Nat.le_refl _), List.take_of_length_le (by rw [e5.length]; exact Nat.le_refl _)]
        · have : vs = [] := by apply List.eq_nil_of_length_eq_zero; rw [e5.length, h2]; simp
          subst this
          simp [h2, loadCells, loadCellsFrom]
      · rcases h2 with rfl | h2
        · exact e5
        · have : vs = [] := by apply List.eq_nil_of_length_eq_zero; rw [e5.length, h2]; simp
          subst this
          simp [h2, RepE]

theorem zeroCells_size (z : Array Value) (n : Nat) : (Builtin.zeroCells z n).size = n * z.size := by simp [Builtin.zeroCells]

/-- The shape of append's run, where there is room, and where a new block is made. -/
theorem run_append_room {c : Call} {t t2 : TypeId} {T2 : TypeDesc} {et : TypeId} {i : TypeInfo} {x y : Operand} (hcal : c.callee = .builtin .append) (hargs : c.args = #[x, y]) (hop : o.op = .call c)
    (h0 : c.argTypes[0]? = some t) (ht : P.underlying t = some (.slice et)) (h1 : c.argTypes[1]? = some t2) (ht2 : P.underlying t2 = some T2) (hT2 : isSS T2 = true) (hi : P.info? et = some i)
    {base : Option Addr} {len cap n : Nat} (hx : a.eval x = .slice base len cap) (hl : (Builtin.lenOf (a.eval y)).run P w = .ok n w) {xs : List Value} (hxs : (Builtin.firstCells i.size n (a.eval y)).run P w = .ok xs.toArray w)
    (hroom : len + n ≤ cap) {w' : World} (hst : ∀ a', base = some a' → (storeCells (a'.add (len * i.size)) xs).run P w = .ok () w') (hnone : base = none → w' = w) :
    (execOp a.eval o).run P w = .ok (.value (.slice base (len + n) cap)) w' := by
  have hsz : szOf P et = some i.size := by simp [szOf, hi]
  cases base with
  | none =>
    have := hnone rfl
    subst this
    cases T2 <;> simp only [isSS, Bool.false_eq_true] at hT2 <;>
      simp [execOp, hop, resolve, hcal, invoke, builtin, hargs, Builtin.append_, h0, h1, run_underlying ht, run_underlying ht2, run_sizeOf hsz, hx, hl, hxs, hroom]
  | some a' =>
    cases T2 <;> simp only [isSS, Bool.false_eq_true] at hT2 <;>
      simp [execOp, hop, resolve, hcal, invoke, builtin, hargs, Builtin.append_, h0, h1, run_underlying ht, run_underlying ht2, run_sizeOf hsz, hx, hl, hxs, hroom, hst a' rfl]

theorem run_append_grow {c : Call} {t t2 : TypeId} {T2 : TypeDesc} {et : TypeId} {i : TypeInfo} {zv : Value} {x y : Operand} (hcal : c.callee = .builtin .append) (hargs : c.args = #[x, y]) (hop : o.op = .call c)
    (h0 : c.argTypes[0]? = some t) (ht : P.underlying t = some (.slice et)) (h1 : c.argTypes[1]? = some t2) (ht2 : P.underlying t2 = some T2) (hT2 : isSS T2 = true) (hi : P.info? et = some i) (hzv : i.zero = some zv)
    (hbytes : i.bytes ≤ 65536)
    {base : Option Addr} {len cap n : Nat} (hx : a.eval x = .slice base len cap) (hl : (Builtin.lenOf (a.eval y)).run P w = .ok n w) {xs os : List Value}
    (hxs : (Builtin.firstCells i.size n (a.eval y)).run P w.drew = .ok xs.toArray w.drew) (hos : (Builtin.firstCells i.size len (.slice base len cap)).run P w.drew = .ok os.toArray w.drew)
    (hroom : ¬ len + n ≤ cap) (hbig : len + n ≤ 1073741824) :
    ∃ nc, len + n ≤ nc ∧ (execOp a.eval o).run P w = .ok (.value (.slice (some ⟨w.heap.size, 0, none⟩) (len + n) nc)) (pushed w.drew (.cells (os.toArray ++ (xs.toArray ++ Builtin.zeroCells zv.cells (nc - (len + n)))) et)) := by
  have hsz : szOf P et = some i.size := by simp [szOf, hi]
  refine ⟨(Question.appendCap (len + n) cap et).cut (w.tape w.drawn (.appendCap (len + n) cap et)), by simp only [Question.cut]; omega, ?_⟩
  have hn := nextcap_le (len + n) cap (by omega)
  have hb : ¬ (Builtin.nextslicecap (len + n) cap * i.bytes > 2 ^ 48) := by
    have : Builtin.nextslicecap (len + n) cap * i.bytes ≤ 4294967296 * 65536 := Nat.mul_le_mul (by omega) hbytes
    omega
  have hq : (Question.appendCap (len + n) cap et).forced = false := rfl
  cases T2 <;> simp only [isSS, Bool.false_eq_true] at hT2 <;>
    simp [execOp, hop, resolve, hcal, invoke, builtin, hargs, Builtin.append_, h0, h1, run_underlying ht, run_underlying ht2, run_sizeOf hsz, hx, hl, hroom, run_typeInfo hi]
  all_goals
    have hm : ¬ (9223372036854775807 < (len : Int) + (n : Int) ∧ i.bytes = 0) := by omega
    have hb' : ¬ (281474976710656 < Builtin.nextslicecap (len + n) cap * i.bytes) := by omega
    rw [if_neg hm, if_neg hb', hq]
    simp [hos, hxs, run_zeroValue hi hzv, newRow]
    rfl

theorem But.drew (w : World) : But none w w.drew := ⟨rfl, rfl, rfl, Nat.le_refl _, fun _ _ _ h => h⟩

theorem kill_sub {live : List Bool} {r : R} {q : Nat} (h : (kill live r)[q]? = some true) : live[q]? = some true := by
  cases r with
  | own r =>
    simp only [kill] at h
    by_cases e : r = q
    · subst e
      rw [List.getElem?_set, if_pos rfl] at h
      split at h <;> simp at h
    · rwa [List.getElem?_set_ne e] at h
  | pub => exact h
  | view r => exact h
theorem kill_length {live : List Bool} {r : R} : (kill live r).length = live.length := by cases r <;> simp [kill]
theorem kill_own {live : List Bool} {r q : Nat} (h : (kill live (.own r))[q]? = some true) : q ≠ r := by
  intro e
  subst e
  simp only [kill] at h
  rw [List.getElem?_set, if_pos rfl] at h
  split at h <;> simp at h

theorem good_ap {d : Nat} {c : Call} {t t2 : TypeId} {T2 : TypeDesc} {et : TypeId} {i : TypeInfo} {zv : Value} {x y : Operand} {ex ey : E} (hi : INV γ σ w) (hf : FRep γ σ F a w lam) (hcal : c.callee = .builtin .append)
    (hargs : c.args.toList = [x, y]) (hop : o.op = .call c) (hd : o.dst = some d) (hN : d < a.tmps.size)
    (h0 : c.argTypes[0]? = some t) (ht : P.underlying t = some (.slice et)) (h1 : c.argTypes[1]? = some t2) (ht2 : P.underlying t2 = some T2) (hT2 : isSS T2 = true) (hti : P.info? et = some i) (hzv : i.zero = some zv)
    (hbytes : i.bytes ≤ 65536) (hzs : zv.cells.size = i.size) (hx : compE 0 x = some ex) (hy : compE 0 y = some ey) (h : resK K ((O.ap d i.size ex ey).run F σ)) : Good P o a w γ K := by
  have vx := va_rep hf hx
  have vy := va_rep hf hy
  have ha : c.args = #[x, y] := by rw [← Array.toArray_toList (xs := c.args), hargs]
  simp only [O.run] at h
  cases hsx : F.va ex <;> rw [hsx] at h vx <;> (try exact h.elim)
  rename_i b r s' es
  simp only [apW] at h
  obtain ⟨hs', h⟩ := resK_also h
  cases hp : apE σ.live i.size (F.va ey) with
  | none => rw [hp] at h; exact h.elim
  | some p =>
    rw [hp] at h
    simp only [apR, resK] at h
    obtain ⟨⟨g1, g2, g3⟩, hK⟩ := h
    obtain ⟨hl, xs, hxs, hrep⟩ := apE_ok (P := P) hi vy hp g2
    obtain ⟨_, xs2, hxs2, hrep2⟩ := apE_ok (P := P) (hi.step (But.drew w)) vy hp g2
    have hxl := hrep.length
    have hsub : ∀ q : Nat, (kill σ.live r)[q]? = some true → σ.live[q]? = some true := fun q hq => kill_sub hq
    have hgrow : ∀ (base : Option Addr) (cap : Nat) (os : List Value), a.eval x = .slice base es.length cap → (Builtin.firstCells i.size es.length (.slice base es.length cap)).run P w.drew = .ok os.toArray w.drew → RepE γ i.size es os →
        ¬ es.length + p.2.length ≤ cap → (b && p.2.isEmpty) = false → Good P o a w γ K := by
      intro base cap os hxe hos hro hroom hbp
      obtain ⟨nc, hnc, hr⟩ := run_append_grow hcal ha hop h0 ht h1 ht2 hT2 hti hzv hbytes hxe hl hxs2 hos hroom g3
      have hul := hro.length
      have hxl2 := hrep2.length
      have hb : But none w (pushed w.drew (.cells (os.toArray ++ (xs2.toArray ++ Builtin.zeroCells zv.cells (nc - (es.length + p.2.length)))) et)) := (But.drew w).trans (.push w.drew _)
      rw [hbp] at hK
      refine good_row hi hf hd hN hb (Nat.le_refl w.heap.size) hr (heap_push w.drew _) (s := i.size) (es := es ++ p.2) (by simp) hnc (vs := os ++ xs2) ?_ (hro.append hrep2) ?_ (fun q _ hq => by omega) kill_length hsub hK
      · intro j v hv
        rw [← Array.append_assoc, Array.getElem?_append_left (by have := (List.getElem?_eq_some_iff.1 hv).1; simpa using this)]
        simpa using hv
      · simp only [Array.size_append, List.size_toArray, zeroCells_size, hzs, hul, hxl2]
        have : nc * i.size = es.length * i.size + (p.2.length * i.size + (nc - (es.length + p.2.length)) * i.size) := by
          rw [← Nat.add_mul, ← Nat.add_mul]
          congr 1
          omega
        omega
    cases b with
    | true =>
      simp only [Rep] at vx
      obtain ⟨rfl, vx⟩ := vx
      by_cases hpe : p.2 = []
      · have hr := run_append_room (P := P) (w := w) (w' := w) (base := none) (len := 0) (cap := 0) hcal ha hop h0 ht h1 ht2 hT2 hti vx hl hxs (by simp [hpe]) (fun a' e => by cases e) (fun _ => rfl)
        have hfr := (hi.free_new (Nat.le_refl w.heap.size)).mono hsub
        obtain ⟨k1, k2⟩ := hi.right (.refl (some w.heap.size) w) (kill_length (r := r)) hsub hfr (v := .nilFunc) (s := 0) (es := []) (f := false) (fun e => by cases e)
        simp only [hpe, List.isEmpty_nil, Bool.and_self, Bool.not_true] at hK
        refine ⟨_, w, _, _, _, lam, _, hr, .inl rfl, k2, k1, ?_, hK⟩
        rw [hd]
        refine (hf.right (.refl (some w.heap.size) w) (by rw [kill_length, hi.rholen]) hsub (fun j cs hj => by have := lam_lt hf hj; omega) (fun e => by cases e)).set ?_ hN
        simp [SRep, Rep, hpe]
      · exact hgrow none 0 [] (by simpa using vx) (by simp [Builtin.firstCells]) (by simp [RepE]) (by
          have : 0 < p.2.length := List.length_pos_iff.2 hpe
          simp; omega) (by simp [hpe])
    | false =>
      have hs : s' = i.size := by rcases hs' with e | e; exact absurd e (by simp); exact e
      subst hs
      cases r with
      | pub => simp [St.ow] at g1
      | view r => simp [St.ow] at g1
      | own r =>
        have hlive : σ.live[r]? = some true := by simpa [St.ow] using g1
        simp only [Rep] at vx
        obtain ⟨c1, cap, e1, e2, e3, e4⟩ := vx
        obtain ⟨c2, cap2, f1, _, _, f4, f5, f6, cc, ce, cz, vs, k1, k2, k3, k4, k5⟩ := hi.own r _ _ _ hlive e4
        rw [e1] at f1
        cases f1
        have hvl := k3.length
        by_cases hroom : es.length + p.2.length ≤ cap
        · -- in place
          have hspot : c1.add (es.length * i.size) = ⟨c1.block, c1.off + es.length * i.size, none⟩ := add_spot e2 _
          have hone := hrep.one
          have hmul : (es.length + p.2.length) * i.size ≤ cap * i.size := Nat.mul_le_mul_right _ hroom
          rw [Nat.add_mul] at hmul
          obtain ⟨w', r1, r2, cc', r3, r4⟩ := run_storeCells (P := P) xs w c1.block (c1.off + es.length * i.size) 0 cc ce cz k1 (by omega) (fun j h1 h2 => k5 j (by omega) (by omega)) hone
          have hr := run_append_room (P := P) (w := w) (w' := w') hcal ha hop h0 ht h1 ht2 hT2 hti e1 hl hxs hroom (fun a' e => by cases e; rw [hspot]; exact r1) (fun e => by cases e)
          have hfr : Free γ ⟨σ.objs, kill σ.live (.own r)⟩ c1.block := ⟨f4, f5, f6, fun q v s es' h1 h2 h3 => by
            have hq := kill_own h1
            exact hq (hi.apart q r _ _ _ _ _ _ c1.block (kill_sub (live := σ.live) (r := .own r) h1) hlive h2 e4 h3 (by rw [e1]; rfl))⟩
          have hle : LeR γ { γ with rho := γ.rho ++ [(.slice (some c1) (es ++ p.2).length cap, i.size, es ++ p.2)] } := ⟨fun _ _ x => x, fun i c hi => by
            show (γ.rho ++ [_])[i]? = some c
            rw [List.getElem?_append_left (List.getElem?_eq_some_iff.1 hi).1]; exact hi, fun _ _ _ x => x⟩
          have hsize : cc'.size = cc.size := by
            have := congrArg List.length r4
            simp only [Array.length_toList, List.length_append, List.length_take, List.length_drop] at this
            omega
          have hcells : ∀ (j : Nat) (v : Value), (vs ++ xs)[j]? = some v → cc'[c1.off + j]? = some v := by
            intro j v hv
            have e5 : cc'[c1.off + j]? = cc'.toList[c1.off + j]? := by simp
            rw [e5, r4]
            by_cases hj : j < vs.length
            · rw [List.getElem?_append_left hj] at hv
              rw [List.append_assoc, List.getElem?_append_left (by simp; omega), List.getElem?_take, if_pos (by omega)]
              simpa using k2 _ _ hv
            · rw [List.getElem?_append_right (by omega)] at hv
              have hjl := (List.getElem?_eq_some_iff.1 hv).1
              rw [List.append_assoc, List.getElem?_append_right (by simp; omega), List.getElem?_append_left (by simp; omega), ← hv]
              congr 1
              simp; omega
          have hown : OwnAt { γ with rho := γ.rho ++ [(.slice (some c1) (es ++ p.2).length cap, i.size, es ++ p.2)] } w' (.slice (some c1) (es ++ p.2).length cap) i.size (es ++ p.2) :=
            ⟨c1, cap, rfl, e2, by simpa using hroom, f4, f5, f6, cc', ce, cz, vs ++ xs, r3, hcells, RepE.mono hle _ _ _ (k3.append hrep), by rw [hsize]; exact k4, k5⟩
          obtain ⟨m1, m2⟩ := hi.right r2 (kill_length (r := .own r)) hsub hfr (f := true) (fun _ => ⟨rfl, hown⟩)
          simp only [Bool.false_and, Bool.not_false] at hK
          refine ⟨_, w', _, _, _, lam, _, hr, .inl rfl, m2, m1, ?_, hK⟩
          rw [hd]
          refine (hf.right r2 (by rw [kill_length, hi.rholen]) hsub (fun j cs hj e => ?_) (fun _ => rfl)).set ?_ hN
          · exact (hf.l j cs hj).own r _ _ _ hlive e4 (by rw [e1, e]; rfl)
          · simp only [SRep, Rep]
            exact ⟨c1, cap, by simp, e2, by simpa using hroom, by rw [← hi.rholen]; simp⟩
        · refine hgrow (some c1) cap vs e1 ?_ k3 hroom (by simp)
          obtain ⟨cb, co, cs⟩ := c1
          simp only at e2
          subst e2
          simp only [Builtin.firstCells]
          rw [run_loadCells (P := P) (w := w.drew) (vs := vs) (fun j v hv => by
            have : w.drew.heap[cb]? = some (.cells cc ce cz) := k1
            rw [cell_of_heap this]; exact k2 _ _ hv) (by omega), List.take_of_length_le (by omega)]
end
end Go.VL

import Derived.Test.YtkahnkemijlgkaaB3
import Derived.WideKeyArgs
import Derived.ChangeArms
import Derived.OpenShut
set_option linter.unusedVariables false
set_option linter.unusedSimpArgs false
namespace Go.VL
open Go Go.ChangeShapes Go.WideShapes Go.ChangeAt Go.RowKit

/-- Shapes of what is read. -/
inductive T where
  | int (k : IntKind)
  | bool
  | str
  | sl (s : Nat) (e : T)
  | agg (l : List T)
  | arr (n : Nat) (e : T)

def tysOf (P : Program) (f : TypeId → Option T) (all : Nat) : Nat → List Field → Option (List T)
  | o, [] => bif Nat.beq o all then some [] else none
  | o, x :: r => bif Nat.beq x.offset o then (match f x.type, tysOf P f all (o + P.cellsOf x.type) r with
    | some a, some b => some (a :: b)
    | _, _ => none) else none
/-- A type's shape. -/
def tyOf (P : Program) : Nat → TypeId → Option T
  | 0, _ => none
  | n + 1, t => match P.underlying t with
    | some (.int k) => bif Nat.beq (P.cellsOf t) 1 then some (.int k) else none
    | some .bool => bif Nat.beq (P.cellsOf t) 1 then some .bool else none
    | some .string => bif Nat.beq (P.cellsOf t) 1 then some .str else none
    | some (.slice e) => bif Nat.beq (P.cellsOf t) 1 && Nat.ble 1 (P.cellsOf e) then (tyOf P n e).map (.sl (P.cellsOf e)) else none
    | some (.struct fs) => (tysOf P (tyOf P n) (P.cellsOf t) 0 fs.toList).map .agg
    | some (.array m e) => bif Nat.beq (P.cellsOf t) (m * P.cellsOf e) then (tyOf P n e).map (.arr m) else none
    | _ => none

mutual
/-- Cells of a shape. -/
def T.has : T → List V → Prop
  | .int k, xs => ∃ n, xs = [.int k n] ∧ (Lit.int k n).wf = true
  | .bool, xs => ∃ b, xs = [.bool b]
  | .str, xs => ∃ s, xs = [.str s]
  | .sl s e, xs => xs = [.sl true .pub 0 []] ∨ ∃ es, xs = [.sl false .pub s es] ∧ ∀ x ∈ es, e.has x
  | .agg l, xs => T.hasL l xs
  | .arr n e, xs => ∃ l : List (List V), l.length = n ∧ xs = l.flatten ∧ ∀ x ∈ l, e.has x
def T.hasL : List T → List V → Prop
  | [], xs => xs = []
  | t :: r, xs => ∃ a b, xs = a ++ b ∧ t.has a ∧ T.hasL r b
end

mutual
/-- How much there is of it. -/
def vb : V → Nat
  | .str s => s.length + 1
  | .sl _ _ _ es => vbe es + 1
  | .int _ _ | .bool _ | .agg _ | .tup _ | .ptr _ | .elt _ _ _ _ _ | .map _ | .osl _ _ _ _ | .fn _ _ | .nilf | .raw _ | .bad => 1
def vbs : List V → Nat
  | [] => 0
  | x :: r => vb x + vbs r
def vbe : List (List V) → Nat
  | [] => 0
  | x :: r => vbs x + vbe r
end
theorem vbs_append : ∀ (a b : List V), vbs (a ++ b) = vbs a + vbs b
  | [], b => by simp [vbs]
  | x :: a, b => by simp [vbs, vbs_append a b, Nat.add_assoc]
theorem vbs_flatten : ∀ (l : List (List V)), vbs l.flatten = vbe l
  | [] => by simp [vbs, vbe]
  | x :: l => by simp [vbe, vbs_append, vbs_flatten l]

/-- A measure of data that counts at least so much. -/
structure Bulk {H : Type} (B : DataW H → Nat) : Prop where
  lit : ∀ l, 1 ≤ B (.lit l)
  str : ∀ s, s.length + 1 ≤ B (.lit (.string s))
  nil : 1 ≤ B .nil
  slice : ∀ es sp, (es.map B).sum + 1 ≤ B (.slice es sp)
  agg : ∀ ps, (ps.map B).sum ≤ B (.agg ps)

section
variable {H : Type} {enc : TypeId × Value → H} {P : Program} {W : World} {sp : Nat → Bool} {held : Bool} {B : DataW H → Nat}

/-- What is read is of its type's shape. -/
def Reads (W : World) (B : DataW H → Nat) (T0 : T) (c : Nat) (cs : List Value) (d : DataW H) : Prop :=
  ∃ xs, RepL (g0 W) xs cs ∧ T0.has xs ∧ vbs xs ≤ B d ∧ (∀ v ∈ cs, v.oneCell' = true) ∧ cs.length = c

theorem RepL.len {γ : G} : ∀ {xs : List V} {vs : List Value}, RepL γ xs vs → xs.length = vs.length
  | [], vs, h => by simp only [RepL] at h; subst h; rfl
  | x :: xs, vs, h => by
    simp only [RepL] at h
    obtain ⟨v, ws, rfl, _, h2⟩ := h
    simp [RepL.len h2]

theorem rows_read {T0 : T} {a : Addr} {c : Nat} (hsp : a.spot = none) : ∀ (elems : List (DataW H × List MemPlace)) (k : Nat),
    (∀ (i : Nat) y, elems[i]? = some y → ∃ cs, W.cells? 0 (a.add ((k + i) * c)) c = some cs ∧ Reads W B T0 c cs y.1) →
    ∃ es vs, es.length = elems.length ∧ RepE (g0 W) c es vs ∧ (∀ x ∈ es, T0.has x) ∧ vbe es ≤ ((elems.map (·.1)).map B).sum ∧ ∀ (j : Nat) v, vs[j]? = some v → W.cell? ⟨a.block, a.off + k * c + j, none⟩ = some v
  | [], k, _ => ⟨[], [], rfl, by simp [RepE], by simp, by simp [vbe], by simp⟩
  | y :: r, k, h => by
    obtain ⟨es, vs, h1, h2, h3, h4, h5⟩ := rows_read hsp r (k + 1) fun i y hy => by
      obtain ⟨cs, e1, e2⟩ := h (i + 1) y (by simpa using hy)
      exact ⟨cs, by rw [show k + 1 + i = k + (i + 1) from by omega]; exact e1, e2⟩
    obtain ⟨cs, e1, xs, f1, f2, f3, f4, f5⟩ := h 0 y rfl
    obtain ⟨_, g1, g2⟩ := World.cells?_some e1
    refine ⟨xs :: es, cs ++ vs, by simp [h1], ?_, ?_, ?_, ?_⟩
    · simp only [RepE]
      exact ⟨cs, vs, rfl, by rw [f1.len, f5], f1, h2, f4⟩
    · intro x hx
      rcases List.mem_cons.1 hx with rfl | hx
      · exact f2
      · exact h3 x hx
    · simp only [vbe, List.map_cons, List.sum_cons]; omega
    · intro j v hv
      by_cases hj : j < cs.length
      · rw [List.getElem?_append_left hj] at hv
        have := g2 j (by omega)
        rw [hv, Nat.add_zero, add_spot hsp, add_spot rfl] at this
        exact this
      · rw [List.getElem?_append_right (by omega)] at hv
        have := h5 _ _ hv
        rw [show a.off + k * c + j = a.off + (k + 1) * c + (j - cs.length) from by rw [Nat.succ_mul]; omega]
        exact this

theorem fields_read (hB : Bulk B) {f : TypeId → Option T} {rd : TypeId → List Value → Option (DataW H × List MemPlace)} (ih : ∀ t T0 cs d ps, f t = some T0 → rd t cs = some (d, ps) → Reads W B T0 (P.cellsOf t) cs d) {all : Nat} :
    ∀ (fs : List Field) (o : Nat) (Ts : List T) (cs : List Value) (xs : List (DataW H × List MemPlace)), tysOf P f all o fs = some Ts → cs.length + o = all → xs.length = fs.length →
      (∀ (i : Nat) (x : Field), fs[i]? = some x → rd x.type ((cs.drop (x.offset - o)).take (P.cellsOf x.type)) = xs[i]?) →
      ∃ ys, RepL (g0 W) ys cs ∧ T.hasL Ts ys ∧ vbs ys ≤ ((xs.map (·.1)).map B).sum ∧ (∀ v ∈ cs, v.oneCell' = true)
  | [], o, Ts, cs, xs, ht, hl, hx, h => by
    simp only [tysOf] at ht
    cases hb : Nat.beq o all with
    | false => simp [hb] at ht
    | true =>
      simp only [hb, cond_true, Option.some.injEq] at ht
      subst ht
      have := Nat.eq_of_beq_eq_true hb
      have : cs = [] := by apply List.eq_nil_of_length_eq_zero; omega
      subst this
      exact ⟨[], by simp [RepL], by simp [T.hasL], by simp [vbs], by simp⟩
  | x :: r, o, Ts, cs, xs, ht, hl, hx, h => by
    simp only [tysOf] at ht
    cases hb : Nat.beq x.offset o with
    | false => simp [hb] at ht
    | true =>
      have ho := Nat.eq_of_beq_eq_true hb
      simp only [hb, cond_true] at ht
      split at ht
      · rename_i a b ha hbb
        simp only [Option.some.injEq] at ht
        subst ht
        cases xs with
        | nil => simp at hx
        | cons y ys =>
          have h0 := h 0 x rfl
          simp only [ho, Nat.sub_self, List.drop_zero, List.getElem?_cons_zero] at h0
          obtain ⟨zs, f1, f2, f3, f4, f5⟩ := ih _ _ _ _ _ ha h0
          have hle : P.cellsOf x.type ≤ cs.length := by rw [← f5, List.length_take]; omega
          obtain ⟨us, k1, k2, k3, k4⟩ := fields_read hB ih r (o + P.cellsOf x.type) b (cs.drop (P.cellsOf x.type)) ys hbb (by rw [List.length_drop]; omega) (by simpa using hx) (by
            intro i fd hfd
            have := h (i + 1) fd (by simpa using hfd)
            simp only [List.getElem?_cons_succ] at this
            rw [← this, List.drop_drop]
            -- a field's place is not ahead of where we are
            have hge : o + P.cellsOf x.type ≤ fd.offset := tysOf_ge hbb hfd
            congr 3
            omega)
          refine ⟨zs ++ us, ?_, ⟨zs, us, rfl, f2, k2⟩, ?_, ?_⟩
          · rw [← List.take_append_drop (P.cellsOf x.type) cs]
            exact f1.append k1
          · rw [vbs_append]; simp only [List.map_cons, List.sum_cons]; omega
          · intro v hv
            rw [← List.take_append_drop (P.cellsOf x.type) cs] at hv
            rcases List.mem_append.1 hv with hv | hv
            · exact f4 v hv
            · exact k4 v hv
      · cases ht
where
  tysOf_ge {f : TypeId → Option T} {all : Nat} : ∀ {fs : List Field} {o : Nat} {Ts : List T} {i : Nat} {fd : Field}, tysOf P f all o fs = some Ts → fs[i]? = some fd → o ≤ fd.offset
    | [], o, Ts, i, fd, _, h => by simp at h
    | x :: r, o, Ts, i, fd, ht, h => by
      simp only [tysOf] at ht
      cases hb : Nat.beq x.offset o with
      | false => simp [hb] at ht
      | true =>
        have ho := Nat.eq_of_beq_eq_true hb
        simp only [hb, cond_true] at ht
        split at ht
        · rename_i a b ha hbb
          cases i with
          | zero => simp only [List.getElem?_cons_zero, Option.some.injEq] at h; subst h; omega
          | succ i =>
            simp only [List.getElem?_cons_succ] at h
            have := tysOf_ge hbb h
            omega
        · cases ht

theorem arr_read {T0 : T} {c : Nat} {rd : List Value → Option (DataW H × List MemPlace)} (ih : ∀ cs d ps, rd cs = some (d, ps) → Reads W B T0 c cs d) :
    ∀ (n : Nat) (cs : List Value) (xs : List (DataW H × List MemPlace)), cs.length = n * c → xs.length = n → (∀ (i : Nat), i < n → rd ((cs.drop (i * c)).take c) = xs[i]?) →
      ∃ l : List (List V), l.length = n ∧ RepL (g0 W) l.flatten cs ∧ (∀ x ∈ l, T0.has x) ∧ vbe l ≤ ((xs.map (·.1)).map B).sum ∧ (∀ v ∈ cs, v.oneCell' = true)
  | 0, cs, xs, hl, hx, h => by
    have : cs = [] := by apply List.eq_nil_of_length_eq_zero; omega
    subst this
    exact ⟨[], rfl, by simp [RepL], by simp, by simp [vbe], by simp⟩
  | n + 1, cs, xs, hl, hx, h => by
    cases xs with
    | nil => simp at hx
    | cons y ys =>
      have h0 := h 0 (by omega)
      simp only [Nat.zero_mul, List.drop_zero, List.getElem?_cons_zero] at h0
      obtain ⟨zs, f1, f2, f3, f4, f5⟩ := ih _ _ _ h0
      obtain ⟨l, k1, k2, k3, k4, k5⟩ := arr_read ih n (cs.drop c) ys (by rw [List.length_drop, hl, Nat.succ_mul]; omega) (by simpa using hx) (fun i hi => by
        have := h (i + 1) (by omega)
        simp only [List.getElem?_cons_succ] at this
        rw [← this, List.drop_drop, Nat.succ_mul, Nat.add_comm])
      refine ⟨zs :: l, by simp [k1], ?_, ?_, ?_, ?_⟩
      · rw [List.flatten_cons, ← List.take_append_drop c cs]
        exact f1.append k2
      · intro x hx
        rcases List.mem_cons.1 hx with rfl | hx
        · exact f2
        · exact k3 x hx
      · simp only [vbe, List.map_cons, List.sum_cons]; omega
      · intro v hv
        rw [← List.take_append_drop c cs] at hv
        rcases List.mem_append.1 hv with hv | hv
        · exact f4 v hv
        · exact k5 v hv

theorem one_read {x : V} {v : Value} {T0 : T} {d : DataW H} (hr : Rep (g0 W) x v) (ht : T0.has [x]) (hb : vb x ≤ B d) (h1 : v.oneCell' = true) : Reads W B T0 1 [v] d :=
  ⟨[x], by simp only [RepL]; exact ⟨v, [], rfl, hr, rfl⟩, ht, by simpa [vbs] using hb, by simpa using h1, rfl⟩

theorem read_has (hB : Bulk B) : ∀ (n : Nat) (t : TypeId) (T0 : T) (fuel : Nat) (cs : List Value) (d : DataW H) (ps : List MemPlace), tyOf P n t = some T0 → DataW.trod enc P W 0 sp held fuel t cs = some (d, ps) → Reads W B T0 (P.cellsOf t) cs d
  | 0, t, T0, fuel, cs, d, ps, ht, _ => by simp [tyOf] at ht
  | n + 1, t, T0, fuel, cs, d, ps, ht, h => by
    have c1 : ∀ {x : Option T}, (bif Nat.beq (P.cellsOf t) 1 then x else none) = some T0 → P.cellsOf t = 1 ∧ x = some T0 := by
      intro x hx
      cases hb : Nat.beq (P.cellsOf t) 1 with
      | false => simp [hb] at hx
      | true => exact ⟨Nat.eq_of_beq_eq_true hb, by simpa [hb] using hx⟩
    simp only [tyOf] at ht
    split at ht
    · rename_i k hu
      obtain ⟨hc, h0⟩ := c1 ht
      cases h0
      rw [hc]
      obtain ⟨n', rfl, h1, hw⟩ := DataW.trod_int hu h
      simp only [Prod.mk.injEq] at h1
      obtain ⟨rfl, rfl⟩ := h1
      exact one_read (x := .int k n') (by simp only [Rep]) ⟨_, rfl, hw⟩ (by simpa [vb] using hB.lit _) rfl
    · rename_i hu
      obtain ⟨hc, h0⟩ := c1 ht
      cases h0
      rw [hc]
      obtain ⟨b, rfl, h1⟩ := DataW.trod_bool hu h
      simp only [Prod.mk.injEq] at h1
      obtain ⟨rfl, rfl⟩ := h1
      exact one_read (x := .bool b) (by simp only [Rep]) ⟨_, rfl⟩ (by simpa [vb] using hB.lit _) rfl
    · rename_i hu
      obtain ⟨hc, h0⟩ := c1 ht
      cases h0
      rw [hc]
      obtain ⟨s, rfl, h1, _⟩ := DataW.trod_string hu h
      simp only [Prod.mk.injEq] at h1
      obtain ⟨rfl, rfl⟩ := h1
      exact one_read (x := .str s.data.toList) (by simp only [Rep]) ⟨_, rfl⟩ (by simp only [vb]; exact hB.str _) rfl
    · rename_i e hu
      cases hb : (Nat.beq (P.cellsOf t) 1 && Nat.ble 1 (P.cellsOf e)) with
      | false => simp [hb] at ht
      | true =>
        simp only [hb, cond_true, Option.map_eq_some_iff] at ht
        obtain ⟨Te, hTe, rfl⟩ := ht
        simp only [Bool.and_eq_true] at hb
        have hc := Nat.eq_of_beq_eq_true hb.1
        have he := Nat.le_of_ble_eq_true hb.2
        rw [hc]
        rcases DataW.trod_slice hu h with ⟨rfl, h0⟩ | ⟨a, len, cap, elems, rest, m, _, rfl, h0, _, hl, _, hlen, hel, _⟩
        · simp only [Prod.mk.injEq] at h0
          obtain ⟨rfl, rfl⟩ := h0
          exact one_read (x := .sl true .pub 0 []) (by simp [Rep]) (.inl rfl) (by simpa [vb, vbe] using hB.nil) rfl
        · simp only [Prod.mk.injEq] at h0
          obtain ⟨rfl, rfl⟩ := h0
          have each : ∀ (i : Nat) y, elems[i]? = some y → ∃ cs, W.cells? 0 (a.add ((0 + i) * P.cellsOf e)) (P.cellsOf e) = some cs ∧ Reads W B Te (P.cellsOf e) cs y.1 := by
            intro i y hy
            have hi : i < len := by rw [← hlen]; exact (List.getElem?_eq_some_iff.1 hy).1
            have := hel i hi
            rw [hy, Option.bind_eq_some_iff] at this
            obtain ⟨cs, e1, e2⟩ := this
            exact ⟨cs, by rw [Nat.zero_add]; exact e1, read_has hB n e Te m cs y.1 y.2 hTe e2⟩
          by_cases hsp : a.spot = none
          · obtain ⟨es, vs, k1, k2, k3, k4, k5⟩ := rows_read hsp elems 0 each
            refine one_read (x := .sl false .pub (P.cellsOf e) es) ?_ (.inr ⟨es, rfl, k3⟩) ?_ rfl
            · simp only [Rep]
              exact ⟨a, cap, vs, by rw [k1, hlen], .inr hsp, by omega, pub_cells (fun i v hv => by simpa using k5 i v hv), k2⟩
            · have := hB.slice (elems.map (·.1)) (rest.map (·.1))
              simp only [vb]
              omega
          · have hnil : elems = [] := by
              cases elems with
              | nil => rfl
              | cons y r =>
                exfalso
                obtain ⟨cs, e1, _⟩ := each 0 y rfl
                obtain ⟨_, g1, g2⟩ := World.cells?_some e1
                have := g2 0 he
                have h0 : (a.add ((0 + 0) * P.cellsOf e)).add 0 = a := by simp [Addr.add]
                rw [h0] at this
                have hcs : cs[0]? = some cs[0] := List.getElem?_eq_getElem (by omega)
                rw [hcs] at this
                unfold World.cell? at this
                split at this
                · cases hx : a.spot with
                  | none => exact hsp hx
                  | some b => simp [hx] at this
                · cases this
            subst hnil
            refine one_read (x := .sl false .pub (P.cellsOf e) []) ?_ (.inr ⟨[], rfl, by simp⟩) ?_ rfl
            · simp only [Rep]
              simp only [List.length_nil] at hlen
              exact ⟨a, cap, [], by rw [← hlen]; rfl, .inl trivial, by simp, fun i v hv => by simp at hv, by simp [RepE]⟩
            · have := hB.slice ([] : List (DataW H)) (rest.map (·.1))
              simp only [vb, vbe]
              simp only [List.map_nil, List.sum_nil] at this ⊢
              omega
    · rename_i fs hu
      simp only [Option.map_eq_some_iff] at ht
      obtain ⟨Ts, hTs, rfl⟩ := ht
      obtain ⟨xs, m, _, h0, hl, hlen, hf⟩ := DataW.trod_struct hu h
      simp only [Prod.mk.injEq] at h0
      obtain ⟨rfl, rfl⟩ := h0
      obtain ⟨ys, k1, k2, k3, k4⟩ := fields_read (P := P) hB (f := tyOf P n) (rd := fun t cs => DataW.trod enc P W 0 sp held m t cs) (fun t T0 cs d ps h1 h2 => read_has hB n t T0 m cs d ps h1 h2) fs.toList 0 Ts cs xs hTs (by omega) (by simpa using hlen)
        (fun i x hx => by simpa using hf i x (by simpa using hx))
      exact ⟨ys, k1, k2, Nat.le_trans k3 (hB.agg _), k4, hl⟩
    · rename_i m e hu
      cases hb : Nat.beq (P.cellsOf t) (m * P.cellsOf e) with
      | false => simp [hb] at ht
      | true =>
        simp only [hb, cond_true, Option.map_eq_some_iff] at ht
        obtain ⟨Te, hTe, rfl⟩ := ht
        have hc := Nat.eq_of_beq_eq_true hb
        obtain ⟨xs, q, _, h0, hl, hlen, hf⟩ := DataW.trod_array hu h
        simp only [Prod.mk.injEq] at h0
        obtain ⟨rfl, rfl⟩ := h0
        obtain ⟨l, k1, k2, k3, k4, k5⟩ := arr_read (rd := fun cs => DataW.trod enc P W 0 sp held q e cs) (T0 := Te) (c := P.cellsOf e) (W := W) (B := B) (fun cs d ps h2 => read_has hB n e Te q cs d ps hTe h2) m cs xs (by rw [hl, hc]) hlen hf
        exact ⟨l.flatten, k2, ⟨l, k1, rfl, k3⟩, by rw [vbs_flatten]; exact Nat.le_trans k4 (hB.agg _), k5, hl⟩
    · cases ht

/-- An argument of a shape. -/
def T.arg : T → V → Prop
  | .agg l, x => ∃ xs, x = .agg xs ∧ T.hasL l xs
  | .arr n e, x => ∃ xs, x = .agg xs ∧ (T.arr n e).has xs
  | t, x => t.has [x]
def T.args : List T → List V → Prop
  | [], xs => xs = []
  | t :: r, xs => ∃ x ys, xs = x :: ys ∧ t.arg x ∧ T.args r ys
def vba : V → Nat
  | .agg xs => vbs xs
  | x => vb x
def vbas : List V → Nat
  | [] => 0
  | x :: r => vba x + vbas r

theorem vba_one {x : V} (h : ∀ xs, x ≠ .agg xs) : vba x = vbs [x] := by
  cases x <;> first | rfl | exact absurd rfl (h _)

def tysAll (P : Program) (n : Nat) : List TypeId → Option (List T)
  | [] => some []
  | t :: r => match tyOf P n t, tysAll P n r with
    | some a, some b => some (a :: b)
    | _, _ => none

theorem cells_one {v q : Value} (hq : v.cells.toList = [q]) (ha : ∀ cs, v ≠ .agg cs) : v.cells.toList = [v] := by
  cases v <;> first | rfl | exact absurd rfl (ha _)

theorem arg_read (hB : Bulk B) {n : Nat} {t : TypeId} {T0 : T} {base : Nat} {v : Value} {d : DataW H} {ps : List MemPlace} (ht : tyOf P n t = some T0) (hok : Value.okWide P W .any base t v) (h : DataW.Trod enc P W 0 sp held t v d ps) :
    ∃ x, Rep (g0 W) x v ∧ T0.arg x ∧ vba x ≤ B d := by
  obtain ⟨fuel, h⟩ := h
  obtain ⟨xs, k1, k2, k3, k4, k5⟩ := read_has hB n t T0 fuel _ d ps ht h
  have flat : ∀ (T1 : T), T0 = T1 → (∀ x, T1.has [x] → T1.arg x ∧ ∀ xs, x ≠ .agg xs) → v.cells.toList = [v] → (∃ x, xs = [x]) → ∃ x, Rep (g0 W) x v ∧ T0.arg x ∧ vba x ≤ B d := by
    rintro T1 rfl ha hv ⟨x, rfl⟩
    rw [hv] at k1
    simp only [RepL, List.cons.injEq] at k1
    obtain ⟨w, ws, ⟨rfl, rfl⟩, k1, -⟩ := k1
    obtain ⟨a1, a2⟩ := ha x k2
    exact ⟨x, k1, a1, by rw [vba_one a2]; exact k3⟩
  have agg : ∀ cs, v = .agg cs → Rep (g0 W) (.agg xs) v := by
    intro cs hv
    subst hv
    simp only [Rep]
    exact ⟨cs.toList, by simp, k1⟩
  cases n with
  | zero => simp [tyOf] at ht
  | succ n =>
    unfold Value.okWide at hok
    simp only [tyOf] at ht
    split at ht
    · rename_i k hu
      rw [hu] at hok
      have hT : T0 = .int k := by
        cases hb : Nat.beq (P.cellsOf t) 1 <;> simp [hb] at ht
        exact ht.symm
      subst hT
      obtain ⟨m, rfl, hw⟩ := k2
      exact flat _ rfl (fun x hx => ⟨hx, by obtain ⟨m, hx, _⟩ := hx; simp only [List.cons.injEq, and_true] at hx; subst hx; simp⟩) (by
        obtain ⟨q, hq, _⟩ := DataW.trod_int hu h
        exact cells_one hq (by intro cs hcs; subst hcs; simp [Cell.okWide, Cell.ok, hu] at hok)) ⟨_, rfl⟩
    · rename_i hu
      rw [hu] at hok
      have hT : T0 = .bool := by
        cases hb : Nat.beq (P.cellsOf t) 1 <;> simp [hb] at ht
        exact ht.symm
      subst hT
      obtain ⟨m, rfl⟩ := k2
      exact flat _ rfl (fun x hx => ⟨hx, by obtain ⟨m, hx⟩ := hx; simp only [List.cons.injEq, and_true] at hx; subst hx; simp⟩) (by
        obtain ⟨q, hq, _⟩ := DataW.trod_bool hu h
        exact cells_one hq (by intro cs hcs; subst hcs; simp [Cell.okWide, Cell.ok, hu] at hok)) ⟨_, rfl⟩
    · rename_i hu
      rw [hu] at hok
      have hT : T0 = .str := by
        cases hb : Nat.beq (P.cellsOf t) 1 <;> simp [hb] at ht
        exact ht.symm
      subst hT
      obtain ⟨m, rfl⟩ := k2
      exact flat _ rfl (fun x hx => ⟨hx, by obtain ⟨m, hx⟩ := hx; simp only [List.cons.injEq, and_true] at hx; subst hx; simp⟩) (by
        obtain ⟨q, hq, _⟩ := DataW.trod_string hu h
        exact cells_one hq (by intro cs hcs; subst hcs; simp [Cell.okWide, Cell.ok, hu] at hok)) ⟨_, rfl⟩
    · rename_i e hu
      rw [hu] at hok
      have hT : ∃ s Te, T0 = .sl s Te := by
        cases hb : (Nat.beq (P.cellsOf t) 1 && Nat.ble 1 (P.cellsOf e)) <;> simp [hb] at ht
        obtain ⟨Te, _, h⟩ := ht
        exact ⟨_, _, h.symm⟩
      obtain ⟨s, Te, rfl⟩ := hT
      have hxs : ∃ x, xs = [x] := by
        rcases k2 with rfl | ⟨es, rfl, _⟩ <;> exact ⟨_, rfl⟩
      exact flat _ rfl (fun x hx => ⟨hx, by
        rcases hx with hx | ⟨es, hx, _⟩ <;> (simp only [List.cons.injEq, and_true] at hx; subst hx; simp)⟩) (by
        have : ∃ q, v.cells.toList = [q] := by
          rcases DataW.trod_slice hu h with ⟨hq, _⟩ | ⟨a, len, cap, elems, rest, m, _, hq, _⟩ <;> exact ⟨_, hq⟩
        obtain ⟨q, hq⟩ := this
        exact cells_one hq (by intro cs hcs; subst hcs; simp [Cell.okWide, Cell.ok, hu] at hok)) hxs
    · rename_i fs hu
      rw [hu] at hok
      obtain ⟨cs, hv, _⟩ := hok
      simp only [Option.map_eq_some_iff] at ht
      obtain ⟨Ts, hTs, rfl⟩ := ht
      exact ⟨.agg xs, agg cs hv, ⟨xs, rfl, k2⟩, k3⟩
    · rename_i m e hu
      rw [hu] at hok
      obtain ⟨cs, hv, _⟩ := hok
      have hT : ∃ Te, T0 = .arr m Te := by
        cases hb : Nat.beq (P.cellsOf t) (m * P.cellsOf e) <;> simp [hb] at ht
        obtain ⟨Te, _, h⟩ := ht
        exact ⟨_, h.symm⟩
      obtain ⟨Te, rfl⟩ := hT
      exact ⟨.agg xs, agg cs hv, ⟨xs, rfl, k2⟩, k3⟩
    · cases ht
theorem args_read (hB : Bulk B) {n base : Nat} : ∀ (ts : List TypeId) (Ts : List T) (vs : List Value) (ds : List (DataW H)) (ps : List MemPlace), tysAll P n ts = some Ts → (∀ (j : Nat) t v, ts[j]? = some t → vs[j]? = some v → Value.okWide P W .any base t v) →
    DataW.TrodAll enc P W 0 sp held ts vs ds ps → ∃ xs, RepL (g0 W) xs vs ∧ T.args Ts xs ∧ vbas xs ≤ (ds.map B).sum
  | [], Ts, [], [], ps, ht, _, _ => by
    simp only [tysAll, Option.some.injEq] at ht
    subst ht
    exact ⟨[], by simp [RepL], by simp [T.args], by simp [vbas]⟩
  | t :: ts, Ts, v :: vs, d :: ds, ps, ht, hok, ⟨p, q, h1, h2, _⟩ => by
    simp only [tysAll] at ht
    split at ht
    · rename_i a b ha hb
      simp only [Option.some.injEq] at ht
      subst ht
      obtain ⟨x, e1, e2, e3⟩ := arg_read hB ha (hok 0 t v rfl rfl) h1
      obtain ⟨xs, f1, f2, f3⟩ := args_read hB ts b vs ds q hb (fun j t v h1 h2 => hok (j + 1) t v (by simpa using h1) (by simpa using h2)) h2
      refine ⟨x :: xs, by simp only [RepL]; exact ⟨v, vs, rfl, e1, f1⟩, ⟨x, xs, rfl, e2, f2⟩, ?_⟩
      simp only [vbas, List.map_cons, List.sum_cons]; omega
    · cases ht
  | [], _, _ :: _, _, _, _, _, h => by simp [DataW.TrodAll] at h
  | [], _, [], _ :: _, _, _, _, h => by simp [DataW.TrodAll] at h
  | _ :: _, _, [], _, _, _, _, h => by simp [DataW.TrodAll] at h
  | _ :: _, _, _ :: _, [], _, _, _, h => by simp [DataW.TrodAll] at h

theorem trodAll_stays (hl : laidOutB P = true) {W' : World} {sp' : Nat → Bool} : ∀ {ts : List TypeId} {vs : List Value} {ds : List (DataW H)} {ps : List MemPlace}, (ts.all fun t => P.readableRec t && decide (t < P.types.size)) = true →
    DataW.TrodAll enc P W 0 (fun _ => true) true ts vs ds ps → (∀ p ∈ ps, W.sameAt W' p) → (∀ p ∈ ps, sp' p.block = true) → DataW.TrodAll enc P W' 0 sp' true ts vs ds ps
  | [], [], [], _, _, h, _, _ => h
  | _ :: _, _ :: _, _ :: _, _, hr, ⟨p, q, h1, h2, e⟩, hs, hp => by
    simp only [List.all_cons, Bool.and_eq_true, decide_eq_true_eq] at hr
    exact ⟨p, q, WideElems.Trod_stays hl hr.1.1 hr.1.2 h1 (fun x hx => hs x (by rw [e]; exact List.mem_append_left _ hx)) (fun x hx => hp x (by rw [e]; exact List.mem_append_left _ hx)),
      trodAll_stays hl (by simpa using hr.2) h2 (fun x hx => hs x (by rw [e]; exact List.mem_append_right _ hx)) (fun x hx => hp x (by rw [e]; exact List.mem_append_right _ hx)), e⟩

/-- A law's contract, from V-logic: whatever the arguments of the types' shapes, it tells true. -/
theorem law_calls (hB : Bulk B) {f : Func} {fid : FuncId} {s : ChangeSpec} {W : World} {base n : Nat} {args : Array Value} {ds gs : List (DataW H)} {before : List MemPlace} {Ts : List T} {tb : TypeId}
    (hlo : laidOutB P = true) (hts : tysAll P n f.params.toList = some Ts) (hrd : (f.params.toList.all fun t => P.readableRec t && decide (t < P.types.size)) = true) (hvars : s.vars = []) (hres : f.resultTypes = #[tb]) (hb : P.underlying tb = some .bool)
    (hspec : ∀ ds : List (DataW H), ds.length = f.params.size → s.fn H ds = { results := [.lit (.bool true)], args := ds })
    (hval : ∀ (j : Nat) t v, f.params[j]? = some t → args[j]? = some v → Value.okWide P W .any base t v)
    (hW : DataW.Whole enc P f.params.toList s.vars false W args.toList ds gs before)
    (hc : ∀ xs, T.args Ts xs → vbas xs ≤ ((ds ++ gs).map B).sum → CallA P fid xs ⟨[], []⟩ fun v _ => v = .bool true) :
    Calls P fid args W fun e W' => ∃ v, e = .returned v ∧ s.post enc P f false true false false W args v W' := by
  have hW' := hW
  obtain ⟨p, q, hA, hV, rfl, hfz, hnd⟩ := hW
  rw [hvars] at hV
  obtain ⟨rfl, rfl⟩ := trodVars_none hV
  rw [List.append_nil] at hc
  have hlen : ∀ {ts : List TypeId} {vs : List Value} {ds : List (DataW H)} {ps : List MemPlace}, DataW.TrodAll enc P W 0 (fun _ => true) true ts vs ds ps → ds.length = ts.length := by
    intro ts
    induction ts with
    | nil => intro vs ds ps h; cases vs <;> cases ds <;> simp_all [DataW.TrodAll]
    | cons t ts ih =>
      intro vs ds ps h
      cases vs <;> cases ds <;> simp only [DataW.TrodAll] at h
      obtain ⟨_, _, _, h2, _⟩ := h
      simp [ih h2]
  have hs := hspec ds (by rw [hlen hA]; simp)
  obtain ⟨xs, k1, k2, k3⟩ := args_read hB f.params.toList Ts args.toList ds p hts (fun j t v h1 h2 => hval j t v (by simpa using h1) (by simpa using h2)) hA
  refine (entry (hc xs k2 k3) k1).mono fun e W' ⟨v, x, σ, γ, he, hk, hi, hx, hxv⟩ => ?_
  subst he hxv
  simp only [Rep] at hx
  subst hx
  simp only [List.append_nil] at hW'
  refine ⟨_, rfl, post_of_old (pa := p) (pv := []) (gs := []) (ds := ds) (before := p) (by simpa using hW') ?_ ?_ ?_ (by simp) hk (ok_one hres rfl (okWide_bool_mk hb _))⟩
  · intro b sp hd
    rw [List.append_nil, hs, hres]
    exact (trodAll_cons_mk (shut_bool hb _) trodAll_mk0)
  · intro sp hsp
    rw [List.append_nil, hs]
    exact trodAll_stays hlo hrd hA (fun x hx => hk.same (hW'.lt x (by simpa using hx))) hsp
  · intro sp _
    rw [List.append_nil, hs, hvars]
    rfl
end
end Go.VL
namespace Go.VL
open Go

/-- A slice whose elements are one cell. -/
theorem has_sl {s : Nat} {e : T} {x : V} (h : (T.sl s e).arg x) : ∃ es, (x = .sl true .pub 0 [] ∧ es = [] ∨ x = .sl false .pub s es) ∧ (∀ y ∈ es, e.has y) ∧ vbe es + 1 = vba x := by
  rcases h with h | ⟨es, h, h2⟩
  · simp only [List.cons.injEq, and_true] at h
    subst h
    exact ⟨[], .inl ⟨rfl, rfl⟩, by simp, by simp [vba, vb, vbe]⟩
  · simp only [List.cons.injEq, and_true] at h
    subst h
    exact ⟨es, .inr rfl, h2, by simp [vba, vb]⟩
theorem arg_rd {s : Nat} {e : T} {x : V} (h : (T.sl s e).arg x) : ∃ es, RdS ⟨[], []⟩ x s es ∧ (∀ y ∈ es, e.has y) ∧ vbe es < vba x := by
  obtain ⟨es, h1, h2, h3⟩ := has_sl h
  refine ⟨es, ?_, h2, by omega⟩
  rcases h1 with ⟨rfl, rfl⟩ | rfl
  · exact ⟨true, .pub, 0, rfl, by simp, .inl rfl⟩
  · exact ⟨false, .pub, s, rfl, by simp, .inr ⟨trivial, rfl⟩⟩
theorem bytes_of : ∀ {es : List (List V)}, (∀ y ∈ es, (T.int .u8).has y) → ∃ bs, es = bytesV bs ∧ bs.length ≤ vbe es
  | [], _ => ⟨[], rfl, by simp⟩
  | y :: es, h => by
    obtain ⟨bs, rfl, h2⟩ := bytes_of (es := es) fun y hy => h y (by simp [hy])
    obtain ⟨n, rfl, hw⟩ := h y (by simp)
    have hr : 0 ≤ n ∧ n ≤ 255 := by
      have : 0 ≤ n ∧ n ≤ 255 := by simpa [Lit.wf, IntKind.min, IntKind.max, IntKind.signed, IntKind.bits] using hw
      exact this
    refine ⟨UInt8.ofNat n.toNat :: bs, ?_, by simp only [List.length_cons, vbe, vbs, vb]; omega⟩
    have := byte1 n hr
    simp only [bytesV, List.map_cons, List.map_nil, List.cons.injEq, and_true] at this ⊢
    exact this
theorem ints_of : ∀ {es : List (List V)}, (∀ y ∈ es, (T.int .i64).has y) → ∃ ns : List Int, es = intsV .i64 ns ∧ ns.length ≤ vbe es ∧ ∀ n ∈ ns, -9223372036854775808 ≤ n ∧ n < 9223372036854775808
  | [], _ => ⟨[], rfl, by simp, by simp⟩
  | y :: es, h => by
    obtain ⟨bs, rfl, h2, h3⟩ := ints_of (es := es) fun y hy => h y (by simp [hy])
    obtain ⟨n, rfl, hw⟩ := h y (by simp)
    have hr : -9223372036854775808 ≤ n ∧ n ≤ 9223372036854775807 := by
      simpa [Lit.wf, IntKind.min, IntKind.max, IntKind.signed, IntKind.bits] using hw
    refine ⟨n :: bs, rfl, by simp only [List.length_cons, vbe, vbs, vb]; omega, fun m hm => ?_⟩
    rcases List.mem_cons.1 hm with rfl | hm
    · omega
    · exact h3 m hm
theorem strs_of : ∀ {es : List (List V)}, (∀ y ∈ es, T.str.has y) → ∃ ss : List (List UInt8), es = (ss.map fun s => [V.str s]) ∧ (ss.map fun s => s.length + 1).sum ≤ vbe es
  | [], _ => ⟨[], rfl, by simp⟩
  | y :: es, h => by
    obtain ⟨bs, rfl, h2⟩ := strs_of (es := es) fun y hy => h y (by simp [hy])
    obtain ⟨s, rfl⟩ := h y (by simp)
    exact ⟨s :: bs, rfl, by simp only [List.map_cons, List.sum_cons, vbe, vbs, vb]; omega⟩
theorem arg_bytes {x : V} (h : (T.sl 1 (.int .u8)).arg x) : ∃ bs, RdS ⟨[], []⟩ x 1 (bytesV bs) ∧ bs.length < vba x := by
  obtain ⟨es, h1, h2, h3⟩ := arg_rd h
  obtain ⟨bs, rfl, h4⟩ := bytes_of h2
  exact ⟨bs, h1, by omega⟩
theorem arg_int {x : V} (h : (T.int .i64).arg x) : ∃ n, x = .int .i64 n ∧ -9223372036854775808 ≤ n ∧ n < 9223372036854775808 := by
  obtain ⟨n, h1, hw⟩ := h
  simp only [List.cons.injEq, and_true] at h1
  have hr : -9223372036854775808 ≤ n ∧ n ≤ 9223372036854775807 := by
    simpa [Lit.wf, IntKind.min, IntKind.max, IntKind.signed, IntKind.bits] using hw
  exact ⟨n, h1, by omega, by omega⟩
end Go.VL
namespace Go.VL
open Go
theorem arg_ints' {x : V} (h : (T.sl 1 (.int .i64)).arg x) : ∃ ns : List Int, RdS ⟨[], []⟩ x 1 (intsV .i64 ns) ∧ ns.length < vba x ∧ ∀ n ∈ ns, -9223372036854775808 ≤ n ∧ n < 9223372036854775808 := by
  obtain ⟨es, h1, h2, h3⟩ := arg_rd h
  obtain ⟨ns, rfl, h4, h5⟩ := ints_of h2
  exact ⟨ns, h1, by omega, h5⟩
theorem arg_strs' {x : V} (h : (T.sl 1 .str).arg x) : ∃ ss : List (List UInt8), RdS ⟨[], []⟩ x 1 (ss.map fun s => [V.str s]) ∧ (ss.map fun s => s.length + 1).sum < vba x := by
  obtain ⟨es, h1, h2, h3⟩ := arg_rd h
  obtain ⟨ss, rfl, h4⟩ := strs_of h2
  exact ⟨ss, h1, by omega⟩
end Go.VL

namespace Go.VL.rga
open Go Go.VL Go.Proofs Go.IntWalk Go.VL.st Go.VL.row

def SlT : List T := [.agg [.int .i64, .int .i64], .agg [.int .i64, .int .i64]]
theorem has_sp {xs : List V} (h : T.hasL [.int .i64, .int .i64] xs) : ∃ s : Sp, xs = spC s := by
  simp only [T.hasL, T.has] at h
  obtain ⟨_, _, rfl, ⟨n, rfl, -⟩, _, _, rfl, ⟨k, rfl, -⟩, rfl⟩ := h
  exact ⟨⟨n, k⟩, rfl⟩
theorem has_sl {xs : List V} (h : T.hasL SlT xs) : ∃ x : Sl, xs = slC x := by
  simp only [SlT, T.hasL, T.has] at h
  obtain ⟨_, _, rfl, h1, _, _, rfl, h2, rfl⟩ := h
  obtain ⟨s1, rfl⟩ := has_sp h1
  obtain ⟨s2, rfl⟩ := has_sp h2
  exact ⟨⟨s1, s2⟩, rfl⟩
theorem sls_of : ∀ {es : List (List V)}, (∀ y ∈ es, (T.agg SlT).has y) → ∃ l, es = slsV l ∧ l.length ≤ vbe es
  | [], _ => ⟨[], rfl, by simp⟩
  | y :: es, h => by
    obtain ⟨l, rfl, h2⟩ := sls_of (es := es) fun y hy => h y (by simp [hy])
    obtain ⟨r, rfl⟩ := has_sl (h y (by simp))
    have hp : 0 < vbs (slC r) := by simp [slC, vbs, vb]
    exact ⟨r :: l, rfl, by simp only [List.length_cons, vbe]; omega⟩
theorem arg_sls {x : V} (h : (T.sl 4 (.agg SlT)).arg x) : ∃ l, RdS ⟨[], []⟩ x 4 (slsV l) ∧ l.length < vba x := by
  obtain ⟨es, h1, h2, h3⟩ := arg_rd h
  obtain ⟨l, rfl, h4⟩ := sls_of h2
  exact ⟨l, h1, by omega⟩
/-- All of them added. -/
def adds (w : List Sl) (l : List Sl) : List Sl := l.foldl addW w
theorem adds_len : ∀ (l w : List Sl), (adds w l).length ≤ w.length + l.length
  | [], w => by simp [adds]
  | s :: l, w => by
    have h1 := adds_len l (addW w s)
    have h2 := addW_le w s
    simp only [adds, List.foldl_cons, List.length_cons] at h1 ⊢
    omega
theorem adds_snoc (w l : List Sl) (s : Sl) : adds w (l ++ [s]) = addW (adds w l) s := by simp [adds]
theorem adds_take {l : List Sl} {i : Nat} (h : i < l.length) : adds [] (l.take (i + 1)) = addW (adds [] (l.take i)) l[i] := by
  rw [List.take_succ_eq_append_getElem h, adds_snoc]
theorem adds_ok : ∀ (l w : List Sl), (∀ s ∈ w, okS s = true) → ∀ s ∈ adds w l, okS s = true
  | [], w, h => h
  | s :: l, w, h => by
    refine adds_ok l (addW w s) fun t ht => ?_
    unfold addW at ht
    cases hb : okS s && !hasB w s.a
    · rw [hb] at ht; exact h t ht
    · rw [hb] at ht
      rcases List.mem_append.1 ht with h1 | h1
      · exact h t h1
      · rw [List.mem_singleton] at h1
        rw [h1]
        rw [Bool.and_eq_true] at hb
        exact hb.1
def s1a : Sl := ⟨⟨1, 0⟩, zs⟩
def s2a : Sl := ⟨⟨2, 0⟩, ⟨1, 0⟩⟩
theorem ord_two : Ord [s1a, s2a] [s1a, s2a] := by
  have h1 : Ord [s1a] [s1a] := add_ord (w := []) (O := []) (s := s1a) fine_nil ord_nil (by decide) (by decide) (by simp) (j := 0) (i := 0) (.inl ⟨by decide, rfl⟩) (Nat.le_refl _) (by simp) (fun k hk => by simp at hk) (fun h => by simp at h)
  have hf : Fine [s1a] := fine_add (w := []) fine_nil (by decide) (by decide)
  exact add_ord (w := [s1a]) (O := [s1a]) (s := s2a) hf h1 (by decide) (by decide) (by simp [s1a, s2a, zs]) (j := 1) (i := 1) (.inr ⟨0, by simp, rfl, rfl⟩) (Nat.le_refl _) (by simp) (fun k hk h1 h2 => by omega) (fun h => by simp at h)
section
variable {σ : St} {i u k : Nat} {s v : V} {l O S : List Sl} {x : Sp}
set_option maxRecDepth 100000 in
set_option maxHeartbeats 3200000 in
theorem awake_ok : CallA Try.prog 14 [] σ fun v σ' => v = .bool true ∧ Ext σ σ' := by
  refine fn_at Try.func14 (by decide) comp14 rfl fun Q q1 q2 => ?_
  simp -implicitDefEqProofs only [go_sem, Nat.reduceBEq, Nat.reduceAdd, eq_self, true_and, and_true, and_self, List.getElem?_cons_zero, List.getElem?_cons_succ, Nat.reduceLeDiff, Nat.zero_add, Nat.reduceSub, Nat.le_refl, c14]
  refine call_at new_ok ?_
  rintro v τ ⟨rfl, h0, he0, hl0⟩
  refine ⟨kept_none, ?_⟩
  have hnew : ∀ j, Own (σ.objs.length + 2) σ.objs.length (σ.objs.length + 1) (.sl true .pub 0 []) j → σ.objs.length ≤ j := by
    rintro j (rfl | rfl | rfl | ⟨_, _, _, e⟩)
    · omega
    · omega
    · omega
    · cases e
  generalize σ.objs.length + 2 = i at *
  generalize σ.objs.length + 1 = k at *
  generalize hu : σ.objs.length = u at h0 hnew
  have e1 : addE [] ⟨⟨1, 0⟩, zs⟩ = 0 := by decide
  have w1 : addW [] ⟨⟨1, 0⟩, zs⟩ = [s1a] := by decide
  have e2 : addE [s1a] ⟨⟨2, 0⟩, ⟨1, 0⟩⟩ = 0 := by decide
  have w2 : addW [s1a] ⟨⟨2, 0⟩, ⟨1, 0⟩⟩ = [s1a, s2a] := by decide
  have e3 : addE [s1a, s2a] ⟨⟨2, 0⟩, ⟨1, 0⟩⟩ = 5 := by decide
  have w3 : addW [s1a, s2a] ⟨⟨2, 0⟩, ⟨1, 0⟩⟩ = [s1a, s2a] := by decide
  have h00 : decide ((0 : Int) = 0) = true := by decide
  have h55 : decide ((5 : Int) = 5) = true := by decide
  simp -implicitDefEqProofs only [go_sem, Nat.reduceBEq, Nat.reduceAdd, eq_self, true_and, and_true, and_self, List.getElem?_cons_zero, List.getElem?_cons_succ, Nat.reduceLeDiff, Nat.zero_add, Nat.reduceSub, Nat.le_refl, Nat.lt_irrefl]
  refine call_at (add_ok (a := ⟨1, 0⟩) (b := zs) h0 (by simp)) ?_
  rintro v τ1 ⟨rfl, t1, O1, h1, k1⟩
  refine ⟨kept_upd k1.upd, ?_⟩
  rw [w1] at h1
  simp -implicitDefEqProofs only [go_sem, Nat.reduceBEq, Nat.reduceAdd, eq_self, true_and, and_true, and_self, List.getElem?_cons_zero, List.getElem?_cons_succ, Nat.reduceLeDiff, Nat.zero_add, Nat.reduceSub, Nat.le_refl, e1, h00]
  refine call_at (add_ok (a := ⟨2, 0⟩) (b := ⟨1, 0⟩) h1 (by simp)) ?_
  rintro v τ2 ⟨rfl, t2, O2, h2, k2⟩
  refine ⟨kept_upd k2.upd, ?_⟩
  rw [w2] at h2
  simp -implicitDefEqProofs only [go_sem, Nat.reduceBEq, Nat.reduceAdd, eq_self, true_and, and_true, and_self, List.getElem?_cons_zero, List.getElem?_cons_succ, Nat.reduceLeDiff, Nat.zero_add, Nat.reduceSub, Nat.le_refl, e2, h00]
  refine call_at (add_ok (a := ⟨2, 0⟩) (b := ⟨1, 0⟩) h2 (by simp)) ?_
  rintro v τ3 ⟨rfl, t3, O3, h3, k3⟩
  refine ⟨kept_upd k3.upd, ?_⟩
  rw [w3] at h3
  simp -implicitDefEqProofs only [go_sem, Nat.reduceBEq, Nat.reduceAdd, eq_self, true_and, and_true, and_self, List.getElem?_cons_zero, List.getElem?_cons_succ, Nat.reduceLeDiff, Nat.zero_add, Nat.reduceSub, Nat.le_refl, e3, h55]
  refine call_at (order_ok h3 (by simp)) ?_
  rintro v τ4 ⟨a4, e4⟩
  refine ⟨e4.kept, ?_⟩
  have hO : O3 = [s1a, s2a] := h3.ord.eq h3.fine ord_two
  have hlit : RdS τ4 (.sl false .pub 2 [[.int .i64 1, .int .i64 0], [.int .i64 2, .int .i64 0]]) 2 (spsV [⟨1, 0⟩, ⟨2, 0⟩]) := ⟨_, _, _, rfl, (by simp), .inr ⟨trivial, rfl⟩⟩
  have hd : decide (stampsL O3 = [⟨1, 0⟩, ⟨2, 0⟩]) = true := by rw [hO]; decide
  simp -implicitDefEqProofs only [go_sem, Nat.reduceBEq, Nat.reduceAdd, eq_self, true_and, and_true, and_self, List.getElem?_cons_zero, List.getElem?_cons_succ, Nat.reduceLeDiff, Nat.zero_add, Nat.reduceSub, Nat.le_refl, Nat.lt_irrefl]
  refine call_at (same_ok a4.rd hlit (by rw [hO]; simp [stampsL])) ?_
  rintro v τ5 ⟨rfl, rfl⟩
  refine ⟨(Ext.refl _).kept, ?_⟩
  rw [hd]
  simp -implicitDefEqProofs only [go_sem, Nat.reduceBEq, Nat.reduceAdd, eq_self, true_and, and_true, and_self, List.getElem?_cons_zero, List.getElem?_cons_succ, Nat.reduceLeDiff, Nat.zero_add, Nat.reduceSub, Nat.le_refl, Nat.lt_irrefl]
  refine q2 _ _ ?_
  simp -implicitDefEqProofs only [go_sem, Nat.reduceBEq, Nat.reduceAdd, eq_self, true_and, and_true, and_self, List.getElem?_cons_zero, List.getElem?_cons_succ, Nat.reduceLeDiff, Nat.zero_add, Nat.reduceSub, Nat.le_refl, Nat.lt_irrefl]
  have kk := (k1.trans k2).trans k3
  exact (kk.upd.toExt he0 fun j hj => by rw [hu]; exact hnew j hj).trans e4
set_option maxRecDepth 100000 in
set_option maxHeartbeats 3200000 in
theorem laid_ok (hv : RdS σ v 4 (slsV l)) : CallA Try.prog 12 [v] σ fun x σ' => ∃ i u k s w O, x = .tup [.ptr (some (i, 0)), w] ∧ RowIs σ' i u k s O (adds [] (l.take 120)) ∧ RdS σ' w 4 (slsV (adds [] (l.take 120))) ∧ Ext σ σ' ∧ ∀ j, Own i u k s j → σ.objs.length ≤ j := by
  refine fn_at Try.func12 (by decide) comp12 rfl fun Q q1 q2 => ?_
  simp -implicitDefEqProofs only [go_sem, Nat.reduceBEq, Nat.reduceAdd, eq_self, true_and, and_true, and_self, List.getElem?_cons_zero, List.getElem?_cons_succ, Nat.reduceLeDiff, Nat.zero_add, Nat.reduceSub, Nat.le_refl, c12]
  refine call_at new_ok ?_
  rintro _ τ ⟨rfl, h0, he0, hl0⟩
  refine ⟨kept_none, ?_⟩
  have hnew : ∀ j, Own (σ.objs.length + 2) σ.objs.length (σ.objs.length + 1) (.sl true .pub 0 []) j → σ.objs.length ≤ j := by
    rintro j (rfl | rfl | rfl | ⟨_, _, _, e⟩)
    · omega
    · omega
    · omega
    · cases e
  generalize σ.objs.length + 2 = i at *
  generalize σ.objs.length + 1 = k at *
  generalize hu : σ.objs.length = u at h0 hnew
  simp -implicitDefEqProofs only [go_sem, Nat.reduceBEq, Nat.reduceAdd, eq_self, true_and, and_true, and_self, List.getElem?_cons_zero, List.getElem?_cons_succ, Nat.reduceLeDiff, Nat.zero_add, Nat.reduceSub, Nat.le_refl, Nat.lt_irrefl]
  have e1 : Ext σ ⟨τ.objs, τ.live ++ [true]⟩ := ext_push he0
  have h1 : RowIs ⟨τ.objs, τ.live ++ [true]⟩ i u k (.sl true .pub 0 []) [] [] := h0.ext (ext_live τ true)
  have hw0 : RdS ⟨τ.objs, τ.live ++ [true]⟩ (.sl false (.own τ.live.length) 4 []) 4 (slsV (adds [] ((l.take 120).take 0))) := ⟨_, _, _, rfl, (by simp), .inr ⟨live_last _ _, rfl⟩⟩
  refine call_at (cut_ok (hv.ext e1)) ?_
  rintro v' τ1 ⟨hv', rfl⟩
  refine ⟨kept_none, ?_⟩
  have hLl : (l.take 120).length ≤ 120 := by rw [List.length_take]; omega
  generalize l.take 120 = L at *
  obtain ⟨b, R, z, rfl, -, -⟩ := id hv'
  have hA := slsV_length L
  simp -implicitDefEqProofs only [go_sem, Nat.reduceBEq, Nat.reduceAdd, eq_self, true_and, and_true, and_self, List.getElem?_cons_zero, List.getElem?_cons_succ, Nat.reduceLeDiff, Nat.zero_add, Nat.reduceSub, Nat.le_refl, Nat.lt_irrefl]
  refine loop_at (fun (y : Nat × V) => ⟨[(0, .v (.sl b R z (slsV L))), (4, .v (.ptr (some (i, 0)))), (5, .v y.2), (6, .v (.int .i64 y.1))], []⟩)
    (fun y t => y.1 ≤ L.length ∧ (∃ s O, RowIs t i u k s O (adds [] (L.take y.1)) ∧ ∀ j, Own i u k s j → σ.objs.length ≤ j) ∧ RdS t y.2 4 (slsV (adds [] (L.take y.1))) ∧ Ext σ t ∧ RdS t (.sl b R z (slsV L)) 4 (slsV L)) (fun y => L.length - y.1) (0, .sl false (.own τ.live.length) 4 []) ?_ ?_ ?_
  · refine .inr ?_
    simp -implicitDefEqProofs only [go_sem, Nat.reduceBEq, Nat.reduceAdd, eq_self, true_and, and_true, and_self, List.getElem?_cons_zero, List.getElem?_cons_succ, Nat.reduceLeDiff, Nat.zero_add, Nat.reduceSub, Nat.le_refl, Nat.lt_irrefl]
    try trivial
  · exact ⟨Nat.zero_le _, ⟨_, _, h1, by rw [hu]; exact hnew⟩, hw0, e1, hv'⟩
  rintro ⟨y, w⟩ t ⟨g1, ⟨s, O, g2, g3⟩, g4, g5, g6⟩ Z z1 z2 z3
  simp only at g1 g2 g4
  simp -implicitDefEqProofs only [go_sem, Nat.reduceBEq, Nat.reduceAdd, eq_self, true_and, and_true, and_self, List.getElem?_cons_zero, List.getElem?_cons_succ, Nat.reduceLeDiff, Nat.zero_add, Nat.reduceSub, Nat.le_refl, Nat.lt_irrefl]
  refine CondW_b (fun hcc => ?_) (fun hcc => ?_)
  · have hi : y < L.length := by simpa [hA] using hcc
    have hget := slsV_get hi
    have hib : (y : Int) < (slsV L).length := by omega
    have hw : IntKind.i64.wrap ((y : Int) + 1) = ((y + 1 : Nat) : Int) := by rw [i64_in _ (by omega)]; omega
    obtain ⟨k1, k2⟩ := rdl g6 (by cases L <;> simp [slsV] at hi ⊢)
    have hat := adds_take hi
    have hln := adds_len (L.take y) []
    have hltk : (L.take y).length ≤ 120 := by rw [List.length_take]; omega
    simp only [List.length_nil] at hln
    generalize L[y] = d at *
    generalize adds [] (L.take y) = W at *
    simp -implicitDefEqProofs only [go_sem, Nat.reduceBEq, Nat.reduceAdd, eq_self, true_and, and_true, and_self, List.getElem?_cons_zero, List.getElem?_cons_succ, Nat.reduceLeDiff, Nat.zero_add, Nat.reduceSub, Nat.le_refl, hget, slC]
    refine ⟨⟨by omega, hib, k2⟩, k1, ⟨by omega, hib, k2⟩, k1, ?_⟩
    refine call_at (add_ok (a := d.a) (b := d.u) g2 (by omega)) ?_
    rintro _ t2 ⟨rfl, s2, O2, n1, n2⟩
    refine ⟨kept_upd n2.upd, ?_⟩
    have g6' := rdS_up g6 n2.upd
    have g4' := rdS_up g4 n2.upd
    have g5' := n2.upd.toExt g5 g3
    have hol := g5.olen
    have g3' : ∀ j, Own i u k s2 j → σ.objs.length ≤ j := fun j hj => (n2.own j hj).elim (g3 j) fun h => Nat.le_trans hol h
    obtain ⟨k1', k2'⟩ := rdl g6' (by cases L <;> simp [slsV] at hi ⊢)
    simp -implicitDefEqProofs only [go_sem, Nat.reduceBEq, Nat.reduceAdd, eq_self, true_and, and_true, and_self, List.getElem?_cons_zero, List.getElem?_cons_succ, Nat.reduceLeDiff, Nat.zero_add, Nat.reduceSub, Nat.le_refl, hget, slC]
    refine ⟨⟨by omega, hib, k2'⟩, k1', ?_⟩
    refine call_at (radd_ok (s := d) g4' (by omega)) ?_
    rintro _ t3 ⟨⟨x, rfl, x1⟩, e3, -⟩
    refine ⟨kept_none, ?_⟩
    simp -implicitDefEqProofs only [go_sem, Nat.reduceBEq, Nat.reduceAdd, eq_self, true_and, and_true, and_self, List.getElem?_cons_zero, List.getElem?_cons_succ, Nat.reduceLeDiff, Nat.zero_add, Nat.reduceSub, Nat.le_refl, hw]
    refine z1 (y + 1, x) _ _ (.inr ?_) (by simp only; omega) ⟨by simp only; omega, ⟨s2, O2, ?_, g3'⟩, ?_, g5'.trans e3, g6'.ext e3⟩
    · simp -implicitDefEqProofs only [go_sem, Nat.reduceBEq, Nat.reduceAdd, eq_self, true_and, and_true, and_self, List.getElem?_cons_zero, List.getElem?_cons_succ, Nat.reduceLeDiff, Nat.zero_add, Nat.reduceSub, Nat.le_refl, Nat.lt_irrefl]
    · simp only [hat]; exact n1.ext e3
    · simp only [hat]; exact x1
  · have hi : ¬ y < L.length := by simpa [hA] using hcc
    rw [List.take_of_length_le (by omega)] at g2 g4
    simp -implicitDefEqProofs only [go_sem, Nat.reduceBEq, Nat.reduceAdd, eq_self, true_and, and_true, and_self, List.getElem?_cons_zero, List.getElem?_cons_succ, Nat.reduceLeDiff, Nat.zero_add, Nat.reduceSub, Nat.le_refl, Nat.lt_irrefl]
    refine z2 _ _ _ ?_
    simp -implicitDefEqProofs only [go_sem, Nat.reduceBEq, Nat.reduceAdd, eq_self, true_and, and_true, and_self, List.getElem?_cons_zero, List.getElem?_cons_succ, Nat.reduceLeDiff, Nat.zero_add, Nat.reduceSub, Nat.le_refl, Nat.lt_irrefl]
    refine q2 _ _ ?_
    simp -implicitDefEqProofs only [go_sem, Nat.reduceBEq, Nat.reduceAdd, eq_self, true_and, and_true, and_self, List.getElem?_cons_zero, List.getElem?_cons_succ, Nat.reduceLeDiff, Nat.zero_add, Nat.reduceSub, Nat.le_refl, Nat.lt_irrefl]
    exact ⟨i, u, k, s, w, O, rfl, g2, g4, g5, g3⟩
end
end Go.VL.rga

namespace Go.VL.rga
open Go Go.VL Go.Proofs Go.IntWalk Go.VL.st Go.VL.row

section
variable {σ : St} {x : Sl}
theorem len_nil : CallA Try.prog 25 [.ptr none] σ fun v σ' => v = .int .i64 0 ∧ σ' = σ := by
  refine fn_at Try.func25 (by decide) comp25 rfl fun Q q1 q2 => ?_
  simp -implicitDefEqProofs only [go_sem, Nat.reduceBEq, Nat.reduceAdd, eq_self, true_and, and_true, and_self, List.getElem?_cons_zero, List.getElem?_cons_succ, Nat.reduceLeDiff, Nat.zero_add, Nat.reduceSub, Nat.le_refl, c25]
  refine q2 _ _ ?_
  simp -implicitDefEqProofs only [go_sem, Nat.reduceBEq, Nat.reduceAdd, eq_self, true_and, and_true, and_self, List.getElem?_cons_zero, List.getElem?_cons_succ, Nat.reduceLeDiff, Nat.zero_add, Nat.reduceSub, Nat.le_refl, Nat.lt_irrefl]
  try exact ⟨rfl, rfl⟩
set_option maxRecDepth 100000 in
set_option maxHeartbeats 3200000 in
theorem nil_ok : CallA Try.prog 11 [slV x] σ fun v _ => v = .bool true := by
  refine fn_at Try.func11 (by decide) comp11 rfl fun Q q1 q2 => ?_
  simp -implicitDefEqProofs only [go_sem, Nat.reduceBEq, Nat.reduceAdd, eq_self, true_and, and_true, and_self, List.getElem?_cons_zero, List.getElem?_cons_succ, Nat.reduceLeDiff, Nat.zero_add, Nat.reduceSub, Nat.le_refl, c11, slV, slC]
  have hz := zs_dec
  simp only [zs] at hz
  have e0 := ext_obj σ (.cells [.bool false])
  have hc0 : (σ.objs ++ [AObj.cells [.bool false]])[σ.objs.length]? = some (.cells [.bool false]) := by simp
  refine call_at (ahead_nil (x := x.a)) ?_
  rintro _ τ ⟨rfl, hτ⟩
  have hτ := hτ.symm
  subst hτ
  refine ⟨kept_none, ?_⟩
  simp -implicitDefEqProofs only [go_sem, Nat.reduceBEq, Nat.reduceAdd, eq_self, true_and, and_true, and_self, List.getElem?_cons_zero, List.getElem?_cons_succ, Nat.reduceLeDiff, Nat.zero_add, Nat.reduceSub, Nat.le_refl, spV, spC, zs]
  refine call_at each_nil ?_
  rintro _ τ1 ⟨e1, j, w, rfl, hjl, hj, hw⟩
  refine ⟨kept_none, ?_⟩
  have hc1 := e1.objs _ _ hc0
  have ex1 := e0.trans e1
  have hcl := (List.getElem?_eq_some_iff.1 hc1).1
  generalize σ.objs.length = c at *
  simp -implicitDefEqProofs only [go_sem, Nat.reduceBEq, Nat.reduceAdd, eq_self, true_and, and_true, and_self, List.getElem?_cons_zero, List.getElem?_cons_succ, Nat.reduceLeDiff, Nat.zero_add, Nat.reduceSub, Nat.le_refl, Nat.lt_irrefl]
  refine range_at ?_
  intro yl i0 r0 r1 r2 r3 hi hyy
  have e3 := ext_obj τ1 r0
  have hr0 : (⟨τ1.objs ++ [r0], τ1.live⟩ : St).objs[i0]? = some r0 := by rw [← hi]; simp
  refine CallA.mono (each1_ok (W := []) (fun R t => R = [] ∧ t.objs[i0]? = some r0 ∧ t.objs[c]? = some (.cells [.bool false]) ∧ ∀ q : Nat, τ1.live[q]? = some true → t.live[q]? = some true)
    (fun t => t.objs[i0]? = some r0 ∧ t.objs[c]? = some (.cells [.bool false])) (e3.objs _ _ hj) (hw.ext e3) (by simp) ⟨rfl, hr0, e3.objs _ _ hc1, fun _ h => h⟩ (fun R t h => h.2.2.2) (fun a R t h => by cases h.1) (fun t h => ⟨h.2.1, h.2.2.1⟩)) ?_
  rintro v t ⟨h1, h2⟩
  refine .inl ⟨h1, ?_⟩
  simp -implicitDefEqProofs only [go_sem, Nat.reduceBEq, Nat.reduceAdd, eq_self, true_and, and_true, and_self, List.getElem?_cons_zero, List.getElem?_cons_succ, Nat.reduceLeDiff, Nat.zero_add, Nat.reduceSub, Nat.le_refl, Nat.lt_irrefl]
  have h2' : (t.setA i0 (r3 .normal)).objs[c]? = some (.cells [.bool false]) := (setA_ne (by omega)).trans h2
  generalize t.setA i0 (r3 .normal) = t2 at h2' ⊢
  refine call_at add_nil ?_
  rintro _ t3 ⟨rfl, rfl⟩
  refine ⟨(Ext.refl _).kept, ?_⟩
  have h77 : decide ((7 : Int) = 7) = true := by decide
  have h00 : decide ((0 : Int) = 0) = true := by decide
  simp -implicitDefEqProofs only [go_sem, Nat.reduceBEq, Nat.reduceAdd, eq_self, true_and, and_true, and_self, List.getElem?_cons_zero, List.getElem?_cons_succ, Nat.reduceLeDiff, Nat.zero_add, Nat.reduceSub, Nat.le_refl, h77]
  refine call_at (has_nil (x := x.a)) ?_
  rintro _ t3 ⟨rfl, rfl⟩
  refine ⟨(Ext.refl _).kept, ?_⟩
  simp -implicitDefEqProofs only [go_sem, Nat.reduceBEq, Nat.reduceAdd, eq_self, true_and, and_true, and_self, List.getElem?_cons_zero, List.getElem?_cons_succ, Nat.reduceLeDiff, Nat.zero_add, Nat.reduceSub, Nat.le_refl, Bool.not_false]
  refine call_at len_nil ?_
  rintro _ t3 ⟨rfl, rfl⟩
  refine ⟨(Ext.refl _).kept, ?_⟩
  simp -implicitDefEqProofs only [go_sem, Nat.reduceBEq, Nat.reduceAdd, eq_self, true_and, and_true, and_self, List.getElem?_cons_zero, List.getElem?_cons_succ, Nat.reduceLeDiff, Nat.zero_add, Nat.reduceSub, Nat.le_refl, h00]
  refine call_at order_nil ?_
  rintro _ t4 ⟨a4, e4⟩
  refine ⟨e4.kept, ?_⟩
  have h4 := e4.objs _ _ h2'
  rcases a4 with ⟨-, rfl⟩ | ⟨q, rfl, -, -⟩
  all_goals
    have h0n : decide (((0 : Nat) : Int) = 0) = true := by decide
    simp -implicitDefEqProofs only [go_sem, Nat.reduceBEq, Nat.reduceAdd, eq_self, true_and, and_true, and_self, List.getElem?_cons_zero, List.getElem?_cons_succ, Nat.reduceLeDiff, Nat.zero_add, Nat.reduceSub, Nat.le_refl, h00, h0n, spsV, List.length_nil, List.map_nil, V.eqs, V.eq, h77, decide_true, Bool.and_self, Bool.not_false]
    refine call_at clone_nil ?_
    rintro _ t5 ⟨rfl, rfl⟩
    refine ⟨(Ext.refl _).kept, ?_⟩
    simp -implicitDefEqProofs only [go_sem, Nat.reduceBEq, Nat.reduceAdd, eq_self, true_and, and_true, and_self, List.getElem?_cons_zero, List.getElem?_cons_succ, Nat.reduceLeDiff, Nat.zero_add, Nat.reduceSub, Nat.le_refl, Nat.lt_irrefl]
    refine call_at awake_ok ?_
    rintro _ t6 ⟨rfl, e6⟩
    refine ⟨e6.kept, ?_⟩
    have h6 := e6.objs _ _ h4
    simp -implicitDefEqProofs only [go_sem, Nat.reduceBEq, Nat.reduceAdd, eq_self, true_and, and_true, and_self, List.getElem?_cons_zero, List.getElem?_cons_succ, Nat.reduceLeDiff, Nat.zero_add, Nat.reduceSub, Nat.le_refl, h6]
    refine q2 _ _ ?_
    have h7 := setC_get (cs := [.bool true]) (List.getElem?_eq_some_iff.1 h6).1
    simp -implicitDefEqProofs only [go_sem, Nat.reduceBEq, Nat.reduceAdd, eq_self, true_and, and_true, and_self, List.getElem?_cons_zero, List.getElem?_cons_succ, Nat.reduceLeDiff, Nat.zero_add, Nat.reduceSub, Nat.le_refl, h7]
end
end Go.VL.rga

namespace Go.VL.rga
open Go Go.VL Go.Proofs Go.IntWalk Go.VL.st Go.VL.row

theorem sp_self (y : Sp) : V.eqs [.int .i64 y.c, .int .i64 y.r] [.int .i64 y.c, .int .i64 y.r] = true := by rw [sp_eqs y y]; simp
theorem first_uniq {l : List Sp} {x : Sp} {a b : Nat} (ha : a < l.length) (hb : b < l.length) (h1 : l[a] = x) (h2 : x ∉ l.take a) (h3 : l[b] = x) (h4 : x ∉ l.take b) : a = b := by
  rcases Nat.lt_trichotomy a b with h | h | h
  · exact absurd (List.mem_iff_getElem.2 ⟨a, by rw [List.length_take]; omega, by rw [List.getElem_take]; exact h1⟩) h4
  · exact h
  · exact absurd (List.mem_iff_getElem.2 ⟨b, by rw [List.length_take]; omega, by rw [List.getElem_take]; exact h3⟩) h2
section
variable {σ : St} {x : Sp} {v : V} {l : List Sl}
set_option maxRecDepth 100000 in
set_option maxHeartbeats 3200000 in
theorem asks_ok (hv : RdS σ v 4 (slsV l)) : CallA Try.prog 8 [v, spV x] σ fun v _ => v = .bool true := by
  refine fn_at Try.func8 (by decide) comp8 rfl fun Q q1 q2 => ?_
  simp -implicitDefEqProofs only [go_sem, Nat.reduceBEq, Nat.reduceAdd, eq_self, true_and, and_true, and_self, List.getElem?_cons_zero, List.getElem?_cons_succ, Nat.reduceLeDiff, Nat.zero_add, Nat.reduceSub, Nat.le_refl, c8, spV, spC]
  refine call_at (laid_ok hv) ?_
  rintro _ τ ⟨i, u, k, s, w, O, rfl, h, hw, he, -⟩
  refine ⟨kept_none, ?_⟩
  have hSl := adds_len (l.take 120) []
  have hLl : (l.take 120).length ≤ 120 := by rw [List.length_take]; omega
  simp only [List.length_nil] at hSl
  generalize adds [] (l.take 120) = S at *
  have hlen := h.len
  have hls : (stampsL O).length = O.length := by simp [stampsL]
  simp -implicitDefEqProofs only [go_sem, Nat.reduceBEq, Nat.reduceAdd, eq_self, true_and, and_true, and_self, List.getElem?_cons_zero, List.getElem?_cons_succ, Nat.reduceLeDiff, Nat.zero_add, Nat.reduceSub, Nat.le_refl, Nat.lt_irrefl]
  refine call_at (rorder_ok h.fine (by omega) h.ord hw) ?_
  rintro w1 τ1 ⟨hw1, e1, -⟩
  refine ⟨kept_none, ?_⟩
  simp -implicitDefEqProofs only [go_sem, Nat.reduceBEq, Nat.reduceAdd, eq_self, true_and, and_true, and_self, List.getElem?_cons_zero, List.getElem?_cons_succ, Nat.reduceLeDiff, Nat.zero_add, Nat.reduceSub, Nat.le_refl, Nat.lt_irrefl]
  refine call_at (stamps_ok hw1.rd (by omega)) ?_
  rintro w2 τ2 ⟨⟨q, rfl, hq, hqn⟩, e2, -⟩
  refine ⟨kept_none, ?_⟩
  simp -implicitDefEqProofs only [go_sem, Nat.reduceBEq, Nat.reduceAdd, eq_self, true_and, and_true, and_self, List.getElem?_cons_zero, List.getElem?_cons_succ, Nat.reduceLeDiff, Nat.zero_add, Nat.reduceSub, Nat.le_refl, Nat.lt_irrefl]
  have hr2 : RdS τ2 (.sl false (.own q) 2 (spsV (stampsL O))) 2 (spsV (stampsL O)) := ⟨_, _, _, rfl, by simp, .inr ⟨hq, rfl⟩⟩
  refine call_at (rplace_ok (x := x) hr2 (by omega)) ?_
  rintro p τ3 ⟨hp, rfl⟩
  refine ⟨kept_none, ?_⟩
  simp -implicitDefEqProofs only [go_sem, Nat.reduceBEq, Nat.reduceAdd, eq_self, true_and, and_true, and_self, List.getElem?_cons_zero, List.getElem?_cons_succ, Nat.reduceLeDiff, Nat.zero_add, Nat.reduceSub, Nat.le_refl, Nat.lt_irrefl]
  have h3 := h.ext (e1.trans e2)
  refine call_at (ahead_ok (x := x) h3 (by omega)) ?_
  rintro _ τ4 ⟨⟨y, rfl, hy⟩, e4⟩
  refine ⟨kept_none, ?_⟩
  have h4 := h3.ext e4
  simp -implicitDefEqProofs only [go_sem, Nat.reduceBEq, Nat.reduceAdd, eq_self, true_and, and_true, and_self, List.getElem?_cons_zero, List.getElem?_cons_succ, Nat.reduceLeDiff, Nat.zero_add, Nat.reduceSub, Nat.le_refl, spV, spC]
  refine call_at (has_ok (x := x) h4) ?_
  rintro _ τ5 ⟨rfl, hτ⟩
  have hτ := hτ.symm
  subst hτ
  refine ⟨kept_none, ?_⟩
  have hb := hasB_ord h.ord x
  have hz := sp_self zs
  simp only [zs] at hz
  rcases hp with ⟨hn, rfl⟩ | ⟨p, hp, hpe, hpt, rfl⟩
  · have hy0 : y = zs := by
      rcases hy with ⟨-, e⟩ | ⟨k', hk', e, -, -⟩
      · exact e
      · exact absurd (List.mem_iff_getElem.2 ⟨k', hk', e⟩) hn
    subst hy0
    have hb0 : hasB S x = false := by rw [hb]; simpa using hn
    have c1 : decide ((-1 : Int) ≥ 0) = false := by decide
    have c2 : decide ((-1 : Int) > 0) = false := by decide
    have hbb : (false == false) = true := rfl
    simp -implicitDefEqProofs only [go_sem, Nat.reduceBEq, Nat.reduceAdd, eq_self, true_and, and_true, and_self, List.getElem?_cons_zero, List.getElem?_cons_succ, Nat.reduceLeDiff, Nat.zero_add, Nat.reduceSub, Nat.le_refl, hb0, c1, c2, hbb, Bool.not_true]
    simp -implicitDefEqProofs only [go_sem, Nat.reduceBEq, Nat.reduceAdd, eq_self, true_and, and_true, and_self, List.getElem?_cons_zero, List.getElem?_cons_succ, Nat.reduceLeDiff, Nat.zero_add, Nat.reduceSub, Nat.le_refl, hb0, c1, c2, zs, hz]
    refine call_at awake_ok ?_
    rintro _ t6 ⟨rfl, e6⟩
    refine ⟨e6.kept, ?_⟩
    simp -implicitDefEqProofs only [go_sem, Nat.reduceBEq, Nat.reduceAdd, eq_self, true_and, and_true, and_self, List.getElem?_cons_zero, List.getElem?_cons_succ, Nat.reduceLeDiff, Nat.zero_add, Nat.reduceSub, Nat.le_refl, Nat.lt_irrefl]
    refine q2 _ _ ?_
    simp -implicitDefEqProofs only [go_sem, Nat.reduceBEq, Nat.reduceAdd, eq_self, true_and, and_true, and_self, List.getElem?_cons_zero, List.getElem?_cons_succ, Nat.reduceLeDiff, Nat.zero_add, Nat.reduceSub, Nat.le_refl, Nat.lt_irrefl]
  · have hb1 : hasB S x = true := by rw [hb]; simp; exact List.mem_iff_getElem.2 ⟨p, hp, hpe⟩
    have hbb : (true == true) = true := rfl
    have c1 : decide ((p : Int) ≥ 0) = true := by simp
    rcases hy with ⟨hn, -⟩ | ⟨k', hk', e1', e2', hy⟩
    · exact absurd (List.mem_iff_getElem.2 ⟨p, hp, hpe⟩) hn
    obtain rfl := first_uniq hp hk' hpe hpt e1' e2'
    rcases hy with ⟨rfl, rfl⟩ | ⟨k2, hk2, rfl, hy⟩
    · have c2 : decide (((0 : Nat) : Int) > 0) = false := by decide
      simp -implicitDefEqProofs only [go_sem, Nat.reduceBEq, Nat.reduceAdd, eq_self, true_and, and_true, and_self, List.getElem?_cons_zero, List.getElem?_cons_succ, Nat.reduceLeDiff, Nat.zero_add, Nat.reduceSub, Nat.le_refl, hb1, c1, c2, hbb, Bool.not_true]
      simp -implicitDefEqProofs only [go_sem, Nat.reduceBEq, Nat.reduceAdd, eq_self, true_and, and_true, and_self, List.getElem?_cons_zero, List.getElem?_cons_succ, Nat.reduceLeDiff, Nat.zero_add, Nat.reduceSub, Nat.le_refl, c2, zs, hz]
      refine call_at awake_ok ?_
      rintro _ t6 ⟨rfl, e6⟩
      refine ⟨e6.kept, ?_⟩
      simp -implicitDefEqProofs only [go_sem, Nat.reduceBEq, Nat.reduceAdd, eq_self, true_and, and_true, and_self, List.getElem?_cons_zero, List.getElem?_cons_succ, Nat.reduceLeDiff, Nat.zero_add, Nat.reduceSub, Nat.le_refl, Nat.lt_irrefl]
      refine q2 _ _ ?_
      simp -implicitDefEqProofs only [go_sem, Nat.reduceBEq, Nat.reduceAdd, eq_self, true_and, and_true, and_self, List.getElem?_cons_zero, List.getElem?_cons_succ, Nat.reduceLeDiff, Nat.zero_add, Nat.reduceSub, Nat.le_refl, Nat.lt_irrefl]
    · have c2 : decide (((k2 + 1 : Nat) : Int) > 0) = true := by rw [decide_eq_true_eq]; omega
      have hw1' : IntKind.i64.wrap (((k2 + 1 : Nat) : Int) - 1) = (k2 : Int) := by rw [i64_in _ (by omega)]; omega
      have hget : (spsV (stampsL O))[((k2 : Nat) : Int).toNat]?.getD [] = [.int .i64 y.c, .int .i64 y.r] := by
        rw [Int.toNat_natCast]
        simp [spsV, hk2, hy, spC]
      have hib : (k2 : Int) < (spsV (stampsL O)).length := by simp [spsV]; simpa using hk2
      have hse := sp_self y
      have hr4 := hr2.ext e4
      obtain ⟨d1, d2⟩ := rdl hr4 (by intro e; rw [e] at hib; simp at hib; omega)
      simp -implicitDefEqProofs only [go_sem, Nat.reduceBEq, Nat.reduceAdd, eq_self, true_and, and_true, and_self, List.getElem?_cons_zero, List.getElem?_cons_succ, Nat.reduceLeDiff, Nat.zero_add, Nat.reduceSub, Nat.le_refl, hb1, c1, c2, hbb, Bool.not_true]
      simp -implicitDefEqProofs only [go_sem, Nat.reduceBEq, Nat.reduceAdd, eq_self, true_and, and_true, and_self, List.getElem?_cons_zero, List.getElem?_cons_succ, Nat.reduceLeDiff, Nat.zero_add, Nat.reduceSub, Nat.le_refl, c2, hw1', hget, hse]
      refine ⟨⟨by omega, hib⟩, d1, ?_⟩
      refine call_at awake_ok ?_
      rintro _ t6 ⟨rfl, e6⟩
      refine ⟨e6.kept, ?_⟩
      simp -implicitDefEqProofs only [go_sem, Nat.reduceBEq, Nat.reduceAdd, eq_self, true_and, and_true, and_self, List.getElem?_cons_zero, List.getElem?_cons_succ, Nat.reduceLeDiff, Nat.zero_add, Nat.reduceSub, Nat.le_refl, Nat.lt_irrefl]
      refine q2 _ _ ?_
      simp -implicitDefEqProofs only [go_sem, Nat.reduceBEq, Nat.reduceAdd, eq_self, true_and, and_true, and_self, List.getElem?_cons_zero, List.getElem?_cons_succ, Nat.reduceLeDiff, Nat.zero_add, Nat.reduceSub, Nat.le_refl, Nat.lt_irrefl]
end
end Go.VL.rga

namespace Go.VL.rga
open Go Go.VL Go.Proofs Go.IntWalk Go.VL.st Go.VL.row

theorem okS_right {s : Sl} (h : okS s = true) : right s.a = true := by
  unfold okS at h
  rw [Bool.and_eq_true] at h
  exact h.1
theorem last_less {t : Sl} (h : okS t = true) (hne : t.a ≠ ⟨1099511627776, 63⟩) : less t.a ⟨1099511627776, 63⟩ = true := by
  have := okS_right h
  simp only [right, less, Bool.and_eq_true, Bool.or_eq_true, decide_eq_true_eq] at *
  have hne' : ¬ (t.a.c = 1099511627776 ∧ t.a.r = 63) := fun e => hne (sp_iff.2 e)
  omega
section
variable {σ : St} {x : Sp} {v : V} {l : List Sl}
set_option maxRecDepth 100000 in
set_option maxHeartbeats 3200000 in
theorem latest_ok (hv : RdS σ v 4 (slsV l)) : CallA Try.prog 9 [v, spV x] σ fun v _ => v = .bool true := by
  refine fn_at Try.func9 (by decide) comp9 rfl fun Q q1 q2 => ?_
  simp -implicitDefEqProofs only [go_sem, Nat.reduceBEq, Nat.reduceAdd, eq_self, true_and, and_true, and_self, List.getElem?_cons_zero, List.getElem?_cons_succ, Nat.reduceLeDiff, Nat.zero_add, Nat.reduceSub, Nat.le_refl, c9, spV, spC]
  refine call_at (laid_ok hv) ?_
  rintro _ τ ⟨i, u, k, s, w, O, rfl, h, hw, he, -⟩
  refine ⟨kept_none, ?_⟩
  have hSl := adds_len (l.take 120) []
  have hLl : (l.take 120).length ≤ 120 := by rw [List.length_take]; omega
  have hok := adds_ok (l.take 120) [] (by simp)
  simp only [List.length_nil] at hSl
  generalize adds [] (l.take 120) = S at *
  have hlen := h.len
  have hz := sp_self zs
  simp only [zs] at hz
  simp -implicitDefEqProofs only [go_sem, Nat.reduceBEq, Nat.reduceAdd, eq_self, true_and, and_true, and_self, List.getElem?_cons_zero, List.getElem?_cons_succ, Nat.reduceLeDiff, Nat.zero_add, Nat.reduceSub, Nat.le_refl, Nat.lt_irrefl]
  refine call_at (add_ok (a := ⟨1099511627776, 63⟩) (b := x) h (by omega)) ?_
  rintro _ τ1 ⟨rfl, s', O', h1, t1⟩
  refine ⟨kept_none, ?_⟩
  have hw1 := rdS_up hw t1.upd
  have hb1 : ∀ s : Sl, okS s = okS s := fun _ => rfl
  cases ho : okS ⟨⟨1099511627776, 63⟩, x⟩
  · have ha : addE S ⟨⟨1099511627776, 63⟩, x⟩ = 2 := by simp [addE, ho]
    have c1 : decide ((2 : Int) = 0) = false := by decide
    simp -implicitDefEqProofs only [go_sem, Nat.reduceBEq, Nat.reduceAdd, eq_self, true_and, and_true, and_self, List.getElem?_cons_zero, List.getElem?_cons_succ, Nat.reduceLeDiff, Nat.zero_add, Nat.reduceSub, Nat.le_refl, ha, c1, Bool.not_false]
    refine call_at (rhas_ok (x := ⟨1099511627776, 63⟩) hw1 (by omega)) ?_
    rintro _ τ2 ⟨rfl, hτ⟩
    have hτ := hτ.symm
    subst hτ
    refine ⟨kept_none, ?_⟩
    cases hh : hasB S ⟨1099511627776, 63⟩
    · simp -implicitDefEqProofs only [go_sem, Nat.reduceBEq, Nat.reduceAdd, eq_self, true_and, and_true, and_self, List.getElem?_cons_zero, List.getElem?_cons_succ, Nat.reduceLeDiff, Nat.zero_add, Nat.reduceSub, Nat.le_refl, Nat.lt_irrefl]
      refine call_at (rslot_ok (t := ⟨⟨1099511627776, 63⟩, x⟩)) ?_
      rintro _ τ2 ⟨hτ, rfl⟩
      have hτ := hτ.symm
      subst hτ
      refine ⟨kept_none, ?_⟩
      simp -implicitDefEqProofs only [go_sem, Nat.reduceBEq, Nat.reduceAdd, eq_self, true_and, and_true, and_self, List.getElem?_cons_zero, List.getElem?_cons_succ, Nat.reduceLeDiff, Nat.zero_add, Nat.reduceSub, Nat.le_refl, ho, Bool.not_false]
      refine call_at awake_ok ?_
      rintro _ t6 ⟨rfl, e6⟩
      refine ⟨e6.kept, ?_⟩
      simp -implicitDefEqProofs only [go_sem, Nat.reduceBEq, Nat.reduceAdd, eq_self, true_and, and_true, and_self, List.getElem?_cons_zero, List.getElem?_cons_succ, Nat.reduceLeDiff, Nat.zero_add, Nat.reduceSub, Nat.le_refl, Nat.lt_irrefl]
      refine q2 _ _ ?_
      simp -implicitDefEqProofs only [go_sem, Nat.reduceBEq, Nat.reduceAdd, eq_self, true_and, and_true, and_self, List.getElem?_cons_zero, List.getElem?_cons_succ, Nat.reduceLeDiff, Nat.zero_add, Nat.reduceSub, Nat.le_refl, Nat.lt_irrefl]
    · simp -implicitDefEqProofs only [go_sem, Nat.reduceBEq, Nat.reduceAdd, eq_self, true_and, and_true, and_self, List.getElem?_cons_zero, List.getElem?_cons_succ, Nat.reduceLeDiff, Nat.zero_add, Nat.reduceSub, Nat.le_refl, Nat.lt_irrefl]
      refine call_at awake_ok ?_
      rintro _ t6 ⟨rfl, e6⟩
      refine ⟨e6.kept, ?_⟩
      simp -implicitDefEqProofs only [go_sem, Nat.reduceBEq, Nat.reduceAdd, eq_self, true_and, and_true, and_self, List.getElem?_cons_zero, List.getElem?_cons_succ, Nat.reduceLeDiff, Nat.zero_add, Nat.reduceSub, Nat.le_refl, Nat.lt_irrefl]
      refine q2 _ _ ?_
      simp -implicitDefEqProofs only [go_sem, Nat.reduceBEq, Nat.reduceAdd, eq_self, true_and, and_true, and_self, List.getElem?_cons_zero, List.getElem?_cons_succ, Nat.reduceLeDiff, Nat.zero_add, Nat.reduceSub, Nat.le_refl, Nat.lt_irrefl]
  cases hh : hasB S ⟨1099511627776, 63⟩
  case true =>
    have ha : addE S ⟨⟨1099511627776, 63⟩, x⟩ = 5 := by simp [addE, ho, hh]
    have c1 : decide ((5 : Int) = 0) = false := by decide
    simp -implicitDefEqProofs only [go_sem, Nat.reduceBEq, Nat.reduceAdd, eq_self, true_and, and_true, and_self, List.getElem?_cons_zero, List.getElem?_cons_succ, Nat.reduceLeDiff, Nat.zero_add, Nat.reduceSub, Nat.le_refl, ha, c1, Bool.not_false]
    refine call_at (rhas_ok (x := ⟨1099511627776, 63⟩) hw1 (by omega)) ?_
    rintro _ τ2 ⟨rfl, hτ⟩
    have hτ := hτ.symm
    subst hτ
    refine ⟨kept_none, ?_⟩
    simp -implicitDefEqProofs only [go_sem, Nat.reduceBEq, Nat.reduceAdd, eq_self, true_and, and_true, and_self, List.getElem?_cons_zero, List.getElem?_cons_succ, Nat.reduceLeDiff, Nat.zero_add, Nat.reduceSub, Nat.le_refl, hh]
    refine call_at awake_ok ?_
    rintro _ t6 ⟨rfl, e6⟩
    refine ⟨e6.kept, ?_⟩
    simp -implicitDefEqProofs only [go_sem, Nat.reduceBEq, Nat.reduceAdd, eq_self, true_and, and_true, and_self, List.getElem?_cons_zero, List.getElem?_cons_succ, Nat.reduceLeDiff, Nat.zero_add, Nat.reduceSub, Nat.le_refl, Nat.lt_irrefl]
    refine q2 _ _ ?_
    simp -implicitDefEqProofs only [go_sem, Nat.reduceBEq, Nat.reduceAdd, eq_self, true_and, and_true, and_self, List.getElem?_cons_zero, List.getElem?_cons_succ, Nat.reduceLeDiff, Nat.zero_add, Nat.reduceSub, Nat.le_refl, Nat.lt_irrefl]
  have ha : addE S ⟨⟨1099511627776, 63⟩, x⟩ = 0 := by simp [addE, ho, hh]
  have hW : addW S ⟨⟨1099511627776, 63⟩, x⟩ = S ++ [⟨⟨1099511627776, 63⟩, x⟩] := by simp [addW, ho, hh]
  rw [hW] at h1
  have c1 : decide ((0 : Int) = 0) = true := by decide
  simp -implicitDefEqProofs only [go_sem, Nat.reduceBEq, Nat.reduceAdd, eq_self, true_and, and_true, and_self, List.getElem?_cons_zero, List.getElem?_cons_succ, Nat.reduceLeDiff, Nat.zero_add, Nat.reduceSub, Nat.le_refl, ha, c1, Bool.not_true]
  refine call_at (ahead_ok (x := ⟨1099511627776, 63⟩) h1 (by rw [List.length_append]; simp; omega)) ?_
  rintro _ τ2 ⟨⟨y, rfl, hy⟩, e2⟩
  refine ⟨kept_none, ?_⟩
  have hth : hasB (S ++ [⟨⟨1099511627776, 63⟩, x⟩]) ⟨1099511627776, 63⟩ = true := by simp [hasB_app]
  have hlt : ∀ t ∈ S, less t.a (⟨⟨1099511627776, 63⟩, x⟩ : Sl).a = true := fun t ht => last_less (hok t ht) fun e => by
    have := hasB_iff.2 ⟨t, ht, e⟩
    rw [hh] at this; cases this
  have hlaw : y = bif hasB S x then x else zs := by
    rcases hy with ⟨hn, -⟩ | ⟨p, hp, hpe, hpt, hy⟩
    · have := hasB_ord h1.ord ⟨1099511627776, 63⟩
      rw [hth] at this
      exact absurd (by simpa using this.symm) hn
    have hp' : p < O'.length := by simpa [stampsL] using hp
    have hpe' : O'[p].a = ⟨1099511627776, 63⟩ := by simpa [stampsL] using hpe
    rcases latest_law (x := x) (y := y) h1.fine h1.ord hlt hp' hpe' with ⟨h0, hb⟩ | ⟨q, hq, h0, hqe, hb⟩
    · simp only at hb
      rw [hb]
      rcases hy with ⟨-, e⟩ | ⟨k', hk', e, -⟩
      · exact e
      · omega
    · simp only at hb hqe
      rw [hb]
      rcases hy with ⟨e, -⟩ | ⟨k', hk', e, hy⟩
      · omega
      · have : k' = q := by omega
        subst this
        rw [← hy]
        simpa [stampsL] using hqe
  simp -implicitDefEqProofs only [go_sem, Nat.reduceBEq, Nat.reduceAdd, eq_self, true_and, and_true, and_self, List.getElem?_cons_zero, List.getElem?_cons_succ, Nat.reduceLeDiff, Nat.zero_add, Nat.reduceSub, Nat.le_refl, hth, spV, spC]
  refine call_at (rhas_ok (x := x) (hw1.ext e2) (by omega)) ?_
  rintro _ τ3 ⟨rfl, hτ⟩
  have hτ := hτ.symm
  subst hτ
  refine ⟨kept_none, ?_⟩
  have hse := sp_self x
  cases hb : hasB S x <;> rw [hb] at hlaw
  · have hlaw : y = zs := hlaw
    subst hlaw
    simp -implicitDefEqProofs only [go_sem, Nat.reduceBEq, Nat.reduceAdd, eq_self, true_and, and_true, and_self, List.getElem?_cons_zero, List.getElem?_cons_succ, Nat.reduceLeDiff, Nat.zero_add, Nat.reduceSub, Nat.le_refl, hth, hb, zs, hz]
    refine call_at awake_ok ?_
    rintro _ t6 ⟨rfl, e6⟩
    refine ⟨e6.kept, ?_⟩
    simp -implicitDefEqProofs only [go_sem, Nat.reduceBEq, Nat.reduceAdd, eq_self, true_and, and_true, and_self, List.getElem?_cons_zero, List.getElem?_cons_succ, Nat.reduceLeDiff, Nat.zero_add, Nat.reduceSub, Nat.le_refl, Nat.lt_irrefl]
    refine q2 _ _ ?_
    simp -implicitDefEqProofs only [go_sem, Nat.reduceBEq, Nat.reduceAdd, eq_self, true_and, and_true, and_self, List.getElem?_cons_zero, List.getElem?_cons_succ, Nat.reduceLeDiff, Nat.zero_add, Nat.reduceSub, Nat.le_refl, Nat.lt_irrefl]
  · have hlaw : y = x := hlaw
    subst hlaw
    simp -implicitDefEqProofs only [go_sem, Nat.reduceBEq, Nat.reduceAdd, eq_self, true_and, and_true, and_self, List.getElem?_cons_zero, List.getElem?_cons_succ, Nat.reduceLeDiff, Nat.zero_add, Nat.reduceSub, Nat.le_refl, hth, hb, hse]
    refine call_at awake_ok ?_
    rintro _ t6 ⟨rfl, e6⟩
    refine ⟨e6.kept, ?_⟩
    simp -implicitDefEqProofs only [go_sem, Nat.reduceBEq, Nat.reduceAdd, eq_self, true_and, and_true, and_self, List.getElem?_cons_zero, List.getElem?_cons_succ, Nat.reduceLeDiff, Nat.zero_add, Nat.reduceSub, Nat.le_refl, Nat.lt_irrefl]
    refine q2 _ _ ?_
    simp -implicitDefEqProofs only [go_sem, Nat.reduceBEq, Nat.reduceAdd, eq_self, true_and, and_true, and_self, List.getElem?_cons_zero, List.getElem?_cons_succ, Nat.reduceLeDiff, Nat.zero_add, Nat.reduceSub, Nat.le_refl, Nat.lt_irrefl]
end
end Go.VL.rga

namespace Go.VL.rga
open Go Go.VL Go.Proofs Go.IntWalk Go.VL.st Go.VL.row

section
variable {σ : St} {x : Sp} {v : V} {l : List Sl}
set_option maxRecDepth 100000 in
set_option maxHeartbeats 3200000 in
theorem adds_law (hv : RdS σ v 4 (slsV l)) : CallA Try.prog 6 [v] σ fun v _ => v = .bool true := by
  refine fn_at Try.func6 (by decide) comp6 rfl fun Q q1 q2 => ?_
  simp -implicitDefEqProofs only [go_sem, Nat.reduceBEq, Nat.reduceAdd, eq_self, true_and, and_true, and_self, List.getElem?_cons_zero, List.getElem?_cons_succ, Nat.reduceLeDiff, Nat.zero_add, Nat.reduceSub, Nat.le_refl, c6]
  refine call_at new_ok ?_
  rintro _ τ ⟨rfl, h0, he0, hl0⟩
  refine ⟨kept_none, ?_⟩
  generalize σ.objs.length + 2 = i at *
  generalize σ.objs.length + 1 = k at *
  generalize σ.objs.length = u at *
  simp -implicitDefEqProofs only [go_sem, Nat.reduceBEq, Nat.reduceAdd, eq_self, true_and, and_true, and_self, List.getElem?_cons_zero, List.getElem?_cons_succ, Nat.reduceLeDiff, Nat.zero_add, Nat.reduceSub, Nat.le_refl, Nat.lt_irrefl]
  have e1 : Ext σ ⟨τ.objs, τ.live ++ [true]⟩ := ext_push he0
  have h1 : RowIs ⟨τ.objs, τ.live ++ [true]⟩ i u k (.sl true .pub 0 []) [] [] := h0.ext (ext_live τ true)
  have hw0 : RdS ⟨τ.objs, τ.live ++ [true]⟩ (.sl false (.own τ.live.length) 4 []) 4 (slsV (adds [] ((l.take 120).take 0))) := ⟨_, _, _, rfl, (by simp), .inr ⟨live_last _ _, rfl⟩⟩
  refine call_at (cut_ok (hv.ext e1)) ?_
  rintro v' τ1 ⟨hv', rfl⟩
  refine ⟨kept_none, ?_⟩
  have hLl : (l.take 120).length ≤ 120 := by rw [List.length_take]; omega
  generalize l.take 120 = L at *
  obtain ⟨b, R, z, rfl, -, -⟩ := id hv'
  have hA := slsV_length L
  simp -implicitDefEqProofs only [go_sem, Nat.reduceBEq, Nat.reduceAdd, eq_self, true_and, and_true, and_self, List.getElem?_cons_zero, List.getElem?_cons_succ, Nat.reduceLeDiff, Nat.zero_add, Nat.reduceSub, Nat.le_refl, Nat.lt_irrefl]
  refine loop_at (fun (y : Nat × V) => ⟨[(0, .v (.sl b R z (slsV L))), (3, .v (.ptr (some (i, 0)))), (4, .v y.2), (5, .v (.int .i64 y.1))], []⟩)
    (fun y t => y.1 ≤ L.length ∧ (∃ s O, RowIs t i u k s O (adds [] (L.take y.1))) ∧ RdS t y.2 4 (slsV (adds [] (L.take y.1))) ∧ RdS t (.sl b R z (slsV L)) 4 (slsV L)) (fun y => L.length - y.1) (0, .sl false (.own τ.live.length) 4 []) ?_ ?_ ?_
  · refine .inr ?_
    simp -implicitDefEqProofs only [go_sem, Nat.reduceBEq, Nat.reduceAdd, eq_self, true_and, and_true, and_self, List.getElem?_cons_zero, List.getElem?_cons_succ, Nat.reduceLeDiff, Nat.zero_add, Nat.reduceSub, Nat.le_refl, Nat.lt_irrefl]
    try trivial
  · exact ⟨Nat.zero_le _, ⟨_, _, h1⟩, hw0, hv'⟩
  rintro ⟨y, w⟩ t ⟨g1, ⟨s, O, g2⟩, g4, g6⟩ Z z1 z2 z3
  simp only at g1 g2 g4
  simp -implicitDefEqProofs only [go_sem, Nat.reduceBEq, Nat.reduceAdd, eq_self, true_and, and_true, and_self, List.getElem?_cons_zero, List.getElem?_cons_succ, Nat.reduceLeDiff, Nat.zero_add, Nat.reduceSub, Nat.le_refl, Nat.lt_irrefl]
  refine CondW_b (fun hcc => ?_) (fun hcc => ?_)
  · have hi : y < L.length := by simpa [hA] using hcc
    have hget := slsV_get hi
    have hib : (y : Int) < (slsV L).length := by omega
    have hw : IntKind.i64.wrap ((y : Int) + 1) = ((y + 1 : Nat) : Int) := by rw [i64_in _ (by omega)]; omega
    have hLn : slsV L ≠ [] := by cases L <;> simp [slsV] at hi ⊢
    obtain ⟨k1, k2⟩ := rdl g6 hLn
    have hat := adds_take hi
    have hln := adds_len (L.take y) []
    have hltk : (L.take y).length ≤ 120 := by rw [List.length_take]; omega
    simp only [List.length_nil] at hln
    generalize L[y] = d at *
    generalize adds [] (L.take y) = W at *
    simp -implicitDefEqProofs only [go_sem, Nat.reduceBEq, Nat.reduceAdd, eq_self, true_and, and_true, and_self, List.getElem?_cons_zero, List.getElem?_cons_succ, Nat.reduceLeDiff, Nat.zero_add, Nat.reduceSub, Nat.le_refl, hget, slC]
    refine ⟨⟨by omega, hib, k2⟩, k1, ?_⟩
    refine call_at (radd_ok (s := d) g4 (by omega)) ?_
    rintro _ t3 ⟨⟨x, rfl, x1⟩, e3, -⟩
    refine ⟨kept_none, ?_⟩
    have g2' := g2.ext e3
    have g6' := g6.ext e3
    obtain ⟨k1', -⟩ := rdl g6' hLn
    obtain ⟨bx, Rx, zx, rfl, -, -⟩ := id x1
    simp -implicitDefEqProofs only [go_sem, Nat.reduceBEq, Nat.reduceAdd, eq_self, true_and, and_true, and_self, List.getElem?_cons_zero, List.getElem?_cons_succ, Nat.reduceLeDiff, Nat.zero_add, Nat.reduceSub, Nat.le_refl, hget, slC]
    refine ⟨⟨by omega, hib, k2⟩, k1', ⟨by omega, hib, k2⟩, k1', ?_⟩
    refine call_at (add_ok (a := d.a) (b := d.u) g2' (by omega)) ?_
    rintro _ t4 ⟨rfl, s2, O2, n1, n2⟩
    refine ⟨kept_upd n2.upd, ?_⟩
    have g6'' := rdS_up g6' n2.upd
    have x1' := rdS_up x1 n2.upd
    have hWl := addW_le W d
    have hAA := slsV_length (addW W d)
    have hda : (⟨d.a, d.u⟩ : Sl) = d := rfl
    rw [hda] at n1
    simp -implicitDefEqProofs only [go_sem, Nat.reduceBEq, Nat.reduceAdd, eq_self, true_and, and_true, and_self, List.getElem?_cons_zero, List.getElem?_cons_succ, Nat.reduceLeDiff, Nat.zero_add, Nat.reduceSub, Nat.le_refl, hda, decide_true, Bool.not_true]
    refine call_at (len_ok n1) ?_
    rintro _ t5 ⟨hτ, rfl⟩
    have hτ := hτ.symm
    subst hτ
    refine ⟨(Ext.refl _).kept, ?_⟩
    simp -implicitDefEqProofs only [go_sem, Nat.reduceBEq, Nat.reduceAdd, eq_self, true_and, and_true, and_self, List.getElem?_cons_zero, List.getElem?_cons_succ, Nat.reduceLeDiff, Nat.zero_add, Nat.reduceSub, Nat.le_refl, hAA, decide_true, Bool.not_true]
    refine call_at (order_ok n1 (by omega)) ?_
    rintro w3 t5 ⟨a5, e5⟩
    refine ⟨e5.kept, ?_⟩
    simp -implicitDefEqProofs only [go_sem, Nat.reduceBEq, Nat.reduceAdd, eq_self, true_and, and_true, and_self, List.getElem?_cons_zero, List.getElem?_cons_succ, Nat.reduceLeDiff, Nat.zero_add, Nat.reduceSub, Nat.le_refl, Nat.lt_irrefl]
    refine call_at (rorder_ok n1.fine (by omega) n1.ord (x1'.ext e5)) ?_
    rintro w1 t6 ⟨hw1, e6, -⟩
    refine ⟨e6.kept, ?_⟩
    have hlen2 := n1.len
    simp -implicitDefEqProofs only [go_sem, Nat.reduceBEq, Nat.reduceAdd, eq_self, true_and, and_true, and_self, List.getElem?_cons_zero, List.getElem?_cons_succ, Nat.reduceLeDiff, Nat.zero_add, Nat.reduceSub, Nat.le_refl, Nat.lt_irrefl]
    refine call_at (stamps_ok hw1.rd (by omega)) ?_
    rintro w2 t7 ⟨hw2, e7, -⟩
    refine ⟨e7.kept, ?_⟩
    simp -implicitDefEqProofs only [go_sem, Nat.reduceBEq, Nat.reduceAdd, eq_self, true_and, and_true, and_self, List.getElem?_cons_zero, List.getElem?_cons_succ, Nat.reduceLeDiff, Nat.zero_add, Nat.reduceSub, Nat.le_refl, Nat.lt_irrefl]
    have hsl : (stampsL O2).length = O2.length := by simp [stampsL]
    refine call_at (same_ok (a5.rd.ext (e6.trans e7)) hw2.rd (by omega)) ?_
    rintro _ t8 ⟨rfl, hτ⟩
    have hτ := hτ.symm
    subst hτ
    refine ⟨(Ext.refl _).kept, ?_⟩
    simp -implicitDefEqProofs only [go_sem, Nat.reduceBEq, Nat.reduceAdd, eq_self, true_and, and_true, and_self, List.getElem?_cons_zero, List.getElem?_cons_succ, Nat.reduceLeDiff, Nat.zero_add, Nat.reduceSub, Nat.le_refl, decide_true, Bool.not_true, hw]
    have e57 := (e5.trans e6).trans e7
    refine z1 (y + 1, .sl bx Rx zx (slsV (addW W d))) _ _ (.inr ?_) (by simp only; omega) ⟨by simp only; omega, ⟨s2, O2, ?_⟩, ?_, g6''.ext e57⟩
    · simp -implicitDefEqProofs only [go_sem, Nat.reduceBEq, Nat.reduceAdd, eq_self, true_and, and_true, and_self, List.getElem?_cons_zero, List.getElem?_cons_succ, Nat.reduceLeDiff, Nat.zero_add, Nat.reduceSub, Nat.le_refl, Nat.lt_irrefl]
    · simp only [hat]; exact n1.ext e57
    · simp only [hat]; exact x1'.ext e57
  · simp -implicitDefEqProofs only [go_sem, Nat.reduceBEq, Nat.reduceAdd, eq_self, true_and, and_true, and_self, List.getElem?_cons_zero, List.getElem?_cons_succ, Nat.reduceLeDiff, Nat.zero_add, Nat.reduceSub, Nat.le_refl, Nat.lt_irrefl]
    refine z2 _ _ _ ?_
    simp -implicitDefEqProofs only [go_sem, Nat.reduceBEq, Nat.reduceAdd, eq_self, true_and, and_true, and_self, List.getElem?_cons_zero, List.getElem?_cons_succ, Nat.reduceLeDiff, Nat.zero_add, Nat.reduceSub, Nat.le_refl, Nat.lt_irrefl]
    refine call_at awake_ok ?_
    rintro _ t6 ⟨rfl, e6⟩
    refine ⟨kept_none, ?_⟩
    simp -implicitDefEqProofs only [go_sem, Nat.reduceBEq, Nat.reduceAdd, eq_self, true_and, and_true, and_self, List.getElem?_cons_zero, List.getElem?_cons_succ, Nat.reduceLeDiff, Nat.zero_add, Nat.reduceSub, Nat.le_refl, Nat.lt_irrefl]
    refine q2 _ _ ?_
    simp -implicitDefEqProofs only [go_sem, Nat.reduceBEq, Nat.reduceAdd, eq_self, true_and, and_true, and_self, List.getElem?_cons_zero, List.getElem?_cons_succ, Nat.reduceLeDiff, Nat.zero_add, Nat.reduceSub, Nat.le_refl, Nat.lt_irrefl]
end
end Go.VL.rga

namespace Go.VL.rga
open Go Go.VL Go.Proofs Go.IntWalk Go.VL.st Go.VL.row

theorem stamps_get {O : List Sl} {m : Nat} (h : m < O.length) : (spsV (stampsL O))[((m : Nat) : Int).toNat]?.getD [] = [.int .i64 O[m].a.c, .int .i64 O[m].a.r] := by
  rw [Int.toNat_natCast]
  simp [spsV, stampsL, h, spC]
/-- Where the After stands. -/
theorem from_at {S O : List Sl} (hS : Fine S) (hO : Ord S O) {d : Sl} (hd : d ∈ S) {p : Nat} (hp : p < O.length) (hpe : O[p] = d) {w : V} (h : IsAt d.u (stampsL O) w) :
    ∃ (f : Int) (m0 : Nat), w = .int .i64 f ∧ f + 1 = m0 ∧ m0 ≤ p ∧ decide (f ≥ p) = false ∧ decide (f ≥ 0) = hasB S d.u ∧ ∀ (k : Nat) (hk : k < p), m0 ≤ k → less d.a (O[k]'(by omega)).a = true := by
  subst hpe
  have hb := hasB_ord hO O[p].u
  rcases h with ⟨hn, rfl⟩ | ⟨q, hq, hqe, -, rfl⟩
  · refine ⟨-1, 0, rfl, by omega, by omega, by simp; omega, by rw [hb]; simpa using hn, fun k hk _ => (behind_all hS hO hp hk fun q hq e => ?_).1⟩
    exact absurd (List.mem_iff_getElem.2 ⟨q, by simpa [stampsL] using hq, by simpa [stampsL] using e⟩) hn
  · have hq' : q < O.length := by simpa [stampsL] using hq
    have hqe' : O[q].a = O[p].u := by simpa [stampsL] using hqe
    have hqp := behind_up hS hO hp hq' hqe'
    refine ⟨q, q + 1, rfl, by omega, by omega, by simp; omega, ?_, fun k hk hm => (behind_all hS hO hp hk fun q' hq2 e => ?_).1⟩
    · rw [hb]
      have : O[p].u ∈ stampsL O := List.mem_iff_getElem.2 ⟨q, hq, hqe⟩
      simp [this]
    · have := hO.nd hS hq2 hq' (e.trans hqe'.symm)
      omega
section
variable {σ : St} {x : Sp} {v : V} {l : List Sl}
set_option maxRecDepth 100000 in
set_option maxHeartbeats 6400000 in
theorem behind_ok (hv : RdS σ v 4 (slsV l)) : CallA Try.prog 4 [v] σ fun v _ => v = .bool true := by
  refine fn_at Try.func4 (by decide) comp4 rfl fun Q q1 q2 => ?_
  simp -implicitDefEqProofs only [go_sem, Nat.reduceBEq, Nat.reduceAdd, eq_self, true_and, and_true, and_self, List.getElem?_cons_zero, List.getElem?_cons_succ, Nat.reduceLeDiff, Nat.zero_add, Nat.reduceSub, Nat.le_refl, c4]
  refine call_at (laid_ok hv) ?_
  rintro _ τ0 ⟨i, u, k, s, w, O, rfl, h, hw, he, -⟩
  refine ⟨kept_none, ?_⟩
  have hSl := adds_len (l.take 120) []
  have hLl : (l.take 120).length ≤ 120 := by rw [List.length_take]; omega
  simp only [List.length_nil] at hSl
  generalize adds [] (l.take 120) = S at *
  have hlen := h.len
  have hls : (stampsL O).length = O.length := by simp [stampsL]
  simp -implicitDefEqProofs only [go_sem, Nat.reduceBEq, Nat.reduceAdd, eq_self, true_and, and_true, and_self, List.getElem?_cons_zero, List.getElem?_cons_succ, Nat.reduceLeDiff, Nat.zero_add, Nat.reduceSub, Nat.le_refl, Nat.lt_irrefl]
  refine call_at (order_ok h (by omega)) ?_
  rintro w5 τ ⟨a5, e5⟩
  refine ⟨kept_none, ?_⟩
  have r5 := a5.rd
  have rw' := hw.ext e5
  have hS := h.fine
  have hO := h.ord
  clear a5 h hw hv
  obtain ⟨b5, R5, z5, rfl, -, -⟩ := id r5
  obtain ⟨b4, R4, z4, rfl, -, -⟩ := id rw'
  have hA := slsV_length S
  have hA5 : (spsV (stampsL O)).length = O.length := by simp [spsV, stampsL]
  simp -implicitDefEqProofs only [go_sem, Nat.reduceBEq, Nat.reduceAdd, eq_self, true_and, and_true, and_self, List.getElem?_cons_zero, List.getElem?_cons_succ, Nat.reduceLeDiff, Nat.zero_add, Nat.reduceSub, Nat.le_refl, Nat.lt_irrefl]
  refine loop_at (fun (y : Nat) => ⟨[(4, .v (.sl b4 R4 z4 (slsV S))), (5, .v (.sl b5 R5 z5 (spsV (stampsL O)))), (6, .v (.int .i64 y))], []⟩)
    (fun y t => y ≤ S.length ∧ t = τ) (fun y => S.length - y) 0 ?_ ?_ ?_
  · refine .inr ?_
    simp -implicitDefEqProofs only [go_sem, Nat.reduceBEq, Nat.reduceAdd, eq_self, true_and, and_true, and_self, List.getElem?_cons_zero, List.getElem?_cons_succ, Nat.reduceLeDiff, Nat.zero_add, Nat.reduceSub, Nat.le_refl, Nat.lt_irrefl]
    try trivial
  · exact ⟨Nat.zero_le _, rfl⟩
  rintro y t ⟨g1, hτ⟩ Z z1 z2 z3
  have hτ := hτ.symm
  subst hτ
  simp -implicitDefEqProofs only [go_sem, Nat.reduceBEq, Nat.reduceAdd, eq_self, true_and, and_true, and_self, List.getElem?_cons_zero, List.getElem?_cons_succ, Nat.reduceLeDiff, Nat.zero_add, Nat.reduceSub, Nat.le_refl, Nat.lt_irrefl]
  refine CondW_b (fun hcc => ?_) (fun hcc => ?_)
  · have hi : y < S.length := by simpa [hA] using hcc
    have hget := slsV_get hi
    have hib : (y : Int) < (slsV S).length := by omega
    have hwy : IntKind.i64.wrap ((y : Int) + 1) = ((y + 1 : Nat) : Int) := by rw [i64_in _ (by omega)]; omega
    have hLn : slsV S ≠ [] := by cases S <;> simp [slsV] at hi ⊢
    obtain ⟨k1, k2⟩ := rdl rw' hLn
    have hdS : S[y] ∈ S := List.getElem_mem hi
    generalize S[y] = d at *
    obtain ⟨p, hp, hpe⟩ := List.getElem_of_mem ((hO.mem d).2 hdS)
    have hOn : spsV (stampsL O) ≠ [] := fun e => by rw [e] at hA5; simp at hA5; omega
    obtain ⟨j1, j2⟩ := rdl r5 hOn
    simp -implicitDefEqProofs only [go_sem, Nat.reduceBEq, Nat.reduceAdd, eq_self, true_and, and_true, and_self, List.getElem?_cons_zero, List.getElem?_cons_succ, Nat.reduceLeDiff, Nat.zero_add, Nat.reduceSub, Nat.le_refl, hget, slC]
    refine ⟨⟨by omega, hib, k2⟩, k1, ?_⟩
    refine call_at (rplace_ok (x := d.a) r5 (by omega)) ?_
    rintro _ t1 ⟨hat, hτ⟩
    have hτ := hτ.symm
    subst hτ
    refine ⟨kept_none, ?_⟩
    have hat' : ∃ hp : p < O.length, True := ⟨hp, trivial⟩
    rcases hat with ⟨hn, -⟩ | ⟨p2, hp2, hpe2, -, rfl⟩
    · exact absurd (List.mem_iff_getElem.2 ⟨p, by simpa [stampsL] using hp, by simp [stampsL, hpe]⟩) hn
    have hpp : p2 = p := hO.nd hS (by simpa [stampsL] using hp2) hp (by rw [hpe]; simpa [stampsL] using hpe2)
    subst hpp
    simp -implicitDefEqProofs only [go_sem, Nat.reduceBEq, Nat.reduceAdd, eq_self, true_and, and_true, and_self, List.getElem?_cons_zero, List.getElem?_cons_succ, Nat.reduceLeDiff, Nat.zero_add, Nat.reduceSub, Nat.le_refl, hget, slC]
    refine ⟨⟨by omega, hib, k2⟩, k1, ?_⟩
    refine call_at (rplace_ok (x := d.u) r5 (by omega)) ?_
    rintro _ t1 ⟨hfr, hτ⟩
    have hτ := hτ.symm
    subst hτ
    refine ⟨kept_none, ?_⟩
    obtain ⟨f, m0, rfl, hfm, hm0, hfp, hf0, hbe⟩ := from_at hS hO hdS hp hpe hfr
    have c1 : decide ((p2 : Int) < 0) = false := by simp
    simp -implicitDefEqProofs only [go_sem, Nat.reduceBEq, Nat.reduceAdd, eq_self, true_and, and_true, and_self, List.getElem?_cons_zero, List.getElem?_cons_succ, Nat.reduceLeDiff, Nat.zero_add, Nat.reduceSub, Nat.le_refl, c1, hfp, hget, slC]
    refine ⟨⟨by omega, hib, k2⟩, k1, ?_⟩
    refine call_at (rhas_ok (x := d.u) rw' (by omega)) ?_
    rintro _ t1 ⟨rfl, hτ⟩
    have hτ := hτ.symm
    subst hτ
    refine ⟨kept_none, ?_⟩
    have hbb : (hasB S d.u == hasB S d.u) = true := by simp
    have hwf : IntKind.i64.wrap (f + 1) = (m0 : Int) := by rw [i64_in _ (by omega)]; omega
    simp -implicitDefEqProofs only [go_sem, Nat.reduceBEq, Nat.reduceAdd, eq_self, true_and, and_true, and_self, List.getElem?_cons_zero, List.getElem?_cons_succ, Nat.reduceLeDiff, Nat.zero_add, Nat.reduceSub, Nat.le_refl, hf0, hbb, Bool.not_true, hwf]
    refine loop_at (fun (m : Nat) => ⟨[(4, .v (.sl b4 R4 z4 (slsV S))), (5, .v (.sl b5 R5 z5 (spsV (stampsL O)))), (6, .v (.int .i64 y)), (7, .v (.int .i64 p2)), (9, .v (.int .i64 m))], []⟩)
      (fun m t' => m0 ≤ m ∧ m ≤ p2 ∧ t' = τ) (fun m => p2 - m) m0 ?_ ?_ ?_
    · refine .inr ?_
      simp -implicitDefEqProofs only [go_sem, Nat.reduceBEq, Nat.reduceAdd, eq_self, true_and, and_true, and_self, List.getElem?_cons_zero, List.getElem?_cons_succ, Nat.reduceLeDiff, Nat.zero_add, Nat.reduceSub, Nat.le_refl, Nat.lt_irrefl]
      try trivial
    · exact ⟨Nat.le_refl _, hm0, rfl⟩
    rintro m t' ⟨n0, n1, hτ⟩ Y y1 y2 y3
    have hτ := hτ.symm
    subst hτ
    simp -implicitDefEqProofs only [go_sem, Nat.reduceBEq, Nat.reduceAdd, eq_self, true_and, and_true, and_self, List.getElem?_cons_zero, List.getElem?_cons_succ, Nat.reduceLeDiff, Nat.zero_add, Nat.reduceSub, Nat.le_refl, Nat.lt_irrefl]
    refine CondW_b (fun hcc2 => ?_) (fun hcc2 => ?_)
    · have hm : m < p2 := by simpa using hcc2
      have hwm : IntKind.i64.wrap ((m : Int) + 1) = ((m + 1 : Nat) : Int) := by rw [i64_in _ (by omega)]; omega
      have hget2 := stamps_get (O := O) (m := m) (by omega)
      have hib2 : (m : Int) < (spsV (stampsL O)).length := by omega
      have hls := hbe m hm n0
      generalize (O[m]'(by omega)).a = c at *
      simp -implicitDefEqProofs only [go_sem, Nat.reduceBEq, Nat.reduceAdd, eq_self, true_and, and_true, and_self, List.getElem?_cons_zero, List.getElem?_cons_succ, Nat.reduceLeDiff, Nat.zero_add, Nat.reduceSub, Nat.le_refl, hget, hget2, slC]
      refine ⟨⟨by omega, hib, k2⟩, k1, ⟨by omega, hib2, j2⟩, j1, ?_⟩
      refine call_at (rless_ok (a := d.a) (b := c)) ?_
      rintro _ t1 ⟨hτ, rfl⟩
      have hτ := hτ.symm
      subst hτ
      refine ⟨(Ext.refl _).kept, ?_⟩
      simp -implicitDefEqProofs only [go_sem, Nat.reduceBEq, Nat.reduceAdd, eq_self, true_and, and_true, and_self, List.getElem?_cons_zero, List.getElem?_cons_succ, Nat.reduceLeDiff, Nat.zero_add, Nat.reduceSub, Nat.le_refl, hls, Bool.not_true, hwm]
      refine y1 (m + 1) _ _ (.inr ?_) (by omega) ⟨by omega, by omega, rfl⟩
      simp -implicitDefEqProofs only [go_sem, Nat.reduceBEq, Nat.reduceAdd, eq_self, true_and, and_true, and_self, List.getElem?_cons_zero, List.getElem?_cons_succ, Nat.reduceLeDiff, Nat.zero_add, Nat.reduceSub, Nat.le_refl, Nat.lt_irrefl]
    · simp -implicitDefEqProofs only [go_sem, Nat.reduceBEq, Nat.reduceAdd, eq_self, true_and, and_true, and_self, List.getElem?_cons_zero, List.getElem?_cons_succ, Nat.reduceLeDiff, Nat.zero_add, Nat.reduceSub, Nat.le_refl, Nat.lt_irrefl]
      refine y2 _ _ _ ?_
      simp -implicitDefEqProofs only [go_sem, Nat.reduceBEq, Nat.reduceAdd, eq_self, true_and, and_true, and_self, List.getElem?_cons_zero, List.getElem?_cons_succ, Nat.reduceLeDiff, Nat.zero_add, Nat.reduceSub, Nat.le_refl, hwy]
      refine z1 (y + 1) _ _ (.inr ?_) (by omega) ⟨by omega, rfl⟩
      simp -implicitDefEqProofs only [go_sem, Nat.reduceBEq, Nat.reduceAdd, eq_self, true_and, and_true, and_self, List.getElem?_cons_zero, List.getElem?_cons_succ, Nat.reduceLeDiff, Nat.zero_add, Nat.reduceSub, Nat.le_refl, Nat.lt_irrefl]
  · simp -implicitDefEqProofs only [go_sem, Nat.reduceBEq, Nat.reduceAdd, eq_self, true_and, and_true, and_self, List.getElem?_cons_zero, List.getElem?_cons_succ, Nat.reduceLeDiff, Nat.zero_add, Nat.reduceSub, Nat.le_refl, Nat.lt_irrefl]
    refine z2 _ _ _ ?_
    have hle : decide ((O.length : Int) = S.length) = true := by simp [hlen]
    simp -implicitDefEqProofs only [go_sem, Nat.reduceBEq, Nat.reduceAdd, eq_self, true_and, and_true, and_self, List.getElem?_cons_zero, List.getElem?_cons_succ, Nat.reduceLeDiff, Nat.zero_add, Nat.reduceSub, Nat.le_refl, hA, hA5, hle]
    refine call_at awake_ok ?_
    rintro _ t6 ⟨rfl, e6⟩
    refine ⟨kept_none, ?_⟩
    simp -implicitDefEqProofs only [go_sem, Nat.reduceBEq, Nat.reduceAdd, eq_self, true_and, and_true, and_self, List.getElem?_cons_zero, List.getElem?_cons_succ, Nat.reduceLeDiff, Nat.zero_add, Nat.reduceSub, Nat.le_refl, Nat.lt_irrefl]
    refine q2 _ _ ?_
    simp -implicitDefEqProofs only [go_sem, Nat.reduceBEq, Nat.reduceAdd, eq_self, true_and, and_true, and_self, List.getElem?_cons_zero, List.getElem?_cons_succ, Nat.reduceLeDiff, Nat.zero_add, Nat.reduceSub, Nat.le_refl, Nat.lt_irrefl]
end
end Go.VL.rga

namespace Go.VL.rga
open Go Go.VL Go.Proofs Go.IntWalk Go.VL.st Go.VL.row

section
variable {σ : St} {x : Sl} {v : V} {l : List Sl}
set_option maxRecDepth 100000 in
set_option maxHeartbeats 6400000 in
theorem keeps_ok (hv : RdS σ v 4 (slsV l)) : CallA Try.prog 3 [v, slV x] σ fun v _ => v = .bool true := by
  refine fn_at Try.func3 (by decide) comp3 rfl fun Q q1 q2 => ?_
  simp -implicitDefEqProofs only [go_sem, Nat.reduceBEq, Nat.reduceAdd, eq_self, true_and, and_true, and_self, List.getElem?_cons_zero, List.getElem?_cons_succ, Nat.reduceLeDiff, Nat.zero_add, Nat.reduceSub, Nat.le_refl, c3, slV, slC]
  refine call_at (laid_ok hv) ?_
  rintro _ τ0 ⟨i, u, k, s, w, O, rfl, h, hw, he, -⟩
  refine ⟨kept_none, ?_⟩
  have hSl := adds_len (l.take 120) []
  have hLl : (l.take 120).length ≤ 120 := by rw [List.length_take]; omega
  simp only [List.length_nil] at hSl
  generalize adds [] (l.take 120) = S at *
  have hlen := h.len
  have hls : (stampsL O).length = O.length := by simp [stampsL]
  simp -implicitDefEqProofs only [go_sem, Nat.reduceBEq, Nat.reduceAdd, eq_self, true_and, and_true, and_self, List.getElem?_cons_zero, List.getElem?_cons_succ, Nat.reduceLeDiff, Nat.zero_add, Nat.reduceSub, Nat.le_refl, Nat.lt_irrefl]
  refine call_at (order_ok h (by omega)) ?_
  rintro w5 τ ⟨a5, e5⟩
  refine ⟨kept_none, ?_⟩
  have h := h.ext e5
  have r5 := a5.rd
  have rw' := hw.ext e5
  clear a5 hw hv
  obtain ⟨b5, R5, z5, rfl, -, -⟩ := id r5
  obtain ⟨b4, R4, z4, rfl, -, -⟩ := id rw'
  have hA := slsV_length S
  have hA5 : (spsV (stampsL O)).length = O.length := by simp [spsV, stampsL]
  simp -implicitDefEqProofs only [go_sem, Nat.reduceBEq, Nat.reduceAdd, eq_self, true_and, and_true, and_self, List.getElem?_cons_zero, List.getElem?_cons_succ, Nat.reduceLeDiff, Nat.zero_add, Nat.reduceSub, Nat.le_refl, Nat.lt_irrefl]
  refine loop_at (fun (y : Nat) => ⟨[(3, .loc 3 0), (5, .v (.ptr (some (i, 0)))), (6, .v (.sl b4 R4 z4 (slsV S))), (7, .v (.sl b5 R5 z5 (spsV (stampsL O)))), (8, .v (.int .i64 y))], [(3, slC x)]⟩)
    (fun y t => y ≤ S.length ∧ t = τ ∧ ∀ d ∈ S.take y, d.u ≠ x.a) (fun y => S.length - y) 0 ?_ ?_ ?_
  · refine .inr ?_
    simp -implicitDefEqProofs only [go_sem, Nat.reduceBEq, Nat.reduceAdd, eq_self, true_and, and_true, and_self, List.getElem?_cons_zero, List.getElem?_cons_succ, Nat.reduceLeDiff, Nat.zero_add, Nat.reduceSub, Nat.le_refl, slC]
    try trivial
  · exact ⟨Nat.zero_le _, rfl, by simp⟩
  rintro y t ⟨g1, hτ, g3⟩ Z z1 z2 z3
  have hτ := hτ.symm
  subst hτ
  simp -implicitDefEqProofs only [go_sem, Nat.reduceBEq, Nat.reduceAdd, eq_self, true_and, and_true, and_self, List.getElem?_cons_zero, List.getElem?_cons_succ, Nat.reduceLeDiff, Nat.zero_add, Nat.reduceSub, Nat.le_refl, Nat.lt_irrefl]
  refine CondW_b (fun hcc => ?_) (fun hcc => ?_)
  · have hi : y < S.length := by simpa [hA] using hcc
    have hget := slsV_get hi
    have hib : (y : Int) < (slsV S).length := by omega
    have hwy : IntKind.i64.wrap ((y : Int) + 1) = ((y + 1 : Nat) : Int) := by rw [i64_in _ (by omega)]; omega
    have hLn : slsV S ≠ [] := by cases S <;> simp [slsV] at hi ⊢
    obtain ⟨k1, k2⟩ := rdl rw' hLn
    have hst1 : S.take (y + 1) = S.take y ++ [S[y]] := List.take_succ_eq_append_getElem hi
    generalize S[y] = d at *
    have hde := sp_eqs d.u x.a
    cases hd : decide (d.u = x.a) <;> rw [hd] at hde
    · have hne := of_decide_eq_false hd
      simp -implicitDefEqProofs only [go_sem, Nat.reduceBEq, Nat.reduceAdd, eq_self, true_and, and_true, and_self, List.getElem?_cons_zero, List.getElem?_cons_succ, Nat.reduceLeDiff, Nat.zero_add, Nat.reduceSub, Nat.le_refl, hget, slC, hde, hwy]
      refine ⟨⟨by omega, hib, k2⟩, k1, ?_⟩
      refine z1 (y + 1) _ _ (.inr ?_) (by omega) ⟨by omega, rfl, fun d' hd' => ?_⟩
      · simp -implicitDefEqProofs only [go_sem, Nat.reduceBEq, Nat.reduceAdd, eq_self, true_and, and_true, and_self, List.getElem?_cons_zero, List.getElem?_cons_succ, Nat.reduceLeDiff, Nat.zero_add, Nat.reduceSub, Nat.le_refl, Nat.lt_irrefl]
        try exact rfl
      · rw [hst1] at hd'
        rcases List.mem_append.1 hd' with h1 | h1
        · exact g3 d' h1
        · rw [List.mem_singleton] at h1
          rw [h1]; exact hne
    · simp -implicitDefEqProofs only [go_sem, Nat.reduceBEq, Nat.reduceAdd, eq_self, true_and, and_true, and_self, List.getElem?_cons_zero, List.getElem?_cons_succ, Nat.reduceLeDiff, Nat.zero_add, Nat.reduceSub, Nat.le_refl, hget, slC, hde]
      refine ⟨⟨by omega, hib, k2⟩, k1, ?_⟩
      refine call_at awake_ok ?_
      rintro _ t6 ⟨rfl, e6⟩
      refine ⟨kept_none, ?_⟩
      simp -implicitDefEqProofs only [go_sem, Nat.reduceBEq, Nat.reduceAdd, eq_self, true_and, and_true, and_self, List.getElem?_cons_zero, List.getElem?_cons_succ, Nat.reduceLeDiff, Nat.zero_add, Nat.reduceSub, Nat.le_refl, Nat.lt_irrefl]
      refine z3 _ _ ?_
      simp -implicitDefEqProofs only [go_sem, Nat.reduceBEq, Nat.reduceAdd, eq_self, true_and, and_true, and_self, List.getElem?_cons_zero, List.getElem?_cons_succ, Nat.reduceLeDiff, Nat.zero_add, Nat.reduceSub, Nat.le_refl, Nat.lt_irrefl]
      refine q2 _ _ ?_
      simp -implicitDefEqProofs only [go_sem, Nat.reduceBEq, Nat.reduceAdd, eq_self, true_and, and_true, and_self, List.getElem?_cons_zero, List.getElem?_cons_succ, Nat.reduceLeDiff, Nat.zero_add, Nat.reduceSub, Nat.le_refl, Nat.lt_irrefl]
  · have hny : ¬ y < S.length := by simpa [hA] using hcc
    rw [List.take_of_length_le (by omega)] at g3
    simp -implicitDefEqProofs only [go_sem, Nat.reduceBEq, Nat.reduceAdd, eq_self, true_and, and_true, and_self, List.getElem?_cons_zero, List.getElem?_cons_succ, Nat.reduceLeDiff, Nat.zero_add, Nat.reduceSub, Nat.le_refl, Nat.lt_irrefl]
    refine z2 _ _ _ ?_
    have hzd := zs_dec x.u
    cases hu : decide (x.u = zs) <;> rw [hu] at hzd
    · simp -implicitDefEqProofs only [go_sem, Nat.reduceBEq, Nat.reduceAdd, eq_self, true_and, and_true, and_self, List.getElem?_cons_zero, List.getElem?_cons_succ, Nat.reduceLeDiff, Nat.zero_add, Nat.reduceSub, Nat.le_refl, slC, hzd, Bool.not_false]
      refine call_at (has_ok (x := x.u) h) ?_
      rintro _ t1 ⟨rfl, hτ⟩
      have hτ := hτ.symm
      subst hτ
      refine ⟨(Ext.refl _).kept, ?_⟩
      cases hb : hasB S x.u
      · simp -implicitDefEqProofs only [go_sem, Nat.reduceBEq, Nat.reduceAdd, eq_self, true_and, and_true, and_self, List.getElem?_cons_zero, List.getElem?_cons_succ, Nat.reduceLeDiff, Nat.zero_add, Nat.reduceSub, Nat.le_refl, Bool.not_false]
        refine call_at awake_ok ?_
        rintro _ t6 ⟨rfl, e6⟩
        refine ⟨kept_none, ?_⟩
        simp -implicitDefEqProofs only [go_sem, Nat.reduceBEq, Nat.reduceAdd, eq_self, true_and, and_true, and_self, List.getElem?_cons_zero, List.getElem?_cons_succ, Nat.reduceLeDiff, Nat.zero_add, Nat.reduceSub, Nat.le_refl, Nat.lt_irrefl]
        refine q2 _ _ ?_
        simp -implicitDefEqProofs only [go_sem, Nat.reduceBEq, Nat.reduceAdd, eq_self, true_and, and_true, and_self, List.getElem?_cons_zero, List.getElem?_cons_succ, Nat.reduceLeDiff, Nat.zero_add, Nat.reduceSub, Nat.le_refl, Nat.lt_irrefl]
      · simp -implicitDefEqProofs only [go_sem, Nat.reduceBEq, Nat.reduceAdd, eq_self, true_and, and_true, and_self, List.getElem?_cons_zero, List.getElem?_cons_succ, Nat.reduceLeDiff, Nat.zero_add, Nat.reduceSub, Nat.le_refl, Bool.not_true]
        refine call_at (add_ok (a := x.a) (b := x.u) h (by omega)) ?_
        rintro _ t2 ⟨rfl, s2, O2, n1, n2⟩
        refine ⟨kept_none, ?_⟩
        have hdx : (⟨x.a, x.u⟩ : Sl) = x := rfl
        rw [hdx] at n1
        have r5' := rdS_up r5 n2.upd
        have hWl := addW_le S x
        cases hE : okS x && !hasB S x.a
        · have hW : addW S x = S := by unfold addW; rw [hE]; rfl
          rw [hW] at n1
          have hE0 : decide (addE S x = 0) = false := by
            unfold addE
            cases ho : okS x
            · rfl
            · rw [ho] at hE
              have : hasB S x.a = true := by simpa using hE
              rw [this]; rfl
          have hOO : O2 = O := n1.ord.eq n1.fine h.ord
          simp -implicitDefEqProofs only [go_sem, Nat.reduceBEq, Nat.reduceAdd, eq_self, true_and, and_true, and_self, List.getElem?_cons_zero, List.getElem?_cons_succ, Nat.reduceLeDiff, Nat.zero_add, Nat.reduceSub, Nat.le_refl, hdx, hE0, Bool.not_false]
          refine call_at (order_ok n1 (by omega)) ?_
          rintro w6 t3 ⟨a6, e6⟩
          refine ⟨kept_none, ?_⟩
          simp -implicitDefEqProofs only [go_sem, Nat.reduceBEq, Nat.reduceAdd, eq_self, true_and, and_true, and_self, List.getElem?_cons_zero, List.getElem?_cons_succ, Nat.reduceLeDiff, Nat.zero_add, Nat.reduceSub, Nat.le_refl, Nat.lt_irrefl]
          refine call_at (same_ok a6.rd (r5'.ext e6) (by rw [hOO]; omega)) ?_
          rintro _ t4 ⟨rfl, hτ⟩
          have hτ := hτ.symm
          subst hτ
          refine ⟨kept_none, ?_⟩
          have hdd : decide (stampsL O2 = stampsL O) = true := by rw [hOO]; simp
          simp -implicitDefEqProofs only [go_sem, Nat.reduceBEq, Nat.reduceAdd, eq_self, true_and, and_true, and_self, List.getElem?_cons_zero, List.getElem?_cons_succ, Nat.reduceLeDiff, Nat.zero_add, Nat.reduceSub, Nat.le_refl, hdd]
          refine call_at awake_ok ?_
          rintro _ t6 ⟨rfl, e6⟩
          refine ⟨kept_none, ?_⟩
          simp -implicitDefEqProofs only [go_sem, Nat.reduceBEq, Nat.reduceAdd, eq_self, true_and, and_true, and_self, List.getElem?_cons_zero, List.getElem?_cons_succ, Nat.reduceLeDiff, Nat.zero_add, Nat.reduceSub, Nat.le_refl, Nat.lt_irrefl]
          refine q2 _ _ ?_
          simp -implicitDefEqProofs only [go_sem, Nat.reduceBEq, Nat.reduceAdd, eq_self, true_and, and_true, and_self, List.getElem?_cons_zero, List.getElem?_cons_succ, Nat.reduceLeDiff, Nat.zero_add, Nat.reduceSub, Nat.le_refl, Nat.lt_irrefl]
        · rw [Bool.and_eq_true, Bool.not_eq_true'] at hE
          have hW : addW S x = S ++ [x] := by unfold addW; rw [hE.1, hE.2]; rfl
          have hE0 : decide (addE S x = 0) = true := by unfold addE; rw [hE.1, hE.2]; rfl
          rw [hW] at n1
          have hO2 := n1.len
          rw [List.length_append, List.length_singleton] at hO2
          have hs2 : (stampsL O2).length = O2.length := by simp [stampsL]
          simp -implicitDefEqProofs only [go_sem, Nat.reduceBEq, Nat.reduceAdd, eq_self, true_and, and_true, and_self, List.getElem?_cons_zero, List.getElem?_cons_succ, Nat.reduceLeDiff, Nat.zero_add, Nat.reduceSub, Nat.le_refl, hdx, hE0, Bool.not_true]
          refine call_at (order_ok n1 (by rw [List.length_append, List.length_singleton]; omega)) ?_
          rintro w6 t3 ⟨a6, e6⟩
          refine ⟨kept_none, ?_⟩
          rcases a6 with ⟨a6, -⟩ | ⟨q6, rfl, a6, a6'⟩
          · rw [a6] at hs2; simp at hs2; omega
          have r6 : RdS t3 (.sl false (.own q6) 2 (spsV (stampsL O2))) 2 (spsV (stampsL O2)) := ⟨_, _, _, rfl, by simp, .inr ⟨a6, rfl⟩⟩
          have r5'' := r5'.ext e6
          simp -implicitDefEqProofs only [go_sem, Nat.reduceBEq, Nat.reduceAdd, eq_self, true_and, and_true, and_self, List.getElem?_cons_zero, List.getElem?_cons_succ, Nat.reduceLeDiff, Nat.zero_add, Nat.reduceSub, Nat.le_refl, Nat.lt_irrefl]
          refine call_at (rplace_ok (x := x.a) r6 (by omega)) ?_
          rintro _ t4 ⟨hat, hτ⟩
          have hτ := hτ.symm
          subst hτ
          refine ⟨kept_none, ?_⟩
          have hxin : hasB (S ++ [x]) x.a = true := by simp [hasB_app]
          rcases hat with ⟨hn, -⟩ | ⟨p, hp, hpe, -, rfl⟩
          · have := hasB_ord n1.ord x.a
            rw [hxin] at this
            exact absurd (by simpa using this.symm) hn
          have hp' : p < O2.length := by omega
          have hpe' : O2[p].a = x.a := by simpa [stampsL] using hpe
          have hk := keeps_law h.fine n1.fine h.ord n1.ord g3 hp' hpe'
          have hA6 : (spsV (stampsL O2)).length = O2.length := by simp [spsV, stampsL]
          have c1 : decide ((p : Int) < 0) = false := by simp
          have c2 : IntKind.i64.wrap ((O.length : Int) + 1) = ((O.length + 1 : Nat) : Int) := by rw [i64_in _ (by omega)]; omega
          have c3' : decide ((O2.length : Int) = ((O.length + 1 : Nat) : Int)) = true := by rw [decide_eq_true_eq]; omega
          have c4 : IntKind.i64.wrap ((p : Int) + 1) = ((p + 1 : Nat) : Int) := by rw [i64_in _ (by omega)]; omega
          simp -implicitDefEqProofs only [go_sem, Nat.reduceBEq, Nat.reduceAdd, eq_self, true_and, and_true, and_self, List.getElem?_cons_zero, List.getElem?_cons_succ, Nat.reduceLeDiff, Nat.zero_add, Nat.reduceSub, Nat.le_refl, c1, hA5, hA6, c2, c3', Bool.not_true, c4]
          have x1 : Ext t3 ⟨t3.objs, t3.live ++ [true]⟩ := ext_push (.refl _)
          have x2 : Ext t3 ⟨t3.objs, kill (t3.live ++ [true]) (.own t3.live.length) ++ [true]⟩ := ext_kill x1 (Nat.le_refl _)
          have x3 : Ext t3 ⟨t3.objs, kill (kill (t3.live ++ [true]) (.own t3.live.length) ++ [true]) (.own (t3.live ++ [true]).length) ++ [true]⟩ := ext_kill x2 (by simp)
          have htk : List.take O2.length (spsV (stampsL O2)) = spsV (stampsL O2) := List.take_of_length_le (by omega)
          have eL : List.take (p : Int).toNat (spsV (stampsL O2)) ++ List.drop ((p + 1 : Nat) : Int).toNat (List.take O2.length (spsV (stampsL O2))) = spsV (stampsL O) := by
            rw [htk, Int.toNat_natCast, Int.toNat_natCast, ← hk]
            simp [spsV, stampsL, List.map_take, List.map_drop]
          refine ⟨⟨.inr trivial, by omega, by omega, by omega⟩, ⟨.inr trivial, .inr (live_last _ _), ⟨.inr (x1.live _ a6), .inl trivial⟩, by rw [List.length_take]; omega⟩, ⟨.inr trivial, by omega, by omega⟩, ⟨.inr trivial, .inr (live_last' _ _ _), ⟨.inr (x2.live _ a6), .inl trivial⟩, by rw [htk, List.length_take, List.length_drop]; omega⟩, ?_⟩
          rw [eL]
          have rL : RdS (⟨t3.objs, kill (kill (t3.live ++ [true]) (.own t3.live.length) ++ [true]) (.own (t3.live ++ [true]).length) ++ [true]⟩ : St) (.sl false (.own (kill (t3.live ++ [true]) (.own t3.live.length) ++ [true]).length) 2 (spsV (stampsL O))) 2 (spsV (stampsL O)) :=
            ⟨_, _, _, rfl, by simp, .inr ⟨live_last' _ _ _, rfl⟩⟩
          refine call_at (same_ok rL (r5''.ext x3) (by omega)) ?_
          rintro _ t4 ⟨rfl, hτ⟩
          have hτ := hτ.symm
          subst hτ
          refine ⟨kept_none, ?_⟩
          have hdd : decide (stampsL O = stampsL O) = true := by simp
          simp -implicitDefEqProofs only [go_sem, Nat.reduceBEq, Nat.reduceAdd, eq_self, true_and, and_true, and_self, List.getElem?_cons_zero, List.getElem?_cons_succ, Nat.reduceLeDiff, Nat.zero_add, Nat.reduceSub, Nat.le_refl, hdd]
          refine call_at awake_ok ?_
          rintro _ t6 ⟨rfl, e6⟩
          refine ⟨kept_none, ?_⟩
          simp -implicitDefEqProofs only [go_sem, Nat.reduceBEq, Nat.reduceAdd, eq_self, true_and, and_true, and_self, List.getElem?_cons_zero, List.getElem?_cons_succ, Nat.reduceLeDiff, Nat.zero_add, Nat.reduceSub, Nat.le_refl, Nat.lt_irrefl]
          refine q2 _ _ ?_
          simp -implicitDefEqProofs only [go_sem, Nat.reduceBEq, Nat.reduceAdd, eq_self, true_and, and_true, and_self, List.getElem?_cons_zero, List.getElem?_cons_succ, Nat.reduceLeDiff, Nat.zero_add, Nat.reduceSub, Nat.le_refl, Nat.lt_irrefl]
    · simp -implicitDefEqProofs only [go_sem, Nat.reduceBEq, Nat.reduceAdd, eq_self, true_and, and_true, and_self, List.getElem?_cons_zero, List.getElem?_cons_succ, Nat.reduceLeDiff, Nat.zero_add, Nat.reduceSub, Nat.le_refl, slC, hzd, Bool.not_true]
      refine call_at (add_ok (a := x.a) (b := x.u) h (by omega)) ?_
      rintro _ t2 ⟨rfl, s2, O2, n1, n2⟩
      refine ⟨kept_none, ?_⟩
      have hdx : (⟨x.a, x.u⟩ : Sl) = x := rfl
      rw [hdx] at n1
      have r5' := rdS_up r5 n2.upd
      have hWl := addW_le S x
      cases hE : okS x && !hasB S x.a
      · have hW : addW S x = S := by unfold addW; rw [hE]; rfl
        rw [hW] at n1
        have hE0 : decide (addE S x = 0) = false := by
          unfold addE
          cases ho : okS x
          · rfl
          · rw [ho] at hE
            have : hasB S x.a = true := by simpa using hE
            rw [this]; rfl
        have hOO : O2 = O := n1.ord.eq n1.fine h.ord
        simp -implicitDefEqProofs only [go_sem, Nat.reduceBEq, Nat.reduceAdd, eq_self, true_and, and_true, and_self, List.getElem?_cons_zero, List.getElem?_cons_succ, Nat.reduceLeDiff, Nat.zero_add, Nat.reduceSub, Nat.le_refl, hdx, hE0, Bool.not_false]
        refine call_at (order_ok n1 (by omega)) ?_
        rintro w6 t3 ⟨a6, e6⟩
        refine ⟨kept_none, ?_⟩
        simp -implicitDefEqProofs only [go_sem, Nat.reduceBEq, Nat.reduceAdd, eq_self, true_and, and_true, and_self, List.getElem?_cons_zero, List.getElem?_cons_succ, Nat.reduceLeDiff, Nat.zero_add, Nat.reduceSub, Nat.le_refl, Nat.lt_irrefl]
        refine call_at (same_ok a6.rd (r5'.ext e6) (by rw [hOO]; omega)) ?_
        rintro _ t4 ⟨rfl, hτ⟩
        have hτ := hτ.symm
        subst hτ
        refine ⟨kept_none, ?_⟩
        have hdd : decide (stampsL O2 = stampsL O) = true := by rw [hOO]; simp
        simp -implicitDefEqProofs only [go_sem, Nat.reduceBEq, Nat.reduceAdd, eq_self, true_and, and_true, and_self, List.getElem?_cons_zero, List.getElem?_cons_succ, Nat.reduceLeDiff, Nat.zero_add, Nat.reduceSub, Nat.le_refl, hdd]
        refine call_at awake_ok ?_
        rintro _ t6 ⟨rfl, e6⟩
        refine ⟨kept_none, ?_⟩
        simp -implicitDefEqProofs only [go_sem, Nat.reduceBEq, Nat.reduceAdd, eq_self, true_and, and_true, and_self, List.getElem?_cons_zero, List.getElem?_cons_succ, Nat.reduceLeDiff, Nat.zero_add, Nat.reduceSub, Nat.le_refl, Nat.lt_irrefl]
        refine q2 _ _ ?_
        simp -implicitDefEqProofs only [go_sem, Nat.reduceBEq, Nat.reduceAdd, eq_self, true_and, and_true, and_self, List.getElem?_cons_zero, List.getElem?_cons_succ, Nat.reduceLeDiff, Nat.zero_add, Nat.reduceSub, Nat.le_refl, Nat.lt_irrefl]
      · rw [Bool.and_eq_true, Bool.not_eq_true'] at hE
        have hW : addW S x = S ++ [x] := by unfold addW; rw [hE.1, hE.2]; rfl
        have hE0 : decide (addE S x = 0) = true := by unfold addE; rw [hE.1, hE.2]; rfl
        rw [hW] at n1
        have hO2 := n1.len
        rw [List.length_append, List.length_singleton] at hO2
        have hs2 : (stampsL O2).length = O2.length := by simp [stampsL]
        simp -implicitDefEqProofs only [go_sem, Nat.reduceBEq, Nat.reduceAdd, eq_self, true_and, and_true, and_self, List.getElem?_cons_zero, List.getElem?_cons_succ, Nat.reduceLeDiff, Nat.zero_add, Nat.reduceSub, Nat.le_refl, hdx, hE0, Bool.not_true]
        refine call_at (order_ok n1 (by rw [List.length_append, List.length_singleton]; omega)) ?_
        rintro w6 t3 ⟨a6, e6⟩
        refine ⟨kept_none, ?_⟩
        rcases a6 with ⟨a6, -⟩ | ⟨q6, rfl, a6, a6'⟩
        · rw [a6] at hs2; simp at hs2; omega
        have r6 : RdS t3 (.sl false (.own q6) 2 (spsV (stampsL O2))) 2 (spsV (stampsL O2)) := ⟨_, _, _, rfl, by simp, .inr ⟨a6, rfl⟩⟩
        have r5'' := r5'.ext e6
        simp -implicitDefEqProofs only [go_sem, Nat.reduceBEq, Nat.reduceAdd, eq_self, true_and, and_true, and_self, List.getElem?_cons_zero, List.getElem?_cons_succ, Nat.reduceLeDiff, Nat.zero_add, Nat.reduceSub, Nat.le_refl, Nat.lt_irrefl]
        refine call_at (rplace_ok (x := x.a) r6 (by omega)) ?_
        rintro _ t4 ⟨hat, hτ⟩
        have hτ := hτ.symm
        subst hτ
        refine ⟨kept_none, ?_⟩
        have hxin : hasB (S ++ [x]) x.a = true := by simp [hasB_app]
        rcases hat with ⟨hn, -⟩ | ⟨p, hp, hpe, -, rfl⟩
        · have := hasB_ord n1.ord x.a
          rw [hxin] at this
          exact absurd (by simpa using this.symm) hn
        have hp' : p < O2.length := by omega
        have hpe' : O2[p].a = x.a := by simpa [stampsL] using hpe
        have hk := keeps_law h.fine n1.fine h.ord n1.ord g3 hp' hpe'
        have hA6 : (spsV (stampsL O2)).length = O2.length := by simp [spsV, stampsL]
        have c1 : decide ((p : Int) < 0) = false := by simp
        have c2 : IntKind.i64.wrap ((O.length : Int) + 1) = ((O.length + 1 : Nat) : Int) := by rw [i64_in _ (by omega)]; omega
        have c3' : decide ((O2.length : Int) = ((O.length + 1 : Nat) : Int)) = true := by rw [decide_eq_true_eq]; omega
        have c4 : IntKind.i64.wrap ((p : Int) + 1) = ((p + 1 : Nat) : Int) := by rw [i64_in _ (by omega)]; omega
        simp -implicitDefEqProofs only [go_sem, Nat.reduceBEq, Nat.reduceAdd, eq_self, true_and, and_true, and_self, List.getElem?_cons_zero, List.getElem?_cons_succ, Nat.reduceLeDiff, Nat.zero_add, Nat.reduceSub, Nat.le_refl, c1, hA5, hA6, c2, c3', Bool.not_true, c4]
        have x1 : Ext t3 ⟨t3.objs, t3.live ++ [true]⟩ := ext_push (.refl _)
        have x2 : Ext t3 ⟨t3.objs, kill (t3.live ++ [true]) (.own t3.live.length) ++ [true]⟩ := ext_kill x1 (Nat.le_refl _)
        have x3 : Ext t3 ⟨t3.objs, kill (kill (t3.live ++ [true]) (.own t3.live.length) ++ [true]) (.own (t3.live ++ [true]).length) ++ [true]⟩ := ext_kill x2 (by simp)
        have htk : List.take O2.length (spsV (stampsL O2)) = spsV (stampsL O2) := List.take_of_length_le (by omega)
        have eL : List.take (p : Int).toNat (spsV (stampsL O2)) ++ List.drop ((p + 1 : Nat) : Int).toNat (List.take O2.length (spsV (stampsL O2))) = spsV (stampsL O) := by
          rw [htk, Int.toNat_natCast, Int.toNat_natCast, ← hk]
          simp [spsV, stampsL, List.map_take, List.map_drop]
        refine ⟨⟨.inr trivial, by omega, by omega, by omega⟩, ⟨.inr trivial, .inr (live_last _ _), ⟨.inr (x1.live _ a6), .inl trivial⟩, by rw [List.length_take]; omega⟩, ⟨.inr trivial, by omega, by omega⟩, ⟨.inr trivial, .inr (live_last' _ _ _), ⟨.inr (x2.live _ a6), .inl trivial⟩, by rw [htk, List.length_take, List.length_drop]; omega⟩, ?_⟩
        rw [eL]
        have rL : RdS (⟨t3.objs, kill (kill (t3.live ++ [true]) (.own t3.live.length) ++ [true]) (.own (t3.live ++ [true]).length) ++ [true]⟩ : St) (.sl false (.own (kill (t3.live ++ [true]) (.own t3.live.length) ++ [true]).length) 2 (spsV (stampsL O))) 2 (spsV (stampsL O)) :=
          ⟨_, _, _, rfl, by simp, .inr ⟨live_last' _ _ _, rfl⟩⟩
        refine call_at (same_ok rL (r5''.ext x3) (by omega)) ?_
        rintro _ t4 ⟨rfl, hτ⟩
        have hτ := hτ.symm
        subst hτ
        refine ⟨kept_none, ?_⟩
        have hdd : decide (stampsL O = stampsL O) = true := by simp
        simp -implicitDefEqProofs only [go_sem, Nat.reduceBEq, Nat.reduceAdd, eq_self, true_and, and_true, and_self, List.getElem?_cons_zero, List.getElem?_cons_succ, Nat.reduceLeDiff, Nat.zero_add, Nat.reduceSub, Nat.le_refl, hdd]
        refine call_at awake_ok ?_
        rintro _ t6 ⟨rfl, e6⟩
        refine ⟨kept_none, ?_⟩
        simp -implicitDefEqProofs only [go_sem, Nat.reduceBEq, Nat.reduceAdd, eq_self, true_and, and_true, and_self, List.getElem?_cons_zero, List.getElem?_cons_succ, Nat.reduceLeDiff, Nat.zero_add, Nat.reduceSub, Nat.le_refl, Nat.lt_irrefl]
        refine q2 _ _ ?_
        simp -implicitDefEqProofs only [go_sem, Nat.reduceBEq, Nat.reduceAdd, eq_self, true_and, and_true, and_self, List.getElem?_cons_zero, List.getElem?_cons_succ, Nat.reduceLeDiff, Nat.zero_add, Nat.reduceSub, Nat.le_refl, Nat.lt_irrefl]
end
end Go.VL.rga

namespace Go.VL.rga
open Go Go.VL Go.Proofs Go.IntWalk Go.VL.st Go.VL.row

theorem u64w (n : Int) : IntKind.u64.wrap n = n % 18446744073709551616 := by simp [IntKind.wrap, IntKind.bits, IntKind.signed]
theorem idx_of (o : Int) {n : Nat} (h : 0 < n) (hn : n ≤ 268435456) : ∃ i : Nat, i < n ∧ IntKind.i64.wrap ((IntKind.u64.wrap o).tmod (IntKind.u64.wrap n)) = i := by
  rw [u64w, u64w]
  obtain ⟨a, ha⟩ := Int.eq_ofNat_of_zero_le (Int.emod_nonneg o (b := 18446744073709551616) (by decide))
  have e : (n : Int) % 18446744073709551616 = n := Int.emod_eq_of_lt (by omega) (by omega)
  rw [ha, e, tmod_nat]
  have := Nat.mod_lt a h
  exact ⟨a % n, this, by rw [i64_in _ (by omega)]⟩
theorem slsV_take (l : List Sl) (i : Nat) : (slsV l).take i = slsV (l.take i) := by simp [slsV, List.map_take]
theorem slsV_drop (l : List Sl) (i : Nat) : (slsV l).drop i = slsV (l.drop i) := by simp [slsV, List.map_drop]
theorem slsV_append (l m : List Sl) : slsV l ++ slsV m = slsV (l ++ m) := by simp [slsV]
theorem perm_rest {R : List Sl} {i : Nat} (h : i < R.length) : (R[i] :: (R.take i ++ R.drop (i + 1))).Perm R := by
  have e : R = R.take i ++ R[i] :: R.drop (i + 1) := by rw [← List.drop_eq_getElem_cons h, List.take_append_drop]
  conv => rhs; rw [e]
  exact List.perm_middle.symm
section
variable {σ : St} {v u : V} {l : List Sl} {os : List Int}
set_option maxRecDepth 100000 in
set_option maxHeartbeats 6400000 in
theorem any_ok (hv : RdS σ v 4 (slsV l)) (hu : RdS σ u 1 (intsV .i64 os)) : CallA Try.prog 7 [v, u] σ fun v _ => v = .bool true := by
  obtain ⟨ub, uR, uz, rfl, -, -⟩ := id hu
  refine fn_at Try.func7 (by decide) comp7 rfl fun Q q1 q2 => ?_
  simp -implicitDefEqProofs only [go_sem, Nat.reduceBEq, Nat.reduceAdd, eq_self, true_and, and_true, and_self, List.getElem?_cons_zero, List.getElem?_cons_succ, Nat.reduceLeDiff, Nat.zero_add, Nat.reduceSub, Nat.le_refl, c7]
  refine call_at (laid_ok hv) ?_
  rintro _ τ0 ⟨i0, u0, k0, s0, w0, O, rfl, h, hw, he, -⟩
  refine ⟨kept_none, ?_⟩
  have hSl := adds_len (l.take 120) []
  have hLl : (l.take 120).length ≤ 120 := by rw [List.length_take]; omega
  have hok := adds_ok (l.take 120) [] (by simp)
  simp only [List.length_nil] at hSl
  generalize adds [] (l.take 120) = S at *
  have hlen := h.len
  have hu0 := hu.ext he
  clear hv hu
  simp -implicitDefEqProofs only [go_sem, Nat.reduceBEq, Nat.reduceAdd, eq_self, true_and, and_true, and_self, List.getElem?_cons_zero, List.getElem?_cons_succ, Nat.reduceLeDiff, Nat.zero_add, Nat.reduceSub, Nat.le_refl, Nat.lt_irrefl]
  refine call_at new_ok ?_
  rintro _ τ1 ⟨rfl, hn, he1, hl1⟩
  refine ⟨kept_none, ?_⟩
  have hnew : ∀ j, Own (τ0.objs.length + 2) τ0.objs.length (τ0.objs.length + 1) (.sl true .pub 0 []) j → τ0.objs.length ≤ j := by
    rintro j (rfl | rfl | rfl | ⟨_, _, _, e⟩)
    · omega
    · omega
    · omega
    · cases e
  have hw1 := hw.ext he1
  obtain ⟨b6, R6, z6, rfl, -, -⟩ := id hw1
  obtain ⟨hsb, hsz⟩ := rd_src (hw1.ext (ext_live τ1 true))
  have hA := slsV_length S
  generalize hi2 : τ0.objs.length + 2 = i at *
  generalize hk2 : τ0.objs.length + 1 = k at *
  generalize hu2 : τ0.objs.length = uu at hn hnew
  simp -implicitDefEqProofs only [go_sem, Nat.reduceBEq, Nat.reduceAdd, eq_self, true_and, and_true, and_self, List.getElem?_cons_zero, List.getElem?_cons_succ, Nat.reduceLeDiff, Nat.zero_add, Nat.reduceSub, Nat.le_refl, Nat.lt_irrefl]
  refine ⟨⟨.inr trivial, .inr (live_last _ _), ⟨hsb, hsz⟩, by rw [hA]; omega⟩, ?_⟩
  have x2 : Ext τ1 ⟨τ1.objs, kill (τ1.live ++ [true]) (.own τ1.live.length) ++ [true]⟩ := ext_kill (ext_live τ1 true) (Nat.le_refl _)
  refine loop_at (fun (x : List Sl × V × Nat) => ⟨[(1, .v (.sl ub uR uz (intsV .i64 os))), (5, .v (.ptr (some (i0, 0)))), (6, .v (.sl b6 R6 z6 (slsV S))), (7, .v (.ptr (some (i, 0)))), (8, .v x.2.1), (9, .v (.int .i64 x.2.2))], []⟩)
    (fun x τ => x.2.2 + x.1.length ≤ 120 ∧ Ext τ0 τ ∧ RdS τ x.2.1 4 (slsV x.1) ∧ ∃ s D O2, RowIs τ i uu k s O2 D ∧ (D ++ x.1).Perm S ∧ ∀ j, Own i uu k s j → τ0.objs.length ≤ j) (fun x => x.1.length)
    (S, .sl false (.own (τ1.live ++ [true]).length) 4 (slsV S), 0) ?_ ?_ ?_
  · refine .inr ?_
    simp -implicitDefEqProofs only [go_sem, Nat.reduceBEq, Nat.reduceAdd, eq_self, true_and, and_true, and_self, List.getElem?_cons_zero, List.getElem?_cons_succ, Nat.reduceLeDiff, Nat.zero_add, Nat.reduceSub, Nat.le_refl, Bool.false_and, List.nil_append]
    try trivial
  · exact ⟨by simp only; omega, he1.trans x2, ⟨false, _, 4, rfl, by simp, .inr ⟨live_last' _ _ _, rfl⟩⟩, _, [], [], hn.ext x2, by simp, by rw [hu2]; exact hnew⟩
  rintro ⟨Rr, w, t⟩ τ ⟨g1, g2, g3, s, D, O2, g4, g5, g6⟩ Z z1 z2 z3
  simp only at g1 g3 g5
  obtain ⟨wb, wR, wz, rfl, -, -⟩ := id g3
  have hRl := slsV_length Rr
  have hpl := g5.length_eq
  rw [List.length_append] at hpl
  simp -implicitDefEqProofs only [go_sem, Nat.reduceBEq, Nat.reduceAdd, eq_self, true_and, and_true, and_self, List.getElem?_cons_zero, List.getElem?_cons_succ, Nat.reduceLeDiff, Nat.zero_add, Nat.reduceSub, Nat.le_refl, Nat.lt_irrefl]
  refine CondW_b (fun hc => ?_) (fun hc => ?_)
  case refine_2 =>
    have hc := of_decide_eq_false hc
    have hR0 : Rr = [] := by
      cases Rr with
      | nil => rfl
      | cons a b => exfalso; simp only [slsV, List.map_cons, List.length_cons] at hc; omega
    subst hR0
    rw [List.append_nil] at g5
    have hO2 : O2 = O := (g4.ord.congr fun s => g5.mem_iff).eq h.fine h.ord
    simp -implicitDefEqProofs only [go_sem, Nat.reduceBEq, Nat.reduceAdd, eq_self, true_and, and_true, and_self, List.getElem?_cons_zero, List.getElem?_cons_succ, Nat.reduceLeDiff, Nat.zero_add, Nat.reduceSub, Nat.le_refl, Nat.lt_irrefl]
    refine z2 _ _ _ ?_
    have hx2 := h.ext g2
    simp -implicitDefEqProofs only [go_sem, Nat.reduceBEq, Nat.reduceAdd, eq_self, true_and, and_true, and_self, List.getElem?_cons_zero, List.getElem?_cons_succ, Nat.reduceLeDiff, Nat.zero_add, Nat.reduceSub, Nat.le_refl, Nat.lt_irrefl]
    refine call_at (order_ok g4 (by simp only [List.length_nil] at hpl; omega)) ?_
    rintro w3 τ2 ⟨a2, e2⟩
    refine ⟨kept_none, ?_⟩
    simp -implicitDefEqProofs only [go_sem, Nat.reduceBEq, Nat.reduceAdd, eq_self, true_and, and_true, and_self, List.getElem?_cons_zero, List.getElem?_cons_succ, Nat.reduceLeDiff, Nat.zero_add, Nat.reduceSub, Nat.le_refl, Nat.lt_irrefl]
    refine call_at (order_ok (hx2.ext e2) (by omega)) ?_
    rintro w4 τ3 ⟨a3, e3⟩
    refine ⟨kept_none, ?_⟩
    simp -implicitDefEqProofs only [go_sem, Nat.reduceBEq, Nat.reduceAdd, eq_self, true_and, and_true, and_self, List.getElem?_cons_zero, List.getElem?_cons_succ, Nat.reduceLeDiff, Nat.zero_add, Nat.reduceSub, Nat.le_refl, Nat.lt_irrefl]
    have hsl : (stampsL O2).length = O2.length := by simp [stampsL]
    refine call_at (same_ok (a2.rd.ext e3) a3.rd (by rw [hsl, hO2]; omega)) ?_
    rintro _ τ4 ⟨rfl, hτ⟩
    have hτ := hτ.symm
    subst hτ
    refine ⟨kept_none, ?_⟩
    have hdd : decide (stampsL O2 = stampsL O) = true := by rw [hO2]; simp
    simp -implicitDefEqProofs only [go_sem, Nat.reduceBEq, Nat.reduceAdd, eq_self, true_and, and_true, and_self, List.getElem?_cons_zero, List.getElem?_cons_succ, Nat.reduceLeDiff, Nat.zero_add, Nat.reduceSub, Nat.le_refl, hdd]
    refine call_at (len_ok ((g4.ext e2).ext e3)) ?_
    rintro _ τ4 ⟨hτ, rfl⟩
    have hτ := hτ.symm
    subst hτ
    refine ⟨kept_none, ?_⟩
    have hle : decide ((D.length : Int) = S.length) = true := by
      simp only [List.length_nil] at hpl
      rw [decide_eq_true_eq]; omega
    simp -implicitDefEqProofs only [go_sem, Nat.reduceBEq, Nat.reduceAdd, eq_self, true_and, and_true, and_self, List.getElem?_cons_zero, List.getElem?_cons_succ, Nat.reduceLeDiff, Nat.zero_add, Nat.reduceSub, Nat.le_refl, hA, hle]
    refine call_at awake_ok ?_
    rintro _ τ7 ⟨rfl, he7⟩
    refine ⟨kept_none, ?_⟩
    simp -implicitDefEqProofs only [go_sem, Nat.reduceBEq, Nat.reduceAdd, eq_self, true_and, and_true, and_self, List.getElem?_cons_zero, List.getElem?_cons_succ, Nat.reduceLeDiff, Nat.zero_add, Nat.reduceSub, Nat.le_refl, Nat.lt_irrefl]
    refine q2 _ _ ?_
    simp -implicitDefEqProofs only [go_sem, Nat.reduceBEq, Nat.reduceAdd, eq_self, true_and, and_true, and_self, List.getElem?_cons_zero, List.getElem?_cons_succ, Nat.reduceLeDiff, Nat.zero_add, Nat.reduceSub, Nat.le_refl, Nat.lt_irrefl]
  have hc := of_decide_eq_true hc
  have hRp : 0 < Rr.length := by omega
  simp -implicitDefEqProofs only [go_sem, Nat.reduceBEq, Nat.reduceAdd, eq_self, true_and, and_true, and_self, List.getElem?_cons_zero, List.getElem?_cons_succ, Nat.reduceLeDiff, Nat.zero_add, Nat.reduceSub, Nat.le_refl, Nat.lt_irrefl]
  refine cut_at (fun G τ2 => τ2 = τ ∧ ∃ m : Nat, m < Rr.length ∧ G = ⟨[(1, .v (.sl ub uR uz (intsV .i64 os))), (5, .v (.ptr (some (i0, 0)))), (6, .v (.sl b6 R6 z6 (slsV S))), (7, .v (.ptr (some (i, 0)))), (8, .v (.sl wb wR wz (slsV Rr))), (9, .v (.int .i64 t)), (10, .v (.int .i64 m))], []⟩) ?_ ?_
  · intro Y y1 y2 y3
    simp -implicitDefEqProofs only [go_sem, Nat.reduceBEq, Nat.reduceAdd, eq_self, true_and, and_true, and_self, List.getElem?_cons_zero, List.getElem?_cons_succ, Nat.reduceLeDiff, Nat.zero_add, Nat.reduceSub, Nat.le_refl, Nat.lt_irrefl]
    refine CondW_b (fun ho => ?_) (fun ho => ?_)
    · have ho' : t < os.length := by have := of_decide_eq_true ho; simp only [intsV, List.length_map] at this; omega
      obtain ⟨k1, k2⟩ := rdl (hu0.ext g2) (by cases os <;> simp [intsV] at ho' ⊢)
      have hib : (t : Int) < (intsV .i64 os).length := by simp only [intsV, List.length_map]; omega
      have hget := intsV_get (k := .i64) ho'
      obtain ⟨m, hm, e⟩ := idx_of os[t] hRp (by omega)
      simp -implicitDefEqProofs only [go_sem, Nat.reduceBEq, Nat.reduceAdd, eq_self, true_and, and_true, and_self, List.getElem?_cons_zero, List.getElem?_cons_succ, Nat.reduceLeDiff, Nat.zero_add, Nat.reduceSub, Nat.le_refl, hget]
      refine ⟨⟨by omega, hib, k2⟩, k1, ?_, ?_⟩
      · rw [hRl, u64w]; omega
      · rw [hRl, e]
        refine y1 _ _ _ (.inr ?_) ⟨rfl, m, hm, rfl⟩
        simp -implicitDefEqProofs only [go_sem, Nat.reduceBEq, Nat.reduceAdd, eq_self, true_and, and_true, and_self, List.getElem?_cons_zero, List.getElem?_cons_succ, Nat.reduceLeDiff, Nat.zero_add, Nat.reduceSub, Nat.le_refl, Nat.lt_irrefl]
    · simp -implicitDefEqProofs only [go_sem, Nat.reduceBEq, Nat.reduceAdd, eq_self, true_and, and_true, and_self, List.getElem?_cons_zero, List.getElem?_cons_succ, Nat.reduceLeDiff, Nat.zero_add, Nat.reduceSub, Nat.le_refl, Nat.lt_irrefl]
      refine y1 _ _ _ (.inr ?_) ⟨rfl, 0, hRp, rfl⟩
      simp -implicitDefEqProofs only [go_sem, Nat.reduceBEq, Nat.reduceAdd, eq_self, true_and, and_true, and_self, List.getElem?_cons_zero, List.getElem?_cons_succ, Nat.reduceLeDiff, Nat.zero_add, Nat.reduceSub, Nat.le_refl, Nat.lt_irrefl]
      try exact rfl
  rintro G τ2 ⟨rfl, m, hm, rfl⟩
  have hgi := slsV_get hm
  have hprm := perm_rest hm
  have hmR : Rr[m] ∈ Rr := List.getElem_mem hm
  generalize Rr[m] = d at hgi hprm hmR
  have hdS : d ∈ S := g5.mem_iff.1 (List.mem_append.2 (.inr hmR))
  have hnD : hasB D d.a = false := by
    cases hb : hasB D d.a
    · rfl
    · obtain ⟨t', ht', e⟩ := hasB_iff.1 hb
      have hnd : ((D ++ Rr).map (·.a)).Nodup := (g5.map _).nodup_iff.2 h.fine.nd
      rw [List.map_append, List.nodup_append] at hnd
      exact absurd e (hnd.2.2 _ (List.mem_map_of_mem ht') _ (List.mem_map_of_mem hmR))
  have hE0 : decide (addE D d = 0) = true := by unfold addE; rw [hok d hdS, hnD]; rfl
  have hW : addW D d = D ++ [d] := by unfold addW; rw [hok d hdS, hnD]; rfl
  obtain ⟨k1, k2⟩ := rdl g3 (by cases Rr <;> simp [slsV] at hm ⊢)
  have hib : (m : Int) < (slsV Rr).length := by omega
  simp -implicitDefEqProofs only [go_sem, Nat.reduceBEq, Nat.reduceAdd, eq_self, true_and, and_true, and_self, List.getElem?_cons_zero, List.getElem?_cons_succ, Nat.reduceLeDiff, Nat.zero_add, Nat.reduceSub, Nat.le_refl, hgi, slC]
  refine ⟨⟨by omega, hib, k2⟩, k1, ⟨by omega, hib, k2⟩, k1, ?_⟩
  refine call_at (add_ok (a := d.a) (b := d.u) g4 (by omega)) ?_
  rintro _ τ4 ⟨rfl, s2, O3, n1, n2⟩
  refine ⟨kept_upd n2.upd, ?_⟩
  have hdx : (⟨d.a, d.u⟩ : Sl) = d := rfl
  rw [hdx, hW] at n1
  have e4 := n2.upd.toExt g2 g6
  have g34 := rdS_up g3 n2.upd
  obtain ⟨k14, -⟩ := rdl g34 (by cases Rr <;> simp [slsV] at hm ⊢)
  have hwi : IntKind.i64.wrap ((m : Int) + 1) = ((m + 1 : Nat) : Int) := by rw [i64_in _ (by omega)]; omega
  simp -implicitDefEqProofs only [go_sem, Nat.reduceBEq, Nat.reduceAdd, eq_self, true_and, and_true, and_self, List.getElem?_cons_zero, List.getElem?_cons_succ, Nat.reduceLeDiff, Nat.zero_add, Nat.reduceSub, Nat.le_refl, hdx, hE0, Bool.not_true]
  have x5 := ext_live τ4 true
  have x6 : Ext τ4 ⟨τ4.objs, kill (τ4.live ++ [true]) (.own τ4.live.length) ++ [true]⟩ := ext_kill x5 (Nat.le_refl _)
  have x7 : Ext τ4 ⟨τ4.objs, kill (kill (τ4.live ++ [true]) (.own τ4.live.length) ++ [true]) (.own (τ4.live ++ [true]).length) ++ [true]⟩ := ext_kill x6 (by simp)
  have hne : slsV Rr ≠ [] := by cases Rr <;> simp [slsV] at hm ⊢
  have k15 := (rdl (g34.ext x5) hne).1
  have k16 := (rdl (g34.ext x6) hne).1
  have hl1 : (Rr.take m).length ≤ 200 := by rw [List.length_take]; omega
  have hl2 : (Rr.drop (m + 1)).length ≤ 200 := by rw [List.length_drop]; omega
  have hl3 : (Rr.take m ++ Rr.drop (m + 1)).length + 1 = Rr.length := by rw [List.length_append, List.length_take, List.length_drop]; omega
  simp only [hwi, Int.toNat_natCast, List.take_length, slsV_take, slsV_drop, slsV_append]
  refine ⟨⟨.inr k2, by omega, by omega, by omega⟩, ⟨.inr trivial, .inr (live_last _ _), ⟨.inr (rd_toView k15), .inl k2⟩, by rw [slsV_length]; omega⟩, ⟨.inr k2, by omega, by omega⟩,
    ⟨.inr trivial, .inr (live_last' _ _ _), ⟨.inr (rd_toView k16), .inl k2⟩, by rw [slsV_length, slsV_length]; omega⟩, ?_⟩
  refine z1 (Rr.take m ++ Rr.drop (m + 1), .sl false (.own (kill (τ4.live ++ [true]) (.own τ4.live.length) ++ [true]).length) 4 (slsV (Rr.take m ++ Rr.drop (m + 1))), t + 1) _ _ (.inr ?_) (by simp only; omega) ⟨by simp only; omega, e4.trans x7, ⟨false, _, 4, rfl, by simp, .inr ⟨live_last' _ _ _, rfl⟩⟩, s2, D ++ [d], O3, n1.ext x7, ?_, fun j hj => ?_⟩
  · simp -implicitDefEqProofs only [go_sem, Nat.reduceBEq, Nat.reduceAdd, eq_self, true_and, and_true, and_self, List.getElem?_cons_zero, List.getElem?_cons_succ, Nat.reduceLeDiff, Nat.zero_add, Nat.reduceSub, Nat.le_refl, Nat.lt_irrefl]
    rw [i64_in _ (by omega)]; simp
  · refine List.Perm.trans ?_ g5
    rw [List.append_assoc]
    exact List.Perm.append_left D hprm
  · exact (n2.own j hj).elim (g6 j) fun hl => Nat.le_trans g2.olen hl
end
end Go.VL.rga

namespace Go.VL.rga
open Go Go.VL Go.Proofs Go.IntWalk Go.VL.st Go.VL.row

theorem ext_cell {σ : St} (x : AObj) (cs : List V) : Ext σ ((St.mk (σ.objs ++ [x]) σ.live).setC σ.objs.length cs) := by
  refine ⟨fun j o hj => ?_, fun _ h => h, ?_, Nat.le_refl _⟩
  · have := (List.getElem?_eq_some_iff.1 hj).1
    show ((σ.objs ++ [x]).set _ _)[j]? = _
    rw [List.getElem?_set_ne (by omega), List.getElem?_append_left this]
    exact hj
  · show _ ≤ ((σ.objs ++ [x]).set _ _).length
    simp
theorem alH_get {o : List AObj} {x : AObj} : (o ++ [x])[o.length]? = some x := by simp
theorem sl_self (a : Sl) : V.eqs (slC a) (slC a) = true := by simp [V.eqs, V.eq, slC]
theorem RowIs.own_lt {σ : St} {i u k : Nat} {s : V} {O S : List Sl} (h : RowIs σ i u k s O S) : ∀ j, Own i u k s j → j < σ.objs.length := by
  obtain ⟨mu, vu, u1⟩ := h.und.at
  obtain ⟨mh, vh, k1⟩ := h.has.at
  rintro j (rfl | rfl | rfl | ⟨n, cap, z, e⟩)
  · exact (List.getElem?_eq_some_iff.1 h.cells).1
  · exact (List.getElem?_eq_some_iff.1 u1).1
  · exact (List.getElem?_eq_some_iff.1 k1).1
  · rcases h.row with ⟨R, q, hs, -⟩ | ⟨j', cap', hs, h4, -⟩
    · rw [e] at hs; cases hs
    · rw [e] at hs
      cases hs
      exact (List.getElem?_eq_some_iff.1 h4).1
section
variable {σ : St} {v : V} {l : List Sl} {stop : Int}
set_option maxRecDepth 100000 in
set_option maxHeartbeats 6400000 in
theorem goes_ok (hv : RdS σ v 4 (slsV l)) : CallA Try.prog 10 [v, .int .i64 stop] σ fun x _ => x = .bool true := by
  refine fn_at Try.func10 (by decide) comp10 rfl fun Q q1 q2 => ?_
  simp -implicitDefEqProofs only [go_sem, Nat.reduceBEq, Nat.reduceAdd, eq_self, true_and, and_true, and_self, List.getElem?_cons_zero, List.getElem?_cons_succ, Nat.reduceLeDiff, Nat.zero_add, Nat.reduceSub, Nat.le_refl, c10]
  have e0 : Ext σ ⟨σ.objs ++ [.cells [.int .i64 stop]] ++ [.cells [.bool false]], σ.live⟩ := (ext_obj σ _).trans (ext_obj _ _)
  have hs5 : (σ.objs ++ [.cells [.int .i64 stop]] ++ [.cells [.bool false]])[σ.objs.length]? = some (.cells [.int .i64 stop]) := by
    rw [List.getElem?_append_left (by simp)]; simp
  have hs6 : (σ.objs ++ [.cells [.int .i64 stop]] ++ [.cells [.bool false]])[σ.objs.length + 1]? = some (.cells [.bool false]) := by simp
  have hl1 : (σ.objs ++ [AObj.cells [.int .i64 stop]]).length = σ.objs.length + 1 := by simp
  simp only [hl1]
  generalize hτ : (St.mk (σ.objs ++ [.cells [.int .i64 stop]] ++ [.cells [.bool false]]) σ.live) = τ at e0 ⊢
  replace hs5 : τ.objs[σ.objs.length]? = some (.cells [.int .i64 stop]) := by rw [← hτ]; exact hs5
  replace hs6 : τ.objs[σ.objs.length + 1]? = some (.cells [.bool false]) := by rw [← hτ]; exact hs6
  clear hτ hl1
  generalize σ.objs.length = o5 at hs5 hs6 ⊢
  generalize o5 + 1 = o6 at hs6 ⊢
  refine call_at (laid_ok (hv.ext e0)) ?_
  rintro _ τ1 ⟨i, u, k, s, w, O, rfl, h, hw, e1, hnew⟩
  refine ⟨kept_none, ?_⟩
  have hSl := adds_len (l.take 120) []
  have hLl : (l.take 120).length ≤ 120 := by rw [List.length_take]; omega
  simp only [List.length_nil] at hSl
  generalize adds [] (l.take 120) = S at *
  have hlen := h.len
  have ho5 := (List.getElem?_eq_some_iff.1 hs5).1
  have ho6 := (List.getElem?_eq_some_iff.1 hs6).1
  have hn5 : ¬ Own i u k s o5 := fun hh => by have := hnew _ hh; omega
  have hn6 : ¬ Own i u k s o6 := fun hh => by have := hnew _ hh; omega
  have hown := h.own_lt
  replace hs5 := e1.objs _ _ hs5
  replace hs6 := e1.objs _ _ hs6
  clear e0 e1 hv hnew ho5 ho6
  simp -implicitDefEqProofs only [go_sem, Nat.reduceBEq, Nat.reduceAdd, eq_self, true_and, and_true, and_self, List.getElem?_cons_zero, List.getElem?_cons_succ, Nat.reduceLeDiff, Nat.zero_add, Nat.reduceSub, Nat.le_refl, Nat.lt_irrefl]
  refine call_at (each_ok h (by omega)) ?_
  rintro _ τ2 ⟨e2, j, wl, rfl, hjl, hsj, hwl⟩
  refine ⟨kept_none, ?_⟩
  have h2 := h.ext e2
  simp -implicitDefEqProofs only [go_sem, Nat.reduceBEq, Nat.reduceAdd, eq_self, true_and, and_true, and_self, List.getElem?_cons_zero, List.getElem?_cons_succ, Nat.reduceLeDiff, Nat.zero_add, Nat.reduceSub, Nat.le_refl, Nat.lt_irrefl]
  refine call_at (clone_ok h2 (by omega)) ?_
  rintro _ τ3 ⟨i1, u1, k1, s1, rfl, hc, e3, hcn⟩
  refine ⟨kept_none, ?_⟩
  have h3 := h2.ext e3
  have hnj : ¬ Own i u k s j := fun hh => by have := hown _ hh; omega
  simp -implicitDefEqProofs only [go_sem, Nat.reduceBEq, Nat.reduceAdd, eq_self, true_and, and_true, and_self, List.getElem?_cons_zero, List.getElem?_cons_succ, Nat.reduceLeDiff, Nat.zero_add, Nat.reduceSub, Nat.le_refl, Nat.lt_irrefl]
  refine call_at (add_ok (a := ⟨1099511627776, 7⟩) (b := zs) h3 (by omega)) ?_
  rintro _ τ4 ⟨rfl, s', O', -, u4⟩
  refine ⟨kept_none, ?_⟩
  have hc4 := hc.up u4.upd fun j hj hh => by have := hown _ hh; have := hcn _ hj; have := e2.olen; omega
  have hs5 := u4.upd.objs _ _ hn5 (e3.objs _ _ (e2.objs _ _ hs5))
  have hs6 := u4.upd.objs _ _ hn6 (e3.objs _ _ (e2.objs _ _ hs6))
  have hsj := u4.upd.objs _ _ hnj (e3.objs _ _ hsj)
  have hwl := rdS_up (hwl.ext e3) u4.upd
  have hw := rdS_up ((hw.ext e2).ext e3) u4.upd
  simp -implicitDefEqProofs only [go_sem, Nat.reduceBEq, Nat.reduceAdd, eq_self, true_and, and_true, and_self, List.getElem?_cons_zero, List.getElem?_cons_succ, Nat.reduceLeDiff, Nat.zero_add, Nat.reduceSub, Nat.le_refl, Nat.lt_irrefl]
  refine call_at (rorder_ok h.fine (by omega) h.ord hw) ?_
  rintro ww τ5 ⟨hww, e5, -⟩
  refine ⟨kept_none, ?_⟩
  replace hww := hww.rd
  obtain ⟨b, R, z, rfl, -, -⟩ := id hww
  have hfine := h.fine
  replace hs5 := e5.objs _ _ hs5
  replace hs6 := e5.objs _ _ hs6
  replace hsj := e5.objs _ _ hsj
  replace hwl := hwl.ext e5
  have hc := hc4.ext e5
  clear hw hc4 h h2 h3 u4 e2 e3 hn5 hn6 hnj hown hcn e5 hjl
  have hWl : O.length ≤ 100000 := by omega
  simp -implicitDefEqProofs only [go_sem, Nat.reduceBEq, Nat.reduceAdd, eq_self, true_and, and_true, and_self, List.getElem?_cons_zero, List.getElem?_cons_succ, Nat.reduceLeDiff, Nat.zero_add, Nat.reduceSub, Nat.le_refl, alH_get]
  have e6 := ext_cell (σ := τ5) (.cells [.sl true .pub 0 []]) [.sl b R z (slsV O)]
  have hs13 : ((St.mk (τ5.objs ++ [.cells [.sl true .pub 0 []]]) τ5.live).setC τ5.objs.length [.sl b R z (slsV O)]).objs[τ5.objs.length]? = some (.cells [.sl b R z (slsV O)]) := setC_get (by simp)
  generalize (St.mk (τ5.objs ++ [.cells [.sl true .pub 0 []]]) τ5.live).setC τ5.objs.length [.sl b R z (slsV O)] = τ7 at e6 hs13 ⊢
  generalize τ5.objs.length = o13 at hs13 ⊢
  replace hs5 := e6.objs _ _ hs5
  replace hs6 := e6.objs _ _ hs6
  replace hsj := e6.objs _ _ hsj
  replace hww := hww.ext e6
  replace hwl := hwl.ext e6
  replace hc := hc.ext e6
  clear e6
  generalize O = W at *
  have hWV := slsV_length W
  -- the first rounds
  have e8 := ext_cell (σ := τ7) (.cells [.int .i64 0]) [.int .i64 0]
  have hs15 : ((St.mk (τ7.objs ++ [.cells [.int .i64 0]]) τ7.live).setC τ7.objs.length [.int .i64 0]).objs[τ7.objs.length]? = some (.cells [.int .i64 0]) := setC_get (by simp)
  have hlv8 : ((St.mk (τ7.objs ++ [.cells [.int .i64 0]]) τ7.live).setC τ7.objs.length [.int .i64 0]).live = τ7.live := rfl
  have hol : ((St.mk (τ7.objs ++ [.cells [.int .i64 0]]) τ7.live).setC τ7.objs.length [.int .i64 0]).objs.length = τ7.objs.length + 1 := by
    show ((τ7.objs ++ [_]).set _ _).length = _
    simp
  generalize (St.mk (τ7.objs ++ [.cells [.int .i64 0]]) τ7.live).setC τ7.objs.length [.int .i64 0] = τ8 at e8 hs15 hol hlv8 ⊢
  have ho5 := (List.getElem?_eq_some_iff.1 hs5).1
  have ho6 := (List.getElem?_eq_some_iff.1 hs6).1
  have ho13 := (List.getElem?_eq_some_iff.1 hs13).1
  have hoj := (List.getElem?_eq_some_iff.1 hsj).1
  refine cut_at (fun G t => G = ⟨[(3, .v (.ptr (some (o5, 0)))), (4, .v (.ptr (some (o6, 0)))), (7, .v (.fn 39 [.ptr (some (j, 0))])), (8, .v (.ptr (some (i1, 0)))), (9, .v (.ptr (some (o13, 0)))), (10, .v (.ptr (some (τ7.objs.length, 0))))], []⟩ ∧ Ext τ7 t ∧
    ∃ n : Nat, n ≤ W.length ∧ t.objs[τ7.objs.length]? = some (.cells [.int .i64 n]) ∧ (n = W.length ∨ (n : Int) = stop)) ?_ ?_
  · intro Z z1 z2 z3
    simp -implicitDefEqProofs only [go_sem, Nat.reduceBEq, Nat.reduceAdd, eq_self, true_and, and_true, and_self, List.getElem?_cons_zero, List.getElem?_cons_succ, Nat.reduceLeDiff, Nat.zero_add, Nat.reduceSub, Nat.le_refl, Nat.lt_irrefl]
    refine range_at ?_
    intro yl i0 r0 r1 r2 r3 hi hyy
    have e9 := ext_obj τ8 r0
    have hr0 : (⟨τ8.objs ++ [r0], τ8.live⟩ : St).objs[i0]? = some r0 := by rw [← hi]; exact alH_get
    refine CallA.mono (each1_ok (j := j) (W := W) (w := wl)
      (fun R' t => ∃ n : Nat, n ≤ W.length ∧ R' = W.drop n ∧ Ext τ7 t ∧ t.objs[τ7.objs.length]? = some (.cells [.int .i64 n]) ∧ t.objs[i0]? = some r0)
      (fun t => Ext τ7 t ∧ (t.objs[i0]? = some r0 ∧ t.objs[τ7.objs.length]? = some (.cells [.int .i64 W.length]) ∨ t.objs[i0]? = some (r2 (.exit 0)) ∧ ∃ n : Nat, n ≤ W.length ∧ t.objs[τ7.objs.length]? = some (.cells [.int .i64 n]) ∧ (n : Int) = stop))
      (e9.objs _ _ (e8.objs _ _ hsj)) ((hwl.ext e8).ext e9) hWl ⟨0, Nat.zero_le _, rfl, e8.trans e9, e9.objs _ _ hs15, hr0⟩ ?_ ?_ ?_) ?_
    · rintro R' t ⟨n, -, -, h, -⟩ q hq
      exact h.live q (by rw [← hlv8]; exact hq)
    · rintro a R' t ⟨n, s1, s2, s3, s4, s5⟩
      refine hyy t _ _ s5 rfl fun Y0 y0 => ?_
      simp -implicitDefEqProofs only [go_sem, Nat.reduceBEq, Nat.reduceAdd, eq_self, true_and, and_true, and_self, List.getElem?_cons_zero, List.getElem?_cons_succ, Nat.reduceLeDiff, Nat.zero_add, Nat.reduceSub, Nat.le_refl, rndF, setPs, dropL, slV, slC]
      refine y0 _ _ s5 fun Y y1 y2 y3 => ?_
      clear y0 Y0
      have hnl : n < W.length := by
        have := congrArg List.length s2
        simp only [List.length_cons, List.length_drop] at this; omega
      rw [List.drop_eq_getElem_cons hnl] at s2
      obtain ⟨ea, eR⟩ := List.cons.inj s2
      have hget := slsV_get hnl
      rw [← ea] at hget
      have b3 := ext_setA s3 (i := i0) (o := r1) (by omega)
      have b4 : (t.setA i0 r1).objs[τ7.objs.length]? = _ := (setA_ne (by omega)).trans s4
      have b5 : (t.setA i0 r1).objs[i0]? = some r1 := setA_at s5
      generalize t.setA i0 r1 = t2 at b3 b4 b5 ⊢
      clear s2 s3 s4 s5 hyy
      have c5 := b3.objs _ _ hs5
      have c6 := b3.objs _ _ hs6
      have c13 := b3.objs _ _ hs13
      obtain ⟨k1, k2⟩ := rdl (hww.ext b3) (by cases W <;> simp [slsV] at hnl ⊢)
      have hib : (n : Int) < (slsV W).length := by omega
      have hge : decide (((slsV W).length : Int) ≤ n) = false := by simp; omega
      have hge2 : decide ((n : Int) ≥ (slsV W).length) = false := by simp; omega
      have hw64 : IntKind.i64.wrap ((n : Int) + 1) = ((n + 1 : Nat) : Int) := by rw [i64_in _ (by omega)]; omega
      have hself := sl_self a
      simp only [slC] at hself hget
      cases hcn : decide ((n : Int) = stop)
      · simp -implicitDefEqProofs only [go_sem, Nat.reduceBEq, Nat.reduceAdd, eq_self, true_and, and_true, and_self, List.getElem?_cons_zero, List.getElem?_cons_succ, Nat.reduceLeDiff, Nat.zero_add, Nat.reduceSub, Nat.le_refl, b4, c5, c13, hcn, hge, hge2, hget, hself, Bool.not_true]
        refine ⟨⟨by omega, hib, k2⟩, k1, ?_⟩
        simp -implicitDefEqProofs only [go_sem, Nat.reduceBEq, Nat.reduceAdd, eq_self, true_and, and_true, and_self, List.getElem?_cons_zero, List.getElem?_cons_succ, Nat.reduceLeDiff, Nat.zero_add, Nat.reduceSub, Nat.le_refl, b4, hw64]
        refine y1 _ _ ?_ (.inl ⟨rfl, n + 1, by omega, eR, ext_setA (ext_set b3 (Nat.le_refl _)) (by omega), ?_, setA_at (o' := r1) (by rw [setC_ne (by omega)]; exact b5)⟩)
        · rw [setC_ne (by omega)]; exact b5
        · rw [setA_ne (by omega), setC_get (List.getElem?_eq_some_iff.1 b4).1]
      · simp -implicitDefEqProofs only [go_sem, Nat.reduceBEq, Nat.reduceAdd, eq_self, true_and, and_true, and_self, List.getElem?_cons_zero, List.getElem?_cons_succ, Nat.reduceLeDiff, Nat.zero_add, Nat.reduceSub, Nat.le_refl, b4, c5, hcn]
        exact y2 0 _ _ b5 (.inr ⟨rfl, ext_setA b3 (by omega), .inr ⟨setA_at b5, n, s1, (setA_ne (by omega)).trans b4, of_decide_eq_true hcn⟩⟩)
    · rintro t ⟨n, s1, s2, s3, s4, s5⟩
      have : n = W.length := by
        have := congrArg List.length s2
        simp only [List.length_nil, List.length_drop] at this; omega
      subst this
      exact ⟨s3, .inl ⟨s5, s4⟩⟩
    · rintro _ t ⟨h1, ⟨h2, h3⟩ | ⟨h2, n, h3, h4, h5⟩⟩
      · refine .inl ⟨h2, ?_⟩
        simp -implicitDefEqProofs only [go_sem, Nat.reduceBEq, Nat.reduceAdd, eq_self, true_and, and_true, and_self, List.getElem?_cons_zero, List.getElem?_cons_succ, Nat.reduceLeDiff, Nat.zero_add, Nat.reduceSub, Nat.le_refl, Nat.lt_irrefl]
        refine z1 _ _ _ (.inr ?_) ⟨rfl, ext_setA h1 (by omega), W.length, Nat.le_refl _, (setA_ne (by omega)).trans h3, .inl rfl⟩
        simp -implicitDefEqProofs only [go_sem, Nat.reduceBEq, Nat.reduceAdd, eq_self, true_and, and_true, and_self, List.getElem?_cons_zero, List.getElem?_cons_succ, Nat.reduceLeDiff, Nat.zero_add, Nat.reduceSub, Nat.le_refl, Nat.lt_irrefl]
        try exact rfl
      · refine .inr ⟨.exit 0, by simp, h2, ?_⟩
        simp -implicitDefEqProofs only [go_sem, Nat.reduceBEq, Nat.reduceAdd, eq_self, true_and, and_true, and_self, List.getElem?_cons_zero, List.getElem?_cons_succ, Nat.reduceLeDiff, Nat.zero_add, Nat.reduceSub, Nat.le_refl, Nat.lt_irrefl]
        refine z1 _ _ _ (.inr ?_) ⟨rfl, ext_setA h1 (by omega), n, h3, (setA_ne (by omega)).trans h4, .inr h5⟩
        simp -implicitDefEqProofs only [go_sem, Nat.reduceBEq, Nat.reduceAdd, eq_self, true_and, and_true, and_self, List.getElem?_cons_zero, List.getElem?_cons_succ, Nat.reduceLeDiff, Nat.zero_add, Nat.reduceSub, Nat.le_refl, Nat.lt_irrefl]
        try exact rfl
  rintro G τ9 ⟨rfl, e9, n1, hn, hs15', hd⟩
  have g5 := e9.objs _ _ hs5
  have g6 := e9.objs _ _ hs6
  have g13 := e9.objs _ _ hs13
  have gj := e9.objs _ _ hsj
  have gww := hww.ext e9
  have gwl := hwl.ext e9
  have ho15 := (List.getElem?_eq_some_iff.1 hs15').1
  have hn0 := e9.olen
  clear hs5 hs6 hs13 hsj hww hwl e8 hs15 hol hlv8
  replace hs5 := g5
  replace hs6 := g6
  replace hs13 := g13
  replace hsj := gj
  replace hww := gww
  replace hwl := gwl
  replace hc := hc.ext e9
  clear g5 g6 g13 gj gww gwl e9
  generalize τ7.objs.length = o15 at hs15' ho15 hn0 ⊢
  simp -implicitDefEqProofs only [go_sem, Nat.reduceBEq, Nat.reduceAdd, eq_self, true_and, and_true, and_self, List.getElem?_cons_zero, List.getElem?_cons_succ, Nat.reduceLeDiff, Nat.zero_add, Nat.reduceSub, Nat.le_refl, alH_get]
  have e8 := ext_cell (σ := τ9) (.cells [.int .i64 0]) [.int .i64 0]
  have hs17 : ((St.mk (τ9.objs ++ [.cells [.int .i64 0]]) τ9.live).setC τ9.objs.length [.int .i64 0]).objs[τ9.objs.length]? = some (.cells [.int .i64 0]) := setC_get (by simp)
  have hlv8 : ((St.mk (τ9.objs ++ [.cells [.int .i64 0]]) τ9.live).setC τ9.objs.length [.int .i64 0]).live = τ9.live := rfl
  have hol : ((St.mk (τ9.objs ++ [.cells [.int .i64 0]]) τ9.live).setC τ9.objs.length [.int .i64 0]).objs.length = τ9.objs.length + 1 := by
    show ((τ9.objs ++ [_]).set _ _).length = _
    simp
  generalize (St.mk (τ9.objs ++ [.cells [.int .i64 0]]) τ9.live).setC τ9.objs.length [.int .i64 0] = τ8 at e8 hs17 hol hlv8 ⊢
  refine range_at ?_
  intro yl i0 r0 r1 r2 r3 hi hyy
  have e9 := ext_obj τ8 r0
  have hr0 : (⟨τ8.objs ++ [r0], τ8.live⟩ : St).objs[i0]? = some r0 := by rw [← hi]; exact alH_get
  refine CallA.mono (each1_ok (j := j) (W := W) (w := wl)
    (fun R' t => ∃ n : Nat, n ≤ W.length ∧ R' = W.drop n ∧ Ext τ9 t ∧ t.objs[τ9.objs.length]? = some (.cells [.int .i64 n]) ∧ t.objs[i0]? = some r0)
    (fun t => Ext τ9 t ∧ t.objs[i0]? = some r0 ∧ t.objs[τ9.objs.length]? = some (.cells [.int .i64 W.length]))
    (e9.objs _ _ (e8.objs _ _ hsj)) ((hwl.ext e8).ext e9) hWl ⟨0, Nat.zero_le _, rfl, e8.trans e9, e9.objs _ _ hs17, hr0⟩ ?_ ?_ ?_) ?_
  · rintro R' t ⟨n, -, -, h, -⟩ q hq
    exact h.live q (by rw [← hlv8]; exact hq)
  · rintro a R' t ⟨n, s1, s2, s3, s4, s5⟩
    refine hyy t _ _ s5 rfl fun Y0 y0 => ?_
    simp -implicitDefEqProofs only [go_sem, Nat.reduceBEq, Nat.reduceAdd, eq_self, true_and, and_true, and_self, List.getElem?_cons_zero, List.getElem?_cons_succ, Nat.reduceLeDiff, Nat.zero_add, Nat.reduceSub, Nat.le_refl, rndF, setPs, dropL, slV, slC]
    refine y0 _ _ s5 fun Y y1 y2 y3 => ?_
    clear y0 Y0
    have hnl : n < W.length := by
      have := congrArg List.length s2
      simp only [List.length_cons, List.length_drop] at this; omega
    rw [List.drop_eq_getElem_cons hnl] at s2
    obtain ⟨ea, eR⟩ := List.cons.inj s2
    have hget := slsV_get hnl
    rw [← ea] at hget
    have b3 := ext_setA s3 (i := i0) (o := r1) (by omega)
    have b4 : (t.setA i0 r1).objs[τ9.objs.length]? = _ := (setA_ne (by omega)).trans s4
    have b5 : (t.setA i0 r1).objs[i0]? = some r1 := setA_at s5
    generalize t.setA i0 r1 = t2 at b3 b4 b5 ⊢
    clear s2 s3 s4 s5 hyy
    have c5 := b3.objs _ _ hs5
    have c6 := b3.objs _ _ hs6
    have c13 := b3.objs _ _ hs13
    obtain ⟨k1, k2⟩ := rdl (hww.ext b3) (by cases W <;> simp [slsV] at hnl ⊢)
    have hib : (n : Int) < (slsV W).length := by omega
    have hge : decide (((slsV W).length : Int) ≤ n) = false := by simp; omega
    have hge2 : decide ((n : Int) ≥ (slsV W).length) = false := by simp; omega
    have hw64 : IntKind.i64.wrap ((n : Int) + 1) = ((n + 1 : Nat) : Int) := by rw [i64_in _ (by omega)]; omega
    have hself := sl_self a
    simp only [slC] at hself hget
    simp -implicitDefEqProofs only [go_sem, Nat.reduceBEq, Nat.reduceAdd, eq_self, true_and, and_true, and_self, List.getElem?_cons_zero, List.getElem?_cons_succ, Nat.reduceLeDiff, Nat.zero_add, Nat.reduceSub, Nat.le_refl, b4, c5, c13, hge, hge2, hget, hself, Bool.not_true]
    refine ⟨⟨by omega, hib, k2⟩, k1, ?_⟩
    simp -implicitDefEqProofs only [go_sem, Nat.reduceBEq, Nat.reduceAdd, eq_self, true_and, and_true, and_self, List.getElem?_cons_zero, List.getElem?_cons_succ, Nat.reduceLeDiff, Nat.zero_add, Nat.reduceSub, Nat.le_refl, b4, hw64]
    refine y1 _ _ ?_ (.inl ⟨rfl, n + 1, by omega, eR, ext_setA (ext_set b3 (Nat.le_refl _)) (by omega), ?_, setA_at (o' := r1) (by rw [setC_ne (by omega)]; exact b5)⟩)
    · rw [setC_ne (by omega)]; exact b5
    · rw [setA_ne (by omega), setC_get (List.getElem?_eq_some_iff.1 b4).1]
  · rintro t ⟨n, s1, s2, s3, s4, s5⟩
    have : n = W.length := by
      have := congrArg List.length s2
      simp only [List.length_nil, List.length_drop] at this; omega
    subst this
    exact ⟨s3, s5, s4⟩
  · rintro _ t ⟨h1, h2, h3⟩
    refine .inl ⟨h2, ?_⟩
    have f1 := ext_setA h1 (i := i0) (o := r3 .normal) (by omega)
    have f3 : (t.setA i0 (r3 .normal)).objs[τ9.objs.length]? = _ := (setA_ne (by omega)).trans h3
    generalize t.setA i0 (r3 .normal) = t2 at f1 f3 ⊢
    have c5 := f1.objs _ _ hs5
    have c6 := f1.objs _ _ hs6
    have c13 := f1.objs _ _ hs13
    have c15 := f1.objs _ _ hs15'
    have hcc := hc.ext f1
    have hwf := hww.ext f1
    have hle : decide ((W.length : Int) = (slsV W).length) = true := by simp [hWV]
    have fin : ∀ (F : Fr) (t3 : St), sget 4 F.s = .v (.ptr (some (o6, 0))) → t3.objs[o6]? = some (.cells [.bool true]) → Q .ret F t3 := by
      intro F t3 k1 k2
      refine q2 _ _ ?_
      have hs : ∀ x, sget 0 (sset 0 x F.s) = x := fun x => by simp [sget_sset]
      simp -implicitDefEqProofs only [go_sem, Nat.reduceBEq, Nat.reduceAdd, eq_self, true_and, and_true, and_self, List.getElem?_cons_zero, List.getElem?_cons_succ, Nat.reduceLeDiff, Nat.zero_add, Nat.reduceSub, Nat.le_refl, k1, k2, hs]
    have hsl : (stampsL W).length = W.length := by simp [stampsL]
    cases hn1 : decide ((n1 : Int) = (slsV W).length)
    · have hst : decide ((n1 : Int) = stop) = true := by
        rcases hd with hd | hd
        · simp [hWV, hd] at hn1
        · simp [hd]
      simp -implicitDefEqProofs only [go_sem, Nat.reduceBEq, Nat.reduceAdd, eq_self, true_and, and_true, and_self, List.getElem?_cons_zero, List.getElem?_cons_succ, Nat.reduceLeDiff, Nat.zero_add, Nat.reduceSub, Nat.le_refl, f3, c13, c15, c5, hle, hn1, hst]
      refine call_at (order_ok hcc (by omega)) ?_
      rintro w3 t3 ⟨a3, e3⟩
      refine ⟨e3.kept, ?_⟩
      simp -implicitDefEqProofs only [go_sem, Nat.reduceBEq, Nat.reduceAdd, eq_self, true_and, and_true, and_self, List.getElem?_cons_zero, List.getElem?_cons_succ, Nat.reduceLeDiff, Nat.zero_add, Nat.reduceSub, Nat.le_refl, Nat.lt_irrefl]
      refine call_at (stamps_ok (hwf.ext e3) (by omega)) ?_
      rintro w4 t4 ⟨a4, e4, -⟩
      refine ⟨e4.kept, ?_⟩
      simp -implicitDefEqProofs only [go_sem, Nat.reduceBEq, Nat.reduceAdd, eq_self, true_and, and_true, and_self, List.getElem?_cons_zero, List.getElem?_cons_succ, Nat.reduceLeDiff, Nat.zero_add, Nat.reduceSub, Nat.le_refl, Nat.lt_irrefl]
      refine call_at (same_ok (a3.rd.ext e4) a4.rd (by omega)) ?_
      rintro _ t5 ⟨rfl, hτ⟩
      have hτ := hτ.symm
      subst hτ
      refine ⟨(Ext.refl _).kept, ?_⟩
      have hdd : decide (stampsL W = stampsL W) = true := by simp
      simp -implicitDefEqProofs only [go_sem, Nat.reduceBEq, Nat.reduceAdd, eq_self, true_and, and_true, and_self, List.getElem?_cons_zero, List.getElem?_cons_succ, Nat.reduceLeDiff, Nat.zero_add, Nat.reduceSub, Nat.le_refl, hdd]
      refine call_at awake_ok ?_
      rintro _ t6 ⟨rfl, e6⟩
      refine ⟨e6.kept, ?_⟩
      have d6 := e6.objs _ _ (e4.objs _ _ (e3.objs _ _ c6))
      simp -implicitDefEqProofs only [go_sem, Nat.reduceBEq, Nat.reduceAdd, eq_self, true_and, and_true, and_self, List.getElem?_cons_zero, List.getElem?_cons_succ, Nat.reduceLeDiff, Nat.zero_add, Nat.reduceSub, Nat.le_refl, d6]
      exact fin _ _ rfl (setC_get (List.getElem?_eq_some_iff.1 d6).1)
    · simp -implicitDefEqProofs only [go_sem, Nat.reduceBEq, Nat.reduceAdd, eq_self, true_and, and_true, and_self, List.getElem?_cons_zero, List.getElem?_cons_succ, Nat.reduceLeDiff, Nat.zero_add, Nat.reduceSub, Nat.le_refl, f3, c13, c15, c5, hle, hn1]
      refine call_at (order_ok hcc (by omega)) ?_
      rintro w3 t3 ⟨a3, e3⟩
      refine ⟨e3.kept, ?_⟩
      simp -implicitDefEqProofs only [go_sem, Nat.reduceBEq, Nat.reduceAdd, eq_self, true_and, and_true, and_self, List.getElem?_cons_zero, List.getElem?_cons_succ, Nat.reduceLeDiff, Nat.zero_add, Nat.reduceSub, Nat.le_refl, Nat.lt_irrefl]
      refine call_at (stamps_ok (hwf.ext e3) (by omega)) ?_
      rintro w4 t4 ⟨a4, e4, -⟩
      refine ⟨e4.kept, ?_⟩
      simp -implicitDefEqProofs only [go_sem, Nat.reduceBEq, Nat.reduceAdd, eq_self, true_and, and_true, and_self, List.getElem?_cons_zero, List.getElem?_cons_succ, Nat.reduceLeDiff, Nat.zero_add, Nat.reduceSub, Nat.le_refl, Nat.lt_irrefl]
      refine call_at (same_ok (a3.rd.ext e4) a4.rd (by omega)) ?_
      rintro _ t5 ⟨rfl, hτ⟩
      have hτ := hτ.symm
      subst hτ
      refine ⟨(Ext.refl _).kept, ?_⟩
      have hdd : decide (stampsL W = stampsL W) = true := by simp
      simp -implicitDefEqProofs only [go_sem, Nat.reduceBEq, Nat.reduceAdd, eq_self, true_and, and_true, and_self, List.getElem?_cons_zero, List.getElem?_cons_succ, Nat.reduceLeDiff, Nat.zero_add, Nat.reduceSub, Nat.le_refl, hdd]
      refine call_at awake_ok ?_
      rintro _ t6 ⟨rfl, e6⟩
      refine ⟨e6.kept, ?_⟩
      have d6 := e6.objs _ _ (e4.objs _ _ (e3.objs _ _ c6))
      simp -implicitDefEqProofs only [go_sem, Nat.reduceBEq, Nat.reduceAdd, eq_self, true_and, and_true, and_self, List.getElem?_cons_zero, List.getElem?_cons_succ, Nat.reduceLeDiff, Nat.zero_add, Nat.reduceSub, Nat.le_refl, d6]
      exact fin _ _ rfl (setC_get (List.getElem?_eq_some_iff.1 d6).1)
end
end Go.VL.rga

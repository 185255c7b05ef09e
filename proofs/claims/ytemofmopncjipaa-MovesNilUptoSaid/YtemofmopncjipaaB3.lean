import Derived.Test.YtemofmopncjipaaB2
import Derived.WideKeyArgs
import Derived.ChangeArms
import Derived.OpenShut
set_option linter.unusedVariables false
set_option linter.unusedSimpArgs false
namespace Go.VL
open Go Go.ChangeShapes Go.WideShapes Go.ChangeAt Go.RowKit

/-- Shapes of what is read. -/
inductive T where
  | int (k : IntKind)
  | bool
  | str
  | sl (s : Nat) (e : T)
  | agg (l : List T)
  | arr (n : Nat) (e : T)

def tysOf (P : Program) (f : TypeId → Option T) (all : Nat) : Nat → List Field → Option (List T)
  | o, [] => bif Nat.beq o all then some [] else none
  | o, x :: r => bif Nat.beq x.offset o then (match f x.type, tysOf P f all (o + P.cellsOf x.type) r with
    | some a, some b => some (a :: b)
    | _, _ => none) else none
/-- A type's shape. -/
def tyOf (P : Program) : Nat → TypeId → Option T
  | 0, _ => none
  | n + 1, t => match P.underlying t with
    | some (.int k) => bif Nat.beq (P.cellsOf t) 1 then some (.int k) else none
    | some .bool => bif Nat.beq (P.cellsOf t) 1 then some .bool else none
    | some .string => bif Nat.beq (P.cellsOf t) 1 then some .str else none
    | some (.slice e) => bif Nat.beq (P.cellsOf t) 1 && Nat.ble 1 (P.cellsOf e) then (tyOf P n e).map (.sl (P.cellsOf e)) else none
    | some (.struct fs) => (tysOf P (tyOf P n) (P.cellsOf t) 0 fs.toList).map .agg
    | some (.array m e) => bif Nat.beq (P.cellsOf t) (m * P.cellsOf e) then (tyOf P n e).map (.arr m) else none
    | _ => none

mutual
/-- Cells of a shape. -/
def T.has : T → List V → Prop
  | .int k, xs => ∃ n, xs = [.int k n] ∧ (Lit.int k n).wf = true
  | .bool, xs => ∃ b, xs = [.bool b]
  | .str, xs => ∃ s, xs = [.str s]
  | .sl s e, xs => xs = [.sl true .pub 0 []] ∨ ∃ es, xs = [.sl false .pub s es] ∧ ∀ x ∈ es, e.has x
  | .agg l, xs => T.hasL l xs
  | .arr n e, xs => ∃ l : List (List V), l.length = n ∧ xs = l.flatten ∧ ∀ x ∈ l, e.has x
def T.hasL : List T → List V → Prop
  | [], xs => xs = []
  | t :: r, xs => ∃ a b, xs = a ++ b ∧ t.has a ∧ T.hasL r b
end

mutual
/-- How much there is of it. -/
def vb : V → Nat
  | .str s => s.length + 1
  | .sl _ _ _ es => vbe es + 1
  | .int _ _ | .bool _ | .agg _ | .tup _ | .ptr _ | .elt _ _ _ _ _ | .map _ | .osl _ _ _ _ | .fn _ _ | .nilf | .raw _ | .bad => 1
def vbs : List V → Nat
  | [] => 0
  | x :: r => vb x + vbs r
def vbe : List (List V) → Nat
  | [] => 0
  | x :: r => vbs x + vbe r
end
theorem vbs_append : ∀ (a b : List V), vbs (a ++ b) = vbs a + vbs b
  | [], b => by simp [vbs]
  | x :: a, b => by simp [vbs, vbs_append a b, Nat.add_assoc]
theorem vbs_flatten : ∀ (l : List (List V)), vbs l.flatten = vbe l
  | [] => by simp [vbs, vbe]
  | x :: l => by simp [vbe, vbs_append, vbs_flatten l]

/-- A measure of data that counts at least so much. -/
structure Bulk {H : Type} (B : DataW H → Nat) : Prop where
  lit : ∀ l, 1 ≤ B (.lit l)
  str : ∀ s, s.length + 1 ≤ B (.lit (.string s))
  nil : 1 ≤ B .nil
  slice : ∀ es sp, (es.map B).sum + 1 ≤ B (.slice es sp)
  agg : ∀ ps, (ps.map B).sum ≤ B (.agg ps)

section
variable {H : Type} {enc : TypeId × Value → H} {P : Program} {W : World} {sp : Nat → Bool} {held : Bool} {B : DataW H → Nat}

/-- What is read is of its type's shape. -/
def Reads (W : World) (B : DataW H → Nat) (T0 : T) (c : Nat) (cs : List Value) (d : DataW H) : Prop :=
  ∃ xs, RepL (g0 W) xs cs ∧ T0.has xs ∧ vbs xs ≤ B d ∧ (∀ v ∈ cs, v.oneCell' = true) ∧ cs.length = c

theorem RepL.len {γ : G} : ∀ {xs : List V} {vs : List Value}, RepL γ xs vs → xs.length = vs.length
  | [], vs, h => by simp only [RepL] at h; subst h; rfl
  | x :: xs, vs, h => by
    simp only [RepL] at h
    obtain ⟨v, ws, rfl, _, h2⟩ := h
    simp [RepL.len h2]

theorem rows_read {T0 : T} {a : Addr} {c : Nat} (hsp : a.spot = none) : ∀ (elems : List (DataW H × List MemPlace)) (k : Nat),
    (∀ (i : Nat) y, elems[i]? = some y → ∃ cs, W.cells? 0 (a.add ((k + i) * c)) c = some cs ∧ Reads W B T0 c cs y.1) →
    ∃ es vs, es.length = elems.length ∧ RepE (g0 W) c es vs ∧ (∀ x ∈ es, T0.has x) ∧ vbe es ≤ ((elems.map (·.1)).map B).sum ∧ ∀ (j : Nat) v, vs[j]? = some v → W.cell? ⟨a.block, a.off + k * c + j, none⟩ = some v
  | [], k, _ => ⟨[], [], rfl, by simp [RepE], by simp, by simp [vbe], by simp⟩
  | y :: r, k, h => by
    obtain ⟨es, vs, h1, h2, h3, h4, h5⟩ := rows_read hsp r (k + 1) fun i y hy => by
      obtain ⟨cs, e1, e2⟩ := h (i + 1) y (by simpa using hy)
      exact ⟨cs, by rw [show k + 1 + i = k + (i + 1) from by omega]; exact e1, e2⟩
    obtain ⟨cs, e1, xs, f1, f2, f3, f4, f5⟩ := h 0 y rfl
    obtain ⟨_, g1, g2⟩ := World.cells?_some e1
    refine ⟨xs :: es, cs ++ vs, by simp [h1], ?_, ?_, ?_, ?_⟩
    · simp only [RepE]
      exact ⟨cs, vs, rfl, by rw [f1.len, f5], f1, h2, f4⟩
    · intro x hx
      rcases List.mem_cons.1 hx with rfl | hx
      · exact f2
      · exact h3 x hx
    · simp only [vbe, List.map_cons, List.sum_cons]; omega
    · intro j v hv
      by_cases hj : j < cs.length
      · rw [List.getElem?_append_left hj] at hv
        have := g2 j (by omega)
        rw [hv, Nat.add_zero, add_spot hsp, add_spot rfl] at this
        exact this
      · rw [List.getElem?_append_right (by omega)] at hv
        have := h5 _ _ hv
        rw [show a.off + k * c + j = a.off + (k + 1) * c + (j - cs.length) from by rw [Nat.succ_mul]; omega]
        exact this

theorem fields_read (hB : Bulk B) {f : TypeId → Option T} {rd : TypeId → List Value → Option (DataW H × List MemPlace)} (ih : ∀ t T0 cs d ps, f t = some T0 → rd t cs = some (d, ps) → Reads W B T0 (P.cellsOf t) cs d) {all : Nat} :
    ∀ (fs : List Field) (o : Nat) (Ts : List T) (cs : List Value) (xs : List (DataW H × List MemPlace)), tysOf P f all o fs = some Ts → cs.length + o = all → xs.length = fs.length →
      (∀ (i : Nat) (x : Field), fs[i]? = some x → rd x.type ((cs.drop (x.offset - o)).take (P.cellsOf x.type)) = xs[i]?) →
      ∃ ys, RepL (g0 W) ys cs ∧ T.hasL Ts ys ∧ vbs ys ≤ ((xs.map (·.1)).map B).sum ∧ (∀ v ∈ cs, v.oneCell' = true)
  | [], o, Ts, cs, xs, ht, hl, hx, h => by
    simp only [tysOf] at ht
    cases hb : Nat.beq o all with
    | false => simp [hb] at ht
    | true =>
      simp only [hb, cond_true, Option.some.injEq] at ht
      subst ht
      have := Nat.eq_of_beq_eq_true hb
      have : cs = [] := by apply List.eq_nil_of_length_eq_zero; omega
      subst this
      exact ⟨[], by simp [RepL], by simp [T.hasL], by simp [vbs], by simp⟩
  | x :: r, o, Ts, cs, xs, ht, hl, hx, h => by
    simp only [tysOf] at ht
    cases hb : Nat.beq x.offset o with
    | false => simp [hb] at ht
    | true =>
      have ho := Nat.eq_of_beq_eq_true hb
      simp only [hb, cond_true] at ht
      split at ht
      · rename_i a b ha hbb
        simp only [Option.some.injEq] at ht
        subst ht
        cases xs with
        | nil => simp at hx
        | cons y ys =>
          have h0 := h 0 x rfl
          simp only [ho, Nat.sub_self, List.drop_zero, List.getElem?_cons_zero] at h0
          obtain ⟨zs, f1, f2, f3, f4, f5⟩ := ih _ _ _ _ _ ha h0
          have hle : P.cellsOf x.type ≤ cs.length := by rw [← f5, List.length_take]; omega
          obtain ⟨us, k1, k2, k3, k4⟩ := fields_read hB ih r (o + P.cellsOf x.type) b (cs.drop (P.cellsOf x.type)) ys hbb (by rw [List.length_drop]; omega) (by simpa using hx) (by
            intro i fd hfd
            have := h (i + 1) fd (by simpa using hfd)
            simp only [List.getElem?_cons_succ] at this
            rw [← this, List.drop_drop]
            -- a field's place is not ahead of where we are
            have hge : o + P.cellsOf x.type ≤ fd.offset := tysOf_ge hbb hfd
            congr 3
            omega)
          refine ⟨zs ++ us, ?_, ⟨zs, us, rfl, f2, k2⟩, ?_, ?_⟩
          · rw [← List.take_append_drop (P.cellsOf x.type) cs]
            exact f1.append k1
          · rw [vbs_append]; simp only [List.map_cons, List.sum_cons]; omega
          · intro v hv
            rw [← List.take_append_drop (P.cellsOf x.type) cs] at hv
            rcases List.mem_append.1 hv with hv | hv
            · exact f4 v hv
            · exact k4 v hv
      · cases ht
where
  tysOf_ge {f : TypeId → Option T} {all : Nat} : ∀ {fs : List Field} {o : Nat} {Ts : List T} {i : Nat} {fd : Field}, tysOf P f all o fs = some Ts → fs[i]? = some fd → o ≤ fd.offset
    | [], o, Ts, i, fd, _, h => by simp at h
    | x :: r, o, Ts, i, fd, ht, h => by
      simp only [tysOf] at ht
      cases hb : Nat.beq x.offset o with
      | false => simp [hb] at ht
      | true =>
        have ho := Nat.eq_of_beq_eq_true hb
        simp only [hb, cond_true] at ht
        split at ht
        · rename_i a b ha hbb
          cases i with
          | zero => simp only [List.getElem?_cons_zero, Option.some.injEq] at h; subst h; omega
          | succ i =>
            simp only [List.getElem?_cons_succ] at h
            have := tysOf_ge hbb h
            omega
        · cases ht

theorem arr_read {T0 : T} {c : Nat} {rd : List Value → Option (DataW H × List MemPlace)} (ih : ∀ cs d ps, rd cs = some (d, ps) → Reads W B T0 c cs d) :
    ∀ (n : Nat) (cs : List Value) (xs : List (DataW H × List MemPlace)), cs.length = n * c → xs.length = n → (∀ (i : Nat), i < n → rd ((cs.drop (i * c)).take c) = xs[i]?) →
      ∃ l : List (List V), l.length = n ∧ RepL (g0 W) l.flatten cs ∧ (∀ x ∈ l, T0.has x) ∧ vbe l ≤ ((xs.map (·.1)).map B).sum ∧ (∀ v ∈ cs, v.oneCell' = true)
  | 0, cs, xs, hl, hx, h => by
    have : cs = [] := by apply List.eq_nil_of_length_eq_zero; omega
    subst this
    exact ⟨[], rfl, by simp [RepL], by simp, by simp [vbe], by simp⟩
  | n + 1, cs, xs, hl, hx, h => by
    cases xs with
    | nil => simp at hx
    | cons y ys =>
      have h0 := h 0 (by omega)
      simp only [Nat.zero_mul, List.drop_zero, List.getElem?_cons_zero] at h0
      obtain ⟨zs, f1, f2, f3, f4, f5⟩ := ih _ _ _ h0
      obtain ⟨l, k1, k2, k3, k4, k5⟩ := arr_read ih n (cs.drop c) ys (by rw [List.length_drop, hl, Nat.succ_mul]; omega) (by simpa using hx) (fun i hi => by
        have := h (i + 1) (by omega)
        simp only [List.getElem?_cons_succ] at this
        rw [← this, List.drop_drop, Nat.succ_mul, Nat.add_comm])
      refine ⟨zs :: l, by simp [k1], ?_, ?_, ?_, ?_⟩
      · rw [List.flatten_cons, ← List.take_append_drop c cs]
        exact f1.append k2
      · intro x hx
        rcases List.mem_cons.1 hx with rfl | hx
        · exact f2
        · exact k3 x hx
      · simp only [vbe, List.map_cons, List.sum_cons]; omega
      · intro v hv
        rw [← List.take_append_drop c cs] at hv
        rcases List.mem_append.1 hv with hv | hv
        · exact f4 v hv
        · exact k5 v hv

theorem one_read {x : V} {v : Value} {T0 : T} {d : DataW H} (hr : Rep (g0 W) x v) (ht : T0.has [x]) (hb : vb x ≤ B d) (h1 : v.oneCell' = true) : Reads W B T0 1 [v] d :=
  ⟨[x], by simp only [RepL]; exact ⟨v, [], rfl, hr, rfl⟩, ht, by simpa [vbs] using hb, by simpa using h1, rfl⟩

theorem read_has (hB : Bulk B) : ∀ (n : Nat) (t : TypeId) (T0 : T) (fuel : Nat) (cs : List Value) (d : DataW H) (ps : List MemPlace), tyOf P n t = some T0 → DataW.trod enc P W 0 sp held fuel t cs = some (d, ps) → Reads W B T0 (P.cellsOf t) cs d
  | 0, t, T0, fuel, cs, d, ps, ht, _ => by simp [tyOf] at ht
  | n + 1, t, T0, fuel, cs, d, ps, ht, h => by
    have c1 : ∀ {x : Option T}, (bif Nat.beq (P.cellsOf t) 1 then x else none) = some T0 → P.cellsOf t = 1 ∧ x = some T0 := by
      intro x hx
      cases hb : Nat.beq (P.cellsOf t) 1 with
      | false => simp [hb] at hx
      | true => exact ⟨Nat.eq_of_beq_eq_true hb, by simpa [hb] using hx⟩
    simp only [tyOf] at ht
    split at ht
    · rename_i k hu
      obtain ⟨hc, h0⟩ := c1 ht
      cases h0
      rw [hc]
      obtain ⟨n', rfl, h1, hw⟩ := DataW.trod_int hu h
      simp only [Prod.mk.injEq] at h1
      obtain ⟨rfl, rfl⟩ := h1
      exact one_read (x := .int k n') (by simp only [Rep]) ⟨_, rfl, hw⟩ (by simpa [vb] using hB.lit _) rfl
    · rename_i hu
      obtain ⟨hc, h0⟩ := c1 ht
      cases h0
      rw [hc]
      obtain ⟨b, rfl, h1⟩ := DataW.trod_bool hu h
      simp only [Prod.mk.injEq] at h1
      obtain ⟨rfl, rfl⟩ := h1
      exact one_read (x := .bool b) (by simp only [Rep]) ⟨_, rfl⟩ (by simpa [vb] using hB.lit _) rfl
    · rename_i hu
      obtain ⟨hc, h0⟩ := c1 ht
      cases h0
      rw [hc]
      obtain ⟨s, rfl, h1, _⟩ := DataW.trod_string hu h
      simp only [Prod.mk.injEq] at h1
      obtain ⟨rfl, rfl⟩ := h1
      exact one_read (x := .str s.data.toList) (by simp only [Rep]) ⟨_, rfl⟩ (by simp only [vb]; exact hB.str _) rfl
    · rename_i e hu
      cases hb : (Nat.beq (P.cellsOf t) 1 && Nat.ble 1 (P.cellsOf e)) with
      | false => simp [hb] at ht
      | true =>
        simp only [hb, cond_true, Option.map_eq_some_iff] at ht
        obtain ⟨Te, hTe, rfl⟩ := ht
        simp only [Bool.and_eq_true] at hb
        have hc := Nat.eq_of_beq_eq_true hb.1
        have he := Nat.le_of_ble_eq_true hb.2
        rw [hc]
        rcases DataW.trod_slice hu h with ⟨rfl, h0⟩ | ⟨a, len, cap, elems, rest, m, _, rfl, h0, _, hl, _, hlen, hel, _⟩
        · simp only [Prod.mk.injEq] at h0
          obtain ⟨rfl, rfl⟩ := h0
          exact one_read (x := .sl true .pub 0 []) (by simp [Rep]) (.inl rfl) (by simpa [vb, vbe] using hB.nil) rfl
        · simp only [Prod.mk.injEq] at h0
          obtain ⟨rfl, rfl⟩ := h0
          have each : ∀ (i : Nat) y, elems[i]? = some y → ∃ cs, W.cells? 0 (a.add ((0 + i) * P.cellsOf e)) (P.cellsOf e) = some cs ∧ Reads W B Te (P.cellsOf e) cs y.1 := by
            intro i y hy
            have hi : i < len := by rw [← hlen]; exact (List.getElem?_eq_some_iff.1 hy).1
            have := hel i hi
            rw [hy, Option.bind_eq_some_iff] at this
            obtain ⟨cs, e1, e2⟩ := this
            exact ⟨cs, by rw [Nat.zero_add]; exact e1, read_has hB n e Te m cs y.1 y.2 hTe e2⟩
          by_cases hsp : a.spot = none
          · obtain ⟨es, vs, k1, k2, k3, k4, k5⟩ := rows_read hsp elems 0 each
            refine one_read (x := .sl false .pub (P.cellsOf e) es) ?_ (.inr ⟨es, rfl, k3⟩) ?_ rfl
            · simp only [Rep]
              exact ⟨a, cap, vs, by rw [k1, hlen], .inr hsp, by omega, pub_cells (fun i v hv => by simpa using k5 i v hv), k2⟩
            · have := hB.slice (elems.map (·.1)) (rest.map (·.1))
              simp only [vb]
              omega
          · have hnil : elems = [] := by
              cases elems with
              | nil => rfl
              | cons y r =>
                exfalso
                obtain ⟨cs, e1, _⟩ := each 0 y rfl
                obtain ⟨_, g1, g2⟩ := World.cells?_some e1
                have := g2 0 he
                have h0 : (a.add ((0 + 0) * P.cellsOf e)).add 0 = a := by simp [Addr.add]
                rw [h0] at this
                have hcs : cs[0]? = some cs[0] := List.getElem?_eq_getElem (by omega)
                rw [hcs] at this
                unfold World.cell? at this
                split at this
                · cases hx : a.spot with
                  | none => exact hsp hx
                  | some b => simp [hx] at this
                · cases this
            subst hnil
            refine one_read (x := .sl false .pub (P.cellsOf e) []) ?_ (.inr ⟨[], rfl, by simp⟩) ?_ rfl
            · simp only [Rep]
              simp only [List.length_nil] at hlen
              exact ⟨a, cap, [], by rw [← hlen]; rfl, .inl trivial, by simp, fun i v hv => by simp at hv, by simp [RepE]⟩
            · have := hB.slice ([] : List (DataW H)) (rest.map (·.1))
              simp only [vb, vbe]
              simp only [List.map_nil, List.sum_nil] at this ⊢
              omega
    · rename_i fs hu
      simp only [Option.map_eq_some_iff] at ht
      obtain ⟨Ts, hTs, rfl⟩ := ht
      obtain ⟨xs, m, _, h0, hl, hlen, hf⟩ := DataW.trod_struct hu h
      simp only [Prod.mk.injEq] at h0
      obtain ⟨rfl, rfl⟩ := h0
      obtain ⟨ys, k1, k2, k3, k4⟩ := fields_read (P := P) hB (f := tyOf P n) (rd := fun t cs => DataW.trod enc P W 0 sp held m t cs) (fun t T0 cs d ps h1 h2 => read_has hB n t T0 m cs d ps h1 h2) fs.toList 0 Ts cs xs hTs (by omega) (by simpa using hlen)
        (fun i x hx => by simpa using hf i x (by simpa using hx))
      exact ⟨ys, k1, k2, Nat.le_trans k3 (hB.agg _), k4, hl⟩
    · rename_i m e hu
      cases hb : Nat.beq (P.cellsOf t) (m * P.cellsOf e) with
      | false => simp [hb] at ht
      | true =>
        simp only [hb, cond_true, Option.map_eq_some_iff] at ht
        obtain ⟨Te, hTe, rfl⟩ := ht
        have hc := Nat.eq_of_beq_eq_true hb
        obtain ⟨xs, q, _, h0, hl, hlen, hf⟩ := DataW.trod_array hu h
        simp only [Prod.mk.injEq] at h0
        obtain ⟨rfl, rfl⟩ := h0
        obtain ⟨l, k1, k2, k3, k4, k5⟩ := arr_read (rd := fun cs => DataW.trod enc P W 0 sp held q e cs) (T0 := Te) (c := P.cellsOf e) (W := W) (B := B) (fun cs d ps h2 => read_has hB n e Te q cs d ps hTe h2) m cs xs (by rw [hl, hc]) hlen hf
        exact ⟨l.flatten, k2, ⟨l, k1, rfl, k3⟩, by rw [vbs_flatten]; exact Nat.le_trans k4 (hB.agg _), k5, hl⟩
    · cases ht

/-- An argument of a shape. -/
def T.arg : T → V → Prop
  | .agg l, x => ∃ xs, x = .agg xs ∧ T.hasL l xs
  | .arr n e, x => ∃ xs, x = .agg xs ∧ (T.arr n e).has xs
  | t, x => t.has [x]
def T.args : List T → List V → Prop
  | [], xs => xs = []
  | t :: r, xs => ∃ x ys, xs = x :: ys ∧ t.arg x ∧ T.args r ys
def vba : V → Nat
  | .agg xs => vbs xs
  | x => vb x
def vbas : List V → Nat
  | [] => 0
  | x :: r => vba x + vbas r

theorem vba_one {x : V} (h : ∀ xs, x ≠ .agg xs) : vba x = vbs [x] := by
  cases x <;> first | rfl | exact absurd rfl (h _)

def tysAll (P : Program) (n : Nat) : List TypeId → Option (List T)
  | [] => some []
  | t :: r => match tyOf P n t, tysAll P n r with
    | some a, some b => some (a :: b)
    | _, _ => none

theorem cells_one {v q : Value} (hq : v.cells.toList = [q]) (ha : ∀ cs, v ≠ .agg cs) : v.cells.toList = [v] := by
  cases v <;> first | rfl | exact absurd rfl (ha _)

theorem arg_read (hB : Bulk B) {n : Nat} {t : TypeId} {T0 : T} {base : Nat} {v : Value} {d : DataW H} {ps : List MemPlace} (ht : tyOf P n t = some T0) (hok : Value.okWide P W .any base t v) (h : DataW.Trod enc P W 0 sp held t v d ps) :
    ∃ x, Rep (g0 W) x v ∧ T0.arg x ∧ vba x ≤ B d := by
  obtain ⟨fuel, h⟩ := h
  obtain ⟨xs, k1, k2, k3, k4, k5⟩ := read_has hB n t T0 fuel _ d ps ht h
  have flat : ∀ (T1 : T), T0 = T1 → (∀ x, T1.has [x] → T1.arg x ∧ ∀ xs, x ≠ .agg xs) → v.cells.toList = [v] → (∃ x, xs = [x]) → ∃ x, Rep (g0 W) x v ∧ T0.arg x ∧ vba x ≤ B d := by
    rintro T1 rfl ha hv ⟨x, rfl⟩
    rw [hv] at k1
    simp only [RepL, List.cons.injEq] at k1
    obtain ⟨w, ws, ⟨rfl, rfl⟩, k1, -⟩ := k1
    obtain ⟨a1, a2⟩ := ha x k2
    exact ⟨x, k1, a1, by rw [vba_one a2]; exact k3⟩
  have agg : ∀ cs, v = .agg cs → Rep (g0 W) (.agg xs) v := by
    intro cs hv
    subst hv
    simp only [Rep]
    exact ⟨cs.toList, by simp, k1⟩
  cases n with
  | zero => simp [tyOf] at ht
  | succ n =>
    unfold Value.okWide at hok
    simp only [tyOf] at ht
    split at ht
    · rename_i k hu
      rw [hu] at hok
      have hT : T0 = .int k := by
        cases hb : Nat.beq (P.cellsOf t) 1 <;> simp [hb] at ht
        exact ht.symm
      subst hT
      obtain ⟨m, rfl, hw⟩ := k2
      exact flat _ rfl (fun x hx => ⟨hx, by obtain ⟨m, hx, _⟩ := hx; simp only [List.cons.injEq, and_true] at hx; subst hx; simp⟩) (by
        obtain ⟨q, hq, _⟩ := DataW.trod_int hu h
        exact cells_one hq (by intro cs hcs; subst hcs; simp [Cell.okWide, Cell.ok, hu] at hok)) ⟨_, rfl⟩
    · rename_i hu
      rw [hu] at hok
      have hT : T0 = .bool := by
        cases hb : Nat.beq (P.cellsOf t) 1 <;> simp [hb] at ht
        exact ht.symm
      subst hT
      obtain ⟨m, rfl⟩ := k2
      exact flat _ rfl (fun x hx => ⟨hx, by obtain ⟨m, hx⟩ := hx; simp only [List.cons.injEq, and_true] at hx; subst hx; simp⟩) (by
        obtain ⟨q, hq, _⟩ := DataW.trod_bool hu h
        exact cells_one hq (by intro cs hcs; subst hcs; simp [Cell.okWide, Cell.ok, hu] at hok)) ⟨_, rfl⟩
    · rename_i hu
      rw [hu] at hok
      have hT : T0 = .str := by
        cases hb : Nat.beq (P.cellsOf t) 1 <;> simp [hb] at ht
        exact ht.symm
      subst hT
      obtain ⟨m, rfl⟩ := k2
      exact flat _ rfl (fun x hx => ⟨hx, by obtain ⟨m, hx⟩ := hx; simp only [List.cons.injEq, and_true] at hx; subst hx; simp⟩) (by
        obtain ⟨q, hq, _⟩ := DataW.trod_string hu h
        exact cells_one hq (by intro cs hcs; subst hcs; simp [Cell.okWide, Cell.ok, hu] at hok)) ⟨_, rfl⟩
    · rename_i e hu
      rw [hu] at hok
      have hT : ∃ s Te, T0 = .sl s Te := by
        cases hb : (Nat.beq (P.cellsOf t) 1 && Nat.ble 1 (P.cellsOf e)) <;> simp [hb] at ht
        obtain ⟨Te, _, h⟩ := ht
        exact ⟨_, _, h.symm⟩
      obtain ⟨s, Te, rfl⟩ := hT
      have hxs : ∃ x, xs = [x] := by
        rcases k2 with rfl | ⟨es, rfl, _⟩ <;> exact ⟨_, rfl⟩
      exact flat _ rfl (fun x hx => ⟨hx, by
        rcases hx with hx | ⟨es, hx, _⟩ <;> (simp only [List.cons.injEq, and_true] at hx; subst hx; simp)⟩) (by
        have : ∃ q, v.cells.toList = [q] := by
          rcases DataW.trod_slice hu h with ⟨hq, _⟩ | ⟨a, len, cap, elems, rest, m, _, hq, _⟩ <;> exact ⟨_, hq⟩
        obtain ⟨q, hq⟩ := this
        exact cells_one hq (by intro cs hcs; subst hcs; simp [Cell.okWide, Cell.ok, hu] at hok)) hxs
    · rename_i fs hu
      rw [hu] at hok
      obtain ⟨cs, hv, _⟩ := hok
      simp only [Option.map_eq_some_iff] at ht
      obtain ⟨Ts, hTs, rfl⟩ := ht
      exact ⟨.agg xs, agg cs hv, ⟨xs, rfl, k2⟩, k3⟩
    · rename_i m e hu
      rw [hu] at hok
      obtain ⟨cs, hv, _⟩ := hok
      have hT : ∃ Te, T0 = .arr m Te := by
        cases hb : Nat.beq (P.cellsOf t) (m * P.cellsOf e) <;> simp [hb] at ht
        obtain ⟨Te, _, h⟩ := ht
        exact ⟨_, h.symm⟩
      obtain ⟨Te, rfl⟩ := hT
      exact ⟨.agg xs, agg cs hv, ⟨xs, rfl, k2⟩, k3⟩
    · cases ht
theorem args_read (hB : Bulk B) {n base : Nat} : ∀ (ts : List TypeId) (Ts : List T) (vs : List Value) (ds : List (DataW H)) (ps : List MemPlace), tysAll P n ts = some Ts → (∀ (j : Nat) t v, ts[j]? = some t → vs[j]? = some v → Value.okWide P W .any base t v) →
    DataW.TrodAll enc P W 0 sp held ts vs ds ps → ∃ xs, RepL (g0 W) xs vs ∧ T.args Ts xs ∧ vbas xs ≤ (ds.map B).sum
  | [], Ts, [], [], ps, ht, _, _ => by
    simp only [tysAll, Option.some.injEq] at ht
    subst ht
    exact ⟨[], by simp [RepL], by simp [T.args], by simp [vbas]⟩
  | t :: ts, Ts, v :: vs, d :: ds, ps, ht, hok, ⟨p, q, h1, h2, _⟩ => by
    simp only [tysAll] at ht
    split at ht
    · rename_i a b ha hb
      simp only [Option.some.injEq] at ht
      subst ht
      obtain ⟨x, e1, e2, e3⟩ := arg_read hB ha (hok 0 t v rfl rfl) h1
      obtain ⟨xs, f1, f2, f3⟩ := args_read hB ts b vs ds q hb (fun j t v h1 h2 => hok (j + 1) t v (by simpa using h1) (by simpa using h2)) h2
      refine ⟨x :: xs, by simp only [RepL]; exact ⟨v, vs, rfl, e1, f1⟩, ⟨x, xs, rfl, e2, f2⟩, ?_⟩
      simp only [vbas, List.map_cons, List.sum_cons]; omega
    · cases ht
  | [], _, _ :: _, _, _, _, _, h => by simp [DataW.TrodAll] at h
  | [], _, [], _ :: _, _, _, _, h => by simp [DataW.TrodAll] at h
  | _ :: _, _, [], _, _, _, _, h => by simp [DataW.TrodAll] at h
  | _ :: _, _, _ :: _, [], _, _, _, h => by simp [DataW.TrodAll] at h

theorem trodAll_stays (hl : laidOutB P = true) {W' : World} {sp' : Nat → Bool} : ∀ {ts : List TypeId} {vs : List Value} {ds : List (DataW H)} {ps : List MemPlace}, (ts.all fun t => P.readableRec t && decide (t < P.types.size)) = true →
    DataW.TrodAll enc P W 0 (fun _ => true) true ts vs ds ps → (∀ p ∈ ps, W.sameAt W' p) → (∀ p ∈ ps, sp' p.block = true) → DataW.TrodAll enc P W' 0 sp' true ts vs ds ps
  | [], [], [], _, _, h, _, _ => h
  | _ :: _, _ :: _, _ :: _, _, hr, ⟨p, q, h1, h2, e⟩, hs, hp => by
    simp only [List.all_cons, Bool.and_eq_true, decide_eq_true_eq] at hr
    exact ⟨p, q, WideElems.Trod_stays hl hr.1.1 hr.1.2 h1 (fun x hx => hs x (by rw [e]; exact List.mem_append_left _ hx)) (fun x hx => hp x (by rw [e]; exact List.mem_append_left _ hx)),
      trodAll_stays hl (by simpa using hr.2) h2 (fun x hx => hs x (by rw [e]; exact List.mem_append_right _ hx)) (fun x hx => hp x (by rw [e]; exact List.mem_append_right _ hx)), e⟩

/-- A law's contract, from V-logic: whatever the arguments of the types' shapes, it tells true. -/
theorem law_calls (hB : Bulk B) {f : Func} {fid : FuncId} {s : ChangeSpec} {W : World} {base n : Nat} {args : Array Value} {ds gs : List (DataW H)} {before : List MemPlace} {Ts : List T} {tb : TypeId}
    (hlo : laidOutB P = true) (hts : tysAll P n f.params.toList = some Ts) (hrd : (f.params.toList.all fun t => P.readableRec t && decide (t < P.types.size)) = true) (hvars : s.vars = []) (hres : f.resultTypes = #[tb]) (hb : P.underlying tb = some .bool)
    (hspec : ∀ ds : List (DataW H), ds.length = f.params.size → s.fn H ds = { results := [.lit (.bool true)], args := ds })
    (hval : ∀ (j : Nat) t v, f.params[j]? = some t → args[j]? = some v → Value.okWide P W .any base t v)
    (hW : DataW.Whole enc P f.params.toList s.vars false W args.toList ds gs before)
    (hc : ∀ xs, T.args Ts xs → vbas xs ≤ ((ds ++ gs).map B).sum → CallA P fid xs ⟨[], []⟩ fun v _ => v = .bool true) :
    Calls P fid args W fun e W' => ∃ v, e = .returned v ∧ s.post enc P f false true false false W args v W' := by
  have hW' := hW
  obtain ⟨p, q, hA, hV, rfl, hfz, hnd⟩ := hW
  rw [hvars] at hV
  obtain ⟨rfl, rfl⟩ := trodVars_none hV
  rw [List.append_nil] at hc
  have hlen : ∀ {ts : List TypeId} {vs : List Value} {ds : List (DataW H)} {ps : List MemPlace}, DataW.TrodAll enc P W 0 (fun _ => true) true ts vs ds ps → ds.length = ts.length := by
    intro ts
    induction ts with
    | nil => intro vs ds ps h; cases vs <;> cases ds <;> simp_all [DataW.TrodAll]
    | cons t ts ih =>
      intro vs ds ps h
      cases vs <;> cases ds <;> simp only [DataW.TrodAll] at h
      obtain ⟨_, _, _, h2, _⟩ := h
      simp [ih h2]
  have hs := hspec ds (by rw [hlen hA]; simp)
  obtain ⟨xs, k1, k2, k3⟩ := args_read hB f.params.toList Ts args.toList ds p hts (fun j t v h1 h2 => hval j t v (by simpa using h1) (by simpa using h2)) hA
  refine (entry (hc xs k2 k3) k1).mono fun e W' ⟨v, x, σ, γ, he, hk, hi, hx, hxv⟩ => ?_
  subst he hxv
  simp only [Rep] at hx
  subst hx
  simp only [List.append_nil] at hW'
  refine ⟨_, rfl, post_of_old (pa := p) (pv := []) (gs := []) (ds := ds) (before := p) (by simpa using hW') ?_ ?_ ?_ (by simp) hk (ok_one hres rfl (okWide_bool_mk hb _))⟩
  · intro b sp hd
    rw [List.append_nil, hs, hres]
    exact (trodAll_cons_mk (shut_bool hb _) trodAll_mk0)
  · intro sp hsp
    rw [List.append_nil, hs]
    exact trodAll_stays hlo hrd hA (fun x hx => hk.same (hW'.lt x (by simpa using hx))) hsp
  · intro sp _
    rw [List.append_nil, hs, hvars]
    rfl
end
end Go.VL
namespace Go.VL
open Go

/-- A slice whose elements are one cell. -/
theorem has_sl {s : Nat} {e : T} {x : V} (h : (T.sl s e).arg x) : ∃ es, (x = .sl true .pub 0 [] ∧ es = [] ∨ x = .sl false .pub s es) ∧ (∀ y ∈ es, e.has y) ∧ vbe es + 1 = vba x := by
  rcases h with h | ⟨es, h, h2⟩
  · simp only [List.cons.injEq, and_true] at h
    subst h
    exact ⟨[], .inl ⟨rfl, rfl⟩, by simp, by simp [vba, vb, vbe]⟩
  · simp only [List.cons.injEq, and_true] at h
    subst h
    exact ⟨es, .inr rfl, h2, by simp [vba, vb]⟩
theorem arg_rd {s : Nat} {e : T} {x : V} (h : (T.sl s e).arg x) : ∃ es, RdS ⟨[], []⟩ x s es ∧ (∀ y ∈ es, e.has y) ∧ vbe es < vba x := by
  obtain ⟨es, h1, h2, h3⟩ := has_sl h
  refine ⟨es, ?_, h2, by omega⟩
  rcases h1 with ⟨rfl, rfl⟩ | rfl
  · exact ⟨true, .pub, 0, rfl, by simp, .inl rfl⟩
  · exact ⟨false, .pub, s, rfl, by simp, .inr ⟨trivial, rfl⟩⟩
theorem bytes_of : ∀ {es : List (List V)}, (∀ y ∈ es, (T.int .u8).has y) → ∃ bs, es = bytesV bs ∧ bs.length ≤ vbe es
  | [], _ => ⟨[], rfl, by simp⟩
  | y :: es, h => by
    obtain ⟨bs, rfl, h2⟩ := bytes_of (es := es) fun y hy => h y (by simp [hy])
    obtain ⟨n, rfl, hw⟩ := h y (by simp)
    have hr : 0 ≤ n ∧ n ≤ 255 := by
      have : 0 ≤ n ∧ n ≤ 255 := by simpa [Lit.wf, IntKind.min, IntKind.max, IntKind.signed, IntKind.bits] using hw
      exact this
    refine ⟨UInt8.ofNat n.toNat :: bs, ?_, by simp only [List.length_cons, vbe, vbs, vb]; omega⟩
    have := byte1 n hr
    simp only [bytesV, List.map_cons, List.map_nil, List.cons.injEq, and_true] at this ⊢
    exact this
theorem ints_of : ∀ {es : List (List V)}, (∀ y ∈ es, (T.int .i64).has y) → ∃ ns : List Int, es = intsV .i64 ns ∧ ns.length ≤ vbe es ∧ ∀ n ∈ ns, -9223372036854775808 ≤ n ∧ n < 9223372036854775808
  | [], _ => ⟨[], rfl, by simp, by simp⟩
  | y :: es, h => by
    obtain ⟨bs, rfl, h2, h3⟩ := ints_of (es := es) fun y hy => h y (by simp [hy])
    obtain ⟨n, rfl, hw⟩ := h y (by simp)
    have hr : -9223372036854775808 ≤ n ∧ n ≤ 9223372036854775807 := by
      simpa [Lit.wf, IntKind.min, IntKind.max, IntKind.signed, IntKind.bits] using hw
    refine ⟨n :: bs, rfl, by simp only [List.length_cons, vbe, vbs, vb]; omega, fun m hm => ?_⟩
    rcases List.mem_cons.1 hm with rfl | hm
    · omega
    · exact h3 m hm
theorem strs_of : ∀ {es : List (List V)}, (∀ y ∈ es, T.str.has y) → ∃ ss : List (List UInt8), es = (ss.map fun s => [V.str s]) ∧ (ss.map fun s => s.length + 1).sum ≤ vbe es
  | [], _ => ⟨[], rfl, by simp⟩
  | y :: es, h => by
    obtain ⟨bs, rfl, h2⟩ := strs_of (es := es) fun y hy => h y (by simp [hy])
    obtain ⟨s, rfl⟩ := h y (by simp)
    exact ⟨s :: bs, rfl, by simp only [List.map_cons, List.sum_cons, vbe, vbs, vb]; omega⟩
theorem arg_bytes {x : V} (h : (T.sl 1 (.int .u8)).arg x) : ∃ bs, RdS ⟨[], []⟩ x 1 (bytesV bs) ∧ bs.length < vba x := by
  obtain ⟨es, h1, h2, h3⟩ := arg_rd h
  obtain ⟨bs, rfl, h4⟩ := bytes_of h2
  exact ⟨bs, h1, by omega⟩
theorem arg_int {x : V} (h : (T.int .i64).arg x) : ∃ n, x = .int .i64 n ∧ -9223372036854775808 ≤ n ∧ n < 9223372036854775808 := by
  obtain ⟨n, h1, hw⟩ := h
  simp only [List.cons.injEq, and_true] at h1
  have hr : -9223372036854775808 ≤ n ∧ n ≤ 9223372036854775807 := by
    simpa [Lit.wf, IntKind.min, IntKind.max, IntKind.signed, IntKind.bits] using hw
  exact ⟨n, h1, by omega, by omega⟩
end Go.VL
namespace Go.VL
open Go
theorem arg_ints' {x : V} (h : (T.sl 1 (.int .i64)).arg x) : ∃ ns : List Int, RdS ⟨[], []⟩ x 1 (intsV .i64 ns) ∧ ns.length < vba x ∧ ∀ n ∈ ns, -9223372036854775808 ≤ n ∧ n < 9223372036854775808 := by
  obtain ⟨es, h1, h2, h3⟩ := arg_rd h
  obtain ⟨ns, rfl, h4, h5⟩ := ints_of h2
  exact ⟨ns, h1, by omega, h5⟩
theorem arg_strs' {x : V} (h : (T.sl 1 .str).arg x) : ∃ ss : List (List UInt8), RdS ⟨[], []⟩ x 1 (ss.map fun s => [V.str s]) ∧ (ss.map fun s => s.length + 1).sum < vba x := by
  obtain ⟨es, h1, h2, h3⟩ := arg_rd h
  obtain ⟨ss, rfl, h4⟩ := strs_of h2
  exact ⟨ss, h1, by omega⟩
end Go.VL

namespace Go.VL.mov
open Go Go.VL
def StT : T := .agg [.int .i64, .int .i64]
def AcT : List T := [.int .i64, .agg [.int .i64, .int .i64], .agg [.int .i64, .int .i64], .agg [.int .i64, .int .i64]]
def acsV (l : List Ac) : List (List V) := l.map acC
theorem has_sp {xs : List V} (h : T.hasL [.int .i64, .int .i64] xs) : ∃ s : Sp, xs = spC s := by
  simp only [T.hasL, T.has] at h
  obtain ⟨_, _, rfl, ⟨n, rfl, -⟩, _, _, rfl, ⟨k, rfl, -⟩, rfl⟩ := h
  exact ⟨⟨n, k⟩, rfl⟩
theorem has_ac {xs : List V} (h : T.hasL AcT xs) : ∃ x : Ac, xs = acC x := by
  simp only [AcT, T.hasL, T.has] at h
  obtain ⟨_, _, rfl, ⟨n, rfl, -⟩, _, _, rfl, h1, _, _, rfl, h2, _, _, rfl, h3, rfl⟩ := h
  obtain ⟨s1, rfl⟩ := has_sp h1
  obtain ⟨s2, rfl⟩ := has_sp h2
  obtain ⟨s3, rfl⟩ := has_sp h3
  exact ⟨⟨n, s1, s2, s3⟩, rfl⟩
theorem acs_of : ∀ {es : List (List V)}, (∀ y ∈ es, (T.agg AcT).has y) → ∃ l, es = acsV l ∧ l.length ≤ vbe es
  | [], _ => ⟨[], rfl, by simp⟩
  | y :: es, h => by
    obtain ⟨l, rfl, h2⟩ := acs_of (es := es) fun y hy => h y (by simp [hy])
    obtain ⟨r, rfl⟩ := has_ac (h y (by simp))
    have hp : 0 < vbs (acC r) := by simp [acC, vbs, vb]
    exact ⟨r :: l, rfl, by simp only [List.length_cons, vbe]; omega⟩
theorem arg_acs {x : V} (h : (T.sl 7 (.agg AcT)).arg x) : ∃ l, RdS ⟨[], []⟩ x 7 (acsV l) ∧ l.length < vba x := by
  obtain ⟨es, h1, h2, h3⟩ := arg_rd h
  obtain ⟨l, rfl, h4⟩ := acs_of h2
  exact ⟨l, h1, by omega⟩
theorem acsV_length (l : List Ac) : (acsV l).length = l.length := by simp [acsV]
end Go.VL.mov

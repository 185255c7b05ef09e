import Derived.Test.YtkahnkemijlgkaaB3
import Derived.WideKeyArgs
import Derived.ChangeArms
import Derived.OpenShut
set_option linter.unusedVariables false
set_option linter.unusedSimpArgs false
namespace Go.VL
open Go Go.ChangeShapes Go.WideShapes Go.ChangeAt Go.RowKit

/-- Shapes of what is read. -/
inductive T where
  | int (k : IntKind)
  | bool
  | str
  | sl (s : Nat) (e : T)
  | agg (l : List T)
  | arr (n : Nat) (e : T)

def tysOf (P : Program) (f : TypeId → Option T) (all : Nat) : Nat → List Field → Option (List T)
  | o, [] => bif Nat.beq o all then some [] else none
  | o, x :: r => bif Nat.beq x.offset o then (match f x.type, tysOf P f all (o + P.cellsOf x.type) r with
    | some a, some b => some (a :: b)
    | _, _ => none) else none
/-- A type's shape. -/
def tyOf (P : Program) : Nat → TypeId → Option T
  | 0, _ => none
  | n + 1, t => match P.underlying t with
    | some (.int k) => bif Nat.beq (P.cellsOf t) 1 then some (.int k) else none
    | some .bool => bif Nat.beq (P.cellsOf t) 1 then some .bool else none
    | some .string => bif Nat.beq (P.cellsOf t) 1 then some .str else none
    | some (.slice e) => bif Nat.beq (P.cellsOf t) 1 && Nat.ble 1 (P.cellsOf e) then (tyOf P n e).map (.sl (P.cellsOf e)) else none
    | some (.struct fs) => (tysOf P (tyOf P n) (P.cellsOf t) 0 fs.toList).map .agg
    | some (.array m e) => bif Nat.beq (P.cellsOf t) (m * P.cellsOf e) then (tyOf P n e).map (.arr m) else none
    | _ => none

mutual
/-- Cells of a shape. -/
def T.has : T → List V → Prop
  | .int k, xs => ∃ n, xs = [.int k n] ∧ (Lit.int k n).wf = true
  | .bool, xs => ∃ b, xs = [.bool b]
  | .str, xs => ∃ s, xs = [.str s]
  | .sl s e, xs => xs = [.sl true .pub 0 []] ∨ ∃ es, xs = [.sl false .pub s es] ∧ ∀ x ∈ es, e.has x
  | .agg l, xs => T.hasL l xs
  | .arr n e, xs => ∃ l : List (List V), l.length = n ∧ xs = l.flatten ∧ ∀ x ∈ l, e.has x
def T.hasL : List T → List V → Prop
  | [], xs => xs = []
  | t :: r, xs => ∃ a b, xs = a ++ b ∧ t.has a ∧ T.hasL r b
end

mutual
/-- How much there is of it. -/
def vb : V → Nat
  | .str s => s.length + 1
  | .sl _ _ _ es => vbe es + 1
  | .int _ _ | .bool _ | .agg _ | .tup _ | .ptr _ | .elt _ _ _ _ _ | .map _ | .osl _ _ _ _ | .fn _ _ | .nilf | .raw _ | .bad => 1
def vbs : List V → Nat
  | [] => 0
  | x :: r => vb x + vbs r
def vbe : List (List V) → Nat
  | [] => 0
  | x :: r => vbs x + vbe r
end
theorem vbs_append : ∀ (a b : List V), vbs (a ++ b) = vbs a + vbs b
  | [], b => by simp [vbs]
  | x :: a, b => by simp [vbs, vbs_append a b, Nat.add_assoc]
theorem vbs_flatten : ∀ (l : List (List V)), vbs l.flatten = vbe l
  | [] => by simp [vbs, vbe]
  | x :: l => by simp [vbe, vbs_append, vbs_flatten l]

/-- A measure of data that counts at least so much. -/
structure Bulk {H : Type} (B : DataW H → Nat) : Prop where
  lit : ∀ l, 1 ≤ B (.lit l)
  str : ∀ s, s.length + 1 ≤ B (.lit (.string s))
  nil : 1 ≤ B .nil
  slice : ∀ es sp, (es.map B).sum + 1 ≤ B (.slice es sp)
  agg : ∀ ps, (ps.map B).sum ≤ B (.agg ps)

section
variable {H : Type} {enc : TypeId × Value → H} {P : Program} {W : World} {sp : Nat → Bool} {held : Bool} {B : DataW H → Nat}

/-- What is read is of its type's shape. -/
def Reads (W : World) (B : DataW H → Nat) (T0 : T) (c : Nat) (cs : List Value) (d : DataW H) : Prop :=
  ∃ xs, RepL (g0 W) xs cs ∧ T0.has xs ∧ vbs xs ≤ B d ∧ (∀ v ∈ cs, v.oneCell' = true) ∧ cs.length = c

theorem RepL.len {γ : G} : ∀ {xs : List V} {vs : List Value}, RepL γ xs vs → xs.length = vs.length
  | [], vs, h => by simp only [RepL] at h; subst h; rfl
  | x :: xs, vs, h => by
    simp only [RepL] at h
    obtain ⟨v, ws, rfl, _, h2⟩ := h
    simp [RepL.len h2]

theorem rows_read {T0 : T} {a : Addr} {c : Nat} (hsp : a.spot = none) : ∀ (elems : List (DataW H × List MemPlace)) (k : Nat),
    (∀ (i : Nat) y, elems[i]? = some y → ∃ cs, W.cells? 0 (a.add ((k + i) * c)) c = some cs ∧ Reads W B T0 c cs y.1) →
    ∃ es vs, es.length = elems.length ∧ RepE (g0 W) c es vs ∧ (∀ x ∈ es, T0.has x) ∧ vbe es ≤ ((elems.map (·.1)).map B).sum ∧ ∀ (j : Nat) v, vs[j]? = some v → W.cell? ⟨a.block, a.off + k * c + j, none⟩ = some v
  | [], k, _ => ⟨[], [], rfl, by simp [RepE], by simp, by simp [vbe], by simp⟩
  | y :: r, k, h => by
    obtain ⟨es, vs, h1, h2, h3, h4, h5⟩ := rows_read hsp r (k + 1) fun i y hy => by
      obtain ⟨cs, e1, e2⟩ := h (i + 1) y (by simpa using hy)
      exact ⟨cs, by rw [show k + 1 + i = k + (i + 1) from by omega]; exact e1, e2⟩
    obtain ⟨cs, e1, xs, f1, f2, f3, f4, f5⟩ := h 0 y rfl
    obtain ⟨_, g1, g2⟩ := World.cells?_some e1
    refine ⟨xs :: es, cs ++ vs, by simp [h1], ?_, ?_, ?_, ?_⟩
    · simp only [RepE]
      exact ⟨cs, vs, rfl, by rw [f1.len, f5], f1, h2, f4⟩
    · intro x hx
      rcases List.mem_cons.1 hx with rfl | hx
      · exact f2
      · exact h3 x hx
    · simp only [vbe, List.map_cons, List.sum_cons]; omega
    · intro j v hv
      by_cases hj : j < cs.length
      · rw [List.getElem?_append_left hj] at hv
        have := g2 j (by omega)
        rw [hv, Nat.add_zero, add_spot hsp, add_spot rfl] at this
        exact this
      · rw [List.getElem?_append_right (by omega)] at hv
        have := h5 _ _ hv
        rw [show a.off + k * c + j = a.off + (k + 1) * c + (j - cs.length) from by rw [Nat.succ_mul]; omega]
        exact this

theorem fields_read (hB : Bulk B) {f : TypeId → Option T} {rd : TypeId → List Value → Option (DataW H × List MemPlace)} (ih : ∀ t T0 cs d ps, f t = some T0 → rd t cs = some (d, ps) → Reads W B T0 (P.cellsOf t) cs d) {all : Nat} :
    ∀ (fs : List Field) (o : Nat) (Ts : List T) (cs : List Value) (xs : List (DataW H × List MemPlace)), tysOf P f all o fs = some Ts → cs.length + o = all → xs.length = fs.length →
      (∀ (i : Nat) (x : Field), fs[i]? = some x → rd x.type ((cs.drop (x.offset - o)).take (P.cellsOf x.type)) = xs[i]?) →
      ∃ ys, RepL (g0 W) ys cs ∧ T.hasL Ts ys ∧ vbs ys ≤ ((xs.map (·.1)).map B).sum ∧ (∀ v ∈ cs, v.oneCell' = true)
  | [], o, Ts, cs, xs, ht, hl, hx, h => by
    simp only [tysOf] at ht
    cases hb : Nat.beq o all with
    | false => simp [hb] at ht
    | true =>
      simp only [hb, cond_true, Option.some.injEq] at ht
      subst ht
      have := Nat.eq_of_beq_eq_true hb
      have : cs = [] := by apply List.eq_nil_of_length_eq_zero; omega
      subst this
      exact ⟨[], by simp [RepL], by simp [T.hasL], by simp [vbs], by simp⟩
  | x :: r, o, Ts, cs, xs, ht, hl, hx, h => by
    simp only [tysOf] at ht
    cases hb : Nat.beq x.offset o with
    | false => simp [hb] at ht
    | true =>
      have ho := Nat.eq_of_beq_eq_true hb
      simp only [hb, cond_true] at ht
      split at ht
      · rename_i a b ha hbb
        simp only [Option.some.injEq] at ht
        subst ht
        cases xs with
        | nil => simp at hx
        | cons y ys =>
          have h0 := h 0 x rfl
          simp only [ho, Nat.sub_self, List.drop_zero, List.getElem?_cons_zero] at h0
          obtain ⟨zs, f1, f2, f3, f4, f5⟩ := ih _ _ _ _ _ ha h0
          have hle : P.cellsOf x.type ≤ cs.length := by rw [← f5, List.length_take]; omega
          obtain ⟨us, k1, k2, k3, k4⟩ := fields_read hB ih r (o + P.cellsOf x.type) b (cs.drop (P.cellsOf x.type)) ys hbb (by rw [List.length_drop]; omega) (by simpa using hx) (by
            intro i fd hfd
            have := h (i + 1) fd (by simpa using hfd)
            simp only [List.getElem?_cons_succ] at this
            rw [← this, List.drop_drop]
            -- a field's place is not ahead of where we are
            have hge : o + P.cellsOf x.type ≤ fd.offset := tysOf_ge hbb hfd
            congr 3
            omega)
          refine ⟨zs ++ us, ?_, ⟨zs, us, rfl, f2, k2⟩, ?_, ?_⟩
          · rw [← List.take_append_drop (P.cellsOf x.type) cs]
            exact f1.append k1
          · rw [vbs_append]; simp only [List.map_cons, List.sum_cons]; omega
          · intro v hv
            rw [← List.take_append_drop (P.cellsOf x.type) cs] at hv
            rcases List.mem_append.1 hv with hv | hv
            · exact f4 v hv
            · exact k4 v hv
      · cases ht
where
  tysOf_ge {f : TypeId → Option T} {all : Nat} : ∀ {fs : List Field} {o : Nat} {Ts : List T} {i : Nat} {fd : Field}, tysOf P f all o fs = some Ts → fs[i]? = some fd → o ≤ fd.offset
    | [], o, Ts, i, fd, _, h => by simp at h
    | x :: r, o, Ts, i, fd, ht, h => by
      simp only [tysOf] at ht
      cases hb : Nat.beq x.offset o with
      | false => simp [hb] at ht
      | true =>
        have ho := Nat.eq_of_beq_eq_true hb
        simp only [hb, cond_true] at ht
        split at ht
        · rename_i a b ha hbb
          cases i with
          | zero => simp only [List.getElem?_cons_zero, Option.some.injEq] at h; subst h; omega
          | succ i =>
            simp only [List.getElem?_cons_succ] at h
            have := tysOf_ge hbb h
            omega
        · cases ht

theorem arr_read {T0 : T} {c : Nat} {rd : List Value → Option (DataW H × List MemPlace)} (ih : ∀ cs d ps, rd cs = some (d, ps) → Reads W B T0 c cs d) :
    ∀ (n : Nat) (cs : List Value) (xs : List (DataW H × List MemPlace)), cs.length = n * c → xs.length = n → (∀ (i : Nat), i < n → rd ((cs.drop (i * c)).take c) = xs[i]?) →
      ∃ l : List (List V), l.length = n ∧ RepL (g0 W) l.flatten cs ∧ (∀ x ∈ l, T0.has x) ∧ vbe l ≤ ((xs.map (·.1)).map B).sum ∧ (∀ v ∈ cs, v.oneCell' = true)
  | 0, cs, xs, hl, hx, h => by
    have : cs = [] := by apply List.eq_nil_of_length_eq_zero; omega
    subst this
    exact ⟨[], rfl, by simp [RepL], by simp, by simp [vbe], by simp⟩
  | n + 1, cs, xs, hl, hx, h => by
    cases xs with
    | nil => simp at hx
    | cons y ys =>
      have h0 := h 0 (by omega)
      simp only [Nat.zero_mul, List.drop_zero, List.getElem?_cons_zero] at h0
      obtain ⟨zs, f1, f2, f3, f4, f5⟩ := ih _ _ _ h0
      obtain ⟨l, k1, k2, k3, k4, k5⟩ := arr_read ih n (cs.drop c) ys (by rw [List.length_drop, hl, Nat.succ_mul]; omega) (by simpa using hx) (fun i hi => by
        have := h (i + 1) (by omega)
        simp only [List.getElem?_cons_succ] at this
        rw [← this, List.drop_drop, Nat.succ_mul, Nat.add_comm])
      refine ⟨zs :: l, by simp [k1], ?_, ?_, ?_, ?_⟩
      · rw [List.flatten_cons, ← List.take_append_drop c cs]
        exact f1.append k2
      · intro x hx
        rcases List.mem_cons.1 hx with rfl | hx
        · exact f2
        · exact k3 x hx
      · simp only [vbe, List.map_cons, List.sum_cons]; omega
      · intro v hv
        rw [← List.take_append_drop c cs] at hv
        rcases List.mem_append.1 hv with hv | hv
        · exact f4 v hv
        · exact k5 v hv

theorem one_read {x : V} {v : Value} {T0 : T} {d : DataW H} (hr : Rep (g0 W) x v) (ht : T0.has [x]) (hb : vb x ≤ B d) (h1 : v.oneCell' = true) : Reads W B T0 1 [v] d :=
  ⟨[x], by simp only [RepL]; exact ⟨v, [], rfl, hr, rfl⟩, ht, by simpa [vbs] using hb, by simpa using h1, rfl⟩

theorem read_has (hB : Bulk B) : ∀ (n : Nat) (t : TypeId) (T0 : T) (fuel : Nat) (cs : List Value) (d : DataW H) (ps : List MemPlace), tyOf P n t = some T0 → DataW.trod enc P W 0 sp held fuel t cs = some (d, ps) → Reads W B T0 (P.cellsOf t) cs d
  | 0, t, T0, fuel, cs, d, ps, ht, _ => by simp [tyOf] at ht
  | n + 1, t, T0, fuel, cs, d, ps, ht, h => by
    have c1 : ∀ {x : Option T}, (bif Nat.beq (P.cellsOf t) 1 then x else none) = some T0 → P.cellsOf t = 1 ∧ x = some T0 := by
      intro x hx
      cases hb : Nat.beq (P.cellsOf t) 1 with
      | false => simp [hb] at hx
      | true => exact ⟨Nat.eq_of_beq_eq_true hb, by simpa [hb] using hx⟩
    simp only [tyOf] at ht
    split at ht
    · rename_i k hu
      obtain ⟨hc, h0⟩ := c1 ht
      cases h0
      rw [hc]
      obtain ⟨n', rfl, h1, hw⟩ := DataW.trod_int hu h
      simp only [Prod.mk.injEq] at h1
      obtain ⟨rfl, rfl⟩ := h1
      exact one_read (x := .int k n') (by simp only [Rep]) ⟨_, rfl, hw⟩ (by simpa [vb] using hB.lit _) rfl
    · rename_i hu
      obtain ⟨hc, h0⟩ := c1 ht
      cases h0
      rw [hc]
      obtain ⟨b, rfl, h1⟩ := DataW.trod_bool hu h
      simp only [Prod.mk.injEq] at h1
      obtain ⟨rfl, rfl⟩ := h1
      exact one_read (x := .bool b) (by simp only [Rep]) ⟨_, rfl⟩ (by simpa [vb] using hB.lit _) rfl
    · rename_i hu
      obtain ⟨hc, h0⟩ := c1 ht
      cases h0
      rw [hc]
      obtain ⟨s, rfl, h1, _⟩ := DataW.trod_string hu h
      simp only [Prod.mk.injEq] at h1
      obtain ⟨rfl, rfl⟩ := h1
      exact one_read (x := .str s.data.toList) (by simp only [Rep]) ⟨_, rfl⟩ (by simp only [vb]; exact hB.str _) rfl
    · rename_i e hu
      cases hb : (Nat.beq (P.cellsOf t) 1 && Nat.ble 1 (P.cellsOf e)) with
      | false => simp [hb] at ht
      | true =>
        simp only [hb, cond_true, Option.map_eq_some_iff] at ht
        obtain ⟨Te, hTe, rfl⟩ := ht
        simp only [Bool.and_eq_true] at hb
        have hc := Nat.eq_of_beq_eq_true hb.1
        have he := Nat.le_of_ble_eq_true hb.2
        rw [hc]
        rcases DataW.trod_slice hu h with ⟨rfl, h0⟩ | ⟨a, len, cap, elems, rest, m, _, rfl, h0, _, hl, _, hlen, hel, _⟩
        · simp only [Prod.mk.injEq] at h0
          obtain ⟨rfl, rfl⟩ := h0
          exact one_read (x := .sl true .pub 0 []) (by simp [Rep]) (.inl rfl) (by simpa [vb, vbe] using hB.nil) rfl
        · simp only [Prod.mk.injEq] at h0
          obtain ⟨rfl, rfl⟩ := h0
          have each : ∀ (i : Nat) y, elems[i]? = some y → ∃ cs, W.cells? 0 (a.add ((0 + i) * P.cellsOf e)) (P.cellsOf e) = some cs ∧ Reads W B Te (P.cellsOf e) cs y.1 := by
            intro i y hy
            have hi : i < len := by rw [← hlen]; exact (List.getElem?_eq_some_iff.1 hy).1
            have := hel i hi
            rw [hy, Option.bind_eq_some_iff] at this
            obtain ⟨cs, e1, e2⟩ := this
            exact ⟨cs, by rw [Nat.zero_add]; exact e1, read_has hB n e Te m cs y.1 y.2 hTe e2⟩
          by_cases hsp : a.spot = none
          · obtain ⟨es, vs, k1, k2, k3, k4, k5⟩ := rows_read hsp elems 0 each
            refine one_read (x := .sl false .pub (P.cellsOf e) es) ?_ (.inr ⟨es, rfl, k3⟩) ?_ rfl
            · simp only [Rep]
              exact ⟨a, cap, vs, by rw [k1, hlen], .inr hsp, by omega, pub_cells (fun i v hv => by simpa using k5 i v hv), k2⟩
            · have := hB.slice (elems.map (·.1)) (rest.map (·.1))
              simp only [vb]
              omega
          · have hnil : elems = [] := by
              cases elems with
              | nil => rfl
              | cons y r =>
                exfalso
                obtain ⟨cs, e1, _⟩ := each 0 y rfl
                obtain ⟨_, g1, g2⟩ := World.cells?_some e1
                have := g2 0 he
                have h0 : (a.add ((0 + 0) * P.cellsOf e)).add 0 = a := by simp [Addr.add]
                rw [h0] at this
                have hcs : cs[0]? = some cs[0] := List.getElem?_eq_getElem (by omega)
                rw [hcs] at this
                unfold World.cell? at this
                split at this
                · cases hx : a.spot with
                  | none => exact hsp hx
                  | some b => simp [hx] at this
                · cases this
            subst hnil
            refine one_read (x := .sl false .pub (P.cellsOf e) []) ?_ (.inr ⟨[], rfl, by simp⟩) ?_ rfl
            · simp only [Rep]
              simp only [List.length_nil] at hlen
              exact ⟨a, cap, [], by rw [← hlen]; rfl, .inl trivial, by simp, fun i v hv => by simp at hv, by simp [RepE]⟩
            · have := hB.slice ([] : List (DataW H)) (rest.map (·.1))
              simp only [vb, vbe]
              simp only [List.map_nil, List.sum_nil] at this ⊢
              omega
    · rename_i fs hu
      simp only [Option.map_eq_some_iff] at ht
      obtain ⟨Ts, hTs, rfl⟩ := ht
      obtain ⟨xs, m, _, h0, hl, hlen, hf⟩ := DataW.trod_struct hu h
      simp only [Prod.mk.injEq] at h0
      obtain ⟨rfl, rfl⟩ := h0
      obtain ⟨ys, k1, k2, k3, k4⟩ := fields_read (P := P) hB (f := tyOf P n) (rd := fun t cs => DataW.trod enc P W 0 sp held m t cs) (fun t T0 cs d ps h1 h2 => read_has hB n t T0 m cs d ps h1 h2) fs.toList 0 Ts cs xs hTs (by omega) (by simpa using hlen)
        (fun i x hx => by simpa using hf i x (by simpa using hx))
      exact ⟨ys, k1, k2, Nat.le_trans k3 (hB.agg _), k4, hl⟩
    · rename_i m e hu
      cases hb : Nat.beq (P.cellsOf t) (m * P.cellsOf e) with
      | false => simp [hb] at ht
      | true =>
        simp only [hb, cond_true, Option.map_eq_some_iff] at ht
        obtain ⟨Te, hTe, rfl⟩ := ht
        have hc := Nat.eq_of_beq_eq_true hb
        obtain ⟨xs, q, _, h0, hl, hlen, hf⟩ := DataW.trod_array hu h
        simp only [Prod.mk.injEq] at h0
        obtain ⟨rfl, rfl⟩ := h0
        obtain ⟨l, k1, k2, k3, k4, k5⟩ := arr_read (rd := fun cs => DataW.trod enc P W 0 sp held q e cs) (T0 := Te) (c := P.cellsOf e) (W := W) (B := B) (fun cs d ps h2 => read_has hB n e Te q cs d ps hTe h2) m cs xs (by rw [hl, hc]) hlen hf
        exact ⟨l.flatten, k2, ⟨l, k1, rfl, k3⟩, by rw [vbs_flatten]; exact Nat.le_trans k4 (hB.agg _), k5, hl⟩
    · cases ht

/-- An argument of a shape. -/
def T.arg : T → V → Prop
  | .agg l, x => ∃ xs, x = .agg xs ∧ T.hasL l xs
  | .arr n e, x => ∃ xs, x = .agg xs ∧ (T.arr n e).has xs
  | t, x => t.has [x]
def T.args : List T → List V → Prop
  | [], xs => xs = []
  | t :: r, xs => ∃ x ys, xs = x :: ys ∧ t.arg x ∧ T.args r ys
def vba : V → Nat
  | .agg xs => vbs xs
  | x => vb x
def vbas : List V → Nat
  | [] => 0
  | x :: r => vba x + vbas r

theorem vba_one {x : V} (h : ∀ xs, x ≠ .agg xs) : vba x = vbs [x] := by
  cases x <;> first | rfl | exact absurd rfl (h _)

def tysAll (P : Program) (n : Nat) : List TypeId → Option (List T)
  | [] => some []
  | t :: r => match tyOf P n t, tysAll P n r with
    | some a, some b => some (a :: b)
    | _, _ => none

theorem cells_one {v q : Value} (hq : v.cells.toList = [q]) (ha : ∀ cs, v ≠ .agg cs) : v.cells.toList = [v] := by
  cases v <;> first | rfl | exact absurd rfl (ha _)

theorem arg_read (hB : Bulk B) {n : Nat} {t : TypeId} {T0 : T} {base : Nat} {v : Value} {d : DataW H} {ps : List MemPlace} (ht : tyOf P n t = some T0) (hok : Value.okWide P W .any base t v) (h : DataW.Trod enc P W 0 sp held t v d ps) :
    ∃ x, Rep (g0 W) x v ∧ T0.arg x ∧ vba x ≤ B d := by
  obtain ⟨fuel, h⟩ := h
  obtain ⟨xs, k1, k2, k3, k4, k5⟩ := read_has hB n t T0 fuel _ d ps ht h
  have flat : ∀ (T1 : T), T0 = T1 → (∀ x, T1.has [x] → T1.arg x ∧ ∀ xs, x ≠ .agg xs) → v.cells.toList = [v] → (∃ x, xs = [x]) → ∃ x, Rep (g0 W) x v ∧ T0.arg x ∧ vba x ≤ B d := by
    rintro T1 rfl ha hv ⟨x, rfl⟩
    rw [hv] at k1
    simp only [RepL, List.cons.injEq] at k1
    obtain ⟨w, ws, ⟨rfl, rfl⟩, k1, -⟩ := k1
    obtain ⟨a1, a2⟩ := ha x k2
    exact ⟨x, k1, a1, by rw [vba_one a2]; exact k3⟩
  have agg : ∀ cs, v = .agg cs → Rep (g0 W) (.agg xs) v := by
    intro cs hv
    subst hv
    simp only [Rep]
    exact ⟨cs.toList, by simp, k1⟩
  cases n with
  | zero => simp [tyOf] at ht
  | succ n =>
    unfold Value.okWide at hok
    simp only [tyOf] at ht
    split at ht
    · rename_i k hu
      rw [hu] at hok
      have hT : T0 = .int k := by
        cases hb : Nat.beq (P.cellsOf t) 1 <;> simp [hb] at ht
        exact ht.symm
      subst hT
      obtain ⟨m, rfl, hw⟩ := k2
      exact flat _ rfl (fun x hx => ⟨hx, by obtain ⟨m, hx, _⟩ := hx; simp only [List.cons.injEq, and_true] at hx; subst hx; simp⟩) (by
        obtain ⟨q, hq, _⟩ := DataW.trod_int hu h
        exact cells_one hq (by intro cs hcs; subst hcs; simp [Cell.okWide, Cell.ok, hu] at hok)) ⟨_, rfl⟩
    · rename_i hu
      rw [hu] at hok
      have hT : T0 = .bool := by
        cases hb : Nat.beq (P.cellsOf t) 1 <;> simp [hb] at ht
        exact ht.symm
      subst hT
      obtain ⟨m, rfl⟩ := k2
      exact flat _ rfl (fun x hx => ⟨hx, by obtain ⟨m, hx⟩ := hx; simp only [List.cons.injEq, and_true] at hx; subst hx; simp⟩) (by
        obtain ⟨q, hq, _⟩ := DataW.trod_bool hu h
        exact cells_one hq (by intro cs hcs; subst hcs; simp [Cell.okWide, Cell.ok, hu] at hok)) ⟨_, rfl⟩
    · rename_i hu
      rw [hu] at hok
      have hT : T0 = .str := by
        cases hb : Nat.beq (P.cellsOf t) 1 <;> simp [hb] at ht
        exact ht.symm
      subst hT
      obtain ⟨m, rfl⟩ := k2
      exact flat _ rfl (fun x hx => ⟨hx, by obtain ⟨m, hx⟩ := hx; simp only [List.cons.injEq, and_true] at hx; subst hx; simp⟩) (by
        obtain ⟨q, hq, _⟩ := DataW.trod_string hu h
        exact cells_one hq (by intro cs hcs; subst hcs; simp [Cell.okWide, Cell.ok, hu] at hok)) ⟨_, rfl⟩
    · rename_i e hu
      rw [hu] at hok
      have hT : ∃ s Te, T0 = .sl s Te := by
        cases hb : (Nat.beq (P.cellsOf t) 1 && Nat.ble 1 (P.cellsOf e)) <;> simp [hb] at ht
        obtain ⟨Te, _, h⟩ := ht
        exact ⟨_, _, h.symm⟩
      obtain ⟨s, Te, rfl⟩ := hT
      have hxs : ∃ x, xs = [x] := by
        rcases k2 with rfl | ⟨es, rfl, _⟩ <;> exact ⟨_, rfl⟩
      exact flat _ rfl (fun x hx => ⟨hx, by
        rcases hx with hx | ⟨es, hx, _⟩ <;> (simp only [List.cons.injEq, and_true] at hx; subst hx; simp)⟩) (by
        have : ∃ q, v.cells.toList = [q] := by
          rcases DataW.trod_slice hu h with ⟨hq, _⟩ | ⟨a, len, cap, elems, rest, m, _, hq, _⟩ <;> exact ⟨_, hq⟩
        obtain ⟨q, hq⟩ := this
        exact cells_one hq (by intro cs hcs; subst hcs; simp [Cell.okWide, Cell.ok, hu] at hok)) hxs
    · rename_i fs hu
      rw [hu] at hok
      obtain ⟨cs, hv, _⟩ := hok
      simp only [Option.map_eq_some_iff] at ht
      obtain ⟨Ts, hTs, rfl⟩ := ht
      exact ⟨.agg xs, agg cs hv, ⟨xs, rfl, k2⟩, k3⟩
    · rename_i m e hu
      rw [hu] at hok
      obtain ⟨cs, hv, _⟩ := hok
      have hT : ∃ Te, T0 = .arr m Te := by
        cases hb : Nat.beq (P.cellsOf t) (m * P.cellsOf e) <;> simp [hb] at ht
        obtain ⟨Te, _, h⟩ := ht
        exact ⟨_, h.symm⟩
      obtain ⟨Te, rfl⟩ := hT
      exact ⟨.agg xs, agg cs hv, ⟨xs, rfl, k2⟩, k3⟩
    · cases ht
theorem args_read (hB : Bulk B) {n base : Nat} : ∀ (ts : List TypeId) (Ts : List T) (vs : List Value) (ds : List (DataW H)) (ps : List MemPlace), tysAll P n ts = some Ts → (∀ (j : Nat) t v, ts[j]? = some t → vs[j]? = some v → Value.okWide P W .any base t v) →
    DataW.TrodAll enc P W 0 sp held ts vs ds ps → ∃ xs, RepL (g0 W) xs vs ∧ T.args Ts xs ∧ vbas xs ≤ (ds.map B).sum
  | [], Ts, [], [], ps, ht, _, _ => by
    simp only [tysAll, Option.some.injEq] at ht
    subst ht
    exact ⟨[], by simp [RepL], by simp [T.args], by simp [vbas]⟩
  | t :: ts, Ts, v :: vs, d :: ds, ps, ht, hok, ⟨p, q, h1, h2, _⟩ => by
    simp only [tysAll] at ht
    split at ht
    · rename_i a b ha hb
      simp only [Option.some.injEq] at ht
      subst ht
      obtain ⟨x, e1, e2, e3⟩ := arg_read hB ha (hok 0 t v rfl rfl) h1
      obtain ⟨xs, f1, f2, f3⟩ := args_read hB ts b vs ds q hb (fun j t v h1 h2 => hok (j + 1) t v (by simpa using h1) (by simpa using h2)) h2
      refine ⟨x :: xs, by simp only [RepL]; exact ⟨v, vs, rfl, e1, f1⟩, ⟨x, xs, rfl, e2, f2⟩, ?_⟩
      simp only [vbas, List.map_cons, List.sum_cons]; omega
    · cases ht
  | [], _, _ :: _, _, _, _, _, h => by simp [DataW.TrodAll] at h
  | [], _, [], _ :: _, _, _, _, h => by simp [DataW.TrodAll] at h
  | _ :: _, _, [], _, _, _, _, h => by simp [DataW.TrodAll] at h
  | _ :: _, _, _ :: _, [], _, _, _, h => by simp [DataW.TrodAll] at h

theorem trodAll_stays (hl : laidOutB P = true) {W' : World} {sp' : Nat → Bool} : ∀ {ts : List TypeId} {vs : List Value} {ds : List (DataW H)} {ps : List MemPlace}, (ts.all fun t => P.readableRec t && decide (t < P.types.size)) = true →
    DataW.TrodAll enc P W 0 (fun _ => true) true ts vs ds ps → (∀ p ∈ ps, W.sameAt W' p) → (∀ p ∈ ps, sp' p.block = true) → DataW.TrodAll enc P W' 0 sp' true ts vs ds ps
  | [], [], [], _, _, h, _, _ => h
  | _ :: _, _ :: _, _ :: _, _, hr, ⟨p, q, h1, h2, e⟩, hs, hp => by
    simp only [List.all_cons, Bool.and_eq_true, decide_eq_true_eq] at hr
    exact ⟨p, q, WideElems.Trod_stays hl hr.1.1 hr.1.2 h1 (fun x hx => hs x (by rw [e]; exact List.mem_append_left _ hx)) (fun x hx => hp x (by rw [e]; exact List.mem_append_left _ hx)),
      trodAll_stays hl (by simpa using hr.2) h2 (fun x hx => hs x (by rw [e]; exact List.mem_append_right _ hx)) (fun x hx => hp x (by rw [e]; exact List.mem_append_right _ hx)), e⟩

/-- A law's contract, from V-logic: whatever the arguments of the types' shapes, it tells true. -/
theorem law_calls (hB : Bulk B) {f : Func} {fid : FuncId} {s : ChangeSpec} {W : World} {base n : Nat} {args : Array Value} {ds gs : List (DataW H)} {before : List MemPlace} {Ts : List T} {tb : TypeId}
    (hlo : laidOutB P = true) (hts : tysAll P n f.params.toList = some Ts) (hrd : (f.params.toList.all fun t => P.readableRec t && decide (t < P.types.size)) = true) (hvars : s.vars = []) (hres : f.resultTypes = #[tb]) (hb : P.underlying tb = some .bool)
    (hspec : ∀ ds : List (DataW H), ds.length = f.params.size → s.fn H ds = { results := [.lit (.bool true)], args := ds })
    (hval : ∀ (j : Nat) t v, f.params[j]? = some t → args[j]? = some v → Value.okWide P W .any base t v)
    (hW : DataW.Whole enc P f.params.toList s.vars false W args.toList ds gs before)
    (hc : ∀ xs, T.args Ts xs → vbas xs ≤ ((ds ++ gs).map B).sum → CallA P fid xs ⟨[], []⟩ fun v _ => v = .bool true) :
    Calls P fid args W fun e W' => ∃ v, e = .returned v ∧ s.post enc P f false true false false W args v W' := by
  have hW' := hW
  obtain ⟨p, q, hA, hV, rfl, hfz, hnd⟩ := hW
  rw [hvars] at hV
  obtain ⟨rfl, rfl⟩ := trodVars_none hV
  rw [List.append_nil] at hc
  have hlen : ∀ {ts : List TypeId} {vs : List Value} {ds : List (DataW H)} {ps : List MemPlace}, DataW.TrodAll enc P W 0 (fun _ => true) true ts vs ds ps → ds.length = ts.length := by
    intro ts
    induction ts with
    | nil => intro vs ds ps h; cases vs <;> cases ds <;> simp_all [DataW.TrodAll]
    | cons t ts ih =>
      intro vs ds ps h
      cases vs <;> cases ds <;> simp only [DataW.TrodAll] at h
      obtain ⟨_, _, _, h2, _⟩ := h
      simp [ih h2]
  have hs := hspec ds (by rw [hlen hA]; simp)
  obtain ⟨xs, k1, k2, k3⟩ := args_read hB f.params.toList Ts args.toList ds p hts (fun j t v h1 h2 => hval j t v (by simpa using h1) (by simpa using h2)) hA
  refine (entry (hc xs k2 k3) k1).mono fun e W' ⟨v, x, σ, γ, he, hk, hi, hx, hxv⟩ => ?_
  subst he hxv
  simp only [Rep] at hx
  subst hx
  simp only [List.append_nil] at hW'
  refine ⟨_, rfl, post_of_old (pa := p) (pv := []) (gs := []) (ds := ds) (before := p) (by simpa using hW') ?_ ?_ ?_ (by simp) hk (ok_one hres rfl (okWide_bool_mk hb _))⟩
  · intro b sp hd
    rw [List.append_nil, hs, hres]
    exact (trodAll_cons_mk (shut_bool hb _) trodAll_mk0)
  · intro sp hsp
    rw [List.append_nil, hs]
    exact trodAll_stays hlo hrd hA (fun x hx => hk.same (hW'.lt x (by simpa using hx))) hsp
  · intro sp _
    rw [List.append_nil, hs, hvars]
    rfl
end
end Go.VL
namespace Go.VL
open Go

/-- A slice whose elements are one cell. -/
theorem has_sl {s : Nat} {e : T} {x : V} (h : (T.sl s e).arg x) : ∃ es, (x = .sl true .pub 0 [] ∧ es = [] ∨ x = .sl false .pub s es) ∧ (∀ y ∈ es, e.has y) ∧ vbe es + 1 = vba x := by
  rcases h with h | ⟨es, h, h2⟩
  · simp only [List.cons.injEq, and_true] at h
    subst h
    exact ⟨[], .inl ⟨rfl, rfl⟩, by simp, by simp [vba, vb, vbe]⟩
  · simp only [List.cons.injEq, and_true] at h
    subst h
    exact ⟨es, .inr rfl, h2, by simp [vba, vb]⟩
theorem arg_rd {s : Nat} {e : T} {x : V} (h : (T.sl s e).arg x) : ∃ es, RdS ⟨[], []⟩ x s es ∧ (∀ y ∈ es, e.has y) ∧ vbe es < vba x := by
  obtain ⟨es, h1, h2, h3⟩ := has_sl h
  refine ⟨es, ?_, h2, by omega⟩
  rcases h1 with ⟨rfl, rfl⟩ | rfl
  · exact ⟨true, .pub, 0, rfl, by simp, .inl rfl⟩
  · exact ⟨false, .pub, s, rfl, by simp, .inr ⟨trivial, rfl⟩⟩
theorem bytes_of : ∀ {es : List (List V)}, (∀ y ∈ es, (T.int .u8).has y) → ∃ bs, es = bytesV bs ∧ bs.length ≤ vbe es
  | [], _ => ⟨[], rfl, by simp⟩
  | y :: es, h => by
    obtain ⟨bs, rfl, h2⟩ := bytes_of (es := es) fun y hy => h y (by simp [hy])
    obtain ⟨n, rfl, hw⟩ := h y (by simp)
    have hr : 0 ≤ n ∧ n ≤ 255 := by
      have : 0 ≤ n ∧ n ≤ 255 := by simpa [Lit.wf, IntKind.min, IntKind.max, IntKind.signed, IntKind.bits] using hw
      exact this
    refine ⟨UInt8.ofNat n.toNat :: bs, ?_, by simp only [List.length_cons, vbe, vbs, vb]; omega⟩
    have := byte1 n hr
    simp only [bytesV, List.map_cons, List.map_nil, List.cons.injEq, and_true] at this ⊢
    exact this
theorem ints_of : ∀ {es : List (List V)}, (∀ y ∈ es, (T.int .i64).has y) → ∃ ns : List Int, es = intsV .i64 ns ∧ ns.length ≤ vbe es ∧ ∀ n ∈ ns, -9223372036854775808 ≤ n ∧ n < 9223372036854775808
  | [], _ => ⟨[], rfl, by simp, by simp⟩
  | y :: es, h => by
    obtain ⟨bs, rfl, h2, h3⟩ := ints_of (es := es) fun y hy => h y (by simp [hy])
    obtain ⟨n, rfl, hw⟩ := h y (by simp)
    have hr : -9223372036854775808 ≤ n ∧ n ≤ 9223372036854775807 := by
      simpa [Lit.wf, IntKind.min, IntKind.max, IntKind.signed, IntKind.bits] using hw
    refine ⟨n :: bs, rfl, by simp only [List.length_cons, vbe, vbs, vb]; omega, fun m hm => ?_⟩
    rcases List.mem_cons.1 hm with rfl | hm
    · omega
    · exact h3 m hm
theorem strs_of : ∀ {es : List (List V)}, (∀ y ∈ es, T.str.has y) → ∃ ss : List (List UInt8), es = (ss.map fun s => [V.str s]) ∧ (ss.map fun s => s.length + 1).sum ≤ vbe es
  | [], _ => ⟨[], rfl, by simp⟩
  | y :: es, h => by
    obtain ⟨bs, rfl, h2⟩ := strs_of (es := es) fun y hy => h y (by simp [hy])
    obtain ⟨s, rfl⟩ := h y (by simp)
    exact ⟨s :: bs, rfl, by simp only [List.map_cons, List.sum_cons, vbe, vbs, vb]; omega⟩
theorem arg_bytes {x : V} (h : (T.sl 1 (.int .u8)).arg x) : ∃ bs, RdS ⟨[], []⟩ x 1 (bytesV bs) ∧ bs.length < vba x := by
  obtain ⟨es, h1, h2, h3⟩ := arg_rd h
  obtain ⟨bs, rfl, h4⟩ := bytes_of h2
  exact ⟨bs, h1, by omega⟩
theorem arg_int {x : V} (h : (T.int .i64).arg x) : ∃ n, x = .int .i64 n ∧ -9223372036854775808 ≤ n ∧ n < 9223372036854775808 := by
  obtain ⟨n, h1, hw⟩ := h
  simp only [List.cons.injEq, and_true] at h1
  have hr : -9223372036854775808 ≤ n ∧ n ≤ 9223372036854775807 := by
    simpa [Lit.wf, IntKind.min, IntKind.max, IntKind.signed, IntKind.bits] using hw
  exact ⟨n, h1, by omega, by omega⟩
end Go.VL
namespace Go.VL
open Go
theorem arg_ints' {x : V} (h : (T.sl 1 (.int .i64)).arg x) : ∃ ns : List Int, RdS ⟨[], []⟩ x 1 (intsV .i64 ns) ∧ ns.length < vba x ∧ ∀ n ∈ ns, -9223372036854775808 ≤ n ∧ n < 9223372036854775808 := by
  obtain ⟨es, h1, h2, h3⟩ := arg_rd h
  obtain ⟨ns, rfl, h4, h5⟩ := ints_of h2
  exact ⟨ns, h1, by omega, h5⟩
theorem arg_strs' {x : V} (h : (T.sl 1 .str).arg x) : ∃ ss : List (List UInt8), RdS ⟨[], []⟩ x 1 (ss.map fun s => [V.str s]) ∧ (ss.map fun s => s.length + 1).sum < vba x := by
  obtain ⟨es, h1, h2, h3⟩ := arg_rd h
  obtain ⟨ss, rfl, h4⟩ := strs_of h2
  exact ⟨ss, h1, by omega⟩
end Go.VL

namespace Go.VL.rga
open Go Go.VL Go.Proofs Go.IntWalk Go.VL.st Go.VL.row

def SlT : List T := [.agg [.int .i64, .int .i64], .agg [.int .i64, .int .i64]]
theorem has_sp {xs : List V} (h : T.hasL [.int .i64, .int .i64] xs) : ∃ s : Sp, xs = spC s := by
  simp only [T.hasL, T.has] at h
  obtain ⟨_, _, rfl, ⟨n, rfl, -⟩, _, _, rfl, ⟨k, rfl, -⟩, rfl⟩ := h
  exact ⟨⟨n, k⟩, rfl⟩
theorem has_sl {xs : List V} (h : T.hasL SlT xs) : ∃ x : Sl, xs = slC x := by
  simp only [SlT, T.hasL, T.has] at h
  obtain ⟨_, _, rfl, h1, _, _, rfl, h2, rfl⟩ := h
  obtain ⟨s1, rfl⟩ := has_sp h1
  obtain ⟨s2, rfl⟩ := has_sp h2
  exact ⟨⟨s1, s2⟩, rfl⟩
theorem sls_of : ∀ {es : List (List V)}, (∀ y ∈ es, (T.agg SlT).has y) → ∃ l, es = slsV l ∧ l.length ≤ vbe es
  | [], _ => ⟨[], rfl, by simp⟩
  | y :: es, h => by
    obtain ⟨l, rfl, h2⟩ := sls_of (es := es) fun y hy => h y (by simp [hy])
    obtain ⟨r, rfl⟩ := has_sl (h y (by simp))
    have hp : 0 < vbs (slC r) := by simp [slC, vbs, vb]
    exact ⟨r :: l, rfl, by simp only [List.length_cons, vbe]; omega⟩
theorem arg_sls {x : V} (h : (T.sl 4 (.agg SlT)).arg x) : ∃ l, RdS ⟨[], []⟩ x 4 (slsV l) ∧ l.length < vba x := by
  obtain ⟨es, h1, h2, h3⟩ := arg_rd h
  obtain ⟨l, rfl, h4⟩ := sls_of h2
  exact ⟨l, h1, by omega⟩
/-- All of them added. -/
def adds (w : List Sl) (l : List Sl) : List Sl := l.foldl addW w
theorem adds_len : ∀ (l w : List Sl), (adds w l).length ≤ w.length + l.length
  | [], w => by simp [adds]
  | s :: l, w => by
    have h1 := adds_len l (addW w s)
    have h2 := addW_le w s
    simp only [adds, List.foldl_cons, List.length_cons] at h1 ⊢
    omega
theorem adds_snoc (w l : List Sl) (s : Sl) : adds w (l ++ [s]) = addW (adds w l) s := by simp [adds]
theorem adds_take {l : List Sl} {i : Nat} (h : i < l.length) : adds [] (l.take (i + 1)) = addW (adds [] (l.take i)) l[i] := by
  rw [List.take_succ_eq_append_getElem h, adds_snoc]
theorem adds_ok : ∀ (l w : List Sl), (∀ s ∈ w, okS s = true) → ∀ s ∈ adds w l, okS s = true
  | [], w, h => h
  | s :: l, w, h => by
    refine adds_ok l (addW w s) fun t ht => ?_
    unfold addW at ht
    cases hb : okS s && !hasB w s.a
    · rw [hb] at ht; exact h t ht
    · rw [hb] at ht
      rcases List.mem_append.1 ht with h1 | h1
      · exact h t h1
      · rw [List.mem_singleton] at h1
        rw [h1]
        rw [Bool.and_eq_true] at hb
        exact hb.1
def s1a : Sl := ⟨⟨1, 0⟩, zs⟩
def s2a : Sl := ⟨⟨2, 0⟩, ⟨1, 0⟩⟩
theorem ord_two : Ord [s1a, s2a] [s1a, s2a] := by
  have h1 : Ord [s1a] [s1a] := add_ord (w := []) (O := []) (s := s1a) fine_nil ord_nil (by decide) (by decide) (by simp) (j := 0) (i := 0) (.inl ⟨by decide, rfl⟩) (Nat.le_refl _) (by simp) (fun k hk => by simp at hk) (fun h => by simp at h)
  have hf : Fine [s1a] := fine_add (w := []) fine_nil (by decide) (by decide)
  exact add_ord (w := [s1a]) (O := [s1a]) (s := s2a) hf h1 (by decide) (by decide) (by simp [s1a, s2a, zs]) (j := 1) (i := 1) (.inr ⟨0, by simp, rfl, rfl⟩) (Nat.le_refl _) (by simp) (fun k hk h1 h2 => by omega) (fun h => by simp at h)
section
variable {σ : St} {i u k : Nat} {s v : V} {l O S : List Sl} {x : Sp}
set_option maxRecDepth 100000 in
set_option maxHeartbeats 3200000 in
theorem awake_ok : CallA Try.prog 14 [] σ fun v σ' => v = .bool true ∧ Ext σ σ' := by
  refine fn_at Try.func14 (by decide) comp14 rfl fun Q q1 q2 => ?_
  simp -implicitDefEqProofs only [go_sem, Nat.reduceBEq, Nat.reduceAdd, eq_self, true_and, and_true, and_self, List.getElem?_cons_zero, List.getElem?_cons_succ, Nat.reduceLeDiff, Nat.zero_add, Nat.reduceSub, Nat.le_refl, c14]
  refine call_at new_ok ?_
  rintro v τ ⟨rfl, h0, he0, hl0⟩
  refine ⟨kept_none, ?_⟩
  have hnew : ∀ j, Own (σ.objs.length + 2) σ.objs.length (σ.objs.length + 1) (.sl true .pub 0 []) j → σ.objs.length ≤ j := by
    rintro j (rfl | rfl | rfl | ⟨_, _, _, e⟩)
    · omega
    · omega
    · omega
    · cases e
  generalize σ.objs.length + 2 = i at *
  generalize σ.objs.length + 1 = k at *
  generalize hu : σ.objs.length = u at h0 hnew
  have e1 : addE [] ⟨⟨1, 0⟩, zs⟩ = 0 := by decide
  have w1 : addW [] ⟨⟨1, 0⟩, zs⟩ = [s1a] := by decide
  have e2 : addE [s1a] ⟨⟨2, 0⟩, ⟨1, 0⟩⟩ = 0 := by decide
  have w2 : addW [s1a] ⟨⟨2, 0⟩, ⟨1, 0⟩⟩ = [s1a, s2a] := by decide
  have e3 : addE [s1a, s2a] ⟨⟨2, 0⟩, ⟨1, 0⟩⟩ = 5 := by decide
  have w3 : addW [s1a, s2a] ⟨⟨2, 0⟩, ⟨1, 0⟩⟩ = [s1a, s2a] := by decide
  have h00 : decide ((0 : Int) = 0) = true := by decide
  have h55 : decide ((5 : Int) = 5) = true := by decide
  simp -implicitDefEqProofs only [go_sem, Nat.reduceBEq, Nat.reduceAdd, eq_self, true_and, and_true, and_self, List.getElem?_cons_zero, List.getElem?_cons_succ, Nat.reduceLeDiff, Nat.zero_add, Nat.reduceSub, Nat.le_refl, Nat.lt_irrefl]
  refine call_at (add_ok (a := ⟨1, 0⟩) (b := zs) h0 (by simp)) ?_
  rintro v τ1 ⟨rfl, t1, O1, h1, k1⟩
  refine ⟨kept_upd k1.upd, ?_⟩
  rw [w1] at h1
  simp -implicitDefEqProofs only [go_sem, Nat.reduceBEq, Nat.reduceAdd, eq_self, true_and, and_true, and_self, List.getElem?_cons_zero, List.getElem?_cons_succ, Nat.reduceLeDiff, Nat.zero_add, Nat.reduceSub, Nat.le_refl, e1, h00]
  refine call_at (add_ok (a := ⟨2, 0⟩) (b := ⟨1, 0⟩) h1 (by simp)) ?_
  rintro v τ2 ⟨rfl, t2, O2, h2, k2⟩
  refine ⟨kept_upd k2.upd, ?_⟩
  rw [w2] at h2
  simp -implicitDefEqProofs only [go_sem, Nat.reduceBEq, Nat.reduceAdd, eq_self, true_and, and_true, and_self, List.getElem?_cons_zero, List.getElem?_cons_succ, Nat.reduceLeDiff, Nat.zero_add, Nat.reduceSub, Nat.le_refl, e2, h00]
  refine call_at (add_ok (a := ⟨2, 0⟩) (b := ⟨1, 0⟩) h2 (by simp)) ?_
  rintro v τ3 ⟨rfl, t3, O3, h3, k3⟩
  refine ⟨kept_upd k3.upd, ?_⟩
  rw [w3] at h3
  simp -implicitDefEqProofs only [go_sem, Nat.reduceBEq, Nat.reduceAdd, eq_self, true_and, and_true, and_self, List.getElem?_cons_zero, List.getElem?_cons_succ, Nat.reduceLeDiff, Nat.zero_add, Nat.reduceSub, Nat.le_refl, e3, h55]
  refine call_at (order_ok h3 (by simp)) ?_
  rintro v τ4 ⟨a4, e4⟩
  refine ⟨e4.kept, ?_⟩
  have hO : O3 = [s1a, s2a] := h3.ord.eq h3.fine ord_two
  have hlit : RdS τ4 (.sl false .pub 2 [[.int .i64 1, .int .i64 0], [.int .i64 2, .int .i64 0]]) 2 (spsV [⟨1, 0⟩, ⟨2, 0⟩]) := ⟨_, _, _, rfl, (by simp), .inr ⟨trivial, rfl⟩⟩
  have hd : decide (stampsL O3 = [⟨1, 0⟩, ⟨2, 0⟩]) = true := by rw [hO]; decide
  simp -implicitDefEqProofs only [go_sem, Nat.reduceBEq, Nat.reduceAdd, eq_self, true_and, and_true, and_self, List.getElem?_cons_zero, List.getElem?_cons_succ, Nat.reduceLeDiff, Nat.zero_add, Nat.reduceSub, Nat.le_refl, Nat.lt_irrefl]
  refine call_at (same_ok a4.rd hlit (by rw [hO]; simp [stampsL])) ?_
  rintro v τ5 ⟨rfl, rfl⟩
  refine ⟨(Ext.refl _).kept, ?_⟩
  rw [hd]
  simp -implicitDefEqProofs only [go_sem, Nat.reduceBEq, Nat.reduceAdd, eq_self, true_and, and_true, and_self, List.getElem?_cons_zero, List.getElem?_cons_succ, Nat.reduceLeDiff, Nat.zero_add, Nat.reduceSub, Nat.le_refl, Nat.lt_irrefl]
  refine q2 _ _ ?_
  simp -implicitDefEqProofs only [go_sem, Nat.reduceBEq, Nat.reduceAdd, eq_self, true_and, and_true, and_self, List.getElem?_cons_zero, List.getElem?_cons_succ, Nat.reduceLeDiff, Nat.zero_add, Nat.reduceSub, Nat.le_refl, Nat.lt_irrefl]
  have kk := (k1.trans k2).trans k3
  exact (kk.upd.toExt he0 fun j hj => by rw [hu]; exact hnew j hj).trans e4
set_option maxRecDepth 100000 in
set_option maxHeartbeats 3200000 in
theorem laid_ok (hv : RdS σ v 4 (slsV l)) : CallA Try.prog 12 [v] σ fun x σ' => ∃ i u k s w O, x = .tup [.ptr (some (i, 0)), w] ∧ RowIs σ' i u k s O (adds [] (l.take 120)) ∧ RdS σ' w 4 (slsV (adds [] (l.take 120))) ∧ Ext σ σ' ∧ ∀ j, Own i u k s j → σ.objs.length ≤ j := by
  refine fn_at Try.func12 (by decide) comp12 rfl fun Q q1 q2 => ?_
  simp -implicitDefEqProofs only [go_sem, Nat.reduceBEq, Nat.reduceAdd, eq_self, true_and, and_true, and_self, List.getElem?_cons_zero, List.getElem?_cons_succ, Nat.reduceLeDiff, Nat.zero_add, Nat.reduceSub, Nat.le_refl, c12]
  refine call_at new_ok ?_
  rintro _ τ ⟨rfl, h0, he0, hl0⟩
  refine ⟨kept_none, ?_⟩
  have hnew : ∀ j, Own (σ.objs.length + 2) σ.objs.length (σ.objs.length + 1) (.sl true .pub 0 []) j → σ.objs.length ≤ j := by
    rintro j (rfl | rfl | rfl | ⟨_, _, _, e⟩)
    · omega
    · omega
    · omega
    · cases e
  generalize σ.objs.length + 2 = i at *
  generalize σ.objs.length + 1 = k at *
  generalize hu : σ.objs.length = u at h0 hnew
  simp -implicitDefEqProofs only [go_sem, Nat.reduceBEq, Nat.reduceAdd, eq_self, true_and, and_true, and_self, List.getElem?_cons_zero, List.getElem?_cons_succ, Nat.reduceLeDiff, Nat.zero_add, Nat.reduceSub, Nat.le_refl, Nat.lt_irrefl]
  have e1 : Ext σ ⟨τ.objs, τ.live ++ [true]⟩ := ext_push he0
  have h1 : RowIs ⟨τ.objs, τ.live ++ [true]⟩ i u k (.sl true .pub 0 []) [] [] := h0.ext (ext_live τ true)
  have hw0 : RdS ⟨τ.objs, τ.live ++ [true]⟩ (.sl false (.own τ.live.length) 4 []) 4 (slsV (adds [] ((l.take 120).take 0))) := ⟨_, _, _, rfl, (by simp), .inr ⟨live_last _ _, rfl⟩⟩
  refine call_at (cut_ok (hv.ext e1)) ?_
  rintro v' τ1 ⟨hv', rfl⟩
  refine ⟨kept_none, ?_⟩
  have hLl : (l.take 120).length ≤ 120 := by rw [List.length_take]; omega
  generalize l.take 120 = L at *
  obtain ⟨b, R, z, rfl, -, -⟩ := id hv'
  have hA := slsV_length L
  simp -implicitDefEqProofs only [go_sem, Nat.reduceBEq, Nat.reduceAdd, eq_self, true_and, and_true, and_self, List.getElem?_cons_zero, List.getElem?_cons_succ, Nat.reduceLeDiff, Nat.zero_add, Nat.reduceSub, Nat.le_refl, Nat.lt_irrefl]
  refine loop_at (fun (y : Nat × V) => ⟨[(0, .v (.sl b R z (slsV L))), (4, .v (.ptr (some (i, 0)))), (5, .v y.2), (6, .v (.int .i64 y.1))], []⟩)
    (fun y t => y.1 ≤ L.length ∧ (∃ s O, RowIs t i u k s O (adds [] (L.take y.1)) ∧ ∀ j, Own i u k s j → σ.objs.length ≤ j) ∧ RdS t y.2 4 (slsV (adds [] (L.take y.1))) ∧ Ext σ t ∧ RdS t (.sl b R z (slsV L)) 4 (slsV L)) (fun y => L.length - y.1) (0, .sl false (.own τ.live.length) 4 []) ?_ ?_ ?_
  · refine .inr ?_
    simp -implicitDefEqProofs only [go_sem, Nat.reduceBEq, Nat.reduceAdd, eq_self, true_and, and_true, and_self, List.getElem?_cons_zero, List.getElem?_cons_succ, Nat.reduceLeDiff, Nat.zero_add, Nat.reduceSub, Nat.le_refl, Nat.lt_irrefl]
    try trivial
  · exact ⟨Nat.zero_le _, ⟨_, _, h1, by rw [hu]; exact hnew⟩, hw0, e1, hv'⟩
  rintro ⟨y, w⟩ t ⟨g1, ⟨s, O, g2, g3⟩, g4, g5, g6⟩ Z z1 z2 z3
  simp only at g1 g2 g4
  simp -implicitDefEqProofs only [go_sem, Nat.reduceBEq, Nat.reduceAdd, eq_self, true_and, and_true, and_self, List.getElem?_cons_zero, List.getElem?_cons_succ, Nat.reduceLeDiff, Nat.zero_add, Nat.reduceSub, Nat.le_refl, Nat.lt_irrefl]
  refine CondW_b (fun hcc => ?_) (fun hcc => ?_)
  · have hi : y < L.length := by simpa [hA] using hcc
    have hget := slsV_get hi
    have hib : (y : Int) < (slsV L).length := by omega
    have hw : IntKind.i64.wrap ((y : Int) + 1) = ((y + 1 : Nat) : Int) := by rw [i64_in _ (by omega)]; omega
    obtain ⟨k1, k2⟩ := rdl g6 (by cases L <;> simp [slsV] at hi ⊢)
    have hat := adds_take hi
    have hln := adds_len (L.take y) []
    have hltk : (L.take y).length ≤ 120 := by rw [List.length_take]; omega
    simp only [List.length_nil] at hln
    generalize L[y] = d at *
    generalize adds [] (L.take y) = W at *
    simp -implicitDefEqProofs only [go_sem, Nat.reduceBEq, Nat.reduceAdd, eq_self, true_and, and_true, and_self, List.getElem?_cons_zero, List.getElem?_cons_succ, Nat.reduceLeDiff, Nat.zero_add, Nat.reduceSub, Nat.le_refl, hget, slC]
    refine ⟨⟨by omega, hib, k2⟩, k1, ⟨by omega, hib, k2⟩, k1, ?_⟩
    refine call_at (add_ok (a := d.a) (b := d.u) g2 (by omega)) ?_
    rintro _ t2 ⟨rfl, s2, O2, n1, n2⟩
    refine ⟨kept_upd n2.upd, ?_⟩
    have g6' := rdS_up g6 n2.upd
    have g4' := rdS_up g4 n2.upd
    have g5' := n2.upd.toExt g5 g3
    have hol := g5.olen
    have g3' : ∀ j, Own i u k s2 j → σ.objs.length ≤ j := fun j hj => (n2.own j hj).elim (g3 j) fun h => Nat.le_trans hol h
    obtain ⟨k1', k2'⟩ := rdl g6' (by cases L <;> simp [slsV] at hi ⊢)
    simp -implicitDefEqProofs only [go_sem, Nat.reduceBEq, Nat.reduceAdd, eq_self, true_and, and_true, and_self, List.getElem?_cons_zero, List.getElem?_cons_succ, Nat.reduceLeDiff, Nat.zero_add, Nat.reduceSub, Nat.le_refl, hget, slC]
    refine ⟨⟨by omega, hib, k2'⟩, k1', ?_⟩
    refine call_at (radd_ok (s := d) g4' (by omega)) ?_
    rintro _ t3 ⟨⟨x, rfl, x1⟩, e3, -⟩
    refine ⟨kept_none, ?_⟩
    simp -implicitDefEqProofs only [go_sem, Nat.reduceBEq, Nat.reduceAdd, eq_self, true_and, and_true, and_self, List.getElem?_cons_zero, List.getElem?_cons_succ, Nat.reduceLeDiff, Nat.zero_add, Nat.reduceSub, Nat.le_refl, hw]
    refine z1 (y + 1, x) _ _ (.inr ?_) (by simp only; omega) ⟨by simp only; omega, ⟨s2, O2, ?_, g3'⟩, ?_, g5'.trans e3, g6'.ext e3⟩
    · simp -implicitDefEqProofs only [go_sem, Nat.reduceBEq, Nat.reduceAdd, eq_self, true_and, and_true, and_self, List.getElem?_cons_zero, List.getElem?_cons_succ, Nat.reduceLeDiff, Nat.zero_add, Nat.reduceSub, Nat.le_refl, Nat.lt_irrefl]
    · simp only [hat]; exact n1.ext e3
    · simp only [hat]; exact x1
  · have hi : ¬ y < L.length := by simpa [hA] using hcc
    rw [List.take_of_length_le (by omega)] at g2 g4
    simp -implicitDefEqProofs only [go_sem, Nat.reduceBEq, Nat.reduceAdd, eq_self, true_and, and_true, and_self, List.getElem?_cons_zero, List.getElem?_cons_succ, Nat.reduceLeDiff, Nat.zero_add, Nat.reduceSub, Nat.le_refl, Nat.lt_irrefl]
    refine z2 _ _ _ ?_
    simp -implicitDefEqProofs only [go_sem, Nat.reduceBEq, Nat.reduceAdd, eq_self, true_and, and_true, and_self, List.getElem?_cons_zero, List.getElem?_cons_succ, Nat.reduceLeDiff, Nat.zero_add, Nat.reduceSub, Nat.le_refl, Nat.lt_irrefl]
    refine q2 _ _ ?_
    simp -implicitDefEqProofs only [go_sem, Nat.reduceBEq, Nat.reduceAdd, eq_self, true_and, and_true, and_self, List.getElem?_cons_zero, List.getElem?_cons_succ, Nat.reduceLeDiff, Nat.zero_add, Nat.reduceSub, Nat.le_refl, Nat.lt_irrefl]
    exact ⟨i, u, k, s, w, O, rfl, g2, g4, g5, g3⟩
end
end Go.VL.rga

namespace Go.VL.rga
open Go Go.VL Go.Proofs Go.IntWalk Go.VL.st Go.VL.row

theorem sp_self (y : Sp) : V.eqs [.int .i64 y.c, .int .i64 y.r] [.int .i64 y.c, .int .i64 y.r] = true := by rw [sp_eqs y y]; simp
theorem first_uniq {l : List Sp} {x : Sp} {a b : Nat} (ha : a < l.length) (hb : b < l.length) (h1 : l[a] = x) (h2 : x ∉ l.take a) (h3 : l[b] = x) (h4 : x ∉ l.take b) : a = b := by
  rcases Nat.lt_trichotomy a b with h | h | h
  · exact absurd (List.mem_iff_getElem.2 ⟨a, by rw [List.length_take]; omega, by rw [List.getElem_take]; exact h1⟩) h4
  · exact h
  · exact absurd (List.mem_iff_getElem.2 ⟨b, by rw [List.length_take]; omega, by rw [List.getElem_take]; exact h3⟩) h2
section
variable {σ : St} {x : Sp} {v : V} {l : List Sl}
set_option maxRecDepth 100000 in
set_option maxHeartbeats 3200000 in
theorem asks_ok (hv : RdS σ v 4 (slsV l)) : CallA Try.prog 8 [v, spV x] σ fun v _ => v = .bool true := by
  refine fn_at Try.func8 (by decide) comp8 rfl fun Q q1 q2 => ?_
  simp -implicitDefEqProofs only [go_sem, Nat.reduceBEq, Nat.reduceAdd, eq_self, true_and, and_true, and_self, List.getElem?_cons_zero, List.getElem?_cons_succ, Nat.reduceLeDiff, Nat.zero_add, Nat.reduceSub, Nat.le_refl, c8, spV, spC]
  refine call_at (laid_ok hv) ?_
  rintro _ τ ⟨i, u, k, s, w, O, rfl, h, hw, he, -⟩
  refine ⟨kept_none, ?_⟩
  have hSl := adds_len (l.take 120) []
  have hLl : (l.take 120).length ≤ 120 := by rw [List.length_take]; omega
  simp only [List.length_nil] at hSl
  generalize adds [] (l.take 120) = S at *
  have hlen := h.len
  have hls : (stampsL O).length = O.length := by simp [stampsL]
  simp -implicitDefEqProofs only [go_sem, Nat.reduceBEq, Nat.reduceAdd, eq_self, true_and, and_true, and_self, List.getElem?_cons_zero, List.getElem?_cons_succ, Nat.reduceLeDiff, Nat.zero_add, Nat.reduceSub, Nat.le_refl, Nat.lt_irrefl]
  refine call_at (rorder_ok h.fine (by omega) h.ord hw) ?_
  rintro w1 τ1 ⟨hw1, e1, -⟩
  refine ⟨kept_none, ?_⟩
  simp -implicitDefEqProofs only [go_sem, Nat.reduceBEq, Nat.reduceAdd, eq_self, true_and, and_true, and_self, List.getElem?_cons_zero, List.getElem?_cons_succ, Nat.reduceLeDiff, Nat.zero_add, Nat.reduceSub, Nat.le_refl, Nat.lt_irrefl]
  refine call_at (stamps_ok hw1.rd (by omega)) ?_
  rintro w2 τ2 ⟨⟨q, rfl, hq, hqn⟩, e2, -⟩
  refine ⟨kept_none, ?_⟩
  simp -implicitDefEqProofs only [go_sem, Nat.reduceBEq, Nat.reduceAdd, eq_self, true_and, and_true, and_self, List.getElem?_cons_zero, List.getElem?_cons_succ, Nat.reduceLeDiff, Nat.zero_add, Nat.reduceSub, Nat.le_refl, Nat.lt_irrefl]
  have hr2 : RdS τ2 (.sl false (.own q) 2 (spsV (stampsL O))) 2 (spsV (stampsL O)) := ⟨_, _, _, rfl, by simp, .inr ⟨hq, rfl⟩⟩
  refine call_at (rplace_ok (x := x) hr2 (by omega)) ?_
  rintro p τ3 ⟨hp, rfl⟩
  refine ⟨kept_none, ?_⟩
  simp -implicitDefEqProofs only [go_sem, Nat.reduceBEq, Nat.reduceAdd, eq_self, true_and, and_true, and_self, List.getElem?_cons_zero, List.getElem?_cons_succ, Nat.reduceLeDiff, Nat.zero_add, Nat.reduceSub, Nat.le_refl, Nat.lt_irrefl]
  have h3 := h.ext (e1.trans e2)
  refine call_at (ahead_ok (x := x) h3 (by omega)) ?_
  rintro _ τ4 ⟨⟨y, rfl, hy⟩, e4⟩
  refine ⟨kept_none, ?_⟩
  have h4 := h3.ext e4
  simp -implicitDefEqProofs only [go_sem, Nat.reduceBEq, Nat.reduceAdd, eq_self, true_and, and_true, and_self, List.getElem?_cons_zero, List.getElem?_cons_succ, Nat.reduceLeDiff, Nat.zero_add, Nat.reduceSub, Nat.le_refl, spV, spC]
  refine call_at (has_ok (x := x) h4) ?_
  rintro _ τ5 ⟨rfl, hτ⟩
  have hτ := hτ.symm
  subst hτ
  refine ⟨kept_none, ?_⟩
  have hb := hasB_ord h.ord x
  have hz := sp_self zs
  simp only [zs] at hz
  rcases hp with ⟨hn, rfl⟩ | ⟨p, hp, hpe, hpt, rfl⟩
  · have hy0 : y = zs := by
      rcases hy with ⟨-, e⟩ | ⟨k', hk', e, -, -⟩
      · exact e
      · exact absurd (List.mem_iff_getElem.2 ⟨k', hk', e⟩) hn
    subst hy0
    have hb0 : hasB S x = false := by rw [hb]; simpa using hn
    have c1 : decide ((-1 : Int) ≥ 0) = false := by decide
    have c2 : decide ((-1 : Int) > 0) = false := by decide
    have hbb : (false == false) = true := rfl
    simp -implicitDefEqProofs only [go_sem, Nat.reduceBEq, Nat.reduceAdd, eq_self, true_and, and_true, and_self, List.getElem?_cons_zero, List.getElem?_cons_succ, Nat.reduceLeDiff, Nat.zero_add, Nat.reduceSub, Nat.le_refl, hb0, c1, c2, hbb, Bool.not_true]
    simp -implicitDefEqProofs only [go_sem, Nat.reduceBEq, Nat.reduceAdd, eq_self, true_and, and_true, and_self, List.getElem?_cons_zero, List.getElem?_cons_succ, Nat.reduceLeDiff, Nat.zero_add, Nat.reduceSub, Nat.le_refl, hb0, c1, c2, zs, hz]
    refine call_at awake_ok ?_
    rintro _ t6 ⟨rfl, e6⟩
    refine ⟨e6.kept, ?_⟩
    simp -implicitDefEqProofs only [go_sem, Nat.reduceBEq, Nat.reduceAdd, eq_self, true_and, and_true, and_self, List.getElem?_cons_zero, List.getElem?_cons_succ, Nat.reduceLeDiff, Nat.zero_add, Nat.reduceSub, Nat.le_refl, Nat.lt_irrefl]
    refine q2 _ _ ?_
    simp -implicitDefEqProofs only [go_sem, Nat.reduceBEq, Nat.reduceAdd, eq_self, true_and, and_true, and_self, List.getElem?_cons_zero, List.getElem?_cons_succ, Nat.reduceLeDiff, Nat.zero_add, Nat.reduceSub, Nat.le_refl, Nat.lt_irrefl]
  · have hb1 : hasB S x = true := by rw [hb]; simp; exact List.mem_iff_getElem.2 ⟨p, hp, hpe⟩
    have hbb : (true == true) = true := rfl
    have c1 : decide ((p : Int) ≥ 0) = true := by simp
    rcases hy with ⟨hn, -⟩ | ⟨k', hk', e1', e2', hy⟩
    · exact absurd (List.mem_iff_getElem.2 ⟨p, hp, hpe⟩) hn
    obtain rfl := first_uniq hp hk' hpe hpt e1' e2'
    rcases hy with ⟨rfl, rfl⟩ | ⟨k2, hk2, rfl, hy⟩
    · have c2 : decide (((0 : Nat) : Int) > 0) = false := by decide
      simp -implicitDefEqProofs only [go_sem, Nat.reduceBEq, Nat.reduceAdd, eq_self, true_and, and_true, and_self, List.getElem?_cons_zero, List.getElem?_cons_succ, Nat.reduceLeDiff, Nat.zero_add, Nat.reduceSub, Nat.le_refl, hb1, c1, c2, hbb, Bool.not_true]
      simp -implicitDefEqProofs only [go_sem, Nat.reduceBEq, Nat.reduceAdd, eq_self, true_and, and_true, and_self, List.getElem?_cons_zero, List.getElem?_cons_succ, Nat.reduceLeDiff, Nat.zero_add, Nat.reduceSub, Nat.le_refl, c2, zs, hz]
      refine call_at awake_ok ?_
      rintro _ t6 ⟨rfl, e6⟩
      refine ⟨e6.kept, ?_⟩
      simp -implicitDefEqProofs only [go_sem, Nat.reduceBEq, Nat.reduceAdd, eq_self, true_and, and_true, and_self, List.getElem?_cons_zero, List.getElem?_cons_succ, Nat.reduceLeDiff, Nat.zero_add, Nat.reduceSub, Nat.le_refl, Nat.lt_irrefl]
      refine q2 _ _ ?_
      simp -implicitDefEqProofs only [go_sem, Nat.reduceBEq, Nat.reduceAdd, eq_self, true_and, and_true, and_self, List.getElem?_cons_zero, List.getElem?_cons_succ, Nat.reduceLeDiff, Nat.zero_add, Nat.reduceSub, Nat.le_refl, Nat.lt_irrefl]
    · have c2 : decide (((k2 + 1 : Nat) : Int) > 0) = true := by rw [decide_eq_true_eq]; omega
      have hw1' : IntKind.i64.wrap (((k2 + 1 : Nat) : Int) - 1) = (k2 : Int) := by rw [i64_in _ (by omega)]; omega
      have hget : (spsV (stampsL O))[((k2 : Nat) : Int).toNat]?.getD [] = [.int .i64 y.c, .int .i64 y.r] := by
        rw [Int.toNat_natCast]
        simp [spsV, hk2, hy, spC]
      have hib : (k2 : Int) < (spsV (stampsL O)).length := by simp [spsV]; simpa using hk2
      have hse := sp_self y
      have hr4 := hr2.ext e4
      obtain ⟨d1, d2⟩ := rdl hr4 (by intro e; rw [e] at hib; simp at hib; omega)
      simp -implicitDefEqProofs only [go_sem, Nat.reduceBEq, Nat.reduceAdd, eq_self, true_and, and_true, and_self, List.getElem?_cons_zero, List.getElem?_cons_succ, Nat.reduceLeDiff, Nat.zero_add, Nat.reduceSub, Nat.le_refl, hb1, c1, c2, hbb, Bool.not_true]
      simp -implicitDefEqProofs only [go_sem, Nat.reduceBEq, Nat.reduceAdd, eq_self, true_and, and_true, and_self, List.getElem?_cons_zero, List.getElem?_cons_succ, Nat.reduceLeDiff, Nat.zero_add, Nat.reduceSub, Nat.le_refl, c2, hw1', hget, hse]
      refine ⟨⟨by omega, hib⟩, d1, ?_⟩
      refine call_at awake_ok ?_
      rintro _ t6 ⟨rfl, e6⟩
      refine ⟨e6.kept, ?_⟩
      simp -implicitDefEqProofs only [go_sem, Nat.reduceBEq, Nat.reduceAdd, eq_self, true_and, and_true, and_self, List.getElem?_cons_zero, List.getElem?_cons_succ, Nat.reduceLeDiff, Nat.zero_add, Nat.reduceSub, Nat.le_refl, Nat.lt_irrefl]
      refine q2 _ _ ?_
      simp -implicitDefEqProofs only [go_sem, Nat.reduceBEq, Nat.reduceAdd, eq_self, true_and, and_true, and_self, List.getElem?_cons_zero, List.getElem?_cons_succ, Nat.reduceLeDiff, Nat.zero_add, Nat.reduceSub, Nat.le_refl, Nat.lt_irrefl]
end
end Go.VL.rga

namespace Go.VL.rga
open Go Go.VL Go.Proofs Go.IntWalk Go.VL.st Go.VL.row

theorem stamps_get {O : List Sl} {m : Nat} (h : m < O.length) : (spsV (stampsL O))[((m : Nat) : Int).toNat]?.getD [] = [.int .i64 O[m].a.c, .int .i64 O[m].a.r] := by
  rw [Int.toNat_natCast]
  simp [spsV, stampsL, h, spC]
/-- Where the After stands. -/
theorem from_at {S O : List Sl} (hS : Fine S) (hO : Ord S O) {d : Sl} (hd : d ∈ S) {p : Nat} (hp : p < O.length) (hpe : O[p] = d) {w : V} (h : IsAt d.u (stampsL O) w) :
    ∃ (f : Int) (m0 : Nat), w = .int .i64 f ∧ f + 1 = m0 ∧ m0 ≤ p ∧ decide (f ≥ p) = false ∧ decide (f ≥ 0) = hasB S d.u ∧ ∀ (k : Nat) (hk : k < p), m0 ≤ k → less d.a (O[k]'(by omega)).a = true := by
  subst hpe
  have hb := hasB_ord hO O[p].u
  rcases h with ⟨hn, rfl⟩ | ⟨q, hq, hqe, -, rfl⟩
  · refine ⟨-1, 0, rfl, by omega, by omega, by simp; omega, by rw [hb]; simpa using hn, fun k hk _ => (behind_all hS hO hp hk fun q hq e => ?_).1⟩
    exact absurd (List.mem_iff_getElem.2 ⟨q, by simpa [stampsL] using hq, by simpa [stampsL] using e⟩) hn
  · have hq' : q < O.length := by simpa [stampsL] using hq
    have hqe' : O[q].a = O[p].u := by simpa [stampsL] using hqe
    have hqp := behind_up hS hO hp hq' hqe'
    refine ⟨q, q + 1, rfl, by omega, by omega, by simp; omega, ?_, fun k hk hm => (behind_all hS hO hp hk fun q' hq2 e => ?_).1⟩
    · rw [hb]
      have : O[p].u ∈ stampsL O := List.mem_iff_getElem.2 ⟨q, hq, hqe⟩
      simp [this]
    · have := hO.nd hS hq2 hq' (e.trans hqe'.symm)
      omega
section
variable {σ : St} {x : Sp} {v : V} {l : List Sl}
set_option maxRecDepth 100000 in
set_option maxHeartbeats 6400000 in
theorem behind_ok (hv : RdS σ v 4 (slsV l)) : CallA Try.prog 4 [v] σ fun v _ => v = .bool true := by
  refine fn_at Try.func4 (by decide) comp4 rfl fun Q q1 q2 => ?_
  simp -implicitDefEqProofs only [go_sem, Nat.reduceBEq, Nat.reduceAdd, eq_self, true_and, and_true, and_self, List.getElem?_cons_zero, List.getElem?_cons_succ, Nat.reduceLeDiff, Nat.zero_add, Nat.reduceSub, Nat.le_refl, c4]
  refine call_at (laid_ok hv) ?_
  rintro _ τ0 ⟨i, u, k, s, w, O, rfl, h, hw, he, -⟩
  refine ⟨kept_none, ?_⟩
  have hSl := adds_len (l.take 120) []
  have hLl : (l.take 120).length ≤ 120 := by rw [List.length_take]; omega
  simp only [List.length_nil] at hSl
  generalize adds [] (l.take 120) = S at *
  have hlen := h.len
  have hls : (stampsL O).length = O.length := by simp [stampsL]
  simp -implicitDefEqProofs only [go_sem, Nat.reduceBEq, Nat.reduceAdd, eq_self, true_and, and_true, and_self, List.getElem?_cons_zero, List.getElem?_cons_succ, Nat.reduceLeDiff, Nat.zero_add, Nat.reduceSub, Nat.le_refl, Nat.lt_irrefl]
  refine call_at (order_ok h (by omega)) ?_
  rintro w5 τ ⟨a5, e5⟩
  refine ⟨kept_none, ?_⟩
  have r5 := a5.rd
  have rw' := hw.ext e5
  have hS := h.fine
  have hO := h.ord
  clear a5 h hw hv
  obtain ⟨b5, R5, z5, rfl, -, -⟩ := id r5
  obtain ⟨b4, R4, z4, rfl, -, -⟩ := id rw'
  have hA := slsV_length S
  have hA5 : (spsV (stampsL O)).length = O.length := by simp [spsV, stampsL]
  simp -implicitDefEqProofs only [go_sem, Nat.reduceBEq, Nat.reduceAdd, eq_self, true_and, and_true, and_self, List.getElem?_cons_zero, List.getElem?_cons_succ, Nat.reduceLeDiff, Nat.zero_add, Nat.reduceSub, Nat.le_refl, Nat.lt_irrefl]
  refine loop_at (fun (y : Nat) => ⟨[(4, .v (.sl b4 R4 z4 (slsV S))), (5, .v (.sl b5 R5 z5 (spsV (stampsL O)))), (6, .v (.int .i64 y))], []⟩)
    (fun y t => y ≤ S.length ∧ t = τ) (fun y => S.length - y) 0 ?_ ?_ ?_
  · refine .inr ?_
    simp -implicitDefEqProofs only [go_sem, Nat.reduceBEq, Nat.reduceAdd, eq_self, true_and, and_true, and_self, List.getElem?_cons_zero, List.getElem?_cons_succ, Nat.reduceLeDiff, Nat.zero_add, Nat.reduceSub, Nat.le_refl, Nat.lt_irrefl]
    try trivial
  · exact ⟨Nat.zero_le _, rfl⟩
  rintro y t ⟨g1, hτ⟩ Z z1 z2 z3
  have hτ := hτ.symm
  subst hτ
  simp -implicitDefEqProofs only [go_sem, Nat.reduceBEq, Nat.reduceAdd, eq_self, true_and, and_true, and_self, List.getElem?_cons_zero, List.getElem?_cons_succ, Nat.reduceLeDiff, Nat.zero_add, Nat.reduceSub, Nat.le_refl, Nat.lt_irrefl]
  refine CondW_b (fun hcc => ?_) (fun hcc => ?_)
  · have hi : y < S.length := by simpa [hA] using hcc
    have hget := slsV_get hi
    have hib : (y : Int) < (slsV S).length := by omega
    have hwy : IntKind.i64.wrap ((y : Int) + 1) = ((y + 1 : Nat) : Int) := by rw [i64_in _ (by omega)]; omega
    have hLn : slsV S ≠ [] := by cases S <;> simp [slsV] at hi ⊢
    obtain ⟨k1, k2⟩ := rdl rw' hLn
    have hdS : S[y] ∈ S := List.getElem_mem hi
    generalize S[y] = d at *
    obtain ⟨p, hp, hpe⟩ := List.getElem_of_mem ((hO.mem d).2 hdS)
    have hOn : spsV (stampsL O) ≠ [] := fun e => by rw [e] at hA5; simp at hA5; omega
    obtain ⟨j1, j2⟩ := rdl r5 hOn
    simp -implicitDefEqProofs only [go_sem, Nat.reduceBEq, Nat.reduceAdd, eq_self, true_and, and_true, and_self, List.getElem?_cons_zero, List.getElem?_cons_succ, Nat.reduceLeDiff, Nat.zero_add, Nat.reduceSub, Nat.le_refl, hget, slC]
    refine ⟨⟨by omega, hib, k2⟩, k1, ?_⟩
    refine call_at (rplace_ok (x := d.a) r5 (by omega)) ?_
    rintro _ t1 ⟨hat, hτ⟩
    have hτ := hτ.symm
    subst hτ
    refine ⟨kept_none, ?_⟩
    have hat' : ∃ hp : p < O.length, True := ⟨hp, trivial⟩
    rcases hat with ⟨hn, -⟩ | ⟨p2, hp2, hpe2, -, rfl⟩
    · exact absurd (List.mem_iff_getElem.2 ⟨p, by simpa [stampsL] using hp, by simp [stampsL, hpe]⟩) hn
    have hpp : p2 = p := hO.nd hS (by simpa [stampsL] using hp2) hp (by rw [hpe]; simpa [stampsL] using hpe2)
    subst hpp
    simp -implicitDefEqProofs only [go_sem, Nat.reduceBEq, Nat.reduceAdd, eq_self, true_and, and_true, and_self, List.getElem?_cons_zero, List.getElem?_cons_succ, Nat.reduceLeDiff, Nat.zero_add, Nat.reduceSub, Nat.le_refl, hget, slC]
    refine ⟨⟨by omega, hib, k2⟩, k1, ?_⟩
    refine call_at (rplace_ok (x := d.u) r5 (by omega)) ?_
    rintro _ t1 ⟨hfr, hτ⟩
    have hτ := hτ.symm
    subst hτ
    refine ⟨kept_none, ?_⟩
    obtain ⟨f, m0, rfl, hfm, hm0, hfp, hf0, hbe⟩ := from_at hS hO hdS hp hpe hfr
    have c1 : decide ((p2 : Int) < 0) = false := by simp
    simp -implicitDefEqProofs only [go_sem, Nat.reduceBEq, Nat.reduceAdd, eq_self, true_and, and_true, and_self, List.getElem?_cons_zero, List.getElem?_cons_succ, Nat.reduceLeDiff, Nat.zero_add, Nat.reduceSub, Nat.le_refl, c1, hfp, hget, slC]
    refine ⟨⟨by omega, hib, k2⟩, k1, ?_⟩
    refine call_at (rhas_ok (x := d.u) rw' (by omega)) ?_
    rintro _ t1 ⟨rfl, hτ⟩
    have hτ := hτ.symm
    subst hτ
    refine ⟨kept_none, ?_⟩
    have hbb : (hasB S d.u == hasB S d.u) = true := by simp
    have hwf : IntKind.i64.wrap (f + 1) = (m0 : Int) := by rw [i64_in _ (by omega)]; omega
    simp -implicitDefEqProofs only [go_sem, Nat.reduceBEq, Nat.reduceAdd, eq_self, true_and, and_true, and_self, List.getElem?_cons_zero, List.getElem?_cons_succ, Nat.reduceLeDiff, Nat.zero_add, Nat.reduceSub, Nat.le_refl, hf0, hbb, Bool.not_true, hwf]
    refine loop_at (fun (m : Nat) => ⟨[(4, .v (.sl b4 R4 z4 (slsV S))), (5, .v (.sl b5 R5 z5 (spsV (stampsL O)))), (6, .v (.int .i64 y)), (7, .v (.int .i64 p2)), (9, .v (.int .i64 m))], []⟩)
      (fun m t' => m0 ≤ m ∧ m ≤ p2 ∧ t' = τ) (fun m => p2 - m) m0 ?_ ?_ ?_
    · refine .inr ?_
      simp -implicitDefEqProofs only [go_sem, Nat.reduceBEq, Nat.reduceAdd, eq_self, true_and, and_true, and_self, List.getElem?_cons_zero, List.getElem?_cons_succ, Nat.reduceLeDiff, Nat.zero_add, Nat.reduceSub, Nat.le_refl, Nat.lt_irrefl]
      try trivial
    · exact ⟨Nat.le_refl _, hm0, rfl⟩
    rintro m t' ⟨n0, n1, hτ⟩ Y y1 y2 y3
    have hτ := hτ.symm
    subst hτ
    simp -implicitDefEqProofs only [go_sem, Nat.reduceBEq, Nat.reduceAdd, eq_self, true_and, and_true, and_self, List.getElem?_cons_zero, List.getElem?_cons_succ, Nat.reduceLeDiff, Nat.zero_add, Nat.reduceSub, Nat.le_refl, Nat.lt_irrefl]
    refine CondW_b (fun hcc2 => ?_) (fun hcc2 => ?_)
    · have hm : m < p2 := by simpa using hcc2
      have hwm : IntKind.i64.wrap ((m : Int) + 1) = ((m + 1 : Nat) : Int) := by rw [i64_in _ (by omega)]; omega
      have hget2 := stamps_get (O := O) (m := m) (by omega)
      have hib2 : (m : Int) < (spsV (stampsL O)).length := by omega
      have hls := hbe m hm n0
      generalize (O[m]'(by omega)).a = c at *
      simp -implicitDefEqProofs only [go_sem, Nat.reduceBEq, Nat.reduceAdd, eq_self, true_and, and_true, and_self, List.getElem?_cons_zero, List.getElem?_cons_succ, Nat.reduceLeDiff, Nat.zero_add, Nat.reduceSub, Nat.le_refl, hget, hget2, slC]
      refine ⟨⟨by omega, hib, k2⟩, k1, ⟨by omega, hib2, j2⟩, j1, ?_⟩
      refine call_at (rless_ok (a := d.a) (b := c)) ?_
      rintro _ t1 ⟨hτ, rfl⟩
      have hτ := hτ.symm
      subst hτ
      refine ⟨(Ext.refl _).kept, ?_⟩
      simp -implicitDefEqProofs only [go_sem, Nat.reduceBEq, Nat.reduceAdd, eq_self, true_and, and_true, and_self, List.getElem?_cons_zero, List.getElem?_cons_succ, Nat.reduceLeDiff, Nat.zero_add, Nat.reduceSub, Nat.le_refl, hls, Bool.not_true, hwm]
      refine y1 (m + 1) _ _ (.inr ?_) (by omega) ⟨by omega, by omega, rfl⟩
      simp -implicitDefEqProofs only [go_sem, Nat.reduceBEq, Nat.reduceAdd, eq_self, true_and, and_true, and_self, List.getElem?_cons_zero, List.getElem?_cons_succ, Nat.reduceLeDiff, Nat.zero_add, Nat.reduceSub, Nat.le_refl, Nat.lt_irrefl]
    · simp -implicitDefEqProofs only [go_sem, Nat.reduceBEq, Nat.reduceAdd, eq_self, true_and, and_true, and_self, List.getElem?_cons_zero, List.getElem?_cons_succ, Nat.reduceLeDiff, Nat.zero_add, Nat.reduceSub, Nat.le_refl, Nat.lt_irrefl]
      refine y2 _ _ _ ?_
      simp -implicitDefEqProofs only [go_sem, Nat.reduceBEq, Nat.reduceAdd, eq_self, true_and, and_true, and_self, List.getElem?_cons_zero, List.getElem?_cons_succ, Nat.reduceLeDiff, Nat.zero_add, Nat.reduceSub, Nat.le_refl, hwy]
      refine z1 (y + 1) _ _ (.inr ?_) (by omega) ⟨by omega, rfl⟩
      simp -implicitDefEqProofs only [go_sem, Nat.reduceBEq, Nat.reduceAdd, eq_self, true_and, and_true, and_self, List.getElem?_cons_zero, List.getElem?_cons_succ, Nat.reduceLeDiff, Nat.zero_add, Nat.reduceSub, Nat.le_refl, Nat.lt_irrefl]
  · simp -implicitDefEqProofs only [go_sem, Nat.reduceBEq, Nat.reduceAdd, eq_self, true_and, and_true, and_self, List.getElem?_cons_zero, List.getElem?_cons_succ, Nat.reduceLeDiff, Nat.zero_add, Nat.reduceSub, Nat.le_refl, Nat.lt_irrefl]
    refine z2 _ _ _ ?_
    have hle : decide ((O.length : Int) = S.length) = true := by simp [hlen]
    simp -implicitDefEqProofs only [go_sem, Nat.reduceBEq, Nat.reduceAdd, eq_self, true_and, and_true, and_self, List.getElem?_cons_zero, List.getElem?_cons_succ, Nat.reduceLeDiff, Nat.zero_add, Nat.reduceSub, Nat.le_refl, hA, hA5, hle]
    refine call_at awake_ok ?_
    rintro _ t6 ⟨rfl, e6⟩
    refine ⟨kept_none, ?_⟩
    simp -implicitDefEqProofs only [go_sem, Nat.reduceBEq, Nat.reduceAdd, eq_self, true_and, and_true, and_self, List.getElem?_cons_zero, List.getElem?_cons_succ, Nat.reduceLeDiff, Nat.zero_add, Nat.reduceSub, Nat.le_refl, Nat.lt_irrefl]
    refine q2 _ _ ?_
    simp -implicitDefEqProofs only [go_sem, Nat.reduceBEq, Nat.reduceAdd, eq_self, true_and, and_true, and_self, List.getElem?_cons_zero, List.getElem?_cons_succ, Nat.reduceLeDiff, Nat.zero_add, Nat.reduceSub, Nat.le_refl, Nat.lt_irrefl]
end
end Go.VL.rga

namespace Go.VL.rga
open Go Go.VL Go.Proofs Go.IntWalk Go.VL.st Go.VL.row

theorem u64w (n : Int) : IntKind.u64.wrap n = n % 18446744073709551616 := by simp [IntKind.wrap, IntKind.bits, IntKind.signed]
theorem idx_of (o : Int) {n : Nat} (h : 0 < n) (hn : n ≤ 268435456) : ∃ i : Nat, i < n ∧ IntKind.i64.wrap ((IntKind.u64.wrap o).tmod (IntKind.u64.wrap n)) = i := by
  rw [u64w, u64w]
  obtain ⟨a, ha⟩ := Int.eq_ofNat_of_zero_le (Int.emod_nonneg o (b := 18446744073709551616) (by decide))
  have e : (n : Int) % 18446744073709551616 = n := Int.emod_eq_of_lt (by omega) (by omega)
  rw [ha, e, tmod_nat]
  have := Nat.mod_lt a h
  exact ⟨a % n, this, by rw [i64_in _ (by omega)]⟩
theorem slsV_take (l : List Sl) (i : Nat) : (slsV l).take i = slsV (l.take i) := by simp [slsV, List.map_take]
theorem slsV_drop (l : List Sl) (i : Nat) : (slsV l).drop i = slsV (l.drop i) := by simp [slsV, List.map_drop]
theorem slsV_append (l m : List Sl) : slsV l ++ slsV m = slsV (l ++ m) := by simp [slsV]
theorem perm_rest {R : List Sl} {i : Nat} (h : i < R.length) : (R[i] :: (R.take i ++ R.drop (i + 1))).Perm R := by
  have e : R = R.take i ++ R[i] :: R.drop (i + 1) := by rw [← List.drop_eq_getElem_cons h, List.take_append_drop]
  conv => rhs; rw [e]
  exact List.perm_middle.symm
section
variable {σ : St} {v u : V} {l : List Sl} {os : List Int}
set_option maxRecDepth 100000 in
set_option maxHeartbeats 6400000 in
theorem any_ok (hv : RdS σ v 4 (slsV l)) (hu : RdS σ u 1 (intsV .i64 os)) : CallA Try.prog 7 [v, u] σ fun v _ => v = .bool true := by
  obtain ⟨ub, uR, uz, rfl, -, -⟩ := id hu
  refine fn_at Try.func7 (by decide) comp7 rfl fun Q q1 q2 => ?_
  simp -implicitDefEqProofs only [go_sem, Nat.reduceBEq, Nat.reduceAdd, eq_self, true_and, and_true, and_self, List.getElem?_cons_zero, List.getElem?_cons_succ, Nat.reduceLeDiff, Nat.zero_add, Nat.reduceSub, Nat.le_refl, c7]
  refine call_at (laid_ok hv) ?_
  rintro _ τ0 ⟨i0, u0, k0, s0, w0, O, rfl, h, hw, he, -⟩
  refine ⟨kept_none, ?_⟩
  have hSl := adds_len (l.take 120) []
  have hLl : (l.take 120).length ≤ 120 := by rw [List.length_take]; omega
  have hok := adds_ok (l.take 120) [] (by simp)
  simp only [List.length_nil] at hSl
  generalize adds [] (l.take 120) = S at *
  have hlen := h.len
  have hu0 := hu.ext he
  clear hv hu
  simp -implicitDefEqProofs only [go_sem, Nat.reduceBEq, Nat.reduceAdd, eq_self, true_and, and_true, and_self, List.getElem?_cons_zero, List.getElem?_cons_succ, Nat.reduceLeDiff, Nat.zero_add, Nat.reduceSub, Nat.le_refl, Nat.lt_irrefl]
  refine call_at new_ok ?_
  rintro _ τ1 ⟨rfl, hn, he1, hl1⟩
  refine ⟨kept_none, ?_⟩
  have hnew : ∀ j, Own (τ0.objs.length + 2) τ0.objs.length (τ0.objs.length + 1) (.sl true .pub 0 []) j → τ0.objs.length ≤ j := by
    rintro j (rfl | rfl | rfl | ⟨_, _, _, e⟩)
    · omega
    · omega
    · omega
    · cases e
  have hw1 := hw.ext he1
  obtain ⟨b6, R6, z6, rfl, -, -⟩ := id hw1
  obtain ⟨hsb, hsz⟩ := rd_src (hw1.ext (ext_live τ1 true))
  have hA := slsV_length S
  generalize hi2 : τ0.objs.length + 2 = i at *
  generalize hk2 : τ0.objs.length + 1 = k at *
  generalize hu2 : τ0.objs.length = uu at hn hnew
  simp -implicitDefEqProofs only [go_sem, Nat.reduceBEq, Nat.reduceAdd, eq_self, true_and, and_true, and_self, List.getElem?_cons_zero, List.getElem?_cons_succ, Nat.reduceLeDiff, Nat.zero_add, Nat.reduceSub, Nat.le_refl, Nat.lt_irrefl]
  refine ⟨⟨.inr trivial, .inr (live_last _ _), ⟨hsb, hsz⟩, by rw [hA]; omega⟩, ?_⟩
  have x2 : Ext τ1 ⟨τ1.objs, kill (τ1.live ++ [true]) (.own τ1.live.length) ++ [true]⟩ := ext_kill (ext_live τ1 true) (Nat.le_refl _)
  refine loop_at (fun (x : List Sl × V × Nat) => ⟨[(1, .v (.sl ub uR uz (intsV .i64 os))), (5, .v (.ptr (some (i0, 0)))), (6, .v (.sl b6 R6 z6 (slsV S))), (7, .v (.ptr (some (i, 0)))), (8, .v x.2.1), (9, .v (.int .i64 x.2.2))], []⟩)
    (fun x τ => x.2.2 + x.1.length ≤ 120 ∧ Ext τ0 τ ∧ RdS τ x.2.1 4 (slsV x.1) ∧ ∃ s D O2, RowIs τ i uu k s O2 D ∧ (D ++ x.1).Perm S ∧ ∀ j, Own i uu k s j → τ0.objs.length ≤ j) (fun x => x.1.length)
    (S, .sl false (.own (τ1.live ++ [true]).length) 4 (slsV S), 0) ?_ ?_ ?_
  · refine .inr ?_
    simp -implicitDefEqProofs only [go_sem, Nat.reduceBEq, Nat.reduceAdd, eq_self, true_and, and_true, and_self, List.getElem?_cons_zero, List.getElem?_cons_succ, Nat.reduceLeDiff, Nat.zero_add, Nat.reduceSub, Nat.le_refl, Bool.false_and, List.nil_append]
    try trivial
  · exact ⟨by simp only; omega, he1.trans x2, ⟨false, _, 4, rfl, by simp, .inr ⟨live_last' _ _ _, rfl⟩⟩, _, [], [], hn.ext x2, by simp, by rw [hu2]; exact hnew⟩
  rintro ⟨Rr, w, t⟩ τ ⟨g1, g2, g3, s, D, O2, g4, g5, g6⟩ Z z1 z2 z3
  simp only at g1 g3 g5
  obtain ⟨wb, wR, wz, rfl, -, -⟩ := id g3
  have hRl := slsV_length Rr
  have hpl := g5.length_eq
  rw [List.length_append] at hpl
  simp -implicitDefEqProofs only [go_sem, Nat.reduceBEq, Nat.reduceAdd, eq_self, true_and, and_true, and_self, List.getElem?_cons_zero, List.getElem?_cons_succ, Nat.reduceLeDiff, Nat.zero_add, Nat.reduceSub, Nat.le_refl, Nat.lt_irrefl]
  refine CondW_b (fun hc => ?_) (fun hc => ?_)
  case refine_2 =>
    have hc := of_decide_eq_false hc
    have hR0 : Rr = [] := by
      cases Rr with
      | nil => rfl
      | cons a b => exfalso; simp only [slsV, List.map_cons, List.length_cons] at hc; omega
    subst hR0
    rw [List.append_nil] at g5
    have hO2 : O2 = O := (g4.ord.congr fun s => g5.mem_iff).eq h.fine h.ord
    simp -implicitDefEqProofs only [go_sem, Nat.reduceBEq, Nat.reduceAdd, eq_self, true_and, and_true, and_self, List.getElem?_cons_zero, List.getElem?_cons_succ, Nat.reduceLeDiff, Nat.zero_add, Nat.reduceSub, Nat.le_refl, Nat.lt_irrefl]
    refine z2 _ _ _ ?_
    have hx2 := h.ext g2
    simp -implicitDefEqProofs only [go_sem, Nat.reduceBEq, Nat.reduceAdd, eq_self, true_and, and_true, and_self, List.getElem?_cons_zero, List.getElem?_cons_succ, Nat.reduceLeDiff, Nat.zero_add, Nat.reduceSub, Nat.le_refl, Nat.lt_irrefl]
    refine call_at (order_ok g4 (by simp only [List.length_nil] at hpl; omega)) ?_
    rintro w3 τ2 ⟨a2, e2⟩
    refine ⟨kept_none, ?_⟩
    simp -implicitDefEqProofs only [go_sem, Nat.reduceBEq, Nat.reduceAdd, eq_self, true_and, and_true, and_self, List.getElem?_cons_zero, List.getElem?_cons_succ, Nat.reduceLeDiff, Nat.zero_add, Nat.reduceSub, Nat.le_refl, Nat.lt_irrefl]
    refine call_at (order_ok (hx2.ext e2) (by omega)) ?_
    rintro w4 τ3 ⟨a3, e3⟩
    refine ⟨kept_none, ?_⟩
    simp -implicitDefEqProofs only [go_sem, Nat.reduceBEq, Nat.reduceAdd, eq_self, true_and, and_true, and_self, List.getElem?_cons_zero, List.getElem?_cons_succ, Nat.reduceLeDiff, Nat.zero_add, Nat.reduceSub, Nat.le_refl, Nat.lt_irrefl]
    have hsl : (stampsL O2).length = O2.length := by simp [stampsL]
    refine call_at (same_ok (a2.rd.ext e3) a3.rd (by rw [hsl, hO2]; omega)) ?_
    rintro _ τ4 ⟨rfl, hτ⟩
    have hτ := hτ.symm
    subst hτ
    refine ⟨kept_none, ?_⟩
    have hdd : decide (stampsL O2 = stampsL O) = true := by rw [hO2]; simp
    simp -implicitDefEqProofs only [go_sem, Nat.reduceBEq, Nat.reduceAdd, eq_self, true_and, and_true, and_self, List.getElem?_cons_zero, List.getElem?_cons_succ, Nat.reduceLeDiff, Nat.zero_add, Nat.reduceSub, Nat.le_refl, hdd]
    refine call_at (len_ok ((g4.ext e2).ext e3)) ?_
    rintro _ τ4 ⟨hτ, rfl⟩
    have hτ := hτ.symm
    subst hτ
    refine ⟨kept_none, ?_⟩
    have hle : decide ((D.length : Int) = S.length) = true := by
      simp only [List.length_nil] at hpl
      rw [decide_eq_true_eq]; omega
    simp -implicitDefEqProofs only [go_sem, Nat.reduceBEq, Nat.reduceAdd, eq_self, true_and, and_true, and_self, List.getElem?_cons_zero, List.getElem?_cons_succ, Nat.reduceLeDiff, Nat.zero_add, Nat.reduceSub, Nat.le_refl, hA, hle]
    refine call_at awake_ok ?_
    rintro _ τ7 ⟨rfl, he7⟩
    refine ⟨kept_none, ?_⟩
    simp -implicitDefEqProofs only [go_sem, Nat.reduceBEq, Nat.reduceAdd, eq_self, true_and, and_true, and_self, List.getElem?_cons_zero, List.getElem?_cons_succ, Nat.reduceLeDiff, Nat.zero_add, Nat.reduceSub, Nat.le_refl, Nat.lt_irrefl]
    refine q2 _ _ ?_
    simp -implicitDefEqProofs only [go_sem, Nat.reduceBEq, Nat.reduceAdd, eq_self, true_and, and_true, and_self, List.getElem?_cons_zero, List.getElem?_cons_succ, Nat.reduceLeDiff, Nat.zero_add, Nat.reduceSub, Nat.le_refl, Nat.lt_irrefl]
  have hc := of_decide_eq_true hc
  have hRp : 0 < Rr.length := by omega
  simp -implicitDefEqProofs only [go_sem, Nat.reduceBEq, Nat.reduceAdd, eq_self, true_and, and_true, and_self, List.getElem?_cons_zero, List.getElem?_cons_succ, Nat.reduceLeDiff, Nat.zero_add, Nat.reduceSub, Nat.le_refl, Nat.lt_irrefl]
  refine cut_at (fun G τ2 => τ2 = τ ∧ ∃ m : Nat, m < Rr.length ∧ G = ⟨[(1, .v (.sl ub uR uz (intsV .i64 os))), (5, .v (.ptr (some (i0, 0)))), (6, .v (.sl b6 R6 z6 (slsV S))), (7, .v (.ptr (some (i, 0)))), (8, .v (.sl wb wR wz (slsV Rr))), (9, .v (.int .i64 t)), (10, .v (.int .i64 m))], []⟩) ?_ ?_
  · intro Y y1 y2 y3
    simp -implicitDefEqProofs only [go_sem, Nat.reduceBEq, Nat.reduceAdd, eq_self, true_and, and_true, and_self, List.getElem?_cons_zero, List.getElem?_cons_succ, Nat.reduceLeDiff, Nat.zero_add, Nat.reduceSub, Nat.le_refl, Nat.lt_irrefl]
    refine CondW_b (fun ho => ?_) (fun ho => ?_)
    · have ho' : t < os.length := by have := of_decide_eq_true ho; simp only [intsV, List.length_map] at this; omega
      obtain ⟨k1, k2⟩ := rdl (hu0.ext g2) (by cases os <;> simp [intsV] at ho' ⊢)
      have hib : (t : Int) < (intsV .i64 os).length := by simp only [intsV, List.length_map]; omega
      have hget := intsV_get (k := .i64) ho'
      obtain ⟨m, hm, e⟩ := idx_of os[t] hRp (by omega)
      simp -implicitDefEqProofs only [go_sem, Nat.reduceBEq, Nat.reduceAdd, eq_self, true_and, and_true, and_self, List.getElem?_cons_zero, List.getElem?_cons_succ, Nat.reduceLeDiff, Nat.zero_add, Nat.reduceSub, Nat.le_refl, hget]
      refine ⟨⟨by omega, hib, k2⟩, k1, ?_, ?_⟩
      · rw [hRl, u64w]; omega
      · rw [hRl, e]
        refine y1 _ _ _ (.inr ?_) ⟨rfl, m, hm, rfl⟩
        simp -implicitDefEqProofs only [go_sem, Nat.reduceBEq, Nat.reduceAdd, eq_self, true_and, and_true, and_self, List.getElem?_cons_zero, List.getElem?_cons_succ, Nat.reduceLeDiff, Nat.zero_add, Nat.reduceSub, Nat.le_refl, Nat.lt_irrefl]
    · simp -implicitDefEqProofs only [go_sem, Nat.reduceBEq, Nat.reduceAdd, eq_self, true_and, and_true, and_self, List.getElem?_cons_zero, List.getElem?_cons_succ, Nat.reduceLeDiff, Nat.zero_add, Nat.reduceSub, Nat.le_refl, Nat.lt_irrefl]
      refine y1 _ _ _ (.inr ?_) ⟨rfl, 0, hRp, rfl⟩
      simp -implicitDefEqProofs only [go_sem, Nat.reduceBEq, Nat.reduceAdd, eq_self, true_and, and_true, and_self, List.getElem?_cons_zero, List.getElem?_cons_succ, Nat.reduceLeDiff, Nat.zero_add, Nat.reduceSub, Nat.le_refl, Nat.lt_irrefl]
      try exact rfl
  rintro G τ2 ⟨rfl, m, hm, rfl⟩
  have hgi := slsV_get hm
  have hprm := perm_rest hm
  have hmR : Rr[m] ∈ Rr := List.getElem_mem hm
  generalize Rr[m] = d at hgi hprm hmR
  have hdS : d ∈ S := g5.mem_iff.1 (List.mem_append.2 (.inr hmR))
  have hnD : hasB D d.a = false := by
    cases hb : hasB D d.a
    · rfl
    · obtain ⟨t', ht', e⟩ := hasB_iff.1 hb
      have hnd : ((D ++ Rr).map (·.a)).Nodup := (g5.map _).nodup_iff.2 h.fine.nd
      rw [List.map_append, List.nodup_append] at hnd
      exact absurd e (hnd.2.2 _ (List.mem_map_of_mem ht') _ (List.mem_map_of_mem hmR))
  have hE0 : decide (addE D d = 0) = true := by unfold addE; rw [hok d hdS, hnD]; rfl
  have hW : addW D d = D ++ [d] := by unfold addW; rw [hok d hdS, hnD]; rfl
  obtain ⟨k1, k2⟩ := rdl g3 (by cases Rr <;> simp [slsV] at hm ⊢)
  have hib : (m : Int) < (slsV Rr).length := by omega
  simp -implicitDefEqProofs only [go_sem, Nat.reduceBEq, Nat.reduceAdd, eq_self, true_and, and_true, and_self, List.getElem?_cons_zero, List.getElem?_cons_succ, Nat.reduceLeDiff, Nat.zero_add, Nat.reduceSub, Nat.le_refl, hgi, slC]
  refine ⟨⟨by omega, hib, k2⟩, k1, ⟨by omega, hib, k2⟩, k1, ?_⟩
  refine call_at (add_ok (a := d.a) (b := d.u) g4 (by omega)) ?_
  rintro _ τ4 ⟨rfl, s2, O3, n1, n2⟩
  refine ⟨kept_upd n2.upd, ?_⟩
  have hdx : (⟨d.a, d.u⟩ : Sl) = d := rfl
  rw [hdx, hW] at n1
  have e4 := n2.upd.toExt g2 g6
  have g34 := rdS_up g3 n2.upd
  obtain ⟨k14, -⟩ := rdl g34 (by cases Rr <;> simp [slsV] at hm ⊢)
  have hwi : IntKind.i64.wrap ((m : Int) + 1) = ((m + 1 : Nat) : Int) := by rw [i64_in _ (by omega)]; omega
  simp -implicitDefEqProofs only [go_sem, Nat.reduceBEq, Nat.reduceAdd, eq_self, true_and, and_true, and_self, List.getElem?_cons_zero, List.getElem?_cons_succ, Nat.reduceLeDiff, Nat.zero_add, Nat.reduceSub, Nat.le_refl, hdx, hE0, Bool.not_true]
  have x5 := ext_live τ4 true
  have x6 : Ext τ4 ⟨τ4.objs, kill (τ4.live ++ [true]) (.own τ4.live.length) ++ [true]⟩ := ext_kill x5 (Nat.le_refl _)
  have x7 : Ext τ4 ⟨τ4.objs, kill (kill (τ4.live ++ [true]) (.own τ4.live.length) ++ [true]) (.own (τ4.live ++ [true]).length) ++ [true]⟩ := ext_kill x6 (by simp)
  have hne : slsV Rr ≠ [] := by cases Rr <;> simp [slsV] at hm ⊢
  have k15 := (rdl (g34.ext x5) hne).1
  have k16 := (rdl (g34.ext x6) hne).1
  have hl1 : (Rr.take m).length ≤ 200 := by rw [List.length_take]; omega
  have hl2 : (Rr.drop (m + 1)).length ≤ 200 := by rw [List.length_drop]; omega
  have hl3 : (Rr.take m ++ Rr.drop (m + 1)).length + 1 = Rr.length := by rw [List.length_append, List.length_take, List.length_drop]; omega
  simp only [hwi, Int.toNat_natCast, List.take_length, slsV_take, slsV_drop, slsV_append]
  refine ⟨⟨.inr k2, by omega, by omega, by omega⟩, ⟨.inr trivial, .inr (live_last _ _), ⟨.inr (rd_toView k15), .inl k2⟩, by rw [slsV_length]; omega⟩, ⟨.inr k2, by omega, by omega⟩,
    ⟨.inr trivial, .inr (live_last' _ _ _), ⟨.inr (rd_toView k16), .inl k2⟩, by rw [slsV_length, slsV_length]; omega⟩, ?_⟩
  refine z1 (Rr.take m ++ Rr.drop (m + 1), .sl false (.own (kill (τ4.live ++ [true]) (.own τ4.live.length) ++ [true]).length) 4 (slsV (Rr.take m ++ Rr.drop (m + 1))), t + 1) _ _ (.inr ?_) (by simp only; omega) ⟨by simp only; omega, e4.trans x7, ⟨false, _, 4, rfl, by simp, .inr ⟨live_last' _ _ _, rfl⟩⟩, s2, D ++ [d], O3, n1.ext x7, ?_, fun j hj => ?_⟩
  · simp -implicitDefEqProofs only [go_sem, Nat.reduceBEq, Nat.reduceAdd, eq_self, true_and, and_true, and_self, List.getElem?_cons_zero, List.getElem?_cons_succ, Nat.reduceLeDiff, Nat.zero_add, Nat.reduceSub, Nat.le_refl, Nat.lt_irrefl]
    rw [i64_in _ (by omega)]; simp
  · refine List.Perm.trans ?_ g5
    rw [List.append_assoc]
    exact List.Perm.append_left D hprm
  · exact (n2.own j hj).elim (g6 j) fun hl => Nat.le_trans g2.olen hl
end
end Go.VL.rga

namespace Go.VL.rga
open Go Go.VL Go.Proofs Go.IntWalk Go.VL.st Go.VL.row

def prevS (c r : Int) (fr : Sp) : Nat → Sp
  | 0 => fr
  | i + 1 => ⟨c + i, r⟩
/-- A slot of a chain. -/
def chE (c r : Int) (fr : Sp) (i : Nat) : Sl := ⟨⟨c + i, r⟩, prevS c r fr i⟩
structure Two (S D : List Sl) (fr : Sp) (la c r c' r' : Int) (n n' : Nat) : Prop where
  fine : Fine D
  mem : ∀ t, t ∈ D ↔ t ∈ S ∨ (∃ i, i < n ∧ t = chE c r fr i) ∨ ∃ i, i < n' ∧ t = chE c' r' fr i
  old : ∀ t ∈ S, t.a.c ≤ la ∧ t.a.r ≠ r ∧ t.a.r ≠ r'
  hc : la < c
  hc' : la < c'
  hla : 0 ≤ la
  ne : r ≠ r'
  hfr : fr.c ≤ la
section
variable {S D O : List Sl} {fr : Sp} {la c r c' r' : Int} {n n' : Nat}
theorem Two.symm (h : Two S D fr la c r c' r' n n') : Two S D fr la c' r' c r n' n :=
  ⟨h.fine, fun t => by rw [h.mem, @or_comm (∃ i, i < n ∧ t = chE c r fr i)], fun t ht => ⟨(h.old t ht).1, (h.old t ht).2.2, (h.old t ht).2.1⟩, h.hc', h.hc, h.hla, h.ne.symm, h.hfr⟩
theorem Two.next (h : Two S D fr la c r c' r' n n') (hO : Ord D O) {i p q : Nat} (hp : p < O.length) (hq : q < O.length) (ep : O[p] = chE c r fr i) (eq : O[q] = chE c r fr (i + 1)) : q = p + 1 := by
  have hu : O[p].a = O[q].u := by rw [ep, eq]; rfl
  have hlt := behind_up h.fine hO hq hp hu
  rcases Nat.lt_or_ge (p + 1) q with hk | hk
  · obtain ⟨-, hx⟩ := behind_all h.fine hO hq hk (fun q' h' e => by have := hO.nd h.fine h' hp (e.trans hu.symm); omega)
    obtain ⟨t, ht, e1, e2⟩ := hx ⟨O[p], (hO.mem _).1 (List.getElem_mem hp), hu⟩
    rw [eq] at e1 e2
    have e1 : t.u = ⟨c + i, r⟩ := e1
    exfalso
    have hc := h.hc
    have hc' := h.hc'
    have hla := h.hla
    have hfr := h.hfr
    rcases (h.mem t).1 ht with hS | ⟨j, hj, rfl⟩ | ⟨j, hj, rfl⟩
    · have hup := h.fine.up t ht (by rw [e1]; intro e; have := congrArg Sp.c e; simp only [zs] at this; omega)
      rw [e1] at hup
      have := (h.old t hS).1
      simp only [less, Bool.or_eq_true, Bool.and_eq_true, decide_eq_true_eq] at hup
      omega
    · cases j with
      | zero =>
        have e1 : fr = ⟨c + i, r⟩ := e1
        have := congrArg Sp.c e1
        simp only at this
        omega
      | succ j =>
        have e1 : (⟨c + j, r⟩ : Sp) = ⟨c + i, r⟩ := e1
        have := congrArg Sp.c e1
        simp only at this
        have : j = i := by omega
        subst this
        rw [less_irr] at e2; cases e2
    · cases j with
      | zero =>
        have e1 : fr = ⟨c + i, r⟩ := e1
        have := congrArg Sp.c e1
        simp only at this
        omega
      | succ j =>
        have e1 : (⟨c' + j, r'⟩ : Sp) = ⟨c + i, r⟩ := e1
        exact h.ne (congrArg Sp.r e1).symm
  · omega
theorem Two.who (h : Two S D fr la c r c' r' n n') (hO : Ord D O) {i : Nat} (hi : i < O.length) (e : O[i].a.r = r) : ∃ a, a < n ∧ O[i] = chE c r fr a := by
  rcases (h.mem _).1 ((hO.mem _).1 (List.getElem_mem hi)) with hS | hx | ⟨j, hj, e2⟩
  · exact absurd e (h.old _ hS).2.1
  · exact hx
  · rw [e2] at e
    exact absurd e.symm h.ne
theorem Two.there (h : Two S D fr la c r c' r' n n') (hO : Ord D O) {a : Nat} (ha : a < n) : ∃ (p : Nat) (hp : p < O.length), O[p] = chE c r fr a :=
  List.mem_iff_getElem.1 ((hO.mem _).2 ((h.mem _).2 (.inr (.inl ⟨a, ha, rfl⟩))))
theorem Two.pos (h : Two S D fr la c r c' r' n n') (hO : Ord D O) {p : Nat} (hp : p < O.length) (ep : O[p] = chE c r fr 0) : ∀ a, a < n → ∃ hp' : p + a < O.length, O[p + a] = chE c r fr a
  | 0, _ => ⟨hp, ep⟩
  | a + 1, ha => by
    obtain ⟨h1, h2⟩ := h.pos hO hp ep a (by omega)
    obtain ⟨q, hq, eq⟩ := h.there hO ha
    have := h.next hO h1 hq h2 eq
    subst this
    exact ⟨hq, eq⟩
theorem Two.row (h : Two S D fr la c r c' r' n n') (hO : Ord D O) :
    (∀ (i : Nat) (hi : i < (stampsL O).length), (stampsL O)[i].r = r → (∃ j, ∃ hj : j < i, ((stampsL O)[j]'(by omega)).r = r) → 0 < i ∧ ((stampsL O)[i - 1]'(by omega)).r = r ∧ ((stampsL O)[i - 1]'(by omega)).c + 1 = (stampsL O)[i].c) ∧
      ((stampsL O).filter fun x => decide (x.r = r)).length = n := by
  refine ⟨fun i hi e ⟨j, hj, ej⟩ => ?_, ?_⟩
  · have hi' : i < O.length := by simpa [stampsL] using hi
    simp only [stampsL, List.getElem_map] at e ej ⊢
    obtain ⟨a, ha, e1⟩ := h.who hO hi' e
    obtain ⟨b, hb, e2⟩ := h.who hO (by omega) ej
    cases a with
    | zero =>
      obtain ⟨h1, h2⟩ := h.pos hO hi' e1 b hb
      have := hO.nd h.fine h1 (by omega : j < O.length) (by rw [h2, e2])
      omega
    | succ a =>
      obtain ⟨p, hp, ep⟩ := h.there hO (by omega : a < n)
      have := h.next hO hp hi' ep e1
      subst this
      refine ⟨by omega, ?_, ?_⟩
      · simp only [Nat.add_sub_cancel, ep, chE]
      · simp only [Nat.add_sub_cancel, ep, e1, chE]
        omega
  · have hG : ((List.range n).map (chE c r fr)).Nodup := by
      refine List.pairwise_map.2 (List.nodup_range.imp fun {x y} hne e => hne ?_)
      have := congrArg (fun s : Sl => s.a.c) e
      simp only [chE] at this
      omega
    have hF : (O.filter fun t => decide (t.a.r = r)).Nodup := (hO.perm_len h.fine).filter _
    have hp : (O.filter fun t => decide (t.a.r = r)).Perm ((List.range n).map (chE c r fr)) := by
      rw [List.perm_ext_iff_of_nodup hF hG]
      intro t
      rw [List.mem_filter, List.mem_map, decide_eq_true_eq]
      constructor
      · rintro ⟨h1, h2⟩
        obtain ⟨i, hi, rfl⟩ := List.getElem_of_mem h1
        obtain ⟨a, ha, e⟩ := h.who hO hi h2
        exact ⟨a, List.mem_range.2 ha, e.symm⟩
      · rintro ⟨a, ha, rfl⟩
        exact ⟨(hO.mem _).2 ((h.mem _).2 (.inr (.inl ⟨a, List.mem_range.1 ha, rfl⟩))), rfl⟩
    have := hp.length_eq
    rw [List.length_map, List.length_range] at this
    rw [← this, stampsL, List.filter_map, List.length_map]
    rfl
end
theorem okS_ch {fr : Sp} {c r : Int} {i : Nat} (hfr : fr = zs ∨ right fr = true) (h1 : fr.c < c) (h0 : 0 < c) (h2 : c + i ≤ 1099511627776) (hr : 0 ≤ r ∧ r < 64) : okS (chE c r fr i) = true := by
  have ha : right ⟨c + i, r⟩ = true := by simp only [right, Bool.and_eq_true, decide_eq_true_eq]; omega
  cases i with
  | zero =>
    unfold okS chE prevS
    simp only
    rw [ha]
    rcases hfr with rfl | hfr
    · simp
    · have hl : less fr ⟨c + (0 : Nat), r⟩ = true := by simp only [less, Bool.or_eq_true, Bool.and_eq_true, decide_eq_true_eq]; omega
      rw [hfr, hl]; simp
  | succ i =>
    unfold okS chE prevS
    simp only
    have hb : right ⟨c + i, r⟩ = true := by simp only [right, Bool.and_eq_true, decide_eq_true_eq]; omega
    have hl : less ⟨c + i, r⟩ ⟨c + (i + 1 : Nat), r⟩ = true := by simp only [less, Bool.or_eq_true, Bool.and_eq_true, decide_eq_true_eq]; omega
    rw [ha, hb, hl]; simp
theorem Two.add {S D : List Sl} {fr : Sp} {la c r c' r' : Int} {k k' : Nat} (h : Two S D fr la c r c' r' k k') (hok : okS (chE c r fr k) = true) :
    hasB D (chE c r fr k).a = false ∧ Two S (D ++ [chE c r fr k]) fr la c r c' r' (k + 1) k' := by
  have hh : hasB D (chE c r fr k).a = false := by
    cases hb : hasB D (chE c r fr k).a
    · rfl
    · obtain ⟨t, ht, e⟩ := hasB_iff.1 hb
      have hc := h.hc
      exfalso
      rcases (h.mem t).1 ht with hS | ⟨j, hj, rfl⟩ | ⟨j, hj, rfl⟩
      · have := (h.old t hS).1
        rw [e] at this
        simp only [chE] at this
        omega
      · have := congrArg Sp.c e
        simp only [chE] at this
        omega
      · exact h.ne (congrArg Sp.r e).symm
  refine ⟨hh, fine_add h.fine hok hh, fun t => ?_, h.old, h.hc, h.hc', h.hla, h.ne, h.hfr⟩
  rw [List.mem_append, List.mem_singleton, h.mem]
  constructor
  · rintro ((h1 | ⟨j, hj, e⟩ | h1) | e)
    · exact .inl h1
    · exact .inr (.inl ⟨j, by omega, e⟩)
    · exact .inr (.inr h1)
    · exact .inr (.inl ⟨k, by omega, e⟩)
  · rintro (h1 | ⟨j, hj, e⟩ | h1)
    · exact .inl (.inl h1)
    · by_cases hjk : j = k
      · subst hjk; exact .inr e
      · exact .inl (.inr (.inl ⟨j, by omega, e⟩))
    · exact .inl (.inr (.inr h1))
section
variable {σ : St} {v : V} {l : List Sp} {r : Int} {n : Nat}
theorem sps_get {i : Nat} (h : i < l.length) : (spsV l)[((i : Nat) : Int).toNat]?.getD [] = [.int .i64 l[i].c, .int .i64 l[i].r] := by
  rw [Int.toNat_natCast]
  simp [spsV, h, spC]
def cntR (r : Int) (l : List Sp) : Nat := (l.filter fun x => decide (x.r = r)).length
theorem cntR_snoc (r : Int) (l : List Sp) (x : Sp) : cntR r (l ++ [x]) = bif decide (x.r = r) then cntR r l + 1 else cntR r l := by
  unfold cntR
  rw [List.filter_append, List.length_append]
  by_cases h : x.r = r <;> simp [h]
theorem cntR_pos {r : Int} {l : List Sp} (h : 0 < cntR r l) : ∃ j, ∃ hj : j < l.length, l[j].r = r := by
  obtain ⟨x, hx⟩ := List.exists_mem_of_length_pos h
  rw [List.mem_filter, decide_eq_true_eq] at hx
  obtain ⟨j, hj, rfl⟩ := List.getElem_of_mem hx.1
  exact ⟨j, hj, hx.2⟩
set_option maxRecDepth 100000 in
set_option maxHeartbeats 3200000 in
theorem row_ok (hv : RdS σ v 2 (spsV l)) (hl : l.length ≤ 1000)
    (h1 : ∀ (i : Nat) (hi : i < l.length), l[i].r = r → (∃ j, ∃ hj : j < i, (l[j]'(by omega)).r = r) → 0 < i ∧ (l[i - 1]'(by omega)).r = r ∧ (l[i - 1]'(by omega)).c + 1 = l[i].c)
    (hc : ∀ x ∈ l, -1099511627776 ≤ x.c ∧ x.c ≤ 1099511627776) (h2 : (l.filter fun x => decide (x.r = r)).length = n) : CallA Try.prog 21 [v, .int .i64 r, .int .i64 n] σ fun x σ' => x = .bool true ∧ σ' = σ := by
  obtain ⟨b, R, z, rfl, -, -⟩ := id hv
  refine fn_at Try.func21 (by decide) comp21 rfl fun Q q1 q2 => ?_
  have hA : (spsV l).length = l.length := by simp [spsV]
  simp -implicitDefEqProofs only [go_sem, Nat.reduceBEq, Nat.reduceAdd, eq_self, true_and, and_true, and_self, List.getElem?_cons_zero, List.getElem?_cons_succ, Nat.reduceLeDiff, Nat.zero_add, Nat.reduceSub, Nat.le_refl, c21]
  refine loop_at (fun (y : Nat) => ⟨[(0, .v (.sl b R z (spsV l))), (1, .v (.int .i64 r)), (2, .v (.int .i64 n)), (7, .v (.int .i64 (cntR r (l.take y)))), (8, .v (.int .i64 y))], []⟩)
    (fun y τ => y ≤ l.length ∧ τ = σ) (fun y => l.length - y) 0 ?_ ?_ ?_
  · refine .inr ?_
    simp -implicitDefEqProofs only [go_sem, Nat.reduceBEq, Nat.reduceAdd, eq_self, true_and, and_true, and_self, List.getElem?_cons_zero, List.getElem?_cons_succ, Nat.reduceLeDiff, Nat.zero_add, Nat.reduceSub, Nat.le_refl, Nat.lt_irrefl]
    exact ⟨rfl, rfl⟩
  · exact ⟨Nat.zero_le _, rfl⟩
  rintro y τ ⟨g1, hτ⟩ Z z1 z2 z3
  have hτ := hτ.symm
  subst hτ
  simp -implicitDefEqProofs only [go_sem, Nat.reduceBEq, Nat.reduceAdd, eq_self, true_and, and_true, and_self, List.getElem?_cons_zero, List.getElem?_cons_succ, Nat.reduceLeDiff, Nat.zero_add, Nat.reduceSub, Nat.le_refl, Nat.lt_irrefl]
  refine CondW_b (fun hcc => ?_) (fun hcc => ?_)
  · have hi : y < l.length := by simpa [hA] using hcc
    have hget := sps_get hi
    have hib : (y : Int) < (spsV l).length := by omega
    have hwy : IntKind.i64.wrap ((y : Int) + 1) = ((y + 1 : Nat) : Int) := by rw [i64_in _ (by omega)]; omega
    have hLn : spsV l ≠ [] := by cases l <;> simp [spsV] at hi ⊢
    obtain ⟨k1, k2⟩ := rdl hv hLn
    have hst1 : l.take (y + 1) = l.take y ++ [l[y]] := List.take_succ_eq_append_getElem hi
    have hcs := cntR_snoc r (l.take y) l[y]
    have hcl : cntR r (l.take y) ≤ l.length := Nat.le_trans (List.length_filter_le _ _) (by rw [List.length_take]; omega)
    have hwk : IntKind.i64.wrap ((cntR r (l.take y) : Int) + 1) = ((cntR r (l.take y) + 1 : Nat) : Int) := by rw [i64_in _ (by omega)]; omega
    refine cut_dup ?_
    cases hd : decide (l[y].r = r) <;> rw [hd] at hcs
    · simp -implicitDefEqProofs only [go_sem, Nat.reduceBEq, Nat.reduceAdd, eq_self, true_and, and_true, and_self, List.getElem?_cons_zero, List.getElem?_cons_succ, Nat.reduceLeDiff, Nat.zero_add, Nat.reduceSub, Nat.le_refl, hget, hd, Bool.not_false]
      refine ⟨⟨by omega, hib, k2⟩, k1, ?_⟩
      simp -implicitDefEqProofs only [go_sem, Nat.reduceBEq, Nat.reduceAdd, eq_self, true_and, and_true, and_self, List.getElem?_cons_zero, List.getElem?_cons_succ, Nat.reduceLeDiff, Nat.zero_add, Nat.reduceSub, Nat.le_refl, hwy]
      refine z1 (y + 1) _ _ (.inr ?_) (by omega) ⟨by omega, rfl⟩
      rw [hst1, hcs]
      simp -implicitDefEqProofs only [go_sem, Nat.reduceBEq, Nat.reduceAdd, eq_self, true_and, and_true, and_self, List.getElem?_cons_zero, List.getElem?_cons_succ, Nat.reduceLeDiff, Nat.zero_add, Nat.reduceSub, Nat.le_refl, cond_false]
    · have hr := of_decide_eq_true hd
      rcases Nat.eq_zero_or_pos (cntR r (l.take y)) with h0 | h0
      · have c1 : decide ((cntR r (l.take y) : Int) > 0) = false := by rw [h0]; decide
        simp -implicitDefEqProofs only [go_sem, Nat.reduceBEq, Nat.reduceAdd, eq_self, true_and, and_true, and_self, List.getElem?_cons_zero, List.getElem?_cons_succ, Nat.reduceLeDiff, Nat.zero_add, Nat.reduceSub, Nat.le_refl, hget, hd, c1, Bool.not_true, hwk, hwy]
        refine ⟨⟨by omega, hib, k2⟩, k1, ?_⟩
        refine z1 (y + 1) _ _ (.inr ?_) (by omega) ⟨by omega, rfl⟩
        rw [hst1, hcs]
        simp -implicitDefEqProofs only [go_sem, Nat.reduceBEq, Nat.reduceAdd, eq_self, true_and, and_true, and_self, List.getElem?_cons_zero, List.getElem?_cons_succ, Nat.reduceLeDiff, Nat.zero_add, Nat.reduceSub, Nat.le_refl, cond_true]
      · have c1 : decide ((cntR r (l.take y) : Int) > 0) = true := by rw [decide_eq_true_eq]; omega
        obtain ⟨j, hj, ej⟩ := cntR_pos h0
        rw [List.length_take] at hj
        rw [List.getElem_take] at ej
        obtain ⟨m1, m2, m3⟩ := h1 y hi hr ⟨j, by omega, ej⟩
        have c2 : decide ((y : Int) = 0) = false := by simp; omega
        have hy1 : y - 1 < l.length := by omega
        have hget1 := sps_get hy1
        have hwm : IntKind.i64.wrap ((y : Int) - 1) = ((y - 1 : Nat) : Int) := by rw [i64_in _ (by omega)]; omega
        have hb1 : ((y - 1 : Nat) : Int) < (spsV l).length := by omega
        have c3 : decide ((l[y - 1]'(by omega)).r = r) = true := by rw [decide_eq_true_eq]; exact m2
        have hcx := hc _ (List.getElem_mem hy1)
        have hwc : IntKind.i64.wrap ((l[y - 1]'(by omega)).c + 1) = l[y].c := by rw [i64_in _ (by omega)]; exact m3
        have c4 : decide (l[y].c = l[y].c) = true := by simp
        simp -implicitDefEqProofs only [go_sem, Nat.reduceBEq, Nat.reduceAdd, eq_self, true_and, and_true, and_self, List.getElem?_cons_zero, List.getElem?_cons_succ, Nat.reduceLeDiff, Nat.zero_add, Nat.reduceSub, Nat.le_refl, hget, hget1, hd, c1, c2, hwm, c3, hwc, c4, Bool.not_true, hwk, hwy]
        refine ⟨⟨by omega, hib, k2⟩, k1, ⟨by omega, hb1, k2⟩, k1, ⟨by omega, hb1, k2⟩, k1, ⟨by omega, hib, k2⟩, k1, ?_⟩
        refine z1 (y + 1) _ _ (.inr ?_) (by omega) ⟨by omega, rfl⟩
        rw [hst1, hcs]
        simp -implicitDefEqProofs only [go_sem, Nat.reduceBEq, Nat.reduceAdd, eq_self, true_and, and_true, and_self, List.getElem?_cons_zero, List.getElem?_cons_succ, Nat.reduceLeDiff, Nat.zero_add, Nat.reduceSub, Nat.le_refl, cond_true]
  · have hi : ¬ y < l.length := by simpa [hA] using hcc
    have hn : cntR r (l.take y) = n := by rw [List.take_of_length_le (by omega)]; exact h2
    have c1 : decide ((cntR r (l.take y) : Int) = n) = true := by rw [hn]; simp
    simp -implicitDefEqProofs only [go_sem, Nat.reduceBEq, Nat.reduceAdd, eq_self, true_and, and_true, and_self, List.getElem?_cons_zero, List.getElem?_cons_succ, Nat.reduceLeDiff, Nat.zero_add, Nat.reduceSub, Nat.le_refl, Nat.lt_irrefl]
    refine z2 _ _ _ ?_
    simp -implicitDefEqProofs only [go_sem, Nat.reduceBEq, Nat.reduceAdd, eq_self, true_and, and_true, and_self, List.getElem?_cons_zero, List.getElem?_cons_succ, Nat.reduceLeDiff, Nat.zero_add, Nat.reduceSub, Nat.le_refl, c1]
    refine q2 _ _ ?_
    simp -implicitDefEqProofs only [go_sem, Nat.reduceBEq, Nat.reduceAdd, eq_self, true_and, and_true, and_self, List.getElem?_cons_zero, List.getElem?_cons_succ, Nat.reduceLeDiff, Nat.zero_add, Nat.reduceSub, Nat.le_refl, Nat.lt_irrefl]
end
end Go.VL.rga

namespace Go.VL.rga
open Go Go.VL Go.Proofs Go.IntWalk Go.VL.st Go.VL.row

theorem okS_right {s : Sl} (h : okS s = true) : right s.a = true := by
  unfold okS at h
  rw [Bool.and_eq_true] at h
  exact h.1
theorem last_less {t : Sl} (h : okS t = true) (hne : t.a ≠ ⟨1099511627776, 63⟩) : less t.a ⟨1099511627776, 63⟩ = true := by
  have := okS_right h
  simp only [right, less, Bool.and_eq_true, Bool.or_eq_true, decide_eq_true_eq] at *
  have hne' : ¬ (t.a.c = 1099511627776 ∧ t.a.r = 63) := fun e => hne (sp_iff.2 e)
  omega
section
variable {σ : St} {x : Sp} {v : V} {l : List Sl}
set_option maxRecDepth 100000 in
set_option maxHeartbeats 3200000 in
theorem latest_ok (hv : RdS σ v 4 (slsV l)) : CallA Try.prog 9 [v, spV x] σ fun v _ => v = .bool true := by
  refine fn_at Try.func9 (by decide) comp9 rfl fun Q q1 q2 => ?_
  simp -implicitDefEqProofs only [go_sem, Nat.reduceBEq, Nat.reduceAdd, eq_self, true_and, and_true, and_self, List.getElem?_cons_zero, List.getElem?_cons_succ, Nat.reduceLeDiff, Nat.zero_add, Nat.reduceSub, Nat.le_refl, c9, spV, spC]
  refine call_at (laid_ok hv) ?_
  rintro _ τ ⟨i, u, k, s, w, O, rfl, h, hw, he, -⟩
  refine ⟨kept_none, ?_⟩
  have hSl := adds_len (l.take 120) []
  have hLl : (l.take 120).length ≤ 120 := by rw [List.length_take]; omega
  have hok := adds_ok (l.take 120) [] (by simp)
  simp only [List.length_nil] at hSl
  generalize adds [] (l.take 120) = S at *
  have hlen := h.len
  have hz := sp_self zs
  simp only [zs] at hz
  simp -implicitDefEqProofs only [go_sem, Nat.reduceBEq, Nat.reduceAdd, eq_self, true_and, and_true, and_self, List.getElem?_cons_zero, List.getElem?_cons_succ, Nat.reduceLeDiff, Nat.zero_add, Nat.reduceSub, Nat.le_refl, Nat.lt_irrefl]
  refine call_at (add_ok (a := ⟨1099511627776, 63⟩) (b := x) h (by omega)) ?_
  rintro _ τ1 ⟨rfl, s', O', h1, t1⟩
  refine ⟨kept_none, ?_⟩
  have hw1 := rdS_up hw t1.upd
  have hb1 : ∀ s : Sl, okS s = okS s := fun _ => rfl
  cases ho : okS ⟨⟨1099511627776, 63⟩, x⟩
  · have ha : addE S ⟨⟨1099511627776, 63⟩, x⟩ = 2 := by simp [addE, ho]
    have c1 : decide ((2 : Int) = 0) = false := by decide
    simp -implicitDefEqProofs only [go_sem, Nat.reduceBEq, Nat.reduceAdd, eq_self, true_and, and_true, and_self, List.getElem?_cons_zero, List.getElem?_cons_succ, Nat.reduceLeDiff, Nat.zero_add, Nat.reduceSub, Nat.le_refl, ha, c1, Bool.not_false]
    refine call_at (rhas_ok (x := ⟨1099511627776, 63⟩) hw1 (by omega)) ?_
    rintro _ τ2 ⟨rfl, hτ⟩
    have hτ := hτ.symm
    subst hτ
    refine ⟨kept_none, ?_⟩
    cases hh : hasB S ⟨1099511627776, 63⟩
    · simp -implicitDefEqProofs only [go_sem, Nat.reduceBEq, Nat.reduceAdd, eq_self, true_and, and_true, and_self, List.getElem?_cons_zero, List.getElem?_cons_succ, Nat.reduceLeDiff, Nat.zero_add, Nat.reduceSub, Nat.le_refl, Nat.lt_irrefl]
      refine call_at (rslot_ok (t := ⟨⟨1099511627776, 63⟩, x⟩)) ?_
      rintro _ τ2 ⟨hτ, rfl⟩
      have hτ := hτ.symm
      subst hτ
      refine ⟨kept_none, ?_⟩
      simp -implicitDefEqProofs only [go_sem, Nat.reduceBEq, Nat.reduceAdd, eq_self, true_and, and_true, and_self, List.getElem?_cons_zero, List.getElem?_cons_succ, Nat.reduceLeDiff, Nat.zero_add, Nat.reduceSub, Nat.le_refl, ho, Bool.not_false]
      refine call_at awake_ok ?_
      rintro _ t6 ⟨rfl, e6⟩
      refine ⟨e6.kept, ?_⟩
      simp -implicitDefEqProofs only [go_sem, Nat.reduceBEq, Nat.reduceAdd, eq_self, true_and, and_true, and_self, List.getElem?_cons_zero, List.getElem?_cons_succ, Nat.reduceLeDiff, Nat.zero_add, Nat.reduceSub, Nat.le_refl, Nat.lt_irrefl]
      refine q2 _ _ ?_
      simp -implicitDefEqProofs only [go_sem, Nat.reduceBEq, Nat.reduceAdd, eq_self, true_and, and_true, and_self, List.getElem?_cons_zero, List.getElem?_cons_succ, Nat.reduceLeDiff, Nat.zero_add, Nat.reduceSub, Nat.le_refl, Nat.lt_irrefl]
    · simp -implicitDefEqProofs only [go_sem, Nat.reduceBEq, Nat.reduceAdd, eq_self, true_and, and_true, and_self, List.getElem?_cons_zero, List.getElem?_cons_succ, Nat.reduceLeDiff, Nat.zero_add, Nat.reduceSub, Nat.le_refl, Nat.lt_irrefl]
      refine call_at awake_ok ?_
      rintro _ t6 ⟨rfl, e6⟩
      refine ⟨e6.kept, ?_⟩
      simp -implicitDefEqProofs only [go_sem, Nat.reduceBEq, Nat.reduceAdd, eq_self, true_and, and_true, and_self, List.getElem?_cons_zero, List.getElem?_cons_succ, Nat.reduceLeDiff, Nat.zero_add, Nat.reduceSub, Nat.le_refl, Nat.lt_irrefl]
      refine q2 _ _ ?_
      simp -implicitDefEqProofs only [go_sem, Nat.reduceBEq, Nat.reduceAdd, eq_self, true_and, and_true, and_self, List.getElem?_cons_zero, List.getElem?_cons_succ, Nat.reduceLeDiff, Nat.zero_add, Nat.reduceSub, Nat.le_refl, Nat.lt_irrefl]
  cases hh : hasB S ⟨1099511627776, 63⟩
  case true =>
    have ha : addE S ⟨⟨1099511627776, 63⟩, x⟩ = 5 := by simp [addE, ho, hh]
    have c1 : decide ((5 : Int) = 0) = false := by decide
    simp -implicitDefEqProofs only [go_sem, Nat.reduceBEq, Nat.reduceAdd, eq_self, true_and, and_true, and_self, List.getElem?_cons_zero, List.getElem?_cons_succ, Nat.reduceLeDiff, Nat.zero_add, Nat.reduceSub, Nat.le_refl, ha, c1, Bool.not_false]
    refine call_at (rhas_ok (x := ⟨1099511627776, 63⟩) hw1 (by omega)) ?_
    rintro _ τ2 ⟨rfl, hτ⟩
    have hτ := hτ.symm
    subst hτ
    refine ⟨kept_none, ?_⟩
    simp -implicitDefEqProofs only [go_sem, Nat.reduceBEq, Nat.reduceAdd, eq_self, true_and, and_true, and_self, List.getElem?_cons_zero, List.getElem?_cons_succ, Nat.reduceLeDiff, Nat.zero_add, Nat.reduceSub, Nat.le_refl, hh]
    refine call_at awake_ok ?_
    rintro _ t6 ⟨rfl, e6⟩
    refine ⟨e6.kept, ?_⟩
    simp -implicitDefEqProofs only [go_sem, Nat.reduceBEq, Nat.reduceAdd, eq_self, true_and, and_true, and_self, List.getElem?_cons_zero, List.getElem?_cons_succ, Nat.reduceLeDiff, Nat.zero_add, Nat.reduceSub, Nat.le_refl, Nat.lt_irrefl]
    refine q2 _ _ ?_
    simp -implicitDefEqProofs only [go_sem, Nat.reduceBEq, Nat.reduceAdd, eq_self, true_and, and_true, and_self, List.getElem?_cons_zero, List.getElem?_cons_succ, Nat.reduceLeDiff, Nat.zero_add, Nat.reduceSub, Nat.le_refl, Nat.lt_irrefl]
  have ha : addE S ⟨⟨1099511627776, 63⟩, x⟩ = 0 := by simp [addE, ho, hh]
  have hW : addW S ⟨⟨1099511627776, 63⟩, x⟩ = S ++ [⟨⟨1099511627776, 63⟩, x⟩] := by simp [addW, ho, hh]
  rw [hW] at h1
  have c1 : decide ((0 : Int) = 0) = true := by decide
  simp -implicitDefEqProofs only [go_sem, Nat.reduceBEq, Nat.reduceAdd, eq_self, true_and, and_true, and_self, List.getElem?_cons_zero, List.getElem?_cons_succ, Nat.reduceLeDiff, Nat.zero_add, Nat.reduceSub, Nat.le_refl, ha, c1, Bool.not_true]
  refine call_at (ahead_ok (x := ⟨1099511627776, 63⟩) h1 (by rw [List.length_append]; simp; omega)) ?_
  rintro _ τ2 ⟨⟨y, rfl, hy⟩, e2⟩
  refine ⟨kept_none, ?_⟩
  have hth : hasB (S ++ [⟨⟨1099511627776, 63⟩, x⟩]) ⟨1099511627776, 63⟩ = true := by simp [hasB_app]
  have hlt : ∀ t ∈ S, less t.a (⟨⟨1099511627776, 63⟩, x⟩ : Sl).a = true := fun t ht => last_less (hok t ht) fun e => by
    have := hasB_iff.2 ⟨t, ht, e⟩
    rw [hh] at this; cases this
  have hlaw : y = bif hasB S x then x else zs := by
    rcases hy with ⟨hn, -⟩ | ⟨p, hp, hpe, hpt, hy⟩
    · have := hasB_ord h1.ord ⟨1099511627776, 63⟩
      rw [hth] at this
      exact absurd (by simpa using this.symm) hn
    have hp' : p < O'.length := by simpa [stampsL] using hp
    have hpe' : O'[p].a = ⟨1099511627776, 63⟩ := by simpa [stampsL] using hpe
    rcases latest_law (x := x) (y := y) h1.fine h1.ord hlt hp' hpe' with ⟨h0, hb⟩ | ⟨q, hq, h0, hqe, hb⟩
    · simp only at hb
      rw [hb]
      rcases hy with ⟨-, e⟩ | ⟨k', hk', e, -⟩
      · exact e
      · omega
    · simp only at hb hqe
      rw [hb]
      rcases hy with ⟨e, -⟩ | ⟨k', hk', e, hy⟩
      · omega
      · have : k' = q := by omega
        subst this
        rw [← hy]
        simpa [stampsL] using hqe
  simp -implicitDefEqProofs only [go_sem, Nat.reduceBEq, Nat.reduceAdd, eq_self, true_and, and_true, and_self, List.getElem?_cons_zero, List.getElem?_cons_succ, Nat.reduceLeDiff, Nat.zero_add, Nat.reduceSub, Nat.le_refl, hth, spV, spC]
  refine call_at (rhas_ok (x := x) (hw1.ext e2) (by omega)) ?_
  rintro _ τ3 ⟨rfl, hτ⟩
  have hτ := hτ.symm
  subst hτ
  refine ⟨kept_none, ?_⟩
  have hse := sp_self x
  cases hb : hasB S x <;> rw [hb] at hlaw
  · have hlaw : y = zs := hlaw
    subst hlaw
    simp -implicitDefEqProofs only [go_sem, Nat.reduceBEq, Nat.reduceAdd, eq_self, true_and, and_true, and_self, List.getElem?_cons_zero, List.getElem?_cons_succ, Nat.reduceLeDiff, Nat.zero_add, Nat.reduceSub, Nat.le_refl, hth, hb, zs, hz]
    refine call_at awake_ok ?_
    rintro _ t6 ⟨rfl, e6⟩
    refine ⟨e6.kept, ?_⟩
    simp -implicitDefEqProofs only [go_sem, Nat.reduceBEq, Nat.reduceAdd, eq_self, true_and, and_true, and_self, List.getElem?_cons_zero, List.getElem?_cons_succ, Nat.reduceLeDiff, Nat.zero_add, Nat.reduceSub, Nat.le_refl, Nat.lt_irrefl]
    refine q2 _ _ ?_
    simp -implicitDefEqProofs only [go_sem, Nat.reduceBEq, Nat.reduceAdd, eq_self, true_and, and_true, and_self, List.getElem?_cons_zero, List.getElem?_cons_succ, Nat.reduceLeDiff, Nat.zero_add, Nat.reduceSub, Nat.le_refl, Nat.lt_irrefl]
  · have hlaw : y = x := hlaw
    subst hlaw
    simp -implicitDefEqProofs only [go_sem, Nat.reduceBEq, Nat.reduceAdd, eq_self, true_and, and_true, and_self, List.getElem?_cons_zero, List.getElem?_cons_succ, Nat.reduceLeDiff, Nat.zero_add, Nat.reduceSub, Nat.le_refl, hth, hb, hse]
    refine call_at awake_ok ?_
    rintro _ t6 ⟨rfl, e6⟩
    refine ⟨e6.kept, ?_⟩
    simp -implicitDefEqProofs only [go_sem, Nat.reduceBEq, Nat.reduceAdd, eq_self, true_and, and_true, and_self, List.getElem?_cons_zero, List.getElem?_cons_succ, Nat.reduceLeDiff, Nat.zero_add, Nat.reduceSub, Nat.le_refl, Nat.lt_irrefl]
    refine q2 _ _ ?_
    simp -implicitDefEqProofs only [go_sem, Nat.reduceBEq, Nat.reduceAdd, eq_self, true_and, and_true, and_self, List.getElem?_cons_zero, List.getElem?_cons_succ, Nat.reduceLeDiff, Nat.zero_add, Nat.reduceSub, Nat.le_refl, Nat.lt_irrefl]
end
end Go.VL.rga

namespace Go.VL.rga
open Go Go.VL Go.Proofs Go.IntWalk Go.VL.st Go.VL.row

theorem idx_c (o : Int) (n : Nat) (h : 0 < n) (hn : n ≤ 268435456) : ∃ i : Nat, i < n ∧ IntKind.i64.wrap ((IntKind.u64.wrap o).tmod n) = i := by
  obtain ⟨i, h1, h2⟩ := idx_of o h hn
  have e : IntKind.u64.wrap (n : Int) = n := by rw [u64w]; exact Int.emod_eq_of_lt (by omega) (by omega)
  rw [e] at h2
  exact ⟨i, h1, h2⟩
def chn (c r : Int) (fr : Sp) (n : Nat) : List Sl := (List.range n).map (chE c r fr)
theorem chn_len (c r : Int) (fr : Sp) (n : Nat) : (chn c r fr n).length = n := by simp [chn]
theorem chn_succ (c r : Int) (fr : Sp) (n : Nat) : chn c r fr (n + 1) = chn c r fr n ++ [chE c r fr n] := by simp [chn, List.range_succ]
theorem chn_get (c r : Int) (fr : Sp) {n i : Nat} (h : i < (chn c r fr n).length) : (chn c r fr n)[i] = chE c r fr i := by simp [chn]
theorem has_two {xs : List V} (h : T.hasL [.int .i64, .int .i64, .int .i64, .int .i64, .bool] xs) : ∃ n m a b f, xs = [.int .i64 n, .int .i64 m, .int .i64 a, .int .i64 b, .bool f] := by
  simp only [T.hasL, T.has] at h
  obtain ⟨_, _, rfl, ⟨n, rfl, -⟩, _, _, rfl, ⟨m, rfl, -⟩, _, _, rfl, ⟨a, rfl, -⟩, _, _, rfl, ⟨b, rfl, -⟩, _, _, rfl, ⟨f, rfl⟩, rfl⟩ := h
  exact ⟨n, m, a, b, f, rfl⟩
section
variable {σ : St} {v u : V} {l : List Sl} {os : List Int} {tn tm ta tb : Int} {tf : Bool}
set_option maxRecDepth 100000 in
set_option maxHeartbeats 12800000 in
theorem runs_ok (hv : RdS σ v 4 (slsV l)) (hu : RdS σ u 1 (intsV .i64 os)) :
    CallA Try.prog 5 [v, .agg [.int .i64 tn, .int .i64 tm, .int .i64 ta, .int .i64 tb, .bool tf], u] σ fun v _ => v = .bool true := by
  obtain ⟨ub, uR, uz, rfl, -, -⟩ := id hu
  refine fn_at Try.func5 (by decide) comp5 rfl fun Q q1 q2 => ?_
  simp -implicitDefEqProofs only [go_sem, Nat.reduceBEq, Nat.reduceAdd, eq_self, true_and, and_true, and_self, List.getElem?_cons_zero, List.getElem?_cons_succ, Nat.reduceLeDiff, Nat.zero_add, Nat.reduceSub, Nat.le_refl, c5]
  refine call_at (laid_ok hv) ?_
  rintro _ τ0 ⟨i, u', k, s, w, O, rfl, h, hw, he, -⟩
  refine ⟨kept_none, ?_⟩
  have hSl := adds_len (l.take 120) []
  have hLl : (l.take 120).length ≤ 120 := by rw [List.length_take]; omega
  have hok := adds_ok (l.take 120) [] (by simp)
  simp only [List.length_nil] at hSl
  generalize adds [] (l.take 120) = S at *
  have hlen := h.len
  have hu0 := hu.ext he
  clear hv hu
  obtain ⟨b4, R4, z4, rfl, -, -⟩ := id hw
  have hA := slsV_length S
  obtain ⟨n, hn, en⟩ := idx_c tn 12 (by omega) (by omega)
  obtain ⟨m, hm, em⟩ := idx_c tm 12 (by omega) (by omega)
  have e12 : ((12 : Nat) : Int) = 12 := rfl
  rw [e12] at en em
  simp -implicitDefEqProofs only [go_sem, Nat.reduceBEq, Nat.reduceAdd, eq_self, true_and, and_true, and_self, List.getElem?_cons_zero, List.getElem?_cons_succ, Nat.reduceLeDiff, Nat.zero_add, Nat.reduceSub, Nat.le_refl, en, em]
  refine ⟨by decide, by decide, ?_⟩
  refine cut_at (fun G τ => τ = τ0 ∧ ∃ fr : Sp, (fr = zs ∨ ∃ t ∈ S, t.a = fr) ∧ G = ⟨[(2, .v (.sl ub uR uz (intsV .i64 os))), (4, .loc 4 0), (7, .v (.ptr (some (i, 0)))), (8, .v (.sl b4 R4 z4 (slsV S))), (9, .v (.int .i64 n)), (10, .v (.int .i64 m)), (11, .loc 11 0)], [(4, [.int .i64 tn, .int .i64 tm, .int .i64 ta, .int .i64 tb, .bool tf]), (11, spC fr)]⟩) ?_ ?_
  · intro X x1 x2 x3
    rcases Nat.eq_zero_or_pos S.length with h0 | h0
    · have c1 : decide ((S.length : Int) > 0) = false := by rw [h0]; decide
      simp -implicitDefEqProofs only [go_sem, Nat.reduceBEq, Nat.reduceAdd, eq_self, true_and, and_true, and_self, List.getElem?_cons_zero, List.getElem?_cons_succ, Nat.reduceLeDiff, Nat.zero_add, Nat.reduceSub, Nat.le_refl, hA, c1]
      refine x1 _ _ _ (.inr ?_) ⟨rfl, zs, .inl rfl, rfl⟩
      simp -implicitDefEqProofs only [go_sem, Nat.reduceBEq, Nat.reduceAdd, eq_self, true_and, and_true, and_self, List.getElem?_cons_zero, List.getElem?_cons_succ, Nat.reduceLeDiff, Nat.zero_add, Nat.reduceSub, Nat.le_refl, spC, zs]
    · have c1 : decide ((S.length : Int) > 0) = true := by rw [decide_eq_true_eq]; omega
      have hlt : S.length - 1 < S.length := by omega
      have hget := slsV_get hlt
      have hib : ((S.length - 1 : Nat) : Int) < (slsV S).length := by omega
      have hwl : IntKind.i64.wrap ((S.length : Int) - 1) = ((S.length - 1 : Nat) : Int) := by rw [i64_in _ (by omega)]; omega
      obtain ⟨k1, k2⟩ := rdl hw (by cases S <;> simp [slsV] at h0 ⊢)
      have hmem : S[S.length - 1] ∈ S := List.getElem_mem hlt
      generalize S[S.length - 1] = d at *
      cases tf
      · simp -implicitDefEqProofs only [go_sem, Nat.reduceBEq, Nat.reduceAdd, eq_self, true_and, and_true, and_self, List.getElem?_cons_zero, List.getElem?_cons_succ, Nat.reduceLeDiff, Nat.zero_add, Nat.reduceSub, Nat.le_refl, hA, c1, Bool.not_false, hwl, hget, slC]
        refine ⟨⟨by omega, by omega, k2⟩, k1, ?_⟩
        refine x1 _ _ _ (.inr ?_) ⟨rfl, d.a, .inr ⟨d, hmem, rfl⟩, rfl⟩
        simp -implicitDefEqProofs only [go_sem, Nat.reduceBEq, Nat.reduceAdd, eq_self, true_and, and_true, and_self, List.getElem?_cons_zero, List.getElem?_cons_succ, Nat.reduceLeDiff, Nat.zero_add, Nat.reduceSub, Nat.le_refl, spC]
      · simp -implicitDefEqProofs only [go_sem, Nat.reduceBEq, Nat.reduceAdd, eq_self, true_and, and_true, and_self, List.getElem?_cons_zero, List.getElem?_cons_succ, Nat.reduceLeDiff, Nat.zero_add, Nat.reduceSub, Nat.le_refl, hA, c1, Bool.not_true]
        refine x1 _ _ _ (.inr ?_) ⟨rfl, zs, .inl rfl, rfl⟩
        simp -implicitDefEqProofs only [go_sem, Nat.reduceBEq, Nat.reduceAdd, eq_self, true_and, and_true, and_self, List.getElem?_cons_zero, List.getElem?_cons_succ, Nat.reduceLeDiff, Nat.zero_add, Nat.reduceSub, Nat.le_refl, spC, zs]
  rintro _ τ ⟨hτ, fr, hfr, rfl⟩
  have hτ := hτ.symm
  subst hτ
  simp -implicitDefEqProofs only [go_sem, Nat.reduceBEq, Nat.reduceAdd, eq_self, true_and, and_true, and_self, List.getElem?_cons_zero, List.getElem?_cons_succ, Nat.reduceLeDiff, Nat.zero_add, Nat.reduceSub, Nat.le_refl, Nat.lt_irrefl]
  refine loop_at (fun (y : Nat × Int × Bool) => ⟨[(2, .v (.sl ub uR uz (intsV .i64 os))), (4, .loc 4 0), (7, .v (.ptr (some (i, 0)))), (8, .v (.sl b4 R4 z4 (slsV S))), (9, .v (.int .i64 n)), (10, .v (.int .i64 m)), (11, .loc 11 0), (12, .v (.int .i64 y.2.1)), (13, .v (.bool y.2.2)), (14, .v (.int .i64 y.1))], [(4, [.int .i64 tn, .int .i64 tm, .int .i64 ta, .int .i64 tb, .bool tf]), (11, spC fr)]⟩)
    (fun y t => y.1 ≤ S.length ∧ t = τ0 ∧ 0 ≤ y.2.1 ∧ y.2.1 ≤ 1099511627776 ∧ (∀ t ∈ S.take y.1, t.a.c ≤ y.2.1) ∧ (y.2.2 = false → ∀ t ∈ S.take y.1, t.a.r ≠ 20 ∧ t.a.r ≠ 21)) (fun y => S.length - y.1) (0, 0, false) ?_ ?_ ?_
  · refine .inr ?_
    simp -implicitDefEqProofs only [go_sem, Nat.reduceBEq, Nat.reduceAdd, eq_self, true_and, and_true, and_self, List.getElem?_cons_zero, List.getElem?_cons_succ, Nat.reduceLeDiff, Nat.zero_add, Nat.reduceSub, Nat.le_refl, Nat.lt_irrefl]
    exact rfl
  · exact ⟨Nat.zero_le _, rfl, by decide, by decide, by simp, by simp⟩
  rintro ⟨y, la, th⟩ τ ⟨g1, hτ, g2, g3, g4, g5⟩ Z z1 z2 z3
  have hτ := hτ.symm
  subst hτ
  simp only at g1 g2 g3 g4 g5
  simp -implicitDefEqProofs only [go_sem, Nat.reduceBEq, Nat.reduceAdd, eq_self, true_and, and_true, and_self, List.getElem?_cons_zero, List.getElem?_cons_succ, Nat.reduceLeDiff, Nat.zero_add, Nat.reduceSub, Nat.le_refl, Nat.lt_irrefl]
  refine CondW_b (fun hcc => ?_) (fun hcc => ?_)
  · have hi : y < S.length := by simpa [hA] using hcc
    have hget := slsV_get hi
    have hib : (y : Int) < (slsV S).length := by omega
    have hwy : IntKind.i64.wrap ((y : Int) + 1) = ((y + 1 : Nat) : Int) := by rw [i64_in _ (by omega)]; omega
    obtain ⟨k1, k2⟩ := rdl hw (by cases S <;> simp [slsV] at hi ⊢)
    have hst1 : S.take (y + 1) = S.take y ++ [S[y]] := List.take_succ_eq_append_getElem hi
    have hdr := okS_right (hok S[y] (List.getElem_mem hi))
    simp only [right, Bool.and_eq_true, decide_eq_true_eq] at hdr
    generalize S[y] = d at *
    have hmx1 : la ≤ (if d.a.c > la then d.a.c else la) := by split <;> omega
    have hmx2 : d.a.c ≤ (if d.a.c > la then d.a.c else la) := by split <;> omega
    have hmx3 : (if d.a.c > la then d.a.c else la) ≤ 1099511627776 := by split <;> omega
    have hmt : ∀ t ∈ S.take (y + 1), t.a.c ≤ (if d.a.c > la then d.a.c else la) := fun t ht => by
      rw [hst1] at ht
      rcases List.mem_append.1 ht with h1 | h1
      · exact Int.le_trans (g4 t h1) hmx1
      · rw [List.mem_singleton] at h1
        rw [h1]; exact hmx2
    cases th
    · cases h20 : decide (d.a.r = 20)
      · cases h21 : decide (d.a.r = 21)
        · simp -implicitDefEqProofs only [go_sem, Nat.reduceBEq, Nat.reduceAdd, eq_self, true_and, and_true, and_self, List.getElem?_cons_zero, List.getElem?_cons_succ, Nat.reduceLeDiff, Nat.zero_add, Nat.reduceSub, Nat.le_refl, hget, slC, h20, h21, hwy]
          refine ⟨⟨by omega, hib, k2⟩, k1, ⟨by omega, hib, k2⟩, k1, ⟨by omega, hib, k2⟩, k1, ?_⟩
          refine z1 (y + 1, _, false) _ _ (.inr ?_) (by simp only; omega) ⟨by simp only; omega, rfl, Int.le_trans g2 hmx1, hmx3, hmt, fun _ t ht => ?_⟩
          · simp -implicitDefEqProofs only [go_sem, Nat.reduceBEq, Nat.reduceAdd, eq_self, true_and, and_true, and_self, List.getElem?_cons_zero, List.getElem?_cons_succ, Nat.reduceLeDiff, Nat.zero_add, Nat.reduceSub, Nat.le_refl, Nat.lt_irrefl]
            try exact rfl
          · simp only [hst1] at ht
            rcases List.mem_append.1 ht with h1 | h1
            · exact g5 rfl t h1
            · rw [List.mem_singleton] at h1
              rw [h1]; exact ⟨of_decide_eq_false h20, of_decide_eq_false h21⟩
        · simp -implicitDefEqProofs only [go_sem, Nat.reduceBEq, Nat.reduceAdd, eq_self, true_and, and_true, and_self, List.getElem?_cons_zero, List.getElem?_cons_succ, Nat.reduceLeDiff, Nat.zero_add, Nat.reduceSub, Nat.le_refl, hget, slC, h20, h21, hwy]
          refine ⟨⟨by omega, hib, k2⟩, k1, ⟨by omega, hib, k2⟩, k1, ⟨by omega, hib, k2⟩, k1, ?_⟩
          refine z1 (y + 1, _, true) _ _ (.inr ?_) (by simp only; omega) ⟨by simp only; omega, rfl, Int.le_trans g2 hmx1, hmx3, hmt, fun h => by cases h⟩
          simp -implicitDefEqProofs only [go_sem, Nat.reduceBEq, Nat.reduceAdd, eq_self, true_and, and_true, and_self, List.getElem?_cons_zero, List.getElem?_cons_succ, Nat.reduceLeDiff, Nat.zero_add, Nat.reduceSub, Nat.le_refl, Nat.lt_irrefl]
          try exact rfl
      · simp -implicitDefEqProofs only [go_sem, Nat.reduceBEq, Nat.reduceAdd, eq_self, true_and, and_true, and_self, List.getElem?_cons_zero, List.getElem?_cons_succ, Nat.reduceLeDiff, Nat.zero_add, Nat.reduceSub, Nat.le_refl, hget, slC, h20, hwy]
        refine ⟨⟨by omega, hib, k2⟩, k1, ⟨by omega, hib, k2⟩, k1, ?_⟩
        refine z1 (y + 1, _, true) _ _ (.inr ?_) (by simp only; omega) ⟨by simp only; omega, rfl, Int.le_trans g2 hmx1, hmx3, hmt, fun h => by cases h⟩
        simp -implicitDefEqProofs only [go_sem, Nat.reduceBEq, Nat.reduceAdd, eq_self, true_and, and_true, and_self, List.getElem?_cons_zero, List.getElem?_cons_succ, Nat.reduceLeDiff, Nat.zero_add, Nat.reduceSub, Nat.le_refl, Nat.lt_irrefl]
        try exact rfl
    · simp -implicitDefEqProofs only [go_sem, Nat.reduceBEq, Nat.reduceAdd, eq_self, true_and, and_true, and_self, List.getElem?_cons_zero, List.getElem?_cons_succ, Nat.reduceLeDiff, Nat.zero_add, Nat.reduceSub, Nat.le_refl, hget, slC, hwy]
      refine ⟨⟨by omega, hib, k2⟩, k1, ?_⟩
      refine z1 (y + 1, _, true) _ _ (.inr ?_) (by simp only; omega) ⟨by simp only; omega, rfl, Int.le_trans g2 hmx1, hmx3, hmt, fun h => by cases h⟩
      simp -implicitDefEqProofs only [go_sem, Nat.reduceBEq, Nat.reduceAdd, eq_self, true_and, and_true, and_self, List.getElem?_cons_zero, List.getElem?_cons_succ, Nat.reduceLeDiff, Nat.zero_add, Nat.reduceSub, Nat.le_refl, Nat.lt_irrefl]
      try exact rfl
  have hny : ¬ y < S.length := by simpa [hA] using hcc
  rw [List.take_of_length_le (by omega)] at g4 g5
  simp -implicitDefEqProofs only [go_sem, Nat.reduceBEq, Nat.reduceAdd, eq_self, true_and, and_true, and_self, List.getElem?_cons_zero, List.getElem?_cons_succ, Nat.reduceLeDiff, Nat.zero_add, Nat.reduceSub, Nat.le_refl, Nat.lt_irrefl]
  refine z2 _ _ _ ?_
  cases hbig : decide (la > 1099511627576)
  case true =>
    simp -implicitDefEqProofs only [go_sem, Nat.reduceBEq, Nat.reduceAdd, eq_self, true_and, and_true, and_self, List.getElem?_cons_zero, List.getElem?_cons_succ, Nat.reduceLeDiff, Nat.zero_add, Nat.reduceSub, Nat.le_refl, hbig]
    refine call_at awake_ok ?_
    rintro _ t6 ⟨rfl, e6⟩
    refine ⟨kept_none, ?_⟩
    simp -implicitDefEqProofs only [go_sem, Nat.reduceBEq, Nat.reduceAdd, eq_self, true_and, and_true, and_self, List.getElem?_cons_zero, List.getElem?_cons_succ, Nat.reduceLeDiff, Nat.zero_add, Nat.reduceSub, Nat.le_refl, Nat.lt_irrefl]
    refine q2 _ _ ?_
    simp -implicitDefEqProofs only [go_sem, Nat.reduceBEq, Nat.reduceAdd, eq_self, true_and, and_true, and_self, List.getElem?_cons_zero, List.getElem?_cons_succ, Nat.reduceLeDiff, Nat.zero_add, Nat.reduceSub, Nat.le_refl, Nat.lt_irrefl]
  cases th
  case true =>
    simp -implicitDefEqProofs only [go_sem, Nat.reduceBEq, Nat.reduceAdd, eq_self, true_and, and_true, and_self, List.getElem?_cons_zero, List.getElem?_cons_succ, Nat.reduceLeDiff, Nat.zero_add, Nat.reduceSub, Nat.le_refl, hbig]
    refine call_at awake_ok ?_
    rintro _ t6 ⟨rfl, e6⟩
    refine ⟨kept_none, ?_⟩
    simp -implicitDefEqProofs only [go_sem, Nat.reduceBEq, Nat.reduceAdd, eq_self, true_and, and_true, and_self, List.getElem?_cons_zero, List.getElem?_cons_succ, Nat.reduceLeDiff, Nat.zero_add, Nat.reduceSub, Nat.le_refl, Nat.lt_irrefl]
    refine q2 _ _ ?_
    simp -implicitDefEqProofs only [go_sem, Nat.reduceBEq, Nat.reduceAdd, eq_self, true_and, and_true, and_self, List.getElem?_cons_zero, List.getElem?_cons_succ, Nat.reduceLeDiff, Nat.zero_add, Nat.reduceSub, Nat.le_refl, Nat.lt_irrefl]
  have g5 := g5 rfl
  have hbig := of_decide_eq_false hbig
  have hfrc : fr.c ≤ la := by
    rcases hfr with rfl | ⟨t, ht, rfl⟩
    · exact g2
    · exact g4 t ht
  clear z1 z2 z3 g1 hcc hny
  have hbg : decide (la > 1099511627576) = false := decide_eq_false hbig
  simp -implicitDefEqProofs only [go_sem, Nat.reduceBEq, Nat.reduceAdd, eq_self, true_and, and_true, and_self, List.getElem?_cons_zero, List.getElem?_cons_succ, Nat.reduceLeDiff, Nat.zero_add, Nat.reduceSub, Nat.le_refl, hbg, spC]
  obtain ⟨ia, hia, eia⟩ := idx_c ta 50 (by omega) (by omega)
  obtain ⟨ib, hib, eib⟩ := idx_c tb 50 (by omega) (by omega)
  have e50 : ((50 : Nat) : Int) = 50 := rfl
  rw [e50] at eia eib
  have hc1 : ∃ c1 : Int, c1 = la + 1 + ia := ⟨_, rfl⟩
  obtain ⟨c1, hc1⟩ := hc1
  have hc2 : ∃ c2 : Int, c2 = la + 1 + ib := ⟨_, rfl⟩
  obtain ⟨c2, hc2⟩ := hc2
  refine loop_at (fun (y : Nat × Nat) => ⟨[(2, .v (.sl ub uR uz (intsV .i64 os))), (4, .loc 4 0), (7, .v (.ptr (some (i, 0)))), (9, .v (.int .i64 n)), (10, .v (.int .i64 m)), (11, .loc 11 0), (12, .v (.int .i64 la)), (16, .v (.sl false (.own (τ0.live ++ [true]).length) 4 [])), (15, .v (.sl false (.own y.2) 4 (slsV (chn c1 20 fr y.1)))), (17, .loc 17 0), (18, .v (.int .i64 y.1))], [(4, [.int .i64 tn, .int .i64 tm, .int .i64 ta, .int .i64 tb, .bool tf]), (11, spC fr), (17, spC (prevS c1 20 fr y.1))]⟩)
    (fun y t => y.1 ≤ n ∧ Ext τ0 t ∧ t.live[y.2]? = some true ∧ t.live[(τ0.live ++ [true]).length]? = some true ∧ y.2 ≠ (τ0.live ++ [true]).length ∧ τ0.live.length ≤ y.2) (fun y => n - y.1) (0, τ0.live.length) ?_ ?_ ?_
  · refine .inr ?_
    simp -implicitDefEqProofs only [go_sem, Nat.reduceBEq, Nat.reduceAdd, eq_self, true_and, and_true, and_self, List.getElem?_cons_zero, List.getElem?_cons_succ, Nat.reduceLeDiff, Nat.zero_add, Nat.reduceSub, Nat.le_refl, spC]
    first | exact ⟨⟨rfl, rfl⟩, rfl⟩ | exact ⟨rfl, rfl⟩ | exact rfl
  · exact ⟨Nat.zero_le _, ext_push (ext_push (.refl _)), (by show ((τ0.live ++ [true]) ++ [true])[τ0.live.length]? = some true; simp), (by show ((τ0.live ++ [true]) ++ [true])[(τ0.live ++ [true]).length]? = some true; simp), by simp, Nat.le_refl _⟩
  rintro ⟨y, q15⟩ t1 ⟨f1, f2, f3, f4, f5, f6⟩ Y y1 y2 y3
  simp only at f1 f3 f5 f6
  simp -implicitDefEqProofs only [go_sem, Nat.reduceBEq, Nat.reduceAdd, eq_self, true_and, and_true, and_self, List.getElem?_cons_zero, List.getElem?_cons_succ, Nat.reduceLeDiff, Nat.zero_add, Nat.reduceSub, Nat.le_refl, Nat.lt_irrefl]
  refine CondW_b (fun hcc => ?_) (fun hcc => ?_)
  · have hi : y < n := by simpa using hcc
    have hwy : IntKind.i64.wrap ((y : Int) + 1) = ((y + 1 : Nat) : Int) := by rw [i64_in _ (by omega)]; omega
    have w1 : IntKind.i64.wrap (la + 1) = la + 1 := i64_in _ (by omega)
    have w2 : IntKind.i64.wrap (la + 1 + ia) = la + 1 + ia := i64_in _ (by omega)
    have w3 : IntKind.i64.wrap (la + 1 + ia + (y : Int)) = c1 + y := by rw [i64_in _ (by omega)]; omega
    have hsl : slsV (chn c1 20 fr (y + 1)) = slsV (chn c1 20 fr y) ++ [slC (chE c1 20 fr y)] := by rw [chn_succ]; simp [slsV]
    have hcl := chn_len c1 20 fr y
    have hpv : prevS c1 20 fr (y + 1) = ⟨c1 + y, 20⟩ := rfl
    have hsc : slC (chE c1 20 fr y) = [.int .i64 (c1 + y), .int .i64 20, .int .i64 (prevS c1 20 fr y).c, .int .i64 (prevS c1 20 fr y).r] := rfl
    simp -implicitDefEqProofs only [go_sem, Nat.reduceBEq, Nat.reduceAdd, eq_self, true_and, and_true, and_self, List.getElem?_cons_zero, List.getElem?_cons_succ, Nat.reduceLeDiff, Nat.zero_add, Nat.reduceSub, Nat.le_refl, eia, w1, w2, w3, spC]
    refine ⟨by decide, ?_⟩
    refine ⟨⟨.inr trivial, .inr ((ext_live _ _).live _ f3), ⟨.inr (live_last _ _), .inl trivial⟩, by rw [slsV_length, hcl]; omega⟩, ?_⟩
    refine y1 (y + 1, (t1.live ++ [true]).length) _ _ (.inr ?_) (by simp only; omega) ⟨by simp only; omega, ext_kill (ext_push f2) f6, live_last' _ _ _, set_ne_live f5 ((ext_live _ _).live _ f4) _, ?_, ?_⟩
    · simp -implicitDefEqProofs only [go_sem, Nat.reduceBEq, Nat.reduceAdd, eq_self, true_and, and_true, and_self, List.getElem?_cons_zero, List.getElem?_cons_succ, Nat.reduceLeDiff, Nat.zero_add, Nat.reduceSub, Nat.le_refl, hwy]
      exact ⟨by rw [hsl, hsc], rfl, rfl⟩
    · have := (List.getElem?_eq_some_iff.1 f4).1
      simp only [List.length_append, List.length_cons, List.length_nil] at this ⊢
      omega
    · have := f2.llen
      simp only [List.length_append, List.length_cons, List.length_nil]; omega
  have hny : ¬ y < n := by simpa using hcc
  have hyn : n = y := by omega
  subst hyn
  simp -implicitDefEqProofs only [go_sem, Nat.reduceBEq, Nat.reduceAdd, eq_self, true_and, and_true, and_self, List.getElem?_cons_zero, List.getElem?_cons_succ, Nat.reduceLeDiff, Nat.zero_add, Nat.reduceSub, Nat.le_refl, Nat.lt_irrefl]
  refine y2 _ _ _ ?_
  simp -implicitDefEqProofs only [go_sem, Nat.reduceBEq, Nat.reduceAdd, eq_self, true_and, and_true, and_self, List.getElem?_cons_zero, List.getElem?_cons_succ, Nat.reduceLeDiff, Nat.zero_add, Nat.reduceSub, Nat.le_refl, spC]
  have hq16 : τ0.live.length ≤ (τ0.live ++ [true]).length := by simp
  generalize (τ0.live ++ [true]).length = q16 at *
  clear y1 y2 y3 hcc hny f1
  have f2a := f2
  have f3a := f3
  have f4a := f4
  have f5a := f5
  have f6a := f6
  clear f2 f3 f4 f5 f6
  refine loop_at (fun (y : Nat × Nat) => ⟨[(2, .v (.sl ub uR uz (intsV .i64 os))), (4, .loc 4 0), (7, .v (.ptr (some (i, 0)))), (9, .v (.int .i64 n)), (10, .v (.int .i64 m)), (11, .loc 11 0), (12, .v (.int .i64 la)), (15, .v (.sl false (.own q15) 4 (slsV (chn c1 20 fr n)))), (16, .v (.sl false (.own y.2) 4 (slsV (chn c2 21 fr y.1)))), (17, .loc 17 0), (20, .v (.int .i64 y.1))], [(4, [.int .i64 tn, .int .i64 tm, .int .i64 ta, .int .i64 tb, .bool tf]), (11, spC fr), (17, spC (prevS c2 21 fr y.1))]⟩)
    (fun y t => y.1 ≤ m ∧ Ext τ0 t ∧ t.live[y.2]? = some true ∧ t.live[q15]? = some true ∧ y.2 ≠ q15 ∧ τ0.live.length ≤ y.2) (fun y => m - y.1) (0, q16) ?_ ?_ ?_
  · refine .inr ?_
    simp -implicitDefEqProofs only [go_sem, Nat.reduceBEq, Nat.reduceAdd, eq_self, true_and, and_true, and_self, List.getElem?_cons_zero, List.getElem?_cons_succ, Nat.reduceLeDiff, Nat.zero_add, Nat.reduceSub, Nat.le_refl, spC]
    first | exact ⟨⟨rfl, rfl⟩, rfl⟩ | exact ⟨rfl, rfl⟩ | exact rfl
  · exact ⟨Nat.zero_le _, f2a, f4a, f3a, f5a.symm, hq16⟩
  rintro ⟨y, qb⟩ t2 ⟨f1, f2, f3, f4, f5, f6⟩ Y y1 y2 y3
  simp only at f1 f3 f5 f6
  simp -implicitDefEqProofs only [go_sem, Nat.reduceBEq, Nat.reduceAdd, eq_self, true_and, and_true, and_self, List.getElem?_cons_zero, List.getElem?_cons_succ, Nat.reduceLeDiff, Nat.zero_add, Nat.reduceSub, Nat.le_refl, Nat.lt_irrefl]
  refine CondW_b (fun hcc => ?_) (fun hcc => ?_)
  · have hi : y < m := by simpa using hcc
    have hwy : IntKind.i64.wrap ((y : Int) + 1) = ((y + 1 : Nat) : Int) := by rw [i64_in _ (by omega)]; omega
    have w1 : IntKind.i64.wrap (la + 1) = la + 1 := i64_in _ (by omega)
    have w2 : IntKind.i64.wrap (la + 1 + ib) = la + 1 + ib := i64_in _ (by omega)
    have w3 : IntKind.i64.wrap (la + 1 + ib + (y : Int)) = c2 + y := by rw [i64_in _ (by omega)]; omega
    have hsl : slsV (chn c2 21 fr (y + 1)) = slsV (chn c2 21 fr y) ++ [slC (chE c2 21 fr y)] := by rw [chn_succ]; simp [slsV]
    have hcl := chn_len c2 21 fr y
    have hpv : prevS c2 21 fr (y + 1) = ⟨c2 + y, 21⟩ := rfl
    have hsc : slC (chE c2 21 fr y) = [.int .i64 (c2 + y), .int .i64 21, .int .i64 (prevS c2 21 fr y).c, .int .i64 (prevS c2 21 fr y).r] := rfl
    simp -implicitDefEqProofs only [go_sem, Nat.reduceBEq, Nat.reduceAdd, eq_self, true_and, and_true, and_self, List.getElem?_cons_zero, List.getElem?_cons_succ, Nat.reduceLeDiff, Nat.zero_add, Nat.reduceSub, Nat.le_refl, eib, w1, w2, w3, spC]
    refine ⟨by decide, ?_⟩
    refine ⟨⟨.inr trivial, .inr ((ext_live _ _).live _ f3), ⟨.inr (live_last _ _), .inl trivial⟩, by rw [slsV_length, hcl]; omega⟩, ?_⟩
    refine y1 (y + 1, (t2.live ++ [true]).length) _ _ (.inr ?_) (by simp only; omega) ⟨by simp only; omega, ext_kill (ext_push f2) f6, live_last' _ _ _, set_ne_live f5 ((ext_live _ _).live _ f4) _, ?_, ?_⟩
    · simp -implicitDefEqProofs only [go_sem, Nat.reduceBEq, Nat.reduceAdd, eq_self, true_and, and_true, and_self, List.getElem?_cons_zero, List.getElem?_cons_succ, Nat.reduceLeDiff, Nat.zero_add, Nat.reduceSub, Nat.le_refl, hwy]
      exact ⟨by rw [hsl, hsc], rfl, rfl⟩
    · have := (List.getElem?_eq_some_iff.1 f4).1
      simp only [List.length_append, List.length_cons, List.length_nil] at this ⊢
      omega
    · have := f2.llen
      simp only [List.length_append, List.length_cons, List.length_nil]; omega
  have hny : ¬ y < m := by simpa using hcc
  have hyn : m = y := by omega
  subst hyn
  simp -implicitDefEqProofs only [go_sem, Nat.reduceBEq, Nat.reduceAdd, eq_self, true_and, and_true, and_self, List.getElem?_cons_zero, List.getElem?_cons_succ, Nat.reduceLeDiff, Nat.zero_add, Nat.reduceSub, Nat.le_refl, Nat.lt_irrefl]
  refine y2 _ _ _ ?_
  simp -implicitDefEqProofs only [go_sem, Nat.reduceBEq, Nat.reduceAdd, eq_self, true_and, and_true, and_self, List.getElem?_cons_zero, List.getElem?_cons_succ, Nat.reduceLeDiff, Nat.zero_add, Nat.reduceSub, Nat.le_refl, spC]
  clear y1 y2 y3 hcc hny f1
  have hTw : Two S S fr la c1 20 c2 21 0 0 := ⟨h.fine, fun t => by simp, fun t ht => ⟨g4 t ht, g5 t ht⟩, by omega, by omega, g2, by decide, hfrc⟩
  have hfr' : fr = zs ∨ right fr = true := hfr.imp_right fun ⟨t, ht, e⟩ => e ▸ okS_right (hok t ht)
  have hok1 : ∀ a, a < n → okS (chE c1 20 fr a) = true := fun a ha => okS_ch hfr' (by omega) (by omega) (by omega) (by omega)
  have hok2 : ∀ a, a < m → okS (chE c2 21 fr a) = true := fun a ha => okS_ch hfr' (by omega) (by omega) (by omega) (by omega)
  have hn1 := chn_len c1 20 fr n
  have hn2 := chn_len c2 21 fr m
  have hd1 : ∀ a, a < n → (chn c1 20 fr n).drop a = chE c1 20 fr a :: (chn c1 20 fr n).drop (a + 1) := fun a ha => by
    rw [List.drop_eq_getElem_cons (by omega), chn_get]
  have hd2 : ∀ a, a < m → (chn c2 21 fr m).drop a = chE c2 21 fr a :: (chn c2 21 fr m).drop (a + 1) := fun a ha => by
    rw [List.drop_eq_getElem_cons (by omega), chn_get]
  have hu2 := hu0.ext f2
  have hr2 := h.ext f2
  have r15 : RdS t2 (.sl false (.own q15) 4 (slsV (chn c1 20 fr n))) 4 (slsV ((chn c1 20 fr n).drop 0)) := ⟨_, _, _, rfl, by simp, .inr ⟨f4, rfl⟩⟩
  have r16 : RdS t2 (.sl false (.own qb) 4 (slsV (chn c2 21 fr m))) 4 (slsV ((chn c2 21 fr m).drop 0)) := ⟨_, _, _, rfl, by simp, .inr ⟨f3, rfl⟩⟩
  refine loop_at (fun (y : Nat × Nat × V × V) => ⟨[(2, .v (.sl ub uR uz (intsV .i64 os))), (7, .v (.ptr (some (i, 0)))), (9, .v (.int .i64 n)), (10, .v (.int .i64 m)), (15, .v y.2.2.1), (16, .v y.2.2.2), (22, .v (.int .i64 ((y.1 + y.2.1 : Nat) : Int)))], []⟩)
    (fun y t => y.1 ≤ n ∧ y.2.1 ≤ m ∧ RdS t y.2.2.1 4 (slsV ((chn c1 20 fr n).drop y.1)) ∧ RdS t y.2.2.2 4 (slsV ((chn c2 21 fr m).drop y.2.1)) ∧ RdS t (.sl ub uR uz (intsV .i64 os)) 1 (intsV .i64 os) ∧
      ∃ s O D, RowIs t i u' k s O D ∧ D.length = S.length + y.1 + y.2.1 ∧ Two S D fr la c1 20 c2 21 y.1 y.2.1) (fun y => n + m - y.1 - y.2.1) (0, 0, .sl false (.own q15) 4 (slsV (chn c1 20 fr n)), .sl false (.own qb) 4 (slsV (chn c2 21 fr m))) ?_ ?_ ?_
  · refine .inr ?_
    simp -implicitDefEqProofs only [go_sem, Nat.reduceBEq, Nat.reduceAdd, eq_self, true_and, and_true, and_self, List.getElem?_cons_zero, List.getElem?_cons_succ, Nat.reduceLeDiff, Nat.zero_add, Nat.reduceSub, Nat.le_refl, Nat.lt_irrefl]
    try exact rfl
  · exact ⟨Nat.zero_le _, Nat.zero_le _, r15, r16, hu2, s, O, S, hr2, by simp, hTw⟩
  clear r15 r16 hr2 hu2 hTw f2 f3 f4 f5 f6 f2a f3a f4a f5a f6a hu0 h hw
  rintro ⟨x1, x2, w1, w2⟩ t ⟨j1, j2, j3, j4, j5, s, O, D, j6, j7, j8⟩ Y y1 y2 y3
  simp only at j1 j2 j3 j4 j7 j8
  obtain ⟨ba, Ra, za, rfl, -, -⟩ := id j3
  obtain ⟨bb, Rb, zb, rfl, -, -⟩ := id j4
  have hl1 : (slsV ((chn c1 20 fr n).drop x1)).length = n - x1 := by rw [slsV_length, List.length_drop, hn1]
  have hl2 : (slsV ((chn c2 21 fr m).drop x2)).length = m - x2 := by rw [slsV_length, List.length_drop, hn2]
  have hws : IntKind.i64.wrap (((n - x1 : Nat) : Int) + ((m - x2 : Nat) : Int)) = ((n - x1 + (m - x2) : Nat) : Int) := by rw [i64_in _ (by omega)]; omega
  have hwt : IntKind.i64.wrap (((x1 + x2 : Nat) : Int) + 1) = ((x1 + x2 + 1 : Nat) : Int) := by rw [i64_in _ (by omega)]; omega
  simp -implicitDefEqProofs only [go_sem, Nat.reduceBEq, Nat.reduceAdd, eq_self, true_and, and_true, and_self, List.getElem?_cons_zero, List.getElem?_cons_succ, Nat.reduceLeDiff, Nat.zero_add, Nat.reduceSub, Nat.le_refl, hl1, hl2, hws]
  refine CondW_b (fun hcc => ?_) (fun hcc => ?_)
  · have hc0 : 0 < n - x1 + (m - x2) := by have := of_decide_eq_true hcc; omega
    refine cut_dup ?_
    simp -implicitDefEqProofs only [go_sem, Nat.reduceBEq, Nat.reduceAdd, eq_self, true_and, and_true, and_self, List.getElem?_cons_zero, List.getElem?_cons_succ, Nat.reduceLeDiff, Nat.zero_add, Nat.reduceSub, Nat.le_refl, hl1, hl2]
    rcases Nat.eq_zero_or_pos (m - x2) with hm0 | hm0
    · have hx1 : x1 < n := by omega
      have b1 : decide (((m - x2 : Nat) : Int) = 0) = true := by rw [decide_eq_true_eq]; omega
      have hdd := hd1 x1 hx1
      obtain ⟨k1, k2⟩ := rdl j3 (by rw [hdd]; simp [slsV])
      have hg : (slsV ((chn c1 20 fr n).drop x1))[0]?.getD [] = [.int .i64 (c1 + x1), .int .i64 20, .int .i64 (prevS c1 20 fr x1).c, .int .i64 (prevS c1 20 fr x1).r] := by rw [hdd]; rfl
      have ht0 : (0 : Int).toNat = 0 := rfl
      have ht1 : (1 : Int).toNat = 1 := rfl
      simp -implicitDefEqProofs only [go_sem, Nat.reduceBEq, Nat.reduceAdd, eq_self, true_and, and_true, and_self, List.getElem?_cons_zero, List.getElem?_cons_succ, Nat.reduceLeDiff, Nat.zero_add, Nat.reduceSub, Nat.le_refl, b1, ht0, hg]
      refine ⟨⟨by omega, by omega, k2⟩, k1, ⟨by omega, by omega, k2⟩, k1, ?_⟩
      obtain ⟨hh, hT⟩ := j8.add (hok1 x1 hx1)
      refine call_at (add_ok (a := (chE c1 20 fr x1).a) (b := (chE c1 20 fr x1).u) j6 (by omega)) ?_
      rintro _ t3 ⟨rfl, s2, O2, n1, n2⟩
      refine ⟨kept_upd n2.upd, ?_⟩
      have hdx : (⟨(chE c1 20 fr x1).a, (chE c1 20 fr x1).u⟩ : Sl) = chE c1 20 fr x1 := rfl
      have hE0 : decide (addE D (chE c1 20 fr x1) = 0) = true := by unfold addE; rw [hok1 x1 hx1, hh]; rfl
      have hW : addW D (chE c1 20 fr x1) = D ++ [chE c1 20 fr x1] := by unfold addW; rw [hok1 x1 hx1, hh]; rfl
      rw [hdx, hW] at n1
      have j3' := rdS_up j3 n2.upd
      have j4' := rdS_up j4 n2.upd
      have j5' := rdS_up j5 n2.upd
      have hdl : List.drop (1 : Int).toNat (List.take (slsV ((chn c1 20 fr n).drop x1)).length (slsV ((chn c1 20 fr n).drop x1))) = slsV ((chn c1 20 fr n).drop (x1 + 1)) := by
        rw [List.take_length, hdd]; rfl
      simp -implicitDefEqProofs only [go_sem, Nat.reduceBEq, Nat.reduceAdd, eq_self, true_and, and_true, and_self, List.getElem?_cons_zero, List.getElem?_cons_succ, Nat.reduceLeDiff, Nat.zero_add, Nat.reduceSub, Nat.le_refl, hdx, hE0, Bool.not_true, hl1, hwt]
      rw [hl1] at hdl
      rw [hdl]
      refine ⟨⟨.inr k2, by omega, by omega⟩, ?_⟩
      refine y1 (x1 + 1, x2, .sl ba Ra.toView za (slsV ((chn c1 20 fr n).drop (x1 + 1))), .sl bb Rb zb (slsV ((chn c2 21 fr m).drop x2))) _ _ (.inr ?_) (by simp only; omega) ⟨by simp only; omega, j2, ?_, j4', j5', s2, O2, _, n1, by rw [List.length_append, List.length_singleton]; simp only; omega, hT⟩
      · simp -implicitDefEqProofs only [go_sem, Nat.reduceBEq, Nat.reduceAdd, eq_self, true_and, and_true, and_self, List.getElem?_cons_zero, List.getElem?_cons_succ, Nat.reduceLeDiff, Nat.zero_add, Nat.reduceSub, Nat.le_refl, hwt]
        first | rfl | (rw [show x1 + 1 + x2 = x1 + x2 + 1 by omega])
      · obtain ⟨k1', k2'⟩ := rdl j3' (by rw [hdd]; simp [slsV])
        exact ⟨_, _, _, rfl, fun hb => by have := j3'; obtain ⟨_, _, _, e, h3, _⟩ := this; cases e; have := h3 hb; rw [hdd] at this; simp [slsV] at this, .inr ⟨rd_toView k1', k2'⟩⟩
    have hx2 : x2 < m := by omega
    have b1 : decide (((m - x2 : Nat) : Int) = 0) = false := by rw [decide_eq_false_iff_not]; omega
    rcases Nat.eq_zero_or_pos (n - x1) with hn0 | hn0
    · have b2 : decide (((n - x1 : Nat) : Int) > 0) = false := by rw [decide_eq_false_iff_not]; omega
      have hdd := hd2 x2 hx2
      obtain ⟨k1, k2⟩ := rdl j4 (by rw [hdd]; simp [slsV])
      have hg : (slsV ((chn c2 21 fr m).drop x2))[0]?.getD [] = [.int .i64 (c2 + x2), .int .i64 21, .int .i64 (prevS c2 21 fr x2).c, .int .i64 (prevS c2 21 fr x2).r] := by rw [hdd]; rfl
      have ht0 : (0 : Int).toNat = 0 := rfl
      have ht1 : (1 : Int).toNat = 1 := rfl
      simp -implicitDefEqProofs only [go_sem, Nat.reduceBEq, Nat.reduceAdd, eq_self, true_and, and_true, and_self, List.getElem?_cons_zero, List.getElem?_cons_succ, Nat.reduceLeDiff, Nat.zero_add, Nat.reduceSub, Nat.le_refl, b1, hl1, b2, ht0, hg]
      refine ⟨⟨by omega, by omega, k2⟩, k1, ⟨by omega, by omega, k2⟩, k1, ?_⟩
      obtain ⟨hh, hT⟩ := j8.symm.add (hok2 x2 hx2)
      refine call_at (add_ok (a := (chE c2 21 fr x2).a) (b := (chE c2 21 fr x2).u) j6 (by omega)) ?_
      rintro _ t3 ⟨rfl, s2, O2, n1, n2⟩
      refine ⟨kept_upd n2.upd, ?_⟩
      have hdx : (⟨(chE c2 21 fr x2).a, (chE c2 21 fr x2).u⟩ : Sl) = chE c2 21 fr x2 := rfl
      have hE0 : decide (addE D (chE c2 21 fr x2) = 0) = true := by unfold addE; rw [hok2 x2 hx2, hh]; rfl
      have hW : addW D (chE c2 21 fr x2) = D ++ [chE c2 21 fr x2] := by unfold addW; rw [hok2 x2 hx2, hh]; rfl
      rw [hdx, hW] at n1
      have j3' := rdS_up j3 n2.upd
      have j4' := rdS_up j4 n2.upd
      have j5' := rdS_up j5 n2.upd
      have hdl : List.drop (1 : Int).toNat (List.take (slsV ((chn c2 21 fr m).drop x2)).length (slsV ((chn c2 21 fr m).drop x2))) = slsV ((chn c2 21 fr m).drop (x2 + 1)) := by
        rw [List.take_length, hdd]; rfl
      simp -implicitDefEqProofs only [go_sem, Nat.reduceBEq, Nat.reduceAdd, eq_self, true_and, and_true, and_self, List.getElem?_cons_zero, List.getElem?_cons_succ, Nat.reduceLeDiff, Nat.zero_add, Nat.reduceSub, Nat.le_refl, hdx, hE0, Bool.not_true, hl2, hwt]
      rw [hl2] at hdl
      rw [hdl]
      refine ⟨⟨.inr k2, by omega, by omega⟩, ?_⟩
      refine y1 (x1, x2 + 1, .sl ba Ra za (slsV ((chn c1 20 fr n).drop x1)), .sl bb Rb.toView zb (slsV ((chn c2 21 fr m).drop (x2 + 1)))) _ _ (.inr ?_) (by simp only; omega) ⟨j1, by simp only; omega, j3', ?_, j5', s2, O2, _, n1, by rw [List.length_append, List.length_singleton]; simp only; omega, hT.symm⟩
      · simp -implicitDefEqProofs only [go_sem, Nat.reduceBEq, Nat.reduceAdd, eq_self, true_and, and_true, and_self, List.getElem?_cons_zero, List.getElem?_cons_succ, Nat.reduceLeDiff, Nat.zero_add, Nat.reduceSub, Nat.le_refl, hwt]
        first | rfl | (rw [show x1 + (x2 + 1) = x1 + x2 + 1 by omega])
      · obtain ⟨k1', k2'⟩ := rdl j4' (by rw [hdd]; simp [slsV])
        exact ⟨_, _, _, rfl, fun hb => by have := j4'; obtain ⟨_, _, _, e, h3, _⟩ := this; cases e; have := h3 hb; rw [hdd] at this; simp [slsV] at this, .inr ⟨rd_toView k1', k2'⟩⟩
    have hx1 : x1 < n := by omega
    have b2 : decide (((n - x1 : Nat) : Int) > 0) = true := by rw [decide_eq_true_eq]; omega
    by_cases hto : x1 + x2 < os.length
    rotate_left
    · have b3 : decide (((x1 + x2 : Nat) : Int) < (intsV .i64 os).length) = false := by rw [decide_eq_false_iff_not]; simp only [intsV, List.length_map]; omega
      have hdd := hd2 x2 hx2
      obtain ⟨k1, k2⟩ := rdl j4 (by rw [hdd]; simp [slsV])
      have hg : (slsV ((chn c2 21 fr m).drop x2))[0]?.getD [] = [.int .i64 (c2 + x2), .int .i64 21, .int .i64 (prevS c2 21 fr x2).c, .int .i64 (prevS c2 21 fr x2).r] := by rw [hdd]; rfl
      have ht0 : (0 : Int).toNat = 0 := rfl
      have ht1 : (1 : Int).toNat = 1 := rfl
      simp -implicitDefEqProofs only [go_sem, Nat.reduceBEq, Nat.reduceAdd, eq_self, true_and, and_true, and_self, List.getElem?_cons_zero, List.getElem?_cons_succ, Nat.reduceLeDiff, Nat.zero_add, Nat.reduceSub, Nat.le_refl, b1, hl1, b2, b3, ht0, hg]
      refine ⟨⟨by omega, by omega, k2⟩, k1, ⟨by omega, by omega, k2⟩, k1, ?_⟩
      obtain ⟨hh, hT⟩ := j8.symm.add (hok2 x2 hx2)
      refine call_at (add_ok (a := (chE c2 21 fr x2).a) (b := (chE c2 21 fr x2).u) j6 (by omega)) ?_
      rintro _ t3 ⟨rfl, s2, O2, n1, n2⟩
      refine ⟨kept_upd n2.upd, ?_⟩
      have hdx : (⟨(chE c2 21 fr x2).a, (chE c2 21 fr x2).u⟩ : Sl) = chE c2 21 fr x2 := rfl
      have hE0 : decide (addE D (chE c2 21 fr x2) = 0) = true := by unfold addE; rw [hok2 x2 hx2, hh]; rfl
      have hW : addW D (chE c2 21 fr x2) = D ++ [chE c2 21 fr x2] := by unfold addW; rw [hok2 x2 hx2, hh]; rfl
      rw [hdx, hW] at n1
      have j3' := rdS_up j3 n2.upd
      have j4' := rdS_up j4 n2.upd
      have j5' := rdS_up j5 n2.upd
      have hdl : List.drop (1 : Int).toNat (List.take (slsV ((chn c2 21 fr m).drop x2)).length (slsV ((chn c2 21 fr m).drop x2))) = slsV ((chn c2 21 fr m).drop (x2 + 1)) := by
        rw [List.take_length, hdd]; rfl
      simp -implicitDefEqProofs only [go_sem, Nat.reduceBEq, Nat.reduceAdd, eq_self, true_and, and_true, and_self, List.getElem?_cons_zero, List.getElem?_cons_succ, Nat.reduceLeDiff, Nat.zero_add, Nat.reduceSub, Nat.le_refl, hdx, hE0, Bool.not_true, hl2, hwt]
      rw [hl2] at hdl
      rw [hdl]
      refine ⟨⟨.inr k2, by omega, by omega⟩, ?_⟩
      refine y1 (x1, x2 + 1, .sl ba Ra za (slsV ((chn c1 20 fr n).drop x1)), .sl bb Rb.toView zb (slsV ((chn c2 21 fr m).drop (x2 + 1)))) _ _ (.inr ?_) (by simp only; omega) ⟨j1, by simp only; omega, j3', ?_, j5', s2, O2, _, n1, by rw [List.length_append, List.length_singleton]; simp only; omega, hT.symm⟩
      · simp -implicitDefEqProofs only [go_sem, Nat.reduceBEq, Nat.reduceAdd, eq_self, true_and, and_true, and_self, List.getElem?_cons_zero, List.getElem?_cons_succ, Nat.reduceLeDiff, Nat.zero_add, Nat.reduceSub, Nat.le_refl, hwt]
        first | rfl | (rw [show x1 + (x2 + 1) = x1 + x2 + 1 by omega])
      · obtain ⟨k1', k2'⟩ := rdl j4' (by rw [hdd]; simp [slsV])
        exact ⟨_, _, _, rfl, fun hb => by have := j4'; obtain ⟨_, _, _, e, h3, _⟩ := this; cases e; have := h3 hb; rw [hdd] at this; simp [slsV] at this, .inr ⟨rd_toView k1', k2'⟩⟩
    have b3 : decide (((x1 + x2 : Nat) : Int) < (intsV .i64 os).length) = true := by rw [decide_eq_true_eq]; simp only [intsV, List.length_map]; omega
    have hgo := intsV_get (k := .i64) hto
    have hibo : ((x1 + x2 : Nat) : Int) < (intsV .i64 os).length := by simp only [intsV, List.length_map]; omega
    obtain ⟨ko1, ko2⟩ := rdl j5 (by intro e; rw [e] at hibo; simp at hibo; omega)
    cases b4 : decide ((os[x1 + x2]).tmod 2 = 0)
    · -- yours
      have hdd := hd2 x2 hx2
      obtain ⟨k1, k2⟩ := rdl j4 (by rw [hdd]; simp [slsV])
      have hg : (slsV ((chn c2 21 fr m).drop x2))[0]?.getD [] = [.int .i64 (c2 + x2), .int .i64 21, .int .i64 (prevS c2 21 fr x2).c, .int .i64 (prevS c2 21 fr x2).r] := by rw [hdd]; rfl
      have ht0 : (0 : Int).toNat = 0 := rfl
      have ht1 : (1 : Int).toNat = 1 := rfl
      simp -implicitDefEqProofs only [go_sem, Nat.reduceBEq, Nat.reduceAdd, eq_self, true_and, and_true, and_self, List.getElem?_cons_zero, List.getElem?_cons_succ, Nat.reduceLeDiff, Nat.zero_add, Nat.reduceSub, Nat.le_refl, b1, hl1, b2, b3, hgo, b4, ht0, hg]
      refine ⟨⟨by omega, hibo, ko2⟩, ko1, by decide, ⟨by omega, by omega, k2⟩, k1, ⟨by omega, by omega, k2⟩, k1, ?_⟩
      obtain ⟨hh, hT⟩ := j8.symm.add (hok2 x2 hx2)
      refine call_at (add_ok (a := (chE c2 21 fr x2).a) (b := (chE c2 21 fr x2).u) j6 (by omega)) ?_
      rintro _ t3 ⟨rfl, s2, O2, n1, n2⟩
      refine ⟨kept_upd n2.upd, ?_⟩
      have hdx : (⟨(chE c2 21 fr x2).a, (chE c2 21 fr x2).u⟩ : Sl) = chE c2 21 fr x2 := rfl
      have hE0 : decide (addE D (chE c2 21 fr x2) = 0) = true := by unfold addE; rw [hok2 x2 hx2, hh]; rfl
      have hW : addW D (chE c2 21 fr x2) = D ++ [chE c2 21 fr x2] := by unfold addW; rw [hok2 x2 hx2, hh]; rfl
      rw [hdx, hW] at n1
      have j3' := rdS_up j3 n2.upd
      have j4' := rdS_up j4 n2.upd
      have j5' := rdS_up j5 n2.upd
      have hdl : List.drop (1 : Int).toNat (List.take (slsV ((chn c2 21 fr m).drop x2)).length (slsV ((chn c2 21 fr m).drop x2))) = slsV ((chn c2 21 fr m).drop (x2 + 1)) := by
        rw [List.take_length, hdd]; rfl
      simp -implicitDefEqProofs only [go_sem, Nat.reduceBEq, Nat.reduceAdd, eq_self, true_and, and_true, and_self, List.getElem?_cons_zero, List.getElem?_cons_succ, Nat.reduceLeDiff, Nat.zero_add, Nat.reduceSub, Nat.le_refl, hdx, hE0, Bool.not_true, hl2, hwt]
      rw [hl2] at hdl
      rw [hdl]
      refine ⟨⟨.inr k2, by omega, by omega⟩, ?_⟩
      refine y1 (x1, x2 + 1, .sl ba Ra za (slsV ((chn c1 20 fr n).drop x1)), .sl bb Rb.toView zb (slsV ((chn c2 21 fr m).drop (x2 + 1)))) _ _ (.inr ?_) (by simp only; omega) ⟨j1, by simp only; omega, j3', ?_, j5', s2, O2, _, n1, by rw [List.length_append, List.length_singleton]; simp only; omega, hT.symm⟩
      · simp -implicitDefEqProofs only [go_sem, Nat.reduceBEq, Nat.reduceAdd, eq_self, true_and, and_true, and_self, List.getElem?_cons_zero, List.getElem?_cons_succ, Nat.reduceLeDiff, Nat.zero_add, Nat.reduceSub, Nat.le_refl, hwt]
        first | rfl | (rw [show x1 + (x2 + 1) = x1 + x2 + 1 by omega])
      · obtain ⟨k1', k2'⟩ := rdl j4' (by rw [hdd]; simp [slsV])
        exact ⟨_, _, _, rfl, fun hb => by have := j4'; obtain ⟨_, _, _, e, h3, _⟩ := this; cases e; have := h3 hb; rw [hdd] at this; simp [slsV] at this, .inr ⟨rd_toView k1', k2'⟩⟩
    · -- mine
      have hdd := hd1 x1 hx1
      obtain ⟨k1, k2⟩ := rdl j3 (by rw [hdd]; simp [slsV])
      have hg : (slsV ((chn c1 20 fr n).drop x1))[0]?.getD [] = [.int .i64 (c1 + x1), .int .i64 20, .int .i64 (prevS c1 20 fr x1).c, .int .i64 (prevS c1 20 fr x1).r] := by rw [hdd]; rfl
      have ht0 : (0 : Int).toNat = 0 := rfl
      have ht1 : (1 : Int).toNat = 1 := rfl
      simp -implicitDefEqProofs only [go_sem, Nat.reduceBEq, Nat.reduceAdd, eq_self, true_and, and_true, and_self, List.getElem?_cons_zero, List.getElem?_cons_succ, Nat.reduceLeDiff, Nat.zero_add, Nat.reduceSub, Nat.le_refl, b1, hl1, b2, b3, hgo, b4, ht0, hg]
      refine ⟨⟨by omega, hibo, ko2⟩, ko1, by decide, ⟨by omega, by omega, k2⟩, k1, ⟨by omega, by omega, k2⟩, k1, ?_⟩
      obtain ⟨hh, hT⟩ := j8.add (hok1 x1 hx1)
      refine call_at (add_ok (a := (chE c1 20 fr x1).a) (b := (chE c1 20 fr x1).u) j6 (by omega)) ?_
      rintro _ t3 ⟨rfl, s2, O2, n1, n2⟩
      refine ⟨kept_upd n2.upd, ?_⟩
      have hdx : (⟨(chE c1 20 fr x1).a, (chE c1 20 fr x1).u⟩ : Sl) = chE c1 20 fr x1 := rfl
      have hE0 : decide (addE D (chE c1 20 fr x1) = 0) = true := by unfold addE; rw [hok1 x1 hx1, hh]; rfl
      have hW : addW D (chE c1 20 fr x1) = D ++ [chE c1 20 fr x1] := by unfold addW; rw [hok1 x1 hx1, hh]; rfl
      rw [hdx, hW] at n1
      have j3' := rdS_up j3 n2.upd
      have j4' := rdS_up j4 n2.upd
      have j5' := rdS_up j5 n2.upd
      have hdl : List.drop (1 : Int).toNat (List.take (slsV ((chn c1 20 fr n).drop x1)).length (slsV ((chn c1 20 fr n).drop x1))) = slsV ((chn c1 20 fr n).drop (x1 + 1)) := by
        rw [List.take_length, hdd]; rfl
      simp -implicitDefEqProofs only [go_sem, Nat.reduceBEq, Nat.reduceAdd, eq_self, true_and, and_true, and_self, List.getElem?_cons_zero, List.getElem?_cons_succ, Nat.reduceLeDiff, Nat.zero_add, Nat.reduceSub, Nat.le_refl, hdx, hE0, Bool.not_true, hl1, hwt]
      rw [hl1] at hdl
      rw [hdl]
      refine ⟨⟨.inr k2, by omega, by omega⟩, ?_⟩
      refine y1 (x1 + 1, x2, .sl ba Ra.toView za (slsV ((chn c1 20 fr n).drop (x1 + 1))), .sl bb Rb zb (slsV ((chn c2 21 fr m).drop x2))) _ _ (.inr ?_) (by simp only; omega) ⟨by simp only; omega, j2, ?_, j4', j5', s2, O2, _, n1, by rw [List.length_append, List.length_singleton]; simp only; omega, hT⟩
      · simp -implicitDefEqProofs only [go_sem, Nat.reduceBEq, Nat.reduceAdd, eq_self, true_and, and_true, and_self, List.getElem?_cons_zero, List.getElem?_cons_succ, Nat.reduceLeDiff, Nat.zero_add, Nat.reduceSub, Nat.le_refl, hwt]
        first | rfl | (rw [show x1 + 1 + x2 = x1 + x2 + 1 by omega])
      · obtain ⟨k1', k2'⟩ := rdl j3' (by rw [hdd]; simp [slsV])
        exact ⟨_, _, _, rfl, fun hb => by have := j3'; obtain ⟨_, _, _, e, h3, _⟩ := this; cases e; have := h3 hb; rw [hdd] at this; simp [slsV] at this, .inr ⟨rd_toView k1', k2'⟩⟩
  · have hc0 : ¬ 0 < n - x1 + (m - x2) := by have := of_decide_eq_false hcc; omega
    have e1 : n = x1 := by omega
    have e2 : m = x2 := by omega
    subst e1
    subst e2
    have hDok : ∀ y ∈ D, okS y = true := fun y hy => by
      rcases (j8.mem y).1 hy with h | ⟨a, ha, rfl⟩ | ⟨a, ha, rfl⟩
      · exact hok y h
      · exact hok1 a ha
      · exact hok2 a ha
    have hlO := j6.len
    have hsO : (stampsL O).length = O.length := by simp [stampsL]
    have hrng : ∀ y ∈ stampsL O, -1099511627776 ≤ y.c ∧ y.c ≤ 1099511627776 := fun y hy => by
      obtain ⟨t', ht', rfl⟩ := List.mem_map.1 hy
      have := okS_right (hDok t' ((j6.ord.mem t').1 ht'))
      simp only [right, Bool.and_eq_true, decide_eq_true_eq] at this
      omega
    obtain ⟨p1, p2⟩ := j8.row j6.ord
    obtain ⟨p3, p4⟩ := j8.symm.row j6.ord
    simp -implicitDefEqProofs only [go_sem, Nat.reduceBEq, Nat.reduceAdd, eq_self, true_and, and_true, and_self, List.getElem?_cons_zero, List.getElem?_cons_succ, Nat.reduceLeDiff, Nat.zero_add, Nat.reduceSub, Nat.le_refl, Nat.lt_irrefl]
    refine y2 _ _ _ ?_
    simp -implicitDefEqProofs only [go_sem, Nat.reduceBEq, Nat.reduceAdd, eq_self, true_and, and_true, and_self, List.getElem?_cons_zero, List.getElem?_cons_succ, Nat.reduceLeDiff, Nat.zero_add, Nat.reduceSub, Nat.le_refl, Nat.lt_irrefl]
    refine call_at (order_ok j6 (by omega)) ?_
    rintro w3 t3 ⟨a3, e3⟩
    refine ⟨kept_none, ?_⟩
    simp -implicitDefEqProofs only [go_sem, Nat.reduceBEq, Nat.reduceAdd, eq_self, true_and, and_true, and_self, List.getElem?_cons_zero, List.getElem?_cons_succ, Nat.reduceLeDiff, Nat.zero_add, Nat.reduceSub, Nat.le_refl, Nat.lt_irrefl]
    refine call_at (row_ok a3.rd (by omega) p1 hrng p2) ?_
    rintro _ t4 ⟨rfl, hτ⟩
    have hτ := hτ.symm
    subst hτ
    refine ⟨kept_none, ?_⟩
    simp -implicitDefEqProofs only [go_sem, Nat.reduceBEq, Nat.reduceAdd, eq_self, true_and, and_true, and_self, List.getElem?_cons_zero, List.getElem?_cons_succ, Nat.reduceLeDiff, Nat.zero_add, Nat.reduceSub, Nat.le_refl, Nat.lt_irrefl]
    refine call_at (order_ok (j6.ext e3) (by omega)) ?_
    rintro w4 t4 ⟨a4, e4⟩
    refine ⟨kept_none, ?_⟩
    simp -implicitDefEqProofs only [go_sem, Nat.reduceBEq, Nat.reduceAdd, eq_self, true_and, and_true, and_self, List.getElem?_cons_zero, List.getElem?_cons_succ, Nat.reduceLeDiff, Nat.zero_add, Nat.reduceSub, Nat.le_refl, Nat.lt_irrefl]
    refine call_at (row_ok a4.rd (by omega) p3 hrng p4) ?_
    rintro _ t5 ⟨rfl, hτ⟩
    have hτ := hτ.symm
    subst hτ
    refine ⟨kept_none, ?_⟩
    simp -implicitDefEqProofs only [go_sem, Nat.reduceBEq, Nat.reduceAdd, eq_self, true_and, and_true, and_self, List.getElem?_cons_zero, List.getElem?_cons_succ, Nat.reduceLeDiff, Nat.zero_add, Nat.reduceSub, Nat.le_refl, Nat.lt_irrefl]
    refine call_at awake_ok ?_
    rintro _ t6 ⟨rfl, e6⟩
    refine ⟨kept_none, ?_⟩
    simp -implicitDefEqProofs only [go_sem, Nat.reduceBEq, Nat.reduceAdd, eq_self, true_and, and_true, and_self, List.getElem?_cons_zero, List.getElem?_cons_succ, Nat.reduceLeDiff, Nat.zero_add, Nat.reduceSub, Nat.le_refl, Nat.lt_irrefl]
    refine q2 _ _ ?_
    simp -implicitDefEqProofs only [go_sem, Nat.reduceBEq, Nat.reduceAdd, eq_self, true_and, and_true, and_self, List.getElem?_cons_zero, List.getElem?_cons_succ, Nat.reduceLeDiff, Nat.zero_add, Nat.reduceSub, Nat.le_refl, Nat.lt_irrefl]
end
end Go.VL.rga

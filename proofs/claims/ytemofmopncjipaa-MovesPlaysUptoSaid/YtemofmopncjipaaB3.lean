import Derived.Test.YtemofmopncjipaaB2
import Derived.WideKeyArgs
import Derived.ChangeArms
import Derived.OpenShut
import Derived.Shelf.SlSortCmp.NoneTotal
import Derived.Shelf.Lay
import Derived.Ground.SlsfProg
import Derived.Shelf.RegionOpenPlain
import Derived.WalkKit
import Derived.Deep.RegionLaw
import Derived.Lib.SliceRun
import Derived.Lib.SlicesDelete
set_option linter.unusedVariables false
set_option linter.unusedSimpArgs false
namespace Go.VL
open Go Go.ChangeShapes Go.WideShapes Go.ChangeAt Go.RowKit

/-- Shapes of what is read. -/
inductive T where
  | int (k : IntKind)
  | bool
  | str
  | sl (s : Nat) (e : T)
  | agg (l : List T)
  | arr (n : Nat) (e : T)

def tysOf (P : Program) (f : TypeId → Option T) (all : Nat) : Nat → List Field → Option (List T)
  | o, [] => bif Nat.beq o all then some [] else none
  | o, x :: r => bif Nat.beq x.offset o then (match f x.type, tysOf P f all (o + P.cellsOf x.type) r with
    | some a, some b => some (a :: b)
    | _, _ => none) else none
/-- A type's shape. -/
def tyOf (P : Program) : Nat → TypeId → Option T
  | 0, _ => none
  | n + 1, t => match P.underlying t with
    | some (.int k) => bif Nat.beq (P.cellsOf t) 1 then some (.int k) else none
    | some .bool => bif Nat.beq (P.cellsOf t) 1 then some .bool else none
    | some .string => bif Nat.beq (P.cellsOf t) 1 then some .str else none
    | some (.slice e) => bif Nat.beq (P.cellsOf t) 1 && Nat.ble 1 (P.cellsOf e) then (tyOf P n e).map (.sl (P.cellsOf e)) else none
    | some (.struct fs) => (tysOf P (tyOf P n) (P.cellsOf t) 0 fs.toList).map .agg
    | some (.array m e) => bif Nat.beq (P.cellsOf t) (m * P.cellsOf e) then (tyOf P n e).map (.arr m) else none
    | _ => none

mutual
/-- Cells of a shape. -/
def T.has : T → List V → Prop
  | .int k, xs => ∃ n, xs = [.int k n] ∧ (Lit.int k n).wf = true
  | .bool, xs => ∃ b, xs = [.bool b]
  | .str, xs => ∃ s, xs = [.str s]
  | .sl s e, xs => xs = [.sl true .pub 0 []] ∨ ∃ es, xs = [.sl false .pub s es] ∧ ∀ x ∈ es, e.has x
  | .agg l, xs => T.hasL l xs
  | .arr n e, xs => ∃ l : List (List V), l.length = n ∧ xs = l.flatten ∧ ∀ x ∈ l, e.has x
def T.hasL : List T → List V → Prop
  | [], xs => xs = []
  | t :: r, xs => ∃ a b, xs = a ++ b ∧ t.has a ∧ T.hasL r b
end

mutual
/-- How much there is of it. -/
def vb : V → Nat
  | .str s => s.length + 1
  | .sl _ _ _ es => vbe es + 1
  | .int _ _ | .bool _ | .agg _ | .tup _ | .ptr _ | .elt _ _ _ _ _ | .map _ | .osl _ _ _ _ | .fn _ _ | .nilf | .raw _ | .bad => 1
def vbs : List V → Nat
  | [] => 0
  | x :: r => vb x + vbs r
def vbe : List (List V) → Nat
  | [] => 0
  | x :: r => vbs x + vbe r
end
theorem vbs_append : ∀ (a b : List V), vbs (a ++ b) = vbs a + vbs b
  | [], b => by simp [vbs]
  | x :: a, b => by simp [vbs, vbs_append a b, Nat.add_assoc]
theorem vbs_flatten : ∀ (l : List (List V)), vbs l.flatten = vbe l
  | [] => by simp [vbs, vbe]
  | x :: l => by simp [vbe, vbs_append, vbs_flatten l]

/-- A measure of data that counts at least so much. -/
structure Bulk {H : Type} (B : DataW H → Nat) : Prop where
  lit : ∀ l, 1 ≤ B (.lit l)
  str : ∀ s, s.length + 1 ≤ B (.lit (.string s))
  nil : 1 ≤ B .nil
  slice : ∀ es sp, (es.map B).sum + 1 ≤ B (.slice es sp)
  agg : ∀ ps, (ps.map B).sum ≤ B (.agg ps)

section
variable {H : Type} {enc : TypeId × Value → H} {P : Program} {W : World} {sp : Nat → Bool} {held : Bool} {B : DataW H → Nat}

/-- What is read is of its type's shape. -/
def Reads (W : World) (B : DataW H → Nat) (T0 : T) (c : Nat) (cs : List Value) (d : DataW H) : Prop :=
  ∃ xs, RepL (g0 W) xs cs ∧ T0.has xs ∧ vbs xs ≤ B d ∧ (∀ v ∈ cs, v.oneCell' = true) ∧ cs.length = c

theorem RepL.len {γ : G} : ∀ {xs : List V} {vs : List Value}, RepL γ xs vs → xs.length = vs.length
  | [], vs, h => by simp only [RepL] at h; subst h; rfl
  | x :: xs, vs, h => by
    simp only [RepL] at h
    obtain ⟨v, ws, rfl, _, h2⟩ := h
    simp [RepL.len h2]

theorem rows_read {T0 : T} {a : Addr} {c : Nat} (hsp : a.spot = none) : ∀ (elems : List (DataW H × List MemPlace)) (k : Nat),
    (∀ (i : Nat) y, elems[i]? = some y → ∃ cs, W.cells? 0 (a.add ((k + i) * c)) c = some cs ∧ Reads W B T0 c cs y.1) →
    ∃ es vs, es.length = elems.length ∧ RepE (g0 W) c es vs ∧ (∀ x ∈ es, T0.has x) ∧ vbe es ≤ ((elems.map (·.1)).map B).sum ∧ ∀ (j : Nat) v, vs[j]? = some v → W.cell? ⟨a.block, a.off + k * c + j, none⟩ = some v
  | [], k, _ => ⟨[], [], rfl, by simp [RepE], by simp, by simp [vbe], by simp⟩
  | y :: r, k, h => by
    obtain ⟨es, vs, h1, h2, h3, h4, h5⟩ := rows_read hsp r (k + 1) fun i y hy => by
      obtain ⟨cs, e1, e2⟩ := h (i + 1) y (by simpa using hy)
      exact ⟨cs, by rw [show k + 1 + i = k + (i + 1) from by omega]; exact e1, e2⟩
    obtain ⟨cs, e1, xs, f1, f2, f3, f4, f5⟩ := h 0 y rfl
    obtain ⟨_, g1, g2⟩ := World.cells?_some e1
    refine ⟨xs :: es, cs ++ vs, by simp [h1], ?_, ?_, ?_, ?_⟩
    · simp only [RepE]
      exact ⟨cs, vs, rfl, by rw [f1.len, f5], f1, h2, f4⟩
    · intro x hx
      rcases List.mem_cons.1 hx with rfl | hx
      · exact f2
      · exact h3 x hx
    · simp only [vbe, List.map_cons, List.sum_cons]; omega
    · intro j v hv
      by_cases hj : j < cs.length
      · rw [List.getElem?_append_left hj] at hv
        have := g2 j (by omega)
        rw [hv, Nat.add_zero, add_spot hsp, add_spot rfl] at this
        exact this
      · rw [List.getElem?_append_right (by omega)] at hv
        have := h5 _ _ hv
        rw [show a.off + k * c + j = a.off + (k + 1) * c + (j - cs.length) from by rw [Nat.succ_mul]; omega]
        exact this

theorem fields_read (hB : Bulk B) {f : TypeId → Option T} {rd : TypeId → List Value → Option (DataW H × List MemPlace)} (ih : ∀ t T0 cs d ps, f t = some T0 → rd t cs = some (d, ps) → Reads W B T0 (P.cellsOf t) cs d) {all : Nat} :
    ∀ (fs : List Field) (o : Nat) (Ts : List T) (cs : List Value) (xs : List (DataW H × List MemPlace)), tysOf P f all o fs = some Ts → cs.length + o = all → xs.length = fs.length →
      (∀ (i : Nat) (x : Field), fs[i]? = some x → rd x.type ((cs.drop (x.offset - o)).take (P.cellsOf x.type)) = xs[i]?) →
      ∃ ys, RepL (g0 W) ys cs ∧ T.hasL Ts ys ∧ vbs ys ≤ ((xs.map (·.1)).map B).sum ∧ (∀ v ∈ cs, v.oneCell' = true)
  | [], o, Ts, cs, xs, ht, hl, hx, h => by
    simp only [tysOf] at ht
    cases hb : Nat.beq o all with
    | false => simp [hb] at ht
    | true =>
      simp only [hb, cond_true, Option.some.injEq] at ht
      subst ht
      have := Nat.eq_of_beq_eq_true hb
      have : cs = [] := by apply List.eq_nil_of_length_eq_zero; omega
      subst this
      exact ⟨[], by simp [RepL], by simp [T.hasL], by simp [vbs], by simp⟩
  | x :: r, o, Ts, cs, xs, ht, hl, hx, h => by
    simp only [tysOf] at ht
    cases hb : Nat.beq x.offset o with
    | false => simp [hb] at ht
    | true =>
      have ho := Nat.eq_of_beq_eq_true hb
      simp only [hb, cond_true] at ht
      split at ht
      · rename_i a b ha hbb
        simp only [Option.some.injEq] at ht
        subst ht
        cases xs with
        | nil => simp at hx
        | cons y ys =>
          have h0 := h 0 x rfl
          simp only [ho, Nat.sub_self, List.drop_zero, List.getElem?_cons_zero] at h0
          obtain ⟨zs, f1, f2, f3, f4, f5⟩ := ih _ _ _ _ _ ha h0
          have hle : P.cellsOf x.type ≤ cs.length := by rw [← f5, List.length_take]; omega
          obtain ⟨us, k1, k2, k3, k4⟩ := fields_read hB ih r (o + P.cellsOf x.type) b (cs.drop (P.cellsOf x.type)) ys hbb (by rw [List.length_drop]; omega) (by simpa using hx) (by
            intro i fd hfd
            have := h (i + 1) fd (by simpa using hfd)
            simp only [List.getElem?_cons_succ] at this
            rw [← this, List.drop_drop]
            -- a field's place is not ahead of where we are
            have hge : o + P.cellsOf x.type ≤ fd.offset := tysOf_ge hbb hfd
            congr 3
            omega)
          refine ⟨zs ++ us, ?_, ⟨zs, us, rfl, f2, k2⟩, ?_, ?_⟩
          · rw [← List.take_append_drop (P.cellsOf x.type) cs]
            exact f1.append k1
          · rw [vbs_append]; simp only [List.map_cons, List.sum_cons]; omega
          · intro v hv
            rw [← List.take_append_drop (P.cellsOf x.type) cs] at hv
            rcases List.mem_append.1 hv with hv | hv
            · exact f4 v hv
            · exact k4 v hv
      · cases ht
where
  tysOf_ge {f : TypeId → Option T} {all : Nat} : ∀ {fs : List Field} {o : Nat} {Ts : List T} {i : Nat} {fd : Field}, tysOf P f all o fs = some Ts → fs[i]? = some fd → o ≤ fd.offset
    | [], o, Ts, i, fd, _, h => by simp at h
    | x :: r, o, Ts, i, fd, ht, h => by
      simp only [tysOf] at ht
      cases hb : Nat.beq x.offset o with
      | false => simp [hb] at ht
      | true =>
        have ho := Nat.eq_of_beq_eq_true hb
        simp only [hb, cond_true] at ht
        split at ht
        · rename_i a b ha hbb
          cases i with
          | zero => simp only [List.getElem?_cons_zero, Option.some.injEq] at h; subst h; omega
          | succ i =>
            simp only [List.getElem?_cons_succ] at h
            have := tysOf_ge hbb h
            omega
        · cases ht

theorem arr_read {T0 : T} {c : Nat} {rd : List Value → Option (DataW H × List MemPlace)} (ih : ∀ cs d ps, rd cs = some (d, ps) → Reads W B T0 c cs d) :
    ∀ (n : Nat) (cs : List Value) (xs : List (DataW H × List MemPlace)), cs.length = n * c → xs.length = n → (∀ (i : Nat), i < n → rd ((cs.drop (i * c)).take c) = xs[i]?) →
      ∃ l : List (List V), l.length = n ∧ RepL (g0 W) l.flatten cs ∧ (∀ x ∈ l, T0.has x) ∧ vbe l ≤ ((xs.map (·.1)).map B).sum ∧ (∀ v ∈ cs, v.oneCell' = true)
  | 0, cs, xs, hl, hx, h => by
    have : cs = [] := by apply List.eq_nil_of_length_eq_zero; omega
    subst this
    exact ⟨[], rfl, by simp [RepL], by simp, by simp [vbe], by simp⟩
  | n + 1, cs, xs, hl, hx, h => by
    cases xs with
    | nil => simp at hx
    | cons y ys =>
      have h0 := h 0 (by omega)
      simp only [Nat.zero_mul, List.drop_zero, List.getElem?_cons_zero] at h0
      obtain ⟨zs, f1, f2, f3, f4, f5⟩ := ih _ _ _ h0
      obtain ⟨l, k1, k2, k3, k4, k5⟩ := arr_read ih n (cs.drop c) ys (by rw [List.length_drop, hl, Nat.succ_mul]; omega) (by simpa using hx) (fun i hi => by
        have := h (i + 1) (by omega)
        simp only [List.getElem?_cons_succ] at this
        rw [← this, List.drop_drop, Nat.succ_mul, Nat.add_comm])
      refine ⟨zs :: l, by simp [k1], ?_, ?_, ?_, ?_⟩
      · rw [List.flatten_cons, ← List.take_append_drop c cs]
        exact f1.append k2
      · intro x hx
        rcases List.mem_cons.1 hx with rfl | hx
        · exact f2
        · exact k3 x hx
      · simp only [vbe, List.map_cons, List.sum_cons]; omega
      · intro v hv
        rw [← List.take_append_drop c cs] at hv
        rcases List.mem_append.1 hv with hv | hv
        · exact f4 v hv
        · exact k5 v hv

theorem one_read {x : V} {v : Value} {T0 : T} {d : DataW H} (hr : Rep (g0 W) x v) (ht : T0.has [x]) (hb : vb x ≤ B d) (h1 : v.oneCell' = true) : Reads W B T0 1 [v] d :=
  ⟨[x], by simp only [RepL]; exact ⟨v, [], rfl, hr, rfl⟩, ht, by simpa [vbs] using hb, by simpa using h1, rfl⟩

theorem read_has (hB : Bulk B) : ∀ (n : Nat) (t : TypeId) (T0 : T) (fuel : Nat) (cs : List Value) (d : DataW H) (ps : List MemPlace), tyOf P n t = some T0 → DataW.trod enc P W 0 sp held fuel t cs = some (d, ps) → Reads W B T0 (P.cellsOf t) cs d
  | 0, t, T0, fuel, cs, d, ps, ht, _ => by simp [tyOf] at ht
  | n + 1, t, T0, fuel, cs, d, ps, ht, h => by
    have c1 : ∀ {x : Option T}, (bif Nat.beq (P.cellsOf t) 1 then x else none) = some T0 → P.cellsOf t = 1 ∧ x = some T0 := by
      intro x hx
      cases hb : Nat.beq (P.cellsOf t) 1 with
      | false => simp [hb] at hx
      | true => exact ⟨Nat.eq_of_beq_eq_true hb, by simpa [hb] using hx⟩
    simp only [tyOf] at ht
    split at ht
    · rename_i k hu
      obtain ⟨hc, h0⟩ := c1 ht
      cases h0
      rw [hc]
      obtain ⟨n', rfl, h1, hw⟩ := DataW.trod_int hu h
      simp only [Prod.mk.injEq] at h1
      obtain ⟨rfl, rfl⟩ := h1
      exact one_read (x := .int k n') (by simp only [Rep]) ⟨_, rfl, hw⟩ (by simpa [vb] using hB.lit _) rfl
    · rename_i hu
      obtain ⟨hc, h0⟩ := c1 ht
      cases h0
      rw [hc]
      obtain ⟨b, rfl, h1⟩ := DataW.trod_bool hu h
      simp only [Prod.mk.injEq] at h1
      obtain ⟨rfl, rfl⟩ := h1
      exact one_read (x := .bool b) (by simp only [Rep]) ⟨_, rfl⟩ (by simpa [vb] using hB.lit _) rfl
    · rename_i hu
      obtain ⟨hc, h0⟩ := c1 ht
      cases h0
      rw [hc]
      obtain ⟨s, rfl, h1, _⟩ := DataW.trod_string hu h
      simp only [Prod.mk.injEq] at h1
      obtain ⟨rfl, rfl⟩ := h1
      exact one_read (x := .str s.data.toList) (by simp only [Rep]) ⟨_, rfl⟩ (by simp only [vb]; exact hB.str _) rfl
    · rename_i e hu
      cases hb : (Nat.beq (P.cellsOf t) 1 && Nat.ble 1 (P.cellsOf e)) with
      | false => simp [hb] at ht
      | true =>
        simp only [hb, cond_true, Option.map_eq_some_iff] at ht
        obtain ⟨Te, hTe, rfl⟩ := ht
        simp only [Bool.and_eq_true] at hb
        have hc := Nat.eq_of_beq_eq_true hb.1
        have he := Nat.le_of_ble_eq_true hb.2
        rw [hc]
        rcases DataW.trod_slice hu h with ⟨rfl, h0⟩ | ⟨a, len, cap, elems, rest, m, _, rfl, h0, _, hl, _, hlen, hel, _⟩
        · simp only [Prod.mk.injEq] at h0
          obtain ⟨rfl, rfl⟩ := h0
          exact one_read (x := .sl true .pub 0 []) (by simp [Rep]) (.inl rfl) (by simpa [vb, vbe] using hB.nil) rfl
        · simp only [Prod.mk.injEq] at h0
          obtain ⟨rfl, rfl⟩ := h0
          have each : ∀ (i : Nat) y, elems[i]? = some y → ∃ cs, W.cells? 0 (a.add ((0 + i) * P.cellsOf e)) (P.cellsOf e) = some cs ∧ Reads W B Te (P.cellsOf e) cs y.1 := by
            intro i y hy
            have hi : i < len := by rw [← hlen]; exact (List.getElem?_eq_some_iff.1 hy).1
            have := hel i hi
            rw [hy, Option.bind_eq_some_iff] at this
            obtain ⟨cs, e1, e2⟩ := this
            exact ⟨cs, by rw [Nat.zero_add]; exact e1, read_has hB n e Te m cs y.1 y.2 hTe e2⟩
          by_cases hsp : a.spot = none
          · obtain ⟨es, vs, k1, k2, k3, k4, k5⟩ := rows_read hsp elems 0 each
            refine one_read (x := .sl false .pub (P.cellsOf e) es) ?_ (.inr ⟨es, rfl, k3⟩) ?_ rfl
            · simp only [Rep]
              exact ⟨a, cap, vs, by rw [k1, hlen], .inr hsp, by omega, pub_cells (fun i v hv => by simpa using k5 i v hv), k2⟩
            · have := hB.slice (elems.map (·.1)) (rest.map (·.1))
              simp only [vb]
              omega
          · have hnil : elems = [] := by
              cases elems with
              | nil => rfl
              | cons y r =>
                exfalso
                obtain ⟨cs, e1, _⟩ := each 0 y rfl
                obtain ⟨_, g1, g2⟩ := World.cells?_some e1
                have := g2 0 he
                have h0 : (a.add ((0 + 0) * P.cellsOf e)).add 0 = a := by simp [Addr.add]
                rw [h0] at this
                have hcs : cs[0]? = some cs[0] := List.getElem?_eq_getElem (by omega)
                rw [hcs] at this
                unfold World.cell? at this
                split at this
                · cases hx : a.spot with
                  | none => exact hsp hx
                  | some b => simp [hx] at this
                · cases this
            subst hnil
            refine one_read (x := .sl false .pub (P.cellsOf e) []) ?_ (.inr ⟨[], rfl, by simp⟩) ?_ rfl
            · simp only [Rep]
              simp only [List.length_nil] at hlen
              exact ⟨a, cap, [], by rw [← hlen]; rfl, .inl trivial, by simp, fun i v hv => by simp at hv, by simp [RepE]⟩
            · have := hB.slice ([] : List (DataW H)) (rest.map (·.1))
              simp only [vb, vbe]
              simp only [List.map_nil, List.sum_nil] at this ⊢
              omega
    · rename_i fs hu
      simp only [Option.map_eq_some_iff] at ht
      obtain ⟨Ts, hTs, rfl⟩ := ht
      obtain ⟨xs, m, _, h0, hl, hlen, hf⟩ := DataW.trod_struct hu h
      simp only [Prod.mk.injEq] at h0
      obtain ⟨rfl, rfl⟩ := h0
      obtain ⟨ys, k1, k2, k3, k4⟩ := fields_read (P := P) hB (f := tyOf P n) (rd := fun t cs => DataW.trod enc P W 0 sp held m t cs) (fun t T0 cs d ps h1 h2 => read_has hB n t T0 m cs d ps h1 h2) fs.toList 0 Ts cs xs hTs (by omega) (by simpa using hlen)
        (fun i x hx => by simpa using hf i x (by simpa using hx))
      exact ⟨ys, k1, k2, Nat.le_trans k3 (hB.agg _), k4, hl⟩
    · rename_i m e hu
      cases hb : Nat.beq (P.cellsOf t) (m * P.cellsOf e) with
      | false => simp [hb] at ht
      | true =>
        simp only [hb, cond_true, Option.map_eq_some_iff] at ht
        obtain ⟨Te, hTe, rfl⟩ := ht
        have hc := Nat.eq_of_beq_eq_true hb
        obtain ⟨xs, q, _, h0, hl, hlen, hf⟩ := DataW.trod_array hu h
        simp only [Prod.mk.injEq] at h0
        obtain ⟨rfl, rfl⟩ := h0
        obtain ⟨l, k1, k2, k3, k4, k5⟩ := arr_read (rd := fun cs => DataW.trod enc P W 0 sp held q e cs) (T0 := Te) (c := P.cellsOf e) (W := W) (B := B) (fun cs d ps h2 => read_has hB n e Te q cs d ps hTe h2) m cs xs (by rw [hl, hc]) hlen hf
        exact ⟨l.flatten, k2, ⟨l, k1, rfl, k3⟩, by rw [vbs_flatten]; exact Nat.le_trans k4 (hB.agg _), k5, hl⟩
    · cases ht

/-- An argument of a shape. -/
def T.arg : T → V → Prop
  | .agg l, x => ∃ xs, x = .agg xs ∧ T.hasL l xs
  | .arr n e, x => ∃ xs, x = .agg xs ∧ (T.arr n e).has xs
  | t, x => t.has [x]
def T.args : List T → List V → Prop
  | [], xs => xs = []
  | t :: r, xs => ∃ x ys, xs = x :: ys ∧ t.arg x ∧ T.args r ys
def vba : V → Nat
  | .agg xs => vbs xs
  | x => vb x
def vbas : List V → Nat
  | [] => 0
  | x :: r => vba x + vbas r

theorem vba_one {x : V} (h : ∀ xs, x ≠ .agg xs) : vba x = vbs [x] := by
  cases x <;> first | rfl | exact absurd rfl (h _)

def tysAll (P : Program) (n : Nat) : List TypeId → Option (List T)
  | [] => some []
  | t :: r => match tyOf P n t, tysAll P n r with
    | some a, some b => some (a :: b)
    | _, _ => none

theorem cells_one {v q : Value} (hq : v.cells.toList = [q]) (ha : ∀ cs, v ≠ .agg cs) : v.cells.toList = [v] := by
  cases v <;> first | rfl | exact absurd rfl (ha _)

theorem arg_read (hB : Bulk B) {n : Nat} {t : TypeId} {T0 : T} {base : Nat} {v : Value} {d : DataW H} {ps : List MemPlace} (ht : tyOf P n t = some T0) (hok : Value.okWide P W .any base t v) (h : DataW.Trod enc P W 0 sp held t v d ps) :
    ∃ x, Rep (g0 W) x v ∧ T0.arg x ∧ vba x ≤ B d := by
  obtain ⟨fuel, h⟩ := h
  obtain ⟨xs, k1, k2, k3, k4, k5⟩ := read_has hB n t T0 fuel _ d ps ht h
  have flat : ∀ (T1 : T), T0 = T1 → (∀ x, T1.has [x] → T1.arg x ∧ ∀ xs, x ≠ .agg xs) → v.cells.toList = [v] → (∃ x, xs = [x]) → ∃ x, Rep (g0 W) x v ∧ T0.arg x ∧ vba x ≤ B d := by
    rintro T1 rfl ha hv ⟨x, rfl⟩
    rw [hv] at k1
    simp only [RepL, List.cons.injEq] at k1
    obtain ⟨w, ws, ⟨rfl, rfl⟩, k1, -⟩ := k1
    obtain ⟨a1, a2⟩ := ha x k2
    exact ⟨x, k1, a1, by rw [vba_one a2]; exact k3⟩
  have agg : ∀ cs, v = .agg cs → Rep (g0 W) (.agg xs) v := by
    intro cs hv
    subst hv
    simp only [Rep]
    exact ⟨cs.toList, by simp, k1⟩
  cases n with
  | zero => simp [tyOf] at ht
  | succ n =>
    unfold Value.okWide at hok
    simp only [tyOf] at ht
    split at ht
    · rename_i k hu
      rw [hu] at hok
      have hT : T0 = .int k := by
        cases hb : Nat.beq (P.cellsOf t) 1 <;> simp [hb] at ht
        exact ht.symm
      subst hT
      obtain ⟨m, rfl, hw⟩ := k2
      exact flat _ rfl (fun x hx => ⟨hx, by obtain ⟨m, hx, _⟩ := hx; simp only [List.cons.injEq, and_true] at hx; subst hx; simp⟩) (by
        obtain ⟨q, hq, _⟩ := DataW.trod_int hu h
        exact cells_one hq (by intro cs hcs; subst hcs; simp [Cell.okWide, Cell.ok, hu] at hok)) ⟨_, rfl⟩
    · rename_i hu
      rw [hu] at hok
      have hT : T0 = .bool := by
        cases hb : Nat.beq (P.cellsOf t) 1 <;> simp [hb] at ht
        exact ht.symm
      subst hT
      obtain ⟨m, rfl⟩ := k2
      exact flat _ rfl (fun x hx => ⟨hx, by obtain ⟨m, hx⟩ := hx; simp only [List.cons.injEq, and_true] at hx; subst hx; simp⟩) (by
        obtain ⟨q, hq, _⟩ := DataW.trod_bool hu h
        exact cells_one hq (by intro cs hcs; subst hcs; simp [Cell.okWide, Cell.ok, hu] at hok)) ⟨_, rfl⟩
    · rename_i hu
      rw [hu] at hok
      have hT : T0 = .str := by
        cases hb : Nat.beq (P.cellsOf t) 1 <;> simp [hb] at ht
        exact ht.symm
      subst hT
      obtain ⟨m, rfl⟩ := k2
      exact flat _ rfl (fun x hx => ⟨hx, by obtain ⟨m, hx⟩ := hx; simp only [List.cons.injEq, and_true] at hx; subst hx; simp⟩) (by
        obtain ⟨q, hq, _⟩ := DataW.trod_string hu h
        exact cells_one hq (by intro cs hcs; subst hcs; simp [Cell.okWide, Cell.ok, hu] at hok)) ⟨_, rfl⟩
    · rename_i e hu
      rw [hu] at hok
      have hT : ∃ s Te, T0 = .sl s Te := by
        cases hb : (Nat.beq (P.cellsOf t) 1 && Nat.ble 1 (P.cellsOf e)) <;> simp [hb] at ht
        obtain ⟨Te, _, h⟩ := ht
        exact ⟨_, _, h.symm⟩
      obtain ⟨s, Te, rfl⟩ := hT
      have hxs : ∃ x, xs = [x] := by
        rcases k2 with rfl | ⟨es, rfl, _⟩ <;> exact ⟨_, rfl⟩
      exact flat _ rfl (fun x hx => ⟨hx, by
        rcases hx with hx | ⟨es, hx, _⟩ <;> (simp only [List.cons.injEq, and_true] at hx; subst hx; simp)⟩) (by
        have : ∃ q, v.cells.toList = [q] := by
          rcases DataW.trod_slice hu h with ⟨hq, _⟩ | ⟨a, len, cap, elems, rest, m, _, hq, _⟩ <;> exact ⟨_, hq⟩
        obtain ⟨q, hq⟩ := this
        exact cells_one hq (by intro cs hcs; subst hcs; simp [Cell.okWide, Cell.ok, hu] at hok)) hxs
    · rename_i fs hu
      rw [hu] at hok
      obtain ⟨cs, hv, _⟩ := hok
      simp only [Option.map_eq_some_iff] at ht
      obtain ⟨Ts, hTs, rfl⟩ := ht
      exact ⟨.agg xs, agg cs hv, ⟨xs, rfl, k2⟩, k3⟩
    · rename_i m e hu
      rw [hu] at hok
      obtain ⟨cs, hv, _⟩ := hok
      have hT : ∃ Te, T0 = .arr m Te := by
        cases hb : Nat.beq (P.cellsOf t) (m * P.cellsOf e) <;> simp [hb] at ht
        obtain ⟨Te, _, h⟩ := ht
        exact ⟨_, h.symm⟩
      obtain ⟨Te, rfl⟩ := hT
      exact ⟨.agg xs, agg cs hv, ⟨xs, rfl, k2⟩, k3⟩
    · cases ht
theorem args_read (hB : Bulk B) {n base : Nat} : ∀ (ts : List TypeId) (Ts : List T) (vs : List Value) (ds : List (DataW H)) (ps : List MemPlace), tysAll P n ts = some Ts → (∀ (j : Nat) t v, ts[j]? = some t → vs[j]? = some v → Value.okWide P W .any base t v) →
    DataW.TrodAll enc P W 0 sp held ts vs ds ps → ∃ xs, RepL (g0 W) xs vs ∧ T.args Ts xs ∧ vbas xs ≤ (ds.map B).sum
  | [], Ts, [], [], ps, ht, _, _ => by
    simp only [tysAll, Option.some.injEq] at ht
    subst ht
    exact ⟨[], by simp [RepL], by simp [T.args], by simp [vbas]⟩
  | t :: ts, Ts, v :: vs, d :: ds, ps, ht, hok, ⟨p, q, h1, h2, _⟩ => by
    simp only [tysAll] at ht
    split at ht
    · rename_i a b ha hb
      simp only [Option.some.injEq] at ht
      subst ht
      obtain ⟨x, e1, e2, e3⟩ := arg_read hB ha (hok 0 t v rfl rfl) h1
      obtain ⟨xs, f1, f2, f3⟩ := args_read hB ts b vs ds q hb (fun j t v h1 h2 => hok (j + 1) t v (by simpa using h1) (by simpa using h2)) h2
      refine ⟨x :: xs, by simp only [RepL]; exact ⟨v, vs, rfl, e1, f1⟩, ⟨x, xs, rfl, e2, f2⟩, ?_⟩
      simp only [vbas, List.map_cons, List.sum_cons]; omega
    · cases ht
  | [], _, _ :: _, _, _, _, _, h => by simp [DataW.TrodAll] at h
  | [], _, [], _ :: _, _, _, _, h => by simp [DataW.TrodAll] at h
  | _ :: _, _, [], _, _, _, _, h => by simp [DataW.TrodAll] at h
  | _ :: _, _, _ :: _, [], _, _, _, h => by simp [DataW.TrodAll] at h

theorem trodAll_stays (hl : laidOutB P = true) {W' : World} {sp' : Nat → Bool} : ∀ {ts : List TypeId} {vs : List Value} {ds : List (DataW H)} {ps : List MemPlace}, (ts.all fun t => P.readableRec t && decide (t < P.types.size)) = true →
    DataW.TrodAll enc P W 0 (fun _ => true) true ts vs ds ps → (∀ p ∈ ps, W.sameAt W' p) → (∀ p ∈ ps, sp' p.block = true) → DataW.TrodAll enc P W' 0 sp' true ts vs ds ps
  | [], [], [], _, _, h, _, _ => h
  | _ :: _, _ :: _, _ :: _, _, hr, ⟨p, q, h1, h2, e⟩, hs, hp => by
    simp only [List.all_cons, Bool.and_eq_true, decide_eq_true_eq] at hr
    exact ⟨p, q, WideElems.Trod_stays hl hr.1.1 hr.1.2 h1 (fun x hx => hs x (by rw [e]; exact List.mem_append_left _ hx)) (fun x hx => hp x (by rw [e]; exact List.mem_append_left _ hx)),
      trodAll_stays hl (by simpa using hr.2) h2 (fun x hx => hs x (by rw [e]; exact List.mem_append_right _ hx)) (fun x hx => hp x (by rw [e]; exact List.mem_append_right _ hx)), e⟩

/-- A law's contract, from V-logic: whatever the arguments of the types' shapes, it tells true. -/
theorem law_calls (hB : Bulk B) {f : Func} {fid : FuncId} {s : ChangeSpec} {W : World} {base n : Nat} {args : Array Value} {ds gs : List (DataW H)} {before : List MemPlace} {Ts : List T} {tb : TypeId}
    (hlo : laidOutB P = true) (hts : tysAll P n f.params.toList = some Ts) (hrd : (f.params.toList.all fun t => P.readableRec t && decide (t < P.types.size)) = true) (hvars : s.vars = []) (hres : f.resultTypes = #[tb]) (hb : P.underlying tb = some .bool)
    (hspec : ∀ ds : List (DataW H), ds.length = f.params.size → s.fn H ds = { results := [.lit (.bool true)], args := ds })
    (hval : ∀ (j : Nat) t v, f.params[j]? = some t → args[j]? = some v → Value.okWide P W .any base t v)
    (hW : DataW.Whole enc P f.params.toList s.vars false W args.toList ds gs before)
    (hc : ∀ xs, T.args Ts xs → vbas xs ≤ ((ds ++ gs).map B).sum → CallA P fid xs ⟨[], []⟩ fun v _ => v = .bool true) :
    Calls P fid args W fun e W' => ∃ v, e = .returned v ∧ s.post enc P f false true false false W args v W' := by
  have hW' := hW
  obtain ⟨p, q, hA, hV, rfl, hfz, hnd⟩ := hW
  rw [hvars] at hV
  obtain ⟨rfl, rfl⟩ := trodVars_none hV
  rw [List.append_nil] at hc
  have hlen : ∀ {ts : List TypeId} {vs : List Value} {ds : List (DataW H)} {ps : List MemPlace}, DataW.TrodAll enc P W 0 (fun _ => true) true ts vs ds ps → ds.length = ts.length := by
    intro ts
    induction ts with
    | nil => intro vs ds ps h; cases vs <;> cases ds <;> simp_all [DataW.TrodAll]
    | cons t ts ih =>
      intro vs ds ps h
      cases vs <;> cases ds <;> simp only [DataW.TrodAll] at h
      obtain ⟨_, _, _, h2, _⟩ := h
      simp [ih h2]
  have hs := hspec ds (by rw [hlen hA]; simp)
  obtain ⟨xs, k1, k2, k3⟩ := args_read hB f.params.toList Ts args.toList ds p hts (fun j t v h1 h2 => hval j t v (by simpa using h1) (by simpa using h2)) hA
  refine (entry (hc xs k2 k3) k1).mono fun e W' ⟨v, x, σ, γ, he, hk, hi, hx, hxv⟩ => ?_
  subst he hxv
  simp only [Rep] at hx
  subst hx
  simp only [List.append_nil] at hW'
  refine ⟨_, rfl, post_of_old (pa := p) (pv := []) (gs := []) (ds := ds) (before := p) (by simpa using hW') ?_ ?_ ?_ (by simp) hk (ok_one hres rfl (okWide_bool_mk hb _))⟩
  · intro b sp hd
    rw [List.append_nil, hs, hres]
    exact (trodAll_cons_mk (shut_bool hb _) trodAll_mk0)
  · intro sp hsp
    rw [List.append_nil, hs]
    exact trodAll_stays hlo hrd hA (fun x hx => hk.same (hW'.lt x (by simpa using hx))) hsp
  · intro sp _
    rw [List.append_nil, hs, hvars]
    rfl
end
end Go.VL
namespace Go.VL
open Go

/-- A slice whose elements are one cell. -/
theorem has_sl {s : Nat} {e : T} {x : V} (h : (T.sl s e).arg x) : ∃ es, (x = .sl true .pub 0 [] ∧ es = [] ∨ x = .sl false .pub s es) ∧ (∀ y ∈ es, e.has y) ∧ vbe es + 1 = vba x := by
  rcases h with h | ⟨es, h, h2⟩
  · simp only [List.cons.injEq, and_true] at h
    subst h
    exact ⟨[], .inl ⟨rfl, rfl⟩, by simp, by simp [vba, vb, vbe]⟩
  · simp only [List.cons.injEq, and_true] at h
    subst h
    exact ⟨es, .inr rfl, h2, by simp [vba, vb]⟩
theorem arg_rd {s : Nat} {e : T} {x : V} (h : (T.sl s e).arg x) : ∃ es, RdS ⟨[], []⟩ x s es ∧ (∀ y ∈ es, e.has y) ∧ vbe es < vba x := by
  obtain ⟨es, h1, h2, h3⟩ := has_sl h
  refine ⟨es, ?_, h2, by omega⟩
  rcases h1 with ⟨rfl, rfl⟩ | rfl
  · exact ⟨true, .pub, 0, rfl, by simp, .inl rfl⟩
  · exact ⟨false, .pub, s, rfl, by simp, .inr ⟨trivial, rfl⟩⟩
theorem bytes_of : ∀ {es : List (List V)}, (∀ y ∈ es, (T.int .u8).has y) → ∃ bs, es = bytesV bs ∧ bs.length ≤ vbe es
  | [], _ => ⟨[], rfl, by simp⟩
  | y :: es, h => by
    obtain ⟨bs, rfl, h2⟩ := bytes_of (es := es) fun y hy => h y (by simp [hy])
    obtain ⟨n, rfl, hw⟩ := h y (by simp)
    have hr : 0 ≤ n ∧ n ≤ 255 := by
      have : 0 ≤ n ∧ n ≤ 255 := by simpa [Lit.wf, IntKind.min, IntKind.max, IntKind.signed, IntKind.bits] using hw
      exact this
    refine ⟨UInt8.ofNat n.toNat :: bs, ?_, by simp only [List.length_cons, vbe, vbs, vb]; omega⟩
    have := byte1 n hr
    simp only [bytesV, List.map_cons, List.map_nil, List.cons.injEq, and_true] at this ⊢
    exact this
theorem ints_of : ∀ {es : List (List V)}, (∀ y ∈ es, (T.int .i64).has y) → ∃ ns : List Int, es = intsV .i64 ns ∧ ns.length ≤ vbe es ∧ ∀ n ∈ ns, -9223372036854775808 ≤ n ∧ n < 9223372036854775808
  | [], _ => ⟨[], rfl, by simp, by simp⟩
  | y :: es, h => by
    obtain ⟨bs, rfl, h2, h3⟩ := ints_of (es := es) fun y hy => h y (by simp [hy])
    obtain ⟨n, rfl, hw⟩ := h y (by simp)
    have hr : -9223372036854775808 ≤ n ∧ n ≤ 9223372036854775807 := by
      simpa [Lit.wf, IntKind.min, IntKind.max, IntKind.signed, IntKind.bits] using hw
    refine ⟨n :: bs, rfl, by simp only [List.length_cons, vbe, vbs, vb]; omega, fun m hm => ?_⟩
    rcases List.mem_cons.1 hm with rfl | hm
    · omega
    · exact h3 m hm
theorem strs_of : ∀ {es : List (List V)}, (∀ y ∈ es, T.str.has y) → ∃ ss : List (List UInt8), es = (ss.map fun s => [V.str s]) ∧ (ss.map fun s => s.length + 1).sum ≤ vbe es
  | [], _ => ⟨[], rfl, by simp⟩
  | y :: es, h => by
    obtain ⟨bs, rfl, h2⟩ := strs_of (es := es) fun y hy => h y (by simp [hy])
    obtain ⟨s, rfl⟩ := h y (by simp)
    exact ⟨s :: bs, rfl, by simp only [List.map_cons, List.sum_cons, vbe, vbs, vb]; omega⟩
theorem arg_bytes {x : V} (h : (T.sl 1 (.int .u8)).arg x) : ∃ bs, RdS ⟨[], []⟩ x 1 (bytesV bs) ∧ bs.length < vba x := by
  obtain ⟨es, h1, h2, h3⟩ := arg_rd h
  obtain ⟨bs, rfl, h4⟩ := bytes_of h2
  exact ⟨bs, h1, by omega⟩
theorem arg_int {x : V} (h : (T.int .i64).arg x) : ∃ n, x = .int .i64 n ∧ -9223372036854775808 ≤ n ∧ n < 9223372036854775808 := by
  obtain ⟨n, h1, hw⟩ := h
  simp only [List.cons.injEq, and_true] at h1
  have hr : -9223372036854775808 ≤ n ∧ n ≤ 9223372036854775807 := by
    simpa [Lit.wf, IntKind.min, IntKind.max, IntKind.signed, IntKind.bits] using hw
  exact ⟨n, h1, by omega, by omega⟩
end Go.VL
namespace Go.VL
open Go
theorem arg_ints' {x : V} (h : (T.sl 1 (.int .i64)).arg x) : ∃ ns : List Int, RdS ⟨[], []⟩ x 1 (intsV .i64 ns) ∧ ns.length < vba x ∧ ∀ n ∈ ns, -9223372036854775808 ≤ n ∧ n < 9223372036854775808 := by
  obtain ⟨es, h1, h2, h3⟩ := arg_rd h
  obtain ⟨ns, rfl, h4, h5⟩ := ints_of h2
  exact ⟨ns, h1, by omega, h5⟩
theorem arg_strs' {x : V} (h : (T.sl 1 .str).arg x) : ∃ ss : List (List UInt8), RdS ⟨[], []⟩ x 1 (ss.map fun s => [V.str s]) ∧ (ss.map fun s => s.length + 1).sum < vba x := by
  obtain ⟨es, h1, h2, h3⟩ := arg_rd h
  obtain ⟨ss, rfl, h4⟩ := strs_of h2
  exact ⟨ss, h1, by omega⟩
end Go.VL

namespace Go.VL.mov
open Go Go.VL
def StT : T := .agg [.int .i64, .int .i64]
def AcT : List T := [.int .i64, .agg [.int .i64, .int .i64], .agg [.int .i64, .int .i64], .agg [.int .i64, .int .i64]]
def acsV (l : List Ac) : List (List V) := l.map acC
theorem has_sp {xs : List V} (h : T.hasL [.int .i64, .int .i64] xs) : ∃ s : Sp, xs = spC s := by
  simp only [T.hasL, T.has] at h
  obtain ⟨_, _, rfl, ⟨n, rfl, -⟩, _, _, rfl, ⟨k, rfl, -⟩, rfl⟩ := h
  exact ⟨⟨n, k⟩, rfl⟩
theorem has_ac {xs : List V} (h : T.hasL AcT xs) : ∃ x : Ac, xs = acC x := by
  simp only [AcT, T.hasL, T.has] at h
  obtain ⟨_, _, rfl, ⟨n, rfl, -⟩, _, _, rfl, h1, _, _, rfl, h2, _, _, rfl, h3, rfl⟩ := h
  obtain ⟨s1, rfl⟩ := has_sp h1
  obtain ⟨s2, rfl⟩ := has_sp h2
  obtain ⟨s3, rfl⟩ := has_sp h3
  exact ⟨⟨n, s1, s2, s3⟩, rfl⟩
theorem acs_of : ∀ {es : List (List V)}, (∀ y ∈ es, (T.agg AcT).has y) → ∃ l, es = acsV l ∧ l.length ≤ vbe es
  | [], _ => ⟨[], rfl, by simp⟩
  | y :: es, h => by
    obtain ⟨l, rfl, h2⟩ := acs_of (es := es) fun y hy => h y (by simp [hy])
    obtain ⟨r, rfl⟩ := has_ac (h y (by simp))
    have hp : 0 < vbs (acC r) := by simp [acC, vbs, vb]
    exact ⟨r :: l, rfl, by simp only [List.length_cons, vbe]; omega⟩
theorem arg_acs {x : V} (h : (T.sl 7 (.agg AcT)).arg x) : ∃ l, RdS ⟨[], []⟩ x 7 (acsV l) ∧ l.length < vba x := by
  obtain ⟨es, h1, h2, h3⟩ := arg_rd h
  obtain ⟨l, rfl, h4⟩ := acs_of h2
  exact ⟨l, h1, by omega⟩
theorem acsV_length (l : List Ac) : (acsV l).length = l.length := by simp [acsV]
end Go.VL.mov

namespace Go.VL.mov
open Go Go.VL Go.Proofs Go.IntWalk

def m7 (m : Mv) : List V := [.int .i64 m.a.c, .int .i64 m.a.r, .int .i64 m.n.c, .int .i64 m.n.r, .int .i64 m.p.c, .int .i64 m.p.r, .bool m.k]
def m7s (l : List Mv) : List (List V) := l.map m7
theorem m7s_length (l : List Mv) : (m7s l).length = l.length := by simp [m7s]
theorem m7s_get {l : List Mv} {i : Nat} (h : i < l.length) : (m7s l)[((i : Nat) : Int).toNat]?.getD [] = m7 l[i] := by simp [m7s, h]
def hasA (a : Sp) (L : List Mv) : Bool := L.any fun x => decide (x.a = a)
/-- What is put behind: is it put yet? -/
def putT (m : Mv) : List Mv → Bool → List Mv
  | [], d => bif d then [] else [m]
  | x :: l, d => bif !d && less m.a x.a then m :: x :: putT m l true else x :: putT m l d
def putL (m : Mv) (L : List Mv) : List Mv := bif hasA m.a L then L else putT m L false
theorem hasA_at {a : Sp} : ∀ {L : List Mv}, Srt L → hasA a L = at? a L
  | [], _ => rfl
  | x :: L, hs => by
    obtain ⟨h1, h2⟩ := List.pairwise_cons.1 hs
    have ih := hasA_at (a := a) (L := L) h2
    simp only [hasA, at?] at ih
    simp only [hasA, List.any_cons, at?, ix]
    rcases Bool.eq_false_or_eq_true (less x.a a) with hx | hx
    · rw [hx]
      simp only [cond_true, List.getElem?_cons_succ]
      have hne : decide (x.a = a) = false := by
        simp only [decide_eq_false_iff_not]
        intro e
        rw [e, less_irr] at hx; cases hx
      rw [hne, Bool.false_or, ih]
    · rw [hx]
      simp only [cond_false, List.getElem?_cons_zero]
      cases hd : decide (x.a = a)
      · rw [Bool.false_or]
        rw [List.any_eq_false]
        intro y hy
        simp only [decide_eq_true_eq]
        rintro rfl
        rw [h1 y hy] at hx; cases hx
      · rfl
theorem putT_true (m : Mv) : ∀ L : List Mv, putT m L true = L
  | [] => rfl
  | x :: L => by simp [putT, putT_true m L]
theorem putT_ins {m : Mv} : ∀ {L : List Mv}, Srt L → at? m.a L = false → putT m L false = insD L m
  | [], _, _ => rfl
  | x :: L, hs, ha => by
    obtain ⟨h1, h2⟩ := List.pairwise_cons.1 hs
    simp only [putT, insD, Bool.not_false, Bool.true_and, putT_true]
    simp only [at?, ix] at ha ⊢
    rcases Bool.eq_false_or_eq_true (less x.a m.a) with hx | hx
    · rw [hx] at ha ⊢
      rw [less_asymm hx]
      simp only [cond_true, cond_false, List.getElem?_cons_succ, List.take_succ_cons, List.drop_succ_cons, List.cons_append] at ha ⊢
      rw [putT_ins h2 ha]; rfl
    · rw [hx] at ha ⊢
      simp only [cond_false, List.getElem?_cons_zero, List.take_zero, List.drop_zero, List.nil_append, decide_eq_false_iff_not] at ha ⊢
      have : less m.a x.a = true := by
        cases hh : less m.a x.a with
        | true => rfl
        | false => exact absurd (less_total hx hh) ha
      rw [this]; rfl

section
variable {σ : St} {L : List Mv} {m : Mv} {v : V} {a n p : Sp}
set_option maxRecDepth 100000 in
set_option maxHeartbeats 3200000 in
theorem rput_ok (hv : RdS σ v 7 (m7s L)) (hl : L.length ≤ 1000000) :
    CallA Try.prog 47 [v, .agg (m7 m)] σ fun w σ' => (∃ x, w = .tup [x, .bool (!hasA m.a L)] ∧ RdS σ' x 7 (m7s (putL m L))) ∧ Ext σ σ' ∧ σ'.objs = σ.objs := by
  obtain ⟨b, R, z, rfl, -, -⟩ := id hv
  refine fn_at Try.func47 (by decide) comp47 rfl fun Q q1 q2 => ?_
  have hfin : putL m L = bif hasA m.a L then L else putT m L false := rfl
  simp -implicitDefEqProofs only [go_sem, Nat.reduceBEq, Nat.reduceAdd, eq_self, true_and, and_true, and_self, List.getElem?_cons_zero, List.getElem?_cons_succ, Nat.reduceLeDiff, Nat.zero_add, Nat.reduceSub, Nat.le_refl, c47, m7]
  refine loop_at (fun (x : Nat × Nat × List Mv × Bool) => ⟨[(0, .v (.sl b R z (m7s L))), (3, .loc 3 0), (6, .v (.sl false (.own x.2.1) 7 (m7s x.2.2.1))), (7, .v (.bool x.2.2.2)), (8, .v (.int .i64 x.1))], [(3, m7 m)]⟩)
    (fun x τ' => x.1 ≤ L.length ∧ Ext σ τ' ∧ τ'.objs = σ.objs ∧ τ'.live[x.2.1]? = some true ∧ σ.live.length ≤ x.2.1 ∧ x.2.2.1 ++ putT m (L.drop x.1) x.2.2.2 = putT m L false ∧ x.2.2.1.length ≤ 2 * x.1 ∧ hasA m.a (L.take x.1) = false) (fun x => L.length - x.1) (0, σ.live.length, [], false) ?_ ?_ ?_
  · exact .inr (by simp [go_sem, m7s, m7])
  · exact ⟨Nat.zero_le _, ext_live σ true, rfl, live_last _ _, Nat.le_refl _, rfl, Nat.le_refl _, rfl⟩
  rintro ⟨i, q, out, d⟩ τ' ⟨g1, g2, g3, g4, g5, g6, g7, g8⟩ Z z1 z2 z3
  simp only at g1 g4 g5 g6 g7 g8
  have hsz : (m7s out).length ≤ 2000002 := by rw [m7s_length]; omega
  simp -implicitDefEqProofs only [go_sem, Nat.reduceBEq, Nat.reduceAdd, eq_self, true_and, and_true, and_self, List.getElem?_cons_zero, List.getElem?_cons_succ, Nat.reduceLeDiff, Nat.zero_add, Nat.reduceSub, Nat.le_refl, m7]
  refine CondW_b (fun hcc => ?_) (fun hcc => ?_)
  · have hi : i < L.length := by simpa [m7s_length] using hcc
    obtain ⟨k1, k2⟩ := rdl (hv.ext g2) (by cases L <;> simp [m7s] at hi ⊢)
    have hget := m7s_get hi
    have hib : (i : Int) < (m7s L).length := by rw [m7s_length]; omega
    have hw64 : IntKind.i64.wrap ((i : Int) + 1) = ((i + 1 : Nat) : Int) := by rw [i64_in _ (by omega)]; omega
    rw [List.drop_eq_getElem_cons hi] at g6
    have htk : hasA m.a (L.take (i + 1)) = (hasA m.a (L.take i) || decide (L[i].a = m.a)) := by
      rw [List.take_succ_eq_append_getElem hi, hasA, List.any_append]; simp [hasA]
    have hmem : decide (L[i].a = m.a) = true → hasA m.a L = true := fun h => List.any_eq_true.2 ⟨_, List.getElem_mem hi, h⟩
    generalize L[i] = x at hget g6 htk hmem
    simp only [putT] at g6
    rw [g8, Bool.false_or] at htk
    have next : ∀ (F : Fr) (q' : Nat) (τ2 : St) (out' : List Mv) (d' : Bool), out' ++ putT m (L.drop (i + 1)) d' = putT m L false → out'.length ≤ out.length + 2 → hasA m.a (L.take (i + 1)) = false →
        FrLe ⟨[(0, .v (.sl b R z (m7s L))), (3, .loc 3 0), (6, .v (.sl false (.own q') 7 (m7s out'))), (7, .v (.bool d')), (8, .v (.int .i64 ((i + 1 : Nat) : Int)))], [(3, m7 m)]⟩ F →
        Ext σ τ2 → τ2.objs = σ.objs → τ2.live[q']? = some true → σ.live.length ≤ q' → Z .normal F τ2 := by
      intro F q' τ2 out' d' hp hlen hna hF h1 h2 h3 h4
      exact z1 (i + 1, q', out', d') F τ2 hF (by simp only; omega) ⟨by simp only; omega, h1, h2, h3, h4, hp, by simp only; omega, hna⟩
    have e1 := ext_kill (b := true) (ext_push (b := true) g2) g5
    have l1 : (St.mk τ'.objs (kill (τ'.live ++ [true]) (.own q) ++ [true])).live[(τ'.live ++ [true]).length]? = some true := live_last' _ _ _
    have n1 : σ.live.length ≤ (τ'.live ++ [true]).length := by have := g2.llen; simp only [List.length_append, List.length_cons, List.length_nil]; omega
    cases hxa : decide (x.a = m.a)
    case true =>
      have hh := hmem hxa
      simp -implicitDefEqProofs only [go_sem, Nat.reduceBEq, Nat.reduceAdd, eq_self, true_and, and_true, and_self, List.getElem?_cons_zero, List.getElem?_cons_succ, Nat.reduceLeDiff, Nat.zero_add, Nat.reduceSub, Nat.le_refl, hget, m7, sp_eqs, hxa]
      repeat refine ⟨⟨by omega, hib, k2⟩, k1, ?_⟩
      refine z3 _ _ ?_
      simp -implicitDefEqProofs only [go_sem, Nat.reduceBEq, Nat.reduceAdd, eq_self, true_and, and_true, and_self, List.getElem?_cons_zero, List.getElem?_cons_succ, Nat.reduceLeDiff, Nat.zero_add, Nat.reduceSub, Nat.le_refl, Nat.lt_irrefl]
      refine q2 _ _ ?_
      simp -implicitDefEqProofs only [go_sem, Nat.reduceBEq, Nat.reduceAdd, eq_self, true_and, and_true, and_self, List.getElem?_cons_zero, List.getElem?_cons_succ, Nat.reduceLeDiff, Nat.zero_add, Nat.reduceSub, Nat.le_refl, hh]
      refine ⟨⟨_, rfl, ?_⟩, g2, g3⟩
      rw [hfin, hh]; exact hv.ext g2
    rw [hxa] at htk
    simp -implicitDefEqProofs only [go_sem, Nat.reduceBEq, Nat.reduceAdd, eq_self, true_and, and_true, and_self, List.getElem?_cons_zero, List.getElem?_cons_succ, Nat.reduceLeDiff, Nat.zero_add, Nat.reduceSub, Nat.le_refl, hget, m7, sp_eqs, hxa]
    repeat refine ⟨⟨by omega, hib, k2⟩, k1, ?_⟩
    refine cut_dup ?_
    cases d
    case true =>
      rw [Bool.not_true, Bool.false_and, cond_false] at g6
      simp -implicitDefEqProofs only [go_sem, Nat.reduceBEq, Nat.reduceAdd, eq_self, true_and, and_true, and_self, List.getElem?_cons_zero, List.getElem?_cons_succ, Nat.reduceLeDiff, Nat.zero_add, Nat.reduceSub, Nat.le_refl, hget, m7]
      refine ⟨⟨by omega, hib, k2⟩, k1, ?_⟩
      refine ⟨⟨.inr trivial, .inr ((ext_live _ _).live _ g4), ⟨.inr (live_last _ _), .inl trivial⟩, by omega⟩, ?_⟩
      refine next _ _ _ (out ++ [x]) true (by rw [List.append_assoc]; exact g6) (by simp) htk (.inr ?_) e1 g3 l1 n1
      simp -implicitDefEqProofs only [go_sem, Nat.reduceBEq, Nat.reduceAdd, eq_self, true_and, and_true, and_self, List.getElem?_cons_zero, List.getElem?_cons_succ, Nat.reduceLeDiff, Nat.zero_add, Nat.reduceSub, Nat.le_refl, hw64, m7, m7s, List.map_append, List.map_cons, List.map_nil]
      try trivial
    case false =>
      simp -implicitDefEqProofs only [go_sem, Nat.reduceBEq, Nat.reduceAdd, eq_self, true_and, and_true, and_self, List.getElem?_cons_zero, List.getElem?_cons_succ, Nat.reduceLeDiff, Nat.zero_add, Nat.reduceSub, Nat.le_refl, hget, m7]
      repeat refine ⟨⟨by omega, hib, k2⟩, k1, ?_⟩
      refine call_at (less_ok (a := m.a) (b := x.a)) ?_
      rintro v τ1 ⟨rfl, rfl⟩
      refine ⟨(Ext.refl _).kept, ?_⟩
      cases hls : less m.a x.a
      · rw [hls, Bool.not_false, Bool.true_and, cond_false] at g6
        simp -implicitDefEqProofs only [go_sem, Nat.reduceBEq, Nat.reduceAdd, eq_self, true_and, and_true, and_self, List.getElem?_cons_zero, List.getElem?_cons_succ, Nat.reduceLeDiff, Nat.zero_add, Nat.reduceSub, Nat.le_refl, hls, hget, m7]
        refine ⟨⟨by omega, hib, k2⟩, k1, ?_⟩
        refine ⟨⟨.inr trivial, .inr ((ext_live _ _).live _ g4), ⟨.inr (live_last _ _), .inl trivial⟩, by omega⟩, ?_⟩
        refine next _ _ _ (out ++ [x]) false (by rw [List.append_assoc]; exact g6) (by simp) htk (.inr ?_) e1 g3 l1 n1
        simp -implicitDefEqProofs only [go_sem, Nat.reduceBEq, Nat.reduceAdd, eq_self, true_and, and_true, and_self, List.getElem?_cons_zero, List.getElem?_cons_succ, Nat.reduceLeDiff, Nat.zero_add, Nat.reduceSub, Nat.le_refl, hw64, m7, m7s, List.map_append, List.map_cons, List.map_nil]
        try trivial
      · rw [hls, Bool.not_false, Bool.true_and, cond_true] at g6
        simp -implicitDefEqProofs only [go_sem, Nat.reduceBEq, Nat.reduceAdd, eq_self, true_and, and_true, and_self, List.getElem?_cons_zero, List.getElem?_cons_succ, Nat.reduceLeDiff, Nat.zero_add, Nat.reduceSub, Nat.le_refl, hls, hget, m7]
        refine ⟨⟨.inr trivial, .inr ((ext_live _ _).live _ g4), ⟨.inr (live_last _ _), .inl trivial⟩, by omega⟩, ?_⟩
        have k3 := rdl (hv.ext e1) (by cases L <;> simp [m7s] at hi ⊢)
        refine ⟨⟨by omega, hib, k2⟩, k3.1, ?_⟩
        refine ⟨⟨.inr trivial, .inr ((ext_live _ _).live _ l1), ⟨.inr (live_last _ _), .inl trivial⟩, by first | omega | (simp only [List.length_append, List.length_cons, List.length_nil]; omega)⟩, ?_⟩
        refine next _ _ _ (out ++ [m, x]) true (by rw [List.append_assoc]; exact g6) (by simp) htk (.inr ?_) (ext_kill (ext_push e1) n1) g3 (live_last' _ _ _) (by have := e1.llen; simp only [kill, List.length_append, List.length_cons, List.length_nil] at this ⊢; omega)
        simp -implicitDefEqProofs only [go_sem, Nat.reduceBEq, Nat.reduceAdd, eq_self, true_and, and_true, and_self, List.getElem?_cons_zero, List.getElem?_cons_succ, Nat.reduceLeDiff, Nat.zero_add, Nat.reduceSub, Nat.le_refl, hw64, m7, m7s, List.map_append, List.map_cons, List.map_nil, List.append_assoc, List.cons_append, List.nil_append]
        try trivial
  · have hi : ¬ i < L.length := by simpa [m7s_length] using hcc
    have hio : i = L.length := by omega
    subst hio
    rw [List.take_length] at g8
    rw [List.drop_length, putT] at g6
    have e1 := ext_kill (b := true) (ext_push (b := true) g2) g5
    have l1 : (St.mk τ'.objs (kill (τ'.live ++ [true]) (.own q) ++ [true])).live[(τ'.live ++ [true]).length]? = some true := live_last' _ _ _
    simp -implicitDefEqProofs only [go_sem, Nat.reduceBEq, Nat.reduceAdd, eq_self, true_and, and_true, and_self, List.getElem?_cons_zero, List.getElem?_cons_succ, Nat.reduceLeDiff, Nat.zero_add, Nat.reduceSub, Nat.le_refl, Nat.lt_irrefl]
    refine z2 _ _ _ ?_
    simp -implicitDefEqProofs only [go_sem, Nat.reduceBEq, Nat.reduceAdd, eq_self, true_and, and_true, and_self, List.getElem?_cons_zero, List.getElem?_cons_succ, Nat.reduceLeDiff, Nat.zero_add, Nat.reduceSub, Nat.le_refl, Nat.lt_irrefl]
    refine cut_dup ?_
    cases d
    · rw [cond_false] at g6
      simp -implicitDefEqProofs only [go_sem, Nat.reduceBEq, Nat.reduceAdd, eq_self, true_and, and_true, and_self, List.getElem?_cons_zero, List.getElem?_cons_succ, Nat.reduceLeDiff, Nat.zero_add, Nat.reduceSub, Nat.le_refl, m7]
      refine ⟨⟨.inr trivial, .inr ((ext_live _ _).live _ g4), ⟨.inr (live_last _ _), .inl trivial⟩, by omega⟩, ?_⟩
      refine q2 _ _ ?_
      simp -implicitDefEqProofs only [go_sem, Nat.reduceBEq, Nat.reduceAdd, eq_self, true_and, and_true, and_self, List.getElem?_cons_zero, List.getElem?_cons_succ, Nat.reduceLeDiff, Nat.zero_add, Nat.reduceSub, Nat.le_refl, g8]
      refine ⟨⟨_, rfl, ?_⟩, e1, g3⟩
      rw [hfin, g8, cond_false, ← g6]
      rw [show m7s (out ++ [m]) = m7s out ++ [m7 m] from by simp [m7s]]
      exact ⟨_, _, _, rfl, by simp, .inr ⟨l1, rfl⟩⟩
    · rw [cond_true, List.append_nil] at g6
      simp -implicitDefEqProofs only [go_sem, Nat.reduceBEq, Nat.reduceAdd, eq_self, true_and, and_true, and_self, List.getElem?_cons_zero, List.getElem?_cons_succ, Nat.reduceLeDiff, Nat.zero_add, Nat.reduceSub, Nat.le_refl, m7]
      refine q2 _ _ ?_
      simp -implicitDefEqProofs only [go_sem, Nat.reduceBEq, Nat.reduceAdd, eq_self, true_and, and_true, and_self, List.getElem?_cons_zero, List.getElem?_cons_succ, Nat.reduceLeDiff, Nat.zero_add, Nat.reduceSub, Nat.le_refl, g8]
      refine ⟨⟨_, rfl, ?_⟩, g2, g3⟩
      rw [hfin, g8, cond_false, ← g6]
      exact ⟨_, _, _, rfl, by simp, .inr ⟨g4, rfl⟩⟩
/-- The answer's Do. -/
def rdoL (L : List Mv) (a n p : Sp) : List Mv := bif okF a n p then putL (newM a n p) L else L
def rdoE (L : List Mv) (a n p : Sp) : Int := bif okF a n p then (bif hasA a L then 5 else 0) else 2
set_option maxRecDepth 100000 in
set_option maxHeartbeats 1600000 in
theorem rdo_ok (hv : RdS σ v 7 (m7s L)) (hl : L.length ≤ 1000000) :
    CallA Try.prog 32 [v, spV a, spV n, spV p] σ fun w σ' => (∃ x, w = .tup [x, .int .i64 (rdoE L a n p)] ∧ RdS σ' x 7 (m7s (rdoL L a n p))) ∧ Ext σ σ' ∧ σ'.objs = σ.objs := by
  obtain ⟨b, R, z, rfl, -, -⟩ := id hv
  refine fn_at Try.func32 (by decide) comp32 rfl fun Q q1 q2 => ?_
  have bad : okF a n p = false → rdoE L a n p = 2 ∧ rdoL L a n p = L := fun e => by simp [rdoE, rdoL, e]
  simp -implicitDefEqProofs only [go_sem, Nat.reduceBEq, Nat.reduceAdd, eq_self, true_and, and_true, and_self, List.getElem?_cons_zero, List.getElem?_cons_succ, Nat.reduceLeDiff, Nat.zero_add, Nat.reduceSub, Nat.le_refl, c32, spV, spC]
  refine call_at (rright_ok (s := a)) ?_
  rintro v τ ⟨rfl, rfl⟩
  refine ⟨kept_none, ?_⟩
  cases ha : right a
  · obtain ⟨b1, b2⟩ := bad (by simp [okF, ha])
    rw [b1, b2] at q2
    simp -implicitDefEqProofs only [go_sem, Nat.reduceBEq, Nat.reduceAdd, eq_self, true_and, and_true, and_self, List.getElem?_cons_zero, List.getElem?_cons_succ, Nat.reduceLeDiff, Nat.zero_add, Nat.reduceSub, Nat.le_refl, ha]
    refine q2 _ _ ?_
    simp -implicitDefEqProofs only [go_sem, Nat.reduceBEq, Nat.reduceAdd, eq_self, true_and, and_true, and_self, List.getElem?_cons_zero, List.getElem?_cons_succ, Nat.reduceLeDiff, Nat.zero_add, Nat.reduceSub, Nat.le_refl, Nat.lt_irrefl]
    exact ⟨⟨_, rfl, hv⟩, .refl _⟩
  simp -implicitDefEqProofs only [go_sem, Nat.reduceBEq, Nat.reduceAdd, eq_self, true_and, and_true, and_self, List.getElem?_cons_zero, List.getElem?_cons_succ, Nat.reduceLeDiff, Nat.zero_add, Nat.reduceSub, Nat.le_refl, ha]
  refine call_at (rright_ok (s := n)) ?_
  rintro v τ ⟨rfl, rfl⟩
  refine ⟨kept_none, ?_⟩
  cases hn : right n
  · obtain ⟨b1, b2⟩ := bad (by simp [okF, hn])
    rw [b1, b2] at q2
    simp -implicitDefEqProofs only [go_sem, Nat.reduceBEq, Nat.reduceAdd, eq_self, true_and, and_true, and_self, List.getElem?_cons_zero, List.getElem?_cons_succ, Nat.reduceLeDiff, Nat.zero_add, Nat.reduceSub, Nat.le_refl, hn]
    refine q2 _ _ ?_
    simp -implicitDefEqProofs only [go_sem, Nat.reduceBEq, Nat.reduceAdd, eq_self, true_and, and_true, and_self, List.getElem?_cons_zero, List.getElem?_cons_succ, Nat.reduceLeDiff, Nat.zero_add, Nat.reduceSub, Nat.le_refl, Nat.lt_irrefl]
    exact ⟨⟨_, rfl, hv⟩, .refl _⟩
  simp -implicitDefEqProofs only [go_sem, Nat.reduceBEq, Nat.reduceAdd, eq_self, true_and, and_true, and_self, List.getElem?_cons_zero, List.getElem?_cons_succ, Nat.reduceLeDiff, Nat.zero_add, Nat.reduceSub, Nat.le_refl, hn]
  refine call_at (rnode_ok (s := p)) ?_
  rintro v τ ⟨rfl, rfl⟩
  refine ⟨kept_none, ?_⟩
  cases hp : nodeB p
  · obtain ⟨b1, b2⟩ := bad (by simp [okF, hp])
    rw [b1, b2] at q2
    simp -implicitDefEqProofs only [go_sem, Nat.reduceBEq, Nat.reduceAdd, eq_self, true_and, and_true, and_self, List.getElem?_cons_zero, List.getElem?_cons_succ, Nat.reduceLeDiff, Nat.zero_add, Nat.reduceSub, Nat.le_refl, hp]
    refine q2 _ _ ?_
    simp -implicitDefEqProofs only [go_sem, Nat.reduceBEq, Nat.reduceAdd, eq_self, true_and, and_true, and_self, List.getElem?_cons_zero, List.getElem?_cons_succ, Nat.reduceLeDiff, Nat.zero_add, Nat.reduceSub, Nat.le_refl, Nat.lt_irrefl]
    exact ⟨⟨_, rfl, hv⟩, .refl _⟩
  have hok : okF a n p = true := by simp [okF, ha, hn, hp]
  simp -implicitDefEqProofs only [go_sem, Nat.reduceBEq, Nat.reduceAdd, eq_self, true_and, and_true, and_self, List.getElem?_cons_zero, List.getElem?_cons_succ, Nat.reduceLeDiff, Nat.zero_add, Nat.reduceSub, Nat.le_refl, hp]
  refine call_at (rput_ok (m := newM a n p) hv hl) ?_
  rintro v τ1 ⟨⟨x, rfl, hx⟩, he, ho⟩
  refine ⟨kept_none, ?_⟩
  have hm : (newM a n p).a = a := rfl
  have b1 : rdoE L a n p = (bif hasA a L then 5 else 0) ∧ rdoL L a n p = putL (newM a n p) L := by simp [rdoE, rdoL, hok]
  rw [b1.1, b1.2] at q2
  rw [hm] at *
  have hm : (newM a n p).a = a := rfl
  cases hh : hasA a L
  · rw [hh] at q2
    simp -implicitDefEqProofs only [go_sem, Nat.reduceBEq, Nat.reduceAdd, eq_self, true_and, and_true, and_self, List.getElem?_cons_zero, List.getElem?_cons_succ, Nat.reduceLeDiff, Nat.zero_add, Nat.reduceSub, Nat.le_refl, hh]
    refine q2 _ _ ?_
    simp -implicitDefEqProofs only [go_sem, Nat.reduceBEq, Nat.reduceAdd, eq_self, true_and, and_true, and_self, List.getElem?_cons_zero, List.getElem?_cons_succ, Nat.reduceLeDiff, Nat.zero_add, Nat.reduceSub, Nat.le_refl, Nat.lt_irrefl]
    exact ⟨⟨_, rfl, hx⟩, he, ho⟩
  · rw [hh] at q2
    have : putL (newM a n p) L = L := by simp [putL, hm, hh]
    rw [this] at q2
    simp -implicitDefEqProofs only [go_sem, Nat.reduceBEq, Nat.reduceAdd, eq_self, true_and, and_true, and_self, List.getElem?_cons_zero, List.getElem?_cons_succ, Nat.reduceLeDiff, Nat.zero_add, Nat.reduceSub, Nat.le_refl, hh]
    refine q2 _ _ ?_
    simp -implicitDefEqProofs only [go_sem, Nat.reduceBEq, Nat.reduceAdd, eq_self, true_and, and_true, and_self, List.getElem?_cons_zero, List.getElem?_cons_succ, Nat.reduceLeDiff, Nat.zero_add, Nat.reduceSub, Nat.le_refl, Nat.lt_irrefl]
    exact ⟨⟨_, rfl, hv.ext he⟩, he, ho⟩
theorem rdo_do {D : List Mv} (hs : Srt D) : rdoE (D.map core) a n p = doE D a n p ∧ rdoL (D.map core) a n p = (doD D a n p).map core := by
  have hs' : Srt (D.map core) := srt_core (by rw [List.map_map]; exact List.map_congr_left fun _ _ => rfl) hs
  have hix : ∀ D : List Mv, ix a (D.map core) = ix a D := by
    intro D
    induction D with
    | nil => rfl
    | cons x D ih =>
      simp only [List.map_cons, ix, ih]
      rfl
  have hat : at? a (D.map core) = at? a D := by
    simp only [at?, hix, List.getElem?_map]
    cases D[ix a D]? <;> rfl
  have hh : hasA a (D.map core) = at? a D := by rw [hasA_at hs', hat]
  constructor
  · simp only [rdoE, doE, hh]
  · simp only [rdoL, doD]
    cases okF a n p
    · rfl
    · simp only [cond_true, Bool.true_and, putL]
      rw [show (newM a n p).a = a from rfl, hh]
      cases ha : at? a D
      · simp only [cond_false, Bool.not_false, cond_true, core_runD]
        rw [putT_ins hs' (by rw [show (newM a n p).a = a from rfl, hat, ha])]
        simp only [insD, show (newM a n p).a = a from rfl, hix, List.map_append, List.map_take, List.map_drop, List.map_cons]
        rfl
      · rfl
end
end Go.VL.mov

namespace Go.VL.mov
open Go Go.VL Go.Proofs Go.IntWalk

def plsV (l : List Pl) : List (List V) := l.map plC
def spsV (l : List Sp) : List (List V) := l.map spC
theorem plsV_length (l : List Pl) : (plsV l).length = l.length := by simp [plsV]
theorem spsV_length (l : List Sp) : (spsV l).length = l.length := by simp [spsV]
theorem plsV_get {l : List Pl} {i : Nat} (h : i < l.length) : (plsV l)[((i : Nat) : Int).toNat]?.getD [] = plC l[i] := by simp [plsV, h]
theorem spsV_get {l : List Sp} {i : Nat} (h : i < l.length) : (spsV l)[((i : Nat) : Int).toNat]?.getD [] = spC l[i] := by simp [spsV, h]
def lookR (x : Sp) (R : List Pl) : Option Pl := R.find? fun p => decide (p.n = x)
def SrtP (R : List Pl) : Prop := R.Pairwise fun x y => less x.n y.n = true
/-- The places in order, as the answer has them. -/
structure Canon (R : List Pl) (W : Tr) : Prop where
  srt : SrtP R
  look : ∀ x, lookR x R = W x
def setT (p : Pl) : List Pl → Bool → List Pl
  | [], d => bif d then [] else [p]
  | y :: R, d => bif decide (y.n = p.n) then setT p R d else bif !d && less p.n y.n then p :: y :: setT p R true else y :: setT p R d
theorem setT_len (p : Pl) : ∀ (R : List Pl) (d : Bool), (setT p R d).length ≤ R.length + (bif d then 0 else 1)
  | [], d => by cases d <;> simp [setT]
  | y :: R, d => by
    have h1 := setT_len p R true
    have h2 := setT_len p R d
    simp only [cond_true] at h1
    simp only [setT]
    cases decide (y.n = p.n) <;> cases hx : (!d && less p.n y.n) <;> simp only [cond_true, cond_false, List.length_cons]
    · omega
    · have : d = false := by simpa using (Bool.and_eq_true_iff.1 hx).1
      subst this
      simp only [cond_false]; omega
    · omega
    · omega
theorem setT_mem {p y : Pl} : ∀ {R : List Pl} {d : Bool}, y ∈ setT p R d → y = p ∨ y ∈ R
  | [], d, h => by cases d <;> simp [setT] at h; exact .inl h
  | z :: R, d, h => by
    simp only [setT] at h
    cases h1 : decide (z.n = p.n) <;> rw [h1] at h
    · cases h2 : (!d && less p.n z.n) <;> rw [h2] at h <;> simp only [cond_true, cond_false, List.mem_cons] at h ⊢
      · rcases h with h | h
        · exact .inr (.inl h)
        · exact (setT_mem h).imp_right .inr
      · rcases h with h | h | h
        · exact .inl h
        · exact .inr (.inl h)
        · exact (setT_mem h).imp_right .inr
    · exact (setT_mem h).imp_right fun h => List.mem_cons.2 (.inr h)
theorem setT_sub (p : Pl) : ∀ R : List Pl, (setT p R true).Sublist R
  | [] => .slnil
  | y :: R => by
    simp only [setT]
    cases decide (y.n = p.n)
    · simp only [cond_false, Bool.not_true, Bool.false_and]; exact (setT_sub p R).cons_cons _
    · exact (setT_sub p R).trans (List.sublist_cons_self _ _)
theorem setT_look (p : Pl) (x : Sp) : ∀ (R : List Pl) (d : Bool), lookR x (setT p R d) = if x = p.n then (bif d then none else some p) else lookR x R
  | [], d => by
    cases d <;> simp only [setT, cond_true, cond_false, lookR, List.find?_nil, List.find?_cons]
    · by_cases h : x = p.n
      · simp [h]
      · simp [h, Ne.symm h]
    · split <;> rfl
  | y :: R, d => by
    have ih := fun d => setT_look p x R d
    have hc : ∀ z : Pl, ∀ l, lookR x (z :: l) = if z.n = x then some z else lookR x l := fun z l => by
      simp only [lookR, List.find?_cons]
      by_cases h : z.n = x <;> simp [h]
    simp only [setT]
    by_cases h1 : y.n = p.n
    · simp only [h1, decide_true, cond_true, ih, hc]
      by_cases h : x = p.n
      · simp [h]
      · simp [h, Ne.symm h]
    · simp only [h1, decide_false, cond_false]
      cases hx : (!d && less p.n y.n) <;> simp only [cond_true, cond_false, ih, hc]
      · by_cases h : x = p.n
        · simp only [h, h1, if_false]
        · simp only [h, if_false]
      · have : d = false := by simpa using (Bool.and_eq_true_iff.1 hx).1
        subst this
        by_cases h : x = p.n
        · simp [h]
        · simp [h, Ne.symm h]
theorem setT_srt (p : Pl) : ∀ {R : List Pl}, SrtP R → SrtP (setT p R false)
  | [], _ => by simp [SrtP, setT]
  | y :: R, hs => by
    obtain ⟨h1, h2⟩ := List.pairwise_cons.1 hs
    simp only [setT]
    by_cases e : y.n = p.n
    · simp only [e, decide_true, cond_true]; exact setT_srt p h2
    · simp only [e, decide_false, cond_false, Bool.not_false, Bool.true_and]
      cases hl : less p.n y.n <;> simp only [cond_true, cond_false]
      · refine List.pairwise_cons.2 ⟨fun z hz => ?_, setT_srt p h2⟩
        rcases setT_mem hz with hz | hz
        · rw [hz]
          cases hh : less y.n p.n with
          | true => rfl
          | false => exact absurd (less_total hh hl) e
        · exact h1 z hz
      · refine List.pairwise_cons.2 ⟨fun z hz => ?_, List.pairwise_cons.2 ⟨fun z hz => h1 z ((setT_sub p R).mem hz), List.Pairwise.sublist (setT_sub p R) h2⟩⟩
        rcases List.mem_cons.1 hz with hz | hz
        · rw [hz]; exact hl
        · exact less_trans hl (h1 z ((setT_sub p R).mem hz))
theorem Canon.set {R : List Pl} {W : Tr} (h : Canon R W) (p : Pl) : Canon (setT p R false) (put W p.n (some p)) :=
  ⟨setT_srt p h.srt, fun x => by rw [setT_look, h.look]; rfl⟩
theorem canon0 : Canon [] W0 := ⟨.nil, fun _ => rfl⟩
theorem lookR_take {R : List Pl} {i : Nat} {x : Sp} (hi : i < R.length) (h : lookR x (R.take i) = none) : lookR x R = if R[i].n = x then some R[i] else lookR x (R.drop (i + 1)) := by
  have e : R = R.take i ++ R[i] :: R.drop (i + 1) := by rw [← List.drop_eq_getElem_cons hi, List.take_append_drop]
  have : lookR x (R.take i ++ R[i] :: R.drop (i + 1)) = if R[i].n = x then some R[i] else lookR x (R.drop (i + 1)) := by
    simp only [lookR, List.find?_append] at h ⊢
    rw [h, Option.none_or, List.find?_cons]
    by_cases h : R[i].n = x <;> simp [h]
  rwa [← e] at this
theorem lookR_take' {R : List Pl} {i : Nat} {x : Sp} (hi : i < R.length) (h : lookR x (R.take i) = none) (hn : R[i].n ≠ x) : lookR x (R.take (i + 1)) = none := by
  rw [List.take_succ_eq_append_getElem hi]
  simp only [lookR, List.find?_append] at h ⊢
  rw [h]; simp [hn]

section
variable {σ : St} {R : List Pl} {l : List Sp} {W : Tr} {p : Pl} {v : V} {x : Sp}
set_option maxRecDepth 100000 in
set_option maxHeartbeats 1600000 in
theorem rwhere_ok (hv : RdS σ v 6 (plsV R)) (hl : R.length ≤ 1000000) :
    CallA Try.prog 23 [v, spV x] σ fun w σ' => ((lookR x R = none ∧ w = .int .i64 (-1)) ∨ ∃ (k : Nat) (h : k < R.length), lookR x R = some R[k] ∧ w = .int .i64 k) ∧ σ' = σ := by
  obtain ⟨b, RR, z, rfl, -, -⟩ := id hv
  refine fn_at Try.func23 (by decide) comp23 rfl fun Q q1 q2 => ?_
  simp -implicitDefEqProofs only [go_sem, Nat.reduceBEq, Nat.reduceAdd, eq_self, true_and, and_true, and_self, List.getElem?_cons_zero, List.getElem?_cons_succ, Nat.reduceLeDiff, Nat.zero_add, Nat.reduceSub, Nat.le_refl, c23, spV, spC]
  refine loop_at (fun (i : Nat) => ⟨[(0, .v (.sl b RR z (plsV R))), (3, .loc 3 0), (5, .v (.int .i64 i))], [(3, spC x)]⟩)
    (fun i τ' => i ≤ R.length ∧ τ' = σ ∧ lookR x (R.take i) = none) (fun i => R.length - i) 0 ?_ ?_ ?_
  · exact .inr (by simp [go_sem, spC])
  · exact ⟨Nat.zero_le _, rfl, rfl⟩
  rintro i τ' ⟨g1, hτ, g3⟩ Z z1 z2 z3
  have hτ := hτ.symm
  subst hτ
  simp -implicitDefEqProofs only [go_sem, Nat.reduceBEq, Nat.reduceAdd, eq_self, true_and, and_true, and_self, List.getElem?_cons_zero, List.getElem?_cons_succ, Nat.reduceLeDiff, Nat.zero_add, Nat.reduceSub, Nat.le_refl, spC]
  refine CondW_b (fun hcc => ?_) (fun hcc => ?_)
  · have hi : i < R.length := by simpa [plsV_length] using hcc
    obtain ⟨k1, k2⟩ := rdl hv (by cases R <;> simp [plsV] at hi ⊢)
    have hget := plsV_get hi
    have hib : (i : Int) < (plsV R).length := by rw [plsV_length]; omega
    have hw64 : IntKind.i64.wrap ((i : Int) + 1) = ((i + 1 : Nat) : Int) := by rw [i64_in _ (by omega)]; omega
    have e1 := lookR_take hi g3
    by_cases hn : R[i].n = x
    · have hd : decide (R[i].n = x) = true := by simp [hn]
      rw [if_pos hn] at e1
      simp -implicitDefEqProofs only [go_sem, Nat.reduceBEq, Nat.reduceAdd, eq_self, true_and, and_true, and_self, List.getElem?_cons_zero, List.getElem?_cons_succ, Nat.reduceLeDiff, Nat.zero_add, Nat.reduceSub, Nat.le_refl, hget, plC, spC, sp_eqs, hd]
      repeat refine ⟨⟨by omega, hib, k2⟩, k1, ?_⟩
      refine z3 _ _ ?_
      simp -implicitDefEqProofs only [go_sem, Nat.reduceBEq, Nat.reduceAdd, eq_self, true_and, and_true, and_self, List.getElem?_cons_zero, List.getElem?_cons_succ, Nat.reduceLeDiff, Nat.zero_add, Nat.reduceSub, Nat.le_refl, Nat.lt_irrefl]
      refine q2 _ _ ?_
      simp -implicitDefEqProofs only [go_sem, Nat.reduceBEq, Nat.reduceAdd, eq_self, true_and, and_true, and_self, List.getElem?_cons_zero, List.getElem?_cons_succ, Nat.reduceLeDiff, Nat.zero_add, Nat.reduceSub, Nat.le_refl, Nat.lt_irrefl]
      exact .inr ⟨i, hi, e1, rfl⟩
    · have hd : decide (R[i].n = x) = false := by simp [hn]
      have e2 := lookR_take' hi g3 hn
      simp -implicitDefEqProofs only [go_sem, Nat.reduceBEq, Nat.reduceAdd, eq_self, true_and, and_true, and_self, List.getElem?_cons_zero, List.getElem?_cons_succ, Nat.reduceLeDiff, Nat.zero_add, Nat.reduceSub, Nat.le_refl, hget, plC, spC, sp_eqs, hd]
      repeat refine ⟨⟨by omega, hib, k2⟩, k1, ?_⟩
      simp -implicitDefEqProofs only [go_sem, Nat.reduceBEq, Nat.reduceAdd, eq_self, true_and, and_true, and_self, List.getElem?_cons_zero, List.getElem?_cons_succ, Nat.reduceLeDiff, Nat.zero_add, Nat.reduceSub, Nat.le_refl, hw64]
      refine z1 (i + 1) _ _ (.inr ?_) (by omega) ⟨by omega, rfl, e2⟩
      simp -implicitDefEqProofs only [go_sem, Nat.reduceBEq, Nat.reduceAdd, eq_self, true_and, and_true, and_self, List.getElem?_cons_zero, List.getElem?_cons_succ, Nat.reduceLeDiff, Nat.zero_add, Nat.reduceSub, Nat.le_refl, spC]
      try trivial
  · have hi : ¬ i < R.length := by simpa [plsV_length] using hcc
    rw [List.take_of_length_le (by omega)] at g3
    simp -implicitDefEqProofs only [go_sem, Nat.reduceBEq, Nat.reduceAdd, eq_self, true_and, and_true, and_self, List.getElem?_cons_zero, List.getElem?_cons_succ, Nat.reduceLeDiff, Nat.zero_add, Nat.reduceSub, Nat.le_refl, Nat.lt_irrefl]
    refine z2 _ _ _ ?_
    simp -implicitDefEqProofs only [go_sem, Nat.reduceBEq, Nat.reduceAdd, eq_self, true_and, and_true, and_self, List.getElem?_cons_zero, List.getElem?_cons_succ, Nat.reduceLeDiff, Nat.zero_add, Nat.reduceSub, Nat.le_refl, Nat.lt_irrefl]
    refine q2 _ _ ?_
    simp -implicitDefEqProofs only [go_sem, Nat.reduceBEq, Nat.reduceAdd, eq_self, true_and, and_true, and_self, List.getElem?_cons_zero, List.getElem?_cons_succ, Nat.reduceLeDiff, Nat.zero_add, Nat.reduceSub, Nat.le_refl, Nat.lt_irrefl]
    exact .inl g3
set_option maxRecDepth 100000 in
set_option maxHeartbeats 1600000 in
theorem has_ok (hv : RdS σ v 2 (spsV l)) (hl : l.length ≤ 1000000) :
    CallA Try.prog 21 [v, spV x] σ fun w σ' => w = .bool (decide (x ∈ l)) ∧ σ' = σ := by
  obtain ⟨b, RR, z, rfl, -, -⟩ := id hv
  refine fn_at Try.func21 (by decide) comp21 rfl fun Q q1 q2 => ?_
  simp -implicitDefEqProofs only [go_sem, Nat.reduceBEq, Nat.reduceAdd, eq_self, true_and, and_true, and_self, List.getElem?_cons_zero, List.getElem?_cons_succ, Nat.reduceLeDiff, Nat.zero_add, Nat.reduceSub, Nat.le_refl, c21, spV, spC]
  refine loop_at (fun (i : Nat) => ⟨[(0, .v (.sl b RR z (spsV l))), (3, .loc 3 0), (5, .v (.int .i64 i))], [(3, spC x)]⟩)
    (fun i τ' => i ≤ l.length ∧ τ' = σ ∧ x ∉ l.take i) (fun i => l.length - i) 0 ?_ ?_ ?_
  · exact .inr (by simp [go_sem, spC])
  · exact ⟨Nat.zero_le _, rfl, by simp⟩
  rintro i τ' ⟨g1, hτ, g3⟩ Z z1 z2 z3
  have hτ := hτ.symm
  subst hτ
  simp -implicitDefEqProofs only [go_sem, Nat.reduceBEq, Nat.reduceAdd, eq_self, true_and, and_true, and_self, List.getElem?_cons_zero, List.getElem?_cons_succ, Nat.reduceLeDiff, Nat.zero_add, Nat.reduceSub, Nat.le_refl, spC]
  refine CondW_b (fun hcc => ?_) (fun hcc => ?_)
  · have hi : i < l.length := by simpa [spsV_length] using hcc
    obtain ⟨k1, k2⟩ := rdl hv (by cases l <;> simp [spsV] at hi ⊢)
    have hget := spsV_get hi
    have hib : (i : Int) < (spsV l).length := by rw [spsV_length]; omega
    have hw64 : IntKind.i64.wrap ((i : Int) + 1) = ((i + 1 : Nat) : Int) := by rw [i64_in _ (by omega)]; omega
    by_cases hn : l[i] = x
    · have hd : decide (l[i] = x) = true := by simp [hn]
      have hm : decide (x ∈ l) = true := by simp only [decide_eq_true_eq]; rw [← hn]; exact List.getElem_mem hi
      rw [hm] at q2
      simp -implicitDefEqProofs only [go_sem, Nat.reduceBEq, Nat.reduceAdd, eq_self, true_and, and_true, and_self, List.getElem?_cons_zero, List.getElem?_cons_succ, Nat.reduceLeDiff, Nat.zero_add, Nat.reduceSub, Nat.le_refl, hget, spC, sp_eqs, hd]
      repeat refine ⟨⟨by omega, hib, k2⟩, k1, ?_⟩
      refine z3 _ _ ?_
      simp -implicitDefEqProofs only [go_sem, Nat.reduceBEq, Nat.reduceAdd, eq_self, true_and, and_true, and_self, List.getElem?_cons_zero, List.getElem?_cons_succ, Nat.reduceLeDiff, Nat.zero_add, Nat.reduceSub, Nat.le_refl, Nat.lt_irrefl]
      refine q2 _ _ ?_
      simp -implicitDefEqProofs only [go_sem, Nat.reduceBEq, Nat.reduceAdd, eq_self, true_and, and_true, and_self, List.getElem?_cons_zero, List.getElem?_cons_succ, Nat.reduceLeDiff, Nat.zero_add, Nat.reduceSub, Nat.le_refl, Nat.lt_irrefl]
      try first | exact ⟨trivial, trivial⟩ | exact ⟨trivial, rfl⟩ | exact ⟨rfl, rfl⟩ | exact ⟨rfl, trivial⟩ | trivial
    · have hd : decide (l[i] = x) = false := by simp [hn]
      simp -implicitDefEqProofs only [go_sem, Nat.reduceBEq, Nat.reduceAdd, eq_self, true_and, and_true, and_self, List.getElem?_cons_zero, List.getElem?_cons_succ, Nat.reduceLeDiff, Nat.zero_add, Nat.reduceSub, Nat.le_refl, hget, spC, sp_eqs, hd]
      repeat refine ⟨⟨by omega, hib, k2⟩, k1, ?_⟩
      simp -implicitDefEqProofs only [go_sem, Nat.reduceBEq, Nat.reduceAdd, eq_self, true_and, and_true, and_self, List.getElem?_cons_zero, List.getElem?_cons_succ, Nat.reduceLeDiff, Nat.zero_add, Nat.reduceSub, Nat.le_refl, hw64]
      refine z1 (i + 1) _ _ (.inr ?_) (by omega) ⟨by omega, rfl, ?_⟩
      · simp -implicitDefEqProofs only [go_sem, Nat.reduceBEq, Nat.reduceAdd, eq_self, true_and, and_true, and_self, List.getElem?_cons_zero, List.getElem?_cons_succ, Nat.reduceLeDiff, Nat.zero_add, Nat.reduceSub, Nat.le_refl, spC]
        try trivial
      · rw [List.take_succ_eq_append_getElem hi]
        simp only [List.mem_append, List.mem_singleton, not_or]
        exact ⟨g3, Ne.symm hn⟩
  · have hi : ¬ i < l.length := by simpa [spsV_length] using hcc
    rw [List.take_of_length_le (by omega)] at g3
    have hm : decide (x ∈ l) = false := by simp [g3]
    rw [hm] at q2
    simp -implicitDefEqProofs only [go_sem, Nat.reduceBEq, Nat.reduceAdd, eq_self, true_and, and_true, and_self, List.getElem?_cons_zero, List.getElem?_cons_succ, Nat.reduceLeDiff, Nat.zero_add, Nat.reduceSub, Nat.le_refl, Nat.lt_irrefl]
    refine z2 _ _ _ ?_
    simp -implicitDefEqProofs only [go_sem, Nat.reduceBEq, Nat.reduceAdd, eq_self, true_and, and_true, and_self, List.getElem?_cons_zero, List.getElem?_cons_succ, Nat.reduceLeDiff, Nat.zero_add, Nat.reduceSub, Nat.le_refl, Nat.lt_irrefl]
    refine q2 _ _ ?_
    simp -implicitDefEqProofs only [go_sem, Nat.reduceBEq, Nat.reduceAdd, eq_self, true_and, and_true, and_self, List.getElem?_cons_zero, List.getElem?_cons_succ, Nat.reduceLeDiff, Nat.zero_add, Nat.reduceSub, Nat.le_refl, Nat.lt_irrefl]
    try first | exact ⟨trivial, trivial⟩ | exact ⟨trivial, rfl⟩ | exact ⟨rfl, rfl⟩ | exact ⟨rfl, trivial⟩ | trivial
end
end Go.VL.mov

namespace Go.VL.mov
open Go Go.VL Go.Proofs Go.IntWalk

theorem Chain.none' {W : Tr} {x : Sp} {l : List Sp} (h : Chain W x l) (hw : W x = none) : l = [] := by
  cases h with
  | nil => rfl
  | cons h' => rw [hw] at h'; cases h'
theorem Chain.some' {W : Tr} {x : Sp} {l : List Sp} {p : Pl} (h : Chain W x l) (hw : W x = some p) : ∃ l', l = p.p :: l' ∧ Chain W p.p l' := by
  cases h with
  | nil h' => rw [hw] at h'; cases h'
  | cons h' k => rw [hw] at h'; cases h'; exact ⟨_, rfl, k⟩
theorem drop_cons {α : Type} {l : List α} {t : Nat} {y : α} {r : List α} (h : l.drop t = y :: r) : t < l.length ∧ l.take (t + 1) = l.take t ++ [y] ∧ l.drop (t + 1) = r := by
  have ht : t < l.length := by
    rcases Nat.lt_or_ge t l.length with h1 | h1
    · exact h1
    · rw [List.drop_of_length_le h1] at h; cases h
  rw [List.drop_eq_getElem_cons ht] at h
  simp only [List.cons.injEq] at h
  exact ⟨ht, by rw [List.take_succ_eq_append_getElem ht, h.1], h.2⟩
/-- How long a way up is, with places in a list. -/
theorem Canon.chain_len {R : List Pl} {W : Tr} (h : Canon R W) (hA : Acy W) {x : Sp} {l : List Sp} (hc : Chain W x l) : l.length ≤ R.length := by
  obtain ⟨f, hf⟩ := hA
  have := hc.len hf (K := R.map (·.n)) (fun y p hy _ => by
    rw [← h.look] at hy
    have h1 := List.find?_some hy
    have h2 := List.mem_of_find?_eq_some hy
    exact List.mem_map.2 ⟨p, h2, by simpa using h1⟩)
  simpa using this

section
variable {σ : St} {R : List Pl} {l : List Sp} {W : Tr} {p : Pl} {v : V} {x : Sp} {L : List Mv}
set_option maxRecDepth 100000 in
set_option maxHeartbeats 1600000 in
theorem rabove_ok (hv : RdS σ v 6 (plsV R)) (hl : R.length ≤ 1000000) (hC : ∀ x, lookR x R = W x) (hc : Chain W x l) (hll : l.length ≤ R.length) :
    CallA Try.prog 25 [v, spV x] σ fun w σ' => RdS σ' w 2 (spsV l) ∧ Ext σ σ' ∧ σ'.objs = σ.objs := by
  obtain ⟨b, RR, z, rfl, -, -⟩ := id hv
  refine fn_at Try.func25 (by decide) comp25 rfl fun Q q1 q2 => ?_
  simp -implicitDefEqProofs only [go_sem, Nat.reduceBEq, Nat.reduceAdd, eq_self, true_and, and_true, and_self, List.getElem?_cons_zero, List.getElem?_cons_succ, Nat.reduceLeDiff, Nat.zero_add, Nat.reduceSub, Nat.le_refl, c25, spV, spC]
  refine loop_at (fun (x : Nat × Nat × Sp) => ⟨[(0, .v (.sl b RR z (plsV R))), (3, .loc 3 0), (5, .v (.sl false (.own x.2.1) 2 (spsV (l.take x.1)))), (6, .v (.int .i64 x.1))], [(3, spC x.2.2)]⟩)
    (fun x τ' => x.1 ≤ l.length ∧ Ext σ τ' ∧ τ'.objs = σ.objs ∧ τ'.live[x.2.1]? = some true ∧ σ.live.length ≤ x.2.1 ∧ Chain W x.2.2 (l.drop x.1)) (fun x => l.length - x.1) (0, σ.live.length, x) ?_ ?_ ?_
  · exact .inr (by simp [go_sem, spsV, spC])
  · exact ⟨Nat.zero_le _, ext_live σ true, rfl, live_last _ _, Nat.le_refl _, hc⟩
  rintro ⟨t, q, y⟩ τ' ⟨g1, g2, g3, g4, g5, g6⟩ Z z1 z2 z3
  simp only at g1 g4 g5 g6
  have hd : decide ((t : Int) ≤ (plsV R).length) = true := by rw [plsV_length]; simp; omega
  have hsz : (spsV (l.take t)).length ≤ 1000000 := by rw [spsV_length, List.length_take]; omega
  have hw64 : IntKind.i64.wrap ((t : Int) + 1) = ((t + 1 : Nat) : Int) := by rw [i64_in _ (by omega)]; omega
  simp -implicitDefEqProofs only [go_sem, Nat.reduceBEq, Nat.reduceAdd, eq_self, true_and, and_true, and_self, List.getElem?_cons_zero, List.getElem?_cons_succ, Nat.reduceLeDiff, Nat.zero_add, Nat.reduceSub, Nat.le_refl, hd, spC]
  refine call_at (rwhere_ok (x := y) (hv.ext g2) hl) ?_
  rintro v τ1 ⟨hcase, rfl⟩
  refine ⟨kept_none, ?_⟩
  rcases hcase with ⟨hn, rfl⟩ | ⟨k, hk, hn, rfl⟩
  · rw [hC] at hn
    have he := g6.none' hn
    have htl : l.take t = l := List.take_of_length_le (List.drop_eq_nil_iff.1 he)
    have h0 : decide ((-1 : Int) < 0) = true := by decide
    simp -implicitDefEqProofs only [go_sem, Nat.reduceBEq, Nat.reduceAdd, eq_self, true_and, and_true, and_self, List.getElem?_cons_zero, List.getElem?_cons_succ, Nat.reduceLeDiff, Nat.zero_add, Nat.reduceSub, Nat.le_refl, h0]
    refine z3 _ _ ?_
    simp -implicitDefEqProofs only [go_sem, Nat.reduceBEq, Nat.reduceAdd, eq_self, true_and, and_true, and_self, List.getElem?_cons_zero, List.getElem?_cons_succ, Nat.reduceLeDiff, Nat.zero_add, Nat.reduceSub, Nat.le_refl, Nat.lt_irrefl]
    refine q2 _ _ ?_
    simp -implicitDefEqProofs only [go_sem, Nat.reduceBEq, Nat.reduceAdd, eq_self, true_and, and_true, and_self, List.getElem?_cons_zero, List.getElem?_cons_succ, Nat.reduceLeDiff, Nat.zero_add, Nat.reduceSub, Nat.le_refl, htl]
    exact ⟨⟨_, _, _, rfl, by simp, .inr ⟨g4, rfl⟩⟩, g2, g3⟩
  · rw [hC] at hn
    obtain ⟨l', he, hc'⟩ := g6.some' hn
    obtain ⟨ht, e1, e2⟩ := drop_cons he
    have h0 : decide ((k : Int) < 0) = false := by simp
    obtain ⟨k1, k2⟩ := rdl (hv.ext g2) (by cases R <;> simp [plsV] at hk ⊢)
    have hget := plsV_get hk
    have hib : (k : Int) < (plsV R).length := by rw [plsV_length]; omega
    rw [← e2] at hc'
    generalize R[k] = r at *
    simp -implicitDefEqProofs only [go_sem, Nat.reduceBEq, Nat.reduceAdd, eq_self, true_and, and_true, and_self, List.getElem?_cons_zero, List.getElem?_cons_succ, Nat.reduceLeDiff, Nat.zero_add, Nat.reduceSub, Nat.le_refl, h0, hget, plC]
    refine ⟨⟨by omega, hib, k2⟩, k1, ?_⟩
    refine ⟨⟨.inr trivial, .inr ((ext_live _ _).live _ g4), ⟨.inr (live_last _ _), .inl trivial⟩, by omega⟩, ?_⟩
    simp -implicitDefEqProofs only [go_sem, Nat.reduceBEq, Nat.reduceAdd, eq_self, true_and, and_true, and_self, List.getElem?_cons_zero, List.getElem?_cons_succ, Nat.reduceLeDiff, Nat.zero_add, Nat.reduceSub, Nat.le_refl, hw64]
    refine z1 (t + 1, _, r.p) _ _ (.inr ?_) (by simp only; omega) ⟨by simp only; omega, ext_kill (ext_push g2) g5, g3, live_last' _ _ _, by have := g2.llen; simp only [List.length_append, List.length_cons, List.length_nil]; omega, hc'⟩
    simp -implicitDefEqProofs only [go_sem, Nat.reduceBEq, Nat.reduceAdd, eq_self, true_and, and_true, and_self, List.getElem?_cons_zero, List.getElem?_cons_succ, Nat.reduceLeDiff, Nat.zero_add, Nat.reduceSub, Nat.le_refl, spC, spsV, e1, List.map_append, List.map_cons, List.map_nil]
    try trivial
set_option maxRecDepth 100000 in
set_option maxHeartbeats 3200000 in
theorem rset_ok (hv : RdS σ v 6 (plsV R)) (hl : R.length ≤ 1000000) :
    CallA Try.prog 42 [v, .agg (plC p)] σ fun w σ' => NewS σ σ' w 6 (plsV (setT p R false)) ∧ Ext σ σ' ∧ σ'.objs = σ.objs := by
  obtain ⟨b, RR, z, rfl, -, -⟩ := id hv
  refine fn_at Try.func42 (by decide) comp42 rfl fun Q q1 q2 => ?_
  simp -implicitDefEqProofs only [go_sem, Nat.reduceBEq, Nat.reduceAdd, eq_self, true_and, and_true, and_self, List.getElem?_cons_zero, List.getElem?_cons_succ, Nat.reduceLeDiff, Nat.zero_add, Nat.reduceSub, Nat.le_refl, c42, plC]
  refine loop_at (fun (x : Nat × Nat × List Pl × Bool) => ⟨[(0, .v (.sl b RR z (plsV R))), (3, .loc 3 0), (5, .v (.sl false (.own x.2.1) 6 (plsV x.2.2.1))), (6, .v (.bool x.2.2.2)), (7, .v (.int .i64 x.1))], [(3, plC p)]⟩)
    (fun x τ' => x.1 ≤ R.length ∧ Ext σ τ' ∧ τ'.objs = σ.objs ∧ τ'.live[x.2.1]? = some true ∧ σ.live.length ≤ x.2.1 ∧ x.2.2.1 ++ setT p (R.drop x.1) x.2.2.2 = setT p R false ∧ x.2.2.1.length ≤ 2 * x.1) (fun x => R.length - x.1) (0, σ.live.length, [], false) ?_ ?_ ?_
  · exact .inr (by simp [go_sem, plsV, plC])
  · exact ⟨Nat.zero_le _, ext_live σ true, rfl, live_last _ _, Nat.le_refl _, rfl, Nat.le_refl _⟩
  rintro ⟨i, q, out, d⟩ τ' ⟨g1, g2, g3, g4, g5, g6, g7⟩ Z z1 z2 z3
  simp only at g1 g4 g5 g6 g7
  have hsz : (plsV out).length ≤ 2000002 := by rw [plsV_length]; omega
  simp -implicitDefEqProofs only [go_sem, Nat.reduceBEq, Nat.reduceAdd, eq_self, true_and, and_true, and_self, List.getElem?_cons_zero, List.getElem?_cons_succ, Nat.reduceLeDiff, Nat.zero_add, Nat.reduceSub, Nat.le_refl, plC]
  refine CondW_b (fun hcc => ?_) (fun hcc => ?_)
  · have hi : i < R.length := by simpa [plsV_length] using hcc
    obtain ⟨k1, k2⟩ := rdl (hv.ext g2) (by cases R <;> simp [plsV] at hi ⊢)
    have hget := plsV_get hi
    have hib : (i : Int) < (plsV R).length := by rw [plsV_length]; omega
    have hw64 : IntKind.i64.wrap ((i : Int) + 1) = ((i + 1 : Nat) : Int) := by rw [i64_in _ (by omega)]; omega
    rw [List.drop_eq_getElem_cons hi] at g6
    generalize R[i] = y at hget g6
    simp only [setT] at g6
    have next : ∀ (F : Fr) (q' : Nat) (τ2 : St) (out' : List Pl) (d' : Bool), out' ++ setT p (R.drop (i + 1)) d' = setT p R false → out'.length ≤ out.length + 2 →
        FrLe ⟨[(0, .v (.sl b RR z (plsV R))), (3, .loc 3 0), (5, .v (.sl false (.own q') 6 (plsV out'))), (6, .v (.bool d')), (7, .v (.int .i64 ((i + 1 : Nat) : Int)))], [(3, plC p)]⟩ F →
        Ext σ τ2 → τ2.objs = σ.objs → τ2.live[q']? = some true → σ.live.length ≤ q' → Z .normal F τ2 := by
      intro F q' τ2 out' d' hp hlen hF h1 h2 h3 h4
      exact z1 (i + 1, q', out', d') F τ2 hF (by simp only; omega) ⟨by simp only; omega, h1, h2, h3, h4, hp, by simp only; omega⟩
    have e1 := ext_kill (b := true) (ext_push (b := true) g2) g5
    have l1 : (St.mk τ'.objs (kill (τ'.live ++ [true]) (.own q) ++ [true])).live[(τ'.live ++ [true]).length]? = some true := live_last' _ _ _
    have n1 : σ.live.length ≤ (τ'.live ++ [true]).length := by have := g2.llen; simp only [List.length_append, List.length_cons, List.length_nil]; omega
    simp -implicitDefEqProofs only [go_sem, Nat.reduceBEq, Nat.reduceAdd, eq_self, true_and, and_true, and_self, List.getElem?_cons_zero, List.getElem?_cons_succ, Nat.reduceLeDiff, Nat.zero_add, Nat.reduceSub, Nat.le_refl, Nat.lt_irrefl]
    refine cut_dup ?_
    cases hxa : decide (y.n = p.n)
    case true =>
      rw [hxa, cond_true] at g6
      simp -implicitDefEqProofs only [go_sem, Nat.reduceBEq, Nat.reduceAdd, eq_self, true_and, and_true, and_self, List.getElem?_cons_zero, List.getElem?_cons_succ, Nat.reduceLeDiff, Nat.zero_add, Nat.reduceSub, Nat.le_refl, hget, plC, sp_eqs, hxa]
      repeat refine ⟨⟨by omega, hib, k2⟩, k1, ?_⟩
      simp -implicitDefEqProofs only [go_sem, Nat.reduceBEq, Nat.reduceAdd, eq_self, true_and, and_true, and_self, List.getElem?_cons_zero, List.getElem?_cons_succ, Nat.reduceLeDiff, Nat.zero_add, Nat.reduceSub, Nat.le_refl, hw64]
      refine next _ _ _ out d g6 (by omega) (.inr ?_) g2 g3 g4 g5
      simp -implicitDefEqProofs only [go_sem, Nat.reduceBEq, Nat.reduceAdd, eq_self, true_and, and_true, and_self, List.getElem?_cons_zero, List.getElem?_cons_succ, Nat.reduceLeDiff, Nat.zero_add, Nat.reduceSub, Nat.le_refl, plC]
      try trivial
    rw [hxa, cond_false] at g6
    simp -implicitDefEqProofs only [go_sem, Nat.reduceBEq, Nat.reduceAdd, eq_self, true_and, and_true, and_self, List.getElem?_cons_zero, List.getElem?_cons_succ, Nat.reduceLeDiff, Nat.zero_add, Nat.reduceSub, Nat.le_refl, hget, plC, sp_eqs, hxa]
    repeat refine ⟨⟨by omega, hib, k2⟩, k1, ?_⟩
    refine cut_dup ?_
    cases d
    case true =>
      rw [Bool.not_true, Bool.false_and, cond_false] at g6
      simp -implicitDefEqProofs only [go_sem, Nat.reduceBEq, Nat.reduceAdd, eq_self, true_and, and_true, and_self, List.getElem?_cons_zero, List.getElem?_cons_succ, Nat.reduceLeDiff, Nat.zero_add, Nat.reduceSub, Nat.le_refl, hget, plC]
      refine ⟨⟨by omega, hib, k2⟩, k1, ?_⟩
      refine ⟨⟨.inr trivial, .inr ((ext_live _ _).live _ g4), ⟨.inr (live_last _ _), .inl trivial⟩, by omega⟩, ?_⟩
      refine next _ _ _ (out ++ [y]) true (by rw [List.append_assoc]; exact g6) (by simp) (.inr ?_) e1 g3 l1 n1
      simp -implicitDefEqProofs only [go_sem, Nat.reduceBEq, Nat.reduceAdd, eq_self, true_and, and_true, and_self, List.getElem?_cons_zero, List.getElem?_cons_succ, Nat.reduceLeDiff, Nat.zero_add, Nat.reduceSub, Nat.le_refl, hw64, plC, plsV, List.map_append, List.map_cons, List.map_nil]
      try trivial
    case false =>
      simp -implicitDefEqProofs only [go_sem, Nat.reduceBEq, Nat.reduceAdd, eq_self, true_and, and_true, and_self, List.getElem?_cons_zero, List.getElem?_cons_succ, Nat.reduceLeDiff, Nat.zero_add, Nat.reduceSub, Nat.le_refl, hget, plC]
      repeat refine ⟨⟨by omega, hib, k2⟩, k1, ?_⟩
      refine call_at (less_ok (a := p.n) (b := y.n)) ?_
      rintro v τ1 ⟨rfl, rfl⟩
      refine ⟨(Ext.refl _).kept, ?_⟩
      cases hls : less p.n y.n
      · rw [hls, Bool.not_false, Bool.true_and, cond_false] at g6
        simp -implicitDefEqProofs only [go_sem, Nat.reduceBEq, Nat.reduceAdd, eq_self, true_and, and_true, and_self, List.getElem?_cons_zero, List.getElem?_cons_succ, Nat.reduceLeDiff, Nat.zero_add, Nat.reduceSub, Nat.le_refl, hls, hget, plC]
        refine ⟨⟨by omega, hib, k2⟩, k1, ?_⟩
        refine ⟨⟨.inr trivial, .inr ((ext_live _ _).live _ g4), ⟨.inr (live_last _ _), .inl trivial⟩, by omega⟩, ?_⟩
        refine next _ _ _ (out ++ [y]) false (by rw [List.append_assoc]; exact g6) (by simp) (.inr ?_) e1 g3 l1 n1
        simp -implicitDefEqProofs only [go_sem, Nat.reduceBEq, Nat.reduceAdd, eq_self, true_and, and_true, and_self, List.getElem?_cons_zero, List.getElem?_cons_succ, Nat.reduceLeDiff, Nat.zero_add, Nat.reduceSub, Nat.le_refl, hw64, plC, plsV, List.map_append, List.map_cons, List.map_nil]
        try trivial
      · rw [hls, Bool.not_false, Bool.true_and, cond_true] at g6
        simp -implicitDefEqProofs only [go_sem, Nat.reduceBEq, Nat.reduceAdd, eq_self, true_and, and_true, and_self, List.getElem?_cons_zero, List.getElem?_cons_succ, Nat.reduceLeDiff, Nat.zero_add, Nat.reduceSub, Nat.le_refl, hls, hget, plC]
        refine ⟨⟨.inr trivial, .inr ((ext_live _ _).live _ g4), ⟨.inr (live_last _ _), .inl trivial⟩, by omega⟩, ?_⟩
        have k3 := rdl (hv.ext e1) (by cases R <;> simp [plsV] at hi ⊢)
        refine ⟨⟨by omega, hib, k2⟩, k3.1, ?_⟩
        refine ⟨⟨.inr trivial, .inr ((ext_live _ _).live _ l1), ⟨.inr (live_last _ _), .inl trivial⟩, by first | omega | (simp only [List.length_append, List.length_cons, List.length_nil]; omega)⟩, ?_⟩
        refine next _ _ _ (out ++ [p, y]) true (by rw [List.append_assoc]; exact g6) (by simp) (.inr ?_) (ext_kill (ext_push e1) n1) g3 (live_last' _ _ _) (by have := e1.llen; simp only [kill, List.length_append, List.length_cons, List.length_nil] at this ⊢; omega)
        simp -implicitDefEqProofs only [go_sem, Nat.reduceBEq, Nat.reduceAdd, eq_self, true_and, and_true, and_self, List.getElem?_cons_zero, List.getElem?_cons_succ, Nat.reduceLeDiff, Nat.zero_add, Nat.reduceSub, Nat.le_refl, hw64, plC, plsV, List.map_append, List.map_cons, List.map_nil, List.append_assoc, List.cons_append, List.nil_append]
        try trivial
  · have hi : ¬ i < R.length := by simpa [plsV_length] using hcc
    have hio : i = R.length := by omega
    subst hio
    rw [List.drop_length, setT] at g6
    have e1 := ext_kill (b := true) (ext_push (b := true) g2) g5
    have l1 : (St.mk τ'.objs (kill (τ'.live ++ [true]) (.own q) ++ [true])).live[(τ'.live ++ [true]).length]? = some true := live_last' _ _ _
    simp -implicitDefEqProofs only [go_sem, Nat.reduceBEq, Nat.reduceAdd, eq_self, true_and, and_true, and_self, List.getElem?_cons_zero, List.getElem?_cons_succ, Nat.reduceLeDiff, Nat.zero_add, Nat.reduceSub, Nat.le_refl, Nat.lt_irrefl]
    refine z2 _ _ _ ?_
    simp -implicitDefEqProofs only [go_sem, Nat.reduceBEq, Nat.reduceAdd, eq_self, true_and, and_true, and_self, List.getElem?_cons_zero, List.getElem?_cons_succ, Nat.reduceLeDiff, Nat.zero_add, Nat.reduceSub, Nat.le_refl, Nat.lt_irrefl]
    refine cut_dup ?_
    cases d
    · rw [cond_false] at g6
      simp -implicitDefEqProofs only [go_sem, Nat.reduceBEq, Nat.reduceAdd, eq_self, true_and, and_true, and_self, List.getElem?_cons_zero, List.getElem?_cons_succ, Nat.reduceLeDiff, Nat.zero_add, Nat.reduceSub, Nat.le_refl, plC]
      refine ⟨⟨.inr trivial, .inr ((ext_live _ _).live _ g4), ⟨.inr (live_last _ _), .inl trivial⟩, by omega⟩, ?_⟩
      refine q2 _ _ ?_
      simp -implicitDefEqProofs only [go_sem, Nat.reduceBEq, Nat.reduceAdd, eq_self, true_and, and_true, and_self, List.getElem?_cons_zero, List.getElem?_cons_succ, Nat.reduceLeDiff, Nat.zero_add, Nat.reduceSub, Nat.le_refl, Nat.lt_irrefl]
      refine ⟨?_, e1, g3⟩
      rw [← g6, show plsV (out ++ [p]) = plsV out ++ [plC p] from by simp [plsV]]
      exact ⟨_, rfl, l1, by have := g2.llen; simp only [List.length_append, List.length_cons, List.length_nil]; omega⟩
    · rw [cond_true, List.append_nil] at g6
      simp -implicitDefEqProofs only [go_sem, Nat.reduceBEq, Nat.reduceAdd, eq_self, true_and, and_true, and_self, List.getElem?_cons_zero, List.getElem?_cons_succ, Nat.reduceLeDiff, Nat.zero_add, Nat.reduceSub, Nat.le_refl, plC]
      refine q2 _ _ ?_
      simp -implicitDefEqProofs only [go_sem, Nat.reduceBEq, Nat.reduceAdd, eq_self, true_and, and_true, and_self, List.getElem?_cons_zero, List.getElem?_cons_succ, Nat.reduceLeDiff, Nat.zero_add, Nat.reduceSub, Nat.le_refl, Nat.lt_irrefl]
      refine ⟨?_, g2, g3⟩
      rw [← g6]
      exact ⟨_, rfl, g4, g5⟩
end
end Go.VL.mov

namespace Go.VL.mov
open Go Go.VL Go.Proofs Go.IntWalk

section
variable {σ : St} {v : V} {L : List Mv}
set_option maxRecDepth 100000 in
set_option maxHeartbeats 3200000 in
theorem rdone_ok (hv : RdS σ v 7 (m7s L)) (hl : L.length ≤ 1000000) :
    CallA Try.prog 22 [v] σ fun w σ' => (∃ x y R, w = .tup [x, y] ∧ Canon R (runT W0 L) ∧ R.length ≤ L.length ∧ RdS σ' x 6 (plsV R) ∧ RdS σ' y 7 (m7s (runD W0 L))) ∧ Ext σ σ' ∧ σ'.objs = σ.objs := by
  obtain ⟨b, RR, z, rfl, -, -⟩ := id hv
  refine fn_at Try.func22 (by decide) comp22 rfl fun Q q1 q2 => ?_
  simp -implicitDefEqProofs only [go_sem, Nat.reduceBEq, Nat.reduceAdd, eq_self, true_and, and_true, and_self, List.getElem?_cons_zero, List.getElem?_cons_succ, Nat.reduceLeDiff, Nat.zero_add, Nat.reduceSub, Nat.le_refl, c22]
  refine loop_at (fun (x : Nat × Nat × List Pl × Nat) => ⟨[(0, .v (.sl b RR z (m7s L))), (4, .v (.sl false (.own x.2.2.2) 6 (plsV x.2.2.1))), (5, .v (.sl false (.own x.2.1) 7 (m7s (runD W0 (L.take x.1))))), (6, .v (.int .i64 x.1))], []⟩)
    (fun x τ' => x.1 ≤ L.length ∧ Ext σ τ' ∧ τ'.objs = σ.objs ∧ τ'.live[x.2.1]? = some true ∧ σ.live.length ≤ x.2.1 ∧ Canon x.2.2.1 (runT W0 (L.take x.1)) ∧ x.2.2.1.length ≤ x.1 ∧ τ'.live[x.2.2.2]? = some true ∧ x.2.2.2 ≠ x.2.1) (fun x => L.length - x.1)
    (0, (σ.live ++ [true]).length, [], σ.live.length) ?_ ?_ ?_
  · exact .inr (by simp [go_sem, plsV, m7s, runD])
  · refine ⟨Nat.zero_le _, (ext_live σ true).trans (ext_live _ true), rfl, live_last _ _, by simp, canon0, Nat.le_refl _, ?_, by simp⟩
    show (σ.live ++ [true] ++ [true])[σ.live.length]? = some true
    rw [List.getElem?_append_left (by simp)]
    simp
  rintro ⟨i, q, Rl, t⟩ τ' ⟨g1, g2, g3, g4, g5, g6, g7, g8, g9⟩ Z z1 z2 z3
  simp only at g1 g4 g5 g6 g7 g8 g9
  have hsz : (m7s (runD W0 (L.take i))).length ≤ 1000000 := by rw [m7s_length, runD_length, List.length_take]; omega
  simp -implicitDefEqProofs only [go_sem, Nat.reduceBEq, Nat.reduceAdd, eq_self, true_and, and_true, and_self, List.getElem?_cons_zero, List.getElem?_cons_succ, Nat.reduceLeDiff, Nat.zero_add, Nat.reduceSub, Nat.le_refl, Nat.lt_irrefl]
  refine CondW_b (fun hcc => ?_) (fun hcc => ?_)
  · have hi : i < L.length := by simpa [m7s_length] using hcc
    obtain ⟨k1, k2⟩ := rdl (hv.ext g2) (by cases L <;> simp [m7s] at hi ⊢)
    have hget := m7s_get hi
    have hib : (i : Int) < (m7s L).length := by rw [m7s_length]; omega
    have hw64 : IntKind.i64.wrap ((i : Int) + 1) = ((i + 1 : Nat) : Int) := by rw [i64_in _ (by omega)]; omega
    obtain ⟨e1, e2⟩ := run_take hi
    have hA := acyT (L.take i)
    generalize L[i] = m at hget e1 e2
    have fin : ∀ (F : Fr) (τ2 : St) (R2 : List Pl) (t2 : Nat), Ext τ' τ2 → τ2.objs = τ'.objs → Canon R2 (runT W0 (L.take (i + 1))) → R2.length ≤ i + 1 → τ2.live[t2]? = some true → t2 ≠ q → t2 < τ2.live.length →
        FrLe ⟨[(0, .v (.sl b RR z (m7s L))), (4, .v (.sl false (.own t2) 6 (plsV R2))), (5, .v (.sl false (.own (τ2.live ++ [true]).length) 7 (m7s (runD W0 (L.take (i + 1)))))), (6, .v (.int .i64 ((i + 1 : Nat) : Int)))], []⟩ F →
        Z .normal F ⟨τ2.objs, (τ2.live ++ [true]).set q false ++ [true]⟩ := by
      intro F τ2 R2 t2 h1 h2 h3 h4 h5 h6 h7 hF
      refine z1 (i + 1, (τ2.live ++ [true]).length, R2, t2) F _ hF (by simp only; omega) ⟨by simp only; omega, ext_kill (ext_push (g2.trans h1)) g5, h2.trans g3, live_last' _ _ _, by have := (g2.trans h1).llen; simp only [List.length_append, List.length_cons, List.length_nil]; omega, h3, h4, ?_, by simp only [List.length_append, List.length_cons, List.length_nil]; omega⟩
      show ((τ2.live ++ [true]).set q false ++ [true])[t2]? = some true
      rw [List.getElem?_append_left (by simp; omega), List.getElem?_set_ne (Ne.symm h6), List.getElem?_append_left h7]
      exact h5
    have htl : t < τ'.live.length := (List.getElem?_eq_some_iff.1 g8).1
    have hql : q < τ'.live.length := (List.getElem?_eq_some_iff.1 g4).1
    generalize hW : runT W0 (L.take i) = W at *
    generalize runD W0 (L.take i) = out at *
    have hrt : RdS τ' (.sl false (.own t) 6 (plsV Rl)) 6 (plsV Rl) := ⟨_, _, _, rfl, by simp, .inr ⟨g8, rfl⟩⟩
    have hst : stepW W m = bif ben W m.p m.n then W else put W m.n (some (pl m)) := rfl
    have hmk : m7 (mark W m) = [.int .i64 m.a.c, .int .i64 m.a.r, .int .i64 m.n.c, .int .i64 m.n.r, .int .i64 m.p.c, .int .i64 m.p.r, .bool (!ben W m.p m.n)] := rfl
    by_cases hnp : m.n = m.p
    · have hd : decide (m.n = m.p) = true := by simp [hnp]
      have hb : ben W m.p m.n = true := by rw [hnp]; exact ben_self _ _
      rw [hb] at hst hmk
      simp -implicitDefEqProofs only [go_sem, Nat.reduceBEq, Nat.reduceAdd, eq_self, true_and, and_true, and_self, List.getElem?_cons_zero, List.getElem?_cons_succ, Nat.reduceLeDiff, Nat.zero_add, Nat.reduceSub, Nat.le_refl, hget, m7, sp_eqs, hd]
      refine ⟨⟨by omega, hib, k2⟩, k1, ?_⟩
      refine cut_dup ?_
      simp -implicitDefEqProofs only [go_sem, Nat.reduceBEq, Nat.reduceAdd, eq_self, true_and, and_true, and_self, List.getElem?_cons_zero, List.getElem?_cons_succ, Nat.reduceLeDiff, Nat.zero_add, Nat.reduceSub, Nat.le_refl, Nat.lt_irrefl]
      refine ⟨⟨.inr trivial, .inr ((ext_live _ _).live _ g4), ⟨.inr (live_last _ _), .inl trivial⟩, by omega⟩, ?_⟩
      simp -implicitDefEqProofs only [go_sem, Nat.reduceBEq, Nat.reduceAdd, eq_self, true_and, and_true, and_self, List.getElem?_cons_zero, List.getElem?_cons_succ, Nat.reduceLeDiff, Nat.zero_add, Nat.reduceSub, Nat.le_refl, hw64]
      refine fin _ τ' Rl t (.refl _) rfl (by rw [e1, hst]; exact g6) (by omega) g8 g9 htl (.inr ?_)
      simp -implicitDefEqProofs only [go_sem, Nat.reduceBEq, Nat.reduceAdd, eq_self, true_and, and_true, and_self, List.getElem?_cons_zero, List.getElem?_cons_succ, Nat.reduceLeDiff, Nat.zero_add, Nat.reduceSub, Nat.le_refl, e2, m7s, List.map_append, List.map_cons, List.map_nil, hmk]
      try trivial
    have hd : decide (m.n = m.p) = false := by simp [hnp]
    obtain ⟨l, hch⟩ := hA.chain m.p
    have hll := g6.chain_len hA hch
    have hb : ben W m.p m.n = decide (m.n ∈ l) := by
      rw [Bool.eq_iff_iff, ben_iff, hch.ben]
      simp [Ne.symm hnp]
    simp -implicitDefEqProofs only [go_sem, Nat.reduceBEq, Nat.reduceAdd, eq_self, true_and, and_true, and_self, List.getElem?_cons_zero, List.getElem?_cons_succ, Nat.reduceLeDiff, Nat.zero_add, Nat.reduceSub, Nat.le_refl, hget, m7, sp_eqs, hd]
    refine ⟨⟨by omega, hib, k2⟩, k1, ?_⟩
    refine call_at (rabove_ok (x := m.p) hrt (by omega) g6.look hch hll) ?_
    rintro v τ2 ⟨hx, he2, ho2⟩
    refine ⟨he2.kept, ?_⟩
    simp -implicitDefEqProofs only [go_sem, Nat.reduceBEq, Nat.reduceAdd, eq_self, true_and, and_true, and_self, List.getElem?_cons_zero, List.getElem?_cons_succ, Nat.reduceLeDiff, Nat.zero_add, Nat.reduceSub, Nat.le_refl, Nat.lt_irrefl]
    refine call_at (has_ok (x := m.n) hx (by omega)) ?_
    rintro v τ3 ⟨rfl, rfl⟩
    refine ⟨(Ext.refl _).kept, ?_⟩
    have ht3 := he2.live _ g8
    have hq3 := he2.live _ g4
    have htl3 : t < τ3.live.length := (List.getElem?_eq_some_iff.1 ht3).1
    cases hin : decide (m.n ∈ l)
    · rw [hb, hin] at hst hmk
      simp -implicitDefEqProofs only [go_sem, Nat.reduceBEq, Nat.reduceAdd, eq_self, true_and, and_true, and_self, List.getElem?_cons_zero, List.getElem?_cons_succ, Nat.reduceLeDiff, Nat.zero_add, Nat.reduceSub, Nat.le_refl, hin]
      refine cut_dup ?_
      simp -implicitDefEqProofs only [go_sem, Nat.reduceBEq, Nat.reduceAdd, eq_self, true_and, and_true, and_self, List.getElem?_cons_zero, List.getElem?_cons_succ, Nat.reduceLeDiff, Nat.zero_add, Nat.reduceSub, Nat.le_refl, Nat.lt_irrefl]
      refine call_at (rset_ok (p := pl m) (R := Rl) ⟨_, _, _, rfl, by simp, .inr ⟨ht3, rfl⟩⟩ (by omega)) ?_
      rintro v τ4 ⟨⟨t4, rfl, h4l, h4n⟩, he4, ho4⟩
      refine ⟨kept_none, ?_⟩
      have hq4 := he4.live _ hq3
      have hql3 : q < τ3.live.length := (List.getElem?_eq_some_iff.1 hq3).1
      have hlen4 := setT_len (pl m) Rl false
      simp only [cond_false] at hlen4
      simp -implicitDefEqProofs only [go_sem, Nat.reduceBEq, Nat.reduceAdd, eq_self, true_and, and_true, and_self, List.getElem?_cons_zero, List.getElem?_cons_succ, Nat.reduceLeDiff, Nat.zero_add, Nat.reduceSub, Nat.le_refl, Nat.lt_irrefl]
      refine ⟨⟨.inr trivial, .inr ((ext_live _ _).live _ hq4), ⟨.inr (live_last _ _), .inl trivial⟩, by omega⟩, ?_⟩
      simp -implicitDefEqProofs only [go_sem, Nat.reduceBEq, Nat.reduceAdd, eq_self, true_and, and_true, and_self, List.getElem?_cons_zero, List.getElem?_cons_succ, Nat.reduceLeDiff, Nat.zero_add, Nat.reduceSub, Nat.le_refl, hw64]
      refine fin _ τ4 (setT (pl m) Rl false) t4 (he2.trans he4) (ho4.trans ho2) (by rw [e1, hst]; exact g6.set (pl m)) (by omega) h4l (by omega) (List.getElem?_eq_some_iff.1 h4l).1 (.inr ?_)
      simp -implicitDefEqProofs only [go_sem, Nat.reduceBEq, Nat.reduceAdd, eq_self, true_and, and_true, and_self, List.getElem?_cons_zero, List.getElem?_cons_succ, Nat.reduceLeDiff, Nat.zero_add, Nat.reduceSub, Nat.le_refl, e2, m7s, List.map_append, List.map_cons, List.map_nil, hmk]
      try trivial
    · rw [hb, hin] at hst hmk
      simp -implicitDefEqProofs only [go_sem, Nat.reduceBEq, Nat.reduceAdd, eq_self, true_and, and_true, and_self, List.getElem?_cons_zero, List.getElem?_cons_succ, Nat.reduceLeDiff, Nat.zero_add, Nat.reduceSub, Nat.le_refl, hin]
      refine cut_dup ?_
      simp -implicitDefEqProofs only [go_sem, Nat.reduceBEq, Nat.reduceAdd, eq_self, true_and, and_true, and_self, List.getElem?_cons_zero, List.getElem?_cons_succ, Nat.reduceLeDiff, Nat.zero_add, Nat.reduceSub, Nat.le_refl, Nat.lt_irrefl]
      refine ⟨⟨.inr trivial, .inr ((ext_live _ _).live _ hq3), ⟨.inr (live_last _ _), .inl trivial⟩, by omega⟩, ?_⟩
      simp -implicitDefEqProofs only [go_sem, Nat.reduceBEq, Nat.reduceAdd, eq_self, true_and, and_true, and_self, List.getElem?_cons_zero, List.getElem?_cons_succ, Nat.reduceLeDiff, Nat.zero_add, Nat.reduceSub, Nat.le_refl, hw64]
      refine fin _ τ3 Rl t he2 ho2 (by rw [e1, hst]; exact g6) (by omega) ht3 g9 htl3 (.inr ?_)
      simp -implicitDefEqProofs only [go_sem, Nat.reduceBEq, Nat.reduceAdd, eq_self, true_and, and_true, and_self, List.getElem?_cons_zero, List.getElem?_cons_succ, Nat.reduceLeDiff, Nat.zero_add, Nat.reduceSub, Nat.le_refl, e2, m7s, List.map_append, List.map_cons, List.map_nil, hmk]
      try trivial
  · have hi : ¬ i < L.length := by simpa [m7s_length] using hcc
    have hio : i = L.length := by omega
    subst hio
    rw [List.take_length] at *
    simp -implicitDefEqProofs only [go_sem, Nat.reduceBEq, Nat.reduceAdd, eq_self, true_and, and_true, and_self, List.getElem?_cons_zero, List.getElem?_cons_succ, Nat.reduceLeDiff, Nat.zero_add, Nat.reduceSub, Nat.le_refl, Nat.lt_irrefl]
    refine z2 _ _ _ ?_
    simp -implicitDefEqProofs only [go_sem, Nat.reduceBEq, Nat.reduceAdd, eq_self, true_and, and_true, and_self, List.getElem?_cons_zero, List.getElem?_cons_succ, Nat.reduceLeDiff, Nat.zero_add, Nat.reduceSub, Nat.le_refl, Nat.lt_irrefl]
    refine q2 _ _ ?_
    simp -implicitDefEqProofs only [go_sem, Nat.reduceBEq, Nat.reduceAdd, eq_self, true_and, and_true, and_self, List.getElem?_cons_zero, List.getElem?_cons_succ, Nat.reduceLeDiff, Nat.zero_add, Nat.reduceSub, Nat.le_refl, Nat.lt_irrefl]
    exact ⟨⟨_, _, Rl, rfl, g6, g7, ⟨_, _, _, rfl, by simp, .inr ⟨g8, rfl⟩⟩, ⟨_, _, _, rfl, by simp, .inr ⟨g4, rfl⟩⟩⟩, g2, g3⟩
end
end Go.VL.mov

namespace Go.VL.mov
open Go Go.VL Go.Proofs Go.IntWalk

theorem rdS_up {S : Nat → Prop} {σ τ : St} {v : V} {s : Nat} {es : List (List V)} (h : RdS σ v s es) (hu : UpdS S σ τ) : RdS τ v s es := by
  obtain ⟨b', r', s', h1, h2, h3⟩ := h
  refine ⟨b', r', s', h1, h2, h3.imp_right fun y => ⟨?_, y.2⟩⟩
  have := y.1
  cases r' with
  | pub => trivial
  | own q => exact hu.live q this
  | view q => exact hu.live q this
theorem UpdS.toExt {S : Nat → Prop} {σ a b : St} (h : UpdS S a b) (k : Ext σ a) (hs : ∀ j, S j → σ.objs.length ≤ j) : Ext σ b :=
  ⟨fun j o x => h.objs j o (fun hj => by have := hs j hj; have := (List.getElem?_eq_some_iff.1 x).1; omega) (k.objs j o x), fun r x => h.live r (k.live r x), Nat.le_trans k.olen h.olen, Nat.le_trans k.llen h.llen⟩
theorem kept_upd {S : Nat → Prop} {σ τ : St} (h : UpdS S σ τ) : Kept (some []) σ τ := by
  intro L hL
  cases hL
  exact ⟨fun j hj => (by cases hj), fun r hr => h.live r hr⟩
theorem TreeIs.ext {σ τ : St} {i m : Nat} {s : V} {D : List Mv} (h : TreeIs σ i m s D) (he : Ext σ τ) : TreeIs τ i m s D := ⟨h.tree.ext he, h.runs, h.srt⟩
/-- Each move may be. -/
def OkD (D : List Mv) : Prop := ∀ x ∈ D, okF x.a x.n x.p = true
theorem okD_core {D : List Mv} : OkD (D.map core) ↔ OkD D := by
  simp only [OkD, List.mem_map, forall_exists_index, and_imp, forall_apply_eq_imp_iff₂]
  exact Iff.rfl
theorem okD_ins {D : List Mv} {x : Mv} (h : OkD D) (hx : okF x.a x.n x.p = true) : OkD (insD D x) := by
  intro y hy
  rcases List.mem_append.1 hy with hy | hy
  · exact h y (List.mem_of_mem_take hy)
  · rcases List.mem_cons.1 hy with hy | hy
    · rw [hy]; exact hx
    · exact h y (List.mem_of_mem_drop hy)
theorem okD_do {D : List Mv} (h : OkD D) (a n p : Sp) : OkD (doD D a n p) := by
  unfold doD
  cases hb : okF a n p && !at? a D
  · exact h
  · rw [cond_true, ← okD_core, core_runD, okD_core]
    exact okD_ins h (Bool.and_eq_true_iff.1 hb).1

theorem acsV_get {l : List Ac} {i : Nat} (h : i < l.length) : (acsV l)[((i : Nat) : Int).toNat]?.getD [] = acC l[i] := by simp [acsV, h]

section
variable {σ : St} {v : V} {l : List Ac}
set_option maxRecDepth 100000 in
set_option maxHeartbeats 3200000 in
theorem made_ok (hv : RdS σ v 7 (acsV l)) (hl : l.length ≤ 1048576) :
    CallA Try.prog 11 [v] σ fun w σ' => ∃ i m s x D, w = .tup [.ptr (some (i, 0)), x] ∧ TreeIs σ' i m s D ∧ RdS σ' x 7 (m7s (D.map core)) ∧ D.length ≤ 200 ∧ OkD D ∧ Ext σ σ' := by
  obtain ⟨b, RR, z, rfl, -, -⟩ := id hv
  refine fn_at Try.func11 (by decide) comp11 rfl fun Q q1 q2 => ?_
  simp -implicitDefEqProofs only [go_sem, Nat.reduceBEq, Nat.reduceAdd, eq_self, true_and, and_true, and_self, List.getElem?_cons_zero, List.getElem?_cons_succ, Nat.reduceLeDiff, Nat.zero_add, Nat.reduceSub, Nat.le_refl, c11]
  refine call_at new_ok ?_
  rintro v τ ⟨rfl, h0, he0, hl0⟩
  refine ⟨kept_none, ?_⟩
  have hi0 : σ.objs.length ≤ σ.objs.length + 1 := Nat.le_succ _
  generalize σ.objs.length + 1 = i at *
  have hm0 : σ.objs.length ≤ σ.objs.length := Nat.le_refl _
  generalize hm : σ.objs.length = m at *
  simp -implicitDefEqProofs only [go_sem, Nat.reduceBEq, Nat.reduceAdd, eq_self, true_and, and_true, and_self, List.getElem?_cons_zero, List.getElem?_cons_succ, Nat.reduceLeDiff, Nat.zero_add, Nat.reduceSub, Nat.le_refl, Nat.lt_irrefl]
  refine loop_at (fun (x : Nat × V × List Mv × V) => ⟨[(0, .v (.sl b RR z (acsV l))), (4, .v (.ptr (some (i, 0)))), (5, .v x.2.1), (6, .v (.int .i64 x.1))], []⟩)
    (fun x τ' => x.1 ≤ l.length ∧ x.1 ≤ 200 ∧ TreeIs τ' i m x.2.2.2 x.2.2.1 ∧ RdS τ' x.2.1 7 (m7s (x.2.2.1.map core)) ∧ x.2.2.1.length ≤ x.1 ∧ OkD x.2.2.1 ∧ Ext σ τ' ∧ ∀ k, Own i m x.2.2.2 k → σ.objs.length ≤ k) (fun x => l.length - x.1)
    (0, .sl false (.own τ.live.length) 7 [], [], .sl true .pub 0 []) ?_ ?_ ?_
  · exact .inr (by simp [go_sem])
  · refine ⟨Nat.zero_le _, Nat.zero_le _, tree_new (h0.ext (ext_live τ true)), ⟨_, _, _, rfl, by simp [m7s], .inr ⟨live_last _ _, rfl⟩⟩, Nat.le_refl _, fun x hx => (by cases hx), he0.trans (ext_live _ _), ?_⟩
    rintro k (hk | hk | ⟨_, _, _, hk⟩)
    · rw [hk, hm]; exact hi0
    · rw [hk, hm]; exact hm0
    · cases hk
  rintro ⟨k, x, D, s⟩ τ' ⟨g1, g2, g3, g4, g5, g6, g7, g8⟩ Z z1 z2 z3
  simp only at g1 g2 g3 g4 g5 g6 g8
  obtain ⟨xb, xR, xz, rfl, -, -⟩ := id g4
  by_cases hk : k < l.length
  case neg =>
    have hd : decide ((k : Int) < (acsV l).length) = false := by rw [acsV_length]; simp; omega
    simp -implicitDefEqProofs only [go_sem, Nat.reduceBEq, Nat.reduceAdd, eq_self, true_and, and_true, and_self, List.getElem?_cons_zero, List.getElem?_cons_succ, Nat.reduceLeDiff, Nat.zero_add, Nat.reduceSub, Nat.le_refl, hd]
    refine z2 _ _ _ ?_
    simp -implicitDefEqProofs only [go_sem, Nat.reduceBEq, Nat.reduceAdd, eq_self, true_and, and_true, and_self, List.getElem?_cons_zero, List.getElem?_cons_succ, Nat.reduceLeDiff, Nat.zero_add, Nat.reduceSub, Nat.le_refl, Nat.lt_irrefl]
    refine q2 _ _ ?_
    simp -implicitDefEqProofs only [go_sem, Nat.reduceBEq, Nat.reduceAdd, eq_self, true_and, and_true, and_self, List.getElem?_cons_zero, List.getElem?_cons_succ, Nat.reduceLeDiff, Nat.zero_add, Nat.reduceSub, Nat.le_refl, Nat.lt_irrefl]
    exact ⟨i, m, s, _, D, rfl, g3, g4, by omega, g6, g7⟩
  have hd : decide ((k : Int) < (acsV l).length) = true := by rw [acsV_length]; simp; omega
  by_cases hk2 : k < 200
  case neg =>
    have hd2 : decide ((k : Int) < 200) = false := by simp; omega
    simp -implicitDefEqProofs only [go_sem, Nat.reduceBEq, Nat.reduceAdd, eq_self, true_and, and_true, and_self, List.getElem?_cons_zero, List.getElem?_cons_succ, Nat.reduceLeDiff, Nat.zero_add, Nat.reduceSub, Nat.le_refl, hd, hd2]
    refine z2 _ _ _ ?_
    simp -implicitDefEqProofs only [go_sem, Nat.reduceBEq, Nat.reduceAdd, eq_self, true_and, and_true, and_self, List.getElem?_cons_zero, List.getElem?_cons_succ, Nat.reduceLeDiff, Nat.zero_add, Nat.reduceSub, Nat.le_refl, Nat.lt_irrefl]
    refine q2 _ _ ?_
    simp -implicitDefEqProofs only [go_sem, Nat.reduceBEq, Nat.reduceAdd, eq_self, true_and, and_true, and_self, List.getElem?_cons_zero, List.getElem?_cons_succ, Nat.reduceLeDiff, Nat.zero_add, Nat.reduceSub, Nat.le_refl, Nat.lt_irrefl]
    exact ⟨i, m, s, _, D, rfl, g3, g4, by omega, g6, g7⟩
  have hd2 : decide ((k : Int) < 200) = true := by simp; omega
  obtain ⟨k1, k2⟩ := rdl (hv.ext g7) (by cases l <;> simp [acsV] at hk ⊢)
  have hget := acsV_get hk
  have hib : (k : Int) < (acsV l).length := by rw [acsV_length]; omega
  have hw64 : IntKind.i64.wrap ((k : Int) + 1) = ((k + 1 : Nat) : Int) := by rw [i64_in _ (by omega)]; omega
  generalize l[k] = c at hget
  simp -implicitDefEqProofs only [go_sem, Nat.reduceBEq, Nat.reduceAdd, eq_self, true_and, and_true, and_self, List.getElem?_cons_zero, List.getElem?_cons_succ, Nat.reduceLeDiff, Nat.zero_add, Nat.reduceSub, Nat.le_refl, hd, hd2]
  refine cut_dup ?_
  simp -implicitDefEqProofs only [go_sem, Nat.reduceBEq, Nat.reduceAdd, eq_self, true_and, and_true, and_self, List.getElem?_cons_zero, List.getElem?_cons_succ, Nat.reduceLeDiff, Nat.zero_add, Nat.reduceSub, Nat.le_refl, hget, acC]
  refine ⟨⟨by omega, hib, k2⟩, k1, ?_⟩
  cases hkd : decide (c.kind = 0)
  · simp -implicitDefEqProofs only [go_sem, Nat.reduceBEq, Nat.reduceAdd, eq_self, true_and, and_true, and_self, List.getElem?_cons_zero, List.getElem?_cons_succ, Nat.reduceLeDiff, Nat.zero_add, Nat.reduceSub, Nat.le_refl, hkd, hw64]
    refine z1 (k + 1, _, D, s) _ _ (.inr ?_) (by simp only; omega) ⟨by simp only; omega, by simp only; omega, g3, g4, by simp only; omega, g6, g7, g8⟩
    simp -implicitDefEqProofs only [go_sem, Nat.reduceBEq, Nat.reduceAdd, eq_self, true_and, and_true, and_self, List.getElem?_cons_zero, List.getElem?_cons_succ, Nat.reduceLeDiff, Nat.zero_add, Nat.reduceSub, Nat.le_refl, Nat.lt_irrefl]
    try trivial
  simp -implicitDefEqProofs only [go_sem, Nat.reduceBEq, Nat.reduceAdd, eq_self, true_and, and_true, and_self, List.getElem?_cons_zero, List.getElem?_cons_succ, Nat.reduceLeDiff, Nat.zero_add, Nat.reduceSub, Nat.le_refl, hkd, hget, acC]
  repeat refine ⟨⟨by omega, hib, k2⟩, k1, ?_⟩
  refine call_at (do_ok (a := c.a) (n := c.n) (p := c.p) g3 (by omega)) ?_
  rintro v τ1 ⟨rfl, s', ht', hto⟩
  refine ⟨kept_upd hto.upd, ?_⟩
  have g7' := hto.upd.toExt g7 g8
  obtain ⟨k1', k2'⟩ := rdl (hv.ext g7') (by cases l <;> simp [acsV] at hk ⊢)
  have g4' := rdS_up g4 hto.upd
  simp -implicitDefEqProofs only [go_sem, Nat.reduceBEq, Nat.reduceAdd, eq_self, true_and, and_true, and_self, List.getElem?_cons_zero, List.getElem?_cons_succ, Nat.reduceLeDiff, Nat.zero_add, Nat.reduceSub, Nat.le_refl, hget, acC]
  repeat refine ⟨⟨by omega, hib, k2⟩, k1', ?_⟩
  refine call_at (rdo_ok (a := c.a) (n := c.n) (p := c.p) g4' (by rw [List.length_map]; omega)) ?_
  rintro v τ2 ⟨⟨x', rfl, hx'⟩, he2, ho2⟩
  refine ⟨he2.kept, ?_⟩
  have hle := doD_le D c.a c.n c.p
  rw [(rdo_do g3.srt).2] at hx'
  simp -implicitDefEqProofs only [go_sem, Nat.reduceBEq, Nat.reduceAdd, eq_self, true_and, and_true, and_self, List.getElem?_cons_zero, List.getElem?_cons_succ, Nat.reduceLeDiff, Nat.zero_add, Nat.reduceSub, Nat.le_refl, hw64]
  refine z1 (k + 1, x', doD D c.a c.n c.p, s') _ _ (.inr ?_) (by simp only; omega) ⟨by simp only; omega, by simp only; omega, ht'.ext he2, hx', by simp only; omega, okD_do g6 _ _ _, g7'.trans he2, fun j hj => (hto.own j hj).elim (g8 j) fun h => Nat.le_trans g7.olen h⟩
  simp -implicitDefEqProofs only [go_sem, Nat.reduceBEq, Nat.reduceAdd, eq_self, true_and, and_true, and_self, List.getElem?_cons_zero, List.getElem?_cons_succ, Nat.reduceLeDiff, Nat.zero_add, Nat.reduceSub, Nat.le_refl, Nat.lt_irrefl]
  try trivial
end
end Go.VL.mov

namespace Go.VL.mov
open Go Go.VL Go.Proofs Go.IntWalk

theorem ix_self {D : List Mv} (hs : Srt D) {k : Nat} (h : k < D.length) : ix D[k].a D = k := by
  have h1 := ix_iff (a := D[k].a) hs
  have h2 : ¬ k < ix D[k].a D := fun hh => by
    have := (h1 k h).2 hh
    rw [less_irr] at this; cases this
  rcases Nat.lt_or_ge (ix D[k].a D) k with hlt | hge
  · have hl : ix D[k].a D < D.length := by omega
    have h3 : less D[ix D[k].a D].a D[k].a = true := (List.pairwise_iff_getElem.1 hs) _ _ hl h hlt
    have := (h1 _ hl).1 h3
    omega
  · omega
theorem cnt_self {D : List Mv} (hs : Srt D) {k : Nat} (h : k < D.length) : cnt D[k].a D = D[k].k := by
  simp [cnt, ix_self hs h, h]
theorem runs_get {D : List Mv} (hr : Runs W0 D) {k : Nat} (h : k < D.length) : mark (runT W0 (D.take k)) D[k] = D[k] := by
  have h1 : Runs W0 (D.take k ++ D[k] :: D.drop (k + 1)) := by rw [← List.drop_eq_getElem_cons h, List.take_append_drop]; exact hr
  have h2 := (runs_append.1 h1).2
  simp only [Runs, runD, List.cons.injEq] at h2
  exact h2.1
theorem run_at {D : List Mv} (hr : Runs W0 D) {k : Nat} (h : k < D.length) (n : Sp) :
    runT W0 (D.take (k + 1)) n = if D[k].n = n ∧ D[k].k = true then some ⟨n, D[k].p, D[k].a⟩ else runT W0 (D.take k) n := by
  rw [(run_take h).1]
  have hm := runs_get hr h
  have hk : D[k].k = !ben (runT W0 (D.take k)) D[k].p D[k].n := by
    conv => lhs; rw [← hm]
    rfl
  unfold stepW
  cases hb : ben (runT W0 (D.take k)) D[k].p D[k].n
  · rw [hb] at hk
    simp only [cond_false, put, pl, hk, Bool.not_false, and_true]
    by_cases e : D[k].n = n
    · simp [e]
    · rw [if_neg (Ne.symm e), if_neg e]
  · rw [hb] at hk
    simp [hk]
theorem m7core_get {D : List Mv} {i : Nat} (h : i < D.length) : (m7s (D.map core))[((i : Nat) : Int).toNat]?.getD [] = m7 (core D[i]) := by
  have h' : i < (D.map core).length := by simpa using h
  rw [m7s_get h']; simp
theorem m7core_length (D : List Mv) : (m7s (D.map core)).length = D.length := by simp [m7s]

section
variable {σ : St} {v : V} {l : List Ac}
set_option maxRecDepth 100000 in
set_option maxHeartbeats 3200000 in
theorem last_ok (hv : RdS σ v 7 (acsV l)) (hl : l.length ≤ 1048576) :
    CallA Try.prog 3 [v] σ fun w _ => w = .bool true := by
  refine fn_at Try.func3 (by decide) comp3 rfl fun Q q1 q2 => ?_
  simp -implicitDefEqProofs only [go_sem, Nat.reduceBEq, Nat.reduceAdd, eq_self, true_and, and_true, and_self, List.getElem?_cons_zero, List.getElem?_cons_succ, Nat.reduceLeDiff, Nat.zero_add, Nat.reduceSub, Nat.le_refl, c3]
  refine call_at (made_ok hv hl) ?_
  rintro v τ ⟨i0, m, s, x, D, rfl, ht, hx, hD, hok, he⟩
  refine ⟨kept_none, ?_⟩
  obtain ⟨xb, xR, xz, rfl, -, -⟩ := id hx
  have hDl := m7core_length D
  simp -implicitDefEqProofs only [go_sem, Nat.reduceBEq, Nat.reduceAdd, eq_self, true_and, and_true, and_self, List.getElem?_cons_zero, List.getElem?_cons_succ, Nat.reduceLeDiff, Nat.zero_add, Nat.reduceSub, Nat.le_refl, Nat.lt_irrefl]
  refine loop_at (fun (i : Nat) => ⟨[(3, .v (.ptr (some (i0, 0)))), (4, .v (.sl xb xR xz (m7s (D.map core)))), (5, .v (.int .i64 i))], []⟩)
    (fun i τ' => i ≤ D.length ∧ Ext τ τ') (fun i => D.length - i) 0 ?_ ?_ ?_
  · exact .inr (by simp [go_sem])
  · exact ⟨Nat.zero_le _, .refl _⟩
  rintro i τ1 ⟨g1, g2⟩ Z z1 z2 z3
  have ht1 := ht.ext g2
  have hx1 := hx.ext g2
  simp -implicitDefEqProofs only [go_sem, Nat.reduceBEq, Nat.reduceAdd, eq_self, true_and, and_true, and_self, List.getElem?_cons_zero, List.getElem?_cons_succ, Nat.reduceLeDiff, Nat.zero_add, Nat.reduceSub, Nat.le_refl, Nat.lt_irrefl]
  refine CondW_b (fun hcc => ?_) (fun hcc => ?_)
  case refine_2 =>
    simp -implicitDefEqProofs only [go_sem, Nat.reduceBEq, Nat.reduceAdd, eq_self, true_and, and_true, and_self, List.getElem?_cons_zero, List.getElem?_cons_succ, Nat.reduceLeDiff, Nat.zero_add, Nat.reduceSub, Nat.le_refl, Nat.lt_irrefl]
    refine z2 _ _ _ ?_
    simp -implicitDefEqProofs only [go_sem, Nat.reduceBEq, Nat.reduceAdd, eq_self, true_and, and_true, and_self, List.getElem?_cons_zero, List.getElem?_cons_succ, Nat.reduceLeDiff, Nat.zero_add, Nat.reduceSub, Nat.le_refl, Nat.lt_irrefl]
    refine call_at awake_ok ?_
    rintro v τ3 rfl
    refine ⟨kept_none, ?_⟩
    simp -implicitDefEqProofs only [go_sem, Nat.reduceBEq, Nat.reduceAdd, eq_self, true_and, and_true, and_self, List.getElem?_cons_zero, List.getElem?_cons_succ, Nat.reduceLeDiff, Nat.zero_add, Nat.reduceSub, Nat.le_refl, Nat.lt_irrefl]
    refine q2 _ _ ?_
    simp -implicitDefEqProofs only [go_sem, Nat.reduceBEq, Nat.reduceAdd, eq_self, true_and, and_true, and_self, List.getElem?_cons_zero, List.getElem?_cons_succ, Nat.reduceLeDiff, Nat.zero_add, Nat.reduceSub, Nat.le_refl, Nat.lt_irrefl]
  have hi : i < D.length := by simpa [hDl] using hcc
  obtain ⟨k1, k2⟩ := rdl hx1 (by cases D <;> simp [m7s] at hi ⊢)
  have hgi := m7core_get hi
  have hib : (i : Int) < (m7s (D.map core)).length := by rw [hDl]; omega
  have hw1 : IntKind.i64.wrap ((i : Int) + 1) = ((i + 1 : Nat) : Int) := by rw [i64_in _ (by omega)]; omega
  generalize hn : D[i].n = n
  have hgi : (m7s (D.map core))[((i : Nat) : Int).toNat]?.getD [] = [.int .i64 D[i].a.c, .int .i64 D[i].a.r, .int .i64 n.c, .int .i64 n.r, .int .i64 D[i].p.c, .int .i64 D[i].p.r, .bool false] := by rw [hgi, ← hn]; rfl
  simp -implicitDefEqProofs only [go_sem, Nat.reduceBEq, Nat.reduceAdd, eq_self, true_and, and_true, and_self, List.getElem?_cons_zero, List.getElem?_cons_succ, Nat.reduceLeDiff, Nat.zero_add, Nat.reduceSub, Nat.le_refl, Nat.lt_irrefl]
  refine loop_at (fun (x : Nat × Int) => ⟨[(3, .v (.ptr (some (i0, 0)))), (4, .v (.sl xb xR xz (m7s (D.map core)))), (5, .v (.int .i64 i)), (6, .v (.int .i64 x.2)), (7, .v (.int .i64 x.1))], []⟩)
    (fun x τ' => x.1 ≤ D.length ∧ τ' = τ1 ∧ ((x.2 = -1 ∧ runT W0 (D.take x.1) n = none) ∨ ∃ (q : Nat) (hq : q < D.length), x.2 = q ∧ runT W0 (D.take x.1) n = some ⟨n, D[q].p, D[q].a⟩)) (fun x => D.length - x.1) (0, -1) ?_ ?_ ?_
  · exact .inr (by simp [go_sem])
  · exact ⟨Nat.zero_le _, rfl, .inl ⟨rfl, rfl⟩⟩
  rintro ⟨j, la⟩ τ2 ⟨f1, hτ, f3⟩ Y y1 y2 y3
  have hτ := hτ.symm
  subst hτ
  simp only at f1 f3
  by_cases hj : j < D.length
  · have hd : decide ((j : Int) < (m7s (D.map core)).length) = true := by rw [hDl]; simp; omega
    have hgj := m7core_get hj
    have hjb : (j : Int) < (m7s (D.map core)).length := by rw [hDl]; omega
    have hw2 : IntKind.i64.wrap ((j : Int) + 1) = ((j + 1 : Nat) : Int) := by rw [i64_in _ (by omega)]; omega
    have hat := run_at ht1.runs hj n
    have hgj : (m7s (D.map core))[((j : Nat) : Int).toNat]?.getD [] = [.int .i64 D[j].a.c, .int .i64 D[j].a.r, .int .i64 D[j].n.c, .int .i64 D[j].n.r, .int .i64 D[j].p.c, .int .i64 D[j].p.r, .bool false] := by rw [hgj]; rfl
    simp -implicitDefEqProofs only [go_sem, Nat.reduceBEq, Nat.reduceAdd, eq_self, true_and, and_true, and_self, List.getElem?_cons_zero, List.getElem?_cons_succ, Nat.reduceLeDiff, Nat.zero_add, Nat.reduceSub, Nat.le_refl, hd]
    refine cut_dup ?_
    by_cases hnn : D[j].n = n
    · have hdn : decide (D[j].n = n) = true := by simp [hnn]
      simp -implicitDefEqProofs only [go_sem, Nat.reduceBEq, Nat.reduceAdd, eq_self, true_and, and_true, and_self, List.getElem?_cons_zero, List.getElem?_cons_succ, Nat.reduceLeDiff, Nat.zero_add, Nat.reduceSub, Nat.le_refl, hgj, hgi, sp_eqs, hdn]
      repeat refine ⟨⟨by omega, by first | exact hjb | exact hib, k2⟩, k1, ?_⟩
      refine call_at (counts_ok (a := D[j].a) ht1.tree ht1.srt (by omega)) ?_
      rintro v τ4 ⟨rfl, rfl⟩
      refine ⟨(Ext.refl _).kept, ?_⟩
      have hcs := cnt_self ht1.srt hj
      cases hkj : D[j].k
      · rw [hkj] at hcs hat
        rw [if_neg (by simp)] at hat
        simp -implicitDefEqProofs only [go_sem, Nat.reduceBEq, Nat.reduceAdd, eq_self, true_and, and_true, and_self, List.getElem?_cons_zero, List.getElem?_cons_succ, Nat.reduceLeDiff, Nat.zero_add, Nat.reduceSub, Nat.le_refl, hcs, hw2]
        refine y1 (j + 1, la) _ _ (.inr ?_) (by simp only; omega) ⟨by simp only; omega, rfl, by simp only; rw [hat]; exact f3⟩
        simp -implicitDefEqProofs only [go_sem, Nat.reduceBEq, Nat.reduceAdd, eq_self, true_and, and_true, and_self, List.getElem?_cons_zero, List.getElem?_cons_succ, Nat.reduceLeDiff, Nat.zero_add, Nat.reduceSub, Nat.le_refl, Nat.lt_irrefl]
        try trivial
      · rw [hkj] at hcs hat
        rw [if_pos ⟨hnn, rfl⟩] at hat
        simp -implicitDefEqProofs only [go_sem, Nat.reduceBEq, Nat.reduceAdd, eq_self, true_and, and_true, and_self, List.getElem?_cons_zero, List.getElem?_cons_succ, Nat.reduceLeDiff, Nat.zero_add, Nat.reduceSub, Nat.le_refl, hcs, hw2]
        refine y1 (j + 1, (j : Int)) _ _ (.inr ?_) (by simp only; omega) ⟨by simp only; omega, rfl, .inr ⟨j, hj, rfl, hat⟩⟩
        simp -implicitDefEqProofs only [go_sem, Nat.reduceBEq, Nat.reduceAdd, eq_self, true_and, and_true, and_self, List.getElem?_cons_zero, List.getElem?_cons_succ, Nat.reduceLeDiff, Nat.zero_add, Nat.reduceSub, Nat.le_refl, Nat.lt_irrefl]
        try trivial
    · have hdn : decide (D[j].n = n) = false := by simp [hnn]
      rw [if_neg (fun h => hnn h.1)] at hat
      simp -implicitDefEqProofs only [go_sem, Nat.reduceBEq, Nat.reduceAdd, eq_self, true_and, and_true, and_self, List.getElem?_cons_zero, List.getElem?_cons_succ, Nat.reduceLeDiff, Nat.zero_add, Nat.reduceSub, Nat.le_refl, hgj, hgi, sp_eqs, hdn]
      repeat refine ⟨⟨by omega, by first | exact hjb | exact hib, k2⟩, k1, ?_⟩
      simp -implicitDefEqProofs only [go_sem, Nat.reduceBEq, Nat.reduceAdd, eq_self, true_and, and_true, and_self, List.getElem?_cons_zero, List.getElem?_cons_succ, Nat.reduceLeDiff, Nat.zero_add, Nat.reduceSub, Nat.le_refl, hw2]
      refine y1 (j + 1, la) _ _ (.inr ?_) (by simp only; omega) ⟨by simp only; omega, rfl, by simp only; rw [hat]; exact f3⟩
      simp -implicitDefEqProofs only [go_sem, Nat.reduceBEq, Nat.reduceAdd, eq_self, true_and, and_true, and_self, List.getElem?_cons_zero, List.getElem?_cons_succ, Nat.reduceLeDiff, Nat.zero_add, Nat.reduceSub, Nat.le_refl, Nat.lt_irrefl]
      try trivial
  · have hd : decide ((j : Int) < (m7s (D.map core)).length) = false := by rw [hDl]; simp; omega
    rw [List.take_of_length_le (by omega)] at f3
    simp -implicitDefEqProofs only [go_sem, Nat.reduceBEq, Nat.reduceAdd, eq_self, true_and, and_true, and_self, List.getElem?_cons_zero, List.getElem?_cons_succ, Nat.reduceLeDiff, Nat.zero_add, Nat.reduceSub, Nat.le_refl, hd]
    refine y2 _ _ _ ?_
    simp -implicitDefEqProofs only [go_sem, Nat.reduceBEq, Nat.reduceAdd, eq_self, true_and, and_true, and_self, List.getElem?_cons_zero, List.getElem?_cons_succ, Nat.reduceLeDiff, Nat.zero_add, Nat.reduceSub, Nat.le_refl, hgi]
    repeat refine ⟨⟨by omega, hib, k2⟩, k1, ?_⟩
    refine call_at (where_ok (x := n) ht1.tree) ?_
    rintro v τ4 ⟨rfl, he4, hl4⟩
    refine ⟨kept_none, ?_⟩
    have hx4 := hx1.ext he4
    obtain ⟨k3, -⟩ := rdl hx4 (by cases D <;> simp [m7s] at hi ⊢)
    rcases f3 with ⟨rfl, hW⟩ | ⟨q, hq, rfl, hW⟩
    · have h0 : decide ((-1 : Int) < 0) = true := by decide
      have h1 : decide ((0 : Int) ≤ -1) = false := by decide
      rw [hW]
      simp -implicitDefEqProofs only [go_sem, Nat.reduceBEq, Nat.reduceAdd, eq_self, true_and, and_true, and_self, List.getElem?_cons_zero, List.getElem?_cons_succ, Nat.reduceLeDiff, Nat.zero_add, Nat.reduceSub, Nat.le_refl, Option.getD_none, Option.isSome_none, plV, plC, zp, h0, h1]
      simp -implicitDefEqProofs only [go_sem, Nat.reduceBEq, Nat.reduceAdd, eq_self, true_and, and_true, and_self, List.getElem?_cons_zero, List.getElem?_cons_succ, Nat.reduceLeDiff, Nat.zero_add, Nat.reduceSub, Nat.le_refl, hw1]
      refine z1 (i + 1) _ _ (.inr ?_) (by omega) ⟨by omega, g2.trans he4⟩
      simp -implicitDefEqProofs only [go_sem, Nat.reduceBEq, Nat.reduceAdd, eq_self, true_and, and_true, and_self, List.getElem?_cons_zero, List.getElem?_cons_succ, Nat.reduceLeDiff, Nat.zero_add, Nat.reduceSub, Nat.le_refl, Nat.lt_irrefl]
      try trivial
    · have h0 : decide ((q : Int) < 0) = false := by simp
      have h1 : decide ((0 : Int) ≤ q) = true := by simp
      have hgq := m7core_get hq
      have hgq : (m7s (D.map core))[((q : Nat) : Int).toNat]?.getD [] = [.int .i64 D[q].a.c, .int .i64 D[q].a.r, .int .i64 D[q].n.c, .int .i64 D[q].n.r, .int .i64 D[q].p.c, .int .i64 D[q].p.r, .bool false] := by rw [hgq]; rfl
      have hqb : (q : Int) < (m7s (D.map core)).length := by rw [hDl]; omega
      have hpe := pl_eqs ⟨n, D[q].p, D[q].a⟩ ⟨n, D[q].p, D[q].a⟩
      simp only [decide_true] at hpe
      rw [hW]
      simp -implicitDefEqProofs only [go_sem, Nat.reduceBEq, Nat.reduceAdd, eq_self, true_and, and_true, and_self, List.getElem?_cons_zero, List.getElem?_cons_succ, Nat.reduceLeDiff, Nat.zero_add, Nat.reduceSub, Nat.le_refl, Option.getD_some, Option.isSome_some, plV, plC, h0, h1, hgi, hgq]
      repeat refine ⟨⟨by omega, by first | exact hib | exact hqb, k2⟩, k3, ?_⟩
      simp -implicitDefEqProofs only [go_sem, Nat.reduceBEq, Nat.reduceAdd, eq_self, true_and, and_true, and_self, List.getElem?_cons_zero, List.getElem?_cons_succ, Nat.reduceLeDiff, Nat.zero_add, Nat.reduceSub, Nat.le_refl, hpe]
      simp -implicitDefEqProofs only [go_sem, Nat.reduceBEq, Nat.reduceAdd, eq_self, true_and, and_true, and_self, List.getElem?_cons_zero, List.getElem?_cons_succ, Nat.reduceLeDiff, Nat.zero_add, Nat.reduceSub, Nat.le_refl, hw1]
      refine z1 (i + 1) _ _ (.inr ?_) (by omega) ⟨by omega, g2.trans he4⟩
      simp -implicitDefEqProofs only [go_sem, Nat.reduceBEq, Nat.reduceAdd, eq_self, true_and, and_true, and_self, List.getElem?_cons_zero, List.getElem?_cons_succ, Nat.reduceLeDiff, Nat.zero_add, Nat.reduceSub, Nat.le_refl, Nat.lt_irrefl]
      try trivial
end
end Go.VL.mov

namespace Go.VL
open Go Go.Proofs Go.Shelf Go.RowKit Go.Lib Go.Sort

section
variable {P : Program} {γ : G} {σ : St} {w : World}

theorem flat_get {X : Type} [Inhabited X] {enc : X → List Value} {k : Nat} (hk : ∀ x, (enc x).length = k) : ∀ (l : List X) (j : Nat), j < l.length * k → (l.flatMap enc)[j]? = some (enc l.toArray[j / k]!)[j % k]!
  | [], j, h => by simp at h
  | x :: l, j, h => by
    have hk0 : 0 < k := by
      rcases Nat.eq_zero_or_pos k with h0 | h0
      · subst h0; simp at h
      · exact h0
    simp only [List.flatMap_cons]
    by_cases hj : j < k
    · rw [List.getElem?_append_left (by rw [hk]; exact hj), Nat.div_eq_of_lt hj, Nat.mod_eq_of_lt hj]
      have hx : j < (enc x).length := by rw [hk]; exact hj
      simp [List.getElem?_eq_getElem hx, hx]
    · rw [List.getElem?_append_right (by rw [hk]; omega), hk]
      have h2 : j - k < l.length * k := by
        simp only [List.length_cons, Nat.succ_mul] at h; omega
      rw [flat_get hk l (j - k) h2]
      have e1 : j / k = (j - k) / k + 1 := by
        have : j = (j - k) + k := by omega
        conv => lhs; rw [this]
        rw [Nat.add_div_right _ hk0]
      have e2 : j % k = (j - k) % k := by
        have : j = (j - k) + k := by omega
        conv => lhs; rw [this]
        rw [Nat.add_mod_right]
      rw [e1, e2]
      have hlt : (j - k) / k < l.length := Nat.div_lt_of_lt_mul (by rw [Nat.mul_comm]; exact h2)
      simp [hlt]
theorem flat_len {X : Type} {enc : X → List Value} {k : Nat} (hk : ∀ x, (enc x).length = k) (l : List X) : (l.flatMap enc).length = l.length * k := by
  induction l with
  | nil => simp
  | cons x l ih => simp [hk, ih, Nat.succ_mul, Nat.add_comm]
theorem repE_map {X : Type} {encV : X → List V} {enc : X → List Value} {k : Nat} (hrep : ∀ x, RepL γ (encV x) (enc x)) (hk : ∀ x, (enc x).length = k) (h1 : ∀ x, ∀ v ∈ enc x, v.oneCell' = true) : ∀ l : List X, RepE γ k (l.map encV) (l.flatMap enc)
  | [] => by simp [RepE]
  | x :: l => by
    simp only [List.map_cons, List.flatMap_cons, RepE]
    exact ⟨enc x, l.flatMap enc, rfl, by rw [(hrep x).length, hk], hrep x, repE_map hrep hk h1 l, h1 x⟩
theorem repE_det {X : Type} {encV : X → List V} {enc : X → List Value} {k : Nat} (hdet : ∀ x ws, RepL γ (encV x) ws → ws = enc x) : ∀ (l : List X) (vs : List Value), RepE γ k (l.map encV) vs → vs = l.flatMap enc
  | [], vs, h => by simpa [RepE] using h
  | x :: l, vs, h => by
    simp only [List.map_cons, RepE] at h
    obtain ⟨ws, us, rfl, -, h2, h3, -⟩ := h
    rw [hdet x ws h2, repE_det hdet l us h3]; rfl

/-- A comparison's calls, in whatever world: they lay blocks and draw, no more. -/
theorem cmp_lays {X : Type} {encV : X → List V} {enc : X → List Value} {cf : X → X → Int} {g : FuncId} (hrep : ∀ γ x, RepL γ (encV x) (enc x))
    (hg : ∀ x y, CallA P g [.agg (encV x), .agg (encV y)] ⟨[], []⟩ fun v _ => v = .int .i64 (cf x y)) (x y : X) (W : World) :
    Calls P g #[.agg (enc x).toArray, .agg (enc y).toArray] W fun e w' => e = .returned (.int .i64 (cf x y)) ∧ ∃ q os', w' = grow (W.drewN q) os' := by
  refine ((hg x y).2 (g0 W) W [.agg (enc x).toArray, .agg (enc y).toArray] (inv0 W) ?_).mono ?_
  · simp only [RepL, Rep]
    exact ⟨_, _, rfl, ⟨_, rfl, hrep _ x⟩, _, _, rfl, ⟨_, rfl, hrep _ y⟩, rfl⟩
  rintro e w' ⟨v, z, σ', γ', rfl, hle, hi, hz, rfl⟩
  simp only [Rep] at hz
  subst hz
  refine ⟨rfl, w'.drawn - W.drawn, w'.heap.extract W.heap.size w'.heap.size, ?_⟩
  have hd : W.drawn ≤ w'.drawn := by
    have := hi.drn
    rw [hle.drn] at this
    exact this
  have hh : ∀ (b : Nat) (o : Obj), W.heap[b]? = some o → w'.heap[b]? = some o := fun b o hb => hi.phi b o (by rw [hle.phi]; exact hb)
  have hsz : W.heap.size ≤ w'.heap.size := by
    rcases Nat.lt_or_ge w'.heap.size W.heap.size with hlt | hge
    · have := hh w'.heap.size W.heap[w'.heap.size] (Array.getElem?_eq_getElem hlt)
      simp at this
    · exact hge
  have hheap : w'.heap = W.heap ++ w'.heap.extract W.heap.size w'.heap.size := by
    apply Array.ext_getElem?
    intro i
    rw [Array.getElem?_append]
    split
    · rename_i hlt
      rw [Array.getElem?_eq_getElem hlt]
      exact hh i _ (Array.getElem?_eq_getElem hlt)
    · rename_i hge
      rw [Array.getElem?_extract]
      simp only [Nat.min_self]
      split
      · rename_i h2
        congr 1; omega
      · rename_i h2
        rw [Array.getElem?_eq_none (by omega)]
  have e1 : w'.os = W.os := hi.os.trans hle.os
  have e2 : w'.tape = W.tape := hi.tape.trans hle.tape
  have e3 : w'.output = W.output := hi.out.trans hle.out
  obtain ⟨h', t', d', o', u'⟩ := w'
  simp only at e1 e2 e3 hheap hd
  subst e1 e2 e3
  show _ = grow (World.drewN W (d' - W.drawn)) _
  simp only [World.drewN, grow]
  rw [← hheap]
  congr 1
  omega

set_option maxHeartbeats 1000000 in
/-- slices.SortFunc of an owned slice of structs. -/
theorem sort_cm {ρ : Ren} {X : Type} [Inhabited X] (L : SlLaysF0.n6 P ρ) (k : Nat) (aE : ∀ w, (isAgg (ρ.t 24)).run P w = .ok true w) (zE : ∀ w, (Go.sizeOf (ρ.t 24)).run P w = .ok k w)
    (encV : X → List V) (enc : X → List Value) (hrep : ∀ γ x, RepL γ (encV x) (enc x)) (hk : ∀ x, (enc x).length = k) (h1 : ∀ x, ∀ v ∈ enc x, v.oneCell' = true) (hdet : ∀ γ x ws, RepL γ (encV x) ws → ws = enc x)
    (cf : X → X → Int) (hO : SWO (ltOf cf)) (g : FuncId) (hg : ∀ x y, CallA P g [.agg (encV x), .agg (encV y)] ⟨[], []⟩ fun v _ => v = .int .i64 (cf x y))
    (hfn : ∃ fn, P.funcs[ρ.f 6]? = some fn ∧ fn.body.isSome = true ∧ (fn.name == "runtime.NumGoroutine") = false) {r : Nat} {l : List X} (hlive : σ.live[r]? = some true) (hsz : l.length < 4611686018427387904) :
    CallM P (ρ.f 6) [.sl false (.own r) k (l.map encV), .fn g []] r k (l.map encV) σ fun v r' es' σ' => ∃ l' : List X, l'.Perm l ∧ l'.Pairwise (fun a b => ltOf cf b a = false) ∧ es' = l'.map encV ∧ v = .tup [] ∧
      r' = σ.live.length ∧ σ' = ⟨σ.objs, σ.live.set r false ++ [true]⟩ := by
  refine ⟨hfn, fun γ w vs hi hr => ?_⟩
  simp only [RepL, Rep] at hr
  obtain ⟨v1, _, rfl, ⟨a, cap, rfl, hsp, hcap, hrho⟩, v2, _, rfl, ⟨_, rfl, rfl⟩, rfl⟩ := hr
  obtain ⟨blk, off, sp⟩ := a
  simp only at hsp
  subst hsp
  obtain ⟨a', cap', e0, -, h3, h4, h5, h6, c, e, z, vs0, h7, h8, h9, h10, h11⟩ := hi.own _ _ _ _ hlive hrho
  cases e0
  simp only at h4 h5 h6 h7 h8 h10 h11
  have hv0 := repE_det (hdet γ) l vs0 h9
  subst hv0
  have hlen : (l.map encV).length = l.length := by simp
  have hfl := flat_len hk l
  have hblk : blk < w.heap.size := lt_of_heap h7
  have hkb : l.length * k ≤ cap * k := Nat.mul_le_mul_right k (by rw [hlen] at h3; exact h3)
  have hcell : ∀ j, j < l.length * k → c[off + j]? = some ((flatK enc k l.toArray)[j]!) := by
    intro j hj
    rw [get_flatK enc k l.toArray j (by simpa using hj)]
    exact h8 j _ (flat_get hk l j hj)
  have hH : HoldsK enc k w blk off l.toArray := by
    intro j hj
    rw [size_flatK] at hj
    simp only [List.size_toArray] at hj
    refine ⟨?_, ?_⟩
    · simp only [World.cell?, h7]
      exact hcell j hj
    · have := h11 (off + j) (by omega) (by omega)
      simp only [World.frozen?, h7, Bool.and_eq_false_iff, decide_eq_false_iff_not]
      omega
  have eg : ∀ args w, (callFunc g args).run P w = .ok (.enter g args) w := fun args w => enter_ok (hg default default).1
  have hcmp : CmpLays P g #[] enc k cf blk off l.toArray.size w := fun m os dk _ x y => by
    simpa using cmp_lays hrep hg x y (sortWorldK enc k w blk off m dk os)
  have hcon := AnyQ.slices_SortFunc L k aE zE enc hk h1 cf hO g #[] blk off cap l.toArray w eg hcmp hH hblk (by simpa using hsz)
  rw [hlen]
  simp only [List.size_toArray] at hcon
  refine hcon.mono ?_
  rintro e' w' ⟨rfl, d', n, os, hp, hs, rfl⟩
  have hds : d'.size = l.length := by simpa using hp.1
  have hperm : d'.toList.Perm l := by
    have := hp.2.2
    rw [Array.extract_eq_self_of_le (by simp [hds]), Array.extract_eq_self_of_le (by simp)] at this
    simpa using this
  have hpair : d'.toList.Pairwise (fun a b => ltOf cf b a = false) := by
    rw [List.pairwise_iff_getElem]
    intro i j hi' hj' hij
    have hi2 : i < d'.size := by simpa using hi'
    have hj2 : j < d'.size := by simpa using hj'
    have := hs i j (Nat.zero_le _) hij (by rw [hds] at hj2; exact hj2)
    rw [getElem!_pos d' j hj2, getElem!_pos d' i hi2] at this
    simpa using this
  have hheap : ∀ b, (sortWorldK enc k w blk off n d' os).heap[b]? = if b < w.heap.size then (w.heap.modify blk (onCells (putCells id off (flatK enc k d'))))[b]? else os[b - w.heap.size]? := by
    intro b
    show ((w.heap.modify blk (onCells (putCells id off (flatK enc k d')))) ++ os)[b]? = _
    rw [Array.getElem?_append]
    simp only [Array.size_modify]
  have hbut : But (some blk) w (sortWorldK enc k w blk off n d' os) := by
    refine ⟨rfl, rfl, rfl, ?_, fun b o hb ho => ?_, ?_⟩
    · show w.heap.size ≤ ((w.heap.modify blk (onCells (putCells id off (flatK enc k d')))) ++ os).size
      simp
    · have hlt := lt_of_heap ho
      rw [hheap, if_pos hlt, Array.getElem?_modify, if_neg (fun e => hb (by rw [e]))]
      exact ho
    · show w.drawn ≤ w.drawn + n
      omega
  have hnew : (sortWorldK enc k w blk off n d' os).heap[blk]? = some (.cells (putCells id off (flatK enc k d') c) e z) := by
    rw [hheap, if_pos hblk, Array.getElem?_modify, if_pos rfl, h7]
    rfl
  have hll : (σ.live.set r false).length = σ.live.length := by simp
  obtain ⟨q1, q2⟩ := hi.right hbut (live := σ.live.set r false) hll (fun j hj => by
      by_cases e : r = j
      · subst e
        rw [List.getElem?_set_self (List.getElem?_eq_some_iff.1 hlive).1] at hj
        cases hj
      · rwa [List.getElem?_set_ne e] at hj)
    (k := blk) ⟨h4, h5, h6, fun j v s es hj hrj hb => by
      by_cases e : r = j
      · subst e
        rw [List.getElem?_set_self (List.getElem?_eq_some_iff.1 hlive).1] at hj
        cases hj
      · rw [List.getElem?_set_ne e] at hj
        exact e (hi.apart r j _ _ _ _ _ _ blk hlive hj hrho hrj rfl hb)⟩
    (v := .slice (some ⟨blk, off, none⟩) (l.map encV).length cap) (s := k) (es := d'.toList.map encV) (f := true) (fun _ => ⟨rfl, by
      refine ⟨⟨blk, off, none⟩, cap, by simp [hds], rfl, by simp only [List.length_map, Array.length_toList, hds]; rw [hlen] at h3; exact h3, h4, h5, h6, _, e, z, d'.toList.flatMap enc, hnew, fun i x hx => ?_, repE_map (fun x => hrep _ x) hk h1 _, ?_, h11⟩
      · have hfl2 := flat_len hk d'.toList
        have hi2 : i < d'.toList.length * k := by rw [← hfl2]; exact (List.getElem?_eq_some_iff.1 hx).1
        rw [flat_get hk _ _ hi2] at hx
        have hi3 : i < l.length * k := by simpa [hds] using hi2
        have hlt : off + i < c.size := by
          have := hcell i hi3
          exact (Array.getElem?_eq_some_iff.1 this).1
        simp only [putCells]
        rw [Array.getElem?_mapIdx, Array.getElem?_eq_getElem hlt]
        simp only [Option.map_some]
        have hi4 : i < d'.size * k := by simpa using hi2
        rw [if_pos ⟨by omega, by rw [size_flatK]; omega⟩, Nat.add_sub_cancel_left, get_flatK enc k d' i hi4]
        simpa using hx
      · simp only [putCells, Array.size_mapIdx]; exact h10⟩)
  refine ⟨.tuple #[], .tup [], _, _, σ.live.length, d'.toList.map encV, rfl, q2, q1, ?_, ⟨.slice (some ⟨blk, off, none⟩) (l.map encV).length cap, hrho, ?_⟩, by simp [hds], d'.toList, hperm, hpair, rfl, rfl, rfl, rfl⟩
  · simp only [Rep]
    exact ⟨[], rfl, rfl⟩
  · show (γ.rho ++ [_])[σ.live.length]? = _
    rw [← hi.rholen]; simp
/-- slices.SortFunc of no elements. -/
theorem sort_nil {ρ : Ren} (L : SlLaysF0.n6 P ρ) (hfn : ∃ fn, P.funcs[ρ.f 6]? = some fn ∧ fn.body.isSome = true ∧ (fn.name == "runtime.NumGoroutine") = false) {R : R} {s : Nat} {f : V} :
    CallA P (ρ.f 6) [.sl true R s [], f] σ fun v σ' => σ' = σ ∧ v = .tup [] := by
  refine ⟨hfn, fun γ w vs hi hr => ?_⟩
  simp only [RepL, Rep] at hr
  obtain ⟨v1, _, rfl, ⟨-, rfl⟩, v2, _, rfl, -, rfl⟩ := hr
  refine (AnyF.slices_SortFunc_none L none 0 v2 w).mono ?_
  rintro e w' ⟨rfl, rfl⟩
  refine ⟨.tuple #[], .tup [], σ, γ, rfl, Le.refl γ, hi, ?_, rfl, rfl⟩
  simp only [Rep]
  exact ⟨[], rfl, rfl⟩
end
end Go.VL

namespace Go.Proofs
open Go.Shelf Go.RowKit Go.Lib Go.Sort
shelf_lay_g SlLaysF0.n6 Slsf 6 at Try 39 as movSort
end Go.Proofs
namespace Go.VL.mov
open Go Go.VL Go.Proofs Go.IntWalk Go.Shelf Go.Sort

def cmpP (a b : Pl) : Int := cmp a.n b.n
theorem cmpP_lt (a b : Pl) : ltOf cmpP a b = less a.n b.n := cmp_neg a.n b.n
theorem cmpP_swo : SWO (ltOf cmpP) := by
  have e : ltOf cmpP = fun a b => less a.n b.n := by funext a b; exact cmpP_lt a b
  rw [e]
  refine ⟨fun a => less_irr _, fun _ _ _ => less_trans, fun x y z h1 h2 => ?_⟩
  cases h : less x.n z.n with
  | false => rfl
  | true =>
    cases h3 : less y.n x.n with
    | true => rw [less_trans h3 h] at h2; cases h2
    | false =>
      have := less_total h1 h3
      rw [this, h2] at h; cases h
def plE (p : Pl) : List Value := [.int .i64 p.n.c, .int .i64 p.n.r, .int .i64 p.p.c, .int .i64 p.p.r, .int .i64 p.s.c, .int .i64 p.s.r]
theorem plE_rep (γ : G) (r : Pl) : RepL γ (plC r) (plE r) := by
  simp only [plC, plE, RepL, Rep]
  exact ⟨_, _, rfl, rfl, _, _, rfl, rfl, _, _, rfl, rfl, _, _, rfl, rfl, _, _, rfl, rfl, _, _, rfl, rfl, rfl⟩
theorem plE_det (γ : G) (r : Pl) (ws : List Value) (h : RepL γ (plC r) ws) : ws = plE r := by
  simp only [plC, RepL, Rep] at h
  obtain ⟨_, _, rfl, rfl, _, _, rfl, rfl, _, _, rfl, rfl, _, _, rfl, rfl, _, _, rfl, rfl, _, _, rfl, rfl, rfl⟩ := h
  rfl
theorem plE_one (r : Pl) : ∀ v ∈ plE r, v.oneCell' = true := by
  intro v hv
  simp only [plE, List.mem_cons, List.not_mem_nil, or_false] at hv
  rcases hv with rfl | rfl | rfl | rfl | rfl | rfl <;> rfl

theorem look_mem {x : Sp} {p : Pl} : ∀ {T : Tl}, lookT x T = some p → (x, p) ∈ T
  | [], h => by cases h
  | y :: T, h => by
    simp only [lookT] at h
    by_cases e : x = y.1
    · simp only [e, decide_true, cond_true, Option.some.injEq] at h
      rw [e, ← h]; exact List.mem_cons_self ..
    · simp only [e, decide_false, cond_false] at h
      exact List.mem_cons.2 (.inr (look_mem h))
theorem mem_look {x : Sp} {p : Pl} : ∀ {T : Tl}, (T.map (·.1)).Nodup → (x, p) ∈ T → lookT x T = some p
  | [], _, h => by cases h
  | y :: T, hn, h => by
    rw [List.map_cons, List.nodup_cons] at hn
    simp only [lookT]
    rcases List.mem_cons.1 h with h | h
    · subst h; simp
    · have : x ≠ y.1 := fun e => hn.1 (List.mem_map.2 ⟨_, h, e⟩)
      simp only [this, decide_false, cond_false]
      exact mem_look hn.2 h
theorem canon_of {T : Tl} {W : Tr} {R : List Pl} (hT : RepT T W) (hK : Keyed W) (hp : R.Perm (T.map (·.2))) (hs : R.Pairwise fun a b => less b.n a.n = false) : Canon R W := by
  have hm : ∀ p, p ∈ R ↔ W p.n = some p := fun p => by
    rw [hp.mem_iff, List.mem_map]
    constructor
    · rintro ⟨⟨y, q⟩, hy, rfl⟩
      have h1 := mem_look hT.nd hy
      rw [hT.look] at h1
      rw [hK _ _ h1]; exact h1
    · intro h
      rw [← hT.look] at h
      exact ⟨_, look_mem h, rfl⟩
  have hnd : (R.map (·.n)).Nodup := by
    have h1 : (R.map (·.n)).Perm ((T.map (·.2)).map (·.n)) := hp.map _
    rw [h1.nodup_iff, List.map_map]
    have h2 : T.map ((fun x => x.n) ∘ fun x => x.2) = T.map (·.1) := List.map_congr_left fun y hy => by
      have h1 := mem_look (x := y.1) (p := y.2) hT.nd hy
      rw [hT.look] at h1
      exact hK _ _ h1
    rw [h2]; exact hT.nd
  refine ⟨?_, fun x => ?_⟩
  · have h2 : R.Pairwise fun a b => a.n ≠ b.n := List.pairwise_map.1 hnd
    refine List.pairwise_iff_getElem.2 fun i j hi hj hij => ?_
    have a1 := List.pairwise_iff_getElem.1 hs i j hi hj hij
    have a2 := List.pairwise_iff_getElem.1 h2 i j hi hj hij
    cases hh : less R[i].n R[j].n with
    | true => rfl
    | false => exact absurd (less_total hh a1) a2
  · cases hw : W x with
    | none =>
      rw [lookR, List.find?_eq_none]
      intro p hp' hx
      have h1 := (hm p).1 hp'
      rw [of_decide_eq_true hx, hw] at h1; cases h1
    | some p =>
      have hpx := hK _ _ hw
      have hpR : p ∈ R := (hm p).2 (by rw [hpx]; exact hw)
      cases hf : lookR x R with
      | none =>
        rw [lookR, List.find?_eq_none] at hf
        exact absurd (by simp [hpx]) (hf p hpR)
      | some q =>
        have h1 := List.mem_of_find?_eq_some hf
        have h2 : q.n = x := by simpa using List.find?_some hf
        have h3 := (hm q).1 h1
        rw [h2, hw] at h3
        rw [← h3]

/-- A slice that was begun as nil. -/
def Acc (n : Nat) (τ : St) (w : V) (z : Nat) (l : List (List V)) : Prop := (l = [] ∧ w = .sl true .pub z []) ∨ ∃ q, w = .sl false (.own q) z l ∧ τ.live[q]? = some true ∧ n ≤ q
theorem Acc.rd {n z : Nat} {τ : St} {w : V} {l : List (List V)} (h : Acc n τ w z l) : RdS τ w z l := by
  rcases h with ⟨rfl, rfl⟩ | ⟨q, rfl, h1, h2⟩
  · exact ⟨true, .pub, z, rfl, by simp, .inl rfl⟩
  · exact ⟨false, .own q, z, rfl, by simp, .inr ⟨h1, rfl⟩⟩
theorem entsT_split {T : Tl} {a b : List (V × V)} {x : V × V} (h : entsT T = a ++ x :: b) : ∃ u r v, T = u ++ r :: v ∧ a = entsT u ∧ b = entsT v ∧ x = (spV r.1, plV r.2) := by
  unfold entsT at h
  obtain ⟨u, v, e1, e2, e3⟩ := List.map_eq_append_iff.1 h
  obtain ⟨r, v', e4, e5, e6⟩ := List.map_eq_cons_iff.1 e3
  subst e4
  exact ⟨u, r, v', e1, e2.symm, e6.symm, e5.symm⟩
theorem entsT_nil {T : Tl} (h : entsT T = []) : T = [] := by cases T <;> simp [entsT] at h ⊢
theorem setA_ne {τ : St} {i j : Nat} {o : AObj} (h : j ≠ i) : (τ.setA i o).objs[j]? = τ.objs[j]? := by
  show (τ.objs.set i o)[j]? = _
  rw [List.getElem?_set_ne (Ne.symm h)]
theorem setA_at {τ : St} {i : Nat} {o o' : AObj} (h : τ.objs[i]? = some o') : (τ.setA i o).objs[i]? = some o := by
  show (τ.objs.set i o)[i]? = _
  rw [List.getElem?_set_self (List.getElem?_eq_some_iff.1 h).1]
theorem ext_setA {σ τ : St} (h : Ext σ τ) {i : Nat} (hi : σ.objs.length ≤ i) {o : AObj} : Ext σ (τ.setA i o) :=
  ⟨fun j x hj => by
    have h1 := (List.getElem?_eq_some_iff.1 hj).1
    rw [setA_ne (by omega)]
    exact h.objs _ _ hj, h.live, by
    show σ.objs.length ≤ (τ.objs.set i _).length
    rw [List.length_set]; exact h.olen, h.llen⟩

section
variable {σ : St} {i m : Nat} {s : V} {D : List Mv} {W : Tr} {a b : Pl}
set_option maxRecDepth 100000 in
theorem cmpP_ok : CallA Try.prog 40 [plV a, plV b] σ fun v σ' => σ' = σ ∧ v = .int .i64 (cmpP a b) := by
  refine fn_at Try.func40 (by decide) comp40 rfl fun Q q1 q2 => ?_
  simp -implicitDefEqProofs only [go_sem, Nat.reduceBEq, Nat.reduceAdd, eq_self, true_and, and_true, and_self, List.getElem?_cons_zero, List.getElem?_cons_succ, Nat.reduceLeDiff, Nat.zero_add, Nat.reduceSub, Nat.le_refl, c40, plV, plC]
  refine call_at (compare_ok (a := a.n) (b := b.n)) ?_
  rintro v τ ⟨rfl, rfl⟩
  refine ⟨kept_none, ?_⟩
  simp -implicitDefEqProofs only [go_sem, Nat.reduceBEq, Nat.reduceAdd, eq_self, true_and, and_true, and_self, List.getElem?_cons_zero, List.getElem?_cons_succ, Nat.reduceLeDiff, Nat.zero_add, Nat.reduceSub, Nat.le_refl, Nat.lt_irrefl]
  refine q2 _ _ ?_
  simp -implicitDefEqProofs only [go_sem, Nat.reduceBEq, Nat.reduceAdd, eq_self, true_and, and_true, and_self, List.getElem?_cons_zero, List.getElem?_cons_succ, Nat.reduceLeDiff, Nat.zero_add, Nat.reduceSub, Nat.le_refl, Nat.lt_irrefl]
  try first | exact ⟨trivial, trivial⟩ | exact ⟨trivial, rfl⟩ | exact ⟨rfl, rfl⟩ | exact ⟨rfl, trivial⟩ | trivial
theorem sort_fn : ∃ fn, Try.prog.funcs[movSort_ren.f 6]? = some fn ∧ fn.body.isSome = true ∧ (fn.name == "runtime.NumGoroutine") = false := ⟨Try.f39, Try.func39, rfl, by decide⟩
instance : Inhabited Pl := ⟨zp⟩
theorem sort_pls {q : Nat} {l : List Pl} (hq : σ.live[q]? = some true) (hl : l.length < 4611686018427387904) :
    CallM Try.prog 39 [.sl false (.own q) 6 (plsV l), .fn 40 []] q 6 (plsV l) σ fun v r' es' σ' => ∃ l' : List Pl, l'.Perm l ∧ l'.Pairwise (fun a b => less b.n a.n = false) ∧ es' = plsV l' ∧ v = .tup [] ∧
      r' = σ.live.length ∧ σ' = ⟨σ.objs, σ.live.set q false ++ [true]⟩ := by
  have h := sort_cm (P := Try.prog) (ρ := movSort_ren) (σ := σ) movSort 6 Try.isAgg33 Try.sizeOf33 plC plE plE_rep (fun _ => rfl) plE_one plE_det cmpP cmpP_swo 40
    (fun x y => (cmpP_ok (a := x) (b := y)).mono fun _ _ h => h.2) sort_fn (r := q) (l := l) hq hl
  simp only [cmpP_lt] at h
  exact h
theorem sort_none : CallA Try.prog 39 [.sl true .pub 6 [], .fn 40 []] σ fun v σ' => σ' = σ ∧ v = .tup [] := sort_nil (ρ := movSort_ren) movSort sort_fn
set_option maxRecDepth 100000 in
set_option maxHeartbeats 3200000 in
theorem all_ok (h : IsTree σ i m s D W) (hK : Keyed W) {K : List Sp} (hKn : ∀ x p, W x = some p → x ∈ K) (hlen : K.length ≤ 268435456) :
    CallA Try.prog 18 [.ptr (some (i, 0))] σ fun v σ' => (∃ R, Canon R W ∧ RdS σ' v 6 (plsV R)) ∧ Ext σ σ' := by
  have h1 := h.cells
  obtain ⟨T, ver, h2, hT⟩ := h.map
  have hTl : T.length ≤ 268435456 := by
    have : ∀ {A B : List Sp}, A.Nodup → (∀ x ∈ A, x ∈ B) → A.length ≤ B.length := by
      intro A
      induction A with
      | nil => intro B _ _; exact Nat.zero_le _
      | cons x A ih =>
        intro B hn hs
        rw [List.nodup_cons] at hn
        have hx := hs x (by simp)
        have := ih (B := B.erase x) hn.2 fun y hy => (List.mem_erase_of_ne (by rintro rfl; exact hn.1 hy)).2 (hs y (by simp [hy]))
        rw [List.length_erase_of_mem hx] at this
        have := List.length_pos_of_mem hx
        simp only [List.length_cons]; omega
    have h3 := this (B := K) hT.nd fun x hx => by
      cases hw : W x with
      | none =>
        rw [← hT.look, lookT_mem] at hw
        exact absurd hx hw
      | some p => exact hKn x p hw
    rw [List.length_map] at h3
    omega
  refine fn_at Try.func18 (by decide) comp18 rfl fun Q q1 q2 => ?_
  simp -implicitDefEqProofs only [go_sem, Nat.reduceBEq, Nat.reduceAdd, eq_self, true_and, and_true, and_self, List.getElem?_cons_zero, List.getElem?_cons_succ, Nat.reduceLeDiff, Nat.zero_add, Nat.reduceSub, Nat.le_refl, c18, h1, h2]
  refine loop_at (fun (x : Tl × List Pl × V) => ⟨[(0, .v (.ptr (some (i, 0)))), (3, .v x.2.2), (12, .v (.ptr (some (σ.objs.length, 0))))], []⟩)
    (fun x τ => (x.2.1 ++ x.1.map (·.2)).Perm (T.map (·.2)) ∧ Ext σ τ ∧ τ.objs[m]? = some (.mp KL (entsT T) ver) ∧ (∃ cur, τ.objs[σ.objs.length]? = some (.it (some (m, ver)) (entsT x.1) cur)) ∧ Acc σ.live.length τ x.2.2 6 (plsV x.2.1)) (fun x => x.1.length) (T, [], .sl true .pub 6 []) ?_ ?_ ?_
  · refine .inr ?_
    simp -implicitDefEqProofs only [go_sem, Nat.reduceBEq, Nat.reduceAdd, eq_self, true_and, and_true, and_self, List.getElem?_cons_zero, List.getElem?_cons_succ, Nat.reduceLeDiff, Nat.zero_add, Nat.reduceSub, Nat.le_refl, Nat.lt_irrefl]
    try trivial
  · exact ⟨by simp, ext_obj _ _, (ext_obj σ _).objs _ _ h2, ⟨none, by simp⟩, .inl ⟨rfl, rfl⟩⟩
  rintro ⟨lf, dn, w⟩ τ ⟨g1, g2, g3, ⟨cur, g4⟩, g5⟩ Z z1 z2 z3
  simp only at g1 g4 g5
  have hm : m ≠ σ.objs.length := by have := (List.getElem?_eq_some_iff.1 h2).1; omega
  have hwS : IsSl w := g5.rd.isSl
  obtain ⟨wb, wR, wz, wes, hw⟩ := hwS
  subst hw
  simp -implicitDefEqProofs only [go_sem, Nat.reduceBEq, Nat.reduceAdd, eq_self, true_and, and_true, and_self, List.getElem?_cons_zero, List.getElem?_cons_succ, Nat.reduceLeDiff, Nat.zero_add, Nat.reduceSub, Nat.le_refl, Nat.lt_irrefl]
  refine nx_at g4 (by rw [g3]; exact rfl) (fun hn => ?_) (fun a x b hx => ?_)
  · simp -implicitDefEqProofs only [go_sem, Nat.reduceBEq, Nat.reduceAdd, eq_self, true_and, and_true, and_self, List.getElem?_cons_zero, List.getElem?_cons_succ, Nat.reduceLeDiff, Nat.zero_add, Nat.reduceSub, Nat.le_refl, Nat.lt_irrefl]
    refine z2 _ _ _ ?_
    simp -implicitDefEqProofs only [go_sem, Nat.reduceBEq, Nat.reduceAdd, eq_self, true_and, and_true, and_self, List.getElem?_cons_zero, List.getElem?_cons_succ, Nat.reduceLeDiff, Nat.zero_add, Nat.reduceSub, Nat.le_refl, Nat.lt_irrefl]
    have hlf := entsT_nil hn
    subst hlf
    rw [List.map_nil, List.append_nil] at g1
    rcases g5 with ⟨hd, e⟩ | ⟨q, e, hq, hn⟩
    · cases e
      refine cm_nil sort_none ?_
      rintro v σ' ⟨rfl, rfl⟩
      refine ⟨kept_none, ?_⟩
      simp -implicitDefEqProofs only [go_sem, Nat.reduceBEq, Nat.reduceAdd, eq_self, true_and, and_true, and_self, List.getElem?_cons_zero, List.getElem?_cons_succ, Nat.reduceLeDiff, Nat.zero_add, Nat.reduceSub, Nat.le_refl, Nat.lt_irrefl]
      refine q2 _ _ ?_
      simp -implicitDefEqProofs only [go_sem, Nat.reduceBEq, Nat.reduceAdd, eq_self, true_and, and_true, and_self, List.getElem?_cons_zero, List.getElem?_cons_succ, Nat.reduceLeDiff, Nat.zero_add, Nat.reduceSub, Nat.le_refl, Nat.lt_irrefl]
      have hd : dn = [] := by simpa [plsV] using hd
      subst hd
      exact ⟨⟨[], canon_of hT hK g1 .nil, ⟨true, .pub, 6, rfl, by simp [plsV], .inl rfl⟩⟩, g2⟩
    · cases e
      refine cm_at (sort_pls hq (by have := g1.length_eq; rw [List.length_map] at this; omega)) ?_
      rintro v r' es' σ' ⟨S, p1, p2, rfl, rfl, rfl, rfl⟩
      refine ⟨kept_none, ?_⟩
      simp -implicitDefEqProofs only [go_sem, Nat.reduceBEq, Nat.reduceAdd, eq_self, true_and, and_true, and_self, List.getElem?_cons_zero, List.getElem?_cons_succ, Nat.reduceLeDiff, Nat.zero_add, Nat.reduceSub, Nat.le_refl, renL, beq_self_eq_true, cond_true]
      refine q2 _ _ ?_
      simp -implicitDefEqProofs only [go_sem, Nat.reduceBEq, Nat.reduceAdd, eq_self, true_and, and_true, and_self, List.getElem?_cons_zero, List.getElem?_cons_succ, Nat.reduceLeDiff, Nat.zero_add, Nat.reduceSub, Nat.le_refl, Nat.lt_irrefl]
      refine ⟨⟨S, canon_of hT hK (p1.trans g1) p2, ⟨false, .own τ.live.length, 6, rfl, by simp, .inr ⟨?_, rfl⟩⟩⟩, ?_⟩
      · show (τ.live.set q false ++ [true])[τ.live.length]? = some true
        simp
      · exact ext_kill g2 hn
  · obtain ⟨u, r, v, rfl, rfl, rfl, rfl⟩ := entsT_split hx
    have k4 := setA_at (o := .it (some (m, ver)) (entsT u ++ entsT v) (some (spV r.1, plV r.2))) g4
    have k3 : (τ.setA σ.objs.length (.it (some (m, ver)) (entsT u ++ entsT v) (some (spV r.1, plV r.2)))).objs[m]? = _ := (setA_ne hm).trans g3
    have e3 := ext_setA g2 (Nat.le_refl _) (o := .it (some (m, ver)) (entsT u ++ entsT v) (some (spV r.1, plV r.2)))
    have hlv : (τ.setA σ.objs.length (.it (some (m, ver)) (entsT u ++ entsT v) (some (spV r.1, plV r.2)))).live = τ.live := rfl
    generalize (τ.setA σ.objs.length (.it (some (m, ver)) (entsT u ++ entsT v) (some (spV r.1, plV r.2)))) = τ1 at k4 k3 e3 hlv ⊢
    have hv1 : isV (some (AObj.mp KL (entsT T) ver)) ver := rfl
    have hperm : ((dn ++ [r.2]) ++ (u ++ v).map (·.2)).Perm (T.map (·.2)) := by
      refine List.Perm.trans ?_ g1
      simp only [List.append_assoc, List.singleton_append, List.map_append, List.map_cons]
      exact List.Perm.append_left _ (List.perm_middle.symm)
    have hdl : dn.length ≤ 268435456 := by
      have := g1.length_eq
      simp only [List.length_append, List.length_map] at this; omega
    have fin : ∀ (F : Fr) (τ2 : St) (q : Nat), FrLe ⟨[(0, .v (.ptr (some (i, 0)))), (3, .v (.sl false (.own q) 6 (plsV (dn ++ [r.2])))), (12, .v (.ptr (some (σ.objs.length, 0))))], []⟩ F → Ext σ τ2 → τ2.objs = τ1.objs → τ2.live[q]? = some true → σ.live.length ≤ q → Z .normal F τ2 := by
      intro F τ2 q hF f1 f2 f3 f4
      refine z1 (u ++ v, dn ++ [r.2], _) F τ2 hF ?_ ⟨hperm, f1, by rw [f2]; exact k3, ⟨_, by rw [f2]; simp only [entsT, List.map_append] at k4 ⊢; exact k4⟩, .inr ⟨q, rfl, f3, f4⟩⟩
      simp only [List.length_append, List.length_cons]; omega
    rcases g5 with ⟨hd, e⟩ | ⟨q, e, hq, hn⟩
    · cases e
      have hd : dn = [] := by simpa [plsV] using hd
      subst hd
      simp -implicitDefEqProofs only [go_sem, Nat.reduceBEq, Nat.reduceAdd, eq_self, true_and, and_true, and_self, List.getElem?_cons_zero, List.getElem?_cons_succ, Nat.reduceLeDiff, Nat.zero_add, Nat.reduceSub, Nat.le_refl, k4, k3, hv1, spV, spC, plV, plC]
      refine ⟨⟨.inl trivial, rfl, .inr (live_last _ _), .inl trivial⟩, fin _ _ τ1.live.length.succ (.inr ?_) ?_ rfl ?_ ?_⟩
      · simp -implicitDefEqProofs only [go_sem, Nat.reduceBEq, Nat.reduceAdd, eq_self, true_and, and_true, and_self, List.getElem?_cons_zero, List.getElem?_cons_succ, Nat.reduceLeDiff, Nat.zero_add, Nat.reduceSub, Nat.le_refl, plsV, plC, List.length_append, List.length_singleton, List.nil_append, List.map_cons, List.map_nil, List.isEmpty_cons]
        try trivial
      · exact ext_push (ext_push e3)
      · show ((τ1.live ++ [true]) ++ [true])[τ1.live.length + 1]? = some true
        simp
      · rw [hlv]; have := g2.llen; omega
    · cases e
      simp -implicitDefEqProofs only [go_sem, Nat.reduceBEq, Nat.reduceAdd, eq_self, true_and, and_true, and_self, List.getElem?_cons_zero, List.getElem?_cons_succ, Nat.reduceLeDiff, Nat.zero_add, Nat.reduceSub, Nat.le_refl, k4, k3, hv1, spV, spC, plV, plC]
      rw [← hlv] at hq
      refine ⟨⟨.inr trivial, .inr ((ext_live _ _).live _ hq), ⟨.inr (live_last _ _), .inl trivial⟩, by rw [plsV_length]; omega⟩, fin _ _ _ (.inr ?_) (ext_kill (ext_push e3) hn) rfl (live_last' _ _ _) ?_⟩
      · simp -implicitDefEqProofs only [go_sem, Nat.reduceBEq, Nat.reduceAdd, eq_self, true_and, and_true, and_self, List.getElem?_cons_zero, List.getElem?_cons_succ, Nat.reduceLeDiff, Nat.zero_add, Nat.reduceSub, Nat.le_refl, plsV, plC, List.map_append, List.map_cons, List.map_nil]
        try trivial
      · simp only [List.length_append, List.length_singleton]; rw [hlv]; have := g2.llen; omega
end
end Go.VL.mov

namespace Go.VL.mov
open Go Go.VL Go.Proofs Go.IntWalk

section
variable {σ : St} {i m : Nat} {s : V} {D : List Mv} {W : Tr} {x : Sp} {l : List Sp}
set_option maxRecDepth 100000 in
set_option maxHeartbeats 3200000 in
theorem above_ok (h : IsTree σ i m s D W) (hc : Chain W x l) (hl : l.length ≤ 1000000) :
    CallA Try.prog 20 [.ptr (some (i, 0)), spV x] σ fun v σ' => RdS σ' v 2 (spsV l) ∧ Ext σ σ' := by
  refine fn_at Try.func20 (by decide) comp20 rfl fun Q q1 q2 => ?_
  simp -implicitDefEqProofs only [go_sem, Nat.reduceBEq, Nat.reduceAdd, eq_self, true_and, and_true, and_self, List.getElem?_cons_zero, List.getElem?_cons_succ, Nat.reduceLeDiff, Nat.zero_add, Nat.reduceSub, Nat.le_refl, c20, spV, spC]
  refine call_at (where_ok (x := x) h) ?_
  rintro v τ ⟨rfl, he0, hl0⟩
  refine ⟨kept_none, ?_⟩
  simp -implicitDefEqProofs only [go_sem, Nat.reduceBEq, Nat.reduceAdd, eq_self, true_and, and_true, and_self, List.getElem?_cons_zero, List.getElem?_cons_succ, Nat.reduceLeDiff, Nat.zero_add, Nat.reduceSub, Nat.le_refl, plV, plC]
  refine loop_at (fun (x : Nat × Sp × V) => ⟨[(0, .v (.ptr (some (i, 0)))), (5, .v x.2.2), (6, .loc 6 0), (7, .v (.bool (W x.2.1).isSome))], [(6, plC ((W x.2.1).getD zp))]⟩)
    (fun x τ' => x.1 ≤ l.length ∧ Ext σ τ' ∧ Acc σ.live.length τ' x.2.2 2 (spsV (l.take x.1)) ∧ Chain W x.2.1 (l.drop x.1)) (fun x => l.length - x.1) (0, x, .sl true .pub 2 []) ?_ ?_ ?_
  · refine .inr ?_
    simp -implicitDefEqProofs only [go_sem, Nat.reduceBEq, Nat.reduceAdd, eq_self, true_and, and_true, and_self, List.getElem?_cons_zero, List.getElem?_cons_succ, Nat.reduceLeDiff, Nat.zero_add, Nat.reduceSub, Nat.le_refl, plC]
    try trivial
  · exact ⟨Nat.zero_le _, he0, .inl ⟨rfl, rfl⟩, hc⟩
  rintro ⟨k, y, w⟩ τ1 ⟨g1, g2, g3, g4⟩ Z z1 z2 z3
  simp only at g1 g3 g4
  obtain ⟨wb, wR, wz, wes, hw⟩ := g3.rd.isSl
  subst hw
  cases hW : W y with
  | none =>
    have he := g4.none' hW
    have htl : l.take k = l := List.take_of_length_le (List.drop_eq_nil_iff.1 he)
    rw [htl] at g3
    simp -implicitDefEqProofs only [go_sem, Nat.reduceBEq, Nat.reduceAdd, eq_self, true_and, and_true, and_self, List.getElem?_cons_zero, List.getElem?_cons_succ, Nat.reduceLeDiff, Nat.zero_add, Nat.reduceSub, Nat.le_refl, Option.isSome_none]
    refine z2 _ _ _ ?_
    simp -implicitDefEqProofs only [go_sem, Nat.reduceBEq, Nat.reduceAdd, eq_self, true_and, and_true, and_self, List.getElem?_cons_zero, List.getElem?_cons_succ, Nat.reduceLeDiff, Nat.zero_add, Nat.reduceSub, Nat.le_refl, Nat.lt_irrefl]
    refine q2 _ _ ?_
    simp -implicitDefEqProofs only [go_sem, Nat.reduceBEq, Nat.reduceAdd, eq_self, true_and, and_true, and_self, List.getElem?_cons_zero, List.getElem?_cons_succ, Nat.reduceLeDiff, Nat.zero_add, Nat.reduceSub, Nat.le_refl, Nat.lt_irrefl]
    exact ⟨g3.rd, g2⟩
  | some p =>
    obtain ⟨l', he, hc'⟩ := g4.some' hW
    obtain ⟨ht, e1, e2⟩ := drop_cons he
    rw [← e2] at hc'
    have hsz : (spsV (l.take k)).length ≤ 1000000 := by rw [spsV_length, List.length_take]; omega
    have fin : ∀ (F : Fr) (τ2 : St) (q : Nat), FrLe ⟨[(0, .v (.ptr (some (i, 0)))), (5, .v (.sl false (.own q) 2 (spsV (l.take (k + 1))))), (6, .loc 6 0), (7, .v (.bool (W p.p).isSome))], [(6, plC ((W p.p).getD zp))]⟩ F → Ext σ τ2 → τ2.live[q]? = some true → σ.live.length ≤ q → Z .normal F τ2 := by
      intro F τ2 q hF f1 f3 f4
      exact z1 (k + 1, p.p, _) F τ2 hF (by simp only; omega) ⟨by simp only; omega, f1, .inr ⟨q, rfl, f3, f4⟩, hc'⟩
    rcases g3 with ⟨hd, e⟩ | ⟨q, e, hq, hn⟩
    · cases e
      simp -implicitDefEqProofs only [go_sem, Nat.reduceBEq, Nat.reduceAdd, eq_self, true_and, and_true, and_self, List.getElem?_cons_zero, List.getElem?_cons_succ, Nat.reduceLeDiff, Nat.zero_add, Nat.reduceSub, Nat.le_refl, Option.isSome_some, Option.getD_some, plC]
      refine ⟨⟨.inl trivial, rfl, .inr (live_last _ _), .inl trivial⟩, ?_⟩
      have e3 : Ext σ ⟨τ1.objs, (τ1.live ++ [true]) ++ [true]⟩ := ext_push (ext_push g2)
      refine call_at (where_ok (x := p.p) (h.ext e3)) ?_
      rintro v τ3 ⟨rfl, he3, hl3⟩
      refine ⟨kept_none, ?_⟩
      simp -implicitDefEqProofs only [go_sem, Nat.reduceBEq, Nat.reduceAdd, eq_self, true_and, and_true, and_self, List.getElem?_cons_zero, List.getElem?_cons_succ, Nat.reduceLeDiff, Nat.zero_add, Nat.reduceSub, Nat.le_refl, plV, plC]
      refine fin _ _ (τ1.live ++ [true]).length (.inr ?_) (e3.trans he3) (he3.live _ (live_last _ _)) (by have := g2.llen; simp only [List.length_append, List.length_cons, List.length_nil]; omega)
      simp -implicitDefEqProofs only [go_sem, Nat.reduceBEq, Nat.reduceAdd, eq_self, true_and, and_true, and_self, List.getElem?_cons_zero, List.getElem?_cons_succ, Nat.reduceLeDiff, Nat.zero_add, Nat.reduceSub, Nat.le_refl, e1, spsV, spC, List.map_append, List.map_cons, List.map_nil, plC]
      have : (l.take k).map spC = [] := hd
      simp [this]
    · cases e
      simp -implicitDefEqProofs only [go_sem, Nat.reduceBEq, Nat.reduceAdd, eq_self, true_and, and_true, and_self, List.getElem?_cons_zero, List.getElem?_cons_succ, Nat.reduceLeDiff, Nat.zero_add, Nat.reduceSub, Nat.le_refl, Option.isSome_some, Option.getD_some, plC]
      refine ⟨⟨.inr trivial, .inr ((ext_live _ _).live _ hq), ⟨.inr (live_last _ _), .inl trivial⟩, by omega⟩, ?_⟩
      have e3 : Ext σ ⟨τ1.objs, kill (τ1.live ++ [true]) (.own q) ++ [true]⟩ := ext_kill (ext_push g2) hn
      refine call_at (where_ok (x := p.p) (h.ext e3)) ?_
      rintro v τ3 ⟨rfl, he3, hl3⟩
      refine ⟨kept_none, ?_⟩
      simp -implicitDefEqProofs only [go_sem, Nat.reduceBEq, Nat.reduceAdd, eq_self, true_and, and_true, and_self, List.getElem?_cons_zero, List.getElem?_cons_succ, Nat.reduceLeDiff, Nat.zero_add, Nat.reduceSub, Nat.le_refl, plV, plC]
      refine fin _ _ (τ1.live ++ [true]).length (.inr ?_) (e3.trans he3) (he3.live _ (live_last' _ _ _)) (by have := g2.llen; simp only [List.length_append, List.length_cons, List.length_nil]; omega)
      simp -implicitDefEqProofs only [go_sem, Nat.reduceBEq, Nat.reduceAdd, eq_self, true_and, and_true, and_self, List.getElem?_cons_zero, List.getElem?_cons_succ, Nat.reduceLeDiff, Nat.zero_add, Nat.reduceSub, Nat.le_refl, e1, spsV, spC, List.map_append, List.map_cons, List.map_nil, plC]
      try trivial
end
section
variable {σ : St} {A B : List Pl} {l l' : List Sp} {v w : V}
theorem take_ext {α : Type} {A B : List α} (hl : A.length = B.length) {i : Nat} (hi : i < A.length) (hi' : i < B.length) (h : A.take i = B.take i) : A.take (i + 1) = B.take (i + 1) ↔ A[i] = B[i] := by
  rw [List.take_succ_eq_append_getElem hi, List.take_succ_eq_append_getElem hi', h]
  constructor
  · intro e
    have := List.append_cancel_left e
    simpa using this
  · intro e; rw [e]
set_option maxRecDepth 100000 in
set_option maxHeartbeats 1600000 in
theorem same_ok (hv : RdS σ v 6 (plsV A)) (hw : RdS σ w 6 (plsV B)) (hl : A.length ≤ 1000000000) :
    CallA Try.prog 17 [v, w] σ fun u σ' => u = .bool (decide (A = B)) ∧ σ' = σ := by
  obtain ⟨b, R, z, rfl, -, -⟩ := id hv
  obtain ⟨b', R', z', rfl, -, -⟩ := id hw
  refine fn_at Try.func17 (by decide) comp17 rfl fun Q q1 q2 => ?_
  have hA := plsV_length A
  have hB := plsV_length B
  by_cases hll : A.length = B.length
  case neg =>
    have hd : decide (((plsV A).length : Int) = (plsV B).length) = false := by rw [hA, hB]; simp; omega
    have hne : decide (A = B) = false := by simp only [decide_eq_false_iff_not]; rintro rfl; exact hll rfl
    rw [hne] at q2
    simp -implicitDefEqProofs only [go_sem, Nat.reduceBEq, Nat.reduceAdd, eq_self, true_and, and_true, and_self, List.getElem?_cons_zero, List.getElem?_cons_succ, Nat.reduceLeDiff, Nat.zero_add, Nat.reduceSub, Nat.le_refl, c17, hd]
    refine q2 _ _ ?_
    simp -implicitDefEqProofs only [go_sem, Nat.reduceBEq, Nat.reduceAdd, eq_self, true_and, and_true, and_self, List.getElem?_cons_zero, List.getElem?_cons_succ, Nat.reduceLeDiff, Nat.zero_add, Nat.reduceSub, Nat.le_refl, Nat.lt_irrefl]
    try first | exact ⟨trivial, trivial⟩ | exact ⟨trivial, rfl⟩ | exact ⟨rfl, rfl⟩ | exact ⟨rfl, trivial⟩ | trivial
  have hd : decide (((plsV A).length : Int) = (plsV B).length) = true := by rw [hA, hB]; simp; omega
  simp -implicitDefEqProofs only [go_sem, Nat.reduceBEq, Nat.reduceAdd, eq_self, true_and, and_true, and_self, List.getElem?_cons_zero, List.getElem?_cons_succ, Nat.reduceLeDiff, Nat.zero_add, Nat.reduceSub, Nat.le_refl, c17, hd]
  refine loop_at (fun (i : Nat) => ⟨[(0, .v (.sl b R z (plsV A))), (1, .v (.sl b' R' z' (plsV B))), (5, .v (.int .i64 i))], []⟩)
    (fun i τ' => i ≤ A.length ∧ τ' = σ ∧ A.take i = B.take i) (fun i => A.length - i) 0 ?_ ?_ ?_
  · exact .inr (by simp [go_sem])
  · exact ⟨Nat.zero_le _, rfl, rfl⟩
  rintro i τ' ⟨g1, hτ, g3⟩ Z z1 z2 z3
  have hτ := hτ.symm
  subst hτ
  simp -implicitDefEqProofs only [go_sem, Nat.reduceBEq, Nat.reduceAdd, eq_self, true_and, and_true, and_self, List.getElem?_cons_zero, List.getElem?_cons_succ, Nat.reduceLeDiff, Nat.zero_add, Nat.reduceSub, Nat.le_refl, Nat.lt_irrefl]
  refine CondW_b (fun hcc => ?_) (fun hcc => ?_)
  · have hi : i < A.length := by simpa [hA] using hcc
    have hi' : i < B.length := by omega
    obtain ⟨k1, k2⟩ := rdl hv (by cases A <;> simp [plsV] at hi ⊢)
    obtain ⟨k3, k4⟩ := rdl hw (by cases B <;> simp [plsV] at hi' ⊢)
    have hget := plsV_get hi
    have hget' := plsV_get hi'
    have hib : (i : Int) < (plsV A).length := by rw [hA]; omega
    have hib' : (i : Int) < (plsV B).length := by rw [hB]; omega
    have hw64 : IntKind.i64.wrap ((i : Int) + 1) = ((i + 1 : Nat) : Int) := by rw [i64_in _ (by omega)]; omega
    have hte := take_ext hll hi hi' g3
    by_cases he : A[i] = B[i]
    · have hdd : decide (A[i] = B[i]) = true := by simp [he]
      simp -implicitDefEqProofs only [go_sem, Nat.reduceBEq, Nat.reduceAdd, eq_self, true_and, and_true, and_self, List.getElem?_cons_zero, List.getElem?_cons_succ, Nat.reduceLeDiff, Nat.zero_add, Nat.reduceSub, Nat.le_refl, hget, hget', plC, pl_eqs, hdd]
      refine ⟨⟨by omega, hib, k2⟩, k1, ⟨by omega, hib', k4⟩, k3, ?_⟩
      simp -implicitDefEqProofs only [go_sem, Nat.reduceBEq, Nat.reduceAdd, eq_self, true_and, and_true, and_self, List.getElem?_cons_zero, List.getElem?_cons_succ, Nat.reduceLeDiff, Nat.zero_add, Nat.reduceSub, Nat.le_refl, hw64]
      refine z1 (i + 1) _ _ (.inr ?_) (by omega) ⟨by omega, rfl, hte.2 he⟩
      simp -implicitDefEqProofs only [go_sem, Nat.reduceBEq, Nat.reduceAdd, eq_self, true_and, and_true, and_self, List.getElem?_cons_zero, List.getElem?_cons_succ, Nat.reduceLeDiff, Nat.zero_add, Nat.reduceSub, Nat.le_refl, Nat.lt_irrefl]
      try trivial
    · have hdd : decide (A[i] = B[i]) = false := by simp [he]
      have hne : decide (A = B) = false := by
        simp only [decide_eq_false_iff_not]; intro e
        exact he (hte.1 (by rw [e]))
      rw [hne] at q2
      simp -implicitDefEqProofs only [go_sem, Nat.reduceBEq, Nat.reduceAdd, eq_self, true_and, and_true, and_self, List.getElem?_cons_zero, List.getElem?_cons_succ, Nat.reduceLeDiff, Nat.zero_add, Nat.reduceSub, Nat.le_refl, hget, hget', plC, pl_eqs, hdd]
      refine ⟨⟨by omega, hib, k2⟩, k1, ⟨by omega, hib', k4⟩, k3, ?_⟩
      refine z3 _ _ ?_
      simp -implicitDefEqProofs only [go_sem, Nat.reduceBEq, Nat.reduceAdd, eq_self, true_and, and_true, and_self, List.getElem?_cons_zero, List.getElem?_cons_succ, Nat.reduceLeDiff, Nat.zero_add, Nat.reduceSub, Nat.le_refl, Nat.lt_irrefl]
      refine q2 _ _ ?_
      simp -implicitDefEqProofs only [go_sem, Nat.reduceBEq, Nat.reduceAdd, eq_self, true_and, and_true, and_self, List.getElem?_cons_zero, List.getElem?_cons_succ, Nat.reduceLeDiff, Nat.zero_add, Nat.reduceSub, Nat.le_refl, Nat.lt_irrefl]
      try first | exact ⟨trivial, trivial⟩ | exact ⟨trivial, rfl⟩ | exact ⟨rfl, rfl⟩ | exact ⟨rfl, trivial⟩ | trivial
  · have hi : ¬ i < A.length := by simpa [hA] using hcc
    rw [List.take_of_length_le (by omega), List.take_of_length_le (by omega)] at g3
    have hne : decide (A = B) = true := by simp [g3]
    rw [hne] at q2
    simp -implicitDefEqProofs only [go_sem, Nat.reduceBEq, Nat.reduceAdd, eq_self, true_and, and_true, and_self, List.getElem?_cons_zero, List.getElem?_cons_succ, Nat.reduceLeDiff, Nat.zero_add, Nat.reduceSub, Nat.le_refl, Nat.lt_irrefl]
    refine z2 _ _ _ ?_
    simp -implicitDefEqProofs only [go_sem, Nat.reduceBEq, Nat.reduceAdd, eq_self, true_and, and_true, and_self, List.getElem?_cons_zero, List.getElem?_cons_succ, Nat.reduceLeDiff, Nat.zero_add, Nat.reduceSub, Nat.le_refl, Nat.lt_irrefl]
    refine q2 _ _ ?_
    simp -implicitDefEqProofs only [go_sem, Nat.reduceBEq, Nat.reduceAdd, eq_self, true_and, and_true, and_self, List.getElem?_cons_zero, List.getElem?_cons_succ, Nat.reduceLeDiff, Nat.zero_add, Nat.reduceSub, Nat.le_refl, Nat.lt_irrefl]
    try first | exact ⟨trivial, trivial⟩ | exact ⟨trivial, rfl⟩ | exact ⟨rfl, rfl⟩ | exact ⟨rfl, trivial⟩ | trivial
set_option maxRecDepth 100000 in
set_option maxHeartbeats 1600000 in
theorem same2_ok (hv : RdS σ v 2 (spsV l)) (hw : RdS σ w 2 (spsV l')) (hl : l.length ≤ 1000000000) :
    CallA Try.prog 24 [v, w] σ fun u σ' => u = .bool (decide (l = l')) ∧ σ' = σ := by
  obtain ⟨b, R, z, rfl, -, -⟩ := id hv
  obtain ⟨b', R', z', rfl, -, -⟩ := id hw
  refine fn_at Try.func24 (by decide) comp24 rfl fun Q q1 q2 => ?_
  have hA := spsV_length l
  have hB := spsV_length l'
  by_cases hll : l.length = l'.length
  case neg =>
    have hd : decide (((spsV l).length : Int) = (spsV l').length) = false := by rw [hA, hB]; simp; omega
    have hne : decide (l = l') = false := by simp only [decide_eq_false_iff_not]; rintro rfl; exact hll rfl
    rw [hne] at q2
    simp -implicitDefEqProofs only [go_sem, Nat.reduceBEq, Nat.reduceAdd, eq_self, true_and, and_true, and_self, List.getElem?_cons_zero, List.getElem?_cons_succ, Nat.reduceLeDiff, Nat.zero_add, Nat.reduceSub, Nat.le_refl, c24, hd]
    refine q2 _ _ ?_
    simp -implicitDefEqProofs only [go_sem, Nat.reduceBEq, Nat.reduceAdd, eq_self, true_and, and_true, and_self, List.getElem?_cons_zero, List.getElem?_cons_succ, Nat.reduceLeDiff, Nat.zero_add, Nat.reduceSub, Nat.le_refl, Nat.lt_irrefl]
    try first | exact ⟨trivial, trivial⟩ | exact ⟨trivial, rfl⟩ | exact ⟨rfl, rfl⟩ | exact ⟨rfl, trivial⟩ | trivial
  have hd : decide (((spsV l).length : Int) = (spsV l').length) = true := by rw [hA, hB]; simp; omega
  simp -implicitDefEqProofs only [go_sem, Nat.reduceBEq, Nat.reduceAdd, eq_self, true_and, and_true, and_self, List.getElem?_cons_zero, List.getElem?_cons_succ, Nat.reduceLeDiff, Nat.zero_add, Nat.reduceSub, Nat.le_refl, c24, hd]
  refine loop_at (fun (i : Nat) => ⟨[(0, .v (.sl b R z (spsV l))), (1, .v (.sl b' R' z' (spsV l'))), (5, .v (.int .i64 i))], []⟩)
    (fun i τ' => i ≤ l.length ∧ τ' = σ ∧ l.take i = l'.take i) (fun i => l.length - i) 0 ?_ ?_ ?_
  · exact .inr (by simp [go_sem])
  · exact ⟨Nat.zero_le _, rfl, rfl⟩
  rintro i τ' ⟨g1, hτ, g3⟩ Z z1 z2 z3
  have hτ := hτ.symm
  subst hτ
  simp -implicitDefEqProofs only [go_sem, Nat.reduceBEq, Nat.reduceAdd, eq_self, true_and, and_true, and_self, List.getElem?_cons_zero, List.getElem?_cons_succ, Nat.reduceLeDiff, Nat.zero_add, Nat.reduceSub, Nat.le_refl, Nat.lt_irrefl]
  refine CondW_b (fun hcc => ?_) (fun hcc => ?_)
  · have hi : i < l.length := by simpa [hA] using hcc
    have hi' : i < l'.length := by omega
    obtain ⟨k1, k2⟩ := rdl hv (by cases l <;> simp [spsV] at hi ⊢)
    obtain ⟨k3, k4⟩ := rdl hw (by cases l' <;> simp [spsV] at hi' ⊢)
    have hget := spsV_get hi
    have hget' := spsV_get hi'
    have hib : (i : Int) < (spsV l).length := by rw [hA]; omega
    have hib' : (i : Int) < (spsV l').length := by rw [hB]; omega
    have hw64 : IntKind.i64.wrap ((i : Int) + 1) = ((i + 1 : Nat) : Int) := by rw [i64_in _ (by omega)]; omega
    have hte := take_ext hll hi hi' g3
    by_cases he : l[i] = l'[i]
    · have hdd : decide (l[i] = l'[i]) = true := by simp [he]
      simp -implicitDefEqProofs only [go_sem, Nat.reduceBEq, Nat.reduceAdd, eq_self, true_and, and_true, and_self, List.getElem?_cons_zero, List.getElem?_cons_succ, Nat.reduceLeDiff, Nat.zero_add, Nat.reduceSub, Nat.le_refl, hget, hget', spC, sp_eqs, hdd]
      refine ⟨⟨by omega, hib, k2⟩, k1, ⟨by omega, hib', k4⟩, k3, ?_⟩
      simp -implicitDefEqProofs only [go_sem, Nat.reduceBEq, Nat.reduceAdd, eq_self, true_and, and_true, and_self, List.getElem?_cons_zero, List.getElem?_cons_succ, Nat.reduceLeDiff, Nat.zero_add, Nat.reduceSub, Nat.le_refl, hw64]
      refine z1 (i + 1) _ _ (.inr ?_) (by omega) ⟨by omega, rfl, hte.2 he⟩
      simp -implicitDefEqProofs only [go_sem, Nat.reduceBEq, Nat.reduceAdd, eq_self, true_and, and_true, and_self, List.getElem?_cons_zero, List.getElem?_cons_succ, Nat.reduceLeDiff, Nat.zero_add, Nat.reduceSub, Nat.le_refl, Nat.lt_irrefl]
      try trivial
    · have hdd : decide (l[i] = l'[i]) = false := by simp [he]
      have hne : decide (l = l') = false := by
        simp only [decide_eq_false_iff_not]; intro e
        exact he (hte.1 (by rw [e]))
      rw [hne] at q2
      simp -implicitDefEqProofs only [go_sem, Nat.reduceBEq, Nat.reduceAdd, eq_self, true_and, and_true, and_self, List.getElem?_cons_zero, List.getElem?_cons_succ, Nat.reduceLeDiff, Nat.zero_add, Nat.reduceSub, Nat.le_refl, hget, hget', spC, sp_eqs, hdd]
      refine ⟨⟨by omega, hib, k2⟩, k1, ⟨by omega, hib', k4⟩, k3, ?_⟩
      refine z3 _ _ ?_
      simp -implicitDefEqProofs only [go_sem, Nat.reduceBEq, Nat.reduceAdd, eq_self, true_and, and_true, and_self, List.getElem?_cons_zero, List.getElem?_cons_succ, Nat.reduceLeDiff, Nat.zero_add, Nat.reduceSub, Nat.le_refl, Nat.lt_irrefl]
      refine q2 _ _ ?_
      simp -implicitDefEqProofs only [go_sem, Nat.reduceBEq, Nat.reduceAdd, eq_self, true_and, and_true, and_self, List.getElem?_cons_zero, List.getElem?_cons_succ, Nat.reduceLeDiff, Nat.zero_add, Nat.reduceSub, Nat.le_refl, Nat.lt_irrefl]
      try first | exact ⟨trivial, trivial⟩ | exact ⟨trivial, rfl⟩ | exact ⟨rfl, rfl⟩ | exact ⟨rfl, trivial⟩ | trivial
  · have hi : ¬ i < l.length := by simpa [hA] using hcc
    rw [List.take_of_length_le (by omega), List.take_of_length_le (by omega)] at g3
    have hne : decide (l = l') = true := by simp [g3]
    rw [hne] at q2
    simp -implicitDefEqProofs only [go_sem, Nat.reduceBEq, Nat.reduceAdd, eq_self, true_and, and_true, and_self, List.getElem?_cons_zero, List.getElem?_cons_succ, Nat.reduceLeDiff, Nat.zero_add, Nat.reduceSub, Nat.le_refl, Nat.lt_irrefl]
    refine z2 _ _ _ ?_
    simp -implicitDefEqProofs only [go_sem, Nat.reduceBEq, Nat.reduceAdd, eq_self, true_and, and_true, and_self, List.getElem?_cons_zero, List.getElem?_cons_succ, Nat.reduceLeDiff, Nat.zero_add, Nat.reduceSub, Nat.le_refl, Nat.lt_irrefl]
    refine q2 _ _ ?_
    simp -implicitDefEqProofs only [go_sem, Nat.reduceBEq, Nat.reduceAdd, eq_self, true_and, and_true, and_self, List.getElem?_cons_zero, List.getElem?_cons_succ, Nat.reduceLeDiff, Nat.zero_add, Nat.reduceSub, Nat.le_refl, Nat.lt_irrefl]
    try first | exact ⟨trivial, trivial⟩ | exact ⟨trivial, rfl⟩ | exact ⟨rfl, rfl⟩ | exact ⟨rfl, trivial⟩ | trivial
end
end Go.VL.mov

namespace Go.VL.mov
open Go Go.VL Go.Proofs Go.IntWalk

theorem nodup_le : ∀ {A B : List Sp}, A.Nodup → (∀ x ∈ A, x ∈ B) → A.length ≤ B.length
  | [], B, _, _ => Nat.zero_le _
  | x :: A, B, hn, hs => by
    rw [List.nodup_cons] at hn
    have hx := hs x (by simp)
    have := nodup_le (A := A) (B := B.erase x) hn.2 fun y hy => (List.mem_erase_of_ne (by rintro rfl; exact hn.1 hy)).2 (hs y (by simp [hy]))
    rw [List.length_erase_of_mem hx] at this
    have := List.length_pos_of_mem hx
    simp only [List.length_cons]; omega
theorem srt_uniq {R : List Pl} (hs : SrtP R) {p q : Pl} (hp : p ∈ R) (hq : q ∈ R) (h : p.n = q.n) : p = q := by
  obtain ⟨i, hi, rfl⟩ := List.getElem_of_mem hp
  obtain ⟨j, hj, rfl⟩ := List.getElem_of_mem hq
  rcases Nat.lt_trichotomy i j with hij | hij | hij
  · have := List.pairwise_iff_getElem.1 hs i j hi hj hij
    rw [h, less_irr] at this; cases this
  · subst hij; rfl
  · have := List.pairwise_iff_getElem.1 hs j i hj hi hij
    rw [h, less_irr] at this; cases this
theorem Canon.mem {R : List Pl} {W : Tr} (h : Canon R W) {p : Pl} (hp : p ∈ R) : W p.n = some p := by
  rw [← h.look]
  cases hf : lookR p.n R with
  | none =>
    rw [lookR, List.find?_eq_none] at hf
    exact absurd (by simp) (hf p hp)
  | some q =>
    have h2 : q.n = p.n := by simpa using List.find?_some hf
    rw [srt_uniq h.srt (List.mem_of_find?_eq_some hf) hp h2]
theorem Canon.len_le {R : List Pl} {W : Tr} (h : Canon R W) {K : List Sp} (hK : ∀ x p, W x = some p → x ∈ K) : R.length ≤ K.length := by
  have hn : (R.map (·.n)).Nodup := by
    refine List.pairwise_map.2 (h.srt.imp fun {a b} hab e => ?_)
    rw [e, less_irr] at hab; cases hab
  have := nodup_le hn fun x hx => by
    obtain ⟨p, hp, rfl⟩ := List.mem_map.1 hx
    exact hK _ _ (h.mem hp)
  simpa using this
theorem Canon.uniq {R R' : List Pl} {W : Tr} (h : Canon R W) (k : Canon R' W) : R = R' := by
  have mem : ∀ {A B : List Pl}, Canon A W → Canon B W → ∀ p ∈ A, p ∈ B := fun ha hb p hp => by
    have h1 := ha.mem hp
    rw [← hb.look] at h1
    exact List.mem_of_find?_eq_some h1
  have key : ∀ {A B : List Pl}, SrtP A → SrtP B → (∀ p, p ∈ A ↔ p ∈ B) → A = B := by
    intro A
    induction A with
    | nil =>
      intro B _ _ hm
      cases B with
      | nil => rfl
      | cons b B => exact absurd ((hm b).2 (by simp)) (by simp)
    | cons a A ih =>
      intro B ha hb hm
      cases B with
      | nil => exact absurd ((hm a).1 (by simp)) (by simp)
      | cons b B =>
        obtain ⟨a1, a2⟩ := List.pairwise_cons.1 ha
        obtain ⟨b1, b2⟩ := List.pairwise_cons.1 hb
        have e : a = b := by
          have h1 := (hm a).1 (by simp)
          have h2 := (hm b).2 (by simp)
          rcases List.mem_cons.1 h1 with e | h1
          · exact e
          · rcases List.mem_cons.1 h2 with e | h2
            · exact e.symm
            · have := less_trans (a1 b h2) (b1 a h1)
              rw [less_irr] at this; cases this
        subst e
        rw [ih a2 b2 fun p => ?_]
        constructor
        · intro hp
          rcases List.mem_cons.1 ((hm p).1 (List.mem_cons.2 (.inr hp))) with e | h
          · have := a1 p hp; rw [e, less_irr] at this; cases this
          · exact h
        · intro hp
          rcases List.mem_cons.1 ((hm p).2 (List.mem_cons.2 (.inr hp))) with e | h
          · have := b1 p hp; rw [e, less_irr] at this; cases this
          · exact h
  exact key h.srt k.srt fun p => ⟨mem h k p, mem k h p⟩
theorem Chain.get {W : Tr} {x : Sp} {l : List Sp} (h : Chain W x l) : ∀ (k : Nat) (hk : k + 1 < l.length), ∃ q, W l[k] = some q ∧ q.p = l[k + 1] := by
  induction h with
  | nil => intro k hk; simp at hk
  | @cons x p l h hc ih =>
    intro k hk
    cases k with
    | zero =>
      cases hc with
      | nil => simp at hk
      | @cons _ q l' h' hc' => exact ⟨q, h', rfl⟩
    | succ k => exact ih k (by simpa using hk)
theorem Chain.last {W : Tr} {x : Sp} {l : List Sp} (h : Chain W x l) : ∀ (hk : l.length - 1 < l.length), W l[l.length - 1] = none := by
  induction h with
  | nil => intro hk; simp at hk
  | @cons x p l h hc ih =>
    intro hk
    cases hc with
    | nil h' => exact h'
    | @cons _ q l' h' hc' =>
      have := ih (by simp)
      simpa using this
theorem TreeIs.nodes {σ : St} {i m : Nat} {s : V} {D : List Mv} (h : TreeIs σ i m s D) : ∀ x p, runT W0 D x = some p → x ∈ D.map (·.n) := fun x p hx => by
  have := run_nodes D (W := W0) (K := []) (fun _ _ h => by cases h) x p hx
  simpa using this
theorem keyT (D : List Mv) : Keyed (runT W0 D) := keyed0.run D

section
variable {σ : St} {v : V} {l : List Ac}
set_option maxRecDepth 100000 in
set_option maxHeartbeats 6400000 in
theorem noring_ok (hv : RdS σ v 7 (acsV l)) (hl : l.length ≤ 1048576) :
    CallA Try.prog 5 [v] σ fun w _ => w = .bool true := by
  refine fn_at Try.func5 (by decide) comp5 rfl fun Q q1 q2 => ?_
  simp -implicitDefEqProofs only [go_sem, Nat.reduceBEq, Nat.reduceAdd, eq_self, true_and, and_true, and_self, List.getElem?_cons_zero, List.getElem?_cons_succ, Nat.reduceLeDiff, Nat.zero_add, Nat.reduceSub, Nat.le_refl, c5]
  refine call_at (made_ok hv hl) ?_
  rintro v τ ⟨i0, m, s, x, D, rfl, ht, hx, hD, hok, he⟩
  refine ⟨kept_none, ?_⟩
  obtain ⟨xb, xR, xz, rfl, -, -⟩ := id hx
  have hDl := m7core_length D
  simp -implicitDefEqProofs only [go_sem, Nat.reduceBEq, Nat.reduceAdd, eq_self, true_and, and_true, and_self, List.getElem?_cons_zero, List.getElem?_cons_succ, Nat.reduceLeDiff, Nat.zero_add, Nat.reduceSub, Nat.le_refl, Nat.lt_irrefl]
  refine call_at (all_ok ht.tree (keyT D) ht.nodes (by rw [List.length_map]; omega)) ?_
  rintro v τ0 ⟨⟨R, hC, hR⟩, he0⟩
  refine ⟨kept_none, ?_⟩
  obtain ⟨rb, rR, rz, rfl, -, -⟩ := id hR
  have hRl := plsV_length R
  have hRD := hC.len_le ht.nodes
  rw [List.length_map] at hRD
  have ht := ht.ext he0
  obtain ⟨f, hf⟩ := acyT D
  have hnd := ht.nodes
  generalize hWW : runT W0 D = W at *
  simp -implicitDefEqProofs only [go_sem, Nat.reduceBEq, Nat.reduceAdd, eq_self, true_and, and_true, and_self, List.getElem?_cons_zero, List.getElem?_cons_succ, Nat.reduceLeDiff, Nat.zero_add, Nat.reduceSub, Nat.le_refl, Nat.lt_irrefl]
  refine loop_at (fun (i : Nat) => ⟨[(3, .v (.ptr (some (i0, 0)))), (4, .v (.sl xb xR xz (m7s (D.map core)))), (5, .v (.sl rb rR rz (plsV R))), (6, .v (.int .i64 i))], []⟩)
    (fun i τ' => i ≤ R.length ∧ Ext τ0 τ') (fun i => R.length - i) 0 ?_ ?_ ?_
  · exact .inr (by simp [go_sem])
  · exact ⟨Nat.zero_le _, .refl _⟩
  rintro i τ1 ⟨g1, g2⟩ Z z1 z2 z3
  have ht1 := ht.tree.ext g2
  rw [hWW] at ht1
  have hR1 := hR.ext g2
  simp -implicitDefEqProofs only [go_sem, Nat.reduceBEq, Nat.reduceAdd, eq_self, true_and, and_true, and_self, List.getElem?_cons_zero, List.getElem?_cons_succ, Nat.reduceLeDiff, Nat.zero_add, Nat.reduceSub, Nat.le_refl, Nat.lt_irrefl]
  refine CondW_b (fun hcc => ?_) (fun hcc => ?_)
  case refine_2 =>
    simp -implicitDefEqProofs only [go_sem, Nat.reduceBEq, Nat.reduceAdd, eq_self, true_and, and_true, and_self, List.getElem?_cons_zero, List.getElem?_cons_succ, Nat.reduceLeDiff, Nat.zero_add, Nat.reduceSub, Nat.le_refl, Nat.lt_irrefl]
    refine z2 _ _ _ ?_
    simp -implicitDefEqProofs only [go_sem, Nat.reduceBEq, Nat.reduceAdd, eq_self, true_and, and_true, and_self, List.getElem?_cons_zero, List.getElem?_cons_succ, Nat.reduceLeDiff, Nat.zero_add, Nat.reduceSub, Nat.le_refl, Nat.lt_irrefl]
    refine call_at awake_ok ?_
    rintro v τ3 rfl
    refine ⟨kept_none, ?_⟩
    simp -implicitDefEqProofs only [go_sem, Nat.reduceBEq, Nat.reduceAdd, eq_self, true_and, and_true, and_self, List.getElem?_cons_zero, List.getElem?_cons_succ, Nat.reduceLeDiff, Nat.zero_add, Nat.reduceSub, Nat.le_refl, Nat.lt_irrefl]
    refine q2 _ _ ?_
    simp -implicitDefEqProofs only [go_sem, Nat.reduceBEq, Nat.reduceAdd, eq_self, true_and, and_true, and_self, List.getElem?_cons_zero, List.getElem?_cons_succ, Nat.reduceLeDiff, Nat.zero_add, Nat.reduceSub, Nat.le_refl, Nat.lt_irrefl]
  have hi : i < R.length := by simpa [hRl] using hcc
  obtain ⟨k1, k2⟩ := rdl hR1 (by cases R <;> simp [plsV] at hi ⊢)
  have hgi := plsV_get hi
  have hib : (i : Int) < (plsV R).length := by rw [hRl]; omega
  have hw1 : IntKind.i64.wrap ((i : Int) + 1) = ((i + 1 : Nat) : Int) := by rw [i64_in _ (by omega)]; omega
  have hWp := hC.mem (List.getElem_mem hi)
  generalize R[i] = p at hgi hWp
  obtain ⟨U, hup⟩ := Acy.chain ⟨f, hf⟩ p.n
  obtain ⟨up', hU', hup'⟩ := hup.some' hWp
  have hul : U.length ≤ D.length := by
    have := hup.len hf (K := D.map (·.n)) fun y q hy _ => hnd y q hy
    simpa using this
  have hnot : decide (p.n ∈ U) = false := by
    simp only [decide_eq_false_iff_not]
    intro hh
    have := hup.rank hf _ hh
    omega
  have hcg := hup.get
  have hupos : 0 < U.length := by rw [hU']; simp
  have hcl := hup.last (by omega)
  have hg0 : (spsV U)[Int.toNat 0]?.getD [] = [.int .i64 p.p.c, .int .i64 p.p.r] := by rw [hU']; rfl
  simp -implicitDefEqProofs only [go_sem, Nat.reduceBEq, Nat.reduceAdd, eq_self, true_and, and_true, and_self, List.getElem?_cons_zero, List.getElem?_cons_succ, Nat.reduceLeDiff, Nat.zero_add, Nat.reduceSub, Nat.le_refl, hgi, plC]
  refine ⟨⟨by omega, hib, k2⟩, k1, ?_⟩
  refine call_at (above_ok ht1 hup (by omega)) ?_
  rintro v τ2 ⟨hU, he2⟩
  refine ⟨kept_none, ?_⟩
  obtain ⟨ub, uR, uz, rfl, -, -⟩ := id hU
  have hUl := spsV_length U
  have hR2 := hR1.ext he2
  obtain ⟨k3, -⟩ := rdl hR2 (by cases R <;> simp [plsV] at hi ⊢)
  obtain ⟨k5, k6⟩ := rdl hU (by cases U <;> simp [spsV] at hupos ⊢)
  have d1 : decide (((spsV U).length : Int) = 0) = false := by rw [hUl]; simp only [decide_eq_false_iff_not]; omega
  have d2 : decide (((m7s (D.map core)).length : Int) < (spsV U).length) = false := by rw [hUl, hDl]; simp; omega
  have hpp := sp_eqs p.p p.p
  simp only [decide_true] at hpp
  simp -implicitDefEqProofs only [go_sem, Nat.reduceBEq, Nat.reduceAdd, eq_self, true_and, and_true, and_self, List.getElem?_cons_zero, List.getElem?_cons_succ, Nat.reduceLeDiff, Nat.zero_add, Nat.reduceSub, Nat.le_refl, d1, d2, hg0, hgi, plC, hpp]
  refine ⟨⟨by omega, by rw [hUl]; omega, k6⟩, k5, ⟨by omega, hib, k2⟩, k3, ?_⟩
  repeat refine ⟨⟨by omega, hib, k2⟩, k3, ?_⟩
  refine call_at (has_ok (x := p.n) hU (by omega)) ?_
  rintro v τ3 ⟨rfl, rfl⟩
  refine ⟨(Ext.refl _).kept, ?_⟩
  simp -implicitDefEqProofs only [go_sem, Nat.reduceBEq, Nat.reduceAdd, eq_self, true_and, and_true, and_self, List.getElem?_cons_zero, List.getElem?_cons_succ, Nat.reduceLeDiff, Nat.zero_add, Nat.reduceSub, Nat.le_refl, hnot]
  refine loop_at (fun (k : Nat) => ⟨[(3, .v (.ptr (some (i0, 0)))), (4, .v (.sl xb xR xz (m7s (D.map core)))), (5, .v (.sl rb rR rz (plsV R))), (6, .v (.int .i64 i)), (7, .v (.sl ub uR uz (spsV U))), (8, .v (.int .i64 ((k + 1 : Nat) : Int)))], []⟩)
    (fun k τ' => k + 1 ≤ U.length ∧ Ext τ3 τ') (fun k => U.length - k) 0 ?_ ?_ ?_
  · exact .inr (by simp [go_sem])
  · exact ⟨by omega, .refl _⟩
  rintro k τ4 ⟨f1, f2⟩ Y y1 y2 y3
  have ht4 := (ht1.ext he2).ext f2
  have hU4 := hU.ext f2
  obtain ⟨k7, -⟩ := rdl hU4 (by cases U <;> simp [spsV] at hupos ⊢)
  by_cases hk : k + 1 < U.length
  · have hd : decide (((k + 1 : Nat) : Int) < (spsV U).length) = true := by rw [hUl]; simp; omega
    have hw2 : IntKind.i64.wrap (((k + 1 : Nat) : Int) - 1) = (k : Int) := by rw [i64_in _ (by omega)]; omega
    have hw3 : IntKind.i64.wrap (((k + 1 : Nat) : Int) + 1) = ((k + 1 + 1 : Nat) : Int) := by rw [i64_in _ (by omega)]; omega
    have hkb : (k : Int) < (spsV U).length := by rw [hUl]; omega
    have hkb' : ((k + 1 : Nat) : Int) < (spsV U).length := by rw [hUl]; omega
    obtain ⟨q, hq1, hq2⟩ := hcg k hk
    have hgk := spsV_get (l := U) (i := k) (by omega)
    have hgk' := spsV_get hk
    have hqq := sp_eqs q.p q.p
    simp only [decide_true] at hqq
    rw [← hq2] at hgk'
    generalize U[k] = y at hgk hq1
    simp -implicitDefEqProofs only [go_sem, Nat.reduceBEq, Nat.reduceAdd, eq_self, true_and, and_true, and_self, List.getElem?_cons_zero, List.getElem?_cons_succ, Nat.reduceLeDiff, Nat.zero_add, Nat.reduceSub, Nat.le_refl, hd, hw2, hgk, spC]
    refine ⟨⟨by omega, hkb, k6⟩, k7, ?_⟩
    refine call_at (where_ok (x := y) ht4) ?_
    rintro v τ5 ⟨rfl, he5, hl5⟩
    refine ⟨kept_none, ?_⟩
    have hU5 := hU4.ext he5
    obtain ⟨k8, -⟩ := rdl hU5 (by cases U <;> simp [spsV] at hupos ⊢)
    rw [hq1]
    simp -implicitDefEqProofs only [go_sem, Nat.reduceBEq, Nat.reduceAdd, eq_self, true_and, and_true, and_self, List.getElem?_cons_zero, List.getElem?_cons_succ, Nat.reduceLeDiff, Nat.zero_add, Nat.reduceSub, Nat.le_refl, Option.getD_some, Option.isSome_some, plV, plC, hgk', spC, hqq]
    refine ⟨⟨by omega, hkb', k6⟩, k8, ?_⟩
    simp -implicitDefEqProofs only [go_sem, Nat.reduceBEq, Nat.reduceAdd, eq_self, true_and, and_true, and_self, List.getElem?_cons_zero, List.getElem?_cons_succ, Nat.reduceLeDiff, Nat.zero_add, Nat.reduceSub, Nat.le_refl, hw3]
    refine y1 (k + 1) _ _ (.inr ?_) (by omega) ⟨by omega, f2.trans he5⟩
    simp -implicitDefEqProofs only [go_sem, Nat.reduceBEq, Nat.reduceAdd, eq_self, true_and, and_true, and_self, List.getElem?_cons_zero, List.getElem?_cons_succ, Nat.reduceLeDiff, Nat.zero_add, Nat.reduceSub, Nat.le_refl, Nat.lt_irrefl]
    try trivial
  · have hk' : k + 1 = U.length := by omega
    have hd : decide (((k + 1 : Nat) : Int) < (spsV U).length) = false := by rw [hUl]; simp; omega
    have hw2 : IntKind.i64.wrap (((spsV U).length : Int) - 1) = ((U.length - 1 : Nat) : Int) := by rw [hUl, i64_in _ (by omega)]; omega
    have hlb : ((U.length - 1 : Nat) : Int) < (spsV U).length := by rw [hUl]; omega
    have hgk := spsV_get (l := U) (i := U.length - 1) (by omega)
    generalize U[U.length - 1] = y at hgk hcl
    simp -implicitDefEqProofs only [go_sem, Nat.reduceBEq, Nat.reduceAdd, eq_self, true_and, and_true, and_self, List.getElem?_cons_zero, List.getElem?_cons_succ, Nat.reduceLeDiff, Nat.zero_add, Nat.reduceSub, Nat.le_refl, hd]
    refine y2 _ _ _ ?_
    simp -implicitDefEqProofs only [go_sem, Nat.reduceBEq, Nat.reduceAdd, eq_self, true_and, and_true, and_self, List.getElem?_cons_zero, List.getElem?_cons_succ, Nat.reduceLeDiff, Nat.zero_add, Nat.reduceSub, Nat.le_refl, hw2, hgk, spC]
    refine ⟨⟨by omega, hlb, k6⟩, k7, ?_⟩
    refine call_at (where_ok (x := y) ht4) ?_
    rintro v τ5 ⟨rfl, he5, hl5⟩
    refine ⟨kept_none, ?_⟩
    rw [hcl]
    simp -implicitDefEqProofs only [go_sem, Nat.reduceBEq, Nat.reduceAdd, eq_self, true_and, and_true, and_self, List.getElem?_cons_zero, List.getElem?_cons_succ, Nat.reduceLeDiff, Nat.zero_add, Nat.reduceSub, Nat.le_refl, Option.getD_none, Option.isSome_none, plV, plC]
    simp -implicitDefEqProofs only [go_sem, Nat.reduceBEq, Nat.reduceAdd, eq_self, true_and, and_true, and_self, List.getElem?_cons_zero, List.getElem?_cons_succ, Nat.reduceLeDiff, Nat.zero_add, Nat.reduceSub, Nat.le_refl, hw1]
    refine z1 (i + 1) _ _ (.inr ?_) (by omega) ⟨by omega, ((g2.trans he2).trans f2).trans he5⟩
    simp -implicitDefEqProofs only [go_sem, Nat.reduceBEq, Nat.reduceAdd, eq_self, true_and, and_true, and_self, List.getElem?_cons_zero, List.getElem?_cons_succ, Nat.reduceLeDiff, Nat.zero_add, Nat.reduceSub, Nat.le_refl, Nat.lt_irrefl]
    try trivial
end
end Go.VL.mov

namespace Go.VL.mov
open Go Go.VL Go.Proofs Go.IntWalk

theorem ix_all {a : Sp} : ∀ {D : List Mv}, (∀ x ∈ D, less x.a a = true) → ix a D = D.length
  | [], _ => rfl
  | x :: D, h => by
    simp only [ix, h x (by simp), cond_true, List.length_cons]
    rw [ix_all fun y hy => h y (by simp [hy])]
def topS : Sp := ⟨1099511627776, 63⟩
theorem less_top {a : Sp} (h : right a = true) (hne : a ≠ topS) : less a topS = true := by
  simp only [right, Bool.and_eq_true, decide_eq_true_eq] at h
  simp only [less, Bool.or_eq_true, Bool.and_eq_true, decide_eq_true_eq]
  have : ¬ (a.c = 1099511627776 ∧ a.r = 63) := fun e => hne (sp_iff.2 e)
  show a.c < 1099511627776 ∨ a.c = 1099511627776 ∧ a.r < 63
  omega
/-- One more at the end. -/
theorem do_top {D : List Mv} {n p : Sp} (hs : Srt D) (hr : Runs W0 D) (hok : OkD D) (hE : doE D topS n p = 0) :
    doD D topS n p = D ++ [mark (runT W0 D) (newM topS n p)] := by
  have hx : okF topS n p = true ∧ at? topS D = false := by
    unfold doE at hE
    cases h1 : okF topS n p <;> rw [h1] at hE
    · simp at hE
    · cases h2 : at? topS D <;> rw [h2] at hE
      · exact ⟨rfl, rfl⟩
      · simp at hE
  have hall : ∀ x ∈ D, less x.a topS = true := fun x hx' => by
    have h1 := hok x hx'
    refine less_top (Bool.and_eq_true_iff.1 h1).1 fun e => ?_
    have : hasA topS D = true := List.any_eq_true.2 ⟨x, hx', by simp [e]⟩
    rw [hasA_at hs, hx.2] at this; cases this
  have hix := ix_all hall
  have hins : insD D (newM topS n p) = D ++ [newM topS n p] := by
    simp only [insD, show (newM topS n p).a = topS from rfl, hix, List.take_length, List.drop_length]
  have hD : doD D topS n p = runD W0 (insD D (newM topS n p)) := by simp [doD, hx.1, hx.2]
  rw [hD, hins, runD_append, hr]
  rfl
theorem ring_eq {W : Tr} {n p : Sp} {l : List Sp} (h : Chain W p l) (hnp : n ≠ p) : ben W p n = decide (n ∈ l) := by
  rw [Bool.eq_iff_iff, ben_iff, h.ben]
  simp [Ne.symm hnp]
section
variable {σ : St} {v : V} {l : List Ac} {n p : Sp}
set_option maxRecDepth 100000 in
set_option maxHeartbeats 6400000 in
theorem newest_ok (hv : RdS σ v 7 (acsV l)) (hl : l.length ≤ 1048576) :
    CallA Try.prog 6 [v, spV n, spV p] σ fun w _ => w = .bool true := by
  refine fn_at Try.func6 (by decide) comp6 rfl fun Q q1 q2 => ?_
  simp -implicitDefEqProofs only [go_sem, Nat.reduceBEq, Nat.reduceAdd, eq_self, true_and, and_true, and_self, List.getElem?_cons_zero, List.getElem?_cons_succ, Nat.reduceLeDiff, Nat.zero_add, Nat.reduceSub, Nat.le_refl, c6, spV, spC]
  refine call_at (made_ok hv hl) ?_
  rintro v τ ⟨i0, m, s, x, D, rfl, ht, hx, hD, hok, he⟩
  refine ⟨kept_none, ?_⟩
  simp -implicitDefEqProofs only [go_sem, Nat.reduceBEq, Nat.reduceAdd, eq_self, true_and, and_true, and_self, List.getElem?_cons_zero, List.getElem?_cons_succ, Nat.reduceLeDiff, Nat.zero_add, Nat.reduceSub, Nat.le_refl, Nat.lt_irrefl]
  refine call_at (all_ok ht.tree (keyT D) ht.nodes (by rw [List.length_map]; omega)) ?_
  rintro v τ0 ⟨⟨R, hC, hR⟩, he0⟩
  refine ⟨kept_none, ?_⟩
  have hRl := plsV_length R
  have hRD := hC.len_le ht.nodes
  rw [List.length_map] at hRD
  have ht := ht.ext he0
  have hA := acyT D
  have hnd := ht.nodes
  obtain ⟨up, hup⟩ := hA.chain p
  have hul := hC.chain_len hA hup
  have hE3 : doE D topS n p = 0 ∨ ((doE D topS n p = 2 ∨ doE D topS n p = 5) ∧ doD D topS n p = D) := by
    unfold doE doD
    cases okF topS n p <;> cases at? topS D <;> simp
  have htop := do_top (n := n) (p := p) ht.srt ht.runs hok
  have h22 : decide ((2 : Int) = 2) = true := by decide
  have h52 : decide ((5 : Int) = 2) = false := by decide
  have h55 : decide ((5 : Int) = 5) = true := by decide
  have h20 : decide ((2 : Int) = 0) = false := by decide
  have h50 : decide ((5 : Int) = 0) = false := by decide
  have h00 : decide ((0 : Int) = 0) = true := by decide
  have hbq1 : ((false : Bool) == true) = false := rfl
  have hbq2 : ((true : Bool) == false) = false := rfl
  have htS : ∀ x : Sp, x = topS → x.c = 1099511627776 ∧ x.r = 63 := by rintro x rfl; exact ⟨rfl, rfl⟩
  obtain ⟨TS, hTS⟩ : ∃ x : Sp, x = topS := ⟨_, rfl⟩
  by_cases hnp : n = p
  · have hd : decide (n = p) = true := by simp [hnp]
    simp -implicitDefEqProofs only [go_sem, Nat.reduceBEq, Nat.reduceAdd, eq_self, true_and, and_true, and_self, List.getElem?_cons_zero, List.getElem?_cons_succ, Nat.reduceLeDiff, Nat.zero_add, Nat.reduceSub, Nat.le_refl, sp_eqs, hd]
    have hrg : ben (runT W0 D) p n = true := by rw [hnp]; exact ben_self _ _
    refine call_at (do_ok (a := topS) (n := n) (p := p) ht (by omega)) ?_
    rintro v4 τ4 ⟨rfl, s4, ht4, hto4⟩
    refine ⟨kept_none, ?_⟩
    have hR4 := rdS_up hR hto4.upd
    have hDl4 := doD_le D topS n p
    have hall4 := all_ok ht4.tree (keyT _) ht4.nodes (by rw [List.length_map]; omega)
    rcases hE3 with hE | ⟨hE, hDD⟩
    case inr =>
      rw [hDD] at hall4
      rcases hE with hE | hE
      · simp -implicitDefEqProofs only [go_sem, Nat.reduceBEq, Nat.reduceAdd, eq_self, true_and, and_true, and_self, List.getElem?_cons_zero, List.getElem?_cons_succ, Nat.reduceLeDiff, Nat.zero_add, Nat.reduceSub, Nat.le_refl, hE, h20, h22]
        refine call_at hall4 ?_
        rintro v5 τ5 ⟨⟨R5, hC5, hR5⟩, he5⟩
        refine ⟨kept_none, ?_⟩
        have hRR := hC5.uniq hC
        subst hRR
        simp -implicitDefEqProofs only [go_sem, Nat.reduceBEq, Nat.reduceAdd, eq_self, true_and, and_true, and_self, List.getElem?_cons_zero, List.getElem?_cons_succ, Nat.reduceLeDiff, Nat.zero_add, Nat.reduceSub, Nat.le_refl, Nat.lt_irrefl]
        refine call_at (same_ok hR5 (hR4.ext he5) (by omega)) ?_
        rintro v6 τ6 ⟨rfl, rfl⟩
        refine ⟨kept_none, ?_⟩
        simp -implicitDefEqProofs only [go_sem, Nat.reduceBEq, Nat.reduceAdd, eq_self, true_and, and_true, and_self, List.getElem?_cons_zero, List.getElem?_cons_succ, Nat.reduceLeDiff, Nat.zero_add, Nat.reduceSub, Nat.le_refl, decide_true]
        refine call_at awake_ok ?_
        rintro v7 τ7 rfl
        refine ⟨kept_none, ?_⟩
        simp -implicitDefEqProofs only [go_sem, Nat.reduceBEq, Nat.reduceAdd, eq_self, true_and, and_true, and_self, List.getElem?_cons_zero, List.getElem?_cons_succ, Nat.reduceLeDiff, Nat.zero_add, Nat.reduceSub, Nat.le_refl, Nat.lt_irrefl]
        refine q2 _ _ ?_
        simp -implicitDefEqProofs only [go_sem, Nat.reduceBEq, Nat.reduceAdd, eq_self, true_and, and_true, and_self, List.getElem?_cons_zero, List.getElem?_cons_succ, Nat.reduceLeDiff, Nat.zero_add, Nat.reduceSub, Nat.le_refl, Nat.lt_irrefl]
      · simp -implicitDefEqProofs only [go_sem, Nat.reduceBEq, Nat.reduceAdd, eq_self, true_and, and_true, and_self, List.getElem?_cons_zero, List.getElem?_cons_succ, Nat.reduceLeDiff, Nat.zero_add, Nat.reduceSub, Nat.le_refl, hE, h50, h52, h55]
        refine call_at hall4 ?_
        rintro v5 τ5 ⟨⟨R5, hC5, hR5⟩, he5⟩
        refine ⟨kept_none, ?_⟩
        have hRR := hC5.uniq hC
        subst hRR
        simp -implicitDefEqProofs only [go_sem, Nat.reduceBEq, Nat.reduceAdd, eq_self, true_and, and_true, and_self, List.getElem?_cons_zero, List.getElem?_cons_succ, Nat.reduceLeDiff, Nat.zero_add, Nat.reduceSub, Nat.le_refl, Nat.lt_irrefl]
        refine call_at (same_ok hR5 (hR4.ext he5) (by omega)) ?_
        rintro v6 τ6 ⟨rfl, rfl⟩
        refine ⟨kept_none, ?_⟩
        simp -implicitDefEqProofs only [go_sem, Nat.reduceBEq, Nat.reduceAdd, eq_self, true_and, and_true, and_self, List.getElem?_cons_zero, List.getElem?_cons_succ, Nat.reduceLeDiff, Nat.zero_add, Nat.reduceSub, Nat.le_refl, decide_true]
        refine call_at awake_ok ?_
        rintro v7 τ7 rfl
        refine ⟨kept_none, ?_⟩
        simp -implicitDefEqProofs only [go_sem, Nat.reduceBEq, Nat.reduceAdd, eq_self, true_and, and_true, and_self, List.getElem?_cons_zero, List.getElem?_cons_succ, Nat.reduceLeDiff, Nat.zero_add, Nat.reduceSub, Nat.le_refl, Nat.lt_irrefl]
        refine q2 _ _ ?_
        simp -implicitDefEqProofs only [go_sem, Nat.reduceBEq, Nat.reduceAdd, eq_self, true_and, and_true, and_self, List.getElem?_cons_zero, List.getElem?_cons_succ, Nat.reduceLeDiff, Nat.zero_add, Nat.reduceSub, Nat.le_refl, Nat.lt_irrefl]
    have hDe := htop hE
    have hlt : D.length < (doD D topS n p).length := by rw [hDe]; simp
    have hcn : cnt topS (doD D topS n p) = !ben (runT W0 D) p n := by
      have h1 := cnt_self ht4.srt hlt
      have h2 : (doD D topS n p)[D.length] = mark (runT W0 D) (newM topS n p) := by simp [hDe]
      rw [h2] at h1
      exact h1
    have hWn : runT W0 (doD D topS n p) = stepW (runT W0 D) (newM topS n p) := by
      rw [hDe, runT_append]; rfl
    rw [hrg] at hcn
    simp -implicitDefEqProofs only [go_sem, Nat.reduceBEq, Nat.reduceAdd, eq_self, true_and, and_true, and_self, List.getElem?_cons_zero, List.getElem?_cons_succ, Nat.reduceLeDiff, Nat.zero_add, Nat.reduceSub, Nat.le_refl, hE, h00]
    refine call_at (counts_ok (a := topS) ht4.tree ht4.srt (by omega)) ?_
    rintro v5 τ5 ⟨rfl, rfl⟩
    refine ⟨kept_none, ?_⟩
    rw [hcn]
    have hst : stepW (runT W0 D) (newM topS n p) = runT W0 D := by
      show (bif ben (runT W0 D) p n then _ else _) = _
      rw [hrg]; rfl
    rw [hWn, hst] at hall4
    simp -implicitDefEqProofs only [go_sem, Nat.reduceBEq, Nat.reduceAdd, eq_self, true_and, and_true, and_self, List.getElem?_cons_zero, List.getElem?_cons_succ, Nat.reduceLeDiff, Nat.zero_add, Nat.reduceSub, Nat.le_refl, Bool.not_true, Bool.not_false, hbq1, hbq2]
    refine call_at hall4 ?_
    rintro v5 τ5 ⟨⟨R5, hC5, hR5⟩, he5⟩
    refine ⟨kept_none, ?_⟩
    have hRR := hC5.uniq hC
    subst hRR
    simp -implicitDefEqProofs only [go_sem, Nat.reduceBEq, Nat.reduceAdd, eq_self, true_and, and_true, and_self, List.getElem?_cons_zero, List.getElem?_cons_succ, Nat.reduceLeDiff, Nat.zero_add, Nat.reduceSub, Nat.le_refl, Nat.lt_irrefl]
    refine call_at (same_ok hR5 (hR4.ext he5) (by omega)) ?_
    rintro v6 τ6 ⟨rfl, rfl⟩
    refine ⟨kept_none, ?_⟩
    simp -implicitDefEqProofs only [go_sem, Nat.reduceBEq, Nat.reduceAdd, eq_self, true_and, and_true, and_self, List.getElem?_cons_zero, List.getElem?_cons_succ, Nat.reduceLeDiff, Nat.zero_add, Nat.reduceSub, Nat.le_refl, decide_true]
    refine call_at awake_ok ?_
    rintro v7 τ7 rfl
    refine ⟨kept_none, ?_⟩
    simp -implicitDefEqProofs only [go_sem, Nat.reduceBEq, Nat.reduceAdd, eq_self, true_and, and_true, and_self, List.getElem?_cons_zero, List.getElem?_cons_succ, Nat.reduceLeDiff, Nat.zero_add, Nat.reduceSub, Nat.le_refl, Nat.lt_irrefl]
    refine q2 _ _ ?_
    simp -implicitDefEqProofs only [go_sem, Nat.reduceBEq, Nat.reduceAdd, eq_self, true_and, and_true, and_self, List.getElem?_cons_zero, List.getElem?_cons_succ, Nat.reduceLeDiff, Nat.zero_add, Nat.reduceSub, Nat.le_refl, Nat.lt_irrefl]
  · have hd : decide (n = p) = false := by simp [hnp]
    have hre := ring_eq hup hnp
    simp -implicitDefEqProofs only [go_sem, Nat.reduceBEq, Nat.reduceAdd, eq_self, true_and, and_true, and_self, List.getElem?_cons_zero, List.getElem?_cons_succ, Nat.reduceLeDiff, Nat.zero_add, Nat.reduceSub, Nat.le_refl, sp_eqs, hd]
    refine call_at (above_ok (x := p) ht.tree hup (by omega)) ?_
    rintro v1 τ1 ⟨hU, he1⟩
    refine ⟨he1.kept, ?_⟩
    simp -implicitDefEqProofs only [go_sem, Nat.reduceBEq, Nat.reduceAdd, eq_self, true_and, and_true, and_self, List.getElem?_cons_zero, List.getElem?_cons_succ, Nat.reduceLeDiff, Nat.zero_add, Nat.reduceSub, Nat.le_refl, Nat.lt_irrefl]
    refine call_at (has_ok (x := n) hU (by omega)) ?_
    rintro v2 τ2 ⟨rfl, rfl⟩
    refine ⟨(Ext.refl _).kept, ?_⟩
    have ht2 := ht.ext he1
    have hR2 := hR.ext he1
    cases hrn : decide (n ∈ up)
    · rw [hrn] at hre
      have hrg := hre
      simp -implicitDefEqProofs only [go_sem, Nat.reduceBEq, Nat.reduceAdd, eq_self, true_and, and_true, and_self, List.getElem?_cons_zero, List.getElem?_cons_succ, Nat.reduceLeDiff, Nat.zero_add, Nat.reduceSub, Nat.le_refl, hrn]
      refine call_at (do_ok (a := topS) (n := n) (p := p) ht2 (by omega)) ?_
      rintro v4 τ4 ⟨rfl, s4, ht4, hto4⟩
      refine ⟨kept_none, ?_⟩
      have hR4 := rdS_up hR2 hto4.upd
      have hDl4 := doD_le D topS n p
      have hall4 := all_ok ht4.tree (keyT _) ht4.nodes (by rw [List.length_map]; omega)
      rcases hE3 with hE | ⟨hE, hDD⟩
      case inr =>
        rw [hDD] at hall4
        rcases hE with hE | hE
        · simp -implicitDefEqProofs only [go_sem, Nat.reduceBEq, Nat.reduceAdd, eq_self, true_and, and_true, and_self, List.getElem?_cons_zero, List.getElem?_cons_succ, Nat.reduceLeDiff, Nat.zero_add, Nat.reduceSub, Nat.le_refl, hE, h20, h22]
          refine call_at hall4 ?_
          rintro v5 τ5 ⟨⟨R5, hC5, hR5⟩, he5⟩
          refine ⟨kept_none, ?_⟩
          have hRR := hC5.uniq hC
          subst hRR
          simp -implicitDefEqProofs only [go_sem, Nat.reduceBEq, Nat.reduceAdd, eq_self, true_and, and_true, and_self, List.getElem?_cons_zero, List.getElem?_cons_succ, Nat.reduceLeDiff, Nat.zero_add, Nat.reduceSub, Nat.le_refl, Nat.lt_irrefl]
          refine call_at (same_ok hR5 (hR4.ext he5) (by omega)) ?_
          rintro v6 τ6 ⟨rfl, rfl⟩
          refine ⟨kept_none, ?_⟩
          simp -implicitDefEqProofs only [go_sem, Nat.reduceBEq, Nat.reduceAdd, eq_self, true_and, and_true, and_self, List.getElem?_cons_zero, List.getElem?_cons_succ, Nat.reduceLeDiff, Nat.zero_add, Nat.reduceSub, Nat.le_refl, decide_true]
          refine call_at awake_ok ?_
          rintro v7 τ7 rfl
          refine ⟨kept_none, ?_⟩
          simp -implicitDefEqProofs only [go_sem, Nat.reduceBEq, Nat.reduceAdd, eq_self, true_and, and_true, and_self, List.getElem?_cons_zero, List.getElem?_cons_succ, Nat.reduceLeDiff, Nat.zero_add, Nat.reduceSub, Nat.le_refl, Nat.lt_irrefl]
          refine q2 _ _ ?_
          simp -implicitDefEqProofs only [go_sem, Nat.reduceBEq, Nat.reduceAdd, eq_self, true_and, and_true, and_self, List.getElem?_cons_zero, List.getElem?_cons_succ, Nat.reduceLeDiff, Nat.zero_add, Nat.reduceSub, Nat.le_refl, Nat.lt_irrefl]
        · simp -implicitDefEqProofs only [go_sem, Nat.reduceBEq, Nat.reduceAdd, eq_self, true_and, and_true, and_self, List.getElem?_cons_zero, List.getElem?_cons_succ, Nat.reduceLeDiff, Nat.zero_add, Nat.reduceSub, Nat.le_refl, hE, h50, h52, h55]
          refine call_at hall4 ?_
          rintro v5 τ5 ⟨⟨R5, hC5, hR5⟩, he5⟩
          refine ⟨kept_none, ?_⟩
          have hRR := hC5.uniq hC
          subst hRR
          simp -implicitDefEqProofs only [go_sem, Nat.reduceBEq, Nat.reduceAdd, eq_self, true_and, and_true, and_self, List.getElem?_cons_zero, List.getElem?_cons_succ, Nat.reduceLeDiff, Nat.zero_add, Nat.reduceSub, Nat.le_refl, Nat.lt_irrefl]
          refine call_at (same_ok hR5 (hR4.ext he5) (by omega)) ?_
          rintro v6 τ6 ⟨rfl, rfl⟩
          refine ⟨kept_none, ?_⟩
          simp -implicitDefEqProofs only [go_sem, Nat.reduceBEq, Nat.reduceAdd, eq_self, true_and, and_true, and_self, List.getElem?_cons_zero, List.getElem?_cons_succ, Nat.reduceLeDiff, Nat.zero_add, Nat.reduceSub, Nat.le_refl, decide_true]
          refine call_at awake_ok ?_
          rintro v7 τ7 rfl
          refine ⟨kept_none, ?_⟩
          simp -implicitDefEqProofs only [go_sem, Nat.reduceBEq, Nat.reduceAdd, eq_self, true_and, and_true, and_self, List.getElem?_cons_zero, List.getElem?_cons_succ, Nat.reduceLeDiff, Nat.zero_add, Nat.reduceSub, Nat.le_refl, Nat.lt_irrefl]
          refine q2 _ _ ?_
          simp -implicitDefEqProofs only [go_sem, Nat.reduceBEq, Nat.reduceAdd, eq_self, true_and, and_true, and_self, List.getElem?_cons_zero, List.getElem?_cons_succ, Nat.reduceLeDiff, Nat.zero_add, Nat.reduceSub, Nat.le_refl, Nat.lt_irrefl]
      have hDe := htop hE
      have hlt : D.length < (doD D topS n p).length := by rw [hDe]; simp
      have hcn : cnt topS (doD D topS n p) = !ben (runT W0 D) p n := by
        have h1 := cnt_self ht4.srt hlt
        have h2 : (doD D topS n p)[D.length] = mark (runT W0 D) (newM topS n p) := by simp [hDe]
        rw [h2] at h1
        exact h1
      have hWn : runT W0 (doD D topS n p) = stepW (runT W0 D) (newM topS n p) := by
        rw [hDe, runT_append]; rfl
      rw [hrg] at hcn
      simp -implicitDefEqProofs only [go_sem, Nat.reduceBEq, Nat.reduceAdd, eq_self, true_and, and_true, and_self, List.getElem?_cons_zero, List.getElem?_cons_succ, Nat.reduceLeDiff, Nat.zero_add, Nat.reduceSub, Nat.le_refl, hE, h00]
      refine call_at (counts_ok (a := topS) ht4.tree ht4.srt (by omega)) ?_
      rintro v5 τ5 ⟨rfl, rfl⟩
      refine ⟨kept_none, ?_⟩
      rw [hcn]
      have hst : stepW (runT W0 D) (newM topS n p) n = some ⟨n, p, topS⟩ := by
        show (bif ben (runT W0 D) p n then runT W0 D else put (runT W0 D) n (some (pl (newM topS n p)))) n = _
        rw [hrg]
        simp [put, pl, newM]
      have hpe := pl_eqs ⟨n, p, topS⟩ ⟨n, p, topS⟩
      simp only [decide_true, topS] at hpe
      simp -implicitDefEqProofs only [go_sem, Nat.reduceBEq, Nat.reduceAdd, eq_self, true_and, and_true, and_self, List.getElem?_cons_zero, List.getElem?_cons_succ, Nat.reduceLeDiff, Nat.zero_add, Nat.reduceSub, Nat.le_refl, Bool.not_true, Bool.not_false, hbq1, hbq2]
      refine call_at (where_ok (x := n) ht4.tree) ?_
      rintro v6 τ6 ⟨rfl, he6, hl6⟩
      refine ⟨kept_none, ?_⟩
      rw [hWn, hst]
      simp -implicitDefEqProofs only [go_sem, Nat.reduceBEq, Nat.reduceAdd, eq_self, true_and, and_true, and_self, List.getElem?_cons_zero, List.getElem?_cons_succ, Nat.reduceLeDiff, Nat.zero_add, Nat.reduceSub, Nat.le_refl, Option.getD_some, Option.isSome_some, plV, plC, topS, hpe]
      refine call_at awake_ok ?_
      rintro v7 τ7 rfl
      refine ⟨kept_none, ?_⟩
      simp -implicitDefEqProofs only [go_sem, Nat.reduceBEq, Nat.reduceAdd, eq_self, true_and, and_true, and_self, List.getElem?_cons_zero, List.getElem?_cons_succ, Nat.reduceLeDiff, Nat.zero_add, Nat.reduceSub, Nat.le_refl, Nat.lt_irrefl]
      refine q2 _ _ ?_
      simp -implicitDefEqProofs only [go_sem, Nat.reduceBEq, Nat.reduceAdd, eq_self, true_and, and_true, and_self, List.getElem?_cons_zero, List.getElem?_cons_succ, Nat.reduceLeDiff, Nat.zero_add, Nat.reduceSub, Nat.le_refl, Nat.lt_irrefl]
    · rw [hrn] at hre
      have hrg := hre
      simp -implicitDefEqProofs only [go_sem, Nat.reduceBEq, Nat.reduceAdd, eq_self, true_and, and_true, and_self, List.getElem?_cons_zero, List.getElem?_cons_succ, Nat.reduceLeDiff, Nat.zero_add, Nat.reduceSub, Nat.le_refl, hrn]
      refine call_at (do_ok (a := topS) (n := n) (p := p) ht2 (by omega)) ?_
      rintro v4 τ4 ⟨rfl, s4, ht4, hto4⟩
      refine ⟨kept_none, ?_⟩
      have hR4 := rdS_up hR2 hto4.upd
      have hDl4 := doD_le D topS n p
      have hall4 := all_ok ht4.tree (keyT _) ht4.nodes (by rw [List.length_map]; omega)
      rcases hE3 with hE | ⟨hE, hDD⟩
      case inr =>
        rw [hDD] at hall4
        rcases hE with hE | hE
        · simp -implicitDefEqProofs only [go_sem, Nat.reduceBEq, Nat.reduceAdd, eq_self, true_and, and_true, and_self, List.getElem?_cons_zero, List.getElem?_cons_succ, Nat.reduceLeDiff, Nat.zero_add, Nat.reduceSub, Nat.le_refl, hE, h20, h22]
          refine call_at hall4 ?_
          rintro v5 τ5 ⟨⟨R5, hC5, hR5⟩, he5⟩
          refine ⟨kept_none, ?_⟩
          have hRR := hC5.uniq hC
          subst hRR
          simp -implicitDefEqProofs only [go_sem, Nat.reduceBEq, Nat.reduceAdd, eq_self, true_and, and_true, and_self, List.getElem?_cons_zero, List.getElem?_cons_succ, Nat.reduceLeDiff, Nat.zero_add, Nat.reduceSub, Nat.le_refl, Nat.lt_irrefl]
          refine call_at (same_ok hR5 (hR4.ext he5) (by omega)) ?_
          rintro v6 τ6 ⟨rfl, rfl⟩
          refine ⟨kept_none, ?_⟩
          simp -implicitDefEqProofs only [go_sem, Nat.reduceBEq, Nat.reduceAdd, eq_self, true_and, and_true, and_self, List.getElem?_cons_zero, List.getElem?_cons_succ, Nat.reduceLeDiff, Nat.zero_add, Nat.reduceSub, Nat.le_refl, decide_true]
          refine call_at awake_ok ?_
          rintro v7 τ7 rfl
          refine ⟨kept_none, ?_⟩
          simp -implicitDefEqProofs only [go_sem, Nat.reduceBEq, Nat.reduceAdd, eq_self, true_and, and_true, and_self, List.getElem?_cons_zero, List.getElem?_cons_succ, Nat.reduceLeDiff, Nat.zero_add, Nat.reduceSub, Nat.le_refl, Nat.lt_irrefl]
          refine q2 _ _ ?_
          simp -implicitDefEqProofs only [go_sem, Nat.reduceBEq, Nat.reduceAdd, eq_self, true_and, and_true, and_self, List.getElem?_cons_zero, List.getElem?_cons_succ, Nat.reduceLeDiff, Nat.zero_add, Nat.reduceSub, Nat.le_refl, Nat.lt_irrefl]
        · simp -implicitDefEqProofs only [go_sem, Nat.reduceBEq, Nat.reduceAdd, eq_self, true_and, and_true, and_self, List.getElem?_cons_zero, List.getElem?_cons_succ, Nat.reduceLeDiff, Nat.zero_add, Nat.reduceSub, Nat.le_refl, hE, h50, h52, h55]
          refine call_at hall4 ?_
          rintro v5 τ5 ⟨⟨R5, hC5, hR5⟩, he5⟩
          refine ⟨kept_none, ?_⟩
          have hRR := hC5.uniq hC
          subst hRR
          simp -implicitDefEqProofs only [go_sem, Nat.reduceBEq, Nat.reduceAdd, eq_self, true_and, and_true, and_self, List.getElem?_cons_zero, List.getElem?_cons_succ, Nat.reduceLeDiff, Nat.zero_add, Nat.reduceSub, Nat.le_refl, Nat.lt_irrefl]
          refine call_at (same_ok hR5 (hR4.ext he5) (by omega)) ?_
          rintro v6 τ6 ⟨rfl, rfl⟩
          refine ⟨kept_none, ?_⟩
          simp -implicitDefEqProofs only [go_sem, Nat.reduceBEq, Nat.reduceAdd, eq_self, true_and, and_true, and_self, List.getElem?_cons_zero, List.getElem?_cons_succ, Nat.reduceLeDiff, Nat.zero_add, Nat.reduceSub, Nat.le_refl, decide_true]
          refine call_at awake_ok ?_
          rintro v7 τ7 rfl
          refine ⟨kept_none, ?_⟩
          simp -implicitDefEqProofs only [go_sem, Nat.reduceBEq, Nat.reduceAdd, eq_self, true_and, and_true, and_self, List.getElem?_cons_zero, List.getElem?_cons_succ, Nat.reduceLeDiff, Nat.zero_add, Nat.reduceSub, Nat.le_refl, Nat.lt_irrefl]
          refine q2 _ _ ?_
          simp -implicitDefEqProofs only [go_sem, Nat.reduceBEq, Nat.reduceAdd, eq_self, true_and, and_true, and_self, List.getElem?_cons_zero, List.getElem?_cons_succ, Nat.reduceLeDiff, Nat.zero_add, Nat.reduceSub, Nat.le_refl, Nat.lt_irrefl]
      have hDe := htop hE
      have hlt : D.length < (doD D topS n p).length := by rw [hDe]; simp
      have hcn : cnt topS (doD D topS n p) = !ben (runT W0 D) p n := by
        have h1 := cnt_self ht4.srt hlt
        have h2 : (doD D topS n p)[D.length] = mark (runT W0 D) (newM topS n p) := by simp [hDe]
        rw [h2] at h1
        exact h1
      have hWn : runT W0 (doD D topS n p) = stepW (runT W0 D) (newM topS n p) := by
        rw [hDe, runT_append]; rfl
      rw [hrg] at hcn
      simp -implicitDefEqProofs only [go_sem, Nat.reduceBEq, Nat.reduceAdd, eq_self, true_and, and_true, and_self, List.getElem?_cons_zero, List.getElem?_cons_succ, Nat.reduceLeDiff, Nat.zero_add, Nat.reduceSub, Nat.le_refl, hE, h00]
      refine call_at (counts_ok (a := topS) ht4.tree ht4.srt (by omega)) ?_
      rintro v5 τ5 ⟨rfl, rfl⟩
      refine ⟨kept_none, ?_⟩
      rw [hcn]
      have hst : stepW (runT W0 D) (newM topS n p) = runT W0 D := by
        show (bif ben (runT W0 D) p n then _ else _) = _
        rw [hrg]; rfl
      rw [hWn, hst] at hall4
      simp -implicitDefEqProofs only [go_sem, Nat.reduceBEq, Nat.reduceAdd, eq_self, true_and, and_true, and_self, List.getElem?_cons_zero, List.getElem?_cons_succ, Nat.reduceLeDiff, Nat.zero_add, Nat.reduceSub, Nat.le_refl, Bool.not_true, Bool.not_false, hbq1, hbq2]
      refine call_at hall4 ?_
      rintro v5 τ5 ⟨⟨R5, hC5, hR5⟩, he5⟩
      refine ⟨kept_none, ?_⟩
      have hRR := hC5.uniq hC
      subst hRR
      simp -implicitDefEqProofs only [go_sem, Nat.reduceBEq, Nat.reduceAdd, eq_self, true_and, and_true, and_self, List.getElem?_cons_zero, List.getElem?_cons_succ, Nat.reduceLeDiff, Nat.zero_add, Nat.reduceSub, Nat.le_refl, Nat.lt_irrefl]
      refine call_at (same_ok hR5 (hR4.ext he5) (by omega)) ?_
      rintro v6 τ6 ⟨rfl, rfl⟩
      refine ⟨kept_none, ?_⟩
      simp -implicitDefEqProofs only [go_sem, Nat.reduceBEq, Nat.reduceAdd, eq_self, true_and, and_true, and_self, List.getElem?_cons_zero, List.getElem?_cons_succ, Nat.reduceLeDiff, Nat.zero_add, Nat.reduceSub, Nat.le_refl, decide_true]
      refine call_at awake_ok ?_
      rintro v7 τ7 rfl
      refine ⟨kept_none, ?_⟩
      simp -implicitDefEqProofs only [go_sem, Nat.reduceBEq, Nat.reduceAdd, eq_self, true_and, and_true, and_self, List.getElem?_cons_zero, List.getElem?_cons_succ, Nat.reduceLeDiff, Nat.zero_add, Nat.reduceSub, Nat.le_refl, Nat.lt_irrefl]
      refine q2 _ _ ?_
      simp -implicitDefEqProofs only [go_sem, Nat.reduceBEq, Nat.reduceAdd, eq_self, true_and, and_true, and_self, List.getElem?_cons_zero, List.getElem?_cons_succ, Nat.reduceLeDiff, Nat.zero_add, Nat.reduceSub, Nat.le_refl, Nat.lt_irrefl]
end
end Go.VL.mov

namespace Go.VL.mov
open Go Go.VL Go.Proofs Go.IntWalk

def kidsR (x : Sp) (R : List Pl) : List Sp := (R.filter fun p => decide (p.p = x)).map (·.n)
theorem kidsR_take {x : Sp} {R : List Pl} {i : Nat} (hi : i < R.length) : kidsR x (R.take (i + 1)) = kidsR x (R.take i) ++ (bif decide (R[i].p = x) then [R[i].n] else []) := by
  rw [List.take_succ_eq_append_getElem hi]
  simp only [kidsR, List.filter_append, List.map_append]
  by_cases h : R[i].p = x <;> simp [h]
theorem kidsR_len (x : Sp) (R : List Pl) : (kidsR x R).length ≤ R.length := by
  simp only [kidsR, List.length_map]; exact List.length_filter_le _ _
section
variable {σ : St} {i0 m : Nat} {s : V} {D : List Mv} {W : Tr} {x : Sp} {R : List Pl} {v : V}
set_option maxRecDepth 100000 in
set_option maxHeartbeats 3200000 in
theorem rkids_ok (hv : RdS σ v 6 (plsV R)) (hl : R.length ≤ 1000000) :
    CallA Try.prog 27 [v, spV x] σ fun w σ' => RdS σ' w 2 (spsV (kidsR x R)) ∧ Ext σ σ' := by
  obtain ⟨b, RR, z, rfl, -, -⟩ := id hv
  refine fn_at Try.func27 (by decide) comp27 rfl fun Q q1 q2 => ?_
  simp -implicitDefEqProofs only [go_sem, Nat.reduceBEq, Nat.reduceAdd, eq_self, true_and, and_true, and_self, List.getElem?_cons_zero, List.getElem?_cons_succ, Nat.reduceLeDiff, Nat.zero_add, Nat.reduceSub, Nat.le_refl, c27, spV, spC]
  refine loop_at (fun (y : Nat × Nat) => ⟨[(0, .v (.sl b RR z (plsV R))), (3, .loc 3 0), (5, .v (.sl false (.own y.2) 2 (spsV (kidsR x (R.take y.1))))), (6, .v (.int .i64 y.1))], [(3, spC x)]⟩)
    (fun y τ' => y.1 ≤ R.length ∧ Ext σ τ' ∧ τ'.live[y.2]? = some true ∧ σ.live.length ≤ y.2) (fun y => R.length - y.1) (0, σ.live.length) ?_ ?_ ?_
  · exact .inr (by simp [go_sem, spsV, kidsR, spC])
  · exact ⟨Nat.zero_le _, ext_live σ true, live_last _ _, Nat.le_refl _⟩
  rintro ⟨i, q⟩ τ' ⟨g1, g2, g3, g4⟩ Z z1 z2 z3
  simp only at g1 g3 g4
  have hsz : (spsV (kidsR x (R.take i))).length ≤ 1000000 := by
    have := kidsR_len x (R.take i)
    rw [List.length_take] at this
    rw [spsV_length]; omega
  simp -implicitDefEqProofs only [go_sem, Nat.reduceBEq, Nat.reduceAdd, eq_self, true_and, and_true, and_self, List.getElem?_cons_zero, List.getElem?_cons_succ, Nat.reduceLeDiff, Nat.zero_add, Nat.reduceSub, Nat.le_refl, spC]
  refine CondW_b (fun hcc => ?_) (fun hcc => ?_)
  · have hi : i < R.length := by simpa [plsV_length] using hcc
    obtain ⟨k1, k2⟩ := rdl (hv.ext g2) (by cases R <;> simp [plsV] at hi ⊢)
    have hget := plsV_get hi
    have hib : (i : Int) < (plsV R).length := by rw [plsV_length]; omega
    have hw64 : IntKind.i64.wrap ((i : Int) + 1) = ((i + 1 : Nat) : Int) := by rw [i64_in _ (by omega)]; omega
    have hkt := kidsR_take (x := x) hi
    generalize R[i] = r at hget hkt
    simp -implicitDefEqProofs only [go_sem, Nat.reduceBEq, Nat.reduceAdd, eq_self, true_and, and_true, and_self, List.getElem?_cons_zero, List.getElem?_cons_succ, Nat.reduceLeDiff, Nat.zero_add, Nat.reduceSub, Nat.le_refl, Nat.lt_irrefl]
    refine cut_dup ?_
    cases hd : decide (r.p = x)
    · rw [hd, cond_false, List.append_nil] at hkt
      simp -implicitDefEqProofs only [go_sem, Nat.reduceBEq, Nat.reduceAdd, eq_self, true_and, and_true, and_self, List.getElem?_cons_zero, List.getElem?_cons_succ, Nat.reduceLeDiff, Nat.zero_add, Nat.reduceSub, Nat.le_refl, hget, plC, spC, sp_eqs, hd]
      refine ⟨⟨by omega, hib, k2⟩, k1, ?_⟩
      simp -implicitDefEqProofs only [go_sem, Nat.reduceBEq, Nat.reduceAdd, eq_self, true_and, and_true, and_self, List.getElem?_cons_zero, List.getElem?_cons_succ, Nat.reduceLeDiff, Nat.zero_add, Nat.reduceSub, Nat.le_refl, hw64]
      refine z1 (i + 1, q) _ _ (.inr ?_) (by simp only; omega) ⟨by simp only; omega, g2, g3, g4⟩
      simp -implicitDefEqProofs only [go_sem, Nat.reduceBEq, Nat.reduceAdd, eq_self, true_and, and_true, and_self, List.getElem?_cons_zero, List.getElem?_cons_succ, Nat.reduceLeDiff, Nat.zero_add, Nat.reduceSub, Nat.le_refl, hkt, spC]
      try trivial
    · rw [hd, cond_true] at hkt
      simp -implicitDefEqProofs only [go_sem, Nat.reduceBEq, Nat.reduceAdd, eq_self, true_and, and_true, and_self, List.getElem?_cons_zero, List.getElem?_cons_succ, Nat.reduceLeDiff, Nat.zero_add, Nat.reduceSub, Nat.le_refl, hget, plC, spC, sp_eqs, hd]
      repeat refine ⟨⟨by omega, hib, k2⟩, k1, ?_⟩
      refine ⟨⟨.inr trivial, .inr ((ext_live _ _).live _ g3), ⟨.inr (live_last _ _), .inl trivial⟩, by omega⟩, ?_⟩
      simp -implicitDefEqProofs only [go_sem, Nat.reduceBEq, Nat.reduceAdd, eq_self, true_and, and_true, and_self, List.getElem?_cons_zero, List.getElem?_cons_succ, Nat.reduceLeDiff, Nat.zero_add, Nat.reduceSub, Nat.le_refl, hw64]
      refine z1 (i + 1, _) _ _ (.inr ?_) (by simp only; omega) ⟨by simp only; omega, ext_kill (ext_push g2) g4, live_last' _ _ _, by have := g2.llen; simp only [List.length_append, List.length_cons, List.length_nil]; omega⟩
      simp -implicitDefEqProofs only [go_sem, Nat.reduceBEq, Nat.reduceAdd, eq_self, true_and, and_true, and_self, List.getElem?_cons_zero, List.getElem?_cons_succ, Nat.reduceLeDiff, Nat.zero_add, Nat.reduceSub, Nat.le_refl, hkt, spC, spsV, List.map_append, List.map_cons, List.map_nil]
      try trivial
  · have hi : ¬ i < R.length := by simpa [plsV_length] using hcc
    rw [List.take_of_length_le (by omega)] at *
    simp -implicitDefEqProofs only [go_sem, Nat.reduceBEq, Nat.reduceAdd, eq_self, true_and, and_true, and_self, List.getElem?_cons_zero, List.getElem?_cons_succ, Nat.reduceLeDiff, Nat.zero_add, Nat.reduceSub, Nat.le_refl, Nat.lt_irrefl]
    refine z2 _ _ _ ?_
    simp -implicitDefEqProofs only [go_sem, Nat.reduceBEq, Nat.reduceAdd, eq_self, true_and, and_true, and_self, List.getElem?_cons_zero, List.getElem?_cons_succ, Nat.reduceLeDiff, Nat.zero_add, Nat.reduceSub, Nat.le_refl, Nat.lt_irrefl]
    refine q2 _ _ ?_
    simp -implicitDefEqProofs only [go_sem, Nat.reduceBEq, Nat.reduceAdd, eq_self, true_and, and_true, and_self, List.getElem?_cons_zero, List.getElem?_cons_succ, Nat.reduceLeDiff, Nat.zero_add, Nat.reduceSub, Nat.le_refl, Nat.lt_irrefl]
    exact ⟨⟨_, _, _, rfl, by simp, .inr ⟨g3, rfl⟩⟩, g2⟩
set_option maxRecDepth 100000 in
set_option maxHeartbeats 3200000 in
theorem kids_ok (h : IsTree σ i0 m s D W) (hK : Keyed W) {K : List Sp} (hKn : ∀ x p, W x = some p → x ∈ K) (hlen : K.length ≤ 1000000) (hC : Canon R W) :
    CallA Try.prog 26 [.ptr (some (i0, 0)), spV x] σ fun w σ' => RdS σ' w 2 (spsV (kidsR x R)) ∧ Ext σ σ' := by
  have hl := hC.len_le hKn
  refine fn_at Try.func26 (by decide) comp26 rfl fun Q q1 q2 => ?_
  simp -implicitDefEqProofs only [go_sem, Nat.reduceBEq, Nat.reduceAdd, eq_self, true_and, and_true, and_self, List.getElem?_cons_zero, List.getElem?_cons_succ, Nat.reduceLeDiff, Nat.zero_add, Nat.reduceSub, Nat.le_refl, c26, spV, spC]
  refine call_at (all_ok h hK hKn (by omega)) ?_
  rintro v τ ⟨⟨R', hC', hv⟩, he0⟩
  refine ⟨kept_none, ?_⟩
  have hRR := hC'.uniq hC
  subst hRR
  obtain ⟨b, RR, z, rfl, -, -⟩ := id hv
  have hRl := plsV_length R'
  simp -implicitDefEqProofs only [go_sem, Nat.reduceBEq, Nat.reduceAdd, eq_self, true_and, and_true, and_self, List.getElem?_cons_zero, List.getElem?_cons_succ, Nat.reduceLeDiff, Nat.zero_add, Nat.reduceSub, Nat.le_refl, hRl]
  refine loop_at (fun (y : Nat × V) => ⟨[(3, .loc 3 0), (5, .v y.2), (9, .v (.sl b RR z (plsV R'))), (10, .v (.int .i64 R'.length)), (11, .v (.int .i64 y.1))], [(3, spC x)]⟩)
    (fun y τ' => y.1 ≤ R'.length ∧ Ext τ τ' ∧ Acc τ.live.length τ' y.2 2 (spsV (kidsR x (R'.take y.1)))) (fun y => R'.length - y.1) (0, .sl true .pub 2 []) ?_ ?_ ?_
  · exact .inr (by simp [go_sem, spC])
  · exact ⟨Nat.zero_le _, .refl _, .inl ⟨rfl, rfl⟩⟩
  rintro ⟨i, w⟩ τ' ⟨g1, g2, g3⟩ Z z1 z2 z3
  simp only at g1 g3
  obtain ⟨wb, wR, wz, wes, hw⟩ := g3.rd.isSl
  subst hw
  have hsz : (spsV (kidsR x (R'.take i))).length ≤ 1000000 := by
    have := kidsR_len x (R'.take i)
    rw [List.length_take] at this
    rw [spsV_length]; omega
  simp -implicitDefEqProofs only [go_sem, Nat.reduceBEq, Nat.reduceAdd, eq_self, true_and, and_true, and_self, List.getElem?_cons_zero, List.getElem?_cons_succ, Nat.reduceLeDiff, Nat.zero_add, Nat.reduceSub, Nat.le_refl, spC]
  refine CondW_b (fun hcc => ?_) (fun hcc => ?_)
  · have hi : i < R'.length := by simpa using hcc
    obtain ⟨k1, k2⟩ := rdl (hv.ext g2) (by cases R' <;> simp [plsV] at hi ⊢)
    have hget := plsV_get hi
    have hib : (i : Int) < (plsV R').length := by rw [plsV_length]; omega
    have hw64 : IntKind.i64.wrap ((i : Int) + 1) = ((i + 1 : Nat) : Int) := by rw [i64_in _ (by omega)]; omega
    have hkt := kidsR_take (x := x) hi
    generalize R'[i] = r at hget hkt
    have fin : ∀ (F : Fr) (τ2 : St) (q : Nat), FrLe ⟨[(3, .loc 3 0), (5, .v (.sl false (.own q) 2 (spsV (kidsR x (R'.take (i + 1)))))), (9, .v (.sl b RR z (plsV R'))), (10, .v (.int .i64 R'.length)), (11, .v (.int .i64 ((i + 1 : Nat) : Int)))], [(3, spC x)]⟩ F → Ext τ τ2 → τ2.live[q]? = some true → τ.live.length ≤ q → Z .normal F τ2 := by
      intro F τ2 q hF f1 f3 f4
      exact z1 (i + 1, _) F τ2 hF (by simp only; omega) ⟨by simp only; omega, f1, .inr ⟨q, rfl, f3, f4⟩⟩
    simp -implicitDefEqProofs only [go_sem, Nat.reduceBEq, Nat.reduceAdd, eq_self, true_and, and_true, and_self, List.getElem?_cons_zero, List.getElem?_cons_succ, Nat.reduceLeDiff, Nat.zero_add, Nat.reduceSub, Nat.le_refl, Nat.lt_irrefl]
    refine cut_dup ?_
    cases hd : decide (r.p = x)
    · rw [hd, cond_false, List.append_nil] at hkt
      simp -implicitDefEqProofs only [go_sem, Nat.reduceBEq, Nat.reduceAdd, eq_self, true_and, and_true, and_self, List.getElem?_cons_zero, List.getElem?_cons_succ, Nat.reduceLeDiff, Nat.zero_add, Nat.reduceSub, Nat.le_refl, hget, plC, spC, sp_eqs, hd]
      refine ⟨⟨by omega, hib, k2⟩, k1, ?_⟩
      simp -implicitDefEqProofs only [go_sem, Nat.reduceBEq, Nat.reduceAdd, eq_self, true_and, and_true, and_self, List.getElem?_cons_zero, List.getElem?_cons_succ, Nat.reduceLeDiff, Nat.zero_add, Nat.reduceSub, Nat.le_refl, hw64]
      refine z1 (i + 1, _) _ _ (.inr ?_) (by simp only; omega) ⟨by simp only; omega, g2, by simp only; rw [hkt]; exact g3⟩
      simp -implicitDefEqProofs only [go_sem, Nat.reduceBEq, Nat.reduceAdd, eq_self, true_and, and_true, and_self, List.getElem?_cons_zero, List.getElem?_cons_succ, Nat.reduceLeDiff, Nat.zero_add, Nat.reduceSub, Nat.le_refl, hkt, spC]
      try trivial
    · rw [hd, cond_true] at hkt
      rcases g3 with ⟨hd', e⟩ | ⟨q, e, hq, hn⟩
      · cases e
        simp -implicitDefEqProofs only [go_sem, Nat.reduceBEq, Nat.reduceAdd, eq_self, true_and, and_true, and_self, List.getElem?_cons_zero, List.getElem?_cons_succ, Nat.reduceLeDiff, Nat.zero_add, Nat.reduceSub, Nat.le_refl, hget, plC, spC, sp_eqs, hd]
        repeat refine ⟨⟨by omega, hib, k2⟩, k1, ?_⟩
        refine ⟨⟨.inl trivial, rfl, .inr (live_last _ _), .inl trivial⟩, ?_⟩
        simp -implicitDefEqProofs only [go_sem, Nat.reduceBEq, Nat.reduceAdd, eq_self, true_and, and_true, and_self, List.getElem?_cons_zero, List.getElem?_cons_succ, Nat.reduceLeDiff, Nat.zero_add, Nat.reduceSub, Nat.le_refl, hw64]
        refine fin _ _ (τ'.live ++ [true]).length (.inr ?_) (ext_push (ext_push g2)) (live_last _ _) (by have := g2.llen; simp only [List.length_append, List.length_cons, List.length_nil]; omega)
        simp -implicitDefEqProofs only [go_sem, Nat.reduceBEq, Nat.reduceAdd, eq_self, true_and, and_true, and_self, List.getElem?_cons_zero, List.getElem?_cons_succ, Nat.reduceLeDiff, Nat.zero_add, Nat.reduceSub, Nat.le_refl, hkt, spC, spsV, List.map_append, List.map_cons, List.map_nil]
        have : (kidsR x (R'.take i)).map spC = [] := hd'
        simp [this]
      · cases e
        simp -implicitDefEqProofs only [go_sem, Nat.reduceBEq, Nat.reduceAdd, eq_self, true_and, and_true, and_self, List.getElem?_cons_zero, List.getElem?_cons_succ, Nat.reduceLeDiff, Nat.zero_add, Nat.reduceSub, Nat.le_refl, hget, plC, spC, sp_eqs, hd]
        repeat refine ⟨⟨by omega, hib, k2⟩, k1, ?_⟩
        refine ⟨⟨.inr trivial, .inr ((ext_live _ _).live _ hq), ⟨.inr (live_last _ _), .inl trivial⟩, by omega⟩, ?_⟩
        simp -implicitDefEqProofs only [go_sem, Nat.reduceBEq, Nat.reduceAdd, eq_self, true_and, and_true, and_self, List.getElem?_cons_zero, List.getElem?_cons_succ, Nat.reduceLeDiff, Nat.zero_add, Nat.reduceSub, Nat.le_refl, hw64]
        refine fin _ _ (τ'.live ++ [true]).length (.inr ?_) (ext_kill (ext_push g2) hn) (live_last' _ _ _) (by have := g2.llen; simp only [List.length_append, List.length_cons, List.length_nil]; omega)
        simp -implicitDefEqProofs only [go_sem, Nat.reduceBEq, Nat.reduceAdd, eq_self, true_and, and_true, and_self, List.getElem?_cons_zero, List.getElem?_cons_succ, Nat.reduceLeDiff, Nat.zero_add, Nat.reduceSub, Nat.le_refl, hkt, spC, spsV, List.map_append, List.map_cons, List.map_nil]
        try trivial
  · have hi : ¬ i < R'.length := by simpa using hcc
    rw [List.take_of_length_le (by omega)] at g3
    simp -implicitDefEqProofs only [go_sem, Nat.reduceBEq, Nat.reduceAdd, eq_self, true_and, and_true, and_self, List.getElem?_cons_zero, List.getElem?_cons_succ, Nat.reduceLeDiff, Nat.zero_add, Nat.reduceSub, Nat.le_refl, Nat.lt_irrefl]
    refine z2 _ _ _ ?_
    simp -implicitDefEqProofs only [go_sem, Nat.reduceBEq, Nat.reduceAdd, eq_self, true_and, and_true, and_self, List.getElem?_cons_zero, List.getElem?_cons_succ, Nat.reduceLeDiff, Nat.zero_add, Nat.reduceSub, Nat.le_refl, Nat.lt_irrefl]
    refine q2 _ _ ?_
    simp -implicitDefEqProofs only [go_sem, Nat.reduceBEq, Nat.reduceAdd, eq_self, true_and, and_true, and_self, List.getElem?_cons_zero, List.getElem?_cons_succ, Nat.reduceLeDiff, Nat.zero_add, Nat.reduceSub, Nat.le_refl, Nat.lt_irrefl]
    exact ⟨g3.rd, he0.trans g2⟩
end
section
variable {σ : St}
set_option maxHeartbeats 1600000 in
set_option maxRecDepth 100000 in
theorem awakeE_ok : CallA Try.prog 14 [] σ fun v σ' => v = .bool true ∧ Ext σ σ' := by
  refine fn_at Try.func14 (by decide) comp14 rfl fun Q q1 q2 => ?_
  simp -implicitDefEqProofs only [go_sem, Nat.reduceBEq, Nat.reduceAdd, eq_self, true_and, and_true, and_self, List.getElem?_cons_zero, List.getElem?_cons_succ, Nat.reduceLeDiff, Nat.zero_add, Nat.reduceSub, Nat.le_refl, c14]
  refine call_at new_ok ?_
  rintro v τ ⟨rfl, h0, he0, hl0⟩
  refine ⟨kept_none, ?_⟩
  have hi0 : σ.objs.length ≤ σ.objs.length + 1 := Nat.le_succ _
  generalize σ.objs.length + 1 = i at *
  have hm0 : σ.objs.length ≤ σ.objs.length := Nat.le_refl _
  generalize hm : σ.objs.length = m at *
  simp -implicitDefEqProofs only [go_sem, Nat.reduceBEq, Nat.reduceAdd, eq_self, true_and, and_true, and_self, List.getElem?_cons_zero, List.getElem?_cons_succ, Nat.reduceLeDiff, Nat.zero_add, Nat.reduceSub, Nat.le_refl, Nat.lt_irrefl]
  refine call_at (do_ok (a := ⟨3, 0⟩) (n := ⟨1, 0⟩) (p := ⟨0, 0⟩) (tree_new h0) (by simp)) ?_
  rintro v τ1 ⟨rfl, s1, h1, ht1⟩
  refine ⟨kept_none, ?_⟩
  have e1 : doE [] ⟨3, 0⟩ ⟨1, 0⟩ ⟨0, 0⟩ = 0 := by decide
  have e2 : doD [] ⟨3, 0⟩ ⟨1, 0⟩ ⟨0, 0⟩ = [mark W0 (newM ⟨3, 0⟩ ⟨1, 0⟩ ⟨0, 0⟩)] := by
    have : (okF ⟨3, 0⟩ ⟨1, 0⟩ ⟨0, 0⟩ && !at? ⟨3, 0⟩ []) = true := by decide
    rw [doD, this]; rfl
  rw [e2] at h1
  have hb : ben W0 ⟨0, 0⟩ ⟨1, 0⟩ = false := ben0 (by decide)
  have e3 : doE [mark W0 (newM ⟨3, 0⟩ ⟨1, 0⟩ ⟨0, 0⟩)] ⟨3, 0⟩ ⟨1, 0⟩ ⟨0, 0⟩ = 5 := by
    have h1 : okF ⟨3, 0⟩ ⟨1, 0⟩ ⟨0, 0⟩ = true := by decide
    have h2 : at? ⟨3, 0⟩ [mark W0 (newM ⟨3, 0⟩ ⟨1, 0⟩ ⟨0, 0⟩)] = true := by
      simp [at?, ix, mark, newM, less]
    rw [doE, h1, h2]; rfl
  have e4 : doD [mark W0 (newM ⟨3, 0⟩ ⟨1, 0⟩ ⟨0, 0⟩)] ⟨3, 0⟩ ⟨1, 0⟩ ⟨0, 0⟩ = [mark W0 (newM ⟨3, 0⟩ ⟨1, 0⟩ ⟨0, 0⟩)] := by
    have h2 : at? ⟨3, 0⟩ [mark W0 (newM ⟨3, 0⟩ ⟨1, 0⟩ ⟨0, 0⟩)] = true := by
      simp [at?, ix, mark, newM, less]
    rw [doD, h2]; simp
  have h00 : decide ((0 : Int) = 0) = true := by decide
  simp -implicitDefEqProofs only [go_sem, Nat.reduceBEq, Nat.reduceAdd, eq_self, true_and, and_true, and_self, List.getElem?_cons_zero, List.getElem?_cons_succ, Nat.reduceLeDiff, Nat.zero_add, Nat.reduceSub, Nat.le_refl, e1, h00]
  refine call_at (do_ok (a := ⟨3, 0⟩) (n := ⟨1, 0⟩) (p := ⟨0, 0⟩) h1 (by simp)) ?_
  rintro v τ2 ⟨rfl, s2, h2, ht2⟩
  refine ⟨kept_none, ?_⟩
  rw [e4] at h2
  have h55 : decide ((5 : Int) = 5) = true := by decide
  simp -implicitDefEqProofs only [go_sem, Nat.reduceBEq, Nat.reduceAdd, eq_self, true_and, and_true, and_self, List.getElem?_cons_zero, List.getElem?_cons_succ, Nat.reduceLeDiff, Nat.zero_add, Nat.reduceSub, Nat.le_refl, e3, h55]
  refine call_at (where_ok (x := ⟨1, 0⟩) h2.tree) ?_
  rintro v τ3 ⟨rfl, he3, hl3⟩
  refine ⟨kept_none, ?_⟩
  have hW : runT W0 [mark W0 (newM ⟨3, 0⟩ ⟨1, 0⟩ ⟨0, 0⟩)] ⟨1, 0⟩ = some ⟨⟨1, 0⟩, ⟨0, 0⟩, ⟨3, 0⟩⟩ := by
    simp only [runT, step_mark]
    show stepW W0 ⟨⟨3, 0⟩, ⟨1, 0⟩, ⟨0, 0⟩, false, zp, false⟩ ⟨1, 0⟩ = _
    simp [stepW, hb, put, pl]
  rw [hW]
  have h3 := h2.tree.ext he3
  have hdd : V.eqs [.int .i64 1, .int .i64 0, .int .i64 0, .int .i64 0, .int .i64 3, .int .i64 0] [.int .i64 1, .int .i64 0, .int .i64 0, .int .i64 0, .int .i64 3, .int .i64 0] = true := by decide
  simp -implicitDefEqProofs only [go_sem, Nat.reduceBEq, Nat.reduceAdd, eq_self, true_and, and_true, and_self, List.getElem?_cons_zero, List.getElem?_cons_succ, Nat.reduceLeDiff, Nat.zero_add, Nat.reduceSub, Nat.le_refl, Option.getD_some, Option.isSome_some, plV, plC, hdd]
  refine call_at (len_ok h3) ?_
  rintro v τ4 ⟨rfl, rfl⟩
  refine ⟨kept_none, ?_⟩
  have h11 : decide (((1 : Nat) : Int) = 1) = true := by decide
  simp -implicitDefEqProofs only [go_sem, Nat.reduceBEq, Nat.reduceAdd, eq_self, true_and, and_true, and_self, List.getElem?_cons_zero, List.getElem?_cons_succ, Nat.reduceLeDiff, Nat.zero_add, Nat.reduceSub, Nat.le_refl, List.length_cons, List.length_nil, h11]
  refine q2 _ _ ?_
  simp -implicitDefEqProofs only [go_sem, Nat.reduceBEq, Nat.reduceAdd, eq_self, true_and, and_true, and_self, List.getElem?_cons_zero, List.getElem?_cons_succ, Nat.reduceLeDiff, Nat.zero_add, Nat.reduceSub, Nat.le_refl, Nat.lt_irrefl]
  have o0 : ∀ k, Own i m (.sl true .pub 0 []) k → σ.objs.length ≤ k := by
    rintro k (hk | hk | ⟨_, _, _, hk⟩)
    · rw [hk, hm]; exact hi0
    · rw [hk, hm]; exact hm0
    · cases hk
  have x1 := ht1.upd.toExt he0 o0
  have o1 : ∀ k, Own i m s1 k → σ.objs.length ≤ k := fun k hk => (ht1.own k hk).elim (o0 k) fun h => Nat.le_trans he0.olen h
  have x2 := ht2.upd.toExt x1 o1
  exact x2.trans he3
end
section
variable {σ : St} {v : V} {l : List Ac} {n : Sp}
set_option maxRecDepth 100000 in
set_option maxHeartbeats 6400000 in
theorem asks_ok (hv : RdS σ v 7 (acsV l)) (hl : l.length ≤ 1048576) :
    CallA Try.prog 7 [v, spV n] σ fun w _ => w = .bool true := by
  refine fn_at Try.func7 (by decide) comp7 rfl fun Q q1 q2 => ?_
  simp -implicitDefEqProofs only [go_sem, Nat.reduceBEq, Nat.reduceAdd, eq_self, true_and, and_true, and_self, List.getElem?_cons_zero, List.getElem?_cons_succ, Nat.reduceLeDiff, Nat.zero_add, Nat.reduceSub, Nat.le_refl, c7, spV, spC]
  refine call_at (made_ok hv hl) ?_
  rintro v τ ⟨i0, m, s, x, D, rfl, ht, hx, hD, hok, he⟩
  refine ⟨kept_none, ?_⟩
  simp -implicitDefEqProofs only [go_sem, Nat.reduceBEq, Nat.reduceAdd, eq_self, true_and, and_true, and_self, List.getElem?_cons_zero, List.getElem?_cons_succ, Nat.reduceLeDiff, Nat.zero_add, Nat.reduceSub, Nat.le_refl, Nat.lt_irrefl]
  refine call_at (rdone_ok hx (by rw [List.length_map]; omega)) ?_
  rintro v τ0 ⟨⟨x1, x2, R, rfl, hC, hRle, hR, -⟩, he0, -⟩
  refine ⟨kept_none, ?_⟩
  rw [runT_core] at hC
  rw [List.length_map] at hRle
  have ht0 := ht.ext he0
  obtain ⟨rb, rR, rz, rfl, -, -⟩ := id hR
  simp -implicitDefEqProofs only [go_sem, Nat.reduceBEq, Nat.reduceAdd, eq_self, true_and, and_true, and_self, List.getElem?_cons_zero, List.getElem?_cons_succ, Nat.reduceLeDiff, Nat.zero_add, Nat.reduceSub, Nat.le_refl, Nat.lt_irrefl]
  refine call_at (where_ok (x := n) ht0.tree) ?_
  rintro v τ1 ⟨rfl, he1, -⟩
  refine ⟨kept_none, ?_⟩
  have ht1 := ht0.ext he1
  have hR1 := hR.ext he1
  simp -implicitDefEqProofs only [go_sem, Nat.reduceBEq, Nat.reduceAdd, eq_self, true_and, and_true, and_self, List.getElem?_cons_zero, List.getElem?_cons_succ, Nat.reduceLeDiff, Nat.zero_add, Nat.reduceSub, Nat.le_refl, plV, plC]
  refine call_at (rwhere_ok (x := n) hR1 (by omega)) ?_
  rintro v τ2 ⟨hcase, rfl⟩
  refine ⟨kept_none, ?_⟩
  have hA := acyT D
  obtain ⟨up, hup⟩ := hA.chain n
  have hul := hC.chain_len hA hup
  have hbq1 : ((false : Bool) == false) = true := rfl
  have hbq2 : ((true : Bool) == true) = true := rfl
  rcases hcase with ⟨hn, rfl⟩ | ⟨k, hk, hn, rfl⟩
  · rw [hC.look] at hn
    have h0 : decide ((0 : Int) ≤ -1) = false := by decide
    have hzz : V.eqs [.int .i64 zs.c, .int .i64 zs.r, .int .i64 zs.c, .int .i64 zs.r, .int .i64 zs.c, .int .i64 zs.r] [.int .i64 0, .int .i64 0, .int .i64 0, .int .i64 0, .int .i64 0, .int .i64 0] = true := by decide
    rw [hn]
    simp -implicitDefEqProofs only [go_sem, Nat.reduceBEq, Nat.reduceAdd, eq_self, true_and, and_true, and_self, List.getElem?_cons_zero, List.getElem?_cons_succ, Nat.reduceLeDiff, Nat.zero_add, Nat.reduceSub, Nat.le_refl, Option.isSome_none, Option.getD_none, h0, hbq1, hzz, zp]
    refine call_at (above_ok (x := n) ht1.tree hup (by omega)) ?_
    rintro v3 τ3 ⟨hU, he3⟩
    refine ⟨he3.kept, ?_⟩
    simp -implicitDefEqProofs only [go_sem, Nat.reduceBEq, Nat.reduceAdd, eq_self, true_and, and_true, and_self, List.getElem?_cons_zero, List.getElem?_cons_succ, Nat.reduceLeDiff, Nat.zero_add, Nat.reduceSub, Nat.le_refl, Nat.lt_irrefl]
    refine call_at (rabove_ok (x := n) (hR1.ext he3) (by omega) hC.look hup hul) ?_
    rintro v4 τ4 ⟨hU', he4, -⟩
    refine ⟨he4.kept, ?_⟩
    simp -implicitDefEqProofs only [go_sem, Nat.reduceBEq, Nat.reduceAdd, eq_self, true_and, and_true, and_self, List.getElem?_cons_zero, List.getElem?_cons_succ, Nat.reduceLeDiff, Nat.zero_add, Nat.reduceSub, Nat.le_refl, Nat.lt_irrefl]
    refine call_at (same2_ok (hU.ext he4) hU' (by omega)) ?_
    rintro v5 τ5 ⟨rfl, rfl⟩
    refine ⟨(Ext.refl _).kept, ?_⟩
    have ht5 := (ht1.ext he3).ext he4
    simp -implicitDefEqProofs only [go_sem, Nat.reduceBEq, Nat.reduceAdd, eq_self, true_and, and_true, and_self, List.getElem?_cons_zero, List.getElem?_cons_succ, Nat.reduceLeDiff, Nat.zero_add, Nat.reduceSub, Nat.le_refl, decide_true]
    refine call_at (kids_ok (x := n) ht5.tree (keyT D) ht5.nodes (by rw [List.length_map]; omega) hC) ?_
    rintro v6 τ6 ⟨hK, he6⟩
    refine ⟨he6.kept, ?_⟩
    simp -implicitDefEqProofs only [go_sem, Nat.reduceBEq, Nat.reduceAdd, eq_self, true_and, and_true, and_self, List.getElem?_cons_zero, List.getElem?_cons_succ, Nat.reduceLeDiff, Nat.zero_add, Nat.reduceSub, Nat.le_refl, Nat.lt_irrefl]
    refine call_at (rkids_ok (x := n) (((hR1.ext he3).ext he4).ext he6) (by omega)) ?_
    rintro v7 τ7 ⟨hK', he7⟩
    refine ⟨he7.kept, ?_⟩
    simp -implicitDefEqProofs only [go_sem, Nat.reduceBEq, Nat.reduceAdd, eq_self, true_and, and_true, and_self, List.getElem?_cons_zero, List.getElem?_cons_succ, Nat.reduceLeDiff, Nat.zero_add, Nat.reduceSub, Nat.le_refl, Nat.lt_irrefl]
    refine call_at (same2_ok (hK.ext he7) hK' (by have := kidsR_len n R; omega)) ?_
    rintro v8 τ8 ⟨rfl, rfl⟩
    refine ⟨(Ext.refl _).kept, ?_⟩
    simp -implicitDefEqProofs only [go_sem, Nat.reduceBEq, Nat.reduceAdd, eq_self, true_and, and_true, and_self, List.getElem?_cons_zero, List.getElem?_cons_succ, Nat.reduceLeDiff, Nat.zero_add, Nat.reduceSub, Nat.le_refl, decide_true]
    refine call_at awakeE_ok ?_
    rintro v9 τ9 ⟨rfl, he9⟩
    refine ⟨he9.kept, ?_⟩
    simp -implicitDefEqProofs only [go_sem, Nat.reduceBEq, Nat.reduceAdd, eq_self, true_and, and_true, and_self, List.getElem?_cons_zero, List.getElem?_cons_succ, Nat.reduceLeDiff, Nat.zero_add, Nat.reduceSub, Nat.le_refl, Nat.lt_irrefl]
    refine q2 _ _ ?_
    simp -implicitDefEqProofs only [go_sem, Nat.reduceBEq, Nat.reduceAdd, eq_self, true_and, and_true, and_self, List.getElem?_cons_zero, List.getElem?_cons_succ, Nat.reduceLeDiff, Nat.zero_add, Nat.reduceSub, Nat.le_refl, Nat.lt_irrefl]
  · rw [hC.look] at hn
    have h0 : decide ((0 : Int) ≤ k) = true := by simp
    obtain ⟨k1, k2⟩ := rdl hR1 (by cases R <;> simp [plsV] at hk ⊢)
    have hget := plsV_get hk
    have hib : (k : Int) < (plsV R).length := by rw [plsV_length]; omega
    have hpp := pl_eqs R[k] R[k]
    simp only [decide_true] at hpp
    rw [hn]
    generalize R[k] = p at hget hpp
    simp -implicitDefEqProofs only [go_sem, Nat.reduceBEq, Nat.reduceAdd, eq_self, true_and, and_true, and_self, List.getElem?_cons_zero, List.getElem?_cons_succ, Nat.reduceLeDiff, Nat.zero_add, Nat.reduceSub, Nat.le_refl, Option.isSome_some, Option.getD_some, h0, hbq2, hget, plC, hpp]
    refine ⟨⟨by omega, hib, k2⟩, k1, ?_⟩
    refine call_at (above_ok (x := n) ht1.tree hup (by omega)) ?_
    rintro v3 τ3 ⟨hU, he3⟩
    refine ⟨he3.kept, ?_⟩
    simp -implicitDefEqProofs only [go_sem, Nat.reduceBEq, Nat.reduceAdd, eq_self, true_and, and_true, and_self, List.getElem?_cons_zero, List.getElem?_cons_succ, Nat.reduceLeDiff, Nat.zero_add, Nat.reduceSub, Nat.le_refl, Nat.lt_irrefl]
    refine call_at (rabove_ok (x := n) (hR1.ext he3) (by omega) hC.look hup hul) ?_
    rintro v4 τ4 ⟨hU', he4, -⟩
    refine ⟨he4.kept, ?_⟩
    simp -implicitDefEqProofs only [go_sem, Nat.reduceBEq, Nat.reduceAdd, eq_self, true_and, and_true, and_self, List.getElem?_cons_zero, List.getElem?_cons_succ, Nat.reduceLeDiff, Nat.zero_add, Nat.reduceSub, Nat.le_refl, Nat.lt_irrefl]
    refine call_at (same2_ok (hU.ext he4) hU' (by omega)) ?_
    rintro v5 τ5 ⟨rfl, rfl⟩
    refine ⟨(Ext.refl _).kept, ?_⟩
    have ht5 := (ht1.ext he3).ext he4
    simp -implicitDefEqProofs only [go_sem, Nat.reduceBEq, Nat.reduceAdd, eq_self, true_and, and_true, and_self, List.getElem?_cons_zero, List.getElem?_cons_succ, Nat.reduceLeDiff, Nat.zero_add, Nat.reduceSub, Nat.le_refl, decide_true]
    refine call_at (kids_ok (x := n) ht5.tree (keyT D) ht5.nodes (by rw [List.length_map]; omega) hC) ?_
    rintro v6 τ6 ⟨hK, he6⟩
    refine ⟨he6.kept, ?_⟩
    simp -implicitDefEqProofs only [go_sem, Nat.reduceBEq, Nat.reduceAdd, eq_self, true_and, and_true, and_self, List.getElem?_cons_zero, List.getElem?_cons_succ, Nat.reduceLeDiff, Nat.zero_add, Nat.reduceSub, Nat.le_refl, Nat.lt_irrefl]
    refine call_at (rkids_ok (x := n) (((hR1.ext he3).ext he4).ext he6) (by omega)) ?_
    rintro v7 τ7 ⟨hK', he7⟩
    refine ⟨he7.kept, ?_⟩
    simp -implicitDefEqProofs only [go_sem, Nat.reduceBEq, Nat.reduceAdd, eq_self, true_and, and_true, and_self, List.getElem?_cons_zero, List.getElem?_cons_succ, Nat.reduceLeDiff, Nat.zero_add, Nat.reduceSub, Nat.le_refl, Nat.lt_irrefl]
    refine call_at (same2_ok (hK.ext he7) hK' (by have := kidsR_len n R; omega)) ?_
    rintro v8 τ8 ⟨rfl, rfl⟩
    refine ⟨(Ext.refl _).kept, ?_⟩
    simp -implicitDefEqProofs only [go_sem, Nat.reduceBEq, Nat.reduceAdd, eq_self, true_and, and_true, and_self, List.getElem?_cons_zero, List.getElem?_cons_succ, Nat.reduceLeDiff, Nat.zero_add, Nat.reduceSub, Nat.le_refl, decide_true]
    refine call_at awakeE_ok ?_
    rintro v9 τ9 ⟨rfl, he9⟩
    refine ⟨he9.kept, ?_⟩
    simp -implicitDefEqProofs only [go_sem, Nat.reduceBEq, Nat.reduceAdd, eq_self, true_and, and_true, and_self, List.getElem?_cons_zero, List.getElem?_cons_succ, Nat.reduceLeDiff, Nat.zero_add, Nat.reduceSub, Nat.le_refl, Nat.lt_irrefl]
    refine q2 _ _ ?_
    simp -implicitDefEqProofs only [go_sem, Nat.reduceBEq, Nat.reduceAdd, eq_self, true_and, and_true, and_self, List.getElem?_cons_zero, List.getElem?_cons_succ, Nat.reduceLeDiff, Nat.zero_add, Nat.reduceSub, Nat.le_refl, Nat.lt_irrefl]
end
end Go.VL.mov

namespace Go.VL.mov
open Go Go.VL Go.Proofs Go.IntWalk

section
variable {σ : St} {i0 m : Nat} {s v : V} {D : List Mv}
set_option maxRecDepth 100000 in
set_option maxHeartbeats 3200000 in
theorem told_ok (ht : TreeIs σ i0 m s D) (hv : RdS σ v 7 (m7s (D.map core))) (hl : D.length ≤ 1000000) :
    CallA Try.prog 19 [.ptr (some (i0, 0)), v] σ fun w σ' => w = .bool true ∧ Ext σ σ' := by
  obtain ⟨b, RR, z, rfl, -, -⟩ := id hv
  refine fn_at Try.func19 (by decide) comp19 rfl fun Q q1 q2 => ?_
  have hDl := m7core_length D
  simp -implicitDefEqProofs only [go_sem, Nat.reduceBEq, Nat.reduceAdd, eq_self, true_and, and_true, and_self, List.getElem?_cons_zero, List.getElem?_cons_succ, Nat.reduceLeDiff, Nat.zero_add, Nat.reduceSub, Nat.le_refl, c19]
  refine call_at (rdone_ok hv (by rw [List.length_map]; omega)) ?_
  rintro w τ ⟨⟨x1, x2, R, rfl, hC, hRle, hR, hY⟩, he, -⟩
  refine ⟨kept_none, ?_⟩
  rw [runT_core] at hC
  rw [runD_core, ht.runs] at hY
  rw [List.length_map] at hRle
  have ht1 := ht.ext he
  obtain ⟨yb, yR, yz, rfl, -, -⟩ := id hY
  have hYl := m7s_length D
  simp -implicitDefEqProofs only [go_sem, Nat.reduceBEq, Nat.reduceAdd, eq_self, true_and, and_true, and_self, List.getElem?_cons_zero, List.getElem?_cons_succ, Nat.reduceLeDiff, Nat.zero_add, Nat.reduceSub, Nat.le_refl, Nat.lt_irrefl]
  refine call_at (len_ok ht1.tree) ?_
  rintro w τ1 ⟨rfl, rfl⟩
  refine ⟨kept_none, ?_⟩
  have d1 : decide (((D.length : Nat) : Int) = (m7s (D.map core)).length) = true := by rw [hDl]; simp
  simp -implicitDefEqProofs only [go_sem, Nat.reduceBEq, Nat.reduceAdd, eq_self, true_and, and_true, and_self, List.getElem?_cons_zero, List.getElem?_cons_succ, Nat.reduceLeDiff, Nat.zero_add, Nat.reduceSub, Nat.le_refl, d1]
  refine call_at (all_ok ht1.tree (keyT D) ht1.nodes (by rw [List.length_map]; omega)) ?_
  rintro w τ2 ⟨⟨R', hC', hR'⟩, he2⟩
  refine ⟨kept_none, ?_⟩
  have hRR := hC'.uniq hC
  subst hRR
  simp -implicitDefEqProofs only [go_sem, Nat.reduceBEq, Nat.reduceAdd, eq_self, true_and, and_true, and_self, List.getElem?_cons_zero, List.getElem?_cons_succ, Nat.reduceLeDiff, Nat.zero_add, Nat.reduceSub, Nat.le_refl, Nat.lt_irrefl]
  refine call_at (same_ok hR' (hR.ext he2) (by omega)) ?_
  rintro w τ3 ⟨rfl, rfl⟩
  refine ⟨kept_none, ?_⟩
  have ht3 := ht1.ext he2
  have hY3 := hY.ext he2
  simp -implicitDefEqProofs only [go_sem, Nat.reduceBEq, Nat.reduceAdd, eq_self, true_and, and_true, and_self, List.getElem?_cons_zero, List.getElem?_cons_succ, Nat.reduceLeDiff, Nat.zero_add, Nat.reduceSub, Nat.le_refl, decide_true]
  refine loop_at (fun (i : Nat) => ⟨[(0, .v (.ptr (some (i0, 0)))), (6, .v (.sl yb yR yz (m7s D))), (7, .v (.int .i64 i))], []⟩)
    (fun i τ' => i ≤ D.length ∧ τ' = τ3) (fun i => D.length - i) 0 ?_ ?_ ?_
  · exact .inr (by simp [go_sem])
  · exact ⟨Nat.zero_le _, rfl⟩
  rintro i τ4 ⟨g1, hτ⟩ Z z1 z2 z3
  have hτ := hτ.symm
  subst hτ
  simp -implicitDefEqProofs only [go_sem, Nat.reduceBEq, Nat.reduceAdd, eq_self, true_and, and_true, and_self, List.getElem?_cons_zero, List.getElem?_cons_succ, Nat.reduceLeDiff, Nat.zero_add, Nat.reduceSub, Nat.le_refl, Nat.lt_irrefl]
  refine CondW_b (fun hcc => ?_) (fun hcc => ?_)
  case refine_2 =>
    simp -implicitDefEqProofs only [go_sem, Nat.reduceBEq, Nat.reduceAdd, eq_self, true_and, and_true, and_self, List.getElem?_cons_zero, List.getElem?_cons_succ, Nat.reduceLeDiff, Nat.zero_add, Nat.reduceSub, Nat.le_refl, Nat.lt_irrefl]
    refine z2 _ _ _ ?_
    simp -implicitDefEqProofs only [go_sem, Nat.reduceBEq, Nat.reduceAdd, eq_self, true_and, and_true, and_self, List.getElem?_cons_zero, List.getElem?_cons_succ, Nat.reduceLeDiff, Nat.zero_add, Nat.reduceSub, Nat.le_refl, Nat.lt_irrefl]
    refine q2 _ _ ?_
    simp -implicitDefEqProofs only [go_sem, Nat.reduceBEq, Nat.reduceAdd, eq_self, true_and, and_true, and_self, List.getElem?_cons_zero, List.getElem?_cons_succ, Nat.reduceLeDiff, Nat.zero_add, Nat.reduceSub, Nat.le_refl, Nat.lt_irrefl]
    exact he.trans he2
  have hi : i < D.length := by simpa [hYl] using hcc
  obtain ⟨k1, k2⟩ := rdl hY3 (by cases D <;> simp [m7s] at hi ⊢)
  have hgi := m7s_get hi
  have hib : (i : Int) < (m7s D).length := by rw [hYl]; omega
  have hw1 : IntKind.i64.wrap ((i : Int) + 1) = ((i + 1 : Nat) : Int) := by rw [i64_in _ (by omega)]; omega
  have hcs := cnt_self ht3.srt hi
  generalize D[i] = d at hgi hcs
  simp -implicitDefEqProofs only [go_sem, Nat.reduceBEq, Nat.reduceAdd, eq_self, true_and, and_true, and_self, List.getElem?_cons_zero, List.getElem?_cons_succ, Nat.reduceLeDiff, Nat.zero_add, Nat.reduceSub, Nat.le_refl, hgi, m7]
  repeat refine ⟨⟨by omega, hib, k2⟩, k1, ?_⟩
  refine call_at (counts_ok (a := d.a) ht3.tree ht3.srt (by omega)) ?_
  rintro w τ5 ⟨rfl, rfl⟩
  refine ⟨(Ext.refl _).kept, ?_⟩
  rw [hcs]
  simp -implicitDefEqProofs only [go_sem, Nat.reduceBEq, Nat.reduceAdd, eq_self, true_and, and_true, and_self, List.getElem?_cons_zero, List.getElem?_cons_succ, Nat.reduceLeDiff, Nat.zero_add, Nat.reduceSub, Nat.le_refl, beq_self_eq_true, Bool.not_true]
  simp -implicitDefEqProofs only [go_sem, Nat.reduceBEq, Nat.reduceAdd, eq_self, true_and, and_true, and_self, List.getElem?_cons_zero, List.getElem?_cons_succ, Nat.reduceLeDiff, Nat.zero_add, Nat.reduceSub, Nat.le_refl, hw1]
  refine z1 (i + 1) _ _ (.inr ?_) (by omega) ⟨by omega, rfl⟩
  simp -implicitDefEqProofs only [go_sem, Nat.reduceBEq, Nat.reduceAdd, eq_self, true_and, and_true, and_self, List.getElem?_cons_zero, List.getElem?_cons_succ, Nat.reduceLeDiff, Nat.zero_add, Nat.reduceSub, Nat.le_refl, Nat.lt_irrefl]
  try trivial
end
end Go.VL.mov

namespace Go.VL.mov
open Go Go.VL Go.Proofs Go.IntWalk

theorem idx_of (o : Int) {n : Nat} (h : 0 < n) (hn : n ≤ 268435456) : ∃ i : Nat, i < n ∧ IntKind.i64.wrap ((IntKind.u64.wrap o).tmod (IntKind.u64.wrap n)) = i := by
  have u64w : ∀ n : Int, IntKind.u64.wrap n = n % 18446744073709551616 := fun n => by simp [IntKind.wrap, IntKind.bits, IntKind.signed]
  rw [u64w, u64w]
  obtain ⟨a, ha⟩ := Int.eq_ofNat_of_zero_le (Int.emod_nonneg o (b := 18446744073709551616) (by decide))
  have e : (n : Int) % 18446744073709551616 = n := Int.emod_eq_of_lt (by omega) (by omega)
  rw [ha, e, tmod_nat]
  have := Nat.mod_lt a h
  exact ⟨a % n, this, by rw [i64_in _ (by omega)]⟩
theorem m7s_take (l : List Mv) (i : Nat) : (m7s l).take i = m7s (l.take i) := by simp [m7s, List.map_take]
theorem m7s_drop (l : List Mv) (i : Nat) : (m7s l).drop i = m7s (l.drop i) := by simp [m7s, List.map_drop]
theorem m7s_append (a b : List Mv) : m7s a ++ m7s b = m7s (a ++ b) := by simp [m7s]
theorem srt_eq : ∀ {A B : List Mv}, Srt A → Srt B → A.Perm B → A = B
  | [], B, _, _, h => by simpa using h.symm.eq_nil
  | a :: A, [], _, _, h => by simpa using h.eq_nil
  | a :: A, b :: B, ha, hb, h => by
    obtain ⟨a1, a2⟩ := List.pairwise_cons.1 ha
    obtain ⟨b1, b2⟩ := List.pairwise_cons.1 hb
    have e : a = b := by
      rcases List.mem_cons.1 (h.mem_iff.1 (List.mem_cons_self (a := a) (l := A))) with e | h1
      · exact e
      · rcases List.mem_cons.1 (h.mem_iff.2 (List.mem_cons_self (a := b) (l := B))) with e | h2
        · exact e.symm
        · have := less_trans (a1 b h2) (b1 a h1)
          rw [less_irr] at this; cases this
    subst e
    rw [srt_eq a2 b2 (List.Perm.cons_inv h)]
theorem insD_perm (D : List Mv) (x : Mv) : (insD D x).Perm (x :: D) := by
  have := List.perm_middle (a := x) (l₁ := D.take (ix x.a D)) (l₂ := D.drop (ix x.a D))
  rw [List.take_append_drop] at this
  exact this
theorem runs_core {D E : List Mv} (hD : Runs W0 D) (hE : Runs W0 E) (h : D.map core = E.map core) : D = E := by
  rw [← hD, ← hE, ← runD_core, h, runD_core]
theorem srt_cores {D : List Mv} (h : Srt D) : Srt (D.map core) := srt_core (by rw [List.map_map]; exact List.map_congr_left fun _ _ => rfl) h
/-- One of those that are left is done. -/
theorem any_step {D E L : List Mv} (hD : Srt D) (hok : OkD D) (hE : Srt E) (hp : (E.map core ++ L).Perm (D.map core)) {k : Nat} (hk : k < L.length) :
    doE E L[k].a L[k].n L[k].p = 0 ∧ ((doD E L[k].a L[k].n L[k].p).map core ++ (L.take k ++ L.drop (k + 1))).Perm (D.map core) := by
  have hm : L[k] ∈ D.map core := hp.mem_iff.1 (List.mem_append.2 (.inr (List.getElem_mem hk)))
  obtain ⟨d, hd, hcd⟩ := List.mem_map.1 hm
  have hcore : newM L[k].a L[k].n L[k].p = L[k] := by rw [← hcd]; rfl
  have hokk : okF L[k].a L[k].n L[k].p = true := by rw [← hcd]; exact hok d hd
  have hnd : ((E.map core ++ L).map (·.a)).Nodup := by
    have h1 : ((D.map core).map (·.a)).Nodup := by
      refine List.pairwise_map.2 ((srt_cores hD).imp fun {a b} h e => ?_)
      rw [e, less_irr] at h; cases h
    exact (hp.map (·.a)).nodup_iff.2 h1
  have hat : at? L[k].a E = false := by
    rw [← hasA_at hE]
    cases hh : hasA L[k].a E with
    | false => rfl
    | true =>
      obtain ⟨y, hy, he⟩ := List.any_eq_true.1 hh
      rw [List.map_append, List.nodup_append] at hnd
      refine absurd (of_decide_eq_true he) (hnd.2.2 y.a ?_ L[k].a (List.mem_map.2 ⟨_, List.getElem_mem hk, rfl⟩))
      rw [List.map_map]
      exact List.mem_map.2 ⟨y, hy, rfl⟩
  refine ⟨by simp [doE, hokk, hat], ?_⟩
  have h1 : doD E L[k].a L[k].n L[k].p = runD W0 (insD E (newM L[k].a L[k].n L[k].p)) := by simp [doD, hokk, hat]
  rw [h1, core_runD, hcore]
  have h2 : ((insD E L[k]).map core).Perm (L[k] :: E.map core) := by
    have := (insD_perm E L[k]).map core
    rw [List.map_cons] at this
    have e : core L[k] = L[k] := by rw [← hcd]; rfl
    rwa [e] at this
  refine List.Perm.trans ?_ hp
  refine (h2.append_right _).trans ?_
  have h3 : (L[k] :: (L.take k ++ L.drop (k + 1))).Perm L := by
    have := List.perm_middle (a := L[k]) (l₁ := L.take k) (l₂ := L.drop (k + 1))
    rw [← List.drop_eq_getElem_cons hk, List.take_append_drop] at this
    exact this.symm
  rw [List.cons_append]
  refine (List.perm_middle.symm.trans ?_)
  exact List.Perm.append_left _ h3

theorem tree_own {σ : St} {i m : Nat} {s : V} {D : List Mv} {W : Tr} (h : IsTree σ i m s D W) : ∀ k, Own i m s k → k < σ.objs.length := by
  rintro k (rfl | rfl | ⟨n, cap, z, hk⟩)
  · exact (List.getElem?_eq_some_iff.1 h.cells).1
  · obtain ⟨T, ver, h1, -⟩ := h.map
    exact (List.getElem?_eq_some_iff.1 h1).1
  · rcases h.row with ⟨R, q, hs, -⟩ | ⟨j, cap', hs, h1, -⟩
    · rw [hs] at hk; cases hk
    · rw [hs] at hk; cases hk
      exact (List.getElem?_eq_some_iff.1 h1).1
theorem TreeIs.up {S : Nat → Prop} {σ τ : St} {i m : Nat} {s : V} {D : List Mv} (h : TreeIs σ i m s D) (hu : UpdS S σ τ) (hS : ∀ k, Own i m s k → ¬ S k) : TreeIs τ i m s D := ⟨h.tree.up hu hS, h.runs, h.srt⟩

section
variable {σ : St} {v u : V} {l : List Ac} {os : List Int}
set_option maxRecDepth 100000 in
set_option maxHeartbeats 6400000 in
theorem any_ok (hv : RdS σ v 7 (acsV l)) (hu : RdS σ u 1 (intsV .i64 os)) (hl : l.length ≤ 1048576) :
    CallA Try.prog 4 [v, u] σ fun w _ => w = .bool true := by
  obtain ⟨ub, uR, uz, rfl, -, -⟩ := id hu
  refine fn_at Try.func4 (by decide) comp4 rfl fun Q q1 q2 => ?_
  simp -implicitDefEqProofs only [go_sem, Nat.reduceBEq, Nat.reduceAdd, eq_self, true_and, and_true, and_self, List.getElem?_cons_zero, List.getElem?_cons_succ, Nat.reduceLeDiff, Nat.zero_add, Nat.reduceSub, Nat.le_refl, c4]
  refine call_at (made_ok hv hl) ?_
  rintro v τ ⟨i0, m0, s0, x, D, rfl, ht, hx, hD, hok, he⟩
  refine ⟨kept_none, ?_⟩
  have hu0 := hu.ext he
  obtain ⟨xb, xR, xz, rfl, -, -⟩ := id hx
  have hDl := m7core_length D
  simp -implicitDefEqProofs only [go_sem, Nat.reduceBEq, Nat.reduceAdd, eq_self, true_and, and_true, and_self, List.getElem?_cons_zero, List.getElem?_cons_succ, Nat.reduceLeDiff, Nat.zero_add, Nat.reduceSub, Nat.le_refl, Nat.lt_irrefl]
  refine call_at new_ok ?_
  rintro v τ0 ⟨rfl, hy, he1, hlv1⟩
  refine ⟨kept_none, ?_⟩
  have hy0 := tree_new hy
  have ht0 := ht.ext he1
  have hown : ∀ k, Own i0 m0 s0 k → k < τ.objs.length := tree_own ht.tree
  have hi1 : τ.objs.length ≤ τ.objs.length + 1 := Nat.le_succ _
  generalize τ.objs.length + 1 = i1 at *
  have hm1 : τ.objs.length ≤ τ.objs.length := Nat.le_refl _
  generalize hN : τ.objs.length = m1 at *
  have hx0 := hx.ext he1
  have hu1 := hu0.ext he1
  obtain ⟨hxb, hxz⟩ := rd_src (hx0.ext (ext_live τ0 true))
  simp -implicitDefEqProofs only [go_sem, Nat.reduceBEq, Nat.reduceAdd, eq_self, true_and, and_true, and_self, List.getElem?_cons_zero, List.getElem?_cons_succ, Nat.reduceLeDiff, Nat.zero_add, Nat.reduceSub, Nat.le_refl, Nat.lt_irrefl]
  refine ⟨⟨.inr trivial, .inr (live_last _ _), ⟨hxb, hxz⟩, by rw [hDl]; omega⟩, ?_⟩
  have e0 : Ext τ0 ⟨τ0.objs, kill (τ0.live ++ [true]) (.own τ0.live.length) ++ [true]⟩ := ext_kill (ext_live τ0 true) (Nat.le_refl _)
  refine loop_at (fun (y : List Mv × V × Nat × List Mv × V) => ⟨[(1, .v (.sl ub uR uz (intsV .i64 os))), (5, .v (.ptr (some (i0, 0)))), (6, .v (.sl xb xR xz (m7s (D.map core)))), (7, .v (.ptr (some (i1, 0)))), (8, .v y.2.1), (9, .v (.int .i64 y.2.2.1))], []⟩)
    (fun y τ2 => y.2.2.1 + y.1.length ≤ 200 ∧ UpdS (fun k => m1 ≤ k) τ0 τ2 ∧ RdS τ2 y.2.1 7 (m7s y.1) ∧ TreeIs τ2 i1 m1 y.2.2.2.2 y.2.2.2.1 ∧ (∀ k, Own i1 m1 y.2.2.2.2 k → m1 ≤ k) ∧ y.2.2.2.1.length + y.1.length ≤ 200 ∧ (y.2.2.2.1.map core ++ y.1).Perm (D.map core)) (fun y => y.1.length)
    (D.map core, .sl false (.own (τ0.live ++ [true]).length) 7 (m7s (D.map core)), 0, [], .sl true .pub 0 []) ?_ ?_ ?_
  · refine .inr ?_
    simp -implicitDefEqProofs only [go_sem, Nat.reduceBEq, Nat.reduceAdd, eq_self, true_and, and_true, and_self, List.getElem?_cons_zero, List.getElem?_cons_succ, Nat.reduceLeDiff, Nat.zero_add, Nat.reduceSub, Nat.le_refl, Bool.false_and, List.nil_append]
    try trivial
  · refine ⟨by simp only [List.length_map]; omega, .of e0, ⟨false, _, 7, rfl, by simp, .inr ⟨live_last' _ _ _, rfl⟩⟩, hy0.ext e0, ?_, by simp only [List.length_map, List.length_nil]; omega, by simp⟩
    rintro k (hk | hk | ⟨_, _, _, hk⟩)
    · rw [hk]; omega
    · rw [hk]; exact Nat.le_refl _
    · cases hk
  rintro ⟨L, w, t, E, s1⟩ τ2 ⟨g1, g2, g3, g4, g5, g6, g7⟩ Z z1 z2 z3
  simp only at g1 g3 g4 g5 g6 g7
  obtain ⟨wb, wR, wz, rfl, -, -⟩ := id g3
  have hRl := m7s_length L
  have ht2 : TreeIs τ2 i0 m0 s0 D := ht0.up g2 fun k hk hl => by have := hown k hk; omega
  have hx2 := rdS_up hx0 g2
  have hu2 := rdS_up hu1 g2
  simp -implicitDefEqProofs only [go_sem, Nat.reduceBEq, Nat.reduceAdd, eq_self, true_and, and_true, and_self, List.getElem?_cons_zero, List.getElem?_cons_succ, Nat.reduceLeDiff, Nat.zero_add, Nat.reduceSub, Nat.le_refl, Nat.lt_irrefl]
  refine CondW_b (fun hc => ?_) (fun hc => ?_)
  case refine_2 =>
    have hc := of_decide_eq_false hc
    have hR0 : L = [] := by
      cases L with
      | nil => rfl
      | cons a b => exfalso; simp only [m7s, List.map_cons, List.length_cons] at hc; omega
    subst hR0
    rw [List.append_nil] at g7
    have hED : E = D := runs_core g4.runs ht.runs (srt_eq (srt_cores g4.srt) (srt_cores ht.srt) g7)
    subst hED
    simp -implicitDefEqProofs only [go_sem, Nat.reduceBEq, Nat.reduceAdd, eq_self, true_and, and_true, and_self, List.getElem?_cons_zero, List.getElem?_cons_succ, Nat.reduceLeDiff, Nat.zero_add, Nat.reduceSub, Nat.le_refl, Nat.lt_irrefl]
    refine z2 _ _ _ ?_
    simp -implicitDefEqProofs only [go_sem, Nat.reduceBEq, Nat.reduceAdd, eq_self, true_and, and_true, and_self, List.getElem?_cons_zero, List.getElem?_cons_succ, Nat.reduceLeDiff, Nat.zero_add, Nat.reduceSub, Nat.le_refl, Nat.lt_irrefl]
    refine call_at (all_ok g4.tree (keyT _) g4.nodes (by rw [List.length_map]; omega)) ?_
    rintro va τ3 ⟨⟨R, hC, hR⟩, he3⟩
    refine ⟨kept_none, ?_⟩
    simp -implicitDefEqProofs only [go_sem, Nat.reduceBEq, Nat.reduceAdd, eq_self, true_and, and_true, and_self, List.getElem?_cons_zero, List.getElem?_cons_succ, Nat.reduceLeDiff, Nat.zero_add, Nat.reduceSub, Nat.le_refl, Nat.lt_irrefl]
    refine call_at (all_ok (ht2.ext he3).tree (keyT _) ht2.nodes (by rw [List.length_map]; omega)) ?_
    rintro vb τ4 ⟨⟨R', hC', hR'⟩, he4⟩
    refine ⟨kept_none, ?_⟩
    have hRR := hC'.uniq hC
    subst hRR
    have hRle := hC.len_le ht2.nodes
    rw [List.length_map] at hRle
    simp -implicitDefEqProofs only [go_sem, Nat.reduceBEq, Nat.reduceAdd, eq_self, true_and, and_true, and_self, List.getElem?_cons_zero, List.getElem?_cons_succ, Nat.reduceLeDiff, Nat.zero_add, Nat.reduceSub, Nat.le_refl, Nat.lt_irrefl]
    refine call_at (same_ok (hR.ext he4) hR' (by omega)) ?_
    rintro v τ5 ⟨rfl, rfl⟩
    refine ⟨kept_none, ?_⟩
    simp -implicitDefEqProofs only [go_sem, Nat.reduceBEq, Nat.reduceAdd, eq_self, true_and, and_true, and_self, List.getElem?_cons_zero, List.getElem?_cons_succ, Nat.reduceLeDiff, Nat.zero_add, Nat.reduceSub, Nat.le_refl, decide_true]
    refine call_at (told_ok ((g4.ext he3).ext he4) ((hx2.ext he3).ext he4) (by omega)) ?_
    rintro v τ6 ⟨rfl, he6⟩
    refine ⟨kept_none, ?_⟩
    simp -implicitDefEqProofs only [go_sem, Nat.reduceBEq, Nat.reduceAdd, eq_self, true_and, and_true, and_self, List.getElem?_cons_zero, List.getElem?_cons_succ, Nat.reduceLeDiff, Nat.zero_add, Nat.reduceSub, Nat.le_refl, Nat.lt_irrefl]
    refine call_at awake_ok ?_
    rintro v τ7 rfl
    refine ⟨kept_none, ?_⟩
    simp -implicitDefEqProofs only [go_sem, Nat.reduceBEq, Nat.reduceAdd, eq_self, true_and, and_true, and_self, List.getElem?_cons_zero, List.getElem?_cons_succ, Nat.reduceLeDiff, Nat.zero_add, Nat.reduceSub, Nat.le_refl, Nat.lt_irrefl]
    refine q2 _ _ ?_
    simp -implicitDefEqProofs only [go_sem, Nat.reduceBEq, Nat.reduceAdd, eq_self, true_and, and_true, and_self, List.getElem?_cons_zero, List.getElem?_cons_succ, Nat.reduceLeDiff, Nat.zero_add, Nat.reduceSub, Nat.le_refl, Nat.lt_irrefl]
  have hc := of_decide_eq_true hc
  have hRp : 0 < L.length := by omega
  simp -implicitDefEqProofs only [go_sem, Nat.reduceBEq, Nat.reduceAdd, eq_self, true_and, and_true, and_self, List.getElem?_cons_zero, List.getElem?_cons_succ, Nat.reduceLeDiff, Nat.zero_add, Nat.reduceSub, Nat.le_refl, Nat.lt_irrefl]
  refine cut_at (fun G τ3 => τ3 = τ2 ∧ ∃ i : Nat, i < L.length ∧ G = ⟨[(1, .v (.sl ub uR uz (intsV .i64 os))), (5, .v (.ptr (some (i0, 0)))), (6, .v (.sl xb xR xz (m7s (D.map core)))), (7, .v (.ptr (some (i1, 0)))), (8, .v (.sl wb wR wz (m7s L))), (9, .v (.int .i64 t)), (10, .v (.int .i64 i))], []⟩) ?_ ?_
  · intro Y y1 y2 y3
    simp -implicitDefEqProofs only [go_sem, Nat.reduceBEq, Nat.reduceAdd, eq_self, true_and, and_true, and_self, List.getElem?_cons_zero, List.getElem?_cons_succ, Nat.reduceLeDiff, Nat.zero_add, Nat.reduceSub, Nat.le_refl, Nat.lt_irrefl]
    refine CondW_b (fun ho => ?_) (fun ho => ?_)
    · have ho' : t < os.length := by have := of_decide_eq_true ho; simp only [intsV, List.length_map] at this; omega
      obtain ⟨k1, k2⟩ := rdl hu2 (by cases os <;> simp [intsV] at ho' ⊢)
      have hib : (t : Int) < (intsV .i64 os).length := by simp only [intsV, List.length_map]; omega
      have hget := intsV_get (k := .i64) ho'
      obtain ⟨i, hi, e⟩ := idx_of os[t] hRp (by omega)
      simp -implicitDefEqProofs only [go_sem, Nat.reduceBEq, Nat.reduceAdd, eq_self, true_and, and_true, and_self, List.getElem?_cons_zero, List.getElem?_cons_succ, Nat.reduceLeDiff, Nat.zero_add, Nat.reduceSub, Nat.le_refl, hget]
      refine ⟨⟨by omega, hib, k2⟩, k1, ?_, ?_⟩
      · rw [hRl, show IntKind.u64.wrap ((L.length : Nat) : Int) = ((L.length : Nat) : Int) % 18446744073709551616 from by simp [IntKind.wrap, IntKind.bits, IntKind.signed]]; omega
      · rw [hRl, e]
        refine y1 _ _ _ (.inr ?_) ⟨rfl, i, hi, rfl⟩
        simp -implicitDefEqProofs only [go_sem, Nat.reduceBEq, Nat.reduceAdd, eq_self, true_and, and_true, and_self, List.getElem?_cons_zero, List.getElem?_cons_succ, Nat.reduceLeDiff, Nat.zero_add, Nat.reduceSub, Nat.le_refl, Nat.lt_irrefl]
        try trivial
    · simp -implicitDefEqProofs only [go_sem, Nat.reduceBEq, Nat.reduceAdd, eq_self, true_and, and_true, and_self, List.getElem?_cons_zero, List.getElem?_cons_succ, Nat.reduceLeDiff, Nat.zero_add, Nat.reduceSub, Nat.le_refl, Nat.lt_irrefl]
      refine y1 _ _ _ (.inr ?_) ⟨rfl, 0, hRp, rfl⟩
      simp -implicitDefEqProofs only [go_sem, Nat.reduceBEq, Nat.reduceAdd, eq_self, true_and, and_true, and_self, List.getElem?_cons_zero, List.getElem?_cons_succ, Nat.reduceLeDiff, Nat.zero_add, Nat.reduceSub, Nat.le_refl, Nat.lt_irrefl]
      try trivial
  rintro G τ3 ⟨rfl, i, hi, rfl⟩
  have hgi := m7s_get hi
  obtain ⟨hst1, hst2⟩ := any_step ht.srt hok g4.srt g7 hi
  obtain ⟨k1, k2⟩ := rdl g3 (by cases L <;> simp [m7s] at hi ⊢)
  have hib : (i : Int) < (m7s L).length := by omega
  have hle := doD_le E L[i].a L[i].n L[i].p
  generalize L[i] = y at hgi hst1 hst2 hle
  simp -implicitDefEqProofs only [go_sem, Nat.reduceBEq, Nat.reduceAdd, eq_self, true_and, and_true, and_self, List.getElem?_cons_zero, List.getElem?_cons_succ, Nat.reduceLeDiff, Nat.zero_add, Nat.reduceSub, Nat.le_refl, hgi, m7]
  repeat refine ⟨⟨by omega, hib, k2⟩, k1, ?_⟩
  refine call_at (do_ok (a := y.a) (n := y.n) (p := y.p) g4 (by omega)) ?_
  rintro v τ4 ⟨rfl, s2, ht4, hto⟩
  refine ⟨kept_upd hto.upd, ?_⟩
  rw [hst1]
  have h00 : decide ((0 : Int) = 0) = true := by decide
  have g34 := rdS_up g3 hto.upd
  have hne : m7s L ≠ [] := by cases L <;> simp [m7s] at hi ⊢
  have hwi : IntKind.i64.wrap ((i : Int) + 1) = ((i + 1 : Nat) : Int) := by rw [i64_in _ (by omega)]; omega
  have x5 := ext_live τ4 true
  have x6 : Ext τ4 ⟨τ4.objs, kill (τ4.live ++ [true]) (.own τ4.live.length) ++ [true]⟩ := ext_kill x5 (Nat.le_refl _)
  have k15 := (rdl (g34.ext x5) hne).1
  have k16 := (rdl (g34.ext x6) hne).1
  have hl1 : (L.take i).length ≤ 200 := by rw [List.length_take]; omega
  have hl2 : (L.drop (i + 1)).length ≤ 200 := by rw [List.length_drop]; omega
  have hl3 : (L.take i ++ L.drop (i + 1)).length + 1 = L.length := by rw [List.length_append, List.length_take, List.length_drop]; omega
  simp -implicitDefEqProofs only [go_sem, Nat.reduceBEq, Nat.reduceAdd, eq_self, true_and, and_true, and_self, List.getElem?_cons_zero, List.getElem?_cons_succ, Nat.reduceLeDiff, Nat.zero_add, Nat.reduceSub, Nat.le_refl, h00]
  simp only [hwi, Int.toNat_natCast, List.take_length, m7s_take, m7s_drop, m7s_append]
  refine ⟨⟨.inr k2, by omega, by omega, by omega⟩, ⟨.inr trivial, .inr (live_last _ _), ⟨.inr (rd_toView k15), .inl k2⟩, by rw [m7s_length]; omega⟩, ⟨.inr k2, by omega, by omega⟩,
    ⟨.inr trivial, .inr (live_last' _ _ _), ⟨.inr (rd_toView k16), .inl k2⟩, by rw [m7s_length, m7s_length]; omega⟩, ?_⟩
  have x7 : Ext τ4 ⟨τ4.objs, kill (kill (τ4.live ++ [true]) (.own τ4.live.length) ++ [true]) (.own (τ4.live ++ [true]).length) ++ [true]⟩ := ext_kill x6 (by simp)
  refine z1 (L.take i ++ L.drop (i + 1), .sl false (.own (kill (τ4.live ++ [true]) (.own τ4.live.length) ++ [true]).length) 7 (m7s (L.take i ++ L.drop (i + 1))), t + 1, doD E y.a y.n y.p, s2) _ _ (.inr ?_) (by simp only; omega) ⟨by simp only; omega, ?_, ⟨false, _, 7, rfl, by simp, .inr ⟨?_, rfl⟩⟩, ?_, ?_, by simp only; omega, hst2⟩
  · simp -implicitDefEqProofs only [go_sem, Nat.reduceBEq, Nat.reduceAdd, eq_self, true_and, and_true, and_self, List.getElem?_cons_zero, List.getElem?_cons_succ, Nat.reduceLeDiff, Nat.zero_add, Nat.reduceSub, Nat.le_refl, Nat.lt_irrefl]
    rw [i64_in _ (by omega)]; simp
  · exact (g2.trans hto.upd fun k hk => .inl (g5 k hk)).trans (UpdS.of (S := fun k => m1 ≤ k) x7) fun k hk => .inl hk
  · exact live_last' _ _ _
  · exact ht4.ext x7
  · exact fun k hk => (hto.own k hk).elim (g5 k) fun h => by
      have := g2.olen
      have := he1.olen
      omega
end
end Go.VL.mov

namespace Go.Proofs
open Go.Shelf Go.RowKit Go.Lib

theorem run_clearK {P : Program} (w : World) (t e ty : TypeId) (z : Value) (ht : P.underlying t = some (.slice e)) (hv : ∀ w, (zeroValue e).run P w = .ok z w) (h1 : ∀ v ∈ (Builtin.zeroCells z.cells 1).toList, v.oneCell' = true) (b o c : Nat)
    (hc : ∀ j, j < (Builtin.zeroCells z.cells 1).toList.length → (w.cell? ⟨b, o + j, none⟩).isSome = true) (hf : ∀ j, j < (Builtin.zeroCells z.cells 1).toList.length → w.frozen? ⟨b, o + j, none⟩ = false) :
    (Builtin.clear_ #[t] ty #[.slice (some ⟨b, o, none⟩) 1 c]).run P w = .ok (.tuple #[]) (w.setCells b o (Builtin.zeroCells z.cells 1).toList) := by
  have hst := run_storeCells_cells (P := P) b o (Builtin.zeroCells z.cells 1).toList 0 w (by simpa using hc) (by simpa using hf) h1
  simp only [Nat.add_zero] at hst
  simp [Builtin.clear_, run_underlying ht, hv, hst]

set_option maxHeartbeats 4000000 in
set_option maxRecDepth 1000000 in
theorem delShift (b off n c i : Nat) (cs : List Value) (w : World) (hi : i < n) (hnc : n ≤ c) (hc63 : c ≤ 9223372036854775807) (hcl : cs.length = n * 14)
    (hcs : ∀ j v, cs[j]? = some v → w.cell? ⟨b, off + j, none⟩ = some v) (hfz : ∀ j, j < n * 14 → w.frozen? ⟨b, off + j, none⟩ = false) (h1c : ∀ v ∈ cs, v.oneCell' = true)
    (z : Value) (hz : Try.t71.zero = some z) (hzv : ∀ w, (zeroValue 71).run Try.prog w = .ok z w) (hz1 : ∀ v ∈ (Builtin.zeroCells z.cells 1).toList, v.oneCell' = true) (hzl : (Builtin.zeroCells z.cells 1).toList.length = 14) :
    Calls Try.prog 43 #[.slice (some ⟨b, off, none⟩) n c, .int .i64 i, .int .i64 ((i + 1 : Nat) : Int)] w fun e w' =>
      e = .returned (.slice (some ⟨b, off, none⟩) (n - 1) c) ∧ w' = (w.drew.setCells b (off + i * 14) (cs.drop ((i + 1) * 14))).setCells b (off + (n - 1) * 14) (Builtin.zeroCells z.cells 1).toList := by
  have mixed : Try.prog.follows .mixedOrders = true := by kernel_rfl
  obtain ⟨i0, hi0, hz0, hzs, hzb⟩ : ∃ i0, Try.prog.info? 71 = some i0 ∧ i0.zero = some z ∧ i0.size = 14 ∧ i0.bytes = 112 := ⟨Try.t71, by kernel_rfl, hz, by kernel_rfl, by kernel_rfl⟩
  have t72 := Try.underlying72
  obtain ⟨news, hnews⟩ : ∃ news, news = cs.drop ((i + 1) * 14) := ⟨_, rfl⟩
  have hlen : news.length = (n - (i + 1)) * 14 := by rw [hnews, List.length_drop, hcl]; omega
  have hsp : ∀ k, k < n * 14 → (w.cell? ⟨b, off + k, none⟩).isSome = true := fun k hk => by
    rw [hcs k _ (List.getElem?_eq_getElem (by omega))]; rfl
  obtain ⟨A, hA, hsrc⟩ : ∃ A : Addr, (if c = i + 1 then some (⟨b, off, none⟩ : Addr) else some ⟨b, off + (i + 1) * 14, none⟩) = some A ∧ Hid (∀ t u, news[t]? = some u → w.drew.cell? (A.add t) = some u) := by
    by_cases h : c = i + 1
    · refine ⟨⟨b, off, none⟩, by simp [h], fun t u hu => ?_⟩
      have h0 : news.length = 0 := by rw [hlen]; omega
      rw [List.length_eq_zero_iff.1 h0] at hu
      simp at hu
    · refine ⟨⟨b, off + (i + 1) * 14, none⟩, by simp [h], fun t u hu => ?_⟩
      rw [hnews, List.getElem?_drop] at hu
      rw [Addr.add_lit, Nat.add_assoc]
      exact hcs _ u hu
  have s1 : Hid (news.length = (n - (i + 1)) * 14) := hlen
  have s2 : Hid (∀ u ∈ news, u.oneCell' = true) := by
    intro u hu
    rw [hnews] at hu
    exact h1c u (List.mem_of_mem_drop hu)
  have s3 : Hid (∀ t, t < news.length → (w.drew.cell? ⟨b, off + i * 14 + t, none⟩).isSome = true ∧ w.drew.frozen? ⟨b, off + i * 14 + t, none⟩ = false) := by
    intro t ht
    rw [hlen] at ht
    rw [Nat.add_assoc]
    exact ⟨hsp _ (by omega), hfz _ (by omega)⟩
  obtain ⟨W1, hW1⟩ : ∃ W1, W1 = w.drew.setCells b (off + i * 14) news := ⟨_, rfl⟩
  have hcl1 : ∀ ty, (Builtin.clear_ #[72] ty #[.slice (some ⟨b, off + (i + (n - (i + 1))) * 14, none⟩) (n - (i + (n - (i + 1)))) (c - (i + (n - (i + 1))))]).run Try.prog W1 = .ok (.tuple #[]) (W1.setCells b (off + (n - 1) * 14) (Builtin.zeroCells z.cells 1).toList) := fun ty => by
    have e1 : i + (n - (i + 1)) = n - 1 := by omega
    have e2 : n - (n - 1) = 1 := by omega
    rw [e1, e2]
    refine run_clearK W1 72 71 ty z t72 hzv hz1 b _ _ (fun j hj => ?_) (fun j hj => ?_)
    · rw [hW1]
      refine isSome_setCells b _ _ _ (fun j hj => ?_) _ ?_
      · rw [Nat.add_assoc]; exact hsp _ (by omega)
      · rw [Nat.add_assoc]; exact hsp _ (by omega)
    · rw [hW1, World.frozen?_setCells, Nat.add_assoc]
      exact hfz _ (by omega)
  have hW : Hid (W1 = w.drew.setCells b (off + i * 14) news) := hW1
  have hic : i ≤ c := by omega
  have hjc : i + 1 ≤ c := by omega
  have hw1 : IntKind.i64.wrap ((i : Int) + 1) = (i : Int) + 1 := by rw [IntKind.wrap_i64]; omega
  have hne : ¬ ((i : Int) = (i : Int) + 1) := by omega
  have hb1 : (0 : Int) ≤ (i : Int) + 1 := by omega
  have hb2 : (i : Int) + 1 ≤ (n : Int) := by omega
  have htn : ((i : Int) + 1).toNat = i + 1 := by omega
  obtain ⟨ZL, hZL⟩ : ∃ ZL, ZL = (Builtin.zeroCells z.cells 1).toList := ⟨_, rfl⟩
  rw [← hZL] at hcl1
  rw [← hnews, ← hW1, ← hZL]
  clear hZL hz hzv hz1 hzl hz0
  clear hW1 hsp hfz hcs hnews hlen h1c hcl
  go_enter Try.func43, Try.ntmps43
  go_wp2_with fail
  go_region_law_o (refine step_append_room rfl (.tmp 22) (.tmp 25) 72 rfl 71 i0 14 t72 hi0 hzs b off i c (by simp [Act.eval, Act.put]) A (n - (i + 1)) (c - (i + 1)) news (by simp [Act.eval, Act.put]) s1.out hsrc.out s2.out (by omega) s3.out ?_; rw [← hW.out])
  go_wp2
  go_ret
  exact ⟨by rw [show i + (n - (i + 1)) = n - 1 by omega]; rfl, rfl⟩
end Go.Proofs

namespace Go.VL
open Go Go.Proofs

section
variable {σ : St} {s : V} {es : List (List V)} {i : Nat}
theorem del_ok (hs : RowOf σ s 14 es) (hi : i < es.length) :
    CallA Try.prog 43 [s, .int .i64 i, .int .i64 ((i + 1 : Nat) : Int)] σ fun v σ' => RowOf σ' v 14 (es.take i ++ es.drop (i + 1)) ∧ RowTo σ s σ' ∧ ∃ j cap, v = .osl j (es.length - 1) cap 14 ∧ ((∃ n' cap', s = .osl j n' cap' 14) ∨ σ.objs.length ≤ j) := by
  refine ⟨⟨Try.f43, Try.func43, rfl, by kernel_rfl⟩, fun γ w vs hinv hr => ?_⟩
  simp only [RepL] at hr
  obtain ⟨v1, _, rfl, hv1, v2, _, rfl, hv2, v3, _, rfl, hv3, rfl⟩ := hr
  simp only [Rep] at hv2 hv3
  subst hv2
  subst hv3
  rcases hs with ⟨R, q, rfl, rfl⟩ | ⟨j, cap, rfl, ho, hz, hcap⟩
  · simp at hi
  simp only [Rep] at hv1
  obtain ⟨b, hb, rfl⟩ := hv1
  obtain ⟨p1, p2, vs, c, e, z, k1, k2, k3, k4, k5, k6, k7⟩ := hinv.objs _ _ _ hb ho
  have hfl := flat_len' hz
  have hvsl : vs.length = es.length * 14 := by rw [← k3.length, hfl]
  have hcs : es.length * 14 ≤ c.size := by
    have := k4.1
    have : es.length * 14 ≤ cap * 14 := Nat.mul_le_mul_right _ hcap
    omega
  have h := delShift b 0 es.length cap i vs w hi hcap k4.2 hvsl (fun q v hq => by rw [cell_of_heap k1, Nat.zero_add]; exact k2 q v hq)
    (fun q hq => by
      have h1 := k6 q (by have : es.length * 14 ≤ cap * 14 := Nat.mul_le_mul_right _ hcap; omega)
      simp only [World.frozen?, k1, Nat.zero_add, Bool.and_eq_false_iff, decide_eq_false_iff_not]; omega)
    k7 _ (by kernel_rfl) Try.zeroValue71 (by
      have h2 : ((Builtin.zeroCells (Value.agg #[Value.int IntKind.i64 0, Value.int IntKind.i64 0, Value.int IntKind.i64 0, Value.int IntKind.i64 0,
          Value.int IntKind.i64 0, Value.int IntKind.i64 0, Value.bool false, Value.int IntKind.i64 0, Value.int IntKind.i64 0, Value.int IntKind.i64 0, Value.int IntKind.i64 0, Value.int IntKind.i64 0, Value.int IntKind.i64 0, Value.bool false]).cells 1).toList.all (·.oneCell')) = true := by kernel_rfl
      exact List.all_eq_true.1 h2) (by kernel_rfl)
  refine h.mono ?_
  rintro e' W ⟨rfl, rfl⟩
  have hZl : (Builtin.zeroCells (Value.agg #[Value.int IntKind.i64 0, Value.int IntKind.i64 0, Value.int IntKind.i64 0, Value.int IntKind.i64 0,
          Value.int IntKind.i64 0, Value.int IntKind.i64 0, Value.bool false, Value.int IntKind.i64 0, Value.int IntKind.i64 0, Value.int IntKind.i64 0, Value.int IntKind.i64 0, Value.int IntKind.i64 0, Value.int IntKind.i64 0, Value.bool false]).cells 1).toList.length = 14 := by kernel_rfl
  generalize (Builtin.zeroCells (Value.agg #[Value.int IntKind.i64 0, Value.int IntKind.i64 0, Value.int IntKind.i64 0, Value.int IntKind.i64 0,
          Value.int IntKind.i64 0, Value.int IntKind.i64 0, Value.bool false, Value.int IntKind.i64 0, Value.int IntKind.i64 0, Value.int IntKind.i64 0, Value.int IntKind.i64 0, Value.int IntKind.i64 0, Value.int IntKind.i64 0, Value.bool false]).cells 1).toList = ZL at hZl
  have hvd : (vs.drop ((i + 1) * 14)).length = vs.length - (i + 1) * 14 := List.length_drop
  obtain ⟨b1, c1, r1, r2⟩ := setCells_ok (vs.drop ((i + 1) * 14)) w.drew b (0 + i * 14) c e z k1 (by rw [hvd]; omega)
  have hs1 : c1.size = c.size := by
    have := congrArg List.length r2
    simp only [Array.length_toList, List.length_append, List.length_take, List.length_drop] at this
    omega
  obtain ⟨b2, c2, r3, r4⟩ := setCells_ok ZL _ b (0 + (es.length - 1) * 14) c1 e z r1 (by rw [hZl, hs1]; omega)
  have hs2 : c2.size = c.size := by
    have := congrArg List.length r4
    simp only [Array.length_toList, List.length_append, List.length_take, List.length_drop] at this
    omega
  have hcv := prefix_eq k2
  rw [Nat.zero_add] at r2 r4
  have e1 : c.toList.take (i * 14) = vs.take (i * 14) := by
    conv => lhs; rw [hcv]
    rw [List.take_append_of_le_length (by omega)]
  have e2 : c1.toList.take ((es.length - 1) * 14) = vs.take (i * 14) ++ vs.drop ((i + 1) * 14) := by
    rw [r2, e1, List.take_append_of_le_length (by simp only [List.length_append, List.length_take, hvd]; omega), List.take_of_length_le (by simp only [List.length_append, List.length_take, hvd]; omega)]
  rw [e2, List.append_assoc] at r4
  have hfes : (es.take i ++ es.drop (i + 1)).flatten = es.flatten.take (i * 14) ++ es.flatten.drop ((i + 1) * 14) := by
    rw [List.flatten_append, flat_take i hz, flat_drop (i + 1) hz]
  have hjl : j < σ.objs.length := (List.getElem?_eq_some_iff.1 ho).1
  refine row_set (n0 := es.length) (n := es.length - 1) (cap := cap) (es := es.take i ++ es.drop (i + 1)) hinv hb hjl (((But.drew w).some _).trans (b1.trans b2)) r3 (vs := vs.take (i * 14) ++ vs.drop ((i + 1) * 14)) (fun q v hq => eq_prefix r4 q v hq) (by rw [hfes]; exact k3.take.append k3.drop) (fun v hv => ?_) ⟨by rw [hs2]; exact k4.1, k4.2⟩ k6 (fun y hy => ?_) (by simp only [List.length_append, List.length_take, List.length_drop]; omega) (by omega) ?_
  · rcases List.mem_append.1 hv with hv | hv
    · exact k7 v (List.mem_of_mem_take hv)
    · exact k7 v (List.mem_of_mem_drop hv)
  · rcases List.mem_append.1 hy with hy | hy
    · exact hz y (List.mem_of_mem_take hy)
    · exact hz y (List.mem_of_mem_drop hy)
  · rw [hfes]; simp only [List.length_append, List.length_take, List.length_drop, hfl]; omega
end
end Go.VL

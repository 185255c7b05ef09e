/- The V-logic, part 9: equality; operations that only compute. -/
import Derived.Test.YtefbofjonjdebaaVh
import Derived.Laws.StructEq
set_option linter.unusedVariables false
set_option linter.unusedSimpArgs false
namespace Go.VL
open Go

theorem fits_length : ∀ {lv : List LK} {a : List V}, fits lv a = true → lv.length = a.length
  | [], [], _ => rfl
  | [], _ :: _, h => by simp [fits] at h
  | _ :: _, [], h => by simp [fits] at h
  | _ :: r, _ :: t, h => by
    simp only [fits, Bool.and_eq_true] at h
    simp [fits_length h.2]
theorem fits_append : ∀ {l1 l2 : List LK} {a : List V}, fits (l1 ++ l2) a = true → fits l1 (a.take l1.length) = true ∧ fits l2 (a.drop l1.length) = true
  | [], _, _, h => by simpa [fits] using h
  | k :: r, l2, [], h => by simp [fits] at h
  | k :: r, l2, x :: t, h => by
    simp only [List.cons_append, fits, Bool.and_eq_true] at h
    have := fits_append h.2
    simp only [List.length_cons, List.take_succ_cons, List.drop_succ_cons, fits, Bool.and_eq_true]
    exact ⟨⟨h.1, this.1⟩, this.2⟩
theorem eqs_append : ∀ {a b c d : List V}, a.length = b.length → V.eqs (a ++ c) (b ++ d) = (V.eqs a b && V.eqs c d)
  | [], [], _, _, _ => by simp [V.eqs]
  | [], _ :: _, _, _, h => by simp at h
  | _ :: _, [], _, _, h => by simp at h
  | x :: a, y :: b, c, d, h => by
    simp only [List.cons_append, V.eqs]
    rw [eqs_append (by simpa using h), Bool.and_assoc]

section
variable {P : Program} {γ : G}

/-- A value out of its cells. -/
def pack (P : Program) (t : TypeId) (vs : List Value) : Value := match aggOf P t with
  | some true => .agg vs.toArray
  | _ => vs.headD undef

theorem run_part {w : World} {t : TypeId} {s off : Nat} {g : Bool} {xs : Array Value} (hs : szOf P t = some s) (hg : aggOf P t = some g) (h0 : 0 < s) (hl : off + s ≤ xs.size) :
    (part t xs off).run P w = .ok (pack P t ((xs.toList.drop off).take s)) w := by
  cases g with
  | true =>
    simp only [part, Sem.run_bind, run_isAgg hg, Result.andThen_ok, if_true, run_sizeOf hs, pack, hg, Sem.run_pure]
    congr 2
    apply Array.ext'
    simp only [Array.toList_extract]
    rw [List.extract_eq_take_drop]
    congr 1
    omega
  | false =>
    have hlt : off < xs.size := by omega
    simp only [part, Sem.run_bind, run_isAgg hg, Result.andThen_ok, Bool.false_eq_true, if_false, Array.getElem?_eq_getElem hlt, pack, hg, Sem.run_pure]
    congr 1
    obtain ⟨n, rfl⟩ : ∃ n, s = n + 1 := ⟨s - 1, by omega⟩
    rw [List.drop_eq_getElem_cons (by simpa using hlt), List.take_succ_cons]
    simp

theorem aggOf_some {t : TypeId} {u : TypeDesc} (h : P.underlying t = some u) : ∃ g, aggOf P t = some g := by
  unfold aggOf; rw [h]; cases u <;> simp

theorem leaves_agg {n : Nat} {t : TypeId} {lv : List LK} (h : leaves P n t = some lv) : ∃ g, aggOf P t = some g := by
  cases n with
  | zero => simp [leaves] at h
  | succ n =>
    simp only [leaves] at h
    cases hu : P.underlying t with
    | none => simp [hu] at h
    | some u => exact aggOf_some hu

theorem fits_one {k : LK} {a : List V} (h : fits [k] a = true) : ∃ x, a = [x] ∧ k.fits x = true := by
  cases a with
  | nil => simp [fits] at h
  | cons x t =>
    cases t with
    | nil => exact ⟨x, rfl, by simpa [fits] using h⟩
    | cons y t => simp [fits] at h

mutual
theorem eq_leaves (w : World) : ∀ (n : Nat) (t : TypeId) (lv : List LK), leaves P n t = some lv → ∀ (d : Nat), n ≤ d → ∀ (a b : List V) (vs us : List Value),
    fits lv a = true → fits lv b = true → RepL γ a vs → RepL γ b us → (Op.equalIn d t (pack P t vs) (pack P t us)).run P w = .ok (V.eqs a b) w
  | 0, _, _, h => by simp [leaves] at h
  | n + 1, t, lv, h => by
    intro d hd a b vs us fa fb ra rb
    obtain ⟨d, rfl⟩ : ∃ e, d = e + 1 := ⟨d - 1, by omega⟩
    simp only [leaves] at h
    cases hu : P.underlying t with
    | none => simp [hu] at h
    | some u =>
      rw [hu] at h
      cases u with
      | int k =>
        simp only [Option.some.injEq] at h
        subst h
        obtain ⟨x, rfl, hx⟩ := fits_one fa
        obtain ⟨y, rfl, hy⟩ := fits_one fb
        have hag : aggOf P t = some false := by simp [aggOf, hu]
        cases x <;> simp only [LK.fits, Bool.false_eq_true] at hx
        cases y <;> simp only [LK.fits, Bool.false_eq_true] at hy
        simp only [decide_eq_true_eq] at hx hy
        subst hx; subst hy
        simp only [RepL, Rep] at ra rb
        obtain ⟨_, _, rfl, rfl, rfl⟩ := ra
        obtain ⟨_, _, rfl, rfl, rfl⟩ := rb
        simp only [pack, hag, List.headD_cons, V.eqs, V.eq]
        rw [run_equalIn_int w d t _ _ _ _ hu, beqI]
        simp
      | bool =>
        simp only [Option.some.injEq] at h
        subst h
        obtain ⟨x, rfl, hx⟩ := fits_one fa
        obtain ⟨y, rfl, hy⟩ := fits_one fb
        have hag : aggOf P t = some false := by simp [aggOf, hu]
        cases x <;> simp only [LK.fits, Bool.false_eq_true] at hx
        cases y <;> simp only [LK.fits, Bool.false_eq_true] at hy
        simp only [RepL, Rep] at ra rb
        obtain ⟨_, _, rfl, rfl, rfl⟩ := ra
        obtain ⟨_, _, rfl, rfl, rfl⟩ := rb
        simp only [pack, hag, List.headD_cons, V.eqs, V.eq]
        rw [run_equalIn_bool' w d t _ _ hu]
        simp
      | string =>
        simp only [Option.some.injEq] at h
        subst h
        obtain ⟨x, rfl, hx⟩ := fits_one fa
        obtain ⟨y, rfl, hy⟩ := fits_one fb
        have hag : aggOf P t = some false := by simp [aggOf, hu]
        cases x <;> simp only [LK.fits, Bool.false_eq_true] at hx
        cases y <;> simp only [LK.fits, Bool.false_eq_true] at hy
        simp only [RepL, Rep] at ra rb
        obtain ⟨_, _, rfl, rfl, rfl⟩ := ra
        obtain ⟨_, _, rfl, rfl, rfl⟩ := rb
        simp only [pack, hag, List.headD_cons, V.eqs, V.eq]
        rw [run_equalIn_string w d t _ _ hu, toList_mk, toList_mk]
        simp
      | struct fs =>
        have hag : aggOf P t = some true := by simp [aggOf, hu]
        simp only at h
        split at h
        · simp at h
        · rename_i hst
          simp only [Bool.not_eq_true] at hst
          have hfs : P.underlying t = some (.struct (P.fieldsOf t)) := by simp [Program.fieldsOf, hu]
          have hfe : P.fieldsOf t = fs := by simp [Program.fieldsOf, hu]
          simp only [pack, hag]
          rw [run_equalIn_struct w d t _ _ hfs hst, hfe]
          have la := fits_length fa
          have lb := fits_length fb
          have l1 := ra.length
          have l2 := rb.length
          exact eq_leavesF w n 0 fs.toList lv h d (by omega) a b _ _ fa fb (by rw [List.drop_zero, la, l1, List.take_length]; exact ra) (by rw [List.drop_zero, lb, l2, List.take_length]; exact rb) (by simp; omega) (by simp; omega)
      | _ => simp at h
theorem eq_leavesF (w : World) : ∀ (n off : Nat) (fs : List Field) (lv : List LK), leavesF P n off fs = some lv → ∀ (d : Nat), n ≤ d → ∀ (a b : List V) (xs ys : Array Value),
    fits lv a = true → fits lv b = true → RepL γ a ((xs.toList.drop off).take lv.length) → RepL γ b ((ys.toList.drop off).take lv.length) → off + lv.length ≤ xs.size → off + lv.length ≤ ys.size →
    (Op.eqFields d xs ys fs).run P w = .ok (V.eqs a b) w
  | n, off, [], lv, h => by
    intro d _ a b xs ys fa fb _ _ _ _
    have : lv = [] := by cases n <;> simpa [leavesF] using h.symm
    subst this
    cases a <;> cases b <;> simp_all [fits, Op.eqFields, V.eqs]
  | 0, _, _ :: _, _, h => by simp [leavesF] at h
  | n + 1, off, f :: r, lv, h => by
    intro d hd a b xs ys fa fb ra rb hx hy
    simp only [leavesF] at h
    split at h
    · simp at h
    · rename_i hc
      simp only [Bool.or_eq_true, decide_eq_true_eq, not_or, ne_eq, Decidable.not_not] at hc
      obtain ⟨hn, ho⟩ := hc
      split at h
      · rename_i l1 s h1 h2
        split at h
        · simp at h
        · rename_i hls
          simp only [ne_eq, Decidable.not_not] at hls
          split at h
          · simp at h
          rename_i hs0
          have h0 : 0 < s := by omega
          simp only [Option.map_eq_some_iff] at h
          obtain ⟨l2, h3, rfl⟩ := h
          obtain ⟨g, hg⟩ := leaves_agg h1
          obtain ⟨f1, f2⟩ := fits_append fa
          obtain ⟨g1, g2⟩ := fits_append fb
          have la := fits_length fa
          have lb := fits_length fb
          simp only [List.length_append] at hx hy ra rb la lb
          have p1 := run_part (P := P) (w := w) h2 hg h0 (xs := xs) (off := off) (by omega)
          have p2 := run_part (P := P) (w := w) h2 hg h0 (xs := ys) (off := off) (by omega)
          have e1 := eq_leaves w n f.type l1 h1 d (by omega) (a.take l1.length) (b.take l1.length) _ _ f1 g1
            (by have := ra.take (n := l1.length); rw [List.take_take, show min l1.length (l1.length + l2.length) = s from by omega] at this; exact this)
            (by have := rb.take (n := l1.length); rw [List.take_take, show min l1.length (l1.length + l2.length) = s from by omega] at this; exact this)
          have e2 := eq_leavesF w n (off + s) r l2 h3 d (by omega) (a.drop l1.length) (b.drop l1.length) xs ys f2 g2
            (by have := ra.drop (n := l1.length); rw [List.drop_take, List.drop_drop, show l1.length + l2.length - l1.length = l2.length from by omega, hls] at this; rwa [hls])
            (by have := rb.drop (n := l1.length); rw [List.drop_take, List.drop_drop, show l1.length + l2.length - l1.length = l2.length from by omega, hls] at this; rwa [hls])
            (by omega) (by omega)
          have ea : V.eqs a b = (V.eqs (a.take l1.length) (b.take l1.length) && V.eqs (a.drop l1.length) (b.drop l1.length)) := by
            rw [← eqs_append (by simp; omega), List.take_append_drop, List.take_append_drop]
          simp only [Op.eqFields, ne_eq, hn, not_false_eq_true, if_true, Sem.run_bind, ho, p1, p2, Result.andThen_ok, e1, Sem.run_ite]
          rw [ea]
          cases V.eqs (a.take l1.length) (b.take l1.length) with
          | true => simp [e2]
          | false => simp
      · simp at h
end
end
end Go.VL

/- The V-logic, part 16b: maps. -/
import Derived.Test.YtefbofjonjdebaaVpa
import Derived.MapKept
import Derived.Maps.RangeRun
set_option linter.unusedVariables false
set_option linter.unusedSimpArgs false
namespace Go.VL
open Go

/-- Where a key stands. -/
def findI (k : V) : List (V × V) → Nat → Option (Nat × V)
  | [], _ => none
  | p :: r, i => bif V.eq k p.1 then some (i, p.2) else findI k r (i + 1)

theorem findI_find (k : V) : ∀ (es : List (V × V)) (i : Nat), find k es = (findI k es i).map (·.2)
  | [], _ => rfl
  | p :: r, i => by
    simp only [find, findI]
    cases V.eq k p.1 with
    | true => rfl
    | false => exact findI_find k r (i + 1)
theorem findI_shift (k : V) : ∀ (es : List (V × V)) (i : Nat), findI k es i = (findI k es 0).map fun x => (x.1 + i, x.2)
  | [], _ => rfl
  | p :: r, i => by
    simp only [findI]
    cases V.eq k p.1 with
    | true => simp
    | false =>
      simp only [cond_false]
      rw [findI_shift k r (i + 1), findI_shift k r 1]
      cases findI k r 0 with
      | none => rfl
      | some x => simp; omega
theorem upd_findI (k v : V) : ∀ (es : List (V × V)), upd k v es = match findI k es 0 with
    | some x => es.set x.1 (k, v)
    | none => es ++ [(k, v)]
  | [] => rfl
  | p :: r => by
    simp only [upd, findI]
    cases V.eq k p.1 with
    | true => rfl
    | false =>
      simp only [cond_false]
      rw [upd_findI k v r, findI_shift k r 1]
      cases findI k r 0 with
      | none => rfl
      | some x => rfl
theorem del_findI (k : V) : ∀ (es : List (V × V)), del k es = match findI k es 0 with
    | some x => es.eraseIdx x.1
    | none => es
  | [] => rfl
  | p :: r => by
    simp only [del, findI]
    cases V.eq k p.1 with
    | true => rfl
    | false =>
      simp only [cond_false]
      rw [del_findI k r, findI_shift k r 1]
      cases findI k r 0 with
      | none => rfl
      | some x => rfl

theorem findI_ge {k : V} : ∀ (es : List (V × V)) (i : Nat) {q : Nat × V}, findI k es i = some q → i ≤ q.1
  | [], _, _, h => by simp [findI] at h
  | p :: r, i, q, h => by
    simp only [findI] at h
    cases he : V.eq k p.1 with
    | true =>
      simp only [he, cond_true, Option.some.injEq] at h
      subst h
      exact Nat.le_refl _
    | false =>
      simp only [he, cond_false] at h
      have := findI_ge r (i + 1) h
      omega
theorem findI_eq {k : V} : ∀ (es : List (V × V)) (i : Nat) {q : Nat × V} {p : V × V}, findI k es i = some q → es[q.1 - i]? = some p → V.eq k p.1 = true
  | [], _, _, _, h, _ => by simp [findI] at h
  | p :: r, i, q, p', h, hp => by
    simp only [findI] at h
    cases he : V.eq k p.1 with
    | true =>
      simp only [he, cond_true, Option.some.injEq] at h
      subst h
      simp only [Nat.sub_self, List.getElem?_cons_zero, Option.some.injEq] at hp
      subst hp
      exact he
    | false =>
      simp only [he, cond_false] at h
      have hlt : i + 1 ≤ q.1 := findI_ge r (i + 1) h
      rw [show q.1 - i = (q.1 - (i + 1)) + 1 from by omega, List.getElem?_cons_succ] at hp
      exact findI_eq r (i + 1) h hp
theorem findI_get {k : V} : ∀ (es : List (V × V)) (i : Nat) {q : Nat × V}, findI k es i = some q → ∃ k', es[q.1 - i]? = some (k', q.2)
  | [], _, _, h => by simp [findI] at h
  | p :: r, i, q, h => by
    simp only [findI] at h
    cases he : V.eq k p.1 with
    | true =>
      simp only [he, cond_true, Option.some.injEq] at h
      subst h
      exact ⟨p.1, by simp⟩
    | false =>
      simp only [he, cond_false] at h
      obtain ⟨k', hk⟩ := findI_get r (i + 1) h
      have hlt : i + 1 ≤ q.1 := findI_ge r (i + 1) h
      exact ⟨k', by rw [show q.1 - i = (q.1 - (i + 1)) + 1 from by omega]; simpa using hk⟩
section
variable {P : Program} {γ γ' : G} {σ : St} {F : Fr} {a : Act} {w : World} {lam : Nat → Nat} {o : Oper} {K : Fr → St → Prop}

mutual
/-- Equal leaves are one value. -/
theorem eq_same : ∀ (x y : V) (u v : Value) (l : LK), l.fits x = true → l.fits y = true → V.eq x y = true → Rep γ x u → Rep γ y v → u = v
  | .int k n, y, u, v, l, hx, hy, he, ru, rv => by
    cases y <;> simp only [V.eq, Bool.false_eq_true] at he
    simp only [Bool.and_eq_true, decide_eq_true_eq] at he
    simp only [Rep] at ru rv
    rw [ru, rv, he.1, he.2]
  | .bool b, y, u, v, l, hx, hy, he, ru, rv => by
    cases y <;> simp only [V.eq, Bool.false_eq_true] at he
    simp only [beq_iff_eq] at he
    simp only [Rep] at ru rv
    rw [ru, rv, he]
  | .str s, y, u, v, l, hx, hy, he, ru, rv => by
    cases y <;> simp only [V.eq, Bool.false_eq_true] at he
    simp only [beq_iff_eq] at he
    simp only [Rep] at ru rv
    rw [ru, rv, he]
  | .agg _, y, u, v, l, hx, hy, he, ru, rv => by cases l <;> simp [LK.fits] at hx
  | .tup _, y, u, v, l, hx, hy, he, ru, rv => by cases l <;> simp [LK.fits] at hx
  | .sl _ _ _ _, y, u, v, l, hx, hy, he, ru, rv => by cases l <;> simp [LK.fits] at hx
  | .ptr _, y, u, v, l, hx, hy, he, ru, rv => by cases l <;> simp [LK.fits] at hx
  | .elt _ _ _ _ _, y, u, v, l, hx, hy, he, ru, rv => by cases l <;> simp [LK.fits] at hx
  | .map _, y, u, v, l, hx, hy, he, ru, rv => by cases l <;> simp [LK.fits] at hx
  | .fn _ _, y, u, v, l, hx, hy, he, ru, rv => by cases l <;> simp [LK.fits] at hx
  | .nilf, y, u, v, l, hx, hy, he, ru, rv => by cases l <;> simp [LK.fits] at hx
  | .raw _, y, u, v, l, hx, hy, he, ru, rv => by cases l <;> simp [LK.fits] at hx
  | .bad, y, u, v, l, hx, hy, he, ru, rv => by cases l <;> simp [LK.fits] at hx
end
theorem eqs_same : ∀ (lv : List LK) (xs ys : List V) (us vs : List Value), fits lv xs = true → fits lv ys = true → V.eqs xs ys = true → RepL γ xs us → RepL γ ys vs → us = vs
  | [], [], [], us, vs, _, _, _, ru, rv => by simp only [RepL] at ru rv; rw [ru, rv]
  | [], _ :: _, _, _, _, h, _, _, _, _ => by simp [fits] at h
  | [], [], _ :: _, _, _, _, h, _, _, _ => by simp [fits] at h
  | _ :: _, [], _, _, _, h, _, _, _, _ => by simp [fits] at h
  | _ :: _, _ :: _, [], _, _, _, h, _, _, _ => by simp [fits] at h
  | l :: lv, x :: xs, y :: ys, us, vs, hx, hy, he, ru, rv => by
    simp only [fits, Bool.and_eq_true] at hx hy
    simp only [V.eqs, Bool.and_eq_true] at he
    simp only [RepL] at ru rv
    obtain ⟨u, us, rfl, r1, r2⟩ := ru
    obtain ⟨v, vs, rfl, s1, s2⟩ := rv
    rw [eq_same x y u v l hx.1 hy.1 he.1 r1 s1, eqs_same lv xs ys us vs hx.2 hy.2 he.2 r2 s2]

/-- A leaf's value. -/
theorem leaf_bits {l : LK} {x : V} {v : Value} (hf : l.fits x = true) (hr : Rep γ x v) (n : Nat) : Instr.sameBits n v v = true := by
  cases x <;> cases l <;> simp only [LK.fits, Bool.false_eq_true] at hf <;> simp only [Rep] at hr <;> subst hr <;> cases n <;> simp [Instr.sameBits, MapKept.bytes_beq]

theorem run_keyStays {old new : Value} (h : Instr.sameBits 10000 old new = true) : (Instr.keyThatStays old new).run P w = .ok new w := by
  simp [Instr.keyThatStays, h]

/-- A key: its leaves, its type. -/
theorem key_cases {kt : TypeId} {lv : List LK} (hl : leavesK P kt = some lv) {k : V} (hk : keyFits lv k = true) {kv : Value} (hr : Rep γ k kv) :
    ∃ l cs vs, leaves P 20 kt = some l ∧ fits l cs = true ∧ RepL γ cs vs ∧ kv = pack P kt vs ∧
      ((aggOf P kt = some true ∧ lv = .agg :: l ∧ k = .agg cs) ∨ (aggOf P kt = some false ∧ lv = l ∧ cs = [k] ∧ (∀ x, k ≠ .agg x) ∧ vs = [kv])) := by
  unfold leavesK at hl
  split at hl
  · rename_i l h1 h2
    cases hl
    cases k <;> simp only [keyFits, Bool.false_eq_true] at hk
    rename_i cs
    simp only [Rep] at hr
    obtain ⟨vs, rfl, hr⟩ := hr
    exact ⟨l, cs, vs, h1, hk, hr, by simp [pack, h2], .inl ⟨h2, rfl, rfl⟩⟩
  · rename_i l h1 h2
    cases hl
    have hna : ∀ (r : List LK), lv ≠ .agg :: r := by
      intro r e
      subst e
      simp only [leaves] at h1
      cases hu : P.underlying kt with
      | none => simp [hu] at h1
      | some u =>
        rw [hu] at h1
        cases u <;> simp at h1
        simp [aggOf, hu] at h2
    have hk' : (∀ x, k ≠ .agg x) ∧ fits lv [k] = true := by
      cases lv with
      | nil => cases k <;> simp [keyFits, fits] at hk
      | cons l r =>
        cases l with
        | agg => exact absurd rfl (hna r)
        | _ => cases k <;> simp_all [keyFits]
    exact ⟨lv, [k], [kv], h1, hk'.2, by simp only [RepL]; exact ⟨kv, [], rfl, hr, rfl⟩, by simp [pack, h2], .inr ⟨h2, rfl, rfl, hk'.1, rfl⟩⟩
  · cases hl

theorem keys_same {kt : TypeId} {lv : List LK} (hl : leavesK P kt = some lv) {k x : V} (hk : keyFits lv k = true) (hx : keyFits lv x = true) {kv xv : Value} (hr : Rep γ k kv) (hs : Rep γ x xv) (he : V.eq k x = true) : kv = xv := by
  obtain ⟨l, cs, vs, h1, h2, h3, h4, h5⟩ := key_cases hl hk hr
  obtain ⟨l', cs', vs', g1, g2, g3, g4, g5⟩ := key_cases hl hx hs
  rw [h1] at g1
  cases g1
  have : V.eqs cs cs' = true := by
    rcases h5 with ⟨a1, a2, rfl⟩ | ⟨a1, a2, rfl, _, _⟩ <;> rcases g5 with ⟨b1, b2, rfl⟩ | ⟨b1, b2, rfl, _, _⟩
    · simpa [V.eq] using he
    · rw [a1] at b1; cases b1
    · rw [a1] at b1; cases b1
    · simpa [V.eqs] using he
  rw [h4, g4, eqs_same l cs cs' vs vs' h2 g2 this h3 g3]

theorem key_bits {kt : TypeId} {lv : List LK} (hl : leavesK P kt = some lv) {k : V} (hk : keyFits lv k = true) {kv : Value} (hr : Rep γ k kv) : Instr.sameBits 10000 kv kv = true := by
  obtain ⟨l, cs, vs, h1, h2, h3, h4, h5⟩ := key_cases hl hk hr
  have each : ∀ (n : Nat) (l : List LK) (cs : List V) (vs : List Value), fits l cs = true → RepL γ cs vs → (vs.zip vs).all (fun x => Instr.sameBits n x.1 x.2) = true := by
    intro n l
    induction l with
    | nil =>
      intro cs vs hf hr
      cases cs with
      | nil => simp only [RepL] at hr; subst hr; rfl
      | cons _ _ => simp [fits] at hf
    | cons l r ih =>
      intro cs vs hf hr
      cases cs with
      | nil => simp [fits] at hf
      | cons c cs =>
        simp only [fits, Bool.and_eq_true] at hf
        simp only [RepL] at hr
        obtain ⟨v, vs, rfl, r1, r2⟩ := hr
        simp only [List.zip_cons_cons, List.all_cons, Bool.and_eq_true]
        exact ⟨leaf_bits hf.1 r1 n, ih cs vs hf.2 r2⟩
  rcases h5 with ⟨a1, _, _⟩ | ⟨_, rfl, rfl, _, rfl⟩
  · have : kv = .agg vs.toArray := by rw [h4]; simp [pack, a1]
    subst this
    rw [show (10000 : Nat) = 9999 + 1 from rfl, Instr.sameBits]
    simp only [beq_self_eq_true, Bool.true_and]
    exact each 9999 l cs vs h2 h3
  · have := fits_one (k := lv.headD .agg) (a := [k]) (by
      cases lv with
      | nil => simp [fits] at h2
      | cons l r =>
        cases r with
        | nil => exact h2
        | cons _ _ => simp [fits] at h2)
    obtain ⟨x, hx, hf⟩ := this
    simp only [List.cons.injEq, and_true] at hx
    subst hx
    exact leaf_bits hf hr _

/-- Two keys, asked of. -/
theorem run_keyEq {kt : TypeId} {lv : List LK} (hl : leavesK P kt = some lv) {k x : V} (hk : keyFits lv k = true) (hx : keyFits lv x = true) {kv xv : Value} (hr : Rep γ k kv) (hs : Rep γ x xv) :
    (Op.equal kt kv xv).run P w = .ok (V.eq k x) w := by
  obtain ⟨l, cs, vs, h1, h2, h3, h4, h5⟩ := key_cases hl hk hr
  obtain ⟨l', cs', vs', g1, g2, g3, g4, g5⟩ := key_cases hl hx hs
  rw [h1] at g1
  cases g1
  have he : V.eqs cs cs' = V.eq k x := by
    rcases h5 with ⟨a1, a2, rfl⟩ | ⟨a1, a2, rfl, _, _⟩ <;> rcases g5 with ⟨b1, b2, rfl⟩ | ⟨b1, b2, rfl, _, _⟩
    · simp [V.eq]
    · rw [a1] at b1; cases b1
    · rw [a1] at b1; cases b1
    · simp [V.eqs]
  rw [h4, g4, ← he, Op.equal]
  exact eq_leaves w 20 kt l h1 _ (by decide) cs cs' vs vs' h2 g2 h3 g3

mutual
theorem check_leaves (w : World) (em : Bool) : ∀ (n : Nat) (t : TypeId) (lv : List LK), leaves P n t = some lv → ∀ (d : Nat), n ≤ d → ∀ (a : List V) (vs : List Value),
    fits lv a = true → RepL γ a vs → (Instr.checkKey em d t (pack P t vs)).run P w = .ok () w
  | 0, _, _, h => by simp [leaves] at h
  | n + 1, t, lv, h => by
    intro d hd a vs fa ra
    obtain ⟨d, rfl⟩ : ∃ e, d = e + 1 := ⟨d - 1, by omega⟩
    simp only [leaves] at h
    cases hu : P.underlying t with
    | none => simp [hu] at h
    | some u =>
      rw [hu] at h
      cases u with
      | int k =>
        simp only [Option.some.injEq] at h
        subst h
        obtain ⟨x, rfl, hx⟩ := fits_one fa
        have hag : aggOf P t = some false := by simp [aggOf, hu]
        cases x <;> simp only [LK.fits, Bool.false_eq_true] at hx
        simp only [RepL, Rep] at ra
        obtain ⟨_, _, rfl, rfl, rfl⟩ := ra
        simp [pack, hag, Instr.checkKey, run_underlying hu]
      | bool =>
        simp only [Option.some.injEq] at h
        subst h
        obtain ⟨x, rfl, hx⟩ := fits_one fa
        have hag : aggOf P t = some false := by simp [aggOf, hu]
        cases x <;> simp only [LK.fits, Bool.false_eq_true] at hx
        simp only [RepL, Rep] at ra
        obtain ⟨_, _, rfl, rfl, rfl⟩ := ra
        simp [pack, hag, Instr.checkKey, run_underlying hu]
      | string =>
        simp only [Option.some.injEq] at h
        subst h
        obtain ⟨x, rfl, hx⟩ := fits_one fa
        have hag : aggOf P t = some false := by simp [aggOf, hu]
        cases x <;> simp only [LK.fits, Bool.false_eq_true] at hx
        simp only [RepL, Rep] at ra
        obtain ⟨_, _, rfl, rfl, rfl⟩ := ra
        simp [pack, hag, Instr.checkKey, run_underlying hu]
      | struct fs =>
        have hag : aggOf P t = some true := by simp [aggOf, hu]
        simp only at h
        split at h
        · simp at h
        · have l1 := fits_length fa
          have l2 := ra.length
          simp only [pack, hag, Instr.checkKey, Sem.run_bind, run_underlying hu, Result.andThen_ok]
          rw [← Array.forIn_toList]
          rw [check_leavesF w em n 0 fs.toList lv h d (by omega) a vs.toArray fa (by rw [List.drop_zero, l1, l2, List.take_length]; exact ra) (by simp; omega)]
          simp
      | _ => simp at h
theorem check_leavesF (w : World) (em : Bool) : ∀ (n off : Nat) (fs : List Field) (lv : List LK), leavesF P n off fs = some lv → ∀ (d : Nat), n ≤ d → ∀ (a : List V) (xs : Array Value),
    fits lv a = true → RepL γ a ((xs.toList.drop off).take lv.length) → off + lv.length ≤ xs.size →
    ((forIn (m := Sem) fs PUnit.unit fun f _ =>
      if f.name ≠ "_" then do
        let v ← part f.type xs f.offset
        Instr.checkKey em d f.type v
        pure (ForInStep.yield PUnit.unit)
      else pure (ForInStep.yield PUnit.unit)) : Sem PUnit).run P w = .ok () w
  | n, off, [], lv, h => by
    intro d _ a xs _ _ _
    simp
  | 0, _, _ :: _, _, h => by simp [leavesF] at h
  | n + 1, off, f :: r, lv, h => by
    intro d hd a xs fa ra hx
    simp only [leavesF] at h
    split at h
    · simp at h
    · rename_i hc
      simp only [Bool.or_eq_true, decide_eq_true_eq, not_or, ne_eq, Decidable.not_not] at hc
      obtain ⟨hn, ho⟩ := hc
      split at h
      · rename_i l1 s h1 h2
        split at h
        · simp at h
        · rename_i hls
          simp only [ne_eq, Decidable.not_not] at hls
          split at h
          · simp at h
          rename_i hs0
          have h0 : 0 < s := by omega
          simp only [Option.map_eq_some_iff] at h
          obtain ⟨l2, h3, rfl⟩ := h
          obtain ⟨g, hg⟩ := leaves_agg h1
          obtain ⟨f1, f2⟩ := fits_append fa
          simp only [List.length_append] at hx ra
          have p1 := run_part (P := P) (w := w) h2 hg h0 (xs := xs) (off := off) (by omega)
          have e1 := check_leaves w em n f.type l1 h1 d (by omega) (a.take l1.length) _ f1
            (by have := ra.take (n := l1.length); rw [List.take_take, show min l1.length (l1.length + l2.length) = s from by omega] at this; exact this)
          have e2 := check_leavesF w em n (off + s) r l2 h3 d (by omega) (a.drop l1.length) xs f2
            (by have := ra.drop (n := l1.length); rw [List.drop_take, List.drop_drop, show l1.length + l2.length - l1.length = l2.length from by omega, hls] at this; rwa [hls])
            (by omega)
          simp only [List.forIn_cons, Sem.run_bind, ne_eq, hn, not_false_eq_true, if_true, ho, p1, Result.andThen_ok, e1, Sem.run_pure]
          exact e2
      · simp at h
end

theorem run_check {kt : TypeId} {lv : List LK} (hl : leavesK P kt = some lv) {k : V} (hk : keyFits lv k = true) {kv : Value} (hr : Rep γ k kv) (em : Bool) : (Instr.checkKey em 10000 kt kv).run P w = .ok () w := by
  obtain ⟨l, cs, vs, h1, h2, h3, h4, _⟩ := key_cases hl hk hr
  rw [h4]
  exact check_leaves w em 20 kt l h1 10000 (by decide) cs vs h2 h3

/-- Where a key is found. -/
def FoundAt (ents : List MapEntry) (i0 : Nat) : Option (Nat × V) → Option (Nat × Value) → Prop
  | none, r => r = none
  | some (i, _), r => ∃ e, ents[i - i0]? = some e ∧ i0 ≤ i ∧ r = some (i, e.val)

theorem run_asking {kt : TypeId} {lv : List LK} (hl : leavesK P kt = some lv) {k : V} (hk : keyFits lv k = true) {kv : Value} (hr : Rep γ k kv) : ∀ (es : List (V × V)) (ents : List MapEntry) (i : Nat), RepM γ lv es ents →
    ∃ r, (Instr.findAsking kt kv ents i).run P w = .ok r w ∧ FoundAt ents i (findI k es i) r
  | [], ents, i, h => by
    simp only [RepM] at h
    subst h
    exact ⟨none, by simp [Instr.findAsking], rfl⟩
  | p :: es, ents, i, h => by
    obtain ⟨e, t, rfl, h1, h2, h3, h4⟩ := h
    have he := run_keyEq (w := w) hl hk h1 hr h2
    simp only [findI]
    cases hq : V.eq k p.1 with
    | true =>
      rw [hq] at he
      exact ⟨some (i, e.val), by simp [Instr.findAsking, he], e, by simp, Nat.le_refl _, rfl⟩
    | false =>
      rw [hq] at he
      obtain ⟨r, h5, h6⟩ := run_asking hl hk hr es t (i + 1) h4
      refine ⟨r, by simp [Instr.findAsking, he, h5], ?_⟩
      simp only [cond_false]
      revert h6
      cases findI k es (i + 1) with
      | none => exact id
      | some x =>
        rintro ⟨e', g1, g2, g3⟩
        refine ⟨e', ?_, by omega, g3⟩
        rw [show x.1 - i = (x.1 - (i + 1)) + 1 from by omega]
        simpa using g1

theorem now_equal {kt : TypeId} {u : TypeDesc} {x y : Value} {b : Bool} (hu : P.underlying kt = some u) (hs : Instr.sameNow u x y = some b) : (Op.equal kt x y).run P w = .ok b w := by
  unfold Instr.sameNow at hs
  split at hs
  · split at hs
    · rename_i hkk
      simp only [Option.some.injEq] at hs
      subst hs hkk
      rw [Op.equal, maxDepth_succ, run_equalIn_int w _ _ _ _ _ _ hu]
    · cases hs
  · simp only [Option.some.injEq] at hs
    subst hs
    rw [Op.equal, maxDepth_succ, run_equalIn_string w _ _ _ _ hu]
    rename_i a b
    congr 1
    rw [Bool.eq_iff_iff, MapKept.bytes_beq, beq_iff_eq]
    refine ⟨fun h => ?_, fun h => by rw [h]⟩
    have e : ∀ c : ByteArray, c.toList = c.data.toList := fun c => by
      have := toList_mk c.data.toList
      simpa using this
    rw [e, e] at h
    exact WideShapes.bytes_inj h
  · simp only [Option.some.injEq] at hs
    subst hs
    rw [Op.equal, maxDepth_succ, run_equalIn_bool' w _ _ _ _ hu]
  · cases hs

theorem now_asking {kt : TypeId} {lv : List LK} (hl : leavesK P kt = some lv) {k : V} (hk : keyFits lv k = true) {kv : Value} (hr : Rep γ k kv) {u : TypeDesc} (hu : P.underlying kt = some u) : ∀ (es : List (V × V)) (ents : List MapEntry) (i : Nat), RepM γ lv es ents →
    (Instr.findNow u kv ents i = none) ∨ ∃ r, Instr.findNow u kv ents i = some r ∧ (Instr.findAsking kt kv ents i).run P w = .ok r w
  | [], ents, i, h => by
    simp only [RepM] at h
    subst h
    exact .inr ⟨none, rfl, by simp [Instr.findAsking]⟩
  | p :: es, ents, i, h => by
    obtain ⟨e, t, rfl, h1, h2, h3, h4⟩ := h
    have he := run_keyEq (w := w) hl hk h1 hr h2
    simp only [Instr.findNow]
    cases hs : Instr.sameNow u kv e.key with
    | none => exact .inl rfl
    | some b =>
      have hb : b = V.eq k p.1 := by
        have := now_equal (w := w) hu hs
        rw [he] at this
        cases this
        rfl
      cases hq : b with
      | true =>
        rw [← hb, hq] at he
        exact .inr ⟨some (i, e.val), rfl, by simp [Instr.findAsking, he]⟩
      | false =>
        rw [← hb, hq] at he
        rcases now_asking hl hk hr hu es t (i + 1) h4 with h5 | ⟨r, h5, h6⟩
        · exact .inl h5
        · exact .inr ⟨r, h5, by simp [Instr.findAsking, he, h6]⟩

theorem run_find {kt : TypeId} {lv : List LK} (hl : leavesK P kt = some lv) {k : V} (hk : keyFits lv k = true) {kv : Value} (hr : Rep γ k kv) {es : List (V × V)} {ents : List MapEntry} (h : RepM γ lv es ents) :
    ∃ r, (Instr.findKey kt kv ents).run P w = .ok r w ∧ FoundAt ents 0 (findI k es 0) r := by
  obtain ⟨r, h1, h2⟩ := run_asking (w := w) hl hk hr es ents 0 h
  obtain ⟨l, _, _, hlv, _⟩ := key_cases hl hk hr
  obtain ⟨u, hu⟩ : ∃ u, P.underlying kt = some u := by
    cases hu : P.underlying kt with
    | none => simp [leaves, hu] at hlv
    | some u => exact ⟨u, rfl⟩
  refine ⟨r, ?_, h2⟩
  simp only [Instr.findKey, Sem.run_bind, run_underlying hu, Result.andThen_ok]
  rcases now_asking (w := w) hl hk hr hu es ents 0 h with h3 | ⟨r', h3, h4⟩
  · rw [h3]; exact h1
  · rw [h3, h1] at *
    cases h4
    rfl
end
end Go.VL

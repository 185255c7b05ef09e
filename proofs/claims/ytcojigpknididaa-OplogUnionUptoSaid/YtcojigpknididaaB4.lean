import Derived.Test.YtcojigpknididaaB3
import Derived.ReadAgain
import Derived.WideKeyArgs
import Derived.ChangeArms
import Derived.OpenShut
import Derived.Test.YtcojigpknididaaProg
set_option linter.unusedVariables false
set_option linter.unusedSimpArgs false
namespace Go.VL.opl
open Go Go.VL Go.Proofs Go.IntWalk Go.VL.st Go.VL.row

theorem eq_key {x y : Int} : ∀ {k : V}, V.eq (.agg [.int .i64 x, .int .i64 y]) k = true → k = .agg [.int .i64 x, .int .i64 y] := by
  intro k h
  cases k <;> simp only [V.eq, Bool.false_eq_true] at h
  rename_i l
  match l, h with
  | [], h => simp [V.eqs] at h
  | [_], h => simp [V.eqs] at h
  | a :: b :: c :: r, h => simp [V.eqs] at h
  | [a, b], h =>
    simp only [V.eqs, Bool.and_true, Bool.and_eq_true] at h
    obtain ⟨h1, h2⟩ := h
    cases a <;> simp only [V.eq, Bool.false_eq_true] at h1
    cases b <;> simp only [V.eq, Bool.false_eq_true] at h2
    simp only [Bool.and_eq_true, decide_eq_true_eq] at h1 h2
    obtain ⟨rfl, rfl⟩ := h1
    obtain ⟨rfl, rfl⟩ := h2
    rfl
theorem key_sp (a b : Sp) : V.eq (.agg [.int .i64 a.c, .int .i64 a.r]) (.agg [.int .i64 b.c, .int .i64 b.r]) = decide (a = b) := by
  cases a; cases b
  simp only [V.eq, V.eqs, Bool.and_true, decide_true, Bool.true_and]
  rw [Bool.eq_iff_iff]
  simp
theorem find_upd (x y : Sp) (v : V) : ∀ es : List (V × V), find (.agg [.int .i64 y.c, .int .i64 y.r]) (upd (.agg [.int .i64 x.c, .int .i64 x.r]) v es) = if y = x then some v else find (.agg [.int .i64 y.c, .int .i64 y.r]) es
  | [] => by
    simp only [upd, find, key_sp]
    by_cases h : y = x <;> simp [h]
  | p :: r => by
    have ih := find_upd x y v r
    simp only [upd]
    cases hx : V.eq (.agg [.int .i64 x.c, .int .i64 x.r]) p.1
    · simp only [cond_false, find]
      by_cases h : y = x
      · subst h
        rw [hx, cond_false, ih]; simp
      · rw [ih, if_neg h, if_neg h]
    · simp only [cond_true, find, key_sp]
      rw [eq_key hx, key_sp]
      by_cases h : y = x <;> simp [h]
theorem rowOf_ne {τ : St} {w : V} {z b : Nat} {es : List (List V)} {cs : List V} (h : RowOf τ w z es) (hb : τ.objs[b]? = some (.cells cs)) : ∀ n cap z', w ≠ .osl b n cap z' := by
  rintro n cap z' rfl
  rcases h with ⟨R, q, h, -⟩ | ⟨j, cap', h, h1, -⟩
  · cases h
  · cases h
    rw [hb] at h1; cases h1
theorem rowOf_nm {τ : St} {w : V} {z b : Nat} {es : List (List V)} {lv : List LK} {ms : List (V × V)} {ver : Nat} (h : RowOf τ w z es) (hb : τ.objs[b]? = some (.mp lv ms ver)) : ∀ n cap z', w ≠ .osl b n cap z' := by
  rintro n cap z' rfl
  rcases h with ⟨R, q, h, -⟩ | ⟨j, cap', h, h1, -⟩
  · cases h
  · cases h
    rw [hb] at h1; cases h1
theorem rowOf_lt {τ : St} {z b n cap z' : Nat} {es : List (List V)} (h : RowOf τ (.osl b n cap z') z es) : b < τ.objs.length := by
  rcases h with ⟨R, q, h, -⟩ | ⟨j, cap', h, h1, -⟩
  · cases h
  · cases h
    exact (List.getElem?_eq_some_iff.1 h1).1
/-- Rows of unlike widths are unlike. -/
theorem rowOf_nz {τ : St} {v : V} {z b n cap z2 z' : Nat} {es es' : List (List V)} (h : RowOf τ (.osl b n cap z') z es) (k : RowOf τ v z2 es') (hz : z ≠ z2) : ∀ n' cap' y, v ≠ .osl b n' cap' y := by
  rintro n' cap' y rfl
  rcases h with ⟨R, q, h, -⟩ | ⟨j, cap2, h, h1, -⟩
  · cases h
  cases h
  rcases k with ⟨R, q, h, -⟩ | ⟨j, cap3, h, h2, -⟩
  · cases h
  cases h
  rw [h1] at h2
  simp only [Option.some.injEq, AObj.row.injEq] at h2
  exact hz h2.2.1
/-- append of one to a row. -/
theorem ao_push {τ : St} {wo : V} {z r : Nat} {es : List (List V)} {e : List V} (h : RowOf τ wo z es) (hl : es.length < 1073741824) (he : e.length = z) (hr : τ.live[r]? = some true) :
    AoV τ z true wo (.sl false (.own r) z [e]) fun v τ' => RowOf τ' v z (es ++ [e]) ∧ τ'.live = τ.live ∧ τ.objs.length ≤ τ'.objs.length ∧ (∀ (j : Nat) (o : AObj), (∀ n cap z', wo ≠ .osl j n cap z') → τ.objs[j]? = some o → τ'.objs[j]? = some o) ∧
      (∃ j n cap, v = .osl j n cap z ∧ ((∃ n' cap', wo = .osl j n' cap' z) ∨ τ.objs.length ≤ j) ∧ j < τ'.objs.length) := by
  unfold AoV
  show AoP τ z true ((false = true ∨ rd τ.live (.own r)) ∧ (z = z ∨ _), [e]) _ wo
  rcases h with ⟨R, q, rfl, rfl⟩ | ⟨j, cap, rfl, h1, h2, h3⟩
  · refine ⟨rfl, ⟨.inr hr, .inl rfl⟩, by simp, (fun h => absurd h (by simp)), fun _ cap hc1 hc2 => ?_⟩
    refine ⟨.inr ⟨τ.objs.length, cap, rfl, by simp, by simpa using he, hc1⟩, rfl, by simp, fun j o _ hj => ?_, _, _, _, rfl, .inr (Nat.le_refl _), by simp⟩
    show (τ.objs ++ [_])[j]? = some o
    rw [List.getElem?_append_left (List.getElem?_eq_some_iff.1 hj).1]; exact hj
  · refine ⟨rfl, rfl, ?_⟩
    rw [h1]
    have hz : ∀ x ∈ es ++ [e], x.length = z := by
      intro x hx
      rcases List.mem_append.1 hx with hx | hx
      · exact h2 x hx
      · rw [List.mem_singleton] at hx; rw [hx]; exact he
    have hlt := (List.getElem?_eq_some_iff.1 h1).1
    refine ⟨⟨rfl, rfl, flat_len' h2⟩, ⟨.inr hr, .inl rfl⟩, by simp only [List.length_cons, List.length_nil]; omega, fun hc => ?_, fun hc cap' hc1 hc2 => ?_⟩
    · refine ⟨.inr ⟨j, cap, by simp, ?_, hz, by simpa using hc⟩, rfl, by show _ ≤ (τ.objs.set _ _).length; rw [List.length_set]; exact Nat.le_refl _, fun k o hk hj => ?_, _, _, _, rfl, .inl ⟨_, _, rfl⟩, by show _ < (τ.objs.set _ _).length; rw [List.length_set]; exact hlt⟩
      · show (τ.objs.set j _)[j]? = _
        rw [List.getElem?_set_self hlt]; simp
      · show (τ.objs.set j _)[k]? = some o
        rw [List.getElem?_set_ne (fun e => hk _ _ _ (by rw [e]))]; exact hj
    · refine ⟨.inr ⟨τ.objs.length, cap', by simp, by simp, hz, by simpa using hc1⟩, rfl, by simp, fun k o _ hj => ?_, _, _, _, rfl, .inr (Nat.le_refl _), by simp⟩
      show (τ.objs ++ [_])[k]? = some o
      rw [List.getElem?_append_left (List.getElem?_eq_some_iff.1 hj).1]; exact hj
/-- A log in the midst of an addition. -/
structure LMid (τ : St) (i : Nat) (mo : Option Nat) (s : V) (ov : List V) (room : Int) (P : List (V × Cg)) (Lm : List Cg) (ow : Nat → List Sp) : Prop where
  cells : τ.objs[i]? = some (.cells (.int .i64 room :: s :: .map mo :: ov))
  ovl : ov.length = 64
  row : RowOf τ s 13 (cgsV P)
  rds : Rds τ P
  map : MapOk τ mo Lm
  own : ∀ (r : Nat) (h : r < ov.length), RowOf τ ov[r] 2 (spsV (ow r))
  sep : ∀ (a b : Nat) (ha : a < ov.length) (hb : b < ov.length) j n cap z n' cap' z', ov[a] = .osl j n cap z → ov[b] = .osl j n' cap' z' → a = b
/-- What there is of a log behind a call. -/
structure LTo (σ τ : St) (i : Nat) (mo : Option Nat) (s s' : V) (ov ov' : List V) : Prop where
  upd : UpdS (Own i mo s ov) σ τ
  own : ∀ j, Own i mo s' ov' j → Own i mo s ov j ∨ σ.objs.length ≤ j
theorem LTo.refl (σ : St) (i : Nat) (mo : Option Nat) (s : V) (ov : List V) : LTo σ σ i mo s s ov ov := ⟨.refl _ _, fun _ h => .inl h⟩
theorem LTo.of {σ τ : St} {i : Nat} {mo : Option Nat} {s : V} {ov : List V} (h : Ext σ τ) : LTo σ τ i mo s s ov ov := ⟨.of h, fun _ h => .inl h⟩
theorem LTo.trans {a b c : St} {i : Nat} {mo : Option Nat} {s s' s'' : V} {ov ov' ov'' : List V} (h : LTo a b i mo s s' ov ov') (k : LTo b c i mo s' s'' ov' ov'') : LTo a c i mo s s'' ov ov'' :=
  ⟨h.upd.trans k.upd h.own, fun j hj => (k.own j hj).elim (h.own j) fun hl => .inr (Nat.le_trans h.upd.olen hl)⟩
section
variable {σ τ τ' : St} {i m : Nat} {mo : Option Nat} {s s' s1 d : V} {ov ov' : List V} {room : Int} {P P1 : List (V × Cg)} {g : Cg} {x : Sp} {Lm : List Cg} {ow : Nat → List Sp}
theorem LogIs.mid (h : LogIs σ i mo s ov room P) : LMid σ i mo s ov room P (cgL P) fun r => (ownL (cgL P) r).map atS :=
  ⟨h.cells, h.ovl, h.row, h.rds, h.map, h.own, h.sep⟩
theorem LMid.log (h : LMid σ i mo s ov room P (cgL P) fun r => (ownL (cgL P) r).map atS) (hg : Good (cgL P)) : LogIs σ i mo s ov room P :=
  ⟨h.cells, h.ovl, h.row, h.rds, h.map, h.own, h.sep, hg⟩
theorem LMid.own_lt (h : LMid σ i (some m) s ov room P Lm ow) {j : Nat} (hj : Own i (some m) s ov j) : j < σ.objs.length := by
  rcases hj with rfl | hj | ⟨n, cap, z, rfl⟩ | ⟨a, ha, n, cap, z, e⟩
  · exact (List.getElem?_eq_some_iff.1 h.cells).1
  · cases hj
    obtain ⟨es, ver, h1, -⟩ := h.map
    exact (List.getElem?_eq_some_iff.1 h1).1
  · exact rowOf_lt h.row
  · have := h.own a ha
    rw [e] at this
    exact rowOf_lt this
theorem LMid.ext (h : LMid σ i (some m) s ov room P Lm ow) (he : Ext σ τ) : LMid τ i (some m) s ov room P Lm ow := by
  have hu : UpdS (fun _ => False) σ τ := .of he
  obtain ⟨es, ver, h1, h2⟩ := h.map
  exact ⟨he.objs _ _ h.cells, h.ovl, rowOf_up h.row hu fun _ _ _ _ _ h => h, fun p hp => rdS_up (h.rds p hp) hu, ⟨es, ver, he.objs _ _ h1, h2⟩, fun r hr => rowOf_up (h.own r hr) hu fun _ _ _ _ _ h => h, h.sep⟩
/-- Insert. -/
theorem LMid.ins (h : LMid τ i (some m) s ov room P Lm ow) (hto : RowTo ⟨τ.objs, τ.live ++ [true]⟩ s τ') {jj n cap : Nat} (hr : RowOf τ' (.osl jj n cap 13) 13 (cgsV P1)) (hjj : (∃ n' cap', s = .osl jj n' cap' 13) ∨ τ.objs.length ≤ jj)
    (hp : Rds τ' P1) : τ'.objs[i]? = some (.cells (.int .i64 room :: s :: .map (some m) :: ov)) ∧ LMid (τ'.setC i (.int .i64 room :: .osl jj n cap 13 :: .map (some m) :: ov)) i (some m) (.osl jj n cap 13) ov room P1 Lm ow ∧
      LTo τ (τ'.setC i (.int .i64 room :: .osl jj n cap 13 :: .map (some m) :: ov)) i (some m) s (.osl jj n cap 13) ov ov := by
  obtain ⟨t1, t2, t3⟩ := hto
  have hi : τ'.objs[i]? = some (.cells (.int .i64 room :: s :: .map (some m) :: ov)) := t3 _ _ (rowOf_ne h.row h.cells) h.cells
  obtain ⟨es, ver, h1, h2⟩ := h.map
  have hmi : m ≠ i := fun e => by rw [e, h.cells] at h1; cases h1
  have hu0 : UpdS (fun j => ∃ n cap z, s = .osl j n cap z) τ τ' := ⟨fun j o hj ho => t3 j o (fun n cap z e => hj ⟨n, cap, z, e⟩) ho, fun r hr => by rw [t1]; exact (ext_live τ true).live r hr, t2, by rw [t1]; simp⟩
  have hu : UpdS (fun j => j = i) τ' (τ'.setC i (.int .i64 room :: .osl jj n cap 13 :: .map (some m) :: ov)) := updS_setC
  have hm1 := hu0.objs _ _ (fun ⟨n, cap, z, e⟩ => rowOf_nm h.row h1 _ _ _ e) h1
  refine ⟨hi, ⟨setC_get (List.getElem?_eq_some_iff.1 hi).1, h.ovl, rowOf_up hr hu fun j n' cap' z e => ?_, fun p hp' => rdS_up (hp p hp') hu, ⟨es, ver, hu.objs _ _ hmi hm1, h2⟩, fun r hrr => ?_, h.sep⟩, ⟨?_, ?_⟩⟩
  · rintro rfl
    exact rowOf_ne hr hi _ _ _ e
  · have ho := h.own r hrr
    refine rowOf_up (rowOf_up ho hu0 fun j n' cap' z e => ?_) hu fun j n' cap' z e => ?_
    · rintro ⟨n2, cap2, z2, e2⟩
      rw [e] at ho
      exact rowOf_nz ho h.row (by decide) _ _ _ e2
    · rintro rfl
      exact rowOf_ne ho h.cells _ _ _ e
  · exact UpdS.trans (S := Own i (some m) s ov) (S' := fun j => j = i) (a := τ) (b := τ') ⟨fun j o hj ho => hu0.objs j o (fun hx => hj (.inr (.inr (.inl hx)))) ho, hu0.live, hu0.olen, hu0.llen⟩ hu fun j hj => .inl (.inl hj)
  · rintro j (hj | hj | ⟨n', cap', z, hj⟩ | hj)
    · exact .inl (.inl hj)
    · exact .inl (.inr (.inl hj))
    · cases hj
      rcases hjj with ⟨n2, cap2, hj⟩ | hj
      · exact .inl (.inr (.inr (.inl ⟨_, _, _, hj⟩)))
      · exact .inr hj
    · exact .inl (.inr (.inr (.inr hj)))
/-- m[k] = v. -/
theorem LMid.put (h : LMid τ i (some m) s ov room P Lm ow) {Lm' : List Cg} {v : V} {es : List (V × V)} {ver : Nat} (hm : τ.objs[m]? = some (.mp KL es ver)) (hf : ∀ y : Sp, (if y = x then some v else find (.agg [.int .i64 y.c, .int .i64 y.r]) es) = (Lm'.find? (isA y)).map fun h => V.agg [.int .i64 h.seq]) {ver' : Nat} :
    LMid (τ.setM m KL (upd (.agg [.int .i64 x.c, .int .i64 x.r]) v es) ver') i (some m) s ov room P Lm' ow ∧ LTo τ (τ.setM m KL (upd (.agg [.int .i64 x.c, .int .i64 x.r]) v es) ver') i (some m) s s ov ov := by
  have hu : UpdS (fun k => k = m) τ (τ.setM m KL (upd (.agg [.int .i64 x.c, .int .i64 x.r]) v es) ver') := updS_setM
  have hmi : i ≠ m := fun e => by rw [← e, h.cells] at hm; cases hm
  refine ⟨⟨hu.objs _ _ hmi h.cells, h.ovl, rowOf_up h.row hu fun j n cap z e => ?_, fun p hp => rdS_up (h.rds p hp) hu, ⟨_, ver', ?_, fun y => (find_upd x y v es).trans (hf y)⟩, fun r hr => rowOf_up (h.own r hr) hu fun j n cap z e => ?_, h.sep⟩, ⟨fun j o hj => hu.objs j o fun e => hj (.inr (.inl (by rw [e]))), hu.live, hu.olen, hu.llen⟩, fun j hj => .inl hj⟩
  · rintro rfl; exact rowOf_nm h.row hm _ _ _ e
  · show (τ.objs.set _ _)[m]? = _
    rw [List.getElem?_set_self (List.getElem?_eq_some_iff.1 hm).1]
  · rintro rfl; exact rowOf_nm (h.own r hr) hm _ _ _ e
/-- append to one of the replicas' stamps. -/
theorem LMid.push (h : LMid τ i (some m) s ov room P Lm ow) {r : Nat} (hr : r < ov.length) {v : V} (hv : RowOf τ' v 2 (spsV (ow r ++ [x]))) (hlv : τ'.live = τ.live ++ [true]) (hol : τ.objs.length ≤ τ'.objs.length)
    (ho : ∀ (j : Nat) (o : AObj), (∀ n cap z', ov[r] ≠ .osl j n cap z') → τ.objs[j]? = some o → τ'.objs[j]? = some o) (hj : ∃ j n cap, v = .osl j n cap 2 ∧ ((∃ n' cap', ov[r] = .osl j n' cap' 2) ∨ τ.objs.length ≤ j) ∧ j < τ'.objs.length) {ow' : Nat → List Sp} (hw : ow' r = ow r ++ [x]) (hw' : ∀ k, k ≠ r → ow' k = ow k) :
    τ'.objs[i]? = some (.cells (.int .i64 room :: s :: .map (some m) :: ov)) ∧ LMid (τ'.setC i (.int .i64 room :: s :: .map (some m) :: ov.set r v)) i (some m) s (ov.set r v) room P Lm ow' ∧ LTo τ (τ'.setC i (.int .i64 room :: s :: .map (some m) :: ov.set r v)) i (some m) s s ov (ov.set r v) := by
  obtain ⟨jj, n, cap, rfl, hjj, hjl⟩ := hj
  have hrow := h.own r hr
  have hi : τ'.objs[i]? = _ := ho _ _ (rowOf_ne hrow h.cells) h.cells
  obtain ⟨es, ver, h1, h2⟩ := h.map
  have hmi : m ≠ i := fun e => by rw [e, h.cells] at h1; cases h1
  have hu0 : UpdS (fun j => ∃ n cap z, ov[r] = .osl j n cap z) τ τ' := ⟨fun j o hj hx => ho j o (fun n cap z e => hj ⟨n, cap, z, e⟩) hx, fun q hq => by rw [hlv]; exact (ext_live τ true).live q hq, hol, by rw [hlv]; simp⟩
  have hu : UpdS (fun j => j = i) τ' (τ'.setC i (.int .i64 room :: s :: .map (some m) :: ov.set r (.osl jj n cap 2))) := updS_setC
  have hm1 := hu0.objs _ _ (fun ⟨n, cap, z, e⟩ => rowOf_nm hrow h1 _ _ _ e) h1
  refine ⟨hi, ⟨setC_get (List.getElem?_eq_some_iff.1 hi).1, by rw [List.length_set]; exact h.ovl, rowOf_up (rowOf_up h.row hu0 fun j n' cap' z e => ?_) hu fun j n' cap' z e => ?_, fun p hp => rdS_up (rdS_up (h.rds p hp) hu0) hu, ⟨es, ver, hu.objs _ _ hmi hm1, h2⟩, fun k hk => ?_, ?_⟩, ⟨?_, ?_⟩⟩
  · rintro ⟨n2, cap2, z2, e2⟩
    have hs := h.row
    rw [e] at hs
    exact rowOf_nz hs hrow (by decide) _ _ _ e2
  · rintro rfl; exact rowOf_ne h.row h.cells _ _ _ e
  · have hk' : k < ov.length := by simpa using hk
    by_cases hkr : k = r
    · subst hkr
      rw [List.getElem_set_self, hw]
      refine rowOf_up hv hu fun j n' cap' z e => ?_
      rintro rfl; exact rowOf_ne hv hi _ _ _ e
    · rw [List.getElem_set_ne (Ne.symm hkr), hw' k hkr]
      have ho' := h.own k hk'
      refine rowOf_up (rowOf_up ho' hu0 fun j n' cap' z e => ?_) hu fun j n' cap' z e => ?_
      · rintro ⟨n2, cap2, z2, e2⟩
        exact hkr (h.sep _ _ hk' hr _ _ _ _ _ _ _ e e2)
      · rintro rfl; exact rowOf_ne ho' h.cells _ _ _ e
  · have new : ∀ (a : Nat) (ha : a < ov.length), a ≠ r → ∀ n' cap' z', ov[a] ≠ .osl jj n' cap' z' := by
      intro a ha har n' cap' z' e
      rcases hjj with ⟨n2, cap2, e2⟩ | hl
      · exact har (h.sep _ _ ha hr _ _ _ _ _ _ _ e e2)
      · have ho' := h.own a ha
        rw [e] at ho'
        have := rowOf_lt ho'
        omega
    intro a b ha hb j n1 c1 z1 n2 c2 z2 e1 e2
    rw [List.getElem_set] at e1 e2
    have ha' : a < ov.length := by simpa using ha
    have hb' : b < ov.length := by simpa using hb
    by_cases har : r = a <;> by_cases hbr : r = b
    · rw [← har, ← hbr]
    · rw [if_pos har] at e1
      rw [if_neg hbr] at e2
      cases e1
      exact absurd e2 (new b hb' (Ne.symm hbr) _ _ _)
    · rw [if_neg har] at e1
      rw [if_pos hbr] at e2
      cases e2
      exact absurd e1 (new a ha' (Ne.symm har) _ _ _)
    · rw [if_neg har] at e1
      rw [if_neg hbr] at e2
      exact h.sep _ _ ha' hb' _ _ _ _ _ _ _ e1 e2
  · exact UpdS.trans (S := Own i (some m) s ov) (S' := fun j => j = i) (a := τ) (b := τ') ⟨fun j o hj hx => hu0.objs j o (fun ⟨n, cap, z, e⟩ => hj (.inr (.inr (.inr ⟨r, hr, n, cap, z, e⟩)))) hx, hu0.live, hu0.olen, hu0.llen⟩ hu fun j hj => .inl (.inl hj)
  · rintro j (hj | hj | hj | ⟨a, ha, n', cap', z, hj⟩)
    · exact .inl (.inl hj)
    · exact .inl (.inr (.inl hj))
    · exact .inl (.inr (.inr (.inl hj)))
    · have ha' : a < ov.length := by simpa using ha
      rw [List.getElem_set] at hj
      by_cases har : r = a
      · rw [if_pos har] at hj
        cases hj
        rcases hjj with ⟨n2, cap2, e2⟩ | hl
        · exact .inl (.inr (.inr (.inr ⟨r, hr, _, _, _, e2⟩)))
        · exact .inr hl
      · rw [if_neg har] at hj
        exact .inl (.inr (.inr (.inr ⟨a, ha', _, _, _, hj⟩)))
end
end Go.VL.opl

namespace Go.VL.opl
open Go Go.VL Go.Proofs Go.IntWalk Go.VL.st Go.VL.row

section
variable {σ : St} {i m : Nat} {s d : V} {ov : List V} {room : Int} {P : List (V × Cg)} {g : Cg} {x : Sp}
theorem ov_over {ov : List V} {r : Nat} (h : r < ov.length) (a b c v : V) : List.take (3 + r * 1) (a :: b :: c :: ov) ++ [v] ++ List.drop (3 + r * 1) (b :: c :: ov) = a :: b :: c :: ov.set r v := by
  rw [Nat.mul_one, Nat.add_comm]
  simp only [List.take_succ_cons, List.drop_succ_cons, List.cons_append]
  rw [List.set_eq_take_append_cons_drop, if_pos h, List.append_assoc]
  rfl
theorem Good.deps {L : List Cg} (h : Good L) : ∀ g ∈ L, g.deps.length ≤ 64 := fun g hg => by
  obtain ⟨-, -, h1, -⟩ := chk_has (h.chk g hg)
  exact (clock_has h1).1
theorem LogIs.deps {mo : Option Nat} (h : LogIs σ i mo s ov room P) : ∀ p ∈ P, p.2.deps.length ≤ 2000000 := fun p hp => by
  have := h.good.deps p.2 (List.mem_map_of_mem hp)
  omega
set_option maxRecDepth 100000 in
set_option maxHeartbeats 4000000 in
theorem add_ok (h : LogIs σ i (some m) s ov room P) (hl : P.length ≤ 100000) (hd : RdS σ d 1 (intsV .i64 g.deps)) (hnl : g.name.length < 4611686018427387904) :
    CallA Try.prog 14 [.ptr (some (i, 0)), cgV d g] σ fun v σ' => v = .int .i64 (whyR (cgL P) room g) ∧ ∃ s' ov' P', LogIs σ' i (some m) s' ov' room P' ∧ cgL P' = addR (cgL P) room g ∧ LTo σ σ' i (some m) s s' ov ov' ∧ ∀ p ∈ P', p ∈ P ∨ NewS σ σ' p.1 1 (intsV .i64 p.2.deps) := by
  obtain ⟨db, dr, dz, rfl, -, -⟩ := id hd
  refine fn_at Try.func14 (by decide) dcomp14 rfl fun Q q1 q2 => ?_
  have hck := chk_ok hd hnl
  simp only [cgV, cgC] at hck
  have hsame : ∀ τ, Ext σ τ → whyR (cgL P) room g ≠ 0 → ∃ s' ov' P', LogIs τ i (some m) s' ov' room P' ∧ cgL P' = addR (cgL P) room g ∧ LTo σ τ i (some m) s s' ov ov' ∧ ∀ p ∈ P', p ∈ P ∨ NewS σ τ p.1 1 (intsV .i64 p.2.deps) := fun τ he hw => by
    refine ⟨s, ov, P, h.ext he, ?_, LTo.of he, fun p hp => .inl hp⟩
    unfold addR
    rw [show decide (whyR (cgL P) room g = 0) = false by simpa using hw]; rfl
  simp -implicitDefEqProofs only [go_sem, Nat.reduceBEq, Nat.reduceAdd, eq_self, true_and, and_true, and_self, List.getElem?_cons_zero, List.getElem?_cons_succ, Nat.reduceLeDiff, Nat.zero_add, Nat.reduceSub, Nat.le_refl, d14, cgV, cgC]
  refine call_at hck ?_
  rintro w τ ⟨hτ, rfl⟩
  have hτ := hτ.symm
  subst hτ
  refine ⟨kept_none, ?_⟩
  cases hc : decide (chkI g = 0)
  · have hw : whyR (cgL P) room g = chkI g := by unfold whyR; rw [hc]; rfl
    rw [hw] at q2 hsame
    simp -implicitDefEqProofs only [go_sem, Nat.reduceBEq, Nat.reduceAdd, eq_self, true_and, and_true, and_self, List.getElem?_cons_zero, List.getElem?_cons_succ, Nat.reduceLeDiff, Nat.zero_add, Nat.reduceSub, Nat.le_refl, hc, Bool.not_false]
    refine q2 _ _ ?_
    simp -implicitDefEqProofs only [go_sem, Nat.reduceBEq, Nat.reduceAdd, eq_self, true_and, and_true, and_self, List.getElem?_cons_zero, List.getElem?_cons_succ, Nat.reduceLeDiff, Nat.zero_add, Nat.reduceSub, Nat.le_refl, Nat.lt_irrefl]
    exact hsame _ (.refl _) (by simpa using hc)
  have hc0 : chkI g = 0 := by simpa using hc
  have hwp := why_prog (room := room) h.good hc0
  obtain ⟨hrt, -⟩ := chk_has hc0
  have hr : 0 ≤ g.ar ∧ g.ar < 64 := (right_has hrt).2
  simp -implicitDefEqProofs only [go_sem, Nat.reduceBEq, Nat.reduceAdd, eq_self, true_and, and_true, and_self, List.getElem?_cons_zero, List.getElem?_cons_succ, Nat.reduceLeDiff, Nat.zero_add, Nat.reduceSub, Nat.le_refl, hc, Bool.not_true]
  refine cut_at (fun G τ => τ = σ ∧ G = ⟨[(3, .loc 3 0), (6, .v (.ptr (some (i, 0))))], [(3, cgC (.sl db dr dz (intsV .i64 g.deps)) g)]⟩) ?_ ?_
  · intro Z z1 z2 z3
    simp -implicitDefEqProofs only [go_sem, Nat.reduceBEq, Nat.reduceAdd, eq_self, true_and, and_true, and_self, List.getElem?_cons_zero, List.getElem?_cons_succ, Nat.reduceLeDiff, Nat.zero_add, Nat.reduceSub, Nat.le_refl, Nat.lt_irrefl]
    refine z1 _ _ _ (.inr ?_) ⟨rfl, rfl⟩
    simp -implicitDefEqProofs only [go_sem, Nat.reduceBEq, Nat.reduceAdd, eq_self, true_and, and_true, and_self, List.getElem?_cons_zero, List.getElem?_cons_succ, Nat.reduceLeDiff, Nat.zero_add, Nat.reduceSub, Nat.le_refl, cgC]
    try exact ⟨rfl, rfl⟩
    try exact rfl
  rintro G τ ⟨hτ, rfl⟩
  have hτ := hτ.symm
  subst hτ
  have hkn := known_ok h (by omega) hd h.deps hr
  simp only [cgV, cgC] at hkn
  simp -implicitDefEqProofs only [go_sem, Nat.reduceBEq, Nat.reduceAdd, eq_self, true_and, and_true, and_self, List.getElem?_cons_zero, List.getElem?_cons_succ, Nat.reduceLeDiff, Nat.zero_add, Nat.reduceSub, Nat.le_refl, cgC]
  refine call_at hkn ?_
  rintro w τ ⟨rfl, hτ⟩
  have hτ := hτ.symm
  subst hτ
  refine ⟨kept_none, ?_⟩
  cases hk : decide (knI (cgL P) g = 0) <;> rw [hk] at hwp
  · simp only [Bool.not_false, cond_true] at hwp
    rw [hwp] at q2 hsame
    simp -implicitDefEqProofs only [go_sem, Nat.reduceBEq, Nat.reduceAdd, eq_self, true_and, and_true, and_self, List.getElem?_cons_zero, List.getElem?_cons_succ, Nat.reduceLeDiff, Nat.zero_add, Nat.reduceSub, Nat.le_refl, hk, Bool.not_false]
    refine q2 _ _ ?_
    simp -implicitDefEqProofs only [go_sem, Nat.reduceBEq, Nat.reduceAdd, eq_self, true_and, and_true, and_self, List.getElem?_cons_zero, List.getElem?_cons_succ, Nat.reduceLeDiff, Nat.zero_add, Nat.reduceSub, Nat.le_refl, Nat.lt_irrefl]
    exact hsame _ (.refl _) (by simpa using hk)
  simp only [Bool.not_true, cond_false] at hwp
  have hrd := ready_ok h (by omega) hd hc0
  simp only [cgV, cgC] at hrd
  simp -implicitDefEqProofs only [go_sem, Nat.reduceBEq, Nat.reduceAdd, eq_self, true_and, and_true, and_self, List.getElem?_cons_zero, List.getElem?_cons_succ, Nat.reduceLeDiff, Nat.zero_add, Nat.reduceSub, Nat.le_refl, hk, Bool.not_true]
  refine call_at hrd ?_
  rintro w τ ⟨rfl, e1⟩
  refine ⟨kept_none, ?_⟩
  cases hy : decide (rdI (cgL P) g = 0) <;> rw [hy] at hwp
  · simp only [Bool.not_false, cond_true] at hwp
    rw [hwp] at q2 hsame
    simp -implicitDefEqProofs only [go_sem, Nat.reduceBEq, Nat.reduceAdd, eq_self, true_and, and_true, and_self, List.getElem?_cons_zero, List.getElem?_cons_succ, Nat.reduceLeDiff, Nat.zero_add, Nat.reduceSub, Nat.le_refl, hy, Bool.not_false]
    refine q2 _ _ ?_
    simp -implicitDefEqProofs only [go_sem, Nat.reduceBEq, Nat.reduceAdd, eq_self, true_and, and_true, and_self, List.getElem?_cons_zero, List.getElem?_cons_succ, Nat.reduceLeDiff, Nat.zero_add, Nat.reduceSub, Nat.le_refl, Nat.lt_irrefl]
    exact hsame _ e1 (by simpa using hy)
  simp only [Bool.not_true, cond_false] at hwp
  simp -implicitDefEqProofs only [go_sem, Nat.reduceBEq, Nat.reduceAdd, eq_self, true_and, and_true, and_self, List.getElem?_cons_zero, List.getElem?_cons_succ, Nat.reduceLeDiff, Nat.zero_add, Nat.reduceSub, Nat.le_refl, hy, Bool.not_true]
  have h1 := (h.ext e1).cells
  have hn : ∀ n : Nat, n = P.length → (decide ((n : Int) ≥ room) = decide (((cgL P).length : Int) ≥ room)) := fun n e => by rw [e, List.length_map]
  have hnf : (cgL P).find? (isA (atS g)) = none := by
    cases hf : (cgL P).find? (isA (atS g)) with
    | none => rfl
    | some k =>
      have := of_decide_eq_true hk
      unfold knI at this
      rw [hf] at this
      simp only at this
      cases hx : sameC k g <;> rw [hx] at this <;> simp at this
  cases hg : decide (((cgL P).length : Int) ≥ room) <;> rw [hg] at hwp hn
  case true =>
    simp only [cond_true] at hwp
    rw [hwp] at q2 hsame
    obtain ⟨n, cap, ⟨-, R, q, rfl, hP⟩ | rfl⟩ := h.len
    all_goals
      first | (have hn0 := hn 0 (by rw [hP]; rfl)) | (have hn0 := hn _ rfl)
      simp -implicitDefEqProofs only [go_sem, Nat.reduceBEq, Nat.reduceAdd, eq_self, true_and, and_true, and_self, List.getElem?_cons_zero, List.getElem?_cons_succ, Nat.reduceLeDiff, Nat.zero_add, Nat.reduceSub, Nat.le_refl, h1, hn0]
      refine q2 _ _ ?_
      simp -implicitDefEqProofs only [go_sem, Nat.reduceBEq, Nat.reduceAdd, eq_self, true_and, and_true, and_self, List.getElem?_cons_zero, List.getElem?_cons_succ, Nat.reduceLeDiff, Nat.zero_add, Nat.reduceSub, Nat.le_refl, Nat.lt_irrefl]
      exact hsame _ e1 (by decide)
  simp only [cond_false] at hwp
  have hL := h.ext e1
  have hM := hL.mid
  have hto := LTo.of (i := i) (mo := some m) (s := s) (ov := ov) e1
  have hfit := why_fits (by rw [hwp] : whyR (cgL P) room g = 0)
  rw [hwp] at q2
  have hd1 := hd.ext e1
  have hadd : addR (cgL P) room g = putC g (cgL P) := by unfold addR; rw [hwp]; rfl
  have hgood := hfit.good h.good
  have hdl : g.deps.length ≤ 64 := (clock_has (chk_has hc0).2.2.1).1
  have hpl0 := place_at (x := atS g) hL (by omega)
  simp only [spV, spC, atS] at hpl0
  have hcp := pcopy_ok (σ := τ) hd1 (by omega)
  simp only [cgV, cgC] at hcp
  obtain ⟨n, cap, ⟨-, R, q, rfl, hP⟩ | rfl⟩ := h.len
  all_goals
    first | (have hn0 := hn 0 (by rw [hP]; rfl)) | (have hn0 := hn _ rfl)
    simp -implicitDefEqProofs only [go_sem, Nat.reduceBEq, Nat.reduceAdd, eq_self, true_and, and_true, and_self, List.getElem?_cons_zero, List.getElem?_cons_succ, Nat.reduceLeDiff, Nat.zero_add, Nat.reduceSub, Nat.le_refl, h1, hn0]
    refine call_at hpl0 ?_
    rintro w τ1 ⟨⟨k, rfl, hpa⟩, hτ⟩
    have hτ := hτ.symm
    subst hτ
    refine ⟨kept_none, ?_⟩
    simp -implicitDefEqProofs only [go_sem, Nat.reduceBEq, Nat.reduceAdd, eq_self, true_and, and_true, and_self, List.getElem?_cons_zero, List.getElem?_cons_succ, Nat.reduceLeDiff, Nat.zero_add, Nat.reduceSub, Nat.le_refl, h1, cgC]
    refine call_at hcp ?_
    rintro w τ2 ⟨e2, ho2, y, rfl, rq, rfl, hlq, hgq⟩
    refine ⟨e2.kept, ?_⟩
    have hM2 := hM.ext e2
    have hto2 := hto.trans (LTo.of (i := i) (mo := some m) e2)
    have hkP : k ≤ P.length := by have := hpa.1; rwa [List.length_map] at this
    have hlit : (⟨τ2.objs, τ2.live ++ [true]⟩ : St).live[τ2.live.length]? = some true := by simp
    simp -implicitDefEqProofs only [go_sem, Nat.reduceBEq, Nat.reduceAdd, eq_self, true_and, and_true, and_self, List.getElem?_cons_zero, List.getElem?_cons_succ, Nat.reduceLeDiff, Nat.zero_add, Nat.reduceSub, Nat.le_refl, Nat.lt_irrefl]
    refine call_at (ins_ok (x := cgC (.sl false (.own rq) 1 (intsV .i64 g.deps)) g) (show RowOf ⟨τ2.objs, τ2.live ++ [true]⟩ _ 13 (cgsV P) from hM2.row) (i := k) (by rw [cgsV_len]; exact hkP) (by rw [cgsV_len]; omega) hlit rfl) ?_
    rintro w τ3 ⟨hr3, hto3, jj, cp, rfl, hjj⟩
    have hO1 : (cgsV P).take k ++ cgC (.sl false (.own rq) 1 (intsV .i64 g.deps)) g :: (cgsV P).drop k = cgsV (P.take k ++ (.sl false (.own rq) 1 (intsV .i64 g.deps), g) :: P.drop k) := by simp [cgsV, List.map_take, List.map_drop]
    rw [hO1] at hr3
    have hL1 : cgL (P.take k ++ (.sl false (.own rq) 1 (intsV .i64 g.deps), g) :: P.drop k) = putC g (cgL P) := by
      rw [hpa.put hnf]; simp [List.map_take, List.map_drop]
    have hmem : ∀ p ∈ P.take k ++ (V.sl false (.own rq) 1 (intsV .i64 g.deps), g) :: P.drop k, p ∈ P ∨ p = (V.sl false (.own rq) 1 (intsV .i64 g.deps), g) := fun p hp => by
      rcases List.mem_append.1 hp with hp | hp
      · exact .inl (List.mem_of_mem_take hp)
      · rcases List.mem_cons.1 hp with hp | hp
        · exact .inr hp
        · exact .inl (List.mem_of_mem_drop hp)
    generalize P.take k ++ (V.sl false (.own rq) 1 (intsV .i64 g.deps), g) :: P.drop k = P1 at hr3 hL1 hmem
    have hu3 : UpdS (fun j => ∃ n cap z, _ = V.osl j n cap z) τ2 τ3 := ⟨fun j o hj ho => hto3.2.2 j o (fun n cap z e => hj ⟨n, cap, z, e⟩) ho, fun r hr => by rw [hto3.1]; exact (ext_live τ2 true).live r hr, hto3.2.1, by rw [hto3.1]; simp⟩
    have hl3 := hu3.live _ hlq
    obtain ⟨hci, hM3, hto4⟩ := hM2.ins hto3 hr3 hjj fun p hp => by
      rcases hmem p hp with hp | rfl
      · exact rdS_up (hM2.rds p hp) hu3
      · exact ⟨_, _, _, rfl, by simp, .inr ⟨hl3, rfl⟩⟩
    have hi3 := rowOf_ne hM2.row hM2.cells
    refine ⟨fun L hL => by cases hL; exact ⟨fun q hq o ho => by rw [List.mem_singleton] at hq; subst hq; exact hto3.2.2 _ o (fun n cap z e => hi3 n cap z e) ho, fun r hr => by rw [hto3.1]; exact hr⟩, ?_⟩
    have hto5 := hto2.trans hto4
    have hl4 : (τ3.setC i (.int .i64 room :: .osl jj ((cgsV P).length + 1) cp 13 :: .map (some m) :: ov)).live[rq]? = some true := hl3
    clear hi3 hto3 hu3 hto4 hto2 hM2 hr3 hjj
    simp -implicitDefEqProofs only [go_sem, Nat.reduceBEq, Nat.reduceAdd, eq_self, true_and, and_true, and_self, List.getElem?_cons_zero, List.getElem?_cons_succ, Nat.reduceLeDiff, Nat.zero_add, Nat.reduceSub, Nat.le_refl, hci, flats, V.flat]
    generalize τ3.setC i (.int .i64 room :: .osl jj ((cgsV P).length + 1) cp 13 :: .map (some m) :: ov) = τ4 at hM3 hto5 hl4 ⊢
    generalize V.osl jj ((cgsV P).length + 1) cp 13 = s1 at hM3 hto5 ⊢
    have hc4 := hM3.cells
    have hka : keyFits KL (.agg [.int .i64 g.ac, .int .i64 g.ar]) = true := rfl
    obtain ⟨es, ver, hm4, hf4⟩ := hM3.map
    have hnew := find_A_none.1 hnf
    obtain ⟨hM5, hto6⟩ := hM3.put (x := atS g) (v := .agg [.int .i64 g.seq]) (Lm' := putC g (cgL P)) hm4 (fun z => by
      rw [putC_find h.good.srt hnew z, hf4 z]
      by_cases hz : z = atS g <;> simp [hz]) (ver' := ver + 1)
    simp only [atS] at hM5 hto6
    have hto7 := hto5.trans hto6
    simp -implicitDefEqProofs only [go_sem, Nat.reduceBEq, Nat.reduceAdd, eq_self, true_and, and_true, and_self, List.getElem?_cons_zero, List.getElem?_cons_succ, Nat.reduceLeDiff, Nat.zero_add, Nat.reduceSub, Nat.le_refl, hc4, hka, hm4, cgC]
    refine ⟨hr, ?_⟩
    have hl5 : (τ4.setM m KL (upd (.agg [.int .i64 g.ac, .int .i64 g.ar]) (.agg [.int .i64 g.seq]) es) (ver + 1)).live[rq]? = some true := hl4
    unfold KL at hM5 hto7 hl5
    generalize τ4.setM m _ _ _ = τ5 at hM5 hto7 hl5 ⊢
    clear hto6 hM3 hto5 hl4 hc4 hm4 hf4
    have hc5 := hM5.cells
    have hlo : g.ar.toNat < ov.length := by rw [h.ovl]; omega
    have hod := ov_drop hlo
    have hown : RowOf ⟨τ5.objs, τ5.live ++ [true]⟩ ov[g.ar.toNat] 2 (spsV ((ownL (cgL P) ((g.ar.toNat : Nat) : Int)).map atS)) := hM5.own g.ar.toNat hlo
    have hrr : ((g.ar.toNat : Nat) : Int) = g.ar := by omega
    have hcn := cnt_le (cgL P) g.ar
    rw [map2_len] at hcn
    simp -implicitDefEqProofs only [go_sem, Nat.reduceBEq, Nat.reduceAdd, eq_self, true_and, and_true, and_self, List.getElem?_cons_zero, List.getElem?_cons_succ, Nat.reduceLeDiff, Nat.zero_add, Nat.reduceSub, Nat.le_refl, hc5, hod]
    have hlit5 : (⟨τ5.objs, τ5.live ++ [true]⟩ : St).live[τ5.live.length]? = some true := by simp
    refine ao_at (ao_push (e := spC (atS g)) hown (by rw [spsV_len, List.length_map, ownL_len, hrr]; omega) rfl hlit5) ?_
    rintro v τ6 ⟨hr6, hlv6, hol6, ho6, hj6⟩
    obtain ⟨hi6, hM7, hto8⟩ := hM5.push (x := atS g) (τ' := τ6) (v := v) hlo (by rw [spsV_snoc _ (atS g)]; exact hr6) hlv6 hol6 ho6 (id hj6) (ow' := fun r => (ownL (putC g (cgL P)) r).map atS) (by
      show (ownL (putC g (cgL P)) _).map atS = (ownL (cgL P) _).map atS ++ [atS g]
      rw [hrr, hfit.own h.good]; simp) (fun kk hkk => by
      show (ownL (putC g (cgL P)) _).map atS = (ownL (cgL P) _).map atS
      rw [putC_own (by omega)])
    have hi5 := rowOf_ne hown hc5
    have hl6 : τ6.live[rq]? = some true := by rw [hlv6]; exact (ext_live τ5 true).live _ hl5
    refine ⟨fun L hL => by cases hL; exact ⟨fun q hq o ho => by rw [List.mem_singleton] at hq; subst hq; exact ho6 _ o (fun n cap z e => hi5 n cap z e) ho, fun r hr => by rw [hlv6]; exact hr⟩, ?_⟩
    obtain ⟨j6, n6, c6, rfl, -, -⟩ := hj6
    have hov := ov_over hlo
    have hto9 := hto7.trans hto8
    have hfin : LogIs (τ6.setC i (.int .i64 room :: s1 :: .map (some m) :: ov.set g.ar.toNat (.osl j6 n6 c6 2))) i (some m) s1 (ov.set g.ar.toNat (.osl j6 n6 c6 2)) room P1 := by
      refine LMid.log ?_ (by rw [hL1]; exact hgood)
      rw [hL1]
      exact hM7
    have hnew2 : ∀ p ∈ P1, p ∈ P ∨ NewS σ (τ6.setC i (.int .i64 room :: s1 :: .map (some m) :: ov.set g.ar.toNat (.osl j6 n6 c6 2))) p.1 1 (intsV .i64 p.2.deps) := fun p hp => by
      rcases hmem p hp with hp | rfl
      · exact .inl hp
      · exact .inr ⟨rq, rfl, hl6, Nat.le_trans e1.llen hgq⟩
    clear hM7 hto8 hr6 hi5 hM5
    simp -implicitDefEqProofs only [go_sem, Nat.reduceBEq, Nat.reduceAdd, eq_self, true_and, and_true, and_self, List.getElem?_cons_zero, List.getElem?_cons_succ, Nat.reduceLeDiff, Nat.zero_add, Nat.reduceSub, Nat.le_refl, hi6, hov, flats, V.flat]
    refine ⟨hr, by omega, ?_⟩
    refine q2 _ _ ?_
    simp -implicitDefEqProofs only [go_sem, Nat.reduceBEq, Nat.reduceAdd, eq_self, true_and, and_true, and_self, List.getElem?_cons_zero, List.getElem?_cons_succ, Nat.reduceLeDiff, Nat.zero_add, Nat.reduceSub, Nat.le_refl, Nat.lt_irrefl]
    exact ⟨_, _, _, hfin, hL1.trans hadd.symm, hto9, hnew2⟩
end
end Go.VL.opl

namespace Go.VL.opl
open Go Go.VL Go.Proofs Go.IntWalk Go.VL.st Go.VL.row

theorem Trims.uniq {l a b : List Int} {y z : Nat} (h : Trims l a y) (k : Trims l b z) : a = b := by
  have key : ∀ {a b : List Int} {y z : Nat}, a ++ List.replicate y 0 = b ++ List.replicate z 0 → (a = [] ∨ ∃ c x, a = c ++ [x] ∧ x ≠ 0) → a.length ≤ b.length := by
    intro a b y z e ha
    rcases ha with rfl | ⟨c, x, rfl, hx⟩
    · exact Nat.zero_le _
    · refine Nat.le_of_not_lt fun hl => hx ?_
      have h1 := congrArg (fun l => l[c.length]?) e
      rw [List.append_assoc, List.getElem?_append_right (Nat.le_refl _), List.singleton_append] at h1
      rw [Nat.sub_self, List.getElem?_cons_zero, List.getElem?_append_right (by simp at hl; omega)] at h1
      obtain ⟨_, h2⟩ := List.getElem?_eq_some_iff.1 h1.symm
      simpa using h2.symm
  have h1 := key (h.1.symm.trans k.1) h.2
  have h2 := key (k.1.symm.trans h.1) k.2
  exact (List.append_inj (h.1.symm.trans k.1) (by omega)).1
theorem trims_end (l : List Int) : ∀ (n : Nat), n ≤ l.length → (∀ (k : Nat) (h : k < l.length), n ≤ k → l[k] = 0) → (n = 0 ∨ ∃ h : n - 1 < l.length, l[n - 1] ≠ 0) → Trims l (l.take n) (l.length - n) := by
  intro n hn hz hx
  have e : l.drop n = List.replicate (l.length - n) 0 := by
    refine List.ext_getElem (by simp) fun i h1 h2 => ?_
    rw [List.getElem_drop, List.getElem_replicate]
    exact hz _ _ (by omega)
  refine ⟨by rw [← e, List.take_append_drop], ?_⟩
  rcases hx with rfl | ⟨h, h2⟩
  · exact .inl (by simp)
  · by_cases h0 : n = 0
    · exact .inl (by rw [h0]; simp)
    · refine .inr ⟨l.take (n - 1), l[n - 1], ?_, h2⟩
      rw [← List.take_succ_eq_append_getElem h]
      congr 1; omega
theorem lastR_max (L : List Cg) (g : Cg) (h : ∀ x ∈ L, x.ac ≤ g.ac) (h0 : 0 ≤ g.ac) : lastR (L ++ [g]) = g.ac := by
  have hb : ∀ (L : List Cg), (∀ x ∈ L, x.ac ≤ g.ac) → lastR L ≤ g.ac := by
    intro L
    unfold lastR
    suffices ∀ (L : List Cg) (n : Int), n ≤ g.ac → (∀ x ∈ L, x.ac ≤ g.ac) → L.foldl (fun n g => max n g.ac) n ≤ g.ac from fun h => this L 0 h0 h
    intro L
    induction L with
    | nil => intro n hn _; exact hn
    | cons a t ih => intro n hn ht; exact ih _ (by have := ht a (by simp); show max n a.ac ≤ g.ac; omega) fun x hx => ht x (by simp [hx])
  have := hb L h
  rw [lastR_snoc]
  omega
theorem Good.last {L : List Cg} (h : Good L) {n : Nat} (hn : n + 1 = L.length) : lastR L = (L[n]'(by omega)).ac := by
  have e : L = L.take n ++ [L[n]'(by omega)] := by
    rw [← List.take_succ_eq_append_getElem (by omega), List.take_of_length_le (by omega)]
  have hs := h.srt
  conv => lhs; rw [e]
  refine lastR_max _ _ (fun x hx => ?_) ?_
  · obtain ⟨k, hk, rfl⟩ := List.getElem_of_mem hx
    rw [List.getElem_take]
    have hk' : k < n := by simp at hk; omega
    have := List.pairwise_iff_getElem.1 hs k n (by omega) (by omega) hk'
    simp only [st.less, Bool.or_eq_true, Bool.and_eq_true, decide_eq_true_eq, atS] at this
    rcases this with h | ⟨h, -⟩ <;> have := of_decide_eq_true h <;> omega
  · have := (chk_has (h.chk _ (List.getElem_mem (by omega : n < L.length)))).2.1
    omega
section
variable {σ : St} {i m : Nat} {mo : Option Nat} {s d v : V} {ov : List V} {room r n : Int} {P : List (V × Cg)} {g : Cg} {x : Sp} {l : List Int}
set_option maxRecDepth 100000 in
set_option maxHeartbeats 4000000 in
theorem last_ok (h : LogIs σ i mo s ov room P) (hl : P.length ≤ 1000000) : CallA Try.prog 54 [.ptr (some (i, 0))] σ fun w σ' => w = .int .i64 (lastR (cgL P)) ∧ σ' = σ := by
  have h1 := h.cells
  refine fn_at Try.func54 (by decide) comp54 rfl fun Q q1 q2 => ?_
  simp -implicitDefEqProofs only [go_sem, Nat.reduceBEq, Nat.reduceAdd, eq_self, true_and, and_true, and_self, List.getElem?_cons_zero, List.getElem?_cons_succ, Nat.reduceLeDiff, Nat.zero_add, Nat.reduceSub, Nat.le_refl, c54]
  refine call_at (len_ok h) ?_
  rintro w τ ⟨rfl, hτ⟩
  have hτ := hτ.symm
  subst hτ
  refine ⟨kept_none, ?_⟩
  by_cases h0 : P.length = 0
  · have hP : P = [] := List.length_eq_zero_iff.1 h0
    have hd0 : decide ((P.length : Int) = 0) = true := by rw [h0]; rfl
    rw [show lastR (cgL P) = 0 from by rw [hP]; rfl] at q2
    simp -implicitDefEqProofs only [go_sem, Nat.reduceBEq, Nat.reduceAdd, eq_self, true_and, and_true, and_self, List.getElem?_cons_zero, List.getElem?_cons_succ, Nat.reduceLeDiff, Nat.zero_add, Nat.reduceSub, Nat.le_refl, hd0]
    refine q2 _ _ ?_
    simp -implicitDefEqProofs only [go_sem, Nat.reduceBEq, Nat.reduceAdd, eq_self, true_and, and_true, and_self, List.getElem?_cons_zero, List.getElem?_cons_succ, Nat.reduceLeDiff, Nat.zero_add, Nat.reduceSub, Nat.le_refl, Nat.lt_irrefl]
  have hd0 : decide ((P.length : Int) = 0) = false := by rw [decide_eq_false_iff_not]; omega
  obtain ⟨k, hk⟩ : ∃ k, k + 1 = P.length := ⟨P.length - 1, by omega⟩
  have hkl : k < P.length := by omega
  have hla := h.good.last (n := k) (by rw [map2_len]; exact hk)
  rw [List.getElem_map] at hla
  rw [hla] at q2
  have hw : IntKind.i64.wrap ((P.length : Int) - 1) = (k : Int) := by rw [i64_in _ (by omega)]; omega
  have hget := cg_drop0 hkl
  have hcl := cgsV_len P
  rcases id h.row with ⟨R, q, rfl, he⟩ | ⟨j', cap, rfl, ho, -, hc⟩
  · have : (cgsV P).length = 0 := by rw [he]; rfl
    omega
  generalize hp : P[k] = p at hget hla q2
  simp -implicitDefEqProofs only [go_sem, Nat.reduceBEq, Nat.reduceAdd, eq_self, true_and, and_true, and_self, List.getElem?_cons_zero, List.getElem?_cons_succ, Nat.reduceLeDiff, Nat.zero_add, Nat.reduceSub, Nat.le_refl, hd0, h1, ho, hcl, hw, hget, cgC, Int.toNat_natCast, Nat.add_zero]
  refine ⟨⟨by omega, by omega⟩, ?_⟩
  refine q2 _ _ ?_
  simp -implicitDefEqProofs only [go_sem, Nat.reduceBEq, Nat.reduceAdd, eq_self, true_and, and_true, and_self, List.getElem?_cons_zero, List.getElem?_cons_succ, Nat.reduceLeDiff, Nat.zero_add, Nat.reduceSub, Nat.le_refl, Nat.lt_irrefl]
end
end Go.VL.opl

namespace Go.VL.opl
open Go Go.VL Go.Proofs Go.IntWalk Go.VL.st Go.VL.row

def v0 : V := .sl true .pub 0 []
section
variable {σ : St} {i m : Nat} {mo : Option Nat} {s d v : V} {ov : List V} {room r n : Int} {P : List (V × Cg)} {g : Cg} {x : Sp} {l : List Int}
set_option maxRecDepth 100000 in
set_option maxHeartbeats 4000000 in
theorem ptrim_ok (hv : RdS σ v 1 (intsV .i64 l)) (hlen : l.length ≤ 1000000) :
    CallA Try.prog 63 [v] σ fun w σ' => (∃ out z, Trims l out z ∧ NewS σ σ' w 1 (intsV .i64 out)) ∧ Ext σ σ' ∧ σ'.objs = σ.objs := by
  obtain ⟨b, R, z, rfl, -, -⟩ := id hv
  refine fn_at Try.func63 (by decide) comp63 rfl fun Q q1 q2 => ?_
  have hl := intsV_len l
  simp -implicitDefEqProofs only [go_sem, Nat.reduceBEq, Nat.reduceAdd, eq_self, true_and, and_true, and_self, List.getElem?_cons_zero, List.getElem?_cons_succ, Nat.reduceLeDiff, Nat.zero_add, Nat.reduceSub, Nat.le_refl, c63]
  refine loop_at (fun (y : Nat) => ⟨[(0, .v (.sl b R z (intsV .i64 l))), (3, .v (.int .i64 y))], []⟩)
    (fun y t => y ≤ l.length ∧ t = σ ∧ ∀ (k : Nat) (h : k < l.length), y ≤ k → l[k] = 0) (fun y => y) l.length ?_ ?_ ?_
  · refine .inr ?_
    simp -implicitDefEqProofs only [go_sem, Nat.reduceBEq, Nat.reduceAdd, eq_self, true_and, and_true, and_self, List.getElem?_cons_zero, List.getElem?_cons_succ, Nat.reduceLeDiff, Nat.zero_add, Nat.reduceSub, Nat.le_refl, hl]
    try exact ⟨rfl, rfl⟩
    try rfl
  · exact ⟨Nat.le_refl _, rfl, fun k h h2 => by omega⟩
  rintro y τ ⟨g1, hτ, g3⟩ Z z1 z2 z3
  have hτ := hτ.symm
  subst hτ
  have htk : List.take (y : Int).toNat (intsV .i64 l) = intsV .i64 (l.take y) := by rw [Int.toNat_natCast]; unfold intsV; rw [List.map_take]
  have hsz : b = true ∨ z = 1 := by
    obtain ⟨_, _, _, e, h1, h2⟩ := id hv
    cases e
    exact h2.imp_right fun h => h.2
  have hz1 := (rd_src hv).2
  have hsb : b = true ∨ rd (σ.live ++ [true]) R.toView := by
    obtain ⟨_, _, _, e, h1, h2⟩ := hv.ext (ext_live σ true)
    cases e
    refine h2.imp_right fun h => ?_
    have := h.1
    cases R <;> exact this
  cases h0 : decide ((y : Int) > 0)
  · have hy0 : y = 0 := by have := of_decide_eq_false h0; omega
    have htr := trims_end l y g1 g3 (.inl hy0)
    simp -implicitDefEqProofs only [go_sem, Nat.reduceBEq, Nat.reduceAdd, eq_self, true_and, and_true, and_self, List.getElem?_cons_zero, List.getElem?_cons_succ, Nat.reduceLeDiff, Nat.zero_add, Nat.reduceSub, Nat.le_refl, h0]
    refine z2 _ _ _ ?_
    simp -implicitDefEqProofs only [go_sem, Nat.reduceBEq, Nat.reduceAdd, eq_self, true_and, and_true, and_self, List.getElem?_cons_zero, List.getElem?_cons_succ, Nat.reduceLeDiff, Nat.zero_add, Nat.reduceSub, Nat.le_refl, hl]
    refine ⟨⟨hsz, by omega, by omega, by omega⟩, ⟨.inr trivial, .inr (live_last _ _), ⟨hsb, hz1.imp_right fun h => by rw [h]; simp⟩, by rw [htk, intsV_len, List.length_take]; omega⟩, ?_⟩
    refine q2 _ _ ?_
    simp -implicitDefEqProofs only [go_sem, Nat.reduceBEq, Nat.reduceAdd, eq_self, true_and, and_true, and_self, List.getElem?_cons_zero, List.getElem?_cons_succ, Nat.reduceLeDiff, Nat.zero_add, Nat.reduceSub, Nat.le_refl, Nat.lt_irrefl]
    exact ⟨⟨_, _, htr, _, by rw [htk], live_last' _ _ _, by simp⟩, ext_kill (ext_push (Ext.refl σ)) (Nat.le_refl _)⟩
  · have hp := of_decide_eq_true h0
    have hy : y - 1 < l.length := by have := of_decide_eq_true h0; omega
    have hw : IntKind.i64.wrap ((y : Int) - 1) = ((y - 1 : Nat) : Int) := by have := of_decide_eq_true h0; rw [i64_in _ (by omega)]; omega
    have hget := intsV_get hy
    obtain ⟨k1, k2⟩ := rdl hv (intsV_ne hy)
    simp -implicitDefEqProofs only [go_sem, Nat.reduceBEq, Nat.reduceAdd, eq_self, true_and, and_true, and_self, List.getElem?_cons_zero, List.getElem?_cons_succ, Nat.reduceLeDiff, Nat.zero_add, Nat.reduceSub, Nat.le_refl, h0, hw, hget]
    refine ⟨⟨by omega, by rw [hl]; omega, k2⟩, k1, ?_⟩
    cases hx : decide (l[y - 1] = 0)
    · have htr := trims_end l y g1 g3 (.inr ⟨hy, of_decide_eq_false hx⟩)
      simp -implicitDefEqProofs only [go_sem, Nat.reduceBEq, Nat.reduceAdd, eq_self, true_and, and_true, and_self, List.getElem?_cons_zero, List.getElem?_cons_succ, Nat.reduceLeDiff, Nat.zero_add, Nat.reduceSub, Nat.le_refl, Nat.lt_irrefl]
      refine z2 _ _ _ ?_
      simp -implicitDefEqProofs only [go_sem, Nat.reduceBEq, Nat.reduceAdd, eq_self, true_and, and_true, and_self, List.getElem?_cons_zero, List.getElem?_cons_succ, Nat.reduceLeDiff, Nat.zero_add, Nat.reduceSub, Nat.le_refl, hl]
      refine ⟨⟨hsz, by omega, by omega, by omega⟩, ⟨.inr trivial, .inr (live_last _ _), ⟨hsb, hz1.imp_right fun h => by rw [h]; simp⟩, by rw [htk, intsV_len, List.length_take]; omega⟩, ?_⟩
      refine q2 _ _ ?_
      simp -implicitDefEqProofs only [go_sem, Nat.reduceBEq, Nat.reduceAdd, eq_self, true_and, and_true, and_self, List.getElem?_cons_zero, List.getElem?_cons_succ, Nat.reduceLeDiff, Nat.zero_add, Nat.reduceSub, Nat.le_refl, Nat.lt_irrefl]
      exact ⟨⟨_, _, htr, _, by rw [htk], live_last' _ _ _, by simp⟩, ext_kill (ext_push (Ext.refl σ)) (Nat.le_refl _)⟩
    · simp -implicitDefEqProofs only [go_sem, Nat.reduceBEq, Nat.reduceAdd, eq_self, true_and, and_true, and_self, List.getElem?_cons_zero, List.getElem?_cons_succ, Nat.reduceLeDiff, Nat.zero_add, Nat.reduceSub, Nat.le_refl, hw]
      refine z1 (y - 1) _ _ (.inr ?_) (by omega) ⟨by omega, rfl, fun k h h2 => ?_⟩
      · simp -implicitDefEqProofs only [go_sem, Nat.reduceBEq, Nat.reduceAdd, eq_self, true_and, and_true, and_self, List.getElem?_cons_zero, List.getElem?_cons_succ, Nat.reduceLeDiff, Nat.zero_add, Nat.reduceSub, Nat.le_refl, Nat.lt_irrefl]
        try exact ⟨rfl, rfl⟩
        try rfl
      · by_cases e : k = y - 1
        · subst e; exact of_decide_eq_true hx
        · exact g3 k h (by omega)
theorem intsV_append (a b : List Int) : intsV .i64 (a ++ b) = intsV .i64 a ++ intsV .i64 b := by simp [intsV]
theorem range_snoc (L : List Cg) (y : Nat) : (List.range (y + 1)).map (fun (r : Nat) => ((cnt L (r : Int) : Nat) : Int)) = (List.range y).map (fun (r : Nat) => ((cnt L (r : Int) : Nat) : Int)) ++ [((cnt L (y : Int) : Nat) : Int)] := by
  rw [List.range_succ, List.map_append]; rfl
set_option maxRecDepth 100000 in
set_option maxHeartbeats 4000000 in
theorem pclock_ok (h : LogIs σ i mo s ov room P) : CallA Try.prog 39 [.ptr (some (i, 0))] σ fun w σ' => ClkR σ' w (cgL P) ∧ Ext σ σ' := by
  refine fn_at Try.func39 (by decide) comp39 rfl fun Q q1 q2 => ?_
  simp -implicitDefEqProofs only [go_sem, Nat.reduceBEq, Nat.reduceAdd, eq_self, true_and, and_true, and_self, List.getElem?_cons_zero, List.getElem?_cons_succ, Nat.reduceLeDiff, Nat.zero_add, Nat.reduceSub, Nat.le_refl, c39]
  refine loop_at (fun (y : Nat × V) => ⟨[(0, .v (.ptr (some (i, 0)))), (3, .v y.2), (7, .v (.int .i64 y.1))], []⟩)
    (fun y t => y.1 ≤ 64 ∧ Ext σ t ∧ Acc σ.live.length t y.2 1 (intsV .i64 ((List.range y.1).map fun (r : Nat) => ((cnt (cgL P) (r : Int) : Nat) : Int)))) (fun y => 64 - y.1) (0, .sl true .pub 1 []) ?_ ?_ ?_
  · refine .inr ?_
    simp -implicitDefEqProofs only [go_sem, Nat.reduceBEq, Nat.reduceAdd, eq_self, true_and, and_true, and_self, List.getElem?_cons_zero, List.getElem?_cons_succ, Nat.reduceLeDiff, Nat.zero_add, Nat.reduceSub, Nat.le_refl, Nat.lt_irrefl]
    try exact ⟨rfl, rfl⟩
    try rfl
  · exact ⟨Nat.zero_le _, .refl _, .inl ⟨rfl, rfl⟩⟩
  rintro ⟨y, a⟩ τ ⟨g1, g2, g3⟩ Z z1 z2 z3
  simp only at g1 g3
  simp -implicitDefEqProofs only [go_sem, Nat.reduceBEq, Nat.reduceAdd, eq_self, true_and, and_true, and_self, List.getElem?_cons_zero, List.getElem?_cons_succ, Nat.reduceLeDiff, Nat.zero_add, Nat.reduceSub, Nat.le_refl, Nat.lt_irrefl]
  refine CondW_b (fun hcc => ?_) (fun hcc => ?_)
  · have hi : y < 64 := by have := of_decide_eq_true hcc; omega
    have hy64 : (0 : Int) ≤ (y : Int) ∧ (y : Int) < 64 := by omega
    have hwy : IntKind.i64.wrap ((y : Int) + 1) = ((y + 1 : Nat) : Int) := by rw [i64_in _ (by omega)]; omega
    have h1 := (h.ext g2).cells
    have hsn := range_snoc (cgL P) y
    obtain ⟨hlo, hwo⟩ := h.ownc hy64
    have hod := ov_drop hlo
    generalize ov[(y : Int).toNat] = o at hwo hod
    rw [Int.toNat_natCast] at hod
    have hll : (intsV .i64 ((List.range y).map fun (r : Nat) => ((cnt (cgL P) (r : Int) : Nat) : Int))).length = y := by rw [intsV_len]; simp
    generalize ((List.range y).map fun (r : Nat) => ((cnt (cgL P) (r : Int) : Nat) : Int)) = A at *
    generalize hB : ((List.range (y + 1)).map fun (r : Nat) => ((cnt (cgL P) (r : Int) : Nat) : Int)) = B at *
    rcases hwo with ⟨R, q, rfl, hc0⟩ | ⟨jo, cap, rfl, -⟩ <;> rcases g3 with ⟨e3, rfl⟩ | ⟨qa, rfl, g4, g5⟩
    all_goals
      first | rw [hc0] at hsn | skip
      simp -implicitDefEqProofs only [go_sem, Nat.reduceBEq, Nat.reduceAdd, eq_self, true_and, and_true, and_self, List.getElem?_cons_zero, List.getElem?_cons_succ, Nat.reduceLeDiff, Nat.zero_add, Nat.reduceSub, Nat.le_refl, h1, hod, Int.toNat_natCast]
    case' inl.inl | inr.inl =>
      refine ⟨hy64, ⟨.inl trivial, rfl, .inr (live_last _ _), .inl trivial⟩, ?_⟩
      have hy0 : y = 0 := by rw [← hll, e3]; rfl
      refine z1 (y + 1, .sl false (.own _) 1 (intsV .i64 B)) _ _ (.inr ?_) (by simp only; omega) ⟨by simp only; omega, ext_push (ext_push g2), by rw [hB]; exact .inr ⟨_, rfl, live_last _ _, by have := g2.llen; show _ ≤ (τ.live ++ [true]).length; simp only [List.length_append, List.length_singleton]; omega⟩⟩
      simp -implicitDefEqProofs only [go_sem, Nat.reduceBEq, Nat.reduceAdd, eq_self, true_and, and_true, and_self, List.getElem?_cons_zero, List.getElem?_cons_succ, Nat.reduceLeDiff, Nat.zero_add, Nat.reduceSub, Nat.le_refl, Nat.lt_irrefl]
      rw [hsn, intsV_append, e3, hwy]
      try exact ⟨rfl, rfl⟩
    case' inl.inr | inr.inr =>
      refine ⟨hy64, ⟨.inr trivial, .inr ((ext_live _ _).live _ g4), ⟨.inr (live_last _ _), .inl trivial⟩, by rw [hll]; omega⟩, ?_⟩
      refine z1 (y + 1, .sl false (.own _) 1 (intsV .i64 B)) _ _ (.inr ?_) (by simp only; omega) ⟨by simp only; omega, ext_kill (ext_push g2) g5, by rw [hB]; exact .inr ⟨_, rfl, live_last' _ _ _, by have := g2.llen; simp only [List.length_append, List.length_singleton]; omega⟩⟩
      simp -implicitDefEqProofs only [go_sem, Nat.reduceBEq, Nat.reduceAdd, eq_self, true_and, and_true, and_self, List.getElem?_cons_zero, List.getElem?_cons_succ, Nat.reduceLeDiff, Nat.zero_add, Nat.reduceSub, Nat.le_refl, Nat.lt_irrefl]
      rw [hsn, intsV_append, hwy]
      try exact ⟨rfl, rfl⟩
  have hy : y = 64 := by have := of_decide_eq_false (by simpa using hcc : decide ((y : Int) < 64) = false); omega
  subst hy
  simp -implicitDefEqProofs only [go_sem, Nat.reduceBEq, Nat.reduceAdd, eq_self, true_and, and_true, and_self, List.getElem?_cons_zero, List.getElem?_cons_succ, Nat.reduceLeDiff, Nat.zero_add, Nat.reduceSub, Nat.le_refl, Nat.lt_irrefl]
  refine z2 _ _ _ ?_
  simp -implicitDefEqProofs only [go_sem, Nat.reduceBEq, Nat.reduceAdd, eq_self, true_and, and_true, and_self, List.getElem?_cons_zero, List.getElem?_cons_succ, Nat.reduceLeDiff, Nat.zero_add, Nat.reduceSub, Nat.le_refl, Nat.lt_irrefl]
  refine call_at (ptrim_ok (g3.rd) (by simp)) ?_
  rintro w τ2 ⟨⟨out, z, htr, hn⟩, e2, -⟩
  refine ⟨kept_none, ?_⟩
  simp -implicitDefEqProofs only [go_sem, Nat.reduceBEq, Nat.reduceAdd, eq_self, true_and, and_true, and_self, List.getElem?_cons_zero, List.getElem?_cons_succ, Nat.reduceLeDiff, Nat.zero_add, Nat.reduceSub, Nat.le_refl, Nat.lt_irrefl]
  refine q2 _ _ ?_
  simp -implicitDefEqProofs only [go_sem, Nat.reduceBEq, Nat.reduceAdd, eq_self, true_and, and_true, and_self, List.getElem?_cons_zero, List.getElem?_cons_succ, Nat.reduceLeDiff, Nat.zero_add, Nat.reduceSub, Nat.le_refl, Nat.lt_irrefl]
  exact ⟨⟨out, z, htr, hn.rd⟩, g2.trans e2⟩
end
end Go.VL.opl

namespace Go.VL.opl
open Go Go.VL Go.Proofs Go.IntWalk Go.VL.st Go.VL.row

/-- Changes all of whose slices are of late rights. -/
def FrC (lo : Nat) (τ : St) (w : V) (O : List (V × Cg)) : Prop :=
  ((O = [] ∧ ∃ z, w = .sl true .pub z []) ∨ ∃ q, w = .sl false (.own q) 13 (cgsV O) ∧ τ.live[q]? = some true ∧ lo ≤ q ∧ ∀ p ∈ O, ∀ n es, p.1 ≠ .sl false (.own q) n es) ∧ ∀ p ∈ O, ∃ q, p.1 = .sl false (.own q) 1 (intsV .i64 p.2.deps) ∧ τ.live[q]? = some true ∧ lo ≤ q
theorem FrC.keep {lo : Nat} {τ τ' : St} {w : V} {O : List (V × Cg)} (h : FrC lo τ w O) (k : ∀ r, lo ≤ r → τ.live[r]? = some true → τ'.live[r]? = some true) : FrC lo τ' w O := by
  refine ⟨h.1.imp_right ?_, fun p hp => ?_⟩
  · rintro ⟨q, e, h1, h2, h3⟩
    exact ⟨q, e, k _ h2 h1, h2, h3⟩
  · obtain ⟨q, e, h1, h2⟩ := h.2 p hp
    exact ⟨q, e, k _ h2 h1, h2⟩
theorem FrC.ext {lo : Nat} {τ τ' : St} {w : V} {O : List (V × Cg)} (h : FrC lo τ w O) (k : Ext τ τ') : FrC lo τ' w O := h.keep fun r _ => k.live r
theorem FrC.nil (lo : Nat) (τ : St) (z : Nat) : FrC lo τ (.sl true .pub z []) [] := ⟨.inl ⟨rfl, z, rfl⟩, fun p hp => by cases hp⟩
theorem FrC.rdS {lo : Nat} {τ : St} {w : V} {O : List (V × Cg)} (h : FrC lo τ w O) : RdS τ w 13 (cgsV O) := by
  rcases h.1 with ⟨rfl, z, rfl⟩ | ⟨q, rfl, h1, -⟩
  · exact ⟨_, _, _, rfl, fun _ => rfl, .inl rfl⟩
  · exact ⟨_, _, _, rfl, by simp, .inr ⟨h1, rfl⟩⟩
theorem FrC.rds {lo : Nat} {τ : St} {w : V} {O : List (V × Cg)} (h : FrC lo τ w O) : Rds τ O := fun p hp => by
  obtain ⟨q, e, h1, -⟩ := h.2 p hp
  rw [e]; exact ⟨_, _, _, rfl, by simp, .inr ⟨h1, rfl⟩⟩
theorem FrC.rd {lo : Nat} {τ : St} {w : V} {O : List (V × Cg)} (h : FrC lo τ w O) : RdC τ w (O.map (·.2)) := ⟨O, rfl, h.rdS, h.rds⟩
theorem own_inj {q q' n n' : Nat} {es es' : List (List V)} (h : V.sl false (.own q) n es = V.sl false (.own q') n' es') : q = q' := by cases h; rfl
/-- append of one more. -/
theorem FrC.app' {lo : Nat} {τ τ2 : St} {q : Nat} {O : List (V × Cg)} {x : V} {g : Cg} (h : FrC lo τ (.sl false (.own q) 13 (cgsV O)) O) (hev : ∀ r : Nat, τ.live[r]? = some true → τ2.live[r]? = some true) (hll : τ.live.length ≤ τ2.live.length) (hx : NewS τ τ2 x 1 (intsV .i64 g.deps)) (hlo : lo ≤ τ.live.length) :
    FrC lo ⟨τ2.objs, kill (τ2.live ++ [true]) (.own q) ++ [true]⟩ (.sl false (.own (τ2.live ++ [true]).length) 13 (cgsV O ++ [cgC x g])) (O ++ [(x, g)]) := by
  obtain ⟨q', e, h1, h2, h3⟩ : ∃ q', V.sl false (.own q) 13 (cgsV O) = .sl false (.own q') 13 (cgsV O) ∧ τ.live[q']? = some true ∧ lo ≤ q' ∧ ∀ p ∈ O, ∀ n es, p.1 ≠ .sl false (.own q') n es := by
    rcases h.1 with ⟨rfl, z, e⟩ | h
    · cases e
    · exact h
  have := own_inj e
  subst this
  have hql := (List.getElem?_eq_some_iff.1 h1).1
  obtain ⟨r, rfl, x1, x2⟩ := hx
  have hrl := (List.getElem?_eq_some_iff.1 x1).1
  have key : ∀ r, r ≠ q → τ2.live[r]? = some true → (kill (τ2.live ++ [true]) (.own q) ++ [true])[r]? = some true := fun r hr h => by
    have hl := (List.getElem?_eq_some_iff.1 h).1
    simp only [kill]
    rw [List.getElem?_append_left (by simp; omega), List.getElem?_set_ne (Ne.symm hr), List.getElem?_append_left hl]
    exact h
  refine ⟨.inr ⟨_, by rw [cgsV_snoc], live_last' _ _ _, by simp only [List.length_append, List.length_singleton]; omega, fun p hp n es e => ?_⟩, fun p hp => ?_⟩
  · rcases List.mem_append.1 hp with hp | hp
    · obtain ⟨q2, e2, h4, -⟩ := h.2 p hp
      have h4' := (List.getElem?_eq_some_iff.1 (hev _ h4)).1
      rw [e2] at e
      have := own_inj e
      simp only [List.length_append, List.length_singleton] at this
      omega
    · rw [List.mem_singleton] at hp
      subst hp
      have := own_inj e
      simp only [List.length_append, List.length_singleton] at this
      omega
  · rcases List.mem_append.1 hp with hp | hp
    · obtain ⟨q2, e2, h4, h5⟩ := h.2 p hp
      exact ⟨q2, e2, key _ (fun e => h3 p hp _ _ (by rw [e2, e])) (hev _ h4), h5⟩
    · rw [List.mem_singleton] at hp
      subst hp
      exact ⟨r, rfl, key _ (by omega) x1, by omega⟩
theorem FrC.app {lo : Nat} {τ τ2 : St} {q : Nat} {O : List (V × Cg)} {x : V} {g : Cg} (h : FrC lo τ (.sl false (.own q) 13 (cgsV O)) O) (he : Ext τ τ2) (hx : NewS τ τ2 x 1 (intsV .i64 g.deps)) (hlo : lo ≤ τ.live.length) :
    FrC lo ⟨τ2.objs, kill (τ2.live ++ [true]) (.own q) ++ [true]⟩ (.sl false (.own (τ2.live ++ [true]).length) 13 (cgsV O ++ [cgC x g])) (O ++ [(x, g)]) := h.app' he.live he.llen hx hlo
theorem FrC.app0' {lo : Nat} {τ τ2 : St} {x : V} {g : Cg} (hll : τ.live.length ≤ τ2.live.length) (hx : NewS τ τ2 x 1 (intsV .i64 g.deps)) (hlo : lo ≤ τ.live.length) :
    FrC lo ⟨τ2.objs, (τ2.live ++ [true]) ++ [true]⟩ (.sl false (.own (τ2.live ++ [true]).length) 13 [cgC x g]) [(x, g)] := by
  obtain ⟨r, rfl, x1, x2⟩ := hx
  have hrl := (List.getElem?_eq_some_iff.1 x1).1
  refine ⟨.inr ⟨_, rfl, live_last _ _, by simp only [List.length_append, List.length_singleton]; omega, fun p hp n es e => ?_⟩, fun p hp => ?_⟩
  · rw [List.mem_singleton] at hp
    subst hp
    have := own_inj e
    simp only [List.length_append, List.length_singleton] at this
    omega
  · rw [List.mem_singleton] at hp
    subst hp
    refine ⟨r, rfl, ?_, by omega⟩
    show ((τ2.live ++ [true]) ++ [true])[r]? = some true
    rw [List.getElem?_append_left (by simp; omega), List.getElem?_append_left hrl]
    exact x1
theorem FrC.app0 {lo : Nat} {τ τ2 : St} {x : V} {g : Cg} (he : Ext τ τ2) (hx : NewS τ τ2 x 1 (intsV .i64 g.deps)) (hlo : lo ≤ τ.live.length) :
    FrC lo ⟨τ2.objs, (τ2.live ++ [true]) ++ [true]⟩ (.sl false (.own (τ2.live ++ [true]).length) 13 [cgC x g]) [(x, g)] := FrC.app0' he.llen hx hlo
/-- What Each goes over. -/
def eachL (L : List Cg) (k : List Int) : List Cg := bif decide (clockI k = 0) then allR L k else []
section
variable {σ : St} {i m j y : Nat} {mo : Option Nat} {s d v kv w : V} {ov : List V} {room r n : Int} {P O : List (V × Cg)} {g : Cg} {x : Sp} {l k : List Int}
set_option maxRecDepth 100000 in
set_option maxHeartbeats 1000000 in
/-- The closure. -/
theorem each1_ok (J : List (V × Cg) → St → Prop) (K : St → Prop) (hj : σ.objs[j]? = some (.cells [w])) (hw : RdS σ w 13 (cgsV O)) (hO : O.length ≤ 1000000) (hOd : ∀ p ∈ O, p.2.deps.length ≤ 2000000)
    (hst : J O σ) (hJ : ∀ R τ, J R τ → RdS τ w 13 (cgsV O) ∧ Rds τ O)
    (hY : ∀ p R τ τ' x, J (p :: R) τ → Ext τ τ' → τ'.objs = τ.objs → NewS τ τ' x 1 (intsV .i64 p.2.deps) → YldA Try.prog y [cgV x p.2] τ' fun v τ2 => v = .bool true ∧ J R τ2 ∨ v = .bool false ∧ K τ2) (h0 : ∀ τ, J [] τ → K τ) :
    CallA Try.prog 46 [yv y, .ptr (some (j, 0))] σ fun _ σ' => K σ' := by
  obtain ⟨b, R, z, rfl, -, -⟩ := id hw
  refine fn_at Try.func46 (by decide) comp46 rfl fun Q q1 q2 => ?_
  simp -implicitDefEqProofs only [go_sem, Nat.reduceBEq, Nat.reduceAdd, eq_self, true_and, and_true, and_self, List.getElem?_cons_zero, List.getElem?_cons_succ, Nat.reduceLeDiff, Nat.zero_add, Nat.reduceSub, Nat.le_refl, c46, hj]
  refine loop_at (fun (k : Nat) => ⟨[(0, .v (yv y)), (5, .v (.sl b R z (cgsV O))), (6, .v (.int .i64 (cgsV O).length)), (7, .v (.int .i64 k))], []⟩)
    (fun k τ => k ≤ O.length ∧ J (O.drop k) τ) (fun k => O.length - k) 0 ?_ ?_ ?_
  · refine .inr ?_
    simp -implicitDefEqProofs only [go_sem, Nat.reduceBEq, Nat.reduceAdd, eq_self, true_and, and_true, and_self, List.getElem?_cons_zero, List.getElem?_cons_succ, Nat.reduceLeDiff, Nat.zero_add, Nat.reduceSub, Nat.le_refl, Nat.lt_irrefl]
    try trivial
  · exact ⟨Nat.zero_le _, hst⟩
  rintro k τ ⟨g1, g2⟩ Z z1 z2 z3
  have hWl := cgsV_len O
  simp -implicitDefEqProofs only [go_sem, Nat.reduceBEq, Nat.reduceAdd, eq_self, true_and, and_true, and_self, List.getElem?_cons_zero, List.getElem?_cons_succ, Nat.reduceLeDiff, Nat.zero_add, Nat.reduceSub, Nat.le_refl, Nat.lt_irrefl]
  refine CondW_b (fun hc => ?_) (fun hc => ?_)
  · have hk : k < O.length := by simpa [cgsV_len] using hc
    obtain ⟨hr1, hr2⟩ := hJ _ _ g2
    obtain ⟨k1, k2⟩ := rdl hr1 (cgsV_ne hk)
    have hget := cgsV_get hk
    have hib : (k : Int) < (cgsV O).length := by omega
    have hdi := hr2 _ (List.getElem_mem hk)
    have hdl := hOd _ (List.getElem_mem hk)
    rw [List.drop_eq_getElem_cons hk] at g2
    generalize O[k] = p at hget g2 hdi hdl
    obtain ⟨d2, g⟩ := p
    simp only at hget hdi hdl
    obtain ⟨db, dr, dz, rfl, -, -⟩ := id hdi
    have hcp := pcopy_ok hdi (by omega)
    simp only [cgV, cgC] at hcp
    simp -implicitDefEqProofs only [go_sem, Nat.reduceBEq, Nat.reduceAdd, eq_self, true_and, and_true, and_self, List.getElem?_cons_zero, List.getElem?_cons_succ, Nat.reduceLeDiff, Nat.zero_add, Nat.reduceSub, Nat.le_refl, hget, cgC]
    refine ⟨⟨by omega, hib, k2⟩, k1, ?_⟩
    refine call_at hcp ?_
    rintro w τ2 ⟨e1, o1, x, rfl, hn⟩
    refine ⟨kept_none, ?_⟩
    simp -implicitDefEqProofs only [go_sem, Nat.reduceBEq, Nat.reduceAdd, eq_self, true_and, and_true, and_self, List.getElem?_cons_zero, List.getElem?_cons_succ, Nat.reduceLeDiff, Nat.zero_add, Nat.reduceSub, Nat.le_refl, Nat.lt_irrefl]
    refine yld_at (hY _ _ _ _ x g2 e1 o1 hn) ?_
    rintro v τ3 (⟨rfl, c1⟩ | ⟨rfl, c1⟩)
    · refine ⟨kept_none, ?_⟩
      simp -implicitDefEqProofs only [go_sem, Nat.reduceBEq, Nat.reduceAdd, eq_self, true_and, and_true, and_self, List.getElem?_cons_zero, List.getElem?_cons_succ, Nat.reduceLeDiff, Nat.zero_add, Nat.reduceSub, Nat.le_refl, Bool.not_true]
      refine z1 (k + 1) _ _ (.inr ?_) (by omega) ⟨by omega, c1⟩
      simp -implicitDefEqProofs only [go_sem, Nat.reduceBEq, Nat.reduceAdd, eq_self, true_and, and_true, and_self, List.getElem?_cons_zero, List.getElem?_cons_succ, Nat.reduceLeDiff, Nat.zero_add, Nat.reduceSub, Nat.le_refl, Nat.lt_irrefl]
      rw [i64_in _ (by omega)]; simp
    · refine ⟨kept_none, ?_⟩
      simp -implicitDefEqProofs only [go_sem, Nat.reduceBEq, Nat.reduceAdd, eq_self, true_and, and_true, and_self, List.getElem?_cons_zero, List.getElem?_cons_succ, Nat.reduceLeDiff, Nat.zero_add, Nat.reduceSub, Nat.le_refl, Bool.not_false]
      refine z3 _ _ ?_
      simp -implicitDefEqProofs only [go_sem, Nat.reduceBEq, Nat.reduceAdd, eq_self, true_and, and_true, and_self, List.getElem?_cons_zero, List.getElem?_cons_succ, Nat.reduceLeDiff, Nat.zero_add, Nat.reduceSub, Nat.le_refl, Nat.lt_irrefl]
      refine q2 _ _ ?_
      simp -implicitDefEqProofs only [go_sem, Nat.reduceBEq, Nat.reduceAdd, eq_self, true_and, and_true, and_self, List.getElem?_cons_zero, List.getElem?_cons_succ, Nat.reduceLeDiff, Nat.zero_add, Nat.reduceSub, Nat.le_refl, Nat.lt_irrefl]
      exact c1
  · have hk : ¬ k < O.length := by simpa [cgsV_len] using hc
    rw [List.drop_of_length_le (by omega)] at g2
    simp -implicitDefEqProofs only [go_sem, Nat.reduceBEq, Nat.reduceAdd, eq_self, true_and, and_true, and_self, List.getElem?_cons_zero, List.getElem?_cons_succ, Nat.reduceLeDiff, Nat.zero_add, Nat.reduceSub, Nat.le_refl, Nat.lt_irrefl]
    refine z2 _ _ _ ?_
    simp -implicitDefEqProofs only [go_sem, Nat.reduceBEq, Nat.reduceAdd, eq_self, true_and, and_true, and_self, List.getElem?_cons_zero, List.getElem?_cons_succ, Nat.reduceLeDiff, Nat.zero_add, Nat.reduceSub, Nat.le_refl, Nat.lt_irrefl]
    refine q1 _ _ ?_
    simp -implicitDefEqProofs only [go_sem, Nat.reduceBEq, Nat.reduceAdd, eq_self, true_and, and_true, and_self, List.getElem?_cons_zero, List.getElem?_cons_succ, Nat.reduceLeDiff, Nat.zero_add, Nat.reduceSub, Nat.le_refl, Nat.lt_irrefl]
    exact h0 _ g2
/-- What Each answers. -/
def EachIs (σ σ' : St) (v : V) (L : List Cg) : Prop := ∃ j w O, v = .fn 46 [.ptr (some (j, 0))] ∧ σ.objs.length ≤ j ∧ σ'.objs[j]? = some (.cells [w]) ∧ FrC σ.live.length σ' w O ∧ O.map (·.2) = L
set_option maxRecDepth 100000 in
set_option maxHeartbeats 4000000 in
theorem each_ok (h : LogIs σ i mo s ov room P) (hl : P.length ≤ 1000000) (hk : RdS σ kv 1 (intsV .i64 k)) : CallA Try.prog 13 [.ptr (some (i, 0)), kv] σ fun v σ' => EachIs σ σ' v (eachL (cgL P) k) ∧ Ext σ σ' := by
  refine fn_at Try.func13 (by decide) comp13 rfl fun Q q1 q2 => ?_
  simp -implicitDefEqProofs only [go_sem, Nat.reduceBEq, Nat.reduceAdd, eq_self, true_and, and_true, and_self, List.getElem?_cons_zero, List.getElem?_cons_succ, Nat.reduceLeDiff, Nat.zero_add, Nat.reduceSub, Nat.le_refl, c13]
  refine cut_at (fun G τ => Ext σ τ ∧ G = ⟨[(5, .v (.ptr (some (σ.objs.length, 0))))], []⟩ ∧ ∃ w O, τ.objs[σ.objs.length]? = some (.cells [w]) ∧ FrC σ.live.length τ w O ∧ O.map (·.2) = eachL (cgL P) k) ?_ ?_
  case refine_2 =>
    rintro G τ ⟨e1, rfl, w, O, h1, h2, h3⟩
    simp -implicitDefEqProofs only [go_sem, Nat.reduceBEq, Nat.reduceAdd, eq_self, true_and, and_true, and_self, List.getElem?_cons_zero, List.getElem?_cons_succ, Nat.reduceLeDiff, Nat.zero_add, Nat.reduceSub, Nat.le_refl, Nat.lt_irrefl]
    refine q2 _ _ ?_
    simp -implicitDefEqProofs only [go_sem, Nat.reduceBEq, Nat.reduceAdd, eq_self, true_and, and_true, and_self, List.getElem?_cons_zero, List.getElem?_cons_succ, Nat.reduceLeDiff, Nat.zero_add, Nat.reduceSub, Nat.le_refl, Nat.lt_irrefl]
    exact ⟨⟨_, _, O, rfl, Nat.le_refl _, h1, h2, h3⟩, e1⟩
  intro Z z1 z2 z3
  have e0 := ext_obj σ (.cells [.sl true .pub 0 []])
  have hb0 : (⟨σ.objs ++ [.cells [.sl true .pub 0 []]], σ.live⟩ : St).objs[σ.objs.length]? = some (.cells [.sl true .pub 0 []]) := by simp
  simp -implicitDefEqProofs only [go_sem, Nat.reduceBEq, Nat.reduceAdd, eq_self, true_and, and_true, and_self, List.getElem?_cons_zero, List.getElem?_cons_succ, Nat.reduceLeDiff, Nat.zero_add, Nat.reduceSub, Nat.le_refl, Nat.lt_irrefl]
  refine call_at (clock_ok (hk.ext e0)) ?_
  rintro w τ ⟨hτ, rfl⟩
  have hτ := hτ.symm
  subst hτ
  refine ⟨kept_none, ?_⟩
  generalize (⟨σ.objs ++ [.cells [.sl true .pub 0 []]], σ.live⟩ : St) = τ0 at e0 hb0 ⊢
  cases hc : decide (clockI k = 0)
  · have hL : eachL (cgL P) k = [] := by unfold eachL; rw [hc]; rfl
    rw [hL] at z1
    simp -implicitDefEqProofs only [go_sem, Nat.reduceBEq, Nat.reduceAdd, eq_self, true_and, and_true, and_self, List.getElem?_cons_zero, List.getElem?_cons_succ, Nat.reduceLeDiff, Nat.zero_add, Nat.reduceSub, Nat.le_refl, hc]
    refine z1 _ _ _ (.inr ?_) ⟨e0, rfl, _, [], hb0, FrC.nil _ _ _, rfl⟩
    simp -implicitDefEqProofs only [go_sem, Nat.reduceBEq, Nat.reduceAdd, eq_self, true_and, and_true, and_self, List.getElem?_cons_zero, List.getElem?_cons_succ, Nat.reduceLeDiff, Nat.zero_add, Nat.reduceSub, Nat.le_refl, Nat.lt_irrefl]
  have hL : eachL (cgL P) k = allR (cgL P) k := by unfold eachL; rw [hc]; rfl
  rw [hL] at z1
  have hL0 := h.ext e0
  have h1 := hL0.cells
  have hcl := cgsV_len P
  rcases id h.row with ⟨R, q, rfl, he⟩ | ⟨j', cap, rfl, ho, -, hcp⟩
  · have hP : P = [] := by
      have : (cgsV P).length = 0 := by rw [he]; rfl
      rw [hcl] at this
      exact List.length_eq_zero_iff.1 this
    rw [hP] at z1
    have hlt : decide ((0 : Int) < ((0 : Nat) : Int)) = false := rfl
    simp -implicitDefEqProofs only [go_sem, Nat.reduceBEq, Nat.reduceAdd, eq_self, true_and, and_true, and_self, List.getElem?_cons_zero, List.getElem?_cons_succ, Nat.reduceLeDiff, Nat.zero_add, Nat.reduceSub, Nat.le_refl, hc, h1]
    refine loop_at (fun (y : Nat) => ⟨[(5, .v (.ptr (some (σ.objs.length, 0)))), (19, .v (.int .i64 ((0 : Nat) : Int))), (20, .v (.int .i64 0))], []⟩) (fun y t => t = τ0) (fun y => 0) 0 (.inr ?_) rfl ?_
    · simp -implicitDefEqProofs only [go_sem, Nat.reduceBEq, Nat.reduceAdd, eq_self, true_and, and_true, and_self, List.getElem?_cons_zero, List.getElem?_cons_succ, Nat.reduceLeDiff, Nat.zero_add, Nat.reduceSub, Nat.le_refl, Nat.lt_irrefl]
      try exact ⟨rfl, rfl, rfl⟩
    rintro _ τ rfl X x1 x2 x3
    simp -implicitDefEqProofs only [go_sem, Nat.reduceBEq, Nat.reduceAdd, eq_self, true_and, and_true, and_self, List.getElem?_cons_zero, List.getElem?_cons_succ, Nat.reduceLeDiff, Nat.zero_add, Nat.reduceSub, Nat.le_refl, hlt]
    refine x2 _ _ _ ?_
    simp -implicitDefEqProofs only [go_sem, Nat.reduceBEq, Nat.reduceAdd, eq_self, true_and, and_true, and_self, List.getElem?_cons_zero, List.getElem?_cons_succ, Nat.reduceLeDiff, Nat.zero_add, Nat.reduceSub, Nat.le_refl, Nat.lt_irrefl]
    refine z1 _ _ _ (.inr ?_) ⟨e0, rfl, _, [], hb0, FrC.nil _ _ _, rfl⟩
    simp -implicitDefEqProofs only [go_sem, Nat.reduceBEq, Nat.reduceAdd, eq_self, true_and, and_true, and_self, List.getElem?_cons_zero, List.getElem?_cons_succ, Nat.reduceLeDiff, Nat.zero_add, Nat.reduceSub, Nat.le_refl, Nat.lt_irrefl]
  simp -implicitDefEqProofs only [go_sem, Nat.reduceBEq, Nat.reduceAdd, eq_self, true_and, and_true, and_self, List.getElem?_cons_zero, List.getElem?_cons_succ, Nat.reduceLeDiff, Nat.zero_add, Nat.reduceSub, Nat.le_refl, hc, h1, hcl]
  refine loop_at (fun (y : Nat) => ⟨[(0, .v (.ptr (some (i, 0)))), (1, .v kv), (5, .v (.ptr (some (σ.objs.length, 0)))), (18, .v (.osl j' P.length cap 13)), (19, .v (.int .i64 P.length)), (20, .v (.int .i64 y))], []⟩)
    (fun y t => y ≤ P.length ∧ Ext σ t ∧ ∃ w O, t.objs[σ.objs.length]? = some (.cells [w]) ∧ FrC σ.live.length t w O ∧ O.map (·.2) = allR ((cgL P).take y) k) (fun y => P.length - y) 0 (.inr ?_) ?_ ?_
  · simp -implicitDefEqProofs only [go_sem, Nat.reduceBEq, Nat.reduceAdd, eq_self, true_and, and_true, and_self, List.getElem?_cons_zero, List.getElem?_cons_succ, Nat.reduceLeDiff, Nat.zero_add, Nat.reduceSub, Nat.le_refl, Nat.lt_irrefl]
    try exact ⟨rfl, rfl, rfl⟩
    try exact rfl
  · exact ⟨Nat.zero_le _, e0, _, [], hb0, FrC.nil _ _ _, rfl⟩
  rintro y τ ⟨g1, g2, w, O, g3, g4, g5⟩ X x1 x2 x3
  have hOl : O.length ≤ P.length := by
    have h2 := congrArg List.length g5
    rw [map2_len] at h2
    have h3 := allR_len ((cgL P).take y) k
    rw [List.length_take, map2_len] at h3
    omega
  have hO2 := cgsV_len O
  simp -implicitDefEqProofs only [go_sem, Nat.reduceBEq, Nat.reduceAdd, eq_self, true_and, and_true, and_self, List.getElem?_cons_zero, List.getElem?_cons_succ, Nat.reduceLeDiff, Nat.zero_add, Nat.reduceSub, Nat.le_refl, Nat.lt_irrefl]
  refine CondW_b (fun hcc => ?_) (fun hcc => ?_)
  · have hi : y < P.length := by simpa using hcc
    have hwy : IntKind.i64.wrap ((y : Int) + 1) = ((y + 1 : Nat) : Int) := by rw [i64_in _ (by omega)]; omega
    have hget := cg_drop0 hi
    have ho' := g2.objs _ _ ho
    have htk : (cgL P).take (y + 1) = (cgL P).take y ++ [P[y].2] := by rw [List.take_succ_eq_append_getElem (by simpa using hi)]; simp
    have hdi := (h.rds.ext g2) _ (List.getElem_mem hi)
    have hdl := h.deps _ (List.getElem_mem hi)
    have hb1 : (y : Int) < P.length := by omega
    generalize P[y] = p at hget htk hdi hdl
    obtain ⟨d2, h⟩ := p
    simp only at hget htk hdi hdl
    obtain ⟨db, dr, dz, rfl, -, -⟩ := id hdi
    have hal := allR_snoc ((cgL P).take y) k h
    rw [← htk] at hal
    refine cut_at (fun G τ2 => G = ⟨[(0, .v (.ptr (some (i, 0)))), (1, .v kv), (5, .v (.ptr (some (σ.objs.length, 0)))), (18, .v (.osl j' P.length cap 13)), (19, .v (.int .i64 P.length)), (20, .v (.int .i64 y))], []⟩ ∧ Ext σ τ2 ∧ ∃ w O, τ2.objs[σ.objs.length]? = some (.cells [w]) ∧ FrC σ.live.length τ2 w O ∧ O.map (·.2) = allR ((cgL P).take (y + 1)) k) ?_ ?_
    case refine_2 =>
      rintro G τ2 ⟨rfl, t1, t2⟩
      simp -implicitDefEqProofs only [go_sem, Nat.reduceBEq, Nat.reduceAdd, eq_self, true_and, and_true, and_self, List.getElem?_cons_zero, List.getElem?_cons_succ, Nat.reduceLeDiff, Nat.zero_add, Nat.reduceSub, Nat.le_refl, hwy]
      refine x1 (y + 1) _ _ (.inr ?_) (by omega) ⟨by omega, t1, t2⟩
      simp -implicitDefEqProofs only [go_sem, Nat.reduceBEq, Nat.reduceAdd, eq_self, true_and, and_true, and_self, List.getElem?_cons_zero, List.getElem?_cons_succ, Nat.reduceLeDiff, Nat.zero_add, Nat.reduceSub, Nat.le_refl, Nat.lt_irrefl]
      try exact ⟨rfl, rfl, rfl⟩
    intro Y y1 y2 y3
    simp -implicitDefEqProofs only [go_sem, Nat.reduceBEq, Nat.reduceAdd, eq_self, true_and, and_true, and_self, List.getElem?_cons_zero, List.getElem?_cons_succ, Nat.reduceLeDiff, Nat.zero_add, Nat.reduceSub, Nat.le_refl, hcl, ho', hget, cgC, Int.toNat_natCast, Nat.add_zero]
    refine ⟨⟨by omega, hb1⟩, ?_⟩
    refine call_at (at_ok (r := h.ar) (hk.ext g2)) ?_
    rintro v τ2 ⟨hτ2, rfl⟩
    have hτ2 := hτ2.symm
    subst hτ2
    refine ⟨(Ext.refl _).kept, ?_⟩
    have hin : decide (h.seq > atD k h.ar) = !inC k h := by
      unfold inC
      rw [← decide_not, decide_eq_decide]; omega
    cases hx : inC k h <;> rw [hx] at hal hin
    · have hcp := pcopy_ok hdi (by omega)
      simp only [cgV, cgC] at hcp
      simp -implicitDefEqProofs only [go_sem, Nat.reduceBEq, Nat.reduceAdd, eq_self, true_and, and_true, and_self, List.getElem?_cons_zero, List.getElem?_cons_succ, Nat.reduceLeDiff, Nat.zero_add, Nat.reduceSub, Nat.le_refl, hin, Bool.not_false, g3]
      refine call_at hcp ?_
      rintro v τ2 ⟨e2, o2, x, rfl, hn⟩
      refine ⟨e2.kept, ?_⟩
      obtain ⟨rx, rfl, -⟩ := id hn
      have g3' : τ2.objs[σ.objs.length]? = some (.cells [w]) := by rw [o2]; exact g3
      rcases g4.1 with ⟨rfl, z, rfl⟩ | ⟨q, rfl, q1', q2', -⟩
      · have hfa := FrC.app0 (lo := σ.live.length) e2 hn g2.llen
        simp -implicitDefEqProofs only [go_sem, Nat.reduceBEq, Nat.reduceAdd, eq_self, true_and, and_true, and_self, List.getElem?_cons_zero, List.getElem?_cons_succ, Nat.reduceLeDiff, Nat.zero_add, Nat.reduceSub, Nat.le_refl, Nat.lt_irrefl]
        refine ⟨⟨.inl trivial, rfl, .inr (live_last _ _), .inl trivial⟩, ?_⟩
        simp -implicitDefEqProofs only [go_sem, Nat.reduceBEq, Nat.reduceAdd, eq_self, true_and, and_true, and_self, List.getElem?_cons_zero, List.getElem?_cons_succ, Nat.reduceLeDiff, Nat.zero_add, Nat.reduceSub, Nat.le_refl, g3', flats, V.flat]
        refine y1 _ _ _ (.inr ?_) ⟨rfl, ext_set (ext_push (ext_push (g2.trans e2))) (Nat.le_refl _), _, [(_, h)], setC_get (List.getElem?_eq_some_iff.1 g3').1, hfa.keep fun _ _ h => h, by rw [hal, ← g5]; rfl⟩
        simp -implicitDefEqProofs only [go_sem, Nat.reduceBEq, Nat.reduceAdd, eq_self, true_and, and_true, and_self, List.getElem?_cons_zero, List.getElem?_cons_succ, Nat.reduceLeDiff, Nat.zero_add, Nat.reduceSub, Nat.le_refl, Nat.lt_irrefl]
        try exact ⟨rfl, rfl, rfl⟩
      · have hfa := FrC.app (lo := σ.live.length) g4 e2 hn g2.llen
        simp -implicitDefEqProofs only [go_sem, Nat.reduceBEq, Nat.reduceAdd, eq_self, true_and, and_true, and_self, List.getElem?_cons_zero, List.getElem?_cons_succ, Nat.reduceLeDiff, Nat.zero_add, Nat.reduceSub, Nat.le_refl, Nat.lt_irrefl]
        refine ⟨⟨.inr trivial, .inr ((ext_live _ _).live _ (e2.live _ q1')), ⟨.inr (live_last _ _), .inl trivial⟩, by omega⟩, ?_⟩
        simp -implicitDefEqProofs only [go_sem, Nat.reduceBEq, Nat.reduceAdd, eq_self, true_and, and_true, and_self, List.getElem?_cons_zero, List.getElem?_cons_succ, Nat.reduceLeDiff, Nat.zero_add, Nat.reduceSub, Nat.le_refl, g3', flats, V.flat]
        refine y1 _ _ _ (.inr ?_) ⟨rfl, ext_set (ext_kill (ext_push (g2.trans e2)) q2') (Nat.le_refl _), _, O ++ [(_, h)], setC_get (List.getElem?_eq_some_iff.1 g3').1, hfa.keep fun _ _ h => h, by rw [hal, ← g5, List.map_append]; rfl⟩
        simp -implicitDefEqProofs only [go_sem, Nat.reduceBEq, Nat.reduceAdd, eq_self, true_and, and_true, and_self, List.getElem?_cons_zero, List.getElem?_cons_succ, Nat.reduceLeDiff, Nat.zero_add, Nat.reduceSub, Nat.le_refl, Nat.lt_irrefl]
        try exact ⟨rfl, rfl, rfl⟩
    · simp -implicitDefEqProofs only [go_sem, Nat.reduceBEq, Nat.reduceAdd, eq_self, true_and, and_true, and_self, List.getElem?_cons_zero, List.getElem?_cons_succ, Nat.reduceLeDiff, Nat.zero_add, Nat.reduceSub, Nat.le_refl, hin, Bool.not_true]
      refine y1 _ _ _ (.inr ?_) ⟨rfl, g2, w, O, g3, g4, by rw [hal, g5]; rfl⟩
      simp -implicitDefEqProofs only [go_sem, Nat.reduceBEq, Nat.reduceAdd, eq_self, true_and, and_true, and_self, List.getElem?_cons_zero, List.getElem?_cons_succ, Nat.reduceLeDiff, Nat.zero_add, Nat.reduceSub, Nat.le_refl, Nat.lt_irrefl]
      try exact ⟨rfl, rfl, rfl⟩
  have hy : y = P.length := by have : ¬ y < P.length := by simpa using hcc
                               omega
  rw [hy, List.take_of_length_le (by rw [map2_len]; omega)] at g5
  simp -implicitDefEqProofs only [go_sem, Nat.reduceBEq, Nat.reduceAdd, eq_self, true_and, and_true, and_self, List.getElem?_cons_zero, List.getElem?_cons_succ, Nat.reduceLeDiff, Nat.zero_add, Nat.reduceSub, Nat.le_refl, Nat.lt_irrefl]
  refine x2 _ _ _ ?_
  simp -implicitDefEqProofs only [go_sem, Nat.reduceBEq, Nat.reduceAdd, eq_self, true_and, and_true, and_self, List.getElem?_cons_zero, List.getElem?_cons_succ, Nat.reduceLeDiff, Nat.zero_add, Nat.reduceSub, Nat.le_refl, Nat.lt_irrefl]
  refine z1 _ _ _ (.inr ?_) ⟨g2, rfl, w, O, g3, g4, g5⟩
  simp -implicitDefEqProofs only [go_sem, Nat.reduceBEq, Nat.reduceAdd, eq_self, true_and, and_true, and_self, List.getElem?_cons_zero, List.getElem?_cons_succ, Nat.reduceLeDiff, Nat.zero_add, Nat.reduceSub, Nat.le_refl, Nat.lt_irrefl]
end
end Go.VL.opl

namespace Go.VL.opl
open Go Go.VL Go.Proofs Go.IntWalk Go.VL.st Go.VL.row

theorem FrC.mono {lo lo' : Nat} {τ : St} {w : V} {O : List (V × Cg)} (h : FrC lo τ w O) (k : lo' ≤ lo) : FrC lo' τ w O := by
  refine ⟨h.1.imp_right ?_, fun p hp => ?_⟩
  · rintro ⟨q, e, h1, h2, h3⟩
    exact ⟨q, e, h1, by omega, h3⟩
  · obtain ⟨q, e, h1, h2⟩ := h.2 p hp
    exact ⟨q, e, h1, by omega⟩
/-- Fresh changes. -/
def NewC (σ σ' : St) (v : V) (L : List Cg) : Prop := ∃ O, FrC σ.live.length σ' v O ∧ O.map (·.2) = L
theorem NewC.rd {σ σ' : St} {v : V} {L : List Cg} (h : NewC σ σ' v L) : RdC σ' v L := by
  obtain ⟨O, h1, rfl⟩ := h
  exact h1.rd
section
variable {σ : St} {i m j y : Nat} {mo : Option Nat} {s d v kv w p : V} {ov : List V} {room r n most : Int} {P O : List (V × Cg)} {g : Cg} {x : Sp} {l k : List Int} {L : List Cg}
set_option maxRecDepth 100000 in
set_option maxHeartbeats 4000000 in
theorem aseq_ok {lo z : Nat} (hj : σ.objs[j]? = some (.cells [w])) (hF : FrC lo σ w O) (hO : O.length ≤ 1000000) (hOd : ∀ p ∈ O, p.2.deps.length ≤ 2000000) :
    CallA Try.prog 80 [.sl true .pub z [], .fn 46 [.ptr (some (j, 0))]] σ fun v σ' => NewC σ σ' v (O.map (·.2)) ∧ Ext σ σ' := by
  refine fn_at Try.func80 (by decide) comp80 rfl fun Q q1 q2 => ?_
  simp -implicitDefEqProofs only [go_sem, Nat.reduceBEq, Nat.reduceAdd, eq_self, true_and, and_true, and_self, List.getElem?_cons_zero, List.getElem?_cons_succ, Nat.reduceLeDiff, Nat.zero_add, Nat.reduceSub, Nat.le_refl, c80]
  have e0 := ext_obj σ (.cells [.sl true .pub z []])
  have hb0 : (⟨σ.objs ++ [.cells [.sl true .pub z []]], σ.live⟩ : St).objs[σ.objs.length]? = some (.cells [.sl true .pub z []]) := by simp
  have hj0 := e0.objs _ _ hj
  have hl0 : (⟨σ.objs ++ [.cells [.sl true .pub z []]], σ.live⟩ : St).objs.length = σ.objs.length + 1 := by simp
  generalize (⟨σ.objs ++ [.cells [.sl true .pub z []]], σ.live⟩ : St) = τ0 at e0 hb0 hj0 hl0 ⊢
  refine range_at ?_
  intro yl i0 r0 r1 r2 r3 hi hyy
  have e5 := ext_obj τ0 r0
  have hr0 : (⟨τ0.objs ++ [r0], τ0.live⟩ : St).objs[i0]? = some r0 := by rw [← hi]; simp
  refine CallA.mono (each1_ok (O := O)
    (fun R t => ∃ D O2 w2, O = D ++ R ∧ Ext σ t ∧ t.objs[σ.objs.length]? = some (.cells [w2]) ∧ FrC σ.live.length t w2 O2 ∧ O2.map (·.2) = D.map (·.2) ∧ t.objs[i0]? = some r0)
    (fun t => t.objs[i0]? = some r0 ∧ Ext σ t ∧ ∃ w2 O2, t.objs[σ.objs.length]? = some (.cells [w2]) ∧ FrC σ.live.length t w2 O2 ∧ O2.map (·.2) = O.map (·.2))
    (e5.objs _ _ hj0) ((hF.ext (e0.trans e5)).rdS) hO hOd ?_ ?_ ?_ ?_) ?_
  · exact ⟨[], [], _, rfl, e0.trans e5, e5.objs _ _ hb0, FrC.nil _ _ _, rfl, hr0⟩
  · rintro R t ⟨D, O2, w2, s1, s2, s3, s4, s5, s6⟩
    exact ⟨(hF.ext s2).rdS, (hF.ext s2).rds⟩
  · rintro a R t t' x ⟨D, O2, w2, s1, s2, s3, s4, s5, s6⟩ e6 o6 hx
    have hOl : O2.length ≤ O.length := by
      have := congrArg List.length s5
      rw [map2_len, map2_len] at this
      rw [s1, List.length_append, this]; omega
    have s6' : t'.objs[i0]? = some r0 := by rw [o6]; exact s6
    refine hyy t' _ _ s6' rfl fun Y0 y0 => ?_
    simp -implicitDefEqProofs only [go_sem, Nat.reduceBEq, Nat.reduceAdd, eq_self, true_and, and_true, and_self, List.getElem?_cons_zero, List.getElem?_cons_succ, Nat.reduceLeDiff, Nat.zero_add, Nat.reduceSub, Nat.le_refl, rndF, setPs, dropL, cgV, cgC]
    have hxx : ∃ q es, x = .sl false (.own q) 1 es := by obtain ⟨r, rfl, -⟩ := hx; exact ⟨_, _, rfl⟩
    obtain ⟨rx, ex, rfl⟩ := hxx
    simp -implicitDefEqProofs only [go_sem, Nat.reduceBEq, Nat.reduceAdd, eq_self, true_and, and_true, and_self, List.getElem?_cons_zero, List.getElem?_cons_succ, Nat.reduceLeDiff, Nat.zero_add, Nat.reduceSub, Nat.le_refl, Nat.lt_irrefl]
    refine y0 _ _ s6' fun Y y1 y2 y3 => ?_
    clear y0 Y0 hyy
    have b2 : Ext σ (t'.setA i0 r1) := ext_setA (s2.trans e6) (by omega)
    have b3 : (t'.setA i0 r1).objs[σ.objs.length]? = some (.cells [w2]) := (setA_ne (by omega)).trans (by rw [o6]; exact s3)
    have b6 : (t'.setA i0 r1).objs[i0]? = some r1 := setA_at s6'
    have hev : ∀ r : Nat, t.live[r]? = some true → (t'.setA i0 r1).live[r]? = some true := e6.live
    have hll : t.live.length ≤ (t'.setA i0 r1).live.length := e6.llen
    have hx2 : NewS t (t'.setA i0 r1) (.sl false (.own rx) 1 ex) 1 (intsV .i64 a.2.deps) := hx
    generalize t'.setA i0 r1 = t2 at b2 hev hll b3 b6 hx2 ⊢
    have hsl := s2.llen
    have hcl := cgsV_len O2
    have hbl := (List.getElem?_eq_some_iff.1 b3).1
    obtain ⟨ad, ag⟩ := a
    simp only at hx2 s1
    have fin : ∀ (F : Fr) (L : List Bool) (w3 : V) (O3 : List (V × Cg)), Ext σ ⟨t2.objs, L⟩ → FrC σ.live.length ⟨t2.objs, L⟩ w3 O3 → O3.map (·.2) = D.map (·.2) ++ [ag] → Y .normal F ((⟨t2.objs, L⟩ : St).setC σ.objs.length [w3]) := fun F L w3 O3 f1 f2 f3 => by
      have f4 : ((⟨t2.objs, L⟩ : St).setC σ.objs.length [w3]).objs[i0]? = some r1 := (setC_ne (by omega)).trans b6
      exact y1 _ _ f4 (.inl ⟨rfl, D ++ [(ad, ag)], O3, w3, by rw [s1]; simp, ext_setA (ext_set f1 (Nat.le_refl _)) (by omega), (setA_ne (by omega)).trans (setC_get hbl), f2.keep fun _ _ h => h, by rw [f3, List.map_append]; rfl, setA_at f4⟩)
    clear y1 y2 y3
    rcases s4.1 with ⟨rfl, z', rfl⟩ | ⟨q, rfl, q1', q2', -⟩
    · have hfa := FrC.app0' (lo := σ.live.length) hll hx2 hsl
      simp -implicitDefEqProofs only [go_sem, Nat.reduceBEq, Nat.reduceAdd, eq_self, true_and, and_true, and_self, List.getElem?_cons_zero, List.getElem?_cons_succ, Nat.reduceLeDiff, Nat.zero_add, Nat.reduceSub, Nat.le_refl, b3, flats, V.flat]
      refine ⟨⟨.inl trivial, rfl, .inr (live_last _ _), .inl trivial⟩, ?_⟩
      exact fin _ _ _ [(_, ag)] (ext_push (ext_push b2)) hfa (by rw [← s5]; rfl)
    · have hfa := FrC.app' (lo := σ.live.length) s4 hev hll hx2 hsl
      simp -implicitDefEqProofs only [go_sem, Nat.reduceBEq, Nat.reduceAdd, eq_self, true_and, and_true, and_self, List.getElem?_cons_zero, List.getElem?_cons_succ, Nat.reduceLeDiff, Nat.zero_add, Nat.reduceSub, Nat.le_refl, b3, flats, V.flat]
      refine ⟨⟨.inr trivial, .inr ((ext_live _ _).live _ (hev _ q1')), ⟨.inr (live_last _ _), .inl trivial⟩, by omega⟩, ?_⟩
      exact fin _ _ _ (O2 ++ [(_, ag)]) (ext_kill (ext_push b2) q2') hfa (by rw [List.map_append, s5]; rfl)
  · rintro t ⟨D, O2, w2, s1, s2, s3, s4, s5, s6⟩
    rw [List.append_nil] at s1
    subst s1
    exact ⟨s6, s2, w2, O2, s3, s4, s5⟩
  · rintro v t ⟨h1, h2, w2, O2, h3, h4, h5⟩
    refine .inl ⟨h1, ?_⟩
    have h3' : (t.setA i0 (r3 .normal)).objs[σ.objs.length]? = _ := (setA_ne (by omega)).trans h3
    have hcell : cellsOf w2 = some [w2] := by rcases h4.1 with ⟨-, z, rfl⟩ | ⟨q, rfl, -⟩ <;> rfl
    simp -implicitDefEqProofs only [go_sem, Nat.reduceBEq, Nat.reduceAdd, eq_self, true_and, and_true, and_self, List.getElem?_cons_zero, List.getElem?_cons_succ, Nat.reduceLeDiff, Nat.zero_add, Nat.reduceSub, Nat.le_refl, h3', hcell]
    refine q2 _ _ ?_
    simp -implicitDefEqProofs only [go_sem, Nat.reduceBEq, Nat.reduceAdd, eq_self, true_and, and_true, and_self, List.getElem?_cons_zero, List.getElem?_cons_succ, Nat.reduceLeDiff, Nat.zero_add, Nat.reduceSub, Nat.le_refl, Nat.lt_irrefl]
    exact ⟨⟨O2, h4.keep fun _ _ h => h, h5⟩, ext_setA h2 (by omega)⟩
set_option maxRecDepth 100000 in
theorem coll_ok {lo : Nat} (hj : σ.objs[j]? = some (.cells [w])) (hF : FrC lo σ w O) (hO : O.length ≤ 1000000) (hOd : ∀ p ∈ O, p.2.deps.length ≤ 2000000) :
    CallA Try.prog 55 [.fn 46 [.ptr (some (j, 0))]] σ fun v σ' => NewC σ σ' v (O.map (·.2)) ∧ Ext σ σ' := by
  refine fn_at Try.func55 (by decide) comp55 rfl fun Q q1 q2 => ?_
  simp -implicitDefEqProofs only [go_sem, Nat.reduceBEq, Nat.reduceAdd, eq_self, true_and, and_true, and_self, List.getElem?_cons_zero, List.getElem?_cons_succ, Nat.reduceLeDiff, Nat.zero_add, Nat.reduceSub, Nat.le_refl, c55]
  refine call_at (aseq_ok hj hF hO hOd) ?_
  rintro v τ ⟨h1, h2⟩
  refine ⟨kept_none, ?_⟩
  simp -implicitDefEqProofs only [go_sem, Nat.reduceBEq, Nat.reduceAdd, eq_self, true_and, and_true, and_self, List.getElem?_cons_zero, List.getElem?_cons_succ, Nat.reduceLeDiff, Nat.zero_add, Nat.reduceSub, Nat.le_refl, Nat.lt_irrefl]
  refine q2 _ _ ?_
  simp -implicitDefEqProofs only [go_sem, Nat.reduceBEq, Nat.reduceAdd, eq_self, true_and, and_true, and_self, List.getElem?_cons_zero, List.getElem?_cons_succ, Nat.reduceLeDiff, Nat.zero_add, Nat.reduceSub, Nat.le_refl, Nat.lt_irrefl]
  exact ⟨h1, h2⟩
theorem EachIs.od {σ τ : St} {L : List Cg} {O : List (V × Cg)} (h : O.map (·.2) = L) (hd : ∀ g ∈ L, g.deps.length ≤ 2000000) : ∀ p ∈ O, p.2.deps.length ≤ 2000000 := fun p hp => hd _ (by rw [← h]; exact List.mem_map_of_mem hp)
theorem Good.all {L : List Cg} (h : Good L) : eachL L [] = L := by
  unfold eachL
  rw [show decide (clockI [] = 0) = true from rfl]
  show allR L [] = L
  unfold allR
  rw [List.filter_eq_self]
  intro g hg
  have := (chk_has (h.chk g hg)).2.1
  have h0 : atD [] g.ar = 0 := by unfold atD; simp
  unfold inC
  rw [h0, Bool.not_eq_true', decide_eq_false_iff_not]
  omega
theorem NewC.pre {σ τ σ' : St} {v : V} {L : List Cg} (h : NewC τ σ' v L) (he : Ext σ τ) : NewC σ σ' v L := by
  obtain ⟨O, h1, h2⟩ := h
  exact ⟨O, h1.mono he.llen, h2⟩
set_option maxRecDepth 100000 in
theorem all_at (hE : CallA Try.prog 13 [p, .sl true .pub 0 []] σ fun v σ' => EachIs σ σ' v L ∧ Ext σ σ') (hL : L.length ≤ 1000000) (hd : ∀ g ∈ L, g.deps.length ≤ 2000000) :
    CallA Try.prog 25 [p] σ fun v σ' => NewC σ σ' v L ∧ Ext σ σ' := by
  refine fn_at Try.func25 (by decide) comp25 rfl fun Q q1 q2 => ?_
  simp -implicitDefEqProofs only [go_sem, Nat.reduceBEq, Nat.reduceAdd, eq_self, true_and, and_true, and_self, List.getElem?_cons_zero, List.getElem?_cons_succ, Nat.reduceLeDiff, Nat.zero_add, Nat.reduceSub, Nat.le_refl, c25]
  refine call_at hE ?_
  rintro v τ ⟨⟨j, w, O, rfl, hj, hw, hF, hO⟩, e1⟩
  refine ⟨kept_none, ?_⟩
  have hOl : O.length ≤ 1000000 := by rw [← hO, List.length_map] at hL; exact hL
  simp -implicitDefEqProofs only [go_sem, Nat.reduceBEq, Nat.reduceAdd, eq_self, true_and, and_true, and_self, List.getElem?_cons_zero, List.getElem?_cons_succ, Nat.reduceLeDiff, Nat.zero_add, Nat.reduceSub, Nat.le_refl, Nat.lt_irrefl]
  refine call_at (coll_ok hw hF hOl (EachIs.od (σ := σ) (τ := τ) hO hd)) ?_
  rintro v τ2 ⟨h1, h2⟩
  refine ⟨kept_none, ?_⟩
  simp -implicitDefEqProofs only [go_sem, Nat.reduceBEq, Nat.reduceAdd, eq_self, true_and, and_true, and_self, List.getElem?_cons_zero, List.getElem?_cons_succ, Nat.reduceLeDiff, Nat.zero_add, Nat.reduceSub, Nat.le_refl, Nat.lt_irrefl]
  refine q2 _ _ ?_
  simp -implicitDefEqProofs only [go_sem, Nat.reduceBEq, Nat.reduceAdd, eq_self, true_and, and_true, and_self, List.getElem?_cons_zero, List.getElem?_cons_succ, Nat.reduceLeDiff, Nat.zero_add, Nat.reduceSub, Nat.le_refl, Nat.lt_irrefl]
  rw [hO] at h1
  exact ⟨h1.pre e1, e1.trans h2⟩
theorem all_ok (h : LogIs σ i mo s ov room P) (hl : P.length ≤ 1000000) : CallA Try.prog 25 [.ptr (some (i, 0))] σ fun v σ' => NewC σ σ' v (cgL P) ∧ Ext σ σ' := by
  have hk : RdS σ (.sl true .pub 0 []) 1 (intsV .i64 []) := ⟨_, _, _, rfl, fun _ => rfl, .inl rfl⟩
  have := each_ok h hl hk
  rw [h.good.all] at this
  exact all_at this (by rw [map2_len]; exact hl) fun g hg => by have := h.good.deps g hg; omega
/-- What Since answers. -/
def sinceP (L : List Cg) (k : List Int) (most : Int) : List Cg := bif decide (sinceI k most = 0) then L.take most.toNat else []
def sinceQ (L : List Cg) (k : List Int) (most : Int) : Bool := decide (sinceI k most = 0) && decide ((L.length : Int) > most)
theorem set3 {τ : St} {a b c : Nat} (ha : a < b) (hb : b < c) {x y z : V} (h1 : τ.objs[a]? = some (.cells [x])) (h2 : τ.objs[b]? = some (.cells [y])) (h3 : τ.objs[c]? = some (.cells [z])) (u v w : V) :
    (τ.setC a [u]).objs[b]? = some (.cells [y]) ∧ ((τ.setC a [u]).setC b [v]).objs[c]? = some (.cells [z]) ∧ (((τ.setC a [u]).setC b [v]).setC c [w]).objs[a]? = some (.cells [u]) ∧ (((τ.setC a [u]).setC b [v]).setC c [w]).objs[b]? = some (.cells [v]) ∧ (((τ.setC a [u]).setC b [v]).setC c [w]).objs[c]? = some (.cells [w]) := by
  have la := (List.getElem?_eq_some_iff.1 h1).1
  have lb := (List.getElem?_eq_some_iff.1 h2).1
  have lc := (List.getElem?_eq_some_iff.1 h3).1
  have e1 : (τ.setC a [u]).objs.length = τ.objs.length := by show (τ.objs.set _ _).length = _; rw [List.length_set]
  have e2 : ((τ.setC a [u]).setC b [v]).objs.length = τ.objs.length := by show ((τ.setC a [u]).objs.set _ _).length = _; rw [List.length_set, e1]
  refine ⟨?_, ?_, ?_, ?_, ?_⟩
  · rw [setC_ne (by omega)]; exact h2
  · rw [setC_ne (by omega), setC_ne (by omega)]; exact h3
  · rw [setC_ne (by omega), setC_ne (by omega)]; exact setC_get la
  · rw [setC_ne (by omega)]; exact setC_get (by omega)
  · exact setC_get (by omega)
theorem updS_setA {τ : St} {i : Nat} {o : AObj} : UpdS (fun k => k = i) τ (τ.setA i o) := by
  refine ⟨fun j x hj hx => ?_, fun _ h => h, ?_, Nat.le_refl _⟩
  · rw [setA_ne hj]; exact hx
  · show _ ≤ (τ.objs.set _ _).length
    rw [List.length_set]; exact Nat.le_refl _
theorem ext_set3 {σ τ : St} {a b c : Nat} (h : Ext σ τ) (ha : σ.objs.length ≤ a) (hb : a < b) (hc : b < c) (u v w : V) : Ext σ (((τ.setC a [u]).setC b [v]).setC c [w]) := ext_set (ext_set (ext_set h ha) (by omega)) (by omega)
set_option maxRecDepth 100000 in
set_option maxHeartbeats 4000000 in
theorem psince_ok (hE : clockI k = 0 → ∀ τ, Ext σ τ → CallA Try.prog 13 [p, kv] τ fun v σ' => EachIs τ σ' v L ∧ Ext τ σ') (hL : L.length ≤ 1000000) (hd : ∀ g ∈ L, g.deps.length ≤ 2000000) (hk : RdS σ kv 1 (intsV .i64 k)) :
    CallA Try.prog 31 [p, kv, .int .i64 most] σ fun v σ' => (∃ a, v = .tup [a, .bool (sinceQ L k most), .int .i64 (sinceI k most)] ∧ NewC σ σ' a (sinceP L k most)) ∧ Ext σ σ' := by
  refine fn_at Try.func31 (by decide) comp31 rfl fun Q q1 q2 => ?_
  unfold sinceQ sinceP at q1 q2
  simp -implicitDefEqProofs only [go_sem, Nat.reduceBEq, Nat.reduceAdd, eq_self, true_and, and_true, and_self, List.getElem?_cons_zero, List.getElem?_cons_succ, Nat.reduceLeDiff, Nat.zero_add, Nat.reduceSub, Nat.le_refl, c31]
  have e0 : Ext σ (⟨σ.objs ++ [.cells [.int .i64 most]] ++ [.cells [.sl true .pub 0 []]] ++ [.cells [.bool false]] ++ [.cells [.int .i64 0]], σ.live⟩ : St) := (((ext_obj _ _).trans (ext_obj _ _)).trans (ext_obj _ _)).trans (ext_obj _ _)
  have h5 : (⟨σ.objs ++ [.cells [.int .i64 most]] ++ [.cells [.sl true .pub 0 []]] ++ [.cells [.bool false]] ++ [.cells [.int .i64 0]], σ.live⟩ : St).objs[σ.objs.length]? = some (.cells [.int .i64 most]) := by simp
  have h6 : (⟨σ.objs ++ [.cells [.int .i64 most]] ++ [.cells [.sl true .pub 0 []]] ++ [.cells [.bool false]] ++ [.cells [.int .i64 0]], σ.live⟩ : St).objs[σ.objs.length + 1]? = some (.cells [.sl true .pub 0 []]) := by simp
  have h7 : (⟨σ.objs ++ [.cells [.int .i64 most]] ++ [.cells [.sl true .pub 0 []]] ++ [.cells [.bool false]] ++ [.cells [.int .i64 0]], σ.live⟩ : St).objs[σ.objs.length + 2]? = some (.cells [.bool false]) := by simp
  have h8 : (⟨σ.objs ++ [.cells [.int .i64 most]] ++ [.cells [.sl true .pub 0 []]] ++ [.cells [.bool false]] ++ [.cells [.int .i64 0]], σ.live⟩ : St).objs[σ.objs.length + 3]? = some (.cells [.int .i64 0]) := by simp
  have hl0 : (⟨σ.objs ++ [.cells [.int .i64 most]] ++ [.cells [.sl true .pub 0 []]] ++ [.cells [.bool false]] ++ [.cells [.int .i64 0]], σ.live⟩ : St).objs.length = σ.objs.length + 4 := by simp
  generalize (⟨σ.objs ++ [.cells [.int .i64 most]] ++ [.cells [.sl true .pub 0 []]] ++ [.cells [.bool false]] ++ [.cells [.int .i64 0]], σ.live⟩ : St) = τ0 at e0 h5 h6 h7 h8 hl0 ⊢
  simp only [List.length_append, List.length_cons, List.length_nil, Nat.zero_add, Nat.add_assoc, Nat.reduceAdd]
  have nilC : ∀ τ : St, NewC σ τ (.sl true .pub 0 []) [] := fun τ => ⟨[], FrC.nil _ _ _, rfl⟩
  refine call_at (clock_ok (hk.ext e0)) ?_
  rintro w τ ⟨hτ, rfl⟩
  have hτ := hτ.symm
  subst hτ
  refine ⟨kept_none, ?_⟩
  cases hc : decide (clockI k = 0)
  · have hs : sinceI k most = clockI k := by unfold sinceI; rw [hc]; rfl
    rw [hs, hc] at q2
    obtain ⟨s1, s2, s3, s4, s5⟩ := set3 (by omega) (by omega) h6 h7 h8 (.sl true .pub 0 []) (.bool false) (.int .i64 (clockI k))
    simp -implicitDefEqProofs only [go_sem, Nat.reduceBEq, Nat.reduceAdd, eq_self, true_and, and_true, and_self, List.getElem?_cons_zero, List.getElem?_cons_succ, Nat.reduceLeDiff, Nat.zero_add, Nat.reduceSub, Nat.le_refl, hc, Bool.not_false, h5, h6, h7, h8, s1, s2]
    refine q2 _ _ ?_
    simp -implicitDefEqProofs only [go_sem, Nat.reduceBEq, Nat.reduceAdd, eq_self, true_and, and_true, and_self, List.getElem?_cons_zero, List.getElem?_cons_succ, Nat.reduceLeDiff, Nat.zero_add, Nat.reduceSub, Nat.le_refl, s3, s4, s5]
    exact ⟨⟨_, rfl, nilC _⟩, ext_set3 e0 (by omega) (by omega) (by omega) _ _ _⟩
  have hc0 := of_decide_eq_true hc
  cases hm : decide (most < 1)
  case true =>
    have hs : sinceI k most = 1 := by unfold sinceI; rw [hc, hm]; rfl
    rw [hs] at q2
    obtain ⟨s1, s2, s3, s4, s5⟩ := set3 (by omega) (by omega) h6 h7 h8 (.sl true .pub 0 []) (.bool false) (.int .i64 1)
    simp -implicitDefEqProofs only [go_sem, Nat.reduceBEq, Nat.reduceAdd, eq_self, true_and, and_true, and_self, List.getElem?_cons_zero, List.getElem?_cons_succ, Nat.reduceLeDiff, Nat.zero_add, Nat.reduceSub, Nat.le_refl, hc, Bool.not_true, h5, h6, h7, h8, hm, s1, s2]
    refine q2 _ _ ?_
    simp -implicitDefEqProofs only [go_sem, Nat.reduceBEq, Nat.reduceAdd, eq_self, true_and, and_true, and_self, List.getElem?_cons_zero, List.getElem?_cons_succ, Nat.reduceLeDiff, Nat.zero_add, Nat.reduceSub, Nat.le_refl, s3, s4, s5]
    exact ⟨⟨_, rfl, nilC _⟩, ext_set3 e0 (by omega) (by omega) (by omega) _ _ _⟩
  have hm1 : 1 ≤ most := by have := of_decide_eq_false hm; omega
  have hs : sinceI k most = 0 := by unfold sinceI; rw [hc, hm]; rfl
  rw [hs] at q1 q2
  simp only [decide_true, Bool.true_and, cond_true] at q1 q2
  simp -implicitDefEqProofs only [go_sem, Nat.reduceBEq, Nat.reduceAdd, eq_self, true_and, and_true, and_self, List.getElem?_cons_zero, List.getElem?_cons_succ, Nat.reduceLeDiff, Nat.zero_add, Nat.reduceSub, Nat.le_refl, hc, Bool.not_true, h5, hm]
  have e1 := e0.trans (ext_obj τ0 (.cells [.sl true .pub 0 []]))
  have g5 := (ext_obj τ0 (.cells [.sl true .pub 0 []])).objs _ _ h5
  have g6 := (ext_obj τ0 (.cells [.sl true .pub 0 []])).objs _ _ h6
  have g7 := (ext_obj τ0 (.cells [.sl true .pub 0 []])).objs _ _ h7
  have g8 := (ext_obj τ0 (.cells [.sl true .pub 0 []])).objs _ _ h8
  have g10 : (⟨τ0.objs ++ [.cells [.sl true .pub 0 []]], τ0.live⟩ : St).objs[σ.objs.length + 4]? = some (.cells [.sl true .pub 0 []]) := by rw [← hl0]; simp
  rw [hl0]
  generalize (⟨τ0.objs ++ [.cells [.sl true .pub 0 []]], τ0.live⟩ : St) = τ1 at e1 g5 g6 g7 g8 g10 ⊢
  clear h5 h6 h7 h8
  refine call_at (hE hc0 _ e1) ?_
  rintro v τ2 ⟨⟨j, w, O, rfl, hj, hw, hF, hO⟩, e2⟩
  refine ⟨kept_none, ?_⟩
  have hOl : O.length ≤ 1000000 := by rw [← hO, List.length_map] at hL; exact hL
  have hOd := EachIs.od (σ := σ) (τ := τ2) hO hd
  have e3 := e1.trans e2
  have k5 := e2.objs _ _ g5
  have k6 := e2.objs _ _ g6
  have k7 := e2.objs _ _ g7
  have k8 := e2.objs _ _ g8
  have k10 := e2.objs _ _ g10
  have hn10 := (List.getElem?_eq_some_iff.1 k10).1
  clear g5 g6 g7 g8 g10
  simp -implicitDefEqProofs only [go_sem, Nat.reduceBEq, Nat.reduceAdd, eq_self, true_and, and_true, and_self, List.getElem?_cons_zero, List.getElem?_cons_succ, Nat.reduceLeDiff, Nat.zero_add, Nat.reduceSub, Nat.le_refl, Nat.lt_irrefl]
  refine range_at ?_
  intro yl i0 r0 r1 r2 r3 hi hyy
  have e5 := ext_obj τ2 r0
  have hr0 : (⟨τ2.objs ++ [r0], τ2.live⟩ : St).objs[i0]? = some r0 := by rw [← hi]; simp
  have hF2 := hF.ext e5
  refine CallA.mono (each1_ok (O := O)
    (fun R t => ∃ D O2 w2, O = D ++ R ∧ UpdS (fun j => j = σ.objs.length + 4) τ2 t ∧ t.objs[σ.objs.length + 4]? = some (.cells [w2]) ∧ FrC τ2.live.length t w2 O2 ∧ O2.map (·.2) = D.map (·.2) ∧ D.length ≤ most.toNat ∧ t.objs[i0]? = some r0)
    (fun t => Ext σ t ∧ ((t.objs[i0]? = some r0 ∧ UpdS (fun j => j = σ.objs.length + 4) τ2 t ∧ ∃ w2 O2, t.objs[σ.objs.length + 4]? = some (.cells [w2]) ∧ FrC σ.live.length t w2 O2 ∧ O2.map (·.2) = L ∧ L.length ≤ most.toNat) ∨
      (t.objs[i0]? = some (r2 .ret) ∧ ∃ w2 O2, t.objs[σ.objs.length + 1]? = some (.cells [w2]) ∧ t.objs[σ.objs.length + 2]? = some (.cells [.bool true]) ∧ t.objs[σ.objs.length + 3]? = some (.cells [.int .i64 0]) ∧ FrC σ.live.length t w2 O2 ∧ O2.map (·.2) = L.take most.toNat ∧ most.toNat < L.length)))
    (e5.objs _ _ hw) hF2.rdS hOl hOd ?_ ?_ ?_ ?_) ?_
  · exact ⟨[], [], _, rfl, .of e5, e5.objs _ _ k10, FrC.nil _ _ _, rfl, Nat.zero_le _, hr0⟩
  · rintro R t ⟨D, O2, w2, s1, s2, -⟩
    have := hF.keep (τ' := t) fun r _ => s2.live r
    exact ⟨this.rdS, this.rds⟩
  · rintro a R t t' x ⟨D, O2, w2, s1, s2, s3, s4, s5, s6, s7⟩ e6 o6 hx
    have hOl2 : O2.length = D.length := by
      have := congrArg List.length s5
      rwa [map2_len, map2_len] at this
    have hDO : D.length < O.length := by rw [s1]; simp
    have s7' : t'.objs[i0]? = some r0 := by rw [o6]; exact s7
    refine hyy t' _ _ s7' rfl fun Y0 y0 => ?_
    simp -implicitDefEqProofs only [go_sem, Nat.reduceBEq, Nat.reduceAdd, eq_self, true_and, and_true, and_self, List.getElem?_cons_zero, List.getElem?_cons_succ, Nat.reduceLeDiff, Nat.zero_add, Nat.reduceSub, Nat.le_refl, rndF, setPs, dropL, cgV, cgC]
    have hxx : ∃ q es, x = .sl false (.own q) 1 es := by obtain ⟨r, rfl, -⟩ := hx; exact ⟨_, _, rfl⟩
    obtain ⟨rx, ex, rfl⟩ := hxx
    simp -implicitDefEqProofs only [go_sem, Nat.reduceBEq, Nat.reduceAdd, eq_self, true_and, and_true, and_self, List.getElem?_cons_zero, List.getElem?_cons_succ, Nat.reduceLeDiff, Nat.zero_add, Nat.reduceSub, Nat.le_refl, Nat.lt_irrefl]
    refine y0 _ _ s7' fun Y y1 y2 y3 => ?_
    clear y0 Y0 hyy
    have hu2 : UpdS (fun j => j = σ.objs.length + 4) τ2 (t'.setA i0 r1) := (s2.trans (.of (S := fun j => j = i0) e6) fun j hj => .inr (by omega)).trans updS_setA fun j hj => .inr (by omega)
    have b3 : (t'.setA i0 r1).objs[σ.objs.length + 4]? = some (.cells [w2]) := (setA_ne (by omega)).trans (by rw [o6]; exact s3)
    have b7 : (t'.setA i0 r1).objs[i0]? = some r1 := setA_at s7'
    have hev : ∀ r : Nat, t.live[r]? = some true → (t'.setA i0 r1).live[r]? = some true := e6.live
    have hll : t.live.length ≤ (t'.setA i0 r1).live.length := e6.llen
    have hx2 : NewS t (t'.setA i0 r1) (.sl false (.own rx) 1 ex) 1 (intsV .i64 a.2.deps) := hx
    generalize t'.setA i0 r1 = t2 at hu2 hev hll b3 b7 hx2 ⊢
    have hsl := s2.llen
    have hcl := cgsV_len O2
    have hbl := (List.getElem?_eq_some_iff.1 b3).1
    have m5 := hu2.objs _ _ (by omega) k5
    have m6 := hu2.objs _ _ (by omega) k6
    have m7 := hu2.objs _ _ (by omega) k7
    have m8 := hu2.objs _ _ (by omega) k8
    obtain ⟨ad, ag⟩ := a
    simp only at hx2 s1
    have hLO : L = O.map (·.2) := hO.symm
    have hLl : L.length = O.length := by rw [hLO, map2_len]
    cases hq : decide ((O2.length : Int) = most)
    · have hne := of_decide_eq_false hq
      have fin : ∀ (F : Fr) (Lv : List Bool) (w3 : V) (O3 : List (V × Cg)), (∀ r : Nat, τ2.live[r]? = some true → Lv[r]? = some true) → τ2.live.length ≤ Lv.length → FrC τ2.live.length ⟨t2.objs, Lv⟩ w3 O3 → O3.map (·.2) = D.map (·.2) ++ [ag] → Y .normal F ((⟨t2.objs, Lv⟩ : St).setC (σ.objs.length + 4) [w3]) := fun F Lv w3 O3 f0 f1 f2 f3 => by
        have f4 : ((⟨t2.objs, Lv⟩ : St).setC (σ.objs.length + 4) [w3]).objs[i0]? = some r1 := (setC_ne (by omega)).trans b7
        have u0 : UpdS (fun j => j = σ.objs.length + 4) τ2 ⟨t2.objs, Lv⟩ := ⟨hu2.objs, f0, hu2.olen, f1⟩
        exact y1 _ _ f4 (.inl ⟨rfl, D ++ [(ad, ag)], O3, w3, by rw [s1]; simp, (u0.trans updS_setC fun j hj => .inl hj).trans updS_setA fun j hj => .inr (by omega), (setA_ne (by omega)).trans (setC_get hbl), f2.keep fun _ _ h => h, by rw [f3, List.map_append]; rfl, by simp only [List.length_append, List.length_singleton]; omega, setA_at f4⟩)
      clear y1 y2 y3
      rcases s4.1 with ⟨rfl, z', rfl⟩ | ⟨q, rfl, q1', q2', -⟩
      · have hfa := FrC.app0' (lo := τ2.live.length) hll hx2 hsl
        have hq0 : decide (((0 : Nat) : Int) = most) = false := hq
        simp -implicitDefEqProofs only [go_sem, Nat.reduceBEq, Nat.reduceAdd, eq_self, true_and, and_true, and_self, List.getElem?_cons_zero, List.getElem?_cons_succ, Nat.reduceLeDiff, Nat.zero_add, Nat.reduceSub, Nat.le_refl, b3, m5, hq0, flats, V.flat]
        refine ⟨⟨.inl trivial, rfl, .inr (live_last _ _), .inl trivial⟩, ?_⟩
        exact fin _ _ _ [(_, ag)] (fun r hr => (ext_push (ext_push (Ext.refl t2))).live r (hu2.live r hr)) (by have := hu2.llen; show _ ≤ (t2.live ++ [true] ++ [true]).length; simp only [List.length_append, List.length_singleton]; omega) hfa (by rw [← s5]; rfl)
      · have hfa := FrC.app' (lo := τ2.live.length) s4 hev hll hx2 hsl
        simp -implicitDefEqProofs only [go_sem, Nat.reduceBEq, Nat.reduceAdd, eq_self, true_and, and_true, and_self, List.getElem?_cons_zero, List.getElem?_cons_succ, Nat.reduceLeDiff, Nat.zero_add, Nat.reduceSub, Nat.le_refl, b3, m5, hcl, hq, flats, V.flat]
        refine ⟨⟨.inr trivial, .inr ((ext_live _ _).live _ (hev _ q1')), ⟨.inr (live_last _ _), .inl trivial⟩, by omega⟩, ?_⟩
        exact fin _ _ _ (O2 ++ [(_, ag)]) (fun r hr => (ext_kill (σ := ⟨[], τ2.live⟩) (σ' := ⟨[], t2.live ++ [true]⟩) (ext_push (σ := ⟨[], τ2.live⟩) (σ' := ⟨[], t2.live⟩) ⟨fun j o h => absurd h (by simp), hu2.live, Nat.le_refl _, hu2.llen⟩) q2').live r hr) (by have := hu2.llen; simp only [kill, List.length_append, List.length_singleton, List.length_set]; omega) hfa (by rw [List.map_append, s5]; rfl)
    · have heq := of_decide_eq_true hq
      clear y1 y2
      obtain ⟨p1, p2, p3, p4, p5⟩ := set3 (by omega) (by omega) m6 m7 m8 w2 (.bool true) (.int .i64 0)
      have ee : Ext σ t2 := hu2.toExt e3 fun j hj => by omega
      have f4 : (((t2.setC (σ.objs.length + 1) [w2]).setC (σ.objs.length + 2) [.bool true]).setC (σ.objs.length + 3) [.int .i64 0]).objs[i0]? = some r1 := by
        rw [setC_ne (by omega), setC_ne (by omega), setC_ne (by omega)]; exact b7
      have fin := fun F => y3 F _ f4 (.inr ⟨rfl, ext_setA (ext_set3 ee (by omega) (by omega) (by omega) _ _ _) (by omega), .inr ⟨setA_at f4, w2, O2, (setA_ne (by omega)).trans p3, (setA_ne (by omega)).trans p4, (setA_ne (by omega)).trans p5, (s4.keep fun r _ => hev r).mono e3.llen, by rw [s5, hLO, s1, List.map_append, List.take_left' (by rw [map2_len]; omega)], by omega⟩⟩)
      clear y3
      rcases s4.1 with ⟨rfl, z', rfl⟩ | ⟨q, rfl, -⟩
      · have hq0 : decide (((0 : Nat) : Int) = most) = true := hq
        simp -implicitDefEqProofs only [go_sem, Nat.reduceBEq, Nat.reduceAdd, eq_self, true_and, and_true, and_self, List.getElem?_cons_zero, List.getElem?_cons_succ, Nat.reduceLeDiff, Nat.zero_add, Nat.reduceSub, Nat.le_refl, b3, m5, m6, m7, m8, p1, p2, hq0, flats, V.flat]
        exact fin _
      · simp -implicitDefEqProofs only [go_sem, Nat.reduceBEq, Nat.reduceAdd, eq_self, true_and, and_true, and_self, List.getElem?_cons_zero, List.getElem?_cons_succ, Nat.reduceLeDiff, Nat.zero_add, Nat.reduceSub, Nat.le_refl, b3, m5, m6, m7, m8, p1, p2, hcl, hq, flats, V.flat]
        exact fin _
  · rintro t ⟨D, O2, w2, s1, s2, s3, s4, s5, s6, s7⟩
    rw [List.append_nil] at s1
    subst s1
    refine ⟨?_, .inl ⟨s7, s2, w2, O2, s3, s4.mono e3.llen, s5.trans hO, by rw [← hO, map2_len]; exact s6⟩⟩
    exact s2.toExt e3 fun j hj => by omega
  · rintro v t ⟨h1, ⟨h2, h3, w2, O2, h4, h5, h6, h7⟩ | ⟨h2, w2, O2, h3, h4, h5, h6, h7, h8⟩⟩
    · refine .inl ⟨h2, ?_⟩
      have u3 : UpdS (fun j => j = σ.objs.length + 4) τ2 (t.setA i0 (r3 .normal)) := h3.trans updS_setA fun j hj => .inr (by omega)
      have m6 := u3.objs _ _ (by omega) k6
      have m7 := u3.objs _ _ (by omega) k7
      have m8 := u3.objs _ _ (by omega) k8
      have m10 : (t.setA i0 (r3 .normal)).objs[σ.objs.length + 4]? = some (.cells [w2]) := (setA_ne (by omega)).trans h4
      have ee : Ext σ (t.setA i0 (r3 .normal)) := ext_setA h1 (by omega)
      obtain ⟨s1, s2, s3, s4, s5⟩ := set3 (by omega) (by omega) m6 m7 m8 w2 (.bool false) (.int .i64 0)
      rw [show decide ((L.length : Int) > most) = false by rw [decide_eq_false_iff_not]; omega, List.take_of_length_le h7] at q1 q2
      have hfin := FrC.keep (τ' := ((((t.setA i0 (r3 .normal)).setC (σ.objs.length + 1) [w2]).setC (σ.objs.length + 2) [.bool false]).setC (σ.objs.length + 3) [.int .i64 0])) h5 fun _ _ h => h
      rcases h5.1 with ⟨-, z, rfl⟩ | ⟨q, rfl, -⟩
      all_goals
        simp -implicitDefEqProofs only [go_sem, Nat.reduceBEq, Nat.reduceAdd, eq_self, true_and, and_true, and_self, List.getElem?_cons_zero, List.getElem?_cons_succ, Nat.reduceLeDiff, Nat.zero_add, Nat.reduceSub, Nat.le_refl, m6, m7, m8, m10, s1, s2, flats, V.flat]
        refine q2 _ _ ?_
        simp -implicitDefEqProofs only [go_sem, Nat.reduceBEq, Nat.reduceAdd, eq_self, true_and, and_true, and_self, List.getElem?_cons_zero, List.getElem?_cons_succ, Nat.reduceLeDiff, Nat.zero_add, Nat.reduceSub, Nat.le_refl, s3, s4, s5]
        exact ⟨⟨_, rfl, O2, hfin, h6⟩, ext_set3 ee (by omega) (by omega) (by omega) _ _ _⟩
    · refine .inr ⟨.ret, by simp, h2, ?_⟩
      have m6 : (t.setA i0 (r3 .ret)).objs[σ.objs.length + 1]? = _ := (setA_ne (by omega)).trans h3
      have m7 : (t.setA i0 (r3 .ret)).objs[σ.objs.length + 2]? = _ := (setA_ne (by omega)).trans h4
      have m8 : (t.setA i0 (r3 .ret)).objs[σ.objs.length + 3]? = _ := (setA_ne (by omega)).trans h5
      rw [show decide ((L.length : Int) > most) = true by rw [decide_eq_true_eq]; omega] at q1 q2
      simp -implicitDefEqProofs only [go_sem, Nat.reduceBEq, Nat.reduceAdd, eq_self, true_and, and_true, and_self, List.getElem?_cons_zero, List.getElem?_cons_succ, Nat.reduceLeDiff, Nat.zero_add, Nat.reduceSub, Nat.le_refl, m6, m7, m8]
      refine q2 _ _ ?_
      simp -implicitDefEqProofs only [go_sem, Nat.reduceBEq, Nat.reduceAdd, eq_self, true_and, and_true, and_self, List.getElem?_cons_zero, List.getElem?_cons_succ, Nat.reduceLeDiff, Nat.zero_add, Nat.reduceSub, Nat.le_refl, m6, m7, m8]
      exact ⟨⟨_, rfl, O2, h6.keep fun _ _ h => h, h7⟩, ext_setA h1 (by omega)⟩
end
end Go.VL.opl

namespace Go.VL
open Go

section
variable {H : Type} {enc : TypeId × Value → H} {P : Program} {w w' : World} {base : Nat} {sp : Nat → Bool} {held : Bool}

theorem OldKept.same {W W' : World} (h : OldKept W W') {p : MemPlace} (hp : p.block < W.heap.size) : W.sameAt W' p := by
  have h1 : W.heap[p.block]? = some W.heap[p.block] := Array.getElem?_eq_getElem hp
  have h2 := h.heap _ _ h1
  cases p with
  | cell b off =>
    simp only [MemPlace.block] at h1 h2
    simp only [World.sameAt, World.cell?, h1, h2]
  | map b =>
    simp only [MemPlace.block] at h1 h2
    simp only [World.sameAt, h1, h2]

end
end Go.VL

namespace Go.VL
open Go

/-- Cells that were there from the start. -/
theorem pub_cells {W : World} {a : Addr} {vs : List Value} (h : ∀ (i : Nat) v, vs[i]? = some v → W.cell? ⟨a.block, a.off + i, none⟩ = some v) : pubAt (g0 W) a.block a.off vs := by
  intro i v hv
  have hc := h i v hv
  simp only [g0, pubOf]
  unfold World.cell? at hc
  cases hb : W.heap[a.block]? with
  | none => rw [hb] at hc; cases hc
  | some o =>
    rw [hb] at hc
    cases o with
    | cells c e z => simpa using hc
    | _ => cases hc

end Go.VL

namespace Go.VL
open Go Go.ChangeShapes Go.WideShapes Go.ChangeAt Go.RowKit

/-- Shapes of what is read. -/
inductive T where
  | int (k : IntKind)
  | bool
  | str
  | sl (s : Nat) (e : T)
  | agg (l : List T)
  | arr (n : Nat) (e : T)

def tysOf (P : Program) (f : TypeId → Option T) (all : Nat) : Nat → List Field → Option (List T)
  | o, [] => bif Nat.beq o all then some [] else none
  | o, x :: r => bif Nat.beq x.offset o then (match f x.type, tysOf P f all (o + P.cellsOf x.type) r with
    | some a, some b => some (a :: b)
    | _, _ => none) else none
/-- A type's shape. -/
def tyOf (P : Program) : Nat → TypeId → Option T
  | 0, _ => none
  | n + 1, t => match P.underlying t with
    | some (.int k) => bif Nat.beq (P.cellsOf t) 1 then some (.int k) else none
    | some .bool => bif Nat.beq (P.cellsOf t) 1 then some .bool else none
    | some .string => bif Nat.beq (P.cellsOf t) 1 then some .str else none
    | some (.slice e) => bif Nat.beq (P.cellsOf t) 1 && Nat.ble 1 (P.cellsOf e) then (tyOf P n e).map (.sl (P.cellsOf e)) else none
    | some (.struct fs) => (tysOf P (tyOf P n) (P.cellsOf t) 0 fs.toList).map .agg
    | some (.array m e) => bif Nat.beq (P.cellsOf t) (m * P.cellsOf e) then (tyOf P n e).map (.arr m) else none
    | _ => none

mutual
/-- Cells of a shape. -/
def T.has : T → List V → Prop
  | .int k, xs => ∃ n, xs = [.int k n] ∧ (Lit.int k n).wf = true
  | .bool, xs => ∃ b, xs = [.bool b]
  | .str, xs => ∃ s, xs = [.str s]
  | .sl s e, xs => xs = [.sl true .pub 0 []] ∨ ∃ es, xs = [.sl false .pub s es] ∧ ∀ x ∈ es, e.has x
  | .agg l, xs => T.hasL l xs
  | .arr n e, xs => ∃ l : List (List V), l.length = n ∧ xs = l.flatten ∧ ∀ x ∈ l, e.has x
def T.hasL : List T → List V → Prop
  | [], xs => xs = []
  | t :: r, xs => ∃ a b, xs = a ++ b ∧ t.has a ∧ T.hasL r b
end

mutual
/-- How much there is of it. -/
def vb : V → Nat
  | .str s => s.length + 1
  | .sl _ _ _ es => vbe es + 1
  | .int _ _ | .bool _ | .agg _ | .tup _ | .ptr _ | .elt _ _ _ _ _ | .map _ | .osl _ _ _ _ | .fn _ _ | .nilf | .raw _ | .bad => 1
def vbs : List V → Nat
  | [] => 0
  | x :: r => vb x + vbs r
def vbe : List (List V) → Nat
  | [] => 0
  | x :: r => vbs x + vbe r
end
theorem vbs_append : ∀ (a b : List V), vbs (a ++ b) = vbs a + vbs b
  | [], b => by simp [vbs]
  | x :: a, b => by simp [vbs, vbs_append a b, Nat.add_assoc]
theorem vbs_flatten : ∀ (l : List (List V)), vbs l.flatten = vbe l
  | [] => by simp [vbs, vbe]
  | x :: l => by simp [vbe, vbs_append, vbs_flatten l]

/-- A measure of data that counts at least so much. -/
structure Bulk {H : Type} (B : DataW H → Nat) : Prop where
  lit : ∀ l, 1 ≤ B (.lit l)
  str : ∀ s, s.length + 1 ≤ B (.lit (.string s))
  nil : 1 ≤ B .nil
  slice : ∀ es sp, (es.map B).sum + 1 ≤ B (.slice es sp)
  agg : ∀ ps, (ps.map B).sum ≤ B (.agg ps)

section
variable {H : Type} {enc : TypeId × Value → H} {P : Program} {W : World} {sp : Nat → Bool} {held : Bool} {B : DataW H → Nat}

/-- What is read is of its type's shape. -/
def Reads (W : World) (B : DataW H → Nat) (T0 : T) (c : Nat) (cs : List Value) (d : DataW H) : Prop :=
  ∃ xs, RepL (g0 W) xs cs ∧ T0.has xs ∧ vbs xs ≤ B d ∧ (∀ v ∈ cs, v.oneCell' = true) ∧ cs.length = c

theorem RepL.len {γ : G} : ∀ {xs : List V} {vs : List Value}, RepL γ xs vs → xs.length = vs.length
  | [], vs, h => by simp only [RepL] at h; subst h; rfl
  | x :: xs, vs, h => by
    simp only [RepL] at h
    obtain ⟨v, ws, rfl, _, h2⟩ := h
    simp [RepL.len h2]

theorem rows_read {T0 : T} {a : Addr} {c : Nat} (hsp : a.spot = none) : ∀ (elems : List (DataW H × List MemPlace)) (k : Nat),
    (∀ (i : Nat) y, elems[i]? = some y → ∃ cs, W.cells? 0 (a.add ((k + i) * c)) c = some cs ∧ Reads W B T0 c cs y.1) →
    ∃ es vs, es.length = elems.length ∧ RepE (g0 W) c es vs ∧ (∀ x ∈ es, T0.has x) ∧ vbe es ≤ ((elems.map (·.1)).map B).sum ∧ ∀ (j : Nat) v, vs[j]? = some v → W.cell? ⟨a.block, a.off + k * c + j, none⟩ = some v
  | [], k, _ => ⟨[], [], rfl, by simp [RepE], by simp, by simp [vbe], by simp⟩
  | y :: r, k, h => by
    obtain ⟨es, vs, h1, h2, h3, h4, h5⟩ := rows_read hsp r (k + 1) fun i y hy => by
      obtain ⟨cs, e1, e2⟩ := h (i + 1) y (by simpa using hy)
      exact ⟨cs, by rw [show k + 1 + i = k + (i + 1) from by omega]; exact e1, e2⟩
    obtain ⟨cs, e1, xs, f1, f2, f3, f4, f5⟩ := h 0 y rfl
    obtain ⟨_, g1, g2⟩ := World.cells?_some e1
    refine ⟨xs :: es, cs ++ vs, by simp [h1], ?_, ?_, ?_, ?_⟩
    · simp only [RepE]
      exact ⟨cs, vs, rfl, by rw [f1.len, f5], f1, h2, f4⟩
    · intro x hx
      rcases List.mem_cons.1 hx with rfl | hx
      · exact f2
      · exact h3 x hx
    · simp only [vbe, List.map_cons, List.sum_cons]; omega
    · intro j v hv
      by_cases hj : j < cs.length
      · rw [List.getElem?_append_left hj] at hv
        have := g2 j (by omega)
        rw [hv, Nat.add_zero, add_spot hsp, add_spot rfl] at this
        exact this
      · rw [List.getElem?_append_right (by omega)] at hv
        have := h5 _ _ hv
        rw [show a.off + k * c + j = a.off + (k + 1) * c + (j - cs.length) from by rw [Nat.succ_mul]; omega]
        exact this

theorem fields_read (hB : Bulk B) {f : TypeId → Option T} {rd : TypeId → List Value → Option (DataW H × List MemPlace)} (ih : ∀ t T0 cs d ps, f t = some T0 → rd t cs = some (d, ps) → Reads W B T0 (P.cellsOf t) cs d) {all : Nat} :
    ∀ (fs : List Field) (o : Nat) (Ts : List T) (cs : List Value) (xs : List (DataW H × List MemPlace)), tysOf P f all o fs = some Ts → cs.length + o = all → xs.length = fs.length →
      (∀ (i : Nat) (x : Field), fs[i]? = some x → rd x.type ((cs.drop (x.offset - o)).take (P.cellsOf x.type)) = xs[i]?) →
      ∃ ys, RepL (g0 W) ys cs ∧ T.hasL Ts ys ∧ vbs ys ≤ ((xs.map (·.1)).map B).sum ∧ (∀ v ∈ cs, v.oneCell' = true)
  | [], o, Ts, cs, xs, ht, hl, hx, h => by
    simp only [tysOf] at ht
    cases hb : Nat.beq o all with
    | false => simp [hb] at ht
    | true =>
      simp only [hb, cond_true, Option.some.injEq] at ht
      subst ht
      have := Nat.eq_of_beq_eq_true hb
      have : cs = [] := by apply List.eq_nil_of_length_eq_zero; omega
      subst this
      exact ⟨[], by simp [RepL], by simp [T.hasL], by simp [vbs], by simp⟩
  | x :: r, o, Ts, cs, xs, ht, hl, hx, h => by
    simp only [tysOf] at ht
    cases hb : Nat.beq x.offset o with
    | false => simp [hb] at ht
    | true =>
      have ho := Nat.eq_of_beq_eq_true hb
      simp only [hb, cond_true] at ht
      split at ht
      · rename_i a b ha hbb
        simp only [Option.some.injEq] at ht
        subst ht
        cases xs with
        | nil => simp at hx
        | cons y ys =>
          have h0 := h 0 x rfl
          simp only [ho, Nat.sub_self, List.drop_zero, List.getElem?_cons_zero] at h0
          obtain ⟨zs, f1, f2, f3, f4, f5⟩ := ih _ _ _ _ _ ha h0
          have hle : P.cellsOf x.type ≤ cs.length := by rw [← f5, List.length_take]; omega
          obtain ⟨us, k1, k2, k3, k4⟩ := fields_read hB ih r (o + P.cellsOf x.type) b (cs.drop (P.cellsOf x.type)) ys hbb (by rw [List.length_drop]; omega) (by simpa using hx) (by
            intro i fd hfd
            have := h (i + 1) fd (by simpa using hfd)
            simp only [List.getElem?_cons_succ] at this
            rw [← this, List.drop_drop]
            -- a field's place is not ahead of where we are
            have hge : o + P.cellsOf x.type ≤ fd.offset := tysOf_ge hbb hfd
            congr 3
            omega)
          refine ⟨zs ++ us, ?_, ⟨zs, us, rfl, f2, k2⟩, ?_, ?_⟩
          · rw [← List.take_append_drop (P.cellsOf x.type) cs]
            exact f1.append k1
          · rw [vbs_append]; simp only [List.map_cons, List.sum_cons]; omega
          · intro v hv
            rw [← List.take_append_drop (P.cellsOf x.type) cs] at hv
            rcases List.mem_append.1 hv with hv | hv
            · exact f4 v hv
            · exact k4 v hv
      · cases ht
where
  tysOf_ge {f : TypeId → Option T} {all : Nat} : ∀ {fs : List Field} {o : Nat} {Ts : List T} {i : Nat} {fd : Field}, tysOf P f all o fs = some Ts → fs[i]? = some fd → o ≤ fd.offset
    | [], o, Ts, i, fd, _, h => by simp at h
    | x :: r, o, Ts, i, fd, ht, h => by
      simp only [tysOf] at ht
      cases hb : Nat.beq x.offset o with
      | false => simp [hb] at ht
      | true =>
        have ho := Nat.eq_of_beq_eq_true hb
        simp only [hb, cond_true] at ht
        split at ht
        · rename_i a b ha hbb
          cases i with
          | zero => simp only [List.getElem?_cons_zero, Option.some.injEq] at h; subst h; omega
          | succ i =>
            simp only [List.getElem?_cons_succ] at h
            have := tysOf_ge hbb h
            omega
        · cases ht

theorem arr_read {T0 : T} {c : Nat} {rd : List Value → Option (DataW H × List MemPlace)} (ih : ∀ cs d ps, rd cs = some (d, ps) → Reads W B T0 c cs d) :
    ∀ (n : Nat) (cs : List Value) (xs : List (DataW H × List MemPlace)), cs.length = n * c → xs.length = n → (∀ (i : Nat), i < n → rd ((cs.drop (i * c)).take c) = xs[i]?) →
      ∃ l : List (List V), l.length = n ∧ RepL (g0 W) l.flatten cs ∧ (∀ x ∈ l, T0.has x) ∧ vbe l ≤ ((xs.map (·.1)).map B).sum ∧ (∀ v ∈ cs, v.oneCell' = true)
  | 0, cs, xs, hl, hx, h => by
    have : cs = [] := by apply List.eq_nil_of_length_eq_zero; omega
    subst this
    exact ⟨[], rfl, by simp [RepL], by simp, by simp [vbe], by simp⟩
  | n + 1, cs, xs, hl, hx, h => by
    cases xs with
    | nil => simp at hx
    | cons y ys =>
      have h0 := h 0 (by omega)
      simp only [Nat.zero_mul, List.drop_zero, List.getElem?_cons_zero] at h0
      obtain ⟨zs, f1, f2, f3, f4, f5⟩ := ih _ _ _ h0
      obtain ⟨l, k1, k2, k3, k4, k5⟩ := arr_read ih n (cs.drop c) ys (by rw [List.length_drop, hl, Nat.succ_mul]; omega) (by simpa using hx) (fun i hi => by
        have := h (i + 1) (by omega)
        simp only [List.getElem?_cons_succ] at this
        rw [← this, List.drop_drop, Nat.succ_mul, Nat.add_comm])
      refine ⟨zs :: l, by simp [k1], ?_, ?_, ?_, ?_⟩
      · rw [List.flatten_cons, ← List.take_append_drop c cs]
        exact f1.append k2
      · intro x hx
        rcases List.mem_cons.1 hx with rfl | hx
        · exact f2
        · exact k3 x hx
      · simp only [vbe, List.map_cons, List.sum_cons]; omega
      · intro v hv
        rw [← List.take_append_drop c cs] at hv
        rcases List.mem_append.1 hv with hv | hv
        · exact f4 v hv
        · exact k5 v hv

theorem one_read {x : V} {v : Value} {T0 : T} {d : DataW H} (hr : Rep (g0 W) x v) (ht : T0.has [x]) (hb : vb x ≤ B d) (h1 : v.oneCell' = true) : Reads W B T0 1 [v] d :=
  ⟨[x], by simp only [RepL]; exact ⟨v, [], rfl, hr, rfl⟩, ht, by simpa [vbs] using hb, by simpa using h1, rfl⟩

theorem read_has (hB : Bulk B) : ∀ (n : Nat) (t : TypeId) (T0 : T) (fuel : Nat) (cs : List Value) (d : DataW H) (ps : List MemPlace), tyOf P n t = some T0 → DataW.trod enc P W 0 sp held fuel t cs = some (d, ps) → Reads W B T0 (P.cellsOf t) cs d
  | 0, t, T0, fuel, cs, d, ps, ht, _ => by simp [tyOf] at ht
  | n + 1, t, T0, fuel, cs, d, ps, ht, h => by
    have c1 : ∀ {x : Option T}, (bif Nat.beq (P.cellsOf t) 1 then x else none) = some T0 → P.cellsOf t = 1 ∧ x = some T0 := by
      intro x hx
      cases hb : Nat.beq (P.cellsOf t) 1 with
      | false => simp [hb] at hx
      | true => exact ⟨Nat.eq_of_beq_eq_true hb, by simpa [hb] using hx⟩
    simp only [tyOf] at ht
    split at ht
    · rename_i k hu
      obtain ⟨hc, h0⟩ := c1 ht
      cases h0
      rw [hc]
      obtain ⟨n', rfl, h1, hw⟩ := DataW.trod_int hu h
      simp only [Prod.mk.injEq] at h1
      obtain ⟨rfl, rfl⟩ := h1
      exact one_read (x := .int k n') (by simp only [Rep]) ⟨_, rfl, hw⟩ (by simpa [vb] using hB.lit _) rfl
    · rename_i hu
      obtain ⟨hc, h0⟩ := c1 ht
      cases h0
      rw [hc]
      obtain ⟨b, rfl, h1⟩ := DataW.trod_bool hu h
      simp only [Prod.mk.injEq] at h1
      obtain ⟨rfl, rfl⟩ := h1
      exact one_read (x := .bool b) (by simp only [Rep]) ⟨_, rfl⟩ (by simpa [vb] using hB.lit _) rfl
    · rename_i hu
      obtain ⟨hc, h0⟩ := c1 ht
      cases h0
      rw [hc]
      obtain ⟨s, rfl, h1, _⟩ := DataW.trod_string hu h
      simp only [Prod.mk.injEq] at h1
      obtain ⟨rfl, rfl⟩ := h1
      exact one_read (x := .str s.data.toList) (by simp only [Rep]) ⟨_, rfl⟩ (by simp only [vb]; exact hB.str _) rfl
    · rename_i e hu
      cases hb : (Nat.beq (P.cellsOf t) 1 && Nat.ble 1 (P.cellsOf e)) with
      | false => simp [hb] at ht
      | true =>
        simp only [hb, cond_true, Option.map_eq_some_iff] at ht
        obtain ⟨Te, hTe, rfl⟩ := ht
        simp only [Bool.and_eq_true] at hb
        have hc := Nat.eq_of_beq_eq_true hb.1
        have he := Nat.le_of_ble_eq_true hb.2
        rw [hc]
        rcases DataW.trod_slice hu h with ⟨rfl, h0⟩ | ⟨a, len, cap, elems, rest, m, _, rfl, h0, _, hl, _, hlen, hel, _⟩
        · simp only [Prod.mk.injEq] at h0
          obtain ⟨rfl, rfl⟩ := h0
          exact one_read (x := .sl true .pub 0 []) (by simp [Rep]) (.inl rfl) (by simpa [vb, vbe] using hB.nil) rfl
        · simp only [Prod.mk.injEq] at h0
          obtain ⟨rfl, rfl⟩ := h0
          have each : ∀ (i : Nat) y, elems[i]? = some y → ∃ cs, W.cells? 0 (a.add ((0 + i) * P.cellsOf e)) (P.cellsOf e) = some cs ∧ Reads W B Te (P.cellsOf e) cs y.1 := by
            intro i y hy
            have hi : i < len := by rw [← hlen]; exact (List.getElem?_eq_some_iff.1 hy).1
            have := hel i hi
            rw [hy, Option.bind_eq_some_iff] at this
            obtain ⟨cs, e1, e2⟩ := this
            exact ⟨cs, by rw [Nat.zero_add]; exact e1, read_has hB n e Te m cs y.1 y.2 hTe e2⟩
          by_cases hsp : a.spot = none
          · obtain ⟨es, vs, k1, k2, k3, k4, k5⟩ := rows_read hsp elems 0 each
            refine one_read (x := .sl false .pub (P.cellsOf e) es) ?_ (.inr ⟨es, rfl, k3⟩) ?_ rfl
            · simp only [Rep]
              exact ⟨a, cap, vs, by rw [k1, hlen], .inr hsp, by omega, pub_cells (fun i v hv => by simpa using k5 i v hv), k2⟩
            · have := hB.slice (elems.map (·.1)) (rest.map (·.1))
              simp only [vb]
              omega
          · have hnil : elems = [] := by
              cases elems with
              | nil => rfl
              | cons y r =>
                exfalso
                obtain ⟨cs, e1, _⟩ := each 0 y rfl
                obtain ⟨_, g1, g2⟩ := World.cells?_some e1
                have := g2 0 he
                have h0 : (a.add ((0 + 0) * P.cellsOf e)).add 0 = a := by simp [Addr.add]
                rw [h0] at this
                have hcs : cs[0]? = some cs[0] := List.getElem?_eq_getElem (by omega)
                rw [hcs] at this
                unfold World.cell? at this
                split at this
                · cases hx : a.spot with
                  | none => exact hsp hx
                  | some b => simp [hx] at this
                · cases this
            subst hnil
            refine one_read (x := .sl false .pub (P.cellsOf e) []) ?_ (.inr ⟨[], rfl, by simp⟩) ?_ rfl
            · simp only [Rep]
              simp only [List.length_nil] at hlen
              exact ⟨a, cap, [], by rw [← hlen]; rfl, .inl trivial, by simp, fun i v hv => by simp at hv, by simp [RepE]⟩
            · have := hB.slice ([] : List (DataW H)) (rest.map (·.1))
              simp only [vb, vbe]
              simp only [List.map_nil, List.sum_nil] at this ⊢
              omega
    · rename_i fs hu
      simp only [Option.map_eq_some_iff] at ht
      obtain ⟨Ts, hTs, rfl⟩ := ht
      obtain ⟨xs, m, _, h0, hl, hlen, hf⟩ := DataW.trod_struct hu h
      simp only [Prod.mk.injEq] at h0
      obtain ⟨rfl, rfl⟩ := h0
      obtain ⟨ys, k1, k2, k3, k4⟩ := fields_read (P := P) hB (f := tyOf P n) (rd := fun t cs => DataW.trod enc P W 0 sp held m t cs) (fun t T0 cs d ps h1 h2 => read_has hB n t T0 m cs d ps h1 h2) fs.toList 0 Ts cs xs hTs (by omega) (by simpa using hlen)
        (fun i x hx => by simpa using hf i x (by simpa using hx))
      exact ⟨ys, k1, k2, Nat.le_trans k3 (hB.agg _), k4, hl⟩
    · rename_i m e hu
      cases hb : Nat.beq (P.cellsOf t) (m * P.cellsOf e) with
      | false => simp [hb] at ht
      | true =>
        simp only [hb, cond_true, Option.map_eq_some_iff] at ht
        obtain ⟨Te, hTe, rfl⟩ := ht
        have hc := Nat.eq_of_beq_eq_true hb
        obtain ⟨xs, q, _, h0, hl, hlen, hf⟩ := DataW.trod_array hu h
        simp only [Prod.mk.injEq] at h0
        obtain ⟨rfl, rfl⟩ := h0
        obtain ⟨l, k1, k2, k3, k4, k5⟩ := arr_read (rd := fun cs => DataW.trod enc P W 0 sp held q e cs) (T0 := Te) (c := P.cellsOf e) (W := W) (B := B) (fun cs d ps h2 => read_has hB n e Te q cs d ps hTe h2) m cs xs (by rw [hl, hc]) hlen hf
        exact ⟨l.flatten, k2, ⟨l, k1, rfl, k3⟩, by rw [vbs_flatten]; exact Nat.le_trans k4 (hB.agg _), k5, hl⟩
    · cases ht

/-- An argument of a shape. -/
def T.arg : T → V → Prop
  | .agg l, x => ∃ xs, x = .agg xs ∧ T.hasL l xs
  | .arr n e, x => ∃ xs, x = .agg xs ∧ (T.arr n e).has xs
  | t, x => t.has [x]
def T.args : List T → List V → Prop
  | [], xs => xs = []
  | t :: r, xs => ∃ x ys, xs = x :: ys ∧ t.arg x ∧ T.args r ys
def vba : V → Nat
  | .agg xs => vbs xs
  | x => vb x
def vbas : List V → Nat
  | [] => 0
  | x :: r => vba x + vbas r

theorem vba_one {x : V} (h : ∀ xs, x ≠ .agg xs) : vba x = vbs [x] := by
  cases x <;> first | rfl | exact absurd rfl (h _)

def tysAll (P : Program) (n : Nat) : List TypeId → Option (List T)
  | [] => some []
  | t :: r => match tyOf P n t, tysAll P n r with
    | some a, some b => some (a :: b)
    | _, _ => none

theorem cells_one {v q : Value} (hq : v.cells.toList = [q]) (ha : ∀ cs, v ≠ .agg cs) : v.cells.toList = [v] := by
  cases v <;> first | rfl | exact absurd rfl (ha _)

theorem arg_read (hB : Bulk B) {n : Nat} {t : TypeId} {T0 : T} {base : Nat} {v : Value} {d : DataW H} {ps : List MemPlace} (ht : tyOf P n t = some T0) (hok : Value.okWide P W .any base t v) (h : DataW.Trod enc P W 0 sp held t v d ps) :
    ∃ x, Rep (g0 W) x v ∧ T0.arg x ∧ vba x ≤ B d := by
  obtain ⟨fuel, h⟩ := h
  obtain ⟨xs, k1, k2, k3, k4, k5⟩ := read_has hB n t T0 fuel _ d ps ht h
  have flat : ∀ (T1 : T), T0 = T1 → (∀ x, T1.has [x] → T1.arg x ∧ ∀ xs, x ≠ .agg xs) → v.cells.toList = [v] → (∃ x, xs = [x]) → ∃ x, Rep (g0 W) x v ∧ T0.arg x ∧ vba x ≤ B d := by
    rintro T1 rfl ha hv ⟨x, rfl⟩
    rw [hv] at k1
    simp only [RepL, List.cons.injEq] at k1
    obtain ⟨w, ws, ⟨rfl, rfl⟩, k1, -⟩ := k1
    obtain ⟨a1, a2⟩ := ha x k2
    exact ⟨x, k1, a1, by rw [vba_one a2]; exact k3⟩
  have agg : ∀ cs, v = .agg cs → Rep (g0 W) (.agg xs) v := by
    intro cs hv
    subst hv
    simp only [Rep]
    exact ⟨cs.toList, by simp, k1⟩
  cases n with
  | zero => simp [tyOf] at ht
  | succ n =>
    unfold Value.okWide at hok
    simp only [tyOf] at ht
    split at ht
    · rename_i k hu
      rw [hu] at hok
      have hT : T0 = .int k := by
        cases hb : Nat.beq (P.cellsOf t) 1 <;> simp [hb] at ht
        exact ht.symm
      subst hT
      obtain ⟨m, rfl, hw⟩ := k2
      exact flat _ rfl (fun x hx => ⟨hx, by obtain ⟨m, hx, _⟩ := hx; simp only [List.cons.injEq, and_true] at hx; subst hx; simp⟩) (by
        obtain ⟨q, hq, _⟩ := DataW.trod_int hu h
        exact cells_one hq (by intro cs hcs; subst hcs; simp [Cell.okWide, Cell.ok, hu] at hok)) ⟨_, rfl⟩
    · rename_i hu
      rw [hu] at hok
      have hT : T0 = .bool := by
        cases hb : Nat.beq (P.cellsOf t) 1 <;> simp [hb] at ht
        exact ht.symm
      subst hT
      obtain ⟨m, rfl⟩ := k2
      exact flat _ rfl (fun x hx => ⟨hx, by obtain ⟨m, hx⟩ := hx; simp only [List.cons.injEq, and_true] at hx; subst hx; simp⟩) (by
        obtain ⟨q, hq, _⟩ := DataW.trod_bool hu h
        exact cells_one hq (by intro cs hcs; subst hcs; simp [Cell.okWide, Cell.ok, hu] at hok)) ⟨_, rfl⟩
    · rename_i hu
      rw [hu] at hok
      have hT : T0 = .str := by
        cases hb : Nat.beq (P.cellsOf t) 1 <;> simp [hb] at ht
        exact ht.symm
      subst hT
      obtain ⟨m, rfl⟩ := k2
      exact flat _ rfl (fun x hx => ⟨hx, by obtain ⟨m, hx⟩ := hx; simp only [List.cons.injEq, and_true] at hx; subst hx; simp⟩) (by
        obtain ⟨q, hq, _⟩ := DataW.trod_string hu h
        exact cells_one hq (by intro cs hcs; subst hcs; simp [Cell.okWide, Cell.ok, hu] at hok)) ⟨_, rfl⟩
    · rename_i e hu
      rw [hu] at hok
      have hT : ∃ s Te, T0 = .sl s Te := by
        cases hb : (Nat.beq (P.cellsOf t) 1 && Nat.ble 1 (P.cellsOf e)) <;> simp [hb] at ht
        obtain ⟨Te, _, h⟩ := ht
        exact ⟨_, _, h.symm⟩
      obtain ⟨s, Te, rfl⟩ := hT
      have hxs : ∃ x, xs = [x] := by
        rcases k2 with rfl | ⟨es, rfl, _⟩ <;> exact ⟨_, rfl⟩
      exact flat _ rfl (fun x hx => ⟨hx, by
        rcases hx with hx | ⟨es, hx, _⟩ <;> (simp only [List.cons.injEq, and_true] at hx; subst hx; simp)⟩) (by
        have : ∃ q, v.cells.toList = [q] := by
          rcases DataW.trod_slice hu h with ⟨hq, _⟩ | ⟨a, len, cap, elems, rest, m, _, hq, _⟩ <;> exact ⟨_, hq⟩
        obtain ⟨q, hq⟩ := this
        exact cells_one hq (by intro cs hcs; subst hcs; simp [Cell.okWide, Cell.ok, hu] at hok)) hxs
    · rename_i fs hu
      rw [hu] at hok
      obtain ⟨cs, hv, _⟩ := hok
      simp only [Option.map_eq_some_iff] at ht
      obtain ⟨Ts, hTs, rfl⟩ := ht
      exact ⟨.agg xs, agg cs hv, ⟨xs, rfl, k2⟩, k3⟩
    · rename_i m e hu
      rw [hu] at hok
      obtain ⟨cs, hv, _⟩ := hok
      have hT : ∃ Te, T0 = .arr m Te := by
        cases hb : Nat.beq (P.cellsOf t) (m * P.cellsOf e) <;> simp [hb] at ht
        obtain ⟨Te, _, h⟩ := ht
        exact ⟨_, h.symm⟩
      obtain ⟨Te, rfl⟩ := hT
      exact ⟨.agg xs, agg cs hv, ⟨xs, rfl, k2⟩, k3⟩
    · cases ht
theorem args_read (hB : Bulk B) {n base : Nat} : ∀ (ts : List TypeId) (Ts : List T) (vs : List Value) (ds : List (DataW H)) (ps : List MemPlace), tysAll P n ts = some Ts → (∀ (j : Nat) t v, ts[j]? = some t → vs[j]? = some v → Value.okWide P W .any base t v) →
    DataW.TrodAll enc P W 0 sp held ts vs ds ps → ∃ xs, RepL (g0 W) xs vs ∧ T.args Ts xs ∧ vbas xs ≤ (ds.map B).sum
  | [], Ts, [], [], ps, ht, _, _ => by
    simp only [tysAll, Option.some.injEq] at ht
    subst ht
    exact ⟨[], by simp [RepL], by simp [T.args], by simp [vbas]⟩
  | t :: ts, Ts, v :: vs, d :: ds, ps, ht, hok, ⟨p, q, h1, h2, _⟩ => by
    simp only [tysAll] at ht
    split at ht
    · rename_i a b ha hb
      simp only [Option.some.injEq] at ht
      subst ht
      obtain ⟨x, e1, e2, e3⟩ := arg_read hB ha (hok 0 t v rfl rfl) h1
      obtain ⟨xs, f1, f2, f3⟩ := args_read hB ts b vs ds q hb (fun j t v h1 h2 => hok (j + 1) t v (by simpa using h1) (by simpa using h2)) h2
      refine ⟨x :: xs, by simp only [RepL]; exact ⟨v, vs, rfl, e1, f1⟩, ⟨x, xs, rfl, e2, f2⟩, ?_⟩
      simp only [vbas, List.map_cons, List.sum_cons]; omega
    · cases ht
  | [], _, _ :: _, _, _, _, _, h => by simp [DataW.TrodAll] at h
  | [], _, [], _ :: _, _, _, _, h => by simp [DataW.TrodAll] at h
  | _ :: _, _, [], _, _, _, _, h => by simp [DataW.TrodAll] at h
  | _ :: _, _, _ :: _, [], _, _, _, h => by simp [DataW.TrodAll] at h

theorem trodAll_stays (hl : laidOutB P = true) {W' : World} {sp' : Nat → Bool} : ∀ {ts : List TypeId} {vs : List Value} {ds : List (DataW H)} {ps : List MemPlace}, (ts.all fun t => P.readableRec t && decide (t < P.types.size)) = true →
    DataW.TrodAll enc P W 0 (fun _ => true) true ts vs ds ps → (∀ p ∈ ps, W.sameAt W' p) → (∀ p ∈ ps, sp' p.block = true) → DataW.TrodAll enc P W' 0 sp' true ts vs ds ps
  | [], [], [], _, _, h, _, _ => h
  | _ :: _, _ :: _, _ :: _, _, hr, ⟨p, q, h1, h2, e⟩, hs, hp => by
    simp only [List.all_cons, Bool.and_eq_true, decide_eq_true_eq] at hr
    exact ⟨p, q, WideElems.Trod_stays hl hr.1.1 hr.1.2 h1 (fun x hx => hs x (by rw [e]; exact List.mem_append_left _ hx)) (fun x hx => hp x (by rw [e]; exact List.mem_append_left _ hx)),
      trodAll_stays hl (by simpa using hr.2) h2 (fun x hx => hs x (by rw [e]; exact List.mem_append_right _ hx)) (fun x hx => hp x (by rw [e]; exact List.mem_append_right _ hx)), e⟩

/-- A law's contract, from V-logic: whatever the arguments of the types' shapes, it tells true. -/
theorem law_calls (hB : Bulk B) {f : Func} {fid : FuncId} {s : ChangeSpec} {W : World} {base n : Nat} {args : Array Value} {ds gs : List (DataW H)} {before : List MemPlace} {Ts : List T} {tb : TypeId}
    (hlo : laidOutB P = true) (hts : tysAll P n f.params.toList = some Ts) (hrd : (f.params.toList.all fun t => P.readableRec t && decide (t < P.types.size)) = true) (hvars : s.vars = []) (hres : f.resultTypes = #[tb]) (hb : P.underlying tb = some .bool)
    (hspec : ∀ ds : List (DataW H), ds.length = f.params.size → s.fn H ds = { results := [.lit (.bool true)], args := ds })
    (hval : ∀ (j : Nat) t v, f.params[j]? = some t → args[j]? = some v → Value.okWide P W .any base t v)
    (hW : DataW.Whole enc P f.params.toList s.vars false W args.toList ds gs before)
    (hc : ∀ xs, T.args Ts xs → vbas xs ≤ ((ds ++ gs).map B).sum → CallA P fid xs ⟨[], []⟩ fun v _ => v = .bool true) :
    Calls P fid args W fun e W' => ∃ v, e = .returned v ∧ s.post enc P f false true false false W args v W' := by
  have hW' := hW
  obtain ⟨p, q, hA, hV, rfl, hfz, hnd⟩ := hW
  rw [hvars] at hV
  obtain ⟨rfl, rfl⟩ := trodVars_none hV
  rw [List.append_nil] at hc
  have hlen : ∀ {ts : List TypeId} {vs : List Value} {ds : List (DataW H)} {ps : List MemPlace}, DataW.TrodAll enc P W 0 (fun _ => true) true ts vs ds ps → ds.length = ts.length := by
    intro ts
    induction ts with
    | nil => intro vs ds ps h; cases vs <;> cases ds <;> simp_all [DataW.TrodAll]
    | cons t ts ih =>
      intro vs ds ps h
      cases vs <;> cases ds <;> simp only [DataW.TrodAll] at h
      obtain ⟨_, _, _, h2, _⟩ := h
      simp [ih h2]
  have hs := hspec ds (by rw [hlen hA]; simp)
  obtain ⟨xs, k1, k2, k3⟩ := args_read hB f.params.toList Ts args.toList ds p hts (fun j t v h1 h2 => hval j t v (by simpa using h1) (by simpa using h2)) hA
  refine (entry (hc xs k2 k3) k1).mono fun e W' ⟨v, x, σ, γ, he, hk, hi, hx, hxv⟩ => ?_
  subst he hxv
  simp only [Rep] at hx
  subst hx
  simp only [List.append_nil] at hW'
  refine ⟨_, rfl, post_of_old (pa := p) (pv := []) (gs := []) (ds := ds) (before := p) (by simpa using hW') ?_ ?_ ?_ (by simp) hk (ok_one hres rfl (okWide_bool_mk hb _))⟩
  · intro b sp hd
    rw [List.append_nil, hs, hres]
    exact (trodAll_cons_mk (shut_bool hb _) trodAll_mk0)
  · intro sp hsp
    rw [List.append_nil, hs]
    exact trodAll_stays hlo hrd hA (fun x hx => hk.same (hW'.lt x (by simpa using hx))) hsp
  · intro sp _
    rw [List.append_nil, hs, hvars]
    rfl
end
end Go.VL
namespace Go.VL
open Go

theorem ints_of : ∀ {es : List (List V)}, (∀ y ∈ es, (T.int .i64).has y) → ∃ ns : List Int, es = intsV .i64 ns ∧ ns.length ≤ vbe es ∧ ∀ n ∈ ns, -9223372036854775808 ≤ n ∧ n < 9223372036854775808
  | [], _ => ⟨[], rfl, by simp, by simp⟩
  | y :: es, h => by
    obtain ⟨bs, rfl, h2, h3⟩ := ints_of (es := es) fun y hy => h y (by simp [hy])
    obtain ⟨n, rfl, hw⟩ := h y (by simp)
    have hr : -9223372036854775808 ≤ n ∧ n ≤ 9223372036854775807 := by
      simpa [Lit.wf, IntKind.min, IntKind.max, IntKind.signed, IntKind.bits] using hw
    refine ⟨n :: bs, rfl, by simp only [List.length_cons, vbe, vbs, vb]; omega, fun m hm => ?_⟩
    rcases List.mem_cons.1 hm with rfl | hm
    · omega
    · exact h3 m hm
theorem arg_int {x : V} (h : (T.int .i64).arg x) : ∃ n, x = .int .i64 n ∧ -9223372036854775808 ≤ n ∧ n < 9223372036854775808 := by
  obtain ⟨n, h1, hw⟩ := h
  simp only [List.cons.injEq, and_true] at h1
  have hr : -9223372036854775808 ≤ n ∧ n ≤ 9223372036854775807 := by
    simpa [Lit.wf, IntKind.min, IntKind.max, IntKind.signed, IntKind.bits] using hw
  exact ⟨n, h1, by omega, by omega⟩
end Go.VL
namespace Go.VL
open Go
end Go.VL

namespace Go.VL.opl
open Go Go.VL Go.Proofs Go.IntWalk Go.VL.st Go.VL.row

def StT : T := .agg [.int .i64, .int .i64]
def CgT : List T := [StT, .int .i64, .sl 1 (.int .i64), .int .i64, StT, StT, StT, .str, .str]
theorem has_ints {xs : List V} (h : (T.sl 1 (.int .i64)).has xs) : ∃ d l, xs = [d] ∧ (∀ σ, RdS σ d 1 (intsV .i64 l)) ∧ l.length < vbs xs := by
  rcases h with rfl | ⟨es, rfl, h⟩
  · exact ⟨_, [], rfl, fun σ => ⟨_, _, _, rfl, by simp [intsV], .inl rfl⟩, by simp [vbs, vb]⟩
  · obtain ⟨l, rfl, h2, h3⟩ := ints_of h
    exact ⟨_, l, rfl, fun σ => ⟨_, _, _, rfl, by simp, .inr ⟨trivial, rfl⟩⟩, by simp only [vbs, vb]; omega⟩
theorem has_st {xs : List V} (h : StT.has xs) : ∃ c r, xs = [.int .i64 c, .int .i64 r] := by
  obtain ⟨_, _, rfl, ⟨c, rfl, h1⟩, _, _, rfl, ⟨r, rfl, h2⟩, rfl⟩ := h
  exact ⟨c, r, rfl⟩
theorem has_cg {xs : List V} (h : T.hasL CgT xs) : ∃ d g, xs = cgC d g ∧ (∀ σ, RdS σ d 1 (intsV .i64 g.deps)) ∧ 13 + g.deps.length + g.name.length + g.val.length ≤ vbs xs := by
  obtain ⟨_, _, rfl, h1, _, _, rfl, ⟨seq, rfl, h2⟩, _, _, rfl, h3, _, _, rfl, ⟨kind, rfl, h4⟩, _, _, rfl, h5, _, _, rfl, h6, _, _, rfl, h7, _, _, rfl, ⟨name, rfl⟩, _, _, rfl, ⟨val, rfl⟩, rfl⟩ := h
  obtain ⟨ac, ar, rfl⟩ := has_st h1
  obtain ⟨d, deps, rfl, a3, a4⟩ := has_ints h3
  obtain ⟨nc, nr, rfl⟩ := has_st h5
  obtain ⟨pc, pr, rfl⟩ := has_st h6
  obtain ⟨fc, fr, rfl⟩ := has_st h7
  refine ⟨d, ⟨ac, ar, seq, deps, kind, nc, nr, pc, pr, fc, fr, name, val⟩, rfl, a3, ?_⟩
  simp only [List.cons_append, List.nil_append, List.append_nil, vbs, vb] at a4 ⊢
  omega
theorem cgs_of : ∀ {es : List (List V)}, (∀ y ∈ es, (T.agg CgT).has y) → ∃ l : List (V × Cg), es = cgsV l ∧ 13 * l.length ≤ vbe es ∧ ∀ p ∈ l, (∀ σ, RdS σ p.1 1 (intsV .i64 p.2.deps)) ∧ p.2.deps.length + p.2.name.length + p.2.val.length < vbe es
  | [], _ => ⟨[], rfl, by simp, by simp⟩
  | y :: es, h => by
    obtain ⟨l, rfl, h2, h3⟩ := cgs_of (es := es) fun y hy => h y (by simp [hy])
    obtain ⟨d, g, rfl, a1, a3⟩ := has_cg (h y (by simp))
    refine ⟨(d, g) :: l, rfl, by simp only [List.length_cons, vbe]; omega, fun q hq => ?_⟩
    simp only [vbe]
    rcases List.mem_cons.1 hq with rfl | hq
    · exact ⟨a1, by simp only; omega⟩
    · obtain ⟨b1, b3⟩ := h3 q hq
      exact ⟨b1, by omega⟩
/-- A list of changes, as an argument. -/
def ArgC (v : V) (gs : List Cg) : Prop := (∃ l : List (V × Cg), l.map (·.2) = gs ∧ (∀ σ, RdS σ v 13 (cgsV l)) ∧ ∀ p ∈ l, ∀ σ, RdS σ p.1 1 (intsV .i64 p.2.deps)) ∧ gs.length ≤ 90000 ∧ ∀ g ∈ gs, g.deps.length + g.name.length + g.val.length < 1048576
theorem ArgC.rd {v : V} {gs : List Cg} (h : ArgC v gs) (σ : St) : RdC σ v gs := by
  obtain ⟨⟨l, rfl, h1, h2⟩, -⟩ := h
  exact ⟨l, rfl, h1 σ, fun p hp => h2 p hp σ⟩
/-- The first change. -/
def cgF : Cg := ⟨1, 0, 1, [], 1, 1, 0, 0, 0, 0, 0, [112], []⟩
section
variable {σ : St} {i m j y : Nat} {mo : Option Nat} {s d v kv w p : V} {ov : List V} {room r n most : Int} {P O : List (V × Cg)} {g : Cg} {x : Sp} {l k : List Int} {L gs : List Cg}
set_option maxRecDepth 100000 in
theorem first_ok : CallA Try.prog 15 [] σ fun v σ' => v = cgV v0 cgF ∧ σ' = σ := by
  refine fn_at Try.func15 (by decide) comp15 rfl fun Q q1 q2 => ?_
  unfold cgF cgV cgC v0 at q2
  simp -implicitDefEqProofs only [go_sem, Nat.reduceBEq, Nat.reduceAdd, eq_self, true_and, and_true, and_self, List.getElem?_cons_zero, List.getElem?_cons_succ, Nat.reduceLeDiff, Nat.zero_add, Nat.reduceSub, Nat.le_refl, c15]
  refine q2 _ _ ?_
  simp -implicitDefEqProofs only [go_sem, Nat.reduceBEq, Nat.reduceAdd, eq_self, true_and, and_true, and_self, List.getElem?_cons_zero, List.getElem?_cons_succ, Nat.reduceLeDiff, Nat.zero_add, Nat.reduceSub, Nat.le_refl, Nat.lt_irrefl]
  try exact ⟨rfl, rfl⟩
theorem LTo.fresh {σ0 σ τ : St} {i : Nat} {mo : Option Nat} {s s' : V} {ov ov' : List V} (h : LTo σ τ i mo s s' ov ov') (he : Ext σ0 σ) (hf : ∀ j, Own i mo s ov j → σ0.objs.length ≤ j) : Ext σ0 τ ∧ ∀ j, Own i mo s' ov' j → σ0.objs.length ≤ j :=
  ⟨h.upd.toExt he hf, fun j hj => (h.own j hj).elim (hf j) fun hl => Nat.le_trans he.olen hl⟩
theorem v0_rd (σ : St) : RdS σ v0 1 (intsV .i64 []) := ⟨_, _, _, rfl, fun _ => rfl, .inl rfl⟩
theorem whyF : whyR [] 3 cgF = 0 := by decide
theorem whyF2 : whyR [cgF] 3 cgF = 5 := by decide
set_option maxRecDepth 100000 in
set_option maxHeartbeats 3200000 in
theorem awake_ok : CallA Try.prog 19 [] σ fun v σ' => v = .bool true ∧ Ext σ σ' := by
  refine fn_at Try.func19 (by decide) comp19 rfl fun Q q1 q2 => ?_
  have h00 : decide ((0 : Int) = 0) = true := by decide
  have h55 : decide ((5 : Int) = 5) = true := by decide
  have h11 : decide ((1 : Int) = 1) = true := by decide
  simp -implicitDefEqProofs only [go_sem, Nat.reduceBEq, Nat.reduceAdd, eq_self, true_and, and_true, and_self, List.getElem?_cons_zero, List.getElem?_cons_succ, Nat.reduceLeDiff, Nat.zero_add, Nat.reduceSub, Nat.le_refl, c19]
  refine call_at (new_ok (room := 3) rfl) ?_
  rintro v τ ⟨rfl, h0, he0⟩
  refine ⟨kept_none, ?_⟩
  have hf0 : ∀ j, Own (σ.objs.length + 1) (some σ.objs.length) (.sl true .pub 0 []) nilO j → σ.objs.length ≤ j := fun j hj => by
    rcases own_new hj with rfl | h
    · omega
    · cases h; omega
  simp -implicitDefEqProofs only [go_sem, Nat.reduceBEq, Nat.reduceAdd, eq_self, true_and, and_true, and_self, List.getElem?_cons_zero, List.getElem?_cons_succ, Nat.reduceLeDiff, Nat.zero_add, Nat.reduceSub, Nat.le_refl, h00]
  refine call_at first_ok ?_
  rintro v τ1 ⟨rfl, hτ⟩
  have hτ := hτ.symm
  subst hτ
  refine ⟨kept_none, ?_⟩
  simp -implicitDefEqProofs only [go_sem, Nat.reduceBEq, Nat.reduceAdd, eq_self, true_and, and_true, and_self, List.getElem?_cons_zero, List.getElem?_cons_succ, Nat.reduceLeDiff, Nat.zero_add, Nat.reduceSub, Nat.le_refl, Nat.lt_irrefl]
  refine call_at (add_ok h0 (by simp) (v0_rd _) (by decide)) ?_
  rintro v τ1 ⟨rfl, s1, ov1, P1, h1, hP1, k1, -⟩
  refine ⟨kept_none, ?_⟩
  obtain ⟨he1, hf1⟩ := k1.fresh he0 hf0
  have hL1 : cgL P1 = [cgF] := by rw [hP1]; decide
  have hw1 : whyR [] 3 cgF = 0 := whyF
  simp -implicitDefEqProofs only [go_sem, Nat.reduceBEq, Nat.reduceAdd, eq_self, true_and, and_true, and_self, List.getElem?_cons_zero, List.getElem?_cons_succ, Nat.reduceLeDiff, Nat.zero_add, Nat.reduceSub, Nat.le_refl, hw1, h00]
  refine call_at first_ok ?_
  rintro v τ2 ⟨rfl, hτ⟩
  have hτ := hτ.symm
  subst hτ
  refine ⟨kept_none, ?_⟩
  have hPl : P1.length = 1 := by have := congrArg List.length hL1; rw [List.length_map] at this; exact this
  simp -implicitDefEqProofs only [go_sem, Nat.reduceBEq, Nat.reduceAdd, eq_self, true_and, and_true, and_self, List.getElem?_cons_zero, List.getElem?_cons_succ, Nat.reduceLeDiff, Nat.zero_add, Nat.reduceSub, Nat.le_refl, Nat.lt_irrefl]
  refine call_at (add_ok h1 (by omega) (v0_rd _) (by decide)) ?_
  rintro v τ2 ⟨rfl, s2, ov2, P2, h2, hP2, k2, -⟩
  refine ⟨kept_none, ?_⟩
  obtain ⟨he2, hf2⟩ := k2.fresh he1 hf1
  rw [hL1] at hP2
  have hL2 : cgL P2 = [cgF] := by rw [hP2]; decide
  have hPl2 : P2.length = 1 := by have := congrArg List.length hL2; rw [List.length_map] at this; exact this
  have hw2 : whyR (cgL P1) 3 cgF = 5 := by rw [hL1]; exact whyF2
  simp -implicitDefEqProofs only [go_sem, Nat.reduceBEq, Nat.reduceAdd, eq_self, true_and, and_true, and_self, List.getElem?_cons_zero, List.getElem?_cons_succ, Nat.reduceLeDiff, Nat.zero_add, Nat.reduceSub, Nat.le_refl, hw2, h55]
  refine call_at (len_ok h2) ?_
  rintro v τ3 ⟨rfl, hτ⟩
  have hτ := hτ.symm
  subst hτ
  refine ⟨kept_none, ?_⟩
  have hll : decide ((P2.length : Int) = 1) = true := by rw [hPl2]; rfl
  simp -implicitDefEqProofs only [go_sem, Nat.reduceBEq, Nat.reduceAdd, eq_self, true_and, and_true, and_self, List.getElem?_cons_zero, List.getElem?_cons_succ, Nat.reduceLeDiff, Nat.zero_add, Nat.reduceSub, Nat.le_refl, hll]
  refine call_at (last_ok h2 (by omega)) ?_
  rintro v τ3 ⟨rfl, hτ⟩
  have hτ := hτ.symm
  subst hτ
  refine ⟨kept_none, ?_⟩
  have hla : decide (lastR (cgL P2) = 1) = true := by rw [hL2]; decide
  simp -implicitDefEqProofs only [go_sem, Nat.reduceBEq, Nat.reduceAdd, eq_self, true_and, and_true, and_self, List.getElem?_cons_zero, List.getElem?_cons_succ, Nat.reduceLeDiff, Nat.zero_add, Nat.reduceSub, Nat.le_refl, hla]
  refine q2 _ _ ?_
  simp -implicitDefEqProofs only [go_sem, Nat.reduceBEq, Nat.reduceAdd, eq_self, true_and, and_true, and_self, List.getElem?_cons_zero, List.getElem?_cons_succ, Nat.reduceLeDiff, Nat.zero_add, Nat.reduceSub, Nat.le_refl, Nat.lt_irrefl]
  exact he2
/-- A late slice. -/
def FrD (lo : Nat) (τ : St) (p : V × Cg) : Prop := ∃ q, p.1 = .sl false (.own q) 1 (intsV .i64 p.2.deps) ∧ τ.live[q]? = some true ∧ lo ≤ q
theorem FrD.keep {lo : Nat} {τ τ' : St} {p : V × Cg} (h : FrD lo τ p) (k : ∀ r, lo ≤ r → τ.live[r]? = some true → τ'.live[r]? = some true) : FrD lo τ' p := by
  obtain ⟨q, h1, h2, h3⟩ := h
  exact ⟨q, h1, k _ h3 h2, h3⟩
/-- The log of some changes. -/
def logR (gs : List Cg) (room : Int) : List Cg := gs.foldl (fun L g => addR L room g) []
theorem logR_snoc (gs : List Cg) (g : Cg) (room : Int) : logR (gs ++ [g]) room = addR (logR gs room) room g := by simp [logR]
theorem logR_take {gs : List Cg} {y : Nat} (h : y < gs.length) (room : Int) : logR (gs.take (y + 1)) room = addR (logR (gs.take y) room) room gs[y] := by
  rw [List.take_succ_eq_append_getElem h, logR_snoc]
theorem addR_room {L : List Cg} {room : Int} {g : Cg} (h : L.length ≤ room.toNat) : (addR L room g).length ≤ room.toNat := by
  unfold addR
  cases hc : decide (whyR L room g = 0)
  · exact h
  · have := (why_fits (of_decide_eq_true hc)).room
    rw [cond_true, putC_len]; omega
theorem logR_good (gs : List Cg) (room : Int) : Good (logR gs room) := by
  unfold logR
  suffices ∀ (gs : List Cg) (L : List Cg), Good L → Good (gs.foldl (fun L g => addR L room g) L) from this gs [] good_nil
  intro gs
  induction gs with
  | nil => intro L h; exact h
  | cons a t ih => intro L h; exact ih _ (addR_good h)
theorem logR_room (gs : List Cg) (room : Int) : (logR gs room).length ≤ room.toNat := by
  unfold logR
  suffices ∀ (gs : List Cg) (L : List Cg), L.length ≤ room.toNat → (gs.foldl (fun L g => addR L room g) L).length ≤ room.toNat from this gs [] (Nat.zero_le _)
  intro gs
  induction gs with
  | nil => intro L h; exact h
  | cons a t ih => intro L h; exact ih _ (addR_room h)
theorem RdC.isSl {σ : St} {v : V} {gs : List Cg} (h : RdC σ v gs) : ∃ b R z es, v = V.sl b R z es := by
  obtain ⟨_, _, h, _⟩ := h
  obtain ⟨b, R, z, rfl, -, -⟩ := h
  exact ⟨b, R, z, _, rfl⟩
end
end Go.VL.opl

namespace Go.VL.opl
open Go Go.VL Go.Proofs Go.IntWalk Go.VL.st Go.VL.row

abbrev Srt (L : List Cg) : Prop := L.Pairwise fun a b => st.less (atS a) (atS b) = true
/-- What is ahead of a stamp. -/
def bef (L : List Cg) (x : Sp) : List Cg := L.filter fun h => st.less (atS h) x
theorem bef_take : ∀ {L : List Cg}, Srt L → ∀ {i : Nat} (h : i < L.length), bef L (atS L[i]) = L.take i
  | [], _, i, h => absurd h (Nat.not_lt_zero _)
  | a :: t, hs, 0, h => by
    rw [Srt, List.pairwise_cons] at hs
    unfold bef
    rw [List.take_zero, List.filter_eq_nil_iff]
    intro x hx
    simp only [List.getElem_cons_zero, Bool.not_eq_true]
    rcases List.mem_cons.1 hx with rfl | hx
    · exact less_irr _
    · exact less_asymm (hs.1 x hx)
  | a :: t, hs, i + 1, h => by
    rw [Srt, List.pairwise_cons] at hs
    have hi' : i < t.length := by simpa using h
    have ih := bef_take hs.2 hi'
    have h1 : st.less (atS a) (atS t[i]) = true := hs.1 _ (List.getElem_mem _)
    unfold bef at ih ⊢
    rw [List.getElem_cons_succ, List.take_succ_cons, ← ih]
    simp only [List.filter_cons, h1, if_true]
theorem own_bef (L : List Cg) (r : Int) (x : Sp) : ownL (bef L x) r = bef (ownL L r) x := by
  unfold ownL bef
  rw [List.filter_filter, List.filter_filter]
  congr 1; funext h; exact Bool.and_comm _ _
theorem own_srt {L : List Cg} (h : Srt L) (r : Int) : Srt (ownL L r) := h.filter _
/-- Everything on which one hangs is ahead of it. -/
structure CloAt (L : List Cg) (x : Cg) : Prop where
  deps : ∀ (r : Nat) (h : r < x.deps.length), x.deps[r] ≤ (cnt (bef L (atS x)) (r : Int) : Int)
  names : ∀ s ∈ baseN x, okN x s = true → ∃ h ∈ L, atS h = s ∧ st.less s (atS x) = true
def Clo (L : List Cg) : Prop := ∀ x ∈ L, CloAt L x
theorem cnt_sub {A B : List Cg} (h : A.Sublist B) (r : Int) : cnt A r ≤ cnt B r := by
  have := (h.filter fun g => decide (g.ar = r)).length_le
  exact this
theorem CloAt.mono {A B : List Cg} {x : Cg} (h : CloAt A x) (hs : A.Sublist B) : CloAt B x := by
  refine ⟨fun r hr => ?_, fun s hs' ho => ?_⟩
  · have h1 := h.deps r hr
    have h2 := cnt_sub (hs.filter fun h => st.less (atS h) (atS x)) (r : Int)
    unfold bef at h1 ⊢
    omega
  · obtain ⟨y, h1, h2⟩ := h.names s hs' ho
    exact ⟨y, hs.subset h1, h2⟩
theorem Good.own_less {L : List Cg} (h : Good L) {r : Int} {a b : Nat} (hb : b < (ownL L r).length) (hab : a < b) : st.less (atS (ownL L r)[a]) (atS (ownL L r)[b]) = true := List.pairwise_iff_getElem.1 (own_srt h.srt r) a b (by omega) hb hab
theorem dep_own {L : List Cg} (h : Good L) {g : Cg} {r n : Int} (hn : 1 ≤ n) (hd : depB L g r n = true) : ∃ hl : n.toNat - 1 < (ownL L r).length, st.less (atS (ownL L r)[n.toNat - 1]) (atS g) = true := by
  unfold depB at hd
  rw [show decide (n = 0) = false by rw [decide_eq_false_iff_not]; omega, Bool.false_or, h.find_O hn] at hd
  by_cases hl : n.toNat - 1 < (ownL L r).length
  · rw [List.getElem?_eq_getElem hl] at hd
    exact ⟨hl, hd⟩
  · rw [List.getElem?_eq_none (by omega)] at hd
    cases hd
/-- At a place of a log. -/
theorem Good.pre {L : List Cg} (h : Good L) (k : Clo L) {i : Nat} (hi : i < L.length) :
    (∀ (hi0 : 0 < i), st.less (atS (L[i - 1]'(by omega))) (atS L[i]) = true) ∧ underI L[i].deps (cnts (L.take i)) = true ∧ atD (cnts (L.take i)) L[i].ar = L[i].seq - 1 ∧ ∀ s ∈ baseN L[i], okN L[i] s = true → ∃ y ∈ L.take i, atS y = s := by
  have hb := bef_take h.srt hi
  have hx := List.getElem_mem hi
  have hc := k _ hx
  obtain ⟨hrt, hsq, hck, -⟩ := chk_has (h.chk _ hx)
  have hr : 0 ≤ L[i].ar ∧ L[i].ar < 64 := (right_has hrt).2
  refine ⟨fun hi0 => List.pairwise_iff_getElem.1 h.srt (i - 1) i (by omega) hi (by omega), ?_, ?_, fun s hs ho => ?_⟩
  · unfold underI
    rw [List.all_eq_true]
    intro r hrr
    have hr' := List.mem_range.1 hrr
    have h1 := hc.deps r hr'
    rw [hb] at h1
    have h64 := (clock_has hck).1
    rw [atD_cnts _ (by omega), decide_eq_true_eq]
    simpa [hr'] using h1
  · rw [atD_cnts _ hr, ← hb]
    obtain ⟨j, hj, hjy⟩ := List.getElem_of_mem (own_mem.2 ⟨hx, rfl⟩)
    have hsj := h.seq _ j hj
    rw [hjy] at hsj
    have h2 := bef_take (own_srt h.srt L[i].ar) hj
    rw [hjy] at h2
    rw [← ownL_len, own_bef, h2, List.length_take]
    omega
  · obtain ⟨y, h1, h2, h3⟩ := hc.names s hs ho
    refine ⟨y, ?_, h2⟩
    rw [← hb]
    exact List.mem_filter.2 ⟨h1, by rw [h2]; exact h3⟩
end Go.VL.opl

namespace Go.VL.opl
open Go Go.VL Go.Proofs Go.IntWalk Go.VL.st Go.VL.row

theorem logR_mem {gs : List Cg} {room : Int} {x : Cg} (h : x ∈ logR gs room) : x ∈ gs := by
  unfold logR at h
  have : ∀ (gs : List Cg) (L : List Cg), x ∈ gs.foldl (fun L g => addR L room g) L → x ∈ L ∨ x ∈ gs := by
    intro gs
    induction gs with
    | nil => intro L h; exact .inl h
    | cons a t ih =>
      intro L h
      rcases ih _ h with h | h
      · change x ∈ addR L room a at h
        unfold addR at h
        cases hc : decide (whyR L room a = 0) <;> rw [hc] at h
        · exact .inl h
        · rcases putC_mem.1 h with e | h
          · exact .inr (by simp [e])
          · exact .inl h
      · exact .inr (List.mem_cons_of_mem _ h)
  exact (this gs [] h).elim (fun h => by cases h) id
theorem Good.idx {L : List Cg} (h : Good L) {y : Cg} (hy : y ∈ L) : ∃ hl : (y.seq - 1).toNat < (ownL L y.ar).length, (ownL L y.ar)[(y.seq - 1).toNat] = y := by
  obtain ⟨j, hj, e⟩ := List.getElem_of_mem (own_mem.2 ⟨hy, rfl⟩)
  have h1 := h.seq _ j hj
  rw [e] at h1
  have h2 : (y.seq - 1).toNat = j := by omega
  exact ⟨by omega, by subst h2; exact e⟩
theorem Good.uniq {L : List Cg} (h : Good L) {a b : Cg} (ha : a ∈ L) (hb : b ∈ L) (h1 : a.ar = b.ar) (h2 : a.seq = b.seq) : a = b := by
  obtain ⟨l1, e1⟩ := h.idx ha
  obtain ⟨l2, e2⟩ := h.idx hb
  rw [← e1, ← e2]
  simp only [h1, h2]
theorem Good.cnt_le' {L : List Cg} (h : Good L) {y : Cg} (hy : y ∈ L) : y.seq ≤ cnt L y.ar := by
  obtain ⟨l1, -⟩ := h.idx hy
  rw [ownL_len] at l1
  have := (chk_has (h.chk y hy)).2.1
  omega
/-- The n-th of a replica. -/
theorem Good.nth {L : List Cg} (h : Good L) {r n : Int} (hn : 1 ≤ n) (hc : n ≤ cnt L r) : ∃ y ∈ L, y.ar = r ∧ y.seq = n ∧ L.find? (isO r n) = some y := by
  have hl : n.toNat - 1 < (ownL L r).length := by rw [ownL_len]; omega
  obtain ⟨h1, h2⟩ := own_mem.1 (List.getElem_mem hl)
  refine ⟨_, h1, h2, ?_, ?_⟩
  · rw [h.seq _ _ hl]; omega
  · rw [h.find_O hn, List.getElem?_eq_getElem hl]
/-- On what one hangs. -/
structure ClM (L : List Cg) (x : Cg) : Prop where
  deps : ∀ (r : Nat) (h : r < x.deps.length), 1 ≤ x.deps[r] → ∃ y ∈ L, y.ar = r ∧ y.seq = x.deps[r] ∧ st.less (atS y) (atS x) = true
  names : ∀ s ∈ baseN x, okN x s = true → ∃ y ∈ L, atS y = s ∧ y.seq ≤ atD x.deps y.ar
theorem ClM.mono {A B : List Cg} {x : Cg} (h : ClM A x) (hs : ∀ y ∈ A, y ∈ B) : ClM B x :=
  ⟨fun r hr hn => by obtain ⟨y, h1, h2⟩ := h.deps r hr hn; exact ⟨y, hs y h1, h2⟩, fun s hs' ho => by obtain ⟨y, h1, h2⟩ := h.names s hs' ho; exact ⟨y, hs y h1, h2⟩⟩
theorem Fits.clm {L : List Cg} {room : Int} {g : Cg} (k : Fits L room g) (h : Good L) : ClM L g := by
  have hb := k.beh
  unfold behB at hb
  rw [Bool.and_eq_true] at hb
  obtain ⟨hb1, hb2⟩ := hb
  refine ⟨fun r hr hn => ?_, fun s hs ho => ?_⟩
  · have hd := List.all_eq_true.1 hb1 r (List.mem_range.2 hr)
    have hd : depB L g r g.deps[r] = true := by simpa [hr] using hd
    obtain ⟨hl, hls⟩ := dep_own h hn hd
    obtain ⟨h1, h2⟩ := own_mem.1 (List.getElem_mem hl)
    exact ⟨_, h1, h2, by rw [h.seq _ _ hl]; omega, hls⟩
  · have hn := List.all_eq_true.1 hb2 s hs
    rw [ho, Bool.not_true, Bool.false_or] at hn
    unfold nmB at hn
    cases hf : L.find? (isA s) with
    | none => rw [hf] at hn; cases hn
    | some y =>
      rw [hf] at hn
      obtain ⟨hy1, hy2⟩ := (find_A h.srt).1 hf
      exact ⟨y, hy1, hy2, of_decide_eq_true hn⟩
def ClA (L : List Cg) : Prop := ∀ x ∈ L, ClM L x
theorem addR_cla {L : List Cg} {room : Int} {g : Cg} (h : Good L) (k : ClA L) : ClA (addR L room g) := by
  unfold addR
  cases hc : decide (whyR L room g = 0)
  · exact k
  · have hf := why_fits (of_decide_eq_true hc)
    intro x hx
    rcases putC_mem.1 hx with rfl | hx
    · exact (hf.clm h).mono fun y hy => putC_mem.2 (.inr hy)
    · exact (k x hx).mono fun y hy => putC_mem.2 (.inr hy)
theorem logR_cla (gs : List Cg) (room : Int) : ClA (logR gs room) := by
  unfold logR
  suffices ∀ (gs : List Cg) (L : List Cg), Good L → ClA L → ClA (gs.foldl (fun L g => addR L room g) L) from this gs [] good_nil fun x hx => by cases hx
  intro gs
  induction gs with
  | nil => intro L h k; exact k
  | cons a t ih => intro L h k; exact ih _ (addR_good h) (addR_cla h k)
theorem atD_in {l : List Int} {r : Int} (h : 1 ≤ atD l r) : 0 ≤ r ∧ ∃ hl : r.toNat < l.length, l[r.toNat] = atD l r := by
  unfold atD at h ⊢
  cases h1 : decide (0 ≤ r) <;> rw [h1] at h
  · simp at h
  cases h2 : decide (r < (l.length : Int)) <;> rw [h2] at h
  · simp at h
  have h1' := of_decide_eq_true h1
  have h2' := of_decide_eq_true h2
  have hl : r.toNat < l.length := by omega
  exact ⟨h1', hl, by simp [hl]⟩
section
variable {L Z R : List Cg} {g : Cg} {room : Int}
/-- Of some changes, some are there. -/
structure Part (L Z R : List Cg) : Prop where
  good : Good Z
  mem : ∀ x, x ∈ L ↔ x ∈ Z ∨ x ∈ R
  nd : R.Nodup
  apart : ∀ x ∈ R, x ∉ Z
  len : Z.length + R.length = L.length
theorem Part.behind (hL : Good L) (hc : ClA L) (h : Part L Z R) (hg : g ∈ R) (hu : underI g.deps (cnts Z) = true) : behB Z g = true := by
  have hgL : g ∈ L := (h.mem g).2 (.inr hg)
  have hcl := hc g hgL
  have hck := clock_has (chk_has (hL.chk g hgL)).2.2.1
  have hun : ∀ (r : Nat) (hr : r < g.deps.length), g.deps[r] ≤ cnt Z (r : Int) := fun r hr => by
    have h1 := List.all_eq_true.1 hu r (List.mem_range.2 hr)
    rw [atD_cnts _ (by omega), decide_eq_true_eq] at h1
    simpa [hr] using h1
  have up : ∀ y ∈ Z, y ∈ L := fun y hy => (h.mem y).2 (.inl hy)
  unfold behB
  rw [Bool.and_eq_true]
  constructor
  · unfold depsB
    rw [List.all_eq_true]
    intro r hr
    have hr' := List.mem_range.1 hr
    have e : g.deps[r]?.getD 0 = g.deps[r] := by simp [hr']
    rw [e]
    have h0 := (hck.2 _ (List.getElem_mem hr')).1
    unfold depB
    by_cases hn : g.deps[r] = 0
    · simp [hn]
    obtain ⟨y, y1, y2, y3, y4⟩ := hcl.deps r hr' (by omega)
    obtain ⟨y', z1, z2, z3, z4⟩ := h.good.nth (r := (r : Int)) (n := g.deps[r]) (by omega) (hun r hr')
    have : y' = y := hL.uniq (up y' z1) y1 (by rw [z2, y2]) (by rw [z3, y3])
    rw [z4, this]
    show (_ || st.less (atS y) (atS g)) = true
    rw [y4, Bool.or_true]
  · unfold namesB
    rw [List.all_eq_true]
    intro s hs
    cases ho : okN g s
    · rfl
    obtain ⟨y, y1, y2, y3⟩ := hcl.names s hs ho
    have ys := (chk_has (hL.chk y y1)).2.1
    obtain ⟨r0, r1, r2⟩ := atD_in (l := g.deps) (r := y.ar) (by omega)
    have h2 := hun _ r1
    rw [r2, show ((y.ar.toNat : Nat) : Int) = y.ar by omega] at h2
    obtain ⟨y', z1, z2, z3, -⟩ := h.good.nth (r := y.ar) (n := y.seq) (by omega) (by omega)
    have : y' = y := hL.uniq (up y' z1) y1 z2 z3
    subst this
    have hf : Z.find? (isA s) = some y' := (find_A h.good.srt).2 ⟨z1, y2⟩
    unfold nmB
    rw [hf]
    simp only [Bool.not_true, Bool.false_or, decide_eq_true_eq]
    exact y3
theorem Part.why (hL : Good L) (hc : ClA L) (h : Part L Z R) (hg : g ∈ R) (hr : (L.length : Int) ≤ room) :
    whyR Z room g = bif !decide (g.seq = cnt Z g.ar + 1) || !underI g.deps (cnts Z) then 4 else 0 := by
  have hgL : g ∈ L := (h.mem g).2 (.inr hg)
  have up : ∀ y ∈ Z, y ∈ L := fun y hy => (h.mem y).2 (.inl hy)
  have hgZ := h.apart g hg
  have h1 : Z.find? (isA (atS g)) = none := find_A_none.2 fun y hy e => hgZ (srt_uniq1 hL.srt (up y hy) hgL e ▸ hy)
  have h2 : Z.find? (isO g.ar g.seq) = none := by
    rw [List.find?_eq_none]
    intro y hy ho
    simp only [isO, Bool.and_eq_true, decide_eq_true_eq] at ho
    exact hgZ (hL.uniq (up y hy) hgL ho.1 ho.2 ▸ hy)
  unfold whyR
  rw [hL.chk g hgL, h1, h2]
  simp only [decide_true, Bool.not_true, cond_false, Option.isSome_none]
  cases hs : (!decide (g.seq = cnt Z g.ar + 1) || !underI g.deps (cnts Z))
  · rw [Bool.or_eq_false_iff] at hs
    have hu : underI g.deps (cnts Z) = true := by simpa using hs.2
    rw [h.behind hL hc hg hu]
    have hlt : Z.length < L.length := by
      have := List.length_pos_of_mem hg
      have := h.len
      omega
    rw [show decide ((Z.length : Int) ≥ room) = false by rw [decide_eq_false_iff_not]; omega]
    rfl
  · rfl
/-- The least one can be added. -/
theorem Part.least (hL : Good L) (hc : ClA L) (h : Part L Z R) (hg : g ∈ R) (hr : (L.length : Int) ≤ room) (hm : ∀ y ∈ R, st.less (atS y) (atS g) = false) : whyR Z room g = 0 := by
  have hgL : g ∈ L := (h.mem g).2 (.inr hg)
  have up : ∀ y ∈ Z, y ∈ L := fun y hy => (h.mem y).2 (.inl hy)
  have hgZ := h.apart g hg
  have hz : ∀ y ∈ L, st.less (atS y) (atS g) = true → y ∈ Z := fun y hy hl => by
    rcases (h.mem y).1 hy with h1 | h1
    · exact h1
    · rw [hm y h1] at hl; cases hl
  have hcl := hc g hgL
  have hgs := (chk_has (hL.chk g hgL)).2.1
  rw [h.why hL hc hg hr]
  have hseq : g.seq = cnt Z g.ar + 1 := by
    obtain ⟨gl, ge⟩ := hL.idx hgL
    have h1 : ¬ (cnt Z g.ar : Int) < g.seq - 1 := fun hlt => by
      -- the next one of this replica is ahead of g, so it is there
      have hl2 : cnt Z g.ar < (ownL L g.ar).length := by omega
      obtain ⟨y1, y2⟩ := own_mem.1 (List.getElem_mem hl2)
      have hls := hL.own_less (r := g.ar) (a := cnt Z g.ar) (b := (g.seq - 1).toNat) gl (by omega)
      rw [ge] at hls
      have hyz := hz _ y1 hls
      have := h.good.cnt_le' hyz
      rw [y2, hL.seq _ _ hl2] at this
      omega
    have h2 : ¬ g.seq ≤ (cnt Z g.ar : Int) := fun hle => by
      obtain ⟨y, z1, z2, z3, -⟩ := h.good.nth (r := g.ar) (n := g.seq) (by omega) hle
      exact hgZ (hL.uniq (up y z1) hgL z2 z3 ▸ z1)
    omega
  have hun : underI g.deps (cnts Z) = true := by
    have hck := clock_has (chk_has (hL.chk g hgL)).2.2.1
    unfold underI
    rw [List.all_eq_true]
    intro r hrr
    have hr' := List.mem_range.1 hrr
    rw [atD_cnts _ (by omega), decide_eq_true_eq]
    have e : g.deps[r]?.getD 0 = g.deps[r] := by simp [hr']
    rw [e]
    by_cases hn : g.deps[r] < 1
    · omega
    obtain ⟨y, y1, y2, y3, y4⟩ := hcl.deps r hr' (by omega)
    have := h.good.cnt_le' (hz y y1 y4)
    rw [y2, y3] at this
    exact this
  rw [hun, hseq]
  simp
theorem least_in : ∀ {R : List Cg}, R ≠ [] → ∃ g ∈ R, ∀ y ∈ R, st.less (atS y) (atS g) = false
  | [], h => absurd rfl h
  | [a], _ => ⟨a, by simp, fun y hy => by rw [List.mem_singleton] at hy; subst hy; exact less_irr _⟩
  | a :: b :: t, _ => by
    obtain ⟨g, h1, h2⟩ := least_in (R := b :: t) (by simp)
    cases h : st.less (atS a) (atS g)
    · exact ⟨g, List.mem_cons_of_mem _ h1, fun y hy => by
        rcases List.mem_cons.1 hy with rfl | hy
        · exact h
        · exact h2 y hy⟩
    · refine ⟨a, by simp, fun y hy => ?_⟩
      rcases List.mem_cons.1 hy with rfl | hy
      · exact less_irr _
      · cases hya : st.less (atS y) (atS a)
        · rfl
        · have := h2 y hy
          rw [less_trans hya h] at this; cases this
theorem Part.some (hL : Good L) (hc : ClA L) (h : Part L Z R) (hr : (L.length : Int) ≤ room) (hR : R ≠ []) : ∃ (j : Nat) (hj : j < R.length), whyR Z room R[j] = 0 := by
  obtain ⟨g, h1, h2⟩ := least_in hR
  obtain ⟨j, hj, rfl⟩ := List.getElem_of_mem h1
  exact ⟨j, hj, h.least hL hc h1 hr h2⟩
theorem Part.step (hL : Good L) (h : Part L Z R) {i : Nat} (hi : i < R.length) (hw : whyR Z room R[i] = 0) : Part L (putC R[i] Z) (R.take i ++ R.drop (i + 1)) := by
  have hf := why_fits hw
  have hsplit : R = R.take i ++ R[i] :: R.drop (i + 1) := by
    rw [← List.drop_eq_getElem_cons hi, List.take_append_drop]
  have hnd := h.nd
  rw [hsplit] at hnd
  have hnd2 := List.nodup_append.1 hnd
  have hnc := List.nodup_cons.1 hnd2.2.1
  have hm : ∀ x, x ∈ R ↔ x = R[i] ∨ x ∈ R.take i ++ R.drop (i + 1) := fun x => by
    conv => lhs; rw [hsplit]
    simp only [List.mem_append, List.mem_cons]
    constructor
    · rintro (h | h | h)
      · exact .inr (.inl h)
      · exact .inl h
      · exact .inr (.inr h)
    · rintro (h | h | h)
      · exact .inr (.inl h)
      · exact .inl h
      · exact .inr (.inr h)
  refine ⟨hf.good h.good, fun x => ?_, ?_, fun x hx hp => ?_, ?_⟩
  · rw [h.mem x, hm x, putC_mem]
    constructor
    · rintro (h | h | h)
      · exact .inl (.inr h)
      · exact .inl (.inl h)
      · exact .inr h
    · rintro ((h | h) | h)
      · exact .inr (.inl h)
      · exact .inl h
      · exact .inr (.inr h)
  · rw [List.nodup_append]
    refine ⟨hnd2.1, hnc.2, fun a ha b hb => hnd2.2.2 a ha b (List.mem_cons_of_mem _ hb)⟩
  · rcases putC_mem.1 hp with e | hp
    · subst e
      rcases List.mem_append.1 hx with hx | hx
      · exact hnd2.2.2 _ hx _ (List.mem_cons_self ..) rfl
      · exact hnc.1 hx
    · exact h.apart x ((hm x).2 (.inr hx)) hp
  · have h1 := h.len
    rw [putC_len, List.length_append, List.length_take, List.length_drop]
    omega
theorem Part.done (hL : Good L) (h : Part L Z []) : Z = L := by
  have h1 : ∀ x, x ∈ Z ↔ x ∈ L := fun x => by rw [h.mem x]; simp
  have key : ∀ {A B : List Cg}, Srt A → Srt B → (∀ x, x ∈ A ↔ x ∈ B) → A = B := by
    intro A
    induction A with
    | nil =>
      intro B _ _ h
      cases B with
      | nil => rfl
      | cons b t => exact absurd ((h b).2 (by simp)) (by simp)
    | cons a t ih =>
      intro B hA hB h
      cases B with
      | nil => exact absurd ((h a).1 (by simp)) (by simp)
      | cons b u =>
        rw [Srt, List.pairwise_cons] at hA hB
        have e : a = b := by
          rcases List.mem_cons.1 ((h a).1 (by simp)) with e | e
          · exact e
          · rcases List.mem_cons.1 ((h b).2 (by simp)) with e2 | e2
            · exact e2.symm
            · have h1 := hB.1 a e
              have h2 := hA.1 b e2
              rw [less_asymm h1] at h2; cases h2
        subst e
        congr 1
        refine ih hA.2 hB.2 fun x => ?_
        constructor
        · intro hx
          rcases List.mem_cons.1 ((h x).1 (List.mem_cons_of_mem _ hx)) with e | e
          · subst e; have := hA.1 _ hx; rw [less_irr] at this; cases this
          · exact e
        · intro hx
          rcases List.mem_cons.1 ((h x).2 (List.mem_cons_of_mem _ hx)) with e | e
          · subst e; have := hB.1 _ hx; rw [less_irr] at this; cases this
          · exact e
  exact key h.good.srt hL.srt h1
theorem part_new (hL : Good L) : Part L [] L := by
  refine ⟨good_nil, fun x => by simp, ?_, fun x _ h => (by cases h), by simp⟩
  have := hL.srt
  exact this.imp fun {a b} h e => by subst e; rw [less_irr] at h; cases h
end
end Go.VL.opl

namespace Go.VL.opl
open Go Go.VL Go.Proofs Go.IntWalk Go.VL.st Go.VL.row

section
variable {σ : St} {v d kv : V} {room n most : Int} {k : List Int} {gs : List Cg} {g : Cg}
/-- What the answer has: a late slice of changes whose slices are anybody's or late. -/
def AnsC (lo : Nat) (τ : St) (u : V) (L : List Cg) : Prop :=
  ((L = [] ∧ u = .sl true .pub 0 []) ∨ ∃ O q, u = .sl false (.own q) 13 (cgsV O) ∧ lo ≤ q ∧ τ.live[q]? = some true ∧ O.map (·.2) = L ∧ ∀ p ∈ O, (∀ σ, RdS σ p.1 1 (intsV .i64 p.2.deps)) ∨ FrD lo τ p)
theorem AnsC.keep {lo : Nat} {τ τ' : St} {u : V} {L : List Cg} (h : AnsC lo τ u L) (k : ∀ r, lo ≤ r → τ.live[r]? = some true → τ'.live[r]? = some true) : AnsC lo τ' u L := by
  refine h.imp_right ?_
  rintro ⟨O, q, h1, h2, h3, h4, h5⟩
  exact ⟨O, q, h1, h2, k _ h2 h3, h4, fun p hp => (h5 p hp).imp_right fun h => h.keep k⟩
theorem FrD.rd {lo : Nat} {τ : St} {p : V × Cg} (h : FrD lo τ p) : RdS τ p.1 1 (intsV .i64 p.2.deps) := by
  obtain ⟨q, h1, h2, -⟩ := h
  rw [h1]; exact ⟨_, _, _, rfl, by simp, .inr ⟨h2, rfl⟩⟩
end
theorem LogIs.lv {τ : St} {lv : List Bool} {i : Nat} {mo : Option Nat} {s : V} {ov : List V} {room : Int} {P : List (V × Cg)} (h : LogIs τ i mo s ov room P) (hr : Rds ⟨τ.objs, lv⟩ P) : LogIs ⟨τ.objs, lv⟩ i mo s ov room P :=
  ⟨h.cells, h.ovl, h.row, hr, (by have := h.map; cases mo <;> exact this), h.own, h.sep, h.good⟩
/-- A change out of a list. -/
theorem rdC_get {σ : St} {b : Bool} {R : R} {z : Nat} {es : List (List V)} {L : List Cg} {i : Nat} (h : RdC σ (.sl b R z es) L) (hi : i < L.length) : ∃ d, es[i]?.getD [] = cgC d L[i] ∧ RdS σ d 1 (intsV .i64 L[i].deps) ∧ (i : Int) < es.length ∧ (b = true ∨ z = 13 → z = 13 ∨ b = true) ∧ rd σ.live R ∧ z = 13 ∧ es.length = L.length := by
  obtain ⟨l, rfl, ⟨_, _, _, e, h1, h2⟩, h3⟩ := h
  cases e
  have hi' : i < l.length := by simpa using hi
  refine ⟨l[i].1, ?_, ?_, ?_, fun h => h.symm, ?_, ?_, ?_⟩
  · have := cgsV_get hi'
    simpa using this
  · have := h3 _ (List.getElem_mem hi')
    simpa using this
  · rw [cgsV_len]; omega
  · rcases h2 with h2 | h2
    · have := h1 h2
      have hl := congrArg List.length this
      rw [cgsV_len] at hl
      simp only [List.length_nil] at hl
      omega
    · exact h2.1
  · rcases h2 with h2 | h2
    · have := h1 h2
      have hl := congrArg List.length this
      rw [cgsV_len] at hl
      simp only [List.length_nil] at hl
      omega
    · exact h2.2
  · rw [cgsV_len, List.length_map]
end Go.VL.opl

namespace Go.VL.opl
open Go Go.VL Go.Proofs Go.IntWalk Go.VL.st Go.VL.row

def mxs (l m : List Int) (n : Nat) : List Int := (List.range n).map fun (r : Nat) => max (atD l r) (atD m r)
theorem mxs_succ (l m : List Int) (n : Nat) : mxs l m (n + 1) = mxs l m n ++ [max (atD l n) (atD m n)] := by
  unfold mxs
  rw [List.range_succ, List.map_append]; rfl
theorem mxs_len (l m : List Int) (n : Nat) : (mxs l m n).length = n := by simp [mxs]
section
variable {σ : St} {v u : V} {l m : List Int}
set_option maxRecDepth 100000 in
theorem rtwo_ok (hv : RdS σ v 1 (intsV .i64 l)) (hu : RdS σ u 1 (intsV .i64 m)) (hl : clockI l = 0) (hm : clockI m = 0) : CallA Try.prog 62 [v, u] σ fun w σ' => w = .int .i64 0 ∧ σ' = σ := by
  refine fn_at Try.func62 (by decide) comp62 rfl fun Q q1 q2 => ?_
  have h0 : decide ((0 : Int) = 0) = true := by decide
  simp -implicitDefEqProofs only [go_sem, Nat.reduceBEq, Nat.reduceAdd, eq_self, true_and, and_true, and_self, List.getElem?_cons_zero, List.getElem?_cons_succ, Nat.reduceLeDiff, Nat.zero_add, Nat.reduceSub, Nat.le_refl, c62]
  refine call_at (rclock_ok hv) ?_
  rintro w τ ⟨hτ, rfl⟩
  have hτ := hτ.symm
  subst hτ
  refine ⟨kept_none, ?_⟩
  rw [hl]
  simp -implicitDefEqProofs only [go_sem, Nat.reduceBEq, Nat.reduceAdd, eq_self, true_and, and_true, and_self, List.getElem?_cons_zero, List.getElem?_cons_succ, Nat.reduceLeDiff, Nat.zero_add, Nat.reduceSub, Nat.le_refl, h0, Bool.not_true]
  refine call_at (rclock_ok hu) ?_
  rintro w τ ⟨hτ, rfl⟩
  have hτ := hτ.symm
  subst hτ
  refine ⟨kept_none, ?_⟩
  rw [hm]
  simp -implicitDefEqProofs only [go_sem, Nat.reduceBEq, Nat.reduceAdd, eq_self, true_and, and_true, and_self, List.getElem?_cons_zero, List.getElem?_cons_succ, Nat.reduceLeDiff, Nat.zero_add, Nat.reduceSub, Nat.le_refl, Nat.lt_irrefl]
  refine q2 _ _ ?_
  simp -implicitDefEqProofs only [go_sem, Nat.reduceBEq, Nat.reduceAdd, eq_self, true_and, and_true, and_self, List.getElem?_cons_zero, List.getElem?_cons_succ, Nat.reduceLeDiff, Nat.zero_add, Nat.reduceSub, Nat.le_refl, Nat.lt_irrefl]
set_option maxRecDepth 100000 in
set_option maxHeartbeats 2000000 in
theorem rmerge_ok (hv : RdS σ v 1 (intsV .i64 l)) (hu : RdS σ u 1 (intsV .i64 m)) (hl : clockI l = 0) (hm : clockI m = 0) :
    CallA Try.prog 38 [v, u] σ fun w σ' => (∃ a out z, w = .tup [a, .int .i64 0] ∧ Trims (mxs l m 64) out z ∧ RdS σ' a 1 (intsV .i64 out)) ∧ Ext σ σ' := by
  refine fn_at Try.func38 (by decide) comp38 rfl fun Q q1 q2 => ?_
  have h0 : decide ((0 : Int) = 0) = true := by decide
  simp -implicitDefEqProofs only [go_sem, Nat.reduceBEq, Nat.reduceAdd, eq_self, true_and, and_true, and_self, List.getElem?_cons_zero, List.getElem?_cons_succ, Nat.reduceLeDiff, Nat.zero_add, Nat.reduceSub, Nat.le_refl, c38]
  refine call_at (rtwo_ok hv hu hl hm) ?_
  rintro w τ ⟨rfl, hτ⟩
  have hτ := hτ.symm
  subst hτ
  refine ⟨kept_none, ?_⟩
  simp -implicitDefEqProofs only [go_sem, Nat.reduceBEq, Nat.reduceAdd, eq_self, true_and, and_true, and_self, List.getElem?_cons_zero, List.getElem?_cons_succ, Nat.reduceLeDiff, Nat.zero_add, Nat.reduceSub, Nat.le_refl, h0, Bool.not_true]
  refine loop_at (fun (y : Nat × Nat) => ⟨[(0, .v v), (1, .v u), (6, .v (.sl false (.own y.2) 1 (intsV .i64 (mxs l m y.1)))), (7, .v (.int .i64 ((y.1 : Nat) : Int)))], []⟩)
    (fun y t => y.1 ≤ 64 ∧ Ext σ t ∧ t.live[y.2]? = some true ∧ σ.live.length ≤ y.2) (fun y => 64 - y.1) (0, σ.live.length) ?_ ?_ ?_
  · refine .inr ?_
    simp -implicitDefEqProofs only [go_sem, Nat.reduceBEq, Nat.reduceAdd, eq_self, true_and, and_true, and_self, List.getElem?_cons_zero, List.getElem?_cons_succ, Nat.reduceLeDiff, Nat.zero_add, Nat.reduceSub, Nat.le_refl, Nat.lt_irrefl]
    try exact ⟨rfl, rfl⟩
    try exact rfl
  · exact ⟨Nat.zero_le _, ext_live σ true, live_last _ _, Nat.le_refl _⟩
  rintro ⟨y, q⟩ t ⟨g1, g2, g3, g4⟩ Z z1 z2 z3
  simp only at g1 g3 g4
  have hml := mxs_len l m y
  have hil := intsV_len (mxs l m y)
  simp -implicitDefEqProofs only [go_sem, Nat.reduceBEq, Nat.reduceAdd, eq_self, true_and, and_true, and_self, List.getElem?_cons_zero, List.getElem?_cons_succ, Nat.reduceLeDiff, Nat.zero_add, Nat.reduceSub, Nat.le_refl, Nat.lt_irrefl]
  cases hc : decide ((y : Int) < 64)
  · have hy : y = 64 := by have := of_decide_eq_false hc; omega
    subst hy
    simp -implicitDefEqProofs only [go_sem, Nat.reduceBEq, Nat.reduceAdd, eq_self, true_and, and_true, and_self, List.getElem?_cons_zero, List.getElem?_cons_succ, Nat.reduceLeDiff, Nat.zero_add, Nat.reduceSub, Nat.le_refl, hc]
    refine z2 _ _ _ ?_
    simp -implicitDefEqProofs only [go_sem, Nat.reduceBEq, Nat.reduceAdd, eq_self, true_and, and_true, and_self, List.getElem?_cons_zero, List.getElem?_cons_succ, Nat.reduceLeDiff, Nat.zero_add, Nat.reduceSub, Nat.le_refl, Nat.lt_irrefl]
    refine call_at (trim_ok (l := mxs l m 64) ⟨_, _, _, rfl, by simp, .inr ⟨g3, rfl⟩⟩ (by omega)) ?_
    rintro w τ2 ⟨⟨out, zz, h1, h2⟩, e2, -⟩
    refine ⟨kept_none, ?_⟩
    simp -implicitDefEqProofs only [go_sem, Nat.reduceBEq, Nat.reduceAdd, eq_self, true_and, and_true, and_self, List.getElem?_cons_zero, List.getElem?_cons_succ, Nat.reduceLeDiff, Nat.zero_add, Nat.reduceSub, Nat.le_refl, Nat.lt_irrefl]
    refine q2 _ _ ?_
    simp -implicitDefEqProofs only [go_sem, Nat.reduceBEq, Nat.reduceAdd, eq_self, true_and, and_true, and_self, List.getElem?_cons_zero, List.getElem?_cons_succ, Nat.reduceLeDiff, Nat.zero_add, Nat.reduceSub, Nat.le_refl, Nat.lt_irrefl]
    exact ⟨⟨_, out, zz, rfl, h1, h2⟩, g2.trans e2⟩
  · have hi : y < 64 := by have := of_decide_eq_true hc; omega
    have hwy : IntKind.i64.wrap ((y : Int) + 1) = ((y + 1 : Nat) : Int) := by rw [i64_in _ (by omega)]; omega
    have hsu := mxs_succ l m y
    simp -implicitDefEqProofs only [go_sem, Nat.reduceBEq, Nat.reduceAdd, eq_self, true_and, and_true, and_self, List.getElem?_cons_zero, List.getElem?_cons_succ, Nat.reduceLeDiff, Nat.zero_add, Nat.reduceSub, Nat.le_refl, hc]
    refine call_at (rat_ok (r := (y : Int)) (hv.ext g2)) ?_
    rintro w τ ⟨hτ, rfl⟩
    have hτ := hτ.symm
    subst hτ
    refine ⟨kept_none, ?_⟩
    simp -implicitDefEqProofs only [go_sem, Nat.reduceBEq, Nat.reduceAdd, eq_self, true_and, and_true, and_self, List.getElem?_cons_zero, List.getElem?_cons_succ, Nat.reduceLeDiff, Nat.zero_add, Nat.reduceSub, Nat.le_refl, Nat.lt_irrefl]
    refine call_at (rat_ok (r := (y : Int)) (hu.ext g2)) ?_
    rintro w τ ⟨hτ, rfl⟩
    have hτ := hτ.symm
    subst hτ
    refine ⟨kept_none, ?_⟩
    simp -implicitDefEqProofs only [go_sem, Nat.reduceBEq, Nat.reduceAdd, eq_self, true_and, and_true, and_self, List.getElem?_cons_zero, List.getElem?_cons_succ, Nat.reduceLeDiff, Nat.zero_add, Nat.reduceSub, Nat.le_refl, hwy]
    have hmx : (if atD m (y : Int) > atD l (y : Int) then atD m (y : Int) else atD l (y : Int)) = max (atD l (y : Int)) (atD m (y : Int)) := by
      rw [Int.max_def]; split <;> split <;> omega
    refine ⟨⟨.inr trivial, .inr ((ext_live _ _).live _ g3), ⟨.inr (live_last _ _), .inl trivial⟩, by omega⟩, ?_⟩
    refine z1 (y + 1, _) _ _ (.inr ?_) (by simp only; omega) ⟨by simp only; omega, ext_kill (ext_push g2) g4, live_last' _ _ _, by have := g2.llen; simp only [List.length_append, List.length_singleton]; omega⟩
    simp -implicitDefEqProofs only [go_sem, Nat.reduceBEq, Nat.reduceAdd, eq_self, true_and, and_true, and_self, List.getElem?_cons_zero, List.getElem?_cons_succ, Nat.reduceLeDiff, Nat.zero_add, Nat.reduceSub, Nat.le_refl, Nat.lt_irrefl]
    rw [hsu, intsV_append, hmx]
    try exact ⟨rfl, rfl⟩
    try exact rfl
end
end Go.VL.opl

namespace Go.VL.opl
open Go Go.VL Go.Proofs Go.IntWalk Go.VL.st Go.VL.row

theorem srt_uniqC : ∀ {A B : List Cg}, Srt A → Srt B → (∀ x, x ∈ A ↔ x ∈ B) → A = B
  | [], [], _, _, _ => rfl
  | [], b :: t, _, _, h => absurd ((h b).2 (by simp)) (by simp)
  | a :: t, [], _, _, h => absurd ((h a).1 (by simp)) (by simp)
  | a :: t, b :: u, hA, hB, h => by
    rw [Srt, List.pairwise_cons] at hA hB
    have e : a = b := by
      rcases List.mem_cons.1 ((h a).1 (by simp)) with e | e
      · exact e
      · rcases List.mem_cons.1 ((h b).2 (by simp)) with e2 | e2
        · exact e2.symm
        · have h1 := hB.1 a e
          have h2 := hA.1 b e2
          rw [less_asymm h1] at h2; cases h2
    subst e
    congr 1
    refine srt_uniqC hA.2 hB.2 fun x => ?_
    constructor
    · intro hx
      rcases List.mem_cons.1 ((h x).1 (List.mem_cons_of_mem _ hx)) with e | e
      · subst e; have := hA.1 _ hx; rw [less_irr] at this; cases this
      · exact e
    · intro hx
      rcases List.mem_cons.1 ((h x).2 (List.mem_cons_of_mem _ hx)) with e | e
      · subst e; have := hB.1 _ hx; rw [less_irr] at this; cases this
      · exact e
theorem filter_pre {α : Type} {p : α → Bool} : ∀ {l : List α}, (∀ (i j : Nat) (hj : j < l.length) (hij : i < j), p l[j] = true → p (l[i]'(by omega)) = true) → l.filter p = l.take (l.filter p).length
  | [], _ => rfl
  | a :: t, h => by
    cases ha : p a
    · have : t.filter p = [] := by
        rw [List.filter_eq_nil_iff]
        intro x hx hp
        obtain ⟨j, hj, rfl⟩ := List.getElem_of_mem hx
        have := h 0 (j + 1) (by simpa using hj) (by omega) (by simpa using hp)
        rw [List.getElem_cons_zero, ha] at this; cases this
      simp [List.filter_cons, ha, this]
    · have ih := filter_pre (l := t) fun i j hj hij hp => by
        have := h (i + 1) (j + 1) (by simpa using hj) (by omega) (by simpa using hp)
        simpa using this
      rw [List.filter_cons, ha, if_pos rfl, List.length_cons, List.take_succ_cons, ← ih]
theorem filt_add {α : Type} (p : α → Bool) : ∀ l : List α, (l.filter p).length + (l.filter fun x => !p x).length = l.length
  | [] => rfl
  | a :: t => by
    have ih := filt_add p t
    simp only [List.filter_cons, List.length_cons]
    cases p a <;> simp <;> omega
theorem addR_yes {L : List Cg} {room : Int} {g : Cg} (h : whyR L room g = 0) : addR L room g = putC g L := by unfold addR; rw [h]; rfl
theorem addR_no {L : List Cg} {room : Int} {g : Cg} (h : whyR L room g = 5) : addR L room g = L := by unfold addR; rw [h]; rfl
structure SubL (W Z : List Cg) : Prop where
  good : Good Z
  cla : ClA Z
  up : ∀ x ∈ Z, x ∈ W
theorem SubL.add {W Z : List Cg} {g : Cg} {room : Int} (h : SubL W Z) (hg : g ∈ W) : SubL W (addR Z room g) := by
  refine ⟨addR_good h.good, addR_cla h.good h.cla, fun x hx => ?_⟩
  unfold addR at hx
  cases hc : decide (whyR Z room g = 0) <;> rw [hc] at hx
  · exact h.up x hx
  · rcases putC_mem.1 hx with rfl | hx
    · exact hg
    · exact h.up x hx
theorem SubL.grow {W W' Z : List Cg} (h : SubL W Z) (k : ∀ x ∈ W, x ∈ W') : SubL W' Z := ⟨h.good, h.cla, fun x hx => k x (h.up x hx)⟩
theorem addR_up {L : List Cg} {room : Int} {g : Cg} : ∀ x ∈ L, x ∈ addR L room g := by
  intro x hx
  unfold addR
  cases hc : decide (whyR L room g = 0)
  · exact hx
  · exact putC_mem.2 (.inr hx)
theorem addR_new {L : List Cg} {room : Int} {g : Cg} (h : whyR L room g = 0) : g ∈ addR L room g := by
  unfold addR
  rw [h]
  exact putC_mem.2 (.inl rfl)
section
variable {W A B C : List Cg} {g : Cg} {room : Int}
/-- Both. -/
def uni (W A B : List Cg) : List Cg := W.filter fun x => decide (x ∈ A) || decide (x ∈ B)
theorem uni_mem (hA : SubL W A) (hB : SubL W B) {x : Cg} : x ∈ uni W A B ↔ x ∈ A ∨ x ∈ B := by
  unfold uni
  rw [List.mem_filter, Bool.or_eq_true, decide_eq_true_eq, decide_eq_true_eq]
  exact ⟨fun h => h.2, fun h => ⟨h.elim (hA.up x) (hB.up x), h⟩⟩
theorem SubL.down (hW : Good W) (hA : SubL W A) {x y : Cg} (hx : x ∈ A) (hy : y ∈ W) (h1 : y.ar = x.ar) (h2 : y.seq < x.seq) : y ∈ A := by
  have hc := hA.good.cnt_le' hx
  have hys := (chk_has (hW.chk y hy)).2.1
  obtain ⟨z, z1, z2, z3, -⟩ := hA.good.nth (r := x.ar) (n := y.seq) (by omega) (by omega)
  have : z = y := hW.uniq (hA.up z z1) hy (by rw [z2, h1]) z3
  exact this ▸ z1
theorem uni_good (hW : Good W) (hA : SubL W A) (hB : SubL W B) : Good (uni W A B) := by
  refine ⟨hW.srt.filter _, fun x hx => hW.chk x (List.mem_filter.1 hx).1, fun r j hj => ?_⟩
  have he : ownL (uni W A B) r = (ownL W r).filter fun x => decide (x ∈ A) || decide (x ∈ B) := by
    unfold ownL uni
    rw [List.filter_filter, List.filter_filter]
    congr 1; funext h; exact Bool.and_comm _ _
  have hp := filter_pre (l := ownL W r) (p := fun x => decide (x ∈ A) || decide (x ∈ B)) fun i j hj hij hp => by
    obtain ⟨m1, m2⟩ := own_mem.1 (List.getElem_mem (show i < (ownL W r).length by omega))
    obtain ⟨n1, n2⟩ := own_mem.1 (List.getElem_mem hj)
    have s1 := hW.seq r i (by omega)
    have s2 := hW.seq r j hj
    simp only [Bool.or_eq_true, decide_eq_true_eq] at hp ⊢
    exact hp.imp (fun h => hA.down hW h m1 (by rw [m2, n2]) (by omega)) fun h => hB.down hW h m1 (by rw [m2, n2]) (by omega)
  have key : ownL (uni W A B) r = (ownL W r).take (ownL (uni W A B) r).length := by rw [he]; exact hp
  have hj' : j < (ownL W r).length := by
    have := congrArg List.length key
    rw [List.length_take] at this
    omega
  have : (ownL (uni W A B) r)[j] = (ownL W r)[j] := by
    have h1 : (ownL (uni W A B) r)[j]? = (ownL W r)[j]? := by
      rw [key, List.getElem?_take_of_lt (by omega)]
    rw [List.getElem?_eq_getElem hj, List.getElem?_eq_getElem hj'] at h1
    exact Option.some.inj h1
  rw [this]
  exact hW.seq r j hj'
theorem uni_cla (hA : SubL W A) (hB : SubL W B) : ClA (uni W A B) := fun x hx => by
  rcases (uni_mem hA hB).1 hx with h | h
  · exact (hA.cla x h).mono fun y hy => (uni_mem hA hB).2 (.inl hy)
  · exact (hB.cla x h).mono fun y hy => (uni_mem hA hB).2 (.inr hy)
theorem uni_len : (uni W A B).length ≤ W.length := List.length_filter_le _ _
/-- What is not there. -/
theorem part_of {L Z : List Cg} (hL : Good L) (h : Good Z) (up : ∀ x ∈ Z, x ∈ L) : Part L Z (L.filter fun x => !decide (x ∈ Z)) := by
  have e : L.filter (fun x => decide (x ∈ Z)) = Z := srt_uniqC (hL.srt.filter _) h.srt fun x => by
    rw [List.mem_filter, decide_eq_true_eq]
    exact ⟨fun h => h.2, fun h => ⟨up x h, h⟩⟩
  refine ⟨h, fun x => ?_, ?_, fun x hx hz => ?_, ?_⟩
  · rw [List.mem_filter, Bool.not_eq_true', decide_eq_false_iff_not]
    constructor
    · intro hx
      by_cases hz : x ∈ Z
      · exact .inl hz
      · exact .inr ⟨hx, hz⟩
    · rintro (h | h)
      · exact up x h
      · exact h.1
  · exact List.Pairwise.filter _ (part_new hL).nd
  · have := (List.mem_filter.1 hx).2
    rw [Bool.not_eq_true', decide_eq_false_iff_not] at this
    exact this hz
  · have h1 : (L.filter fun x => decide (x ∈ Z)).length + (L.filter fun x => !decide (x ∈ Z)).length = L.length := by
      exact filt_add _ L
    rw [e] at h1
    exact h1
/-- The least one that is not there is taken. -/
theorem take_least {L Z : List Cg} (hL : Good L) (hc : ClA L) (h : Good Z) (up : ∀ x ∈ Z, x ∈ L) (hg : g ∈ L) (hgZ : g ∉ Z) (hr : (L.length : Int) ≤ room) (hm : ∀ y ∈ L, y ∉ Z → st.less (atS y) (atS g) = false) : whyR Z room g = 0 := by
  have hp := part_of hL h up
  refine hp.least hL hc (List.mem_filter.2 ⟨hg, by simp [hgZ]⟩) hr fun y hy => ?_
  obtain ⟨h1, h2⟩ := List.mem_filter.1 hy
  rw [Bool.not_eq_true', decide_eq_false_iff_not] at h2
  exact hm y h1 h2
/-- One that is there is not taken again. -/
theorem why_there {L : List Cg} (h : Good L) (hg : g ∈ L) : whyR L room g = 5 := by
  have hf : L.find? (isA (atS g)) = some g := (find_A h.srt).2 ⟨hg, rfl⟩
  unfold whyR
  rw [h.chk g hg, hf]
  simp only [decide_true, Bool.not_true, cond_false, sameC_self, cond_true]
/-- A list of changes goes in, in order, all of which are there or the least of what is not. -/
theorem go_in {L Z D : List Cg} (hL : Good L) (hc : ClA L) (hr : (L.length : Int) ≤ room) (h : Good Z) (up : ∀ x ∈ Z, x ∈ L) (hD : Srt D) (upD : ∀ x ∈ D, x ∈ L) (hall : ∀ x ∈ L, x ∈ Z ∨ x ∈ D) : ∀ (j : Nat) (hj : j ≤ D.length),
    Good ((D.take j).foldl (fun L g => addR L room g) Z) ∧ (∀ x, x ∈ (D.take j).foldl (fun L g => addR L room g) Z ↔ x ∈ Z ∨ x ∈ D.take j) ∧ ∀ (hj' : j < D.length), D[j] ∉ (D.take j).foldl (fun L g => addR L room g) Z → whyR ((D.take j).foldl (fun L g => addR L room g) Z) room D[j] = 0
  | 0, _ => by
    refine ⟨h, fun x => by simp, fun hj' hn => ?_⟩
    simp only [List.take_zero, List.foldl_nil] at hn ⊢
    refine take_least hL hc h up (upD _ (List.getElem_mem hj')) hn hr fun y hy hyZ => ?_
    rcases hall y hy with h1 | h1
    · exact absurd h1 hyZ
    · obtain ⟨i, hi, rfl⟩ := List.getElem_of_mem h1
      by_cases e : i = 0
      · subst e; exact less_irr _
      · exact less_asymm (List.pairwise_iff_getElem.1 hD 0 i hj' hi (by omega))
  | j + 1, hj => by
    obtain ⟨a1, a2, a3⟩ := go_in hL hc hr h up hD upD hall j (by omega)
    have hjl : j < D.length := by omega
    have htk : D.take (j + 1) = D.take j ++ [D[j]] := List.take_succ_eq_append_getElem hjl
    have hfo : (D.take (j + 1)).foldl (fun L g => addR L room g) Z = addR ((D.take j).foldl (fun L g => addR L room g) Z) room D[j] := by
      rw [htk, List.foldl_append]; rfl
    have b1 : Good ((D.take (j + 1)).foldl (fun L g => addR L room g) Z) := by rw [hfo]; exact addR_good a1
    have b2 : ∀ x, x ∈ (D.take (j + 1)).foldl (fun L g => addR L room g) Z ↔ x ∈ Z ∨ x ∈ D.take (j + 1) := fun x => by
      rw [hfo, htk]
      by_cases hin : D[j] ∈ (D.take j).foldl (fun L g => addR L room g) Z
      · have hw : whyR ((D.take j).foldl (fun L g => addR L room g) Z) room D[j] = 5 := why_there a1 hin
        have : addR ((D.take j).foldl (fun L g => addR L room g) Z) room D[j] = (D.take j).foldl (fun L g => addR L room g) Z := addR_no hw
        rw [this, a2 x, List.mem_append, List.mem_singleton]
        constructor
        · rintro (h | h)
          · exact .inl h
          · exact .inr (.inl h)
        · rintro (h | h | rfl)
          · exact .inl h
          · exact .inr h
          · exact (a2 _).1 hin
      · have hw := a3 hjl hin
        have : addR ((D.take j).foldl (fun L g => addR L room g) Z) room D[j] = putC D[j] ((D.take j).foldl (fun L g => addR L room g) Z) := addR_yes hw
        rw [this, putC_mem, a2 x, List.mem_append, List.mem_singleton]
        constructor
        · rintro (h | h | h)
          · exact .inr (.inr h)
          · exact .inl h
          · exact .inr (.inl h)
        · rintro (h | h | h)
          · exact .inr (.inl h)
          · exact .inr (.inr h)
          · exact .inl h
    refine ⟨b1, b2, fun hj' hn => ?_⟩
    refine take_least hL hc b1 (fun x hx => ((b2 x).1 hx).elim (up x) fun h => upD x (List.mem_of_mem_take h)) (upD _ (List.getElem_mem hj')) hn hr fun y hy hyZ => ?_
    rcases hall y hy with h1 | h1
    · exact absurd ((b2 y).2 (.inl h1)) hyZ
    · obtain ⟨i, hi, rfl⟩ := List.getElem_of_mem h1
      rcases Nat.lt_trichotomy i (j + 1) with e | e | e
      · exact absurd ((b2 _).2 (.inr (List.mem_take_iff_getElem.2 ⟨i, by omega, rfl⟩))) hyZ
      · subst e; exact less_irr _
      · exact less_asymm (List.pairwise_iff_getElem.1 hD (j + 1) i hj' hi e)
/-- What one lacks of another one, by the clock. -/
theorem lack {L A Z : List Cg} (hL : Good L) (hA : ∀ x ∈ A, x ∈ L) (h : Good Z) (up : ∀ x ∈ Z, x ∈ L) {out : List Int} {z : Nat} (ht : Trims (cnts Z) out z) : allR A out = A.filter fun x => !decide (x ∈ Z) := by
  unfold allR
  refine List.filter_congr fun g hg => ?_
  have hgL := hA g hg
  have hr : 0 ≤ g.ar ∧ g.ar < 64 := (right_has (chk_has (hL.chk g hgL)).1).2
  have hs := (chk_has (hL.chk g hgL)).2.1
  unfold inC
  rw [atD_trims ht, atD_cnts _ hr]
  congr 1
  rw [decide_eq_decide]
  constructor
  · intro hle
    obtain ⟨y, z1, z2, z3, -⟩ := h.nth (r := g.ar) (n := g.seq) (by omega) hle
    exact hL.uniq (up y z1) hgL z2 z3 ▸ z1
  · intro hz; exact h.cnt_le' hz
theorem cnt_uni {A B U : List Cg} (hA : Good A) (hB : Good B) (hU : Good U) (hm : ∀ x, x ∈ U ↔ x ∈ A ∨ x ∈ B) (r : Int) : (cnt U r : Int) = max (cnt A r : Int) (cnt B r : Int) := by
  have ge : ∀ {Z : List Cg}, Good Z → (∀ x ∈ Z, x ∈ U) → (cnt Z r : Int) ≤ cnt U r := fun {Z} hZ up => by
    by_cases h0 : cnt Z r = 0
    · rw [h0]; omega
    obtain ⟨y, z1, z2, z3, -⟩ := hZ.nth (r := r) (n := cnt Z r) (by omega) (by omega)
    have := hU.cnt_le' (up y z1)
    rw [z2, z3] at this
    exact this
  have h1 := ge hA fun x hx => (hm x).2 (.inl hx)
  have h2 := ge hB fun x hx => (hm x).2 (.inr hx)
  have h3 : (cnt U r : Int) ≤ max (cnt A r : Int) (cnt B r : Int) := by
    by_cases h0 : cnt U r = 0
    · rw [h0]; omega
    obtain ⟨y, z1, z2, z3, -⟩ := hU.nth (r := r) (n := cnt U r) (by omega) (by omega)
    rcases (hm y).1 z1 with h | h
    · have := hA.cnt_le' h
      rw [z2, z3] at this; omega
    · have := hB.cnt_le' h
      rw [z2, z3] at this; omega
  omega
theorem mxs_uni {A B U : List Cg} (hA : Good A) (hB : Good B) (hU : Good U) (hm : ∀ x, x ∈ U ↔ x ∈ A ∨ x ∈ B) {oa ob : List Int} {za zb : Nat} (ta : Trims (cnts A) oa za) (tb : Trims (cnts B) ob zb) : mxs oa ob 64 = cnts U := by
  unfold mxs cnts
  refine List.map_congr_left fun r hr => ?_
  have hr' := List.mem_range.1 hr
  rw [atD_trims ta, atD_trims tb, atD_cnts _ (by omega), atD_cnts _ (by omega), cnt_uni hA hB hU hm]
/-- A log's clock is right. -/
theorem clock_right {Z : List Cg} {out : List Int} {z : Nat} (hl : Z.length ≤ 1000000) (ht : Trims (cnts Z) out z) : clockI out = 0 := by
  have h1 := congrArg List.length ht.1
  rw [cnts_len, List.length_append] at h1
  unfold clockI
  rw [show decide ((64 : Int) < out.length) = false by rw [decide_eq_false_iff_not]; omega]
  have : out.any badN = false := by
    rw [List.any_eq_false]
    intro n hn
    have hn2 : n ∈ cnts Z := by rw [ht.1]; exact List.mem_append_left _ hn
    simp only [cnts, List.mem_map, List.mem_range] at hn2
    obtain ⟨r, -, rfl⟩ := hn2
    have := cnt_le Z (r : Int)
    simp only [badN, Bool.not_eq_true, Bool.or_eq_false_iff, decide_eq_false_iff_not]
    omega
  rw [this]; rfl
end
end Go.VL.opl

namespace Go.VL.opl
open Go Go.VL Go.Proofs
/-- topiary/topiarylaw07.OplogUnion: 2 parameters, 191 slots. -/
def c9 : C :=
  .seq (.ops [⟨none, .bxL 2 (.t 0)⟩,
    ⟨none, .mv 4 (.c (.bool false))⟩])
  (.seq (.ops [⟨none, .ca (some 24) 24 [(.c (.int .i64 4096))]⟩,
    ⟨none, .mv 23 (.t 24)⟩,
    ⟨none, .ex 25 (.t 23) 0⟩,
    ⟨none, .ex 26 (.t 23) 1⟩,
    ⟨none, .mv 5 (.t 25)⟩,
    ⟨none, .mv 6 (.t 26)⟩])
  (.seq (.ops [⟨none, .ca (some 28) 24 [(.c (.int .i64 4096))]⟩,
    ⟨none, .mv 27 (.t 28)⟩,
    ⟨none, .ex 29 (.t 27) 0⟩,
    ⟨none, .ex 30 (.t 27) 1⟩,
    ⟨none, .mv 7 (.t 29)⟩,
    ⟨none, .mv 8 (.t 30)⟩])
  (.seq (.seq (.ops [⟨none, .mv 31 (.t 6)⟩,
    ⟨none, .bi 32 .neq (.t 31) (.c (.int .i64 0))⟩,
    ⟨none, .mv 33 (.t 32)⟩,
    ⟨some (33, false), .mv 34 (.t 8)⟩,
    ⟨some (33, false), .bi 35 .neq (.t 34) (.c (.int .i64 0))⟩,
    ⟨none, .pk 36 (.t 33) (.c (.bool true)) (.t 35)⟩,
    ⟨none, .mv 37 (.t 36)⟩,
    ⟨some (37, false), .mv 38 (.t 5)⟩,
    ⟨some (37, false), .bq 39 false .ptr (.t 38) (.c (.ptr none))⟩,
    ⟨none, .pk 40 (.t 37) (.c (.bool true)) (.t 39)⟩,
    ⟨none, .mv 41 (.t 40)⟩,
    ⟨some (41, false), .mv 42 (.t 7)⟩,
    ⟨some (41, false), .bq 43 false .ptr (.t 42) (.c (.ptr none))⟩,
    ⟨none, .pk 44 (.t 41) (.c (.bool true)) (.t 43)⟩])
  (.cond (.t 44) (.seq (.ops [⟨none, .mv 4 (.c (.bool false))⟩])
    (.ret))
    (.skip)))
  (.seq (.seq (.ops [⟨none, .fa 45 (.t 2) 0⟩,
    ⟨none, .ld 46 (.t 45) 1 false⟩,
    ⟨none, .ln 47 .sl (.t 46)⟩,
    ⟨none, .bi 48 .gtr (.t 47) (.c (.int .i64 500))⟩])
  (.cond (.t 48) (.seq (.ops [⟨none, .ca (some 49) 19 []⟩,
      ⟨none, .mv 4 (.t 49)⟩])
    (.ret))
    (.skip)))
  (.seq (.ops [⟨none, .bld 50 [.int .i64 0, .sl true .pub 0 []] [(0, 1, (.c (.int .i64 4096)))]⟩,
    ⟨none, .alL 9 [.int .i64 0, .sl true .pub 0 []]⟩,
    ⟨none, .st (.t 9) (.t 50) 2⟩])
  (.seq (.seq (.ops [⟨none, .mv 10 (.c (.int .i64 0))⟩])
  (.block 0 (.loop (.seq (.seq (.ops [⟨none, .mv 51 (.t 10)⟩,
    ⟨none, .fa 52 (.t 2) 0⟩,
    ⟨none, .ld 53 (.t 52) 1 false⟩,
    ⟨none, .ln 54 .sl (.t 53)⟩,
    ⟨none, .bi 55 .lss (.t 51) (.t 54)⟩])
  (.cond (.t 55) (.skip)
    (.exit 0)))
  (.cut (.block 1 (.cut (.opsE [⟨none, .ld 59 (.t 9) 2 true⟩,
    ⟨none, .fa 60 (.t 2) 0⟩,
    ⟨none, .ld 61 (.t 60) 1 false⟩,
    ⟨none, .mv 62 (.t 10)⟩,
    ⟨none, .ia 63 (.t 61) (.t 62) 13⟩,
    ⟨none, .ld 64 (.t 63) 13 true⟩,
    ⟨none, .ca (some 65) 35 [(.t 59), (.t 64)]⟩,
    ⟨none, .mv 58 (.t 65)⟩,
    ⟨none, .ex 66 (.t 58) 0⟩,
    ⟨none, .ex 67 (.t 58) 1⟩,
    ⟨none, .alH 11 [.int .i64 0, .sl true .pub 0 []]⟩,
    ⟨none, .st (.t 11) (.t 66) 2⟩,
    ⟨none, .mv 12 (.t 67)⟩]
  [⟨none, .ld 59 (.t 9) 2 true⟩,
    ⟨none, .fa 60 (.t 2) 0⟩,
    ⟨none, .ld 61 (.t 60) 1 false⟩,
    ⟨none, .mv 62 (.t 10)⟩,
    ⟨none, .ia 63 (.t 61) (.t 62) 13⟩,
    ⟨none, .ld 64 (.t 63) 13 true⟩,
    ⟨none, .alH 11 [.int .i64 0, .sl true .pub 0 []]⟩,
    ⟨none, .ca (some 65) 35 [(.t 59), (.t 64)]⟩,
    ⟨none, .mv 58 (.t 65)⟩,
    ⟨none, .ex 66 (.t 58) 0⟩,
    ⟨none, .ex 67 (.t 58) 1⟩,
    ⟨none, .st (.t 11) (.t 66) 2⟩,
    ⟨none, .mv 12 (.t 67)⟩])
  (.seq (.ops [⟨none, .ld 68 (.t 11) 2 true⟩,
    ⟨none, .st (.t 9) (.t 68) 2⟩])
  (.seq (.seq (.ops [⟨none, .mv 69 (.t 12)⟩,
    ⟨none, .bi 70 .neq (.t 69) (.c (.int .i64 0))⟩])
  (.cond (.t 70) (.exit 1)
    (.skip)))
  (.cut (.seq (.ops [⟨none, .mv 71 (.t 10)⟩,
    ⟨none, .fa 72 (.t 2) 1⟩,
    ⟨none, .ld 73 (.t 72) 1 false⟩,
    ⟨none, .ln 74 .sl (.t 73)⟩,
    ⟨none, .bi 75 .geq (.t 71) (.t 74)⟩,
    ⟨none, .mv 76 (.t 75)⟩,
    ⟨some (76, false), .fa 77 (.t 2) 1⟩,
    ⟨some (76, false), .ld 78 (.t 77) 1 false⟩,
    ⟨some (76, false), .mv 79 (.t 10)⟩,
    ⟨some (76, false), .ia 80 (.t 78) (.t 79) 1⟩,
    ⟨some (76, false), .ld 81 (.t 80) 1 false⟩,
    ⟨none, .pk 82 (.t 76) (.c (.bool true)) (.t 81)⟩])
  (.cond (.t 82) (.ops [⟨none, .mv 83 (.t 5)⟩,
      ⟨none, .fa 84 (.t 2) 0⟩,
      ⟨none, .ld 85 (.t 84) 1 false⟩,
      ⟨none, .mv 86 (.t 10)⟩,
      ⟨none, .ia 87 (.t 85) (.t 86) 13⟩,
      ⟨none, .ld 88 (.t 87) 13 true⟩,
      ⟨none, .ca (some 89) 14 [(.t 83), (.t 88)]⟩])
    (.skip)))
  (.seq (.ops [⟨none, .mv 90 (.t 10)⟩,
    ⟨none, .fa 91 (.t 2) 1⟩,
    ⟨none, .ld 92 (.t 91) 1 false⟩,
    ⟨none, .ln 93 .sl (.t 92)⟩,
    ⟨none, .bi 94 .geq (.t 90) (.t 93)⟩,
    ⟨none, .mv 95 (.t 94)⟩,
    ⟨some (95, false), .fa 96 (.t 2) 1⟩,
    ⟨some (95, false), .ld 97 (.t 96) 1 false⟩,
    ⟨some (95, false), .mv 98 (.t 10)⟩,
    ⟨some (95, false), .ia 99 (.t 97) (.t 98) 1⟩,
    ⟨some (95, false), .ld 100 (.t 99) 1 false⟩,
    ⟨some (95, false), .un 101 .not (.t 100)⟩,
    ⟨none, .pk 102 (.t 95) (.c (.bool true)) (.t 101)⟩])
  (.cond (.t 102) (.ops [⟨none, .mv 103 (.t 7)⟩,
      ⟨none, .fa 104 (.t 2) 0⟩,
      ⟨none, .ld 105 (.t 104) 1 false⟩,
      ⟨none, .mv 106 (.t 10)⟩,
      ⟨none, .ia 107 (.t 105) (.t 106) 13⟩,
      ⟨none, .ld 108 (.t 107) 13 true⟩,
      ⟨none, .ca (some 109) 14 [(.t 103), (.t 108)]⟩])
    (.skip))))))))
  (.ops [⟨none, .mv 56 (.t 10)⟩,
    ⟨none, .bi 57 .add (.t 56) (.c (.int .i64 1))⟩,
    ⟨none, .mv 10 (.t 57)⟩]))))))
  (.seq (.ops [⟨none, .mv 110 (.t 1)⟩,
    ⟨none, .cI 111 .u64 (.t 110)⟩,
    ⟨none, .bi 112 .rem (.t 111) (.c (.int .u64 9))⟩,
    ⟨none, .cI 113 .i64 (.t 112)⟩,
    ⟨none, .bi 114 .add (.c (.int .i64 1)) (.t 113)⟩,
    ⟨none, .mv 1 (.t 114)⟩])
  (.seq (.ops [⟨none, .mv 115 (.t 7)⟩,
    ⟨none, .ca (some 116) 25 [(.t 115)]⟩,
    ⟨none, .bld 117 [.int .i64 0, .sl true .pub 0 []] [(0, 1, (.c (.int .i64 4096))), (1, 1, (.t 116))]⟩,
    ⟨none, .alL 13 [.int .i64 0, .sl true .pub 0 []]⟩,
    ⟨none, .st (.t 13) (.t 117) 2⟩])
  (.seq (.ops [⟨none, .mv 118 (.t 5)⟩,
    ⟨none, .ca (some 119) 25 [(.t 118)]⟩,
    ⟨none, .mv 14 (.t 119)⟩])
  (.seq (.seq (.ops [⟨none, .mv 15 (.c (.int .i64 0))⟩])
  (.block 2 (.loop (.seq (.seq (.ops [⟨none, .mv 120 (.t 15)⟩,
    ⟨none, .mv 121 (.t 14)⟩,
    ⟨none, .ln 122 .sl (.t 121)⟩,
    ⟨none, .bi 123 .lss (.t 120) (.t 122)⟩])
  (.cond (.t 123) (.skip)
    (.exit 2)))
  (.seq (.block 3 (.opsD [⟨none, .ld 127 (.t 13) 2 true⟩,
    ⟨none, .mv 128 (.t 14)⟩,
    ⟨none, .mv 129 (.t 15)⟩,
    ⟨none, .ia 130 (.t 128) (.t 129) 13⟩,
    ⟨none, .ld 131 (.t 130) 13 true⟩,
    ⟨none, .ca (some 132) 35 [(.t 127), (.t 131)]⟩,
    ⟨none, .mv 126 (.t 132)⟩,
    ⟨none, .ex 133 (.t 126) 0⟩,
    ⟨none, .ex 134 (.t 126) 1⟩,
    ⟨none, .st (.t 13) (.t 133) 2⟩]))
  (.ops [⟨none, .mv 124 (.t 15)⟩,
    ⟨none, .bi 125 .add (.t 124) (.c (.int .i64 1))⟩,
    ⟨none, .mv 15 (.t 125)⟩]))))))
  (.seq (.ops [⟨none, .mv 136 (.t 5)⟩,
    ⟨none, .ca (some 137) 39 [(.t 136)]⟩,
    ⟨none, .mv 138 (.t 7)⟩,
    ⟨none, .ca (some 139) 39 [(.t 138)]⟩,
    ⟨none, .ca (some 140) 38 [(.t 137), (.t 139)]⟩,
    ⟨none, .mv 135 (.t 140)⟩,
    ⟨none, .ex 141 (.t 135) 0⟩,
    ⟨none, .ex 142 (.t 135) 1⟩,
    ⟨none, .mv 16 (.t 141)⟩,
    ⟨none, .mv 17 (.t 142)⟩])
  (.seq (.seq (.ops [⟨none, .mv 18 (.c (.bool true))⟩])
  (.block 4 (.loop (.seq (.seq (.ops [⟨none, .mv 143 (.t 18)⟩])
  (.cond (.t 143) (.skip)
    (.exit 4)))
  (.block 5 (.seq (.ops [⟨none, .mv 145 (.t 5)⟩,
    ⟨none, .mv 146 (.t 7)⟩,
    ⟨none, .ca (some 147) 39 [(.t 146)]⟩,
    ⟨none, .mv 148 (.t 1)⟩,
    ⟨none, .ca (some 149) 31 [(.t 145), (.t 147), (.t 148)]⟩,
    ⟨none, .mv 144 (.t 149)⟩,
    ⟨none, .ex 150 (.t 144) 0⟩,
    ⟨none, .ex 151 (.t 144) 1⟩,
    ⟨none, .ex 152 (.t 144) 2⟩,
    ⟨none, .mv 19 (.t 150)⟩,
    ⟨none, .mv 20 (.t 151)⟩,
    ⟨none, .mv 21 (.t 152)⟩])
  (.seq (.seq (.ops [⟨none, .mv 153 (.t 21)⟩,
    ⟨none, .bi 154 .neq (.t 153) (.c (.int .i64 0))⟩,
    ⟨none, .mv 155 (.t 154)⟩,
    ⟨some (155, false), .mv 156 (.t 20)⟩,
    ⟨some (155, false), .mv 157 (.t 156)⟩,
    ⟨some (157, true), .mv 158 (.t 19)⟩,
    ⟨some (157, true), .ln 159 .sl (.t 158)⟩,
    ⟨some (157, true), .bi 160 .eql (.t 159) (.c (.int .i64 0))⟩,
    ⟨some (155, false), .pk 161 (.t 157) (.t 160) (.c (.bool false))⟩,
    ⟨none, .pk 162 (.t 155) (.c (.bool true)) (.t 161)⟩])
  (.cond (.t 162) (.seq (.ops [⟨none, .mv 4 (.c (.bool false))⟩])
    (.ret))
    (.skip)))
  (.seq (.ops [⟨none, .mv 163 (.t 20)⟩,
    ⟨none, .mv 18 (.t 163)⟩])
  (.seq (.ops [⟨none, .mv 22 (.c (.int .i64 0))⟩])
  (.block 6 (.loop (.seq (.seq (.ops [⟨none, .mv 164 (.t 22)⟩,
    ⟨none, .mv 165 (.t 19)⟩,
    ⟨none, .ln 166 .sl (.t 165)⟩,
    ⟨none, .bi 167 .lss (.t 164) (.t 166)⟩])
  (.cond (.t 167) (.skip)
    (.exit 6)))
  (.seq (.block 7 (.seq (.ops [⟨none, .mv 170 (.t 7)⟩,
    ⟨none, .mv 171 (.t 19)⟩,
    ⟨none, .mv 172 (.t 22)⟩,
    ⟨none, .ia 173 (.t 171) (.t 172) 13⟩,
    ⟨none, .ld 174 (.t 173) 13 true⟩,
    ⟨none, .ca (some 175) 14 [(.t 170), (.t 174)]⟩,
    ⟨none, .bi 176 .neq (.t 175) (.c (.int .i64 0))⟩])
  (.cond (.t 176) (.seq (.ops [⟨none, .mv 4 (.c (.bool false))⟩])
    (.ret))
    (.skip))))
  (.ops [⟨none, .mv 168 (.t 22)⟩,
    ⟨none, .bi 169 .add (.t 168) (.c (.int .i64 1))⟩,
    ⟨none, .mv 22 (.t 169)⟩]))))))))))))))
  (.seq (.opsD [⟨none, .mv 177 (.t 7)⟩,
    ⟨none, .fa 179 (.t 13) 1⟩,
    ⟨none, .ld 180 (.t 179) 1 false⟩,
    ⟨none, .ca (some 178) 25 [(.t 177)]⟩,
    ⟨none, .ca (some 181) 33 [(.t 178), (.t 180)]⟩,
    ⟨none, .mv 182 (.t 181)⟩,
    ⟨some (182, true), .mv 183 (.t 7)⟩,
    ⟨some (182, true), .mv 185 (.t 16)⟩,
    ⟨some (182, true), .ca (some 184) 39 [(.t 183)]⟩,
    ⟨some (182, true), .ca (some 186) 40 [(.t 184), (.t 185)]⟩,
    ⟨none, .pk 187 (.t 182) (.t 186) (.c (.bool false))⟩,
    ⟨none, .mv 188 (.t 187)⟩,
    ⟨some (188, true), .ca (some 189) 19 []⟩,
    ⟨none, .pk 190 (.t 188) (.t 189) (.c (.bool false))⟩,
    ⟨none, .mv 4 (.t 190)⟩])
  (.ret))))))))))))))
theorem comp9 : compFn Try.prog [2, 9, 13] Try.f9 = some ([.t 4], c9) := by kernel_rfl
end Go.VL.opl

namespace Go.VL.opl
open Go Go.VL Go.Proofs Go.IntWalk Go.VL.st Go.VL.row

theorem u64w (n : Int) : IntKind.u64.wrap n = n % 18446744073709551616 := by simp [IntKind.wrap, IntKind.bits, IntKind.signed]
theorem idx_9 (o : Int) : ∃ i : Nat, i < 9 ∧ IntKind.i64.wrap ((IntKind.u64.wrap o).tmod 9) = i := by
  rw [u64w]
  obtain ⟨a, ha⟩ := Int.eq_ofNat_of_zero_le (Int.emod_nonneg o (b := 18446744073709551616) (by decide))
  have h2 : (a : Int).tmod 9 = ((a % 9 : Nat) : Int) := by
    rw [Int.tmod_eq_emod_of_nonneg (by omega)]; omega
  rw [ha, h2]
  have := Nat.mod_lt a (show 0 < 9 by decide)
  exact ⟨a % 9, this, by rw [i64_in _ (by omega)]⟩
def boolsV (bs : List Bool) : List (List V) := bs.map fun b => [V.bool b]
theorem boolsV_len (bs : List Bool) : (boolsV bs).length = bs.length := by simp [boolsV]
theorem boolsV_get {bs : List Bool} {i : Nat} (h : i < bs.length) : (boolsV bs)[((i : Nat) : Int).toNat]?.getD [] = [V.bool bs[i]] := by simp [boolsV, h]
theorem boolsV_ne {bs : List Bool} {i : Nat} (h : i < bs.length) : boolsV bs ≠ [] := by
  intro e
  have := congrArg List.length e
  rw [boolsV_len, List.length_nil] at this
  omega
section
variable {σ τ : St} {ia ma ib mb : Nat} {sa sa' sb : V} {ova ova' ovb : List V} {Pa Pb : List (V × Cg)} {room : Int}
theorem two_step (ha : LogIs σ ia (some ma) sa ova room Pa) (hb : LogIs σ ib (some mb) sb ovb room Pb) (dj : ∀ j, Own ia (some ma) sa ova j → ¬ Own ib (some mb) sb ovb j) (kt : LTo σ τ ia (some ma) sa sa' ova ova') :
    LogIs τ ib (some mb) sb ovb room Pb ∧ ∀ j, Own ia (some ma) sa' ova' j → ¬ Own ib (some mb) sb ovb j := by
  refine ⟨hb.up kt.upd fun j hj ha' => dj j ha' hj, fun j hj hbj => ?_⟩
  rcases kt.own j hj with h | h
  · exact dj j h hbj
  · have := hb.mid.own_lt hbj
    omega
end
section
variable {σ : St} {v wv : V} {gs : List Cg} {bs : List Bool} {most : Int}
set_option maxRecDepth 100000 in
set_option maxHeartbeats 16000000 in
theorem union_law (hv : ArgC v gs) (hw : ∀ σ, RdS σ wv 1 (boolsV bs)) : CallA Try.prog 9 [.agg [v, wv], .int .i64 most] σ fun w _ => w = .bool true := by
  obtain ⟨⟨l, rfl, hva, hds⟩, hgl, hgb⟩ := hv
  obtain ⟨b, R, z, rfl, -, -⟩ := hva σ
  obtain ⟨wb, wR, wz, rfl, -, -⟩ := hw σ
  rw [List.length_map] at hgl
  refine fn_at Try.func9 (by decide) comp9 rfl fun Q q1 q2 => ?_
  have hcl := cgsV_len l
  have hbl := boolsV_len bs
  have h00 : decide ((0 : Int) = 0) = true := by decide
  simp -implicitDefEqProofs only [go_sem, Nat.reduceBEq, Nat.reduceAdd, eq_self, true_and, and_true, and_self, List.getElem?_cons_zero, List.getElem?_cons_succ, Nat.reduceLeDiff, Nat.zero_add, Nat.reduceSub, Nat.le_refl, c9]
  refine call_at (new_ok (room := 4096) rfl) ?_
  rintro w τ1 ⟨rfl, ha0, e1⟩
  refine ⟨kept_none, ?_⟩
  simp -implicitDefEqProofs only [go_sem, Nat.reduceBEq, Nat.reduceAdd, eq_self, true_and, and_true, and_self, List.getElem?_cons_zero, List.getElem?_cons_succ, Nat.reduceLeDiff, Nat.zero_add, Nat.reduceSub, Nat.le_refl, Nat.lt_irrefl]
  refine call_at (new_ok (room := 4096) rfl) ?_
  rintro w τ2 ⟨rfl, hb0, e2⟩
  refine ⟨kept_none, ?_⟩
  have ha2 := ha0.ext e2
  have hdj0 : ∀ j, Own (σ.objs.length + 1) (some σ.objs.length) (.sl true .pub 0 []) nilO j → ¬ Own (τ1.objs.length + 1) (some τ1.objs.length) (.sl true .pub 0 []) nilO j := fun j h1 h2 => by
    have := ha0.mid.own_lt h1
    rcases own_new h2 with rfl | h2
    · omega
    · cases h2; omega
  clear ha0
  simp -implicitDefEqProofs only [go_sem, Nat.reduceBEq, Nat.reduceAdd, eq_self, true_and, and_true, and_self, List.getElem?_cons_zero, List.getElem?_cons_succ, Nat.reduceLeDiff, Nat.zero_add, Nat.reduceSub, Nat.le_refl, h00, Bool.not_true, hcl]
  cases h5 : decide ((l.length : Int) > 500)
  case true =>
    simp -implicitDefEqProofs only [go_sem, Nat.reduceBEq, Nat.reduceAdd, eq_self, true_and, and_true, and_self, List.getElem?_cons_zero, List.getElem?_cons_succ, Nat.reduceLeDiff, Nat.zero_add, Nat.reduceSub, Nat.le_refl, h5]
    refine call_at awake_ok ?_
    rintro w τ5 ⟨rfl, -⟩
    refine ⟨kept_none, ?_⟩
    simp -implicitDefEqProofs only [go_sem, Nat.reduceBEq, Nat.reduceAdd, eq_self, true_and, and_true, and_self, List.getElem?_cons_zero, List.getElem?_cons_succ, Nat.reduceLeDiff, Nat.zero_add, Nat.reduceSub, Nat.le_refl, Nat.lt_irrefl]
    refine q2 _ _ ?_
    simp -implicitDefEqProofs only [go_sem, Nat.reduceBEq, Nat.reduceAdd, eq_self, true_and, and_true, and_self, List.getElem?_cons_zero, List.getElem?_cons_succ, Nat.reduceLeDiff, Nat.zero_add, Nat.reduceSub, Nat.le_refl, Nat.lt_irrefl]
  have hl5 : l.length ≤ 500 := by have := of_decide_eq_false h5; omega
  simp -implicitDefEqProofs only [go_sem, Nat.reduceBEq, Nat.reduceAdd, eq_self, true_and, and_true, and_self, List.getElem?_cons_zero, List.getElem?_cons_succ, Nat.reduceLeDiff, Nat.zero_add, Nat.reduceSub, Nat.le_refl, h5, flats, V.flat]
  generalize σ.objs.length + 1 = ia at *
  generalize σ.objs.length = ma at *
  generalize τ1.objs.length + 1 = ib at *
  generalize τ1.objs.length = mb at *
  refine loop_at (fun (y : Nat × V) => ⟨[(1, .v (.int .i64 most)), (2, .loc 2 0), (5, .v (.ptr (some (ia, 0)))), (7, .v (.ptr (some (ib, 0)))), (9, .loc 9 0), (10, .v (.int .i64 ((y.1 : Nat) : Int)))], [(2, [.sl b R z (cgsV l), .sl wb wR wz (boolsV bs)]), (9, [.int .i64 4096, y.2])]⟩)
    (fun y t => y.1 ≤ l.length ∧ RdC t y.2 (logR ((l.map (·.2)).take y.1) 4096) ∧ ∃ sa ova Pa sb ovb Pb, LogIs t ia (some ma) sa ova 4096 Pa ∧ LogIs t ib (some mb) sb ovb 4096 Pb ∧ (∀ j, Own ia (some ma) sa ova j → ¬ Own ib (some mb) sb ovb j) ∧ SubL (logR ((l.map (·.2)).take y.1) 4096) (cgL Pa) ∧ SubL (logR ((l.map (·.2)).take y.1) 4096) (cgL Pb)) (fun y => l.length - y.1) (0, .sl true .pub 0 []) ?_ ?_ ?_
  · refine .inr ?_
    simp -implicitDefEqProofs only [go_sem, Nat.reduceBEq, Nat.reduceAdd, eq_self, true_and, and_true, and_self, List.getElem?_cons_zero, List.getElem?_cons_succ, Nat.reduceLeDiff, Nat.zero_add, Nat.reduceSub, Nat.le_refl, Nat.lt_irrefl]
    try exact ⟨rfl, rfl⟩
    try exact rfl
  · exact ⟨Nat.zero_le _, ⟨[], rfl, ⟨_, _, _, rfl, fun _ => rfl, .inl rfl⟩, by intro p hp; cases hp⟩, _, _, [], _, _, [], ha2, hb0, hdj0, ⟨good_nil, fun x hx => (by cases hx), fun x hx => by cases hx⟩, ⟨good_nil, fun x hx => (by cases hx), fun x hx => by cases hx⟩⟩
  rintro ⟨y, u⟩ t ⟨g1, g2, sa, ova, Pa, sb, ovb, Pb, ga, gb, gd, gsa, gsb⟩ Z z1 z2 z3
  simp only at g1 g2 gsa gsb
  have hWl : (logR ((l.map (·.2)).take y) 4096).length ≤ 4096 := logR_room _ _
  have hgd := logR_good ((l.map (·.2)).take y) 4096
  have hPal : Pa.length ≤ 4096 := by
    have := (part_of hgd gsa.good gsa.up).len
    rw [map2_len] at this
    omega
  have hPbl : Pb.length ≤ 4096 := by
    have := (part_of hgd gsb.good gsb.up).len
    rw [map2_len] at this
    omega
  simp -implicitDefEqProofs only [go_sem, Nat.reduceBEq, Nat.reduceAdd, eq_self, true_and, and_true, and_self, List.getElem?_cons_zero, List.getElem?_cons_succ, Nat.reduceLeDiff, Nat.zero_add, Nat.reduceSub, Nat.le_refl, hcl]
  cases hc : decide ((y : Int) < l.length)
  case true =>
    have hi : y < l.length := by have := of_decide_eq_true hc; omega
    have hget := cgsV_get hi
    have hwy : IntKind.i64.wrap ((y : Int) + 1) = ((y + 1 : Nat) : Int) := by rw [i64_in _ (by omega)]; omega
    have hdi := hds _ (List.getElem_mem hi)
    have hbi := hgb _ (List.mem_map_of_mem (List.getElem_mem hi))
    have htk : logR ((l.map (·.2)).take (y + 1)) 4096 = addR (logR ((l.map (·.2)).take y) 4096) 4096 l[y].2 := by
      rw [logR_take (by simpa using hi)]; simp
    generalize l[y] = p at hget htk hdi hbi
    obtain ⟨d2, g⟩ := p
    simp only at hget htk hdi hbi
    obtain ⟨db, dr, dz, rfl, -, -⟩ := hdi t
    generalize logR ((l.map (·.2)).take y) 4096 = W at *
    generalize hW' : logR ((l.map (·.2)).take (y + 1)) 4096 = W' at htk
    simp -implicitDefEqProofs only [go_sem, Nat.reduceBEq, Nat.reduceAdd, eq_self, true_and, and_true, and_self, List.getElem?_cons_zero, List.getElem?_cons_succ, Nat.reduceLeDiff, Nat.zero_add, Nat.reduceSub, Nat.le_refl, hc]
    refine cut_at (fun G τ => ∃ u', G = ⟨[(1, .v (.int .i64 most)), (2, .loc 2 0), (5, .v (.ptr (some (ia, 0)))), (7, .v (.ptr (some (ib, 0)))), (9, .loc 9 0), (10, .v (.int .i64 ((y : Nat) : Int)))], [(2, [.sl b R z (cgsV l), .sl wb wR wz (boolsV bs)]), (9, [.int .i64 4096, u'])]⟩ ∧ RdC τ u' W' ∧ ∃ sa ova Pa sb ovb Pb, LogIs τ ia (some ma) sa ova 4096 Pa ∧ LogIs τ ib (some mb) sb ovb 4096 Pb ∧ (∀ j, Own ia (some ma) sa ova j → ¬ Own ib (some mb) sb ovb j) ∧ SubL W' (cgL Pa) ∧ SubL W' (cgL Pb)) ?_ ?_
    case refine_2 =>
      rintro G τ ⟨u', rfl, k1, sa, ova, Pa, sb, ovb, Pb, k2⟩
      simp -implicitDefEqProofs only [go_sem, Nat.reduceBEq, Nat.reduceAdd, eq_self, true_and, and_true, and_self, List.getElem?_cons_zero, List.getElem?_cons_succ, Nat.reduceLeDiff, Nat.zero_add, Nat.reduceSub, Nat.le_refl, hwy]
      refine z1 (y + 1, u') _ _ (.inr ?_) (by simp only; omega) ⟨by simp only; omega, by simp only; rw [hW']; exact k1, sa, ova, Pa, sb, ovb, Pb, by simp only; rw [hW']; exact k2⟩
      simp -implicitDefEqProofs only [go_sem, Nat.reduceBEq, Nat.reduceAdd, eq_self, true_and, and_true, and_self, List.getElem?_cons_zero, List.getElem?_cons_succ, Nat.reduceLeDiff, Nat.zero_add, Nat.reduceSub, Nat.le_refl, Nat.lt_irrefl]
      try exact ⟨rfl, rfl⟩
      try exact rfl
    intro Y y1 y2 y3
    have hWdep : ∀ h ∈ W, h.deps.length ≤ 2000000 := fun h hh => by have := hgd.deps h hh; omega
    have hra := fun τ (e : Ext t τ) => radd_ok (room := 4096) (σ := τ) (d := .sl db dr dz (intsV .i64 g.deps)) (g := g) (g2.ext e) (by omega) (hdi τ) (by omega) hWdep (by omega)
    simp only [cgV, cgC] at hra
    obtain ⟨k1, k2⟩ := rdl (hva t) (cgsV_ne hi)
    obtain ⟨b6, R6, z6, es6, rfl⟩ := g2.isSl
    have hap : ∀ (A : List AObj) x, (A ++ [x])[A.length]? = some x := by simp
    simp -implicitDefEqProofs only [go_sem, Nat.reduceBEq, Nat.reduceAdd, eq_self, true_and, and_true, and_self, List.getElem?_cons_zero, List.getElem?_cons_succ, Nat.reduceLeDiff, Nat.zero_add, Nat.reduceSub, Nat.le_refl, Nat.lt_irrefl]
    refine cut_at (fun G τ => Ext t τ ∧ ∃ j u', τ.objs[j]? = some (.cells [.int .i64 4096, u']) ∧ RdC τ u' W' ∧ G = ⟨[(1, .v (.int .i64 most)), (2, .loc 2 0), (5, .v (.ptr (some (ia, 0)))), (7, .v (.ptr (some (ib, 0)))), (9, .loc 9 0), (10, .v (.int .i64 ((y : Nat) : Int))), (11, .v (.ptr (some (j, 0)))), (12, .v (.int .i64 (whyR W 4096 g)))], [(2, [.sl b R z (cgsV l), .sl wb wR wz (boolsV bs)]), (9, [.int .i64 4096, .sl b6 R6 z6 es6])]⟩) ?_ ?_
    · intro X x1 x2 x3
      have hA1 := hra t (.refl _)
      have hA2 := hra _ (ext_obj t (.cells [.int .i64 0, .sl true .pub 0 []]))
      simp -implicitDefEqProofs only [go_sem, Nat.reduceBEq, Nat.reduceAdd, eq_self, true_and, and_true, and_self, List.getElem?_cons_zero, List.getElem?_cons_succ, Nat.reduceLeDiff, Nat.zero_add, Nat.reduceSub, Nat.le_refl, hget, cgC, hcl]
      refine ⟨⟨⟨by omega, by omega, k2⟩, k1, ?_⟩, ⟨by omega, by omega, k2⟩, k1, ?_⟩
      · refine call_at hA1 ?_
        rintro w τ3 ⟨⟨u2, rfl, hu2⟩, e3, -⟩
        refine ⟨e3.kept, ?_⟩
        obtain ⟨b3, R3, z3', es3, rfl⟩ := hu2.isSl
        have hset : ∀ cs, ((⟨τ3.objs ++ [.cells [.int .i64 0, .sl true .pub 0 []]], τ3.live⟩ : St).setC τ3.objs.length cs).objs[τ3.objs.length]? = some (.cells cs) := fun cs => setC_get (by simp)
        have e4 : ∀ cs, Ext τ3 ((⟨τ3.objs ++ [.cells [.int .i64 0, .sl true .pub 0 []]], τ3.live⟩ : St).setC τ3.objs.length cs) := fun cs => ext_set (ext_obj _ _) (Nat.le_refl _)
        simp -implicitDefEqProofs only [go_sem, Nat.reduceBEq, Nat.reduceAdd, eq_self, true_and, and_true, and_self, List.getElem?_cons_zero, List.getElem?_cons_succ, Nat.reduceLeDiff, Nat.zero_add, Nat.reduceSub, Nat.le_refl, hap, flats, V.flat]
        refine x1 _ _ _ (.inr ?_) ⟨e3.trans (e4 _), τ3.objs.length, _, hset _, by rw [htk]; exact hu2.ext (e4 _), rfl⟩
        simp -implicitDefEqProofs only [go_sem, Nat.reduceBEq, Nat.reduceAdd, eq_self, true_and, and_true, and_self, List.getElem?_cons_zero, List.getElem?_cons_succ, Nat.reduceLeDiff, Nat.zero_add, Nat.reduceSub, Nat.le_refl, Nat.lt_irrefl]
        try exact ⟨rfl, rfl⟩
        try exact rfl
      · refine call_at hA2 ?_
        rintro w τ3 ⟨⟨u2, rfl, hu2⟩, e3, -⟩
        refine ⟨e3.kept, ?_⟩
        obtain ⟨b3, R3, z3', es3, rfl⟩ := hu2.isSl
        have hold := e3.objs _ _ (hap t.objs (.cells [.int .i64 0, .sl true .pub 0 []]))
        have hset : ∀ cs, (τ3.setC t.objs.length cs).objs[t.objs.length]? = some (.cells cs) := fun cs => setC_get (List.getElem?_eq_some_iff.1 hold).1
        have e4 : ∀ cs, Ext t (τ3.setC t.objs.length cs) := fun cs => ext_set ((ext_obj _ _).trans e3) (Nat.le_refl _)
        simp -implicitDefEqProofs only [go_sem, Nat.reduceBEq, Nat.reduceAdd, eq_self, true_and, and_true, and_self, List.getElem?_cons_zero, List.getElem?_cons_succ, Nat.reduceLeDiff, Nat.zero_add, Nat.reduceSub, Nat.le_refl, hold, flats, V.flat]
        refine x1 _ _ _ (.inr ?_) ⟨e4 _, t.objs.length, _, hset _, by rw [htk]; obtain ⟨l', m1, m2, m3⟩ := hu2; exact ⟨l', m1, rdS_lv m2 fun _ h => h, fun p hp => rdS_lv (m3 p hp) fun _ h => h⟩, rfl⟩
        simp -implicitDefEqProofs only [go_sem, Nat.reduceBEq, Nat.reduceAdd, eq_self, true_and, and_true, and_self, List.getElem?_cons_zero, List.getElem?_cons_succ, Nat.reduceLeDiff, Nat.zero_add, Nat.reduceSub, Nat.le_refl, Nat.lt_irrefl]
        try exact ⟨rfl, rfl⟩
        try exact rfl
    rintro G τ3 ⟨e3, j, u', hj, hu', rfl⟩
    obtain ⟨b7, R7, z7, es7, rfl⟩ := hu'.isSl
    have ga3 := ga.ext e3
    have gb3 := gb.ext e3
    clear ga gb g2 hra
    have hWW : ∀ x ∈ W, x ∈ W' := by rw [htk]; exact addR_up
    simp -implicitDefEqProofs only [go_sem, Nat.reduceBEq, Nat.reduceAdd, eq_self, true_and, and_true, and_self, List.getElem?_cons_zero, List.getElem?_cons_succ, Nat.reduceLeDiff, Nat.zero_add, Nat.reduceSub, Nat.le_refl, hj, flats, V.flat]
    cases hw0 : decide (whyR W 4096 g = 0)
    · simp -implicitDefEqProofs only [go_sem, Nat.reduceBEq, Nat.reduceAdd, eq_self, true_and, and_true, and_self, List.getElem?_cons_zero, List.getElem?_cons_succ, Nat.reduceLeDiff, Nat.zero_add, Nat.reduceSub, Nat.le_refl, hw0, Bool.not_false]
      refine y1 _ _ _ (.inr ?_) ⟨_, rfl, hu', sa, ova, Pa, sb, ovb, Pb, ga3, gb3, gd, gsa.grow hWW, gsb.grow hWW⟩
      simp -implicitDefEqProofs only [go_sem, Nat.reduceBEq, Nat.reduceAdd, eq_self, true_and, and_true, and_self, List.getElem?_cons_zero, List.getElem?_cons_succ, Nat.reduceLeDiff, Nat.zero_add, Nat.reduceSub, Nat.le_refl, Nat.lt_irrefl]
      try exact ⟨rfl, rfl⟩
      try exact rfl
    have hgW : g ∈ W' := by rw [htk]; exact addR_new (of_decide_eq_true hw0)
    simp -implicitDefEqProofs only [go_sem, Nat.reduceBEq, Nat.reduceAdd, eq_self, true_and, and_true, and_self, List.getElem?_cons_zero, List.getElem?_cons_succ, Nat.reduceLeDiff, Nat.zero_add, Nat.reduceSub, Nat.le_refl, hw0, Bool.not_true]
    refine cut_at (fun G τ => ∃ sa ova Pa sb ovb Pb, RdC τ (.sl b7 R7 z7 es7) W' ∧ LogIs τ ia (some ma) sa ova 4096 Pa ∧ LogIs τ ib (some mb) sb ovb 4096 Pb ∧ (∀ j, Own ia (some ma) sa ova j → ¬ Own ib (some mb) sb ovb j) ∧ SubL W' (cgL Pa) ∧ SubL W (cgL Pb) ∧ G = ⟨[(1, .v (.int .i64 most)), (2, .loc 2 0), (5, .v (.ptr (some (ia, 0)))), (7, .v (.ptr (some (ib, 0)))), (9, .loc 9 0), (10, .v (.int .i64 ((y : Nat) : Int)))], [(2, [.sl b R z (cgsV l), .sl wb wR wz (boolsV bs)]), (9, [.int .i64 4096, .sl b7 R7 z7 es7])]⟩) ?_ ?_
    · intro X x1 x2 x3
      have hno : X .normal = X .normal := rfl
      have had := add_ok ga3 (by omega) (hdi τ3) (by omega)
      simp only [cgV, cgC] at had
      obtain ⟨k3, k4⟩ := rdl (hva τ3) (cgsV_ne hi)
      cases hyb : decide ((y : Int) ≥ bs.length)
      case true =>
        simp -implicitDefEqProofs only [go_sem, Nat.reduceBEq, Nat.reduceAdd, eq_self, true_and, and_true, and_self, List.getElem?_cons_zero, List.getElem?_cons_succ, Nat.reduceLeDiff, Nat.zero_add, Nat.reduceSub, Nat.le_refl, hbl, hyb, hget, cgC, hcl]
        refine ⟨⟨by omega, by omega, k4⟩, k3, ?_⟩
        refine call_at had ?_
        rintro w τ4 ⟨rfl, s1, ov1, P1, h1, hP1, kt, -⟩
        refine ⟨kept_none, ?_⟩
        obtain ⟨m1, m2⟩ := two_step ga3 gb3 gd kt
        simp -implicitDefEqProofs only [go_sem, Nat.reduceBEq, Nat.reduceAdd, eq_self, true_and, and_true, and_self, List.getElem?_cons_zero, List.getElem?_cons_succ, Nat.reduceLeDiff, Nat.zero_add, Nat.reduceSub, Nat.le_refl, Nat.lt_irrefl]
        refine x1 _ _ _ (.inr ?_) ⟨s1, ov1, P1, sb, ovb, Pb, ?_, h1, m1, m2, by rw [hP1]; exact (gsa.grow hWW).add hgW, gsb, rfl⟩
        · simp -implicitDefEqProofs only [go_sem, Nat.reduceBEq, Nat.reduceAdd, eq_self, true_and, and_true, and_self, List.getElem?_cons_zero, List.getElem?_cons_succ, Nat.reduceLeDiff, Nat.zero_add, Nat.reduceSub, Nat.le_refl, Nat.lt_irrefl]
          try exact ⟨rfl, rfl⟩
          try exact rfl
        · obtain ⟨l', m1, m2, m3⟩ := hu'; exact ⟨l', m1, rdS_up m2 kt.upd, fun p hp => rdS_up (m3 p hp) kt.upd⟩
      case false =>
        have hyi : y < bs.length := by have := of_decide_eq_false hyb; omega
        have hgb' := boolsV_get hyi
        obtain ⟨k5, k6⟩ := rdl (hw τ3) (boolsV_ne hyi)
        cases hbb : bs[y] <;> rw [hbb] at hgb'
        · simp -implicitDefEqProofs only [go_sem, Nat.reduceBEq, Nat.reduceAdd, eq_self, true_and, and_true, and_self, List.getElem?_cons_zero, List.getElem?_cons_succ, Nat.reduceLeDiff, Nat.zero_add, Nat.reduceSub, Nat.le_refl, hbl, hyb, hgb', hget, cgC, hcl]
          refine ⟨⟨by omega, by omega, k6⟩, k5, ?_⟩
          refine x1 _ _ _ (.inr ?_) ⟨sa, ova, Pa, sb, ovb, Pb, hu', ga3, gb3, gd, gsa.grow hWW, gsb, rfl⟩
          simp -implicitDefEqProofs only [go_sem, Nat.reduceBEq, Nat.reduceAdd, eq_self, true_and, and_true, and_self, List.getElem?_cons_zero, List.getElem?_cons_succ, Nat.reduceLeDiff, Nat.zero_add, Nat.reduceSub, Nat.le_refl, Nat.lt_irrefl]
          try exact ⟨rfl, rfl⟩
          try exact rfl
        · simp -implicitDefEqProofs only [go_sem, Nat.reduceBEq, Nat.reduceAdd, eq_self, true_and, and_true, and_self, List.getElem?_cons_zero, List.getElem?_cons_succ, Nat.reduceLeDiff, Nat.zero_add, Nat.reduceSub, Nat.le_refl, hbl, hyb, hgb', hget, cgC, hcl]
          refine ⟨⟨by omega, by omega, k6⟩, k5, ⟨by omega, by omega, k4⟩, k3, ?_⟩
          refine call_at had ?_
          rintro w τ4 ⟨rfl, s1, ov1, P1, h1, hP1, kt, -⟩
          refine ⟨kept_none, ?_⟩
          obtain ⟨m1, m2⟩ := two_step ga3 gb3 gd kt
          simp -implicitDefEqProofs only [go_sem, Nat.reduceBEq, Nat.reduceAdd, eq_self, true_and, and_true, and_self, List.getElem?_cons_zero, List.getElem?_cons_succ, Nat.reduceLeDiff, Nat.zero_add, Nat.reduceSub, Nat.le_refl, Nat.lt_irrefl]
          refine x1 _ _ _ (.inr ?_) ⟨s1, ov1, P1, sb, ovb, Pb, ?_, h1, m1, m2, by rw [hP1]; exact (gsa.grow hWW).add hgW, gsb, rfl⟩
          · simp -implicitDefEqProofs only [go_sem, Nat.reduceBEq, Nat.reduceAdd, eq_self, true_and, and_true, and_self, List.getElem?_cons_zero, List.getElem?_cons_succ, Nat.reduceLeDiff, Nat.zero_add, Nat.reduceSub, Nat.le_refl, Nat.lt_irrefl]
            try exact ⟨rfl, rfl⟩
            try exact rfl
          · obtain ⟨l', m1, m2, m3⟩ := hu'; exact ⟨l', m1, rdS_up m2 kt.upd, fun p hp => rdS_up (m3 p hp) kt.upd⟩
    rintro G τ4 ⟨sa4, ova4, Pa4, sb4, ovb4, Pb4, hu4, ga4, gb4, gd4, gsa4, gsb4, rfl⟩
    have hPb4l : Pb4.length ≤ 4096 := by
      have := (part_of hgd gsb4.good gsb4.up).len
      rw [map2_len] at this
      omega
    have had := add_ok gb4 (by omega) (hdi τ4) (by omega)
    simp only [cgV, cgC] at had
    obtain ⟨k3, k4⟩ := rdl (hva τ4) (cgsV_ne hi)
    have hgd4 : ∀ j, Own ib (some mb) sb4 ovb4 j → ¬ Own ia (some ma) sa4 ova4 j := fun j h1 h2 => gd4 j h2 h1
    cases hyb : decide ((y : Int) ≥ bs.length)
    case true =>
      simp -implicitDefEqProofs only [go_sem, Nat.reduceBEq, Nat.reduceAdd, eq_self, true_and, and_true, and_self, List.getElem?_cons_zero, List.getElem?_cons_succ, Nat.reduceLeDiff, Nat.zero_add, Nat.reduceSub, Nat.le_refl, hbl, hyb, hget, cgC, hcl]
      refine ⟨⟨by omega, by omega, k4⟩, k3, ?_⟩
      refine call_at had ?_
      rintro w τ5 ⟨rfl, s1, ov1, P1, h1, hP1, kt, -⟩
      refine ⟨kept_none, ?_⟩
      obtain ⟨m1, m2⟩ := two_step gb4 ga4 hgd4 kt
      simp -implicitDefEqProofs only [go_sem, Nat.reduceBEq, Nat.reduceAdd, eq_self, true_and, and_true, and_self, List.getElem?_cons_zero, List.getElem?_cons_succ, Nat.reduceLeDiff, Nat.zero_add, Nat.reduceSub, Nat.le_refl, Nat.lt_irrefl]
      refine y1 _ _ _ (.inr ?_) ⟨.sl b7 R7 z7 es7, rfl, ?_, sa4, ova4, Pa4, s1, ov1, P1, m1, h1, fun j h1 h2 => m2 j h2 h1, gsa4, by rw [hP1]; exact (gsb4.grow hWW).add hgW⟩
      · simp -implicitDefEqProofs only [go_sem, Nat.reduceBEq, Nat.reduceAdd, eq_self, true_and, and_true, and_self, List.getElem?_cons_zero, List.getElem?_cons_succ, Nat.reduceLeDiff, Nat.zero_add, Nat.reduceSub, Nat.le_refl, Nat.lt_irrefl]
        try exact ⟨rfl, rfl⟩
        try exact rfl
      · obtain ⟨l', m1, m2, m3⟩ := hu4; exact ⟨l', m1, rdS_up m2 kt.upd, fun p hp => rdS_up (m3 p hp) kt.upd⟩
    case false =>
      have hyi : y < bs.length := by have := of_decide_eq_false hyb; omega
      have hgb' := boolsV_get hyi
      obtain ⟨k5, k6⟩ := rdl (hw τ4) (boolsV_ne hyi)
      cases hbb : bs[y] <;> rw [hbb] at hgb'
      · simp -implicitDefEqProofs only [go_sem, Nat.reduceBEq, Nat.reduceAdd, eq_self, true_and, and_true, and_self, List.getElem?_cons_zero, List.getElem?_cons_succ, Nat.reduceLeDiff, Nat.zero_add, Nat.reduceSub, Nat.le_refl, hbl, hyb, hgb', hget, cgC, hcl, Bool.not_false]
        refine ⟨⟨by omega, by omega, k6⟩, k5, ⟨by omega, by omega, k4⟩, k3, ?_⟩
        refine call_at had ?_
        rintro w τ5 ⟨rfl, s1, ov1, P1, h1, hP1, kt, -⟩
        refine ⟨kept_none, ?_⟩
        obtain ⟨m1, m2⟩ := two_step gb4 ga4 hgd4 kt
        simp -implicitDefEqProofs only [go_sem, Nat.reduceBEq, Nat.reduceAdd, eq_self, true_and, and_true, and_self, List.getElem?_cons_zero, List.getElem?_cons_succ, Nat.reduceLeDiff, Nat.zero_add, Nat.reduceSub, Nat.le_refl, Nat.lt_irrefl]
        refine y1 _ _ _ (.inr ?_) ⟨.sl b7 R7 z7 es7, rfl, ?_, sa4, ova4, Pa4, s1, ov1, P1, m1, h1, fun j h1 h2 => m2 j h2 h1, gsa4, by rw [hP1]; exact (gsb4.grow hWW).add hgW⟩
        · simp -implicitDefEqProofs only [go_sem, Nat.reduceBEq, Nat.reduceAdd, eq_self, true_and, and_true, and_self, List.getElem?_cons_zero, List.getElem?_cons_succ, Nat.reduceLeDiff, Nat.zero_add, Nat.reduceSub, Nat.le_refl, Nat.lt_irrefl]
          try exact ⟨rfl, rfl⟩
          try exact rfl
        · obtain ⟨l', m1, m2, m3⟩ := hu4; exact ⟨l', m1, rdS_up m2 kt.upd, fun p hp => rdS_up (m3 p hp) kt.upd⟩
      · simp -implicitDefEqProofs only [go_sem, Nat.reduceBEq, Nat.reduceAdd, eq_self, true_and, and_true, and_self, List.getElem?_cons_zero, List.getElem?_cons_succ, Nat.reduceLeDiff, Nat.zero_add, Nat.reduceSub, Nat.le_refl, hbl, hyb, hgb', hget, cgC, hcl, Bool.not_true]
        refine ⟨⟨by omega, by omega, k6⟩, k5, ?_⟩
        refine y1 _ _ _ (.inr ?_) ⟨_, rfl, hu4, sa4, ova4, Pa4, sb4, ovb4, Pb4, ga4, gb4, gd4, gsa4, gsb4.grow hWW⟩
        simp -implicitDefEqProofs only [go_sem, Nat.reduceBEq, Nat.reduceAdd, eq_self, true_and, and_true, and_self, List.getElem?_cons_zero, List.getElem?_cons_succ, Nat.reduceLeDiff, Nat.zero_add, Nat.reduceSub, Nat.le_refl, Nat.lt_irrefl]
        try exact ⟨rfl, rfl⟩
        try exact rfl
  simp -implicitDefEqProofs only [go_sem, Nat.reduceBEq, Nat.reduceAdd, eq_self, true_and, and_true, and_self, List.getElem?_cons_zero, List.getElem?_cons_succ, Nat.reduceLeDiff, Nat.zero_add, Nat.reduceSub, Nat.le_refl, hc]
  refine z2 _ _ _ ?_
  clear z1 z2 z3 g1
  have hWl5 : (logR ((l.map (·.2)).take y) 4096).length ≤ 4096 := hWl
  have hcla := logR_cla ((l.map (·.2)).take y) 4096
  have hWnm : ∀ g ∈ logR ((l.map (·.2)).take y) 4096, g.name.length < 1048576 := fun g hg => by
    have := hgb g (List.mem_of_mem_take (logR_mem hg))
    omega
  generalize logR ((l.map (·.2)).take y) 4096 = W at *
  -- both
  obtain ⟨mo, hmo1, hmo2⟩ := idx_9 most
  have hw1 : IntKind.i64.wrap (1 + (mo : Int)) = ((1 + mo : Nat) : Int) := by rw [i64_in _ (by omega)]; omega
  have hn9 : ¬ IntKind.u64.wrap 9 = 0 := by rw [u64w]; decide
  simp -implicitDefEqProofs only [go_sem, Nat.reduceBEq, Nat.reduceAdd, eq_self, true_and, and_true, and_self, List.getElem?_cons_zero, List.getElem?_cons_succ, Nat.reduceLeDiff, Nat.zero_add, Nat.reduceSub, Nat.le_refl, hmo2, hw1]
  try refine ⟨by decide, ?_⟩
  have hUg := uni_good hgd gsa gsb
  have hUc := uni_cla gsa gsb
  have hUm := fun x => uni_mem (x := x) gsa gsb
  have hUl : (uni W (cgL Pa) (cgL Pb)).length ≤ W.length := uni_len
  generalize uni W (cgL Pa) (cgL Pb) = U at *
  have hUd : ∀ h ∈ U, h.deps.length ≤ 2000000 := fun h hh => by have := hUg.deps h hh; omega
  have hUW : ∀ x ∈ U, x ∈ W := fun x hx => ((hUm x).1 hx).elim (gsa.up x) (gsb.up x)
  refine call_at (all_ok gb (by omega)) ?_
  rintro w τ3 ⟨n1, e3⟩
  refine ⟨kept_none, ?_⟩
  have n1' := n1.rd
  obtain ⟨b3, R3, z3', es3, rfl⟩ := n1'.isSl
  simp -implicitDefEqProofs only [go_sem, Nat.reduceBEq, Nat.reduceAdd, eq_self, true_and, and_true, and_self, List.getElem?_cons_zero, List.getElem?_cons_succ, Nat.reduceLeDiff, Nat.zero_add, Nat.reduceSub, Nat.le_refl, flats, V.flat]
  refine call_at (all_ok (ga.ext e3) (by omega)) ?_
  rintro w τ4 ⟨n2, e4⟩
  refine ⟨kept_none, ?_⟩
  have e34 := e3.trans e4
  have ga4 := ga.ext e34
  have gb4 := gb.ext e34
  obtain ⟨lA, hlA, hvA, hdA⟩ := n2.rd
  obtain ⟨b4, R4, z4', rfl, -, -⟩ := id hvA
  have hcA := cgsV_len lA
  have hlAl : lA.length ≤ 4096 := by
    have := congrArg List.length hlA
    rw [map2_len, map2_len] at this
    omega
  have hgo := go_in (room := 4096) (D := cgL Pa) hUg hUc (by omega) gsb.good (fun x hx => (hUm x).2 (.inr hx)) gsa.good.srt (fun x hx => (hUm x).2 (.inl hx)) (fun x hx => ((hUm x).1 hx).symm)
  rw [← hlA] at hgo
  clear ga gb g2 n1 n2
  simp -implicitDefEqProofs only [go_sem, Nat.reduceBEq, Nat.reduceAdd, eq_self, true_and, and_true, and_self, List.getElem?_cons_zero, List.getElem?_cons_succ, Nat.reduceLeDiff, Nat.zero_add, Nat.reduceSub, Nat.le_refl, Nat.lt_irrefl]
  refine loop_at (fun (y : Nat × V) => ⟨[(1, .v (.int .i64 ((1 + mo : Nat) : Int))), (5, .v (.ptr (some (ia, 0)))), (7, .v (.ptr (some (ib, 0)))), (13, .loc 13 0), (14, .v (.sl b4 R4 z4' (cgsV lA))), (15, .v (.int .i64 ((y.1 : Nat) : Int)))], [(13, [.int .i64 4096, y.2])]⟩)
    (fun y t => y.1 ≤ lA.length ∧ Ext τ4 t ∧ RdC t y.2 (((lA.map (·.2)).take y.1).foldl (fun L g => addR L 4096 g) (cgL Pb))) (fun y => lA.length - y.1) (0, .sl b3 R3 z3' es3) ?_ ?_ ?_
  · refine .inr ?_
    simp -implicitDefEqProofs only [go_sem, Nat.reduceBEq, Nat.reduceAdd, eq_self, true_and, and_true, and_self, List.getElem?_cons_zero, List.getElem?_cons_succ, Nat.reduceLeDiff, Nat.zero_add, Nat.reduceSub, Nat.le_refl, Nat.lt_irrefl]
    try exact ⟨rfl, rfl⟩
    try exact rfl
  · exact ⟨Nat.zero_le _, .refl _, by simpa using n1'.ext e4⟩
  rintro ⟨x, u⟩ t2 ⟨f1, f2, f3⟩ Z z1 z2 z3
  simp only at f1 f3
  simp -implicitDefEqProofs only [go_sem, Nat.reduceBEq, Nat.reduceAdd, eq_self, true_and, and_true, and_self, List.getElem?_cons_zero, List.getElem?_cons_succ, Nat.reduceLeDiff, Nat.zero_add, Nat.reduceSub, Nat.le_refl, hcA]
  cases hcx : decide ((x : Int) < lA.length)
  case true =>
    have hi : x < lA.length := by have := of_decide_eq_true hcx; omega
    have hget := cgsV_get hi
    have hwx : IntKind.i64.wrap ((x : Int) + 1) = ((x + 1 : Nat) : Int) := by rw [i64_in _ (by omega)]; omega
    obtain ⟨k1, k2⟩ := rdl (hvA.ext f2) (cgsV_ne hi)
    have hdi := (hdA.ext f2) _ (List.getElem_mem hi)
    obtain ⟨a1, a2, -⟩ := hgo x (by rw [map2_len]; omega)
    have hgU : l[0]?.isSome = l[0]?.isSome := rfl
    have hpU : lA[x].2 ∈ U := (hUm _).2 (.inl (by rw [← hlA]; exact List.mem_map_of_mem (List.getElem_mem hi)))
    have htk : ((lA.map (·.2)).take (x + 1)).foldl (fun L g => addR L 4096 g) (cgL Pb) = addR (((lA.map (·.2)).take x).foldl (fun L g => addR L 4096 g) (cgL Pb)) 4096 lA[x].2 := by
      rw [List.take_succ_eq_append_getElem (by rw [map2_len]; exact hi), List.foldl_append]; simp
    generalize lA[x] = p at hget htk hdi hpU
    obtain ⟨d2, g⟩ := p
    simp only at hget htk hdi hpU
    have hupC : ∀ h ∈ ((lA.map (·.2)).take x).foldl (fun L g => addR L 4096 g) (cgL Pb), h ∈ U := fun h hh => ((a2 h).1 hh).elim (fun h' => (hUm h).2 (.inr h')) fun h' => (hUm h).2 (.inl (by rw [← hlA]; exact List.mem_of_mem_take h'))
    have hlC := (part_of hUg a1 hupC).len
    have hgnm := hWnm g (hUW g hpU)
    generalize hC : ((lA.map (·.2)).take x).foldl (fun L g => addR L 4096 g) (cgL Pb) = C at *
    obtain ⟨db, dr, dz, rfl, -, -⟩ := id hdi
    have hra := radd_ok (room := 4096) (d := .sl db dr dz (intsV .i64 g.deps)) (g := g) f3 (by omega) hdi (hUd g hpU) (fun h hh => hUd h (hupC h hh)) (by omega)
    simp only [cgV, cgC] at hra
    simp -implicitDefEqProofs only [go_sem, Nat.reduceBEq, Nat.reduceAdd, eq_self, true_and, and_true, and_self, List.getElem?_cons_zero, List.getElem?_cons_succ, Nat.reduceLeDiff, Nat.zero_add, Nat.reduceSub, Nat.le_refl, hcx, hcA, hget, cgC]
    refine ⟨⟨by omega, by omega, k2⟩, k1, ?_⟩
    refine call_at hra ?_
    rintro w t3 ⟨⟨u2, rfl, hu2⟩, e5, -⟩
    refine ⟨e5.kept, ?_⟩
    obtain ⟨b5, R5, z5, es5, rfl⟩ := hu2.isSl
    simp -implicitDefEqProofs only [go_sem, Nat.reduceBEq, Nat.reduceAdd, eq_self, true_and, and_true, and_self, List.getElem?_cons_zero, List.getElem?_cons_succ, Nat.reduceLeDiff, Nat.zero_add, Nat.reduceSub, Nat.le_refl, hwx, flats, V.flat]
    refine z1 (x + 1, _) _ _ (.inr ?_) (by simp only; omega) ⟨by simp only; omega, f2.trans e5, by simp only; rw [htk]; exact hu2⟩
    simp -implicitDefEqProofs only [go_sem, Nat.reduceBEq, Nat.reduceAdd, eq_self, true_and, and_true, and_self, List.getElem?_cons_zero, List.getElem?_cons_succ, Nat.reduceLeDiff, Nat.zero_add, Nat.reduceSub, Nat.le_refl, Nat.lt_irrefl]
    try exact ⟨rfl, rfl⟩
    try exact rfl
  have hx : x = lA.length := by have := of_decide_eq_false hcx; omega
  rw [List.take_of_length_le (by rw [map2_len]; omega)] at f3
  obtain ⟨hFg, hFm, -⟩ := hgo lA.length (by rw [map2_len]; omega)
  rw [List.take_of_length_le (by rw [map2_len]; omega)] at hFg hFm
  generalize (lA.map (·.2)).foldl (fun L g => addR L 4096 g) (cgL Pb) = Fin at f3 hFg hFm
  simp -implicitDefEqProofs only [go_sem, Nat.reduceBEq, Nat.reduceAdd, eq_self, true_and, and_true, and_self, List.getElem?_cons_zero, List.getElem?_cons_succ, Nat.reduceLeDiff, Nat.zero_add, Nat.reduceSub, Nat.le_refl, hcx]
  refine z2 _ _ _ ?_
  clear z1 z2 z3 hgo
  have ga5 := ga4.ext f2
  have gb5 := gb4.ext f2
  clear ga4 gb4 hvA hdA n1' f2
  have hPaU : ∀ x ∈ cgL Pa, x ∈ U := fun x hx => (hUm x).2 (.inl hx)
  have hPbU : ∀ x ∈ cgL Pb, x ∈ U := fun x hx => (hUm x).2 (.inr hx)
  simp -implicitDefEqProofs only [go_sem, Nat.reduceBEq, Nat.reduceAdd, eq_self, true_and, and_true, and_self, List.getElem?_cons_zero, List.getElem?_cons_succ, Nat.reduceLeDiff, Nat.zero_add, Nat.reduceSub, Nat.le_refl, Nat.lt_irrefl]
  refine call_at (pclock_ok ga5) ?_
  rintro w t3 ⟨⟨oa, za, ta, ra⟩, e6⟩
  refine ⟨kept_none, ?_⟩
  simp -implicitDefEqProofs only [go_sem, Nat.reduceBEq, Nat.reduceAdd, eq_self, true_and, and_true, and_self, List.getElem?_cons_zero, List.getElem?_cons_succ, Nat.reduceLeDiff, Nat.zero_add, Nat.reduceSub, Nat.le_refl, Nat.lt_irrefl]
  refine call_at (pclock_ok (gb5.ext e6)) ?_
  rintro w2 t4 ⟨⟨ob, zb, tb, rb⟩, e7⟩
  refine ⟨kept_none, ?_⟩
  simp -implicitDefEqProofs only [go_sem, Nat.reduceBEq, Nat.reduceAdd, eq_self, true_and, and_true, and_self, List.getElem?_cons_zero, List.getElem?_cons_succ, Nat.reduceLeDiff, Nat.zero_add, Nat.reduceSub, Nat.le_refl, Nat.lt_irrefl]
  refine call_at (rmerge_ok (ra.ext e7) rb (clock_right (by rw [map2_len]; omega) ta) (clock_right (by rw [map2_len]; omega) tb)) ?_
  rintro w3 t5 ⟨⟨wv, ow, zw, rfl, tw, rw'⟩, e8⟩
  refine ⟨kept_none, ?_⟩
  rw [mxs_uni gsa.good gsb.good hUg hUm ta tb] at tw
  have e68 := (e6.trans e7).trans e8
  have ga6 := ga5.ext e68
  have gb6 := gb5.ext e68
  have f6 := f3.ext e68
  clear ga5 gb5 f3 ta tb ra rb e6 e7 e8 e68
  have how : ow.length ≤ 64 := by
    have h1 := congrArg List.length tw.1
    rw [cnts_len, List.length_append] at h1
    omega
  simp -implicitDefEqProofs only [go_sem, Nat.reduceBEq, Nat.reduceAdd, eq_self, true_and, and_true, and_self, List.getElem?_cons_zero, List.getElem?_cons_succ, Nat.reduceLeDiff, Nat.zero_add, Nat.reduceSub, Nat.le_refl, Nat.lt_irrefl]
  refine loop_at (fun (x : Bool × List Cg) => ⟨[(1, .v (.int .i64 ((1 + mo : Nat) : Int))), (5, .v (.ptr (some (ia, 0)))), (7, .v (.ptr (some (ib, 0)))), (13, .loc 13 0), (16, .v wv), (18, .v (.bool x.1))], [(13, [.int .i64 4096, u])]⟩)
    (fun x t => RdC t u Fin ∧ RdS t wv 1 (intsV .i64 ow) ∧ LogIs t ia (some ma) sa ova 4096 Pa ∧ ∃ sb ovb Pb', LogIs t ib (some mb) sb ovb 4096 Pb' ∧ cgL Pb' = x.2 ∧ (∀ j, Own ia (some ma) sa ova j → ¬ Own ib (some mb) sb ovb j) ∧ (∀ y ∈ x.2, y ∈ U) ∧ (∀ y ∈ cgL Pb, y ∈ x.2) ∧ (x.1 = false → ∀ y ∈ cgL Pa, y ∈ x.2))
    (fun x => (bif x.1 then 1 else 0) + (U.length - x.2.length)) (true, cgL Pb) ?_ ?_ ?_
  · refine .inr ?_
    simp -implicitDefEqProofs only [go_sem, Nat.reduceBEq, Nat.reduceAdd, eq_self, true_and, and_true, and_self, List.getElem?_cons_zero, List.getElem?_cons_succ, Nat.reduceLeDiff, Nat.zero_add, Nat.reduceSub, Nat.le_refl, Nat.lt_irrefl]
    try exact ⟨rfl, rfl⟩
    try exact rfl
  · exact ⟨f6, rw', ga6, _, _, Pb, gb6, rfl, gd, hPbU, fun y h => h, fun h => by cases h⟩
  clear ga6 gb6 f6 rw' gd
  rintro ⟨more, Zc⟩ t6 ⟨f6, fw, ga6, sb6, ovb6, Pb6, gb6, hZc, gd6, hup, hBZ, hAZ⟩ Z z1 z2 z3
  simp only at hZc hup hBZ hAZ
  subst hZc
  obtain ⟨b8, R8, z8, es8, rfl⟩ := f6.isSl
  have hpU := part_of hUg gb6.good hup
  have hPb6 : Pb6.length ≤ 4096 := by
    have := hpU.len
    rw [map2_len] at this
    omega
  cases more
  case false =>
    have hZU : cgL Pb6 = Fin := srt_uniqC gb6.good.srt hFg.srt fun x => by
      rw [hFm x]
      constructor
      · intro hx
        rcases (hUm x).1 (hup x hx) with h | h
        · exact .inr (by rw [hlA]; exact h)
        · exact .inl h
      · rintro (h | h)
        · exact hBZ x h
        · exact hAZ rfl x (by rw [← hlA]; exact h)
    have hZU2 : cgL Pb6 = U := srt_uniqC gb6.good.srt hUg.srt fun x => ⟨hup x, fun hx => ((hUm x).1 hx).elim (hAZ rfl x) (hBZ x)⟩
    simp -implicitDefEqProofs only [go_sem, Nat.reduceBEq, Nat.reduceAdd, eq_self, true_and, and_true, and_self, List.getElem?_cons_zero, List.getElem?_cons_succ, Nat.reduceLeDiff, Nat.zero_add, Nat.reduceSub, Nat.le_refl, Nat.lt_irrefl]
    refine z2 _ _ _ ?_
    simp -implicitDefEqProofs only [go_sem, Nat.reduceBEq, Nat.reduceAdd, eq_self, true_and, and_true, and_self, List.getElem?_cons_zero, List.getElem?_cons_succ, Nat.reduceLeDiff, Nat.zero_add, Nat.reduceSub, Nat.le_refl, Nat.lt_irrefl]
    refine call_at (all_ok gb6 (by omega)) ?_
    rintro w t7 ⟨n7, e7⟩
    refine ⟨e7.kept, ?_⟩
    simp -implicitDefEqProofs only [go_sem, Nat.reduceBEq, Nat.reduceAdd, eq_self, true_and, and_true, and_self, List.getElem?_cons_zero, List.getElem?_cons_succ, Nat.reduceLeDiff, Nat.zero_add, Nat.reduceSub, Nat.le_refl, Nat.lt_irrefl]
    refine call_at (sameAll_ok n7.rd (f6.ext e7) (by rw [map2_len]; omega) fun g hg => by have := gb6.good.deps g hg; omega) ?_
    rintro w t8 ⟨hτ, rfl⟩
    have hτ := hτ.symm
    subst hτ
    refine ⟨(Ext.refl _).kept, ?_⟩
    rw [hZU, show decide (Fin = Fin) = true from decide_eq_true rfl]
    simp -implicitDefEqProofs only [go_sem, Nat.reduceBEq, Nat.reduceAdd, eq_self, true_and, and_true, and_self, List.getElem?_cons_zero, List.getElem?_cons_succ, Nat.reduceLeDiff, Nat.zero_add, Nat.reduceSub, Nat.le_refl, Nat.lt_irrefl]
    refine call_at (pclock_ok (gb6.ext e7)) ?_
    rintro w t8 ⟨⟨o8, z8', t8', r8⟩, e8⟩
    refine ⟨e8.kept, ?_⟩
    rw [hZU2] at t8'
    have ho8 := t8'.uniq tw
    subst ho8
    simp -implicitDefEqProofs only [go_sem, Nat.reduceBEq, Nat.reduceAdd, eq_self, true_and, and_true, and_self, List.getElem?_cons_zero, List.getElem?_cons_succ, Nat.reduceLeDiff, Nat.zero_add, Nat.reduceSub, Nat.le_refl, Nat.lt_irrefl]
    refine call_at (rsame_ok r8 ((fw.ext e7).ext e8) (by omega)) ?_
    rintro w t9 ⟨hτ, rfl⟩
    have hτ := hτ.symm
    subst hτ
    refine ⟨(Ext.refl _).kept, ?_⟩
    rw [show decide (o8 = o8) = true from decide_eq_true rfl]
    simp -implicitDefEqProofs only [go_sem, Nat.reduceBEq, Nat.reduceAdd, eq_self, true_and, and_true, and_self, List.getElem?_cons_zero, List.getElem?_cons_succ, Nat.reduceLeDiff, Nat.zero_add, Nat.reduceSub, Nat.le_refl, Nat.lt_irrefl]
    refine call_at awake_ok ?_
    rintro w t9 ⟨rfl, e9⟩
    refine ⟨e9.kept, ?_⟩
    simp -implicitDefEqProofs only [go_sem, Nat.reduceBEq, Nat.reduceAdd, eq_self, true_and, and_true, and_self, List.getElem?_cons_zero, List.getElem?_cons_succ, Nat.reduceLeDiff, Nat.zero_add, Nat.reduceSub, Nat.le_refl, Nat.lt_irrefl]
    refine q2 _ _ ?_
    simp -implicitDefEqProofs only [go_sem, Nat.reduceBEq, Nat.reduceAdd, eq_self, true_and, and_true, and_self, List.getElem?_cons_zero, List.getElem?_cons_succ, Nat.reduceLeDiff, Nat.zero_add, Nat.reduceSub, Nat.le_refl, Nat.lt_irrefl]
  simp -implicitDefEqProofs only [go_sem, Nat.reduceBEq, Nat.reduceAdd, eq_self, true_and, and_true, and_self, List.getElem?_cons_zero, List.getElem?_cons_succ, Nat.reduceLeDiff, Nat.zero_add, Nat.reduceSub, Nat.le_refl, Nat.lt_irrefl]
  refine call_at (pclock_ok gb6) ?_
  rintro w t7 ⟨⟨o7, z7, t7', r7⟩, e7⟩
  refine ⟨kept_none, ?_⟩
  have hc7 := clock_right (by rw [map2_len]; omega) t7'
  have hlk := lack hUg hPaU gb6.good hup t7'
  have hsI : sinceI o7 ((1 + mo : Nat) : Int) = 0 := by
    unfold sinceI
    rw [hc7, show decide (((1 + mo : Nat) : Int) < 1) = false by rw [decide_eq_false_iff_not]; omega]
    rfl
  have hsin := psince_ok (σ := t7) (p := .ptr (some (ia, 0))) (kv := w) (L := (cgL Pa).filter fun x => !decide (x ∈ cgL Pb6)) (k := o7) (most := ((1 + mo : Nat) : Int)) (fun hc τ' he => by
    have := each_ok ((ga6.ext e7).ext he) (by omega) (r7.ext he)
    unfold eachL at this
    rw [hc, hlk] at this
    exact this) (by have := List.length_filter_le (fun x => !decide (x ∈ cgL Pb6)) (cgL Pa); rw [map2_len] at this; omega) (fun g hg => hUd g (hPaU g (List.mem_filter.1 hg).1)) r7
  generalize hD : (cgL Pa).filter (fun x => !decide (x ∈ cgL Pb6)) = D at *
  have hDs : Srt D := by rw [← hD]; exact gsa.good.srt.filter _
  have hDU : ∀ x ∈ D, x ∈ U := fun x hx => hPaU x (by rw [← hD] at hx; exact (List.mem_filter.1 hx).1)
  have hDn : ∀ x ∈ D, x ∉ cgL Pb6 := fun x hx => by
    rw [← hD] at hx
    have := (List.mem_filter.1 hx).2
    simpa using this
  have hDl : D.length ≤ 4096 := by
    rw [← hD]
    have := List.length_filter_le (fun x => !decide (x ∈ cgL Pb6)) (cgL Pa)
    rw [map2_len] at this
    omega
  have hgo := go_in (room := 4096) (D := D) hUg hUc (by omega) gb6.good hup hDs hDU (fun x hx => by
    rcases (hUm x).1 hx with h | h
    · by_cases hz : x ∈ cgL Pb6
      · exact .inl hz
      · exact .inr (by rw [← hD]; exact List.mem_filter.2 ⟨h, by simp [hz]⟩)
    · exact .inl (hBZ x h))
  simp -implicitDefEqProofs only [go_sem, Nat.reduceBEq, Nat.reduceAdd, eq_self, true_and, and_true, and_self, List.getElem?_cons_zero, List.getElem?_cons_succ, Nat.reduceLeDiff, Nat.zero_add, Nat.reduceSub, Nat.le_refl, Nat.lt_irrefl]
  refine call_at hsin ?_
  rintro w8 t8 ⟨⟨lv, rfl, hlv⟩, e8⟩
  refine ⟨kept_none, ?_⟩
  unfold sinceQ sinceP at *
  rw [hsI] at hlv ⊢
  simp only [decide_true, cond_true, Bool.true_and, Int.toNat_natCast] at hlv ⊢
  have hlv2 := hlv.rd
  have e78 := e7.trans e8
  obtain ⟨bl, Rl, zl, esl, rfl⟩ := hlv2.isSl
  have hesl : esl.length = (D.take (1 + mo)).length := by
    obtain ⟨l', x1, ⟨_, _, _, x2, -, -⟩, -⟩ := hlv2
    cases x2
    rw [cgsV_len, ← map2_len, x1]
  have hn2 : (D.take (1 + mo)).length = min (1 + mo) D.length := List.length_take ..
  generalize hn : (D.take (1 + mo)).length = n2 at hesl hn2
  have ga8 := ga6.ext e78
  have gb8 := gb6.ext e78
  have f8 := f6.ext e78
  have fw8 := fw.ext e78
  clear ga6 gb6 f6 fw hsin hlv e7 e8 e78 r7
  have hZlen := hpU.len
  have hfin : ∀ (i : Nat), i ≤ D.length → ((D.take i).foldl (fun L g => addR L 4096 g) (cgL Pb6)).length = (cgL Pb6).length + i := fun i => by
    induction i with
    | zero => intro _; simp
    | succ i ih =>
      intro hi
      have h1 := ih (by omega)
      obtain ⟨a1, a2, a3⟩ := hgo i (by omega)
      have hni : D[i] ∉ (D.take i).foldl (fun L g => addR L 4096 g) (cgL Pb6) := fun h => by
        rcases (a2 _).1 h with h | h
        · exact hDn _ (List.getElem_mem (by omega)) h
        · obtain ⟨j, hj, e⟩ := List.mem_take_iff_getElem.1 h
          have := List.pairwise_iff_getElem.1 hDs j i (by omega) (by omega) (by omega)
          rw [e, less_irr] at this; cases this
      rw [List.take_succ_eq_append_getElem (by omega), List.foldl_append]
      show (addR _ 4096 D[i]).length = _
      rw [addR_yes (a3 (by omega) hni), putC_len, h1]
      omega
  have hwi : ∀ (i : Nat) (hi : i < D.length), whyR ((D.take i).foldl (fun L g => addR L 4096 g) (cgL Pb6)) 4096 D[i] = 0 := fun i hi => by
    obtain ⟨a1, a2, a3⟩ := hgo i (by omega)
    refine a3 hi fun h => ?_
    rcases (a2 _).1 h with h | h
    · exact hDn _ (List.getElem_mem (by omega)) h
    · obtain ⟨j, hj, e⟩ := List.mem_take_iff_getElem.1 h
      have := List.pairwise_iff_getElem.1 hDs j i (by omega) (by omega) (by omega)
      rw [e, less_irr] at this; cases this
  cases hq : decide ((D.length : Int) > ((1 + mo : Nat) : Int))
  case' false =>
    have hqd := of_decide_eq_false hq
    simp -implicitDefEqProofs only [go_sem, Nat.reduceBEq, Nat.reduceAdd, eq_self, true_and, and_true, and_self, List.getElem?_cons_zero, List.getElem?_cons_succ, Nat.reduceLeDiff, Nat.zero_add, Nat.reduceSub, Nat.le_refl, h00, Bool.not_true]
  case' true =>
    have hqd := of_decide_eq_true hq
    have hn0 : decide ((n2 : Int) = 0) = false := by rw [decide_eq_false_iff_not]; omega
    simp -implicitDefEqProofs only [go_sem, Nat.reduceBEq, Nat.reduceAdd, eq_self, true_and, and_true, and_self, List.getElem?_cons_zero, List.getElem?_cons_succ, Nat.reduceLeDiff, Nat.zero_add, Nat.reduceSub, Nat.le_refl, h00, Bool.not_true, hesl, hn0]
  all_goals
    refine loop_at (fun (y : Nat) => ⟨[(1, .v (.int .i64 ((1 + mo : Nat) : Int))), (5, .v (.ptr (some (ia, 0)))), (7, .v (.ptr (some (ib, 0)))), (13, .loc 13 0), (16, .v wv), (18, .v (.bool (decide ((D.length : Int) > ((1 + mo : Nat) : Int))))), (19, .v (.sl bl Rl zl esl)), (22, .v (.int .i64 ((y : Nat) : Int)))], [(13, [.int .i64 4096, .sl b8 R8 z8 es8])]⟩)
      (fun y t => y ≤ n2 ∧ RdC t (.sl b8 R8 z8 es8) Fin ∧ RdS t wv 1 (intsV .i64 ow) ∧ RdC t (.sl bl Rl zl esl) (D.take (1 + mo)) ∧ LogIs t ia (some ma) sa ova 4096 Pa ∧ ∃ sb ovb Pb', LogIs t ib (some mb) sb ovb 4096 Pb' ∧ cgL Pb' = (D.take y).foldl (fun L g => addR L 4096 g) (cgL Pb6) ∧ (∀ j, Own ia (some ma) sa ova j → ¬ Own ib (some mb) sb ovb j)) (fun y => n2 - y) 0 ?_ ?_ ?_
    · refine .inr ?_
      simp -implicitDefEqProofs only [go_sem, Nat.reduceBEq, Nat.reduceAdd, eq_self, true_and, and_true, and_self, List.getElem?_cons_zero, List.getElem?_cons_succ, Nat.reduceLeDiff, Nat.zero_add, Nat.reduceSub, Nat.le_refl, hq]
      try exact ⟨rfl, rfl⟩
      try exact rfl
    · exact ⟨Nat.zero_le _, f8, fw8, hlv2.ext (.refl _), ga8, sb6, ovb6, Pb6, gb8, rfl, gd6⟩
    rintro y t9 ⟨k1, k2, k3, k4, k5, sb9, ovb9, Pb9, k6, k7, k8⟩ X x1 x2 x3
    have hD9 := hfin y (by omega)
    obtain ⟨c1, c2, -⟩ := hgo y (by omega)
    have hup9 : ∀ x ∈ (D.take y).foldl (fun L g => addR L 4096 g) (cgL Pb6), x ∈ U := fun x hx => ((c2 x).1 hx).elim (hup x) fun h => hDU x (List.mem_of_mem_take h)
    have hlen9 := (part_of hUg c1 hup9).len
    simp -implicitDefEqProofs only [go_sem, Nat.reduceBEq, Nat.reduceAdd, eq_self, true_and, and_true, and_self, List.getElem?_cons_zero, List.getElem?_cons_succ, Nat.reduceLeDiff, Nat.zero_add, Nat.reduceSub, Nat.le_refl, hesl]
    cases hcy : decide ((y : Int) < n2)
    · have hy : y = n2 := by have := of_decide_eq_false hcy; omega
      simp -implicitDefEqProofs only [go_sem, Nat.reduceBEq, Nat.reduceAdd, eq_self, true_and, and_true, and_self, List.getElem?_cons_zero, List.getElem?_cons_succ, Nat.reduceLeDiff, Nat.zero_add, Nat.reduceSub, Nat.le_refl, hcy]
      refine x2 _ _ _ ?_
      simp -implicitDefEqProofs only [go_sem, Nat.reduceBEq, Nat.reduceAdd, eq_self, true_and, and_true, and_self, List.getElem?_cons_zero, List.getElem?_cons_succ, Nat.reduceLeDiff, Nat.zero_add, Nat.reduceSub, Nat.le_refl, Nat.lt_irrefl]
      refine z1 (decide ((D.length : Int) > ((1 + mo : Nat) : Int)), (D.take y).foldl (fun L g => addR L 4096 g) (cgL Pb6)) _ _ (.inr ?_) ?_ ⟨k2, k3, k5, sb9, ovb9, Pb9, k6, k7, k8, hup9, fun x hx => (c2 x).2 (.inl (hBZ x hx)), fun hf x hx => ?_⟩
      · simp -implicitDefEqProofs only [go_sem, Nat.reduceBEq, Nat.reduceAdd, eq_self, true_and, and_true, and_self, List.getElem?_cons_zero, List.getElem?_cons_succ, Nat.reduceLeDiff, Nat.zero_add, Nat.reduceSub, Nat.le_refl, Nat.lt_irrefl]
        try exact ⟨rfl, rfl⟩
        try exact rfl
      · simp only [hD9, hq]
        simp only [cond_true, cond_false]
        omega
      · simp only at hf
        have hle := of_decide_eq_false hf
        refine (c2 x).2 ?_
        by_cases hz : x ∈ cgL Pb6
        · exact .inl hz
        · refine .inr ?_
          rw [List.take_of_length_le (by omega), ← hD]
          exact List.mem_filter.2 ⟨hx, by simp [hz]⟩
    · have hyn : y < n2 := by have := of_decide_eq_true hcy; omega
      have hyD : y < D.length := by omega
      have hyT : y < (D.take (1 + mo)).length := by omega
      have hwy : IntKind.i64.wrap ((y : Int) + 1) = ((y + 1 : Nat) : Int) := by rw [i64_in _ (by omega)]; omega
      obtain ⟨d9, m1, m2, m3, -, m5, m6, -⟩ := rdC_get k4 hyT
      rw [List.getElem_take] at m1 m2
      subst m6
      have hw9 := hwi y hyD
      have hU9 := hDU _ (List.getElem_mem hyD)
      have htk : (D.take (y + 1)).foldl (fun L g => addR L 4096 g) (cgL Pb6) = addR ((D.take y).foldl (fun L g => addR L 4096 g) (cgL Pb6)) 4096 D[y] := by
        rw [List.take_succ_eq_append_getElem hyD, List.foldl_append]; rfl
      generalize D[y] = g at m1 m2 hw9 hU9 htk
      have hnm := hWnm g (hUW g hU9)
      have hP9 : Pb9.length ≤ 4096 := by
        have := congrArg List.length k7
        rw [map2_len] at this
        omega
      have had := add_ok k6 (by omega) m2 (by omega)
      rw [k7, hw9] at had
      simp only [cgV, cgC] at had
      simp -implicitDefEqProofs only [go_sem, Nat.reduceBEq, Nat.reduceAdd, eq_self, true_and, and_true, and_self, List.getElem?_cons_zero, List.getElem?_cons_succ, Nat.reduceLeDiff, Nat.zero_add, Nat.reduceSub, Nat.le_refl, hcy, hesl, Int.toNat_natCast, m1, cgC]
      refine ⟨⟨by omega, by omega⟩, m5, ?_⟩
      refine call_at had ?_
      rintro w t10 ⟨rfl, s1, ov1, P1, h1, hP1, kt, -⟩
      refine ⟨kept_none, ?_⟩
      obtain ⟨q1', q2'⟩ := two_step k6 k5 (fun j h1 h2 => k8 j h2 h1) kt
      simp -implicitDefEqProofs only [go_sem, Nat.reduceBEq, Nat.reduceAdd, eq_self, true_and, and_true, and_self, List.getElem?_cons_zero, List.getElem?_cons_succ, Nat.reduceLeDiff, Nat.zero_add, Nat.reduceSub, Nat.le_refl, h00, Bool.not_true, hwy]
      refine x1 (y + 1) _ _ (.inr ?_) (by omega) ⟨by omega, ?_, rdS_up k3 kt.upd, ?_, q1', s1, ov1, P1, h1, by rw [hP1, htk], fun j h1 h2 => q2' j h2 h1⟩
      · simp -implicitDefEqProofs only [go_sem, Nat.reduceBEq, Nat.reduceAdd, eq_self, true_and, and_true, and_self, List.getElem?_cons_zero, List.getElem?_cons_succ, Nat.reduceLeDiff, Nat.zero_add, Nat.reduceSub, Nat.le_refl, Nat.lt_irrefl]
        try exact ⟨rfl, rfl⟩
        try exact rfl
      · obtain ⟨l', p1, p2, p3⟩ := k2; exact ⟨l', p1, rdS_up p2 kt.upd, fun p hp => rdS_up (p3 p hp) kt.upd⟩
      · obtain ⟨l', p1, p2, p3⟩ := k4; exact ⟨l', p1, rdS_up p2 kt.upd, fun p hp => rdS_up (p3 p hp) kt.upd⟩
end
theorem bools_of : ∀ {es : List (List V)}, (∀ y ∈ es, T.bool.has y) → ∃ bs : List Bool, es = boolsV bs
  | [], _ => ⟨[], rfl⟩
  | y :: es, h => by
    obtain ⟨bs, rfl⟩ := bools_of (es := es) fun y hy => h y (by simp [hy])
    obtain ⟨b, rfl⟩ := h y (by simp)
    exact ⟨b :: bs, rfl⟩
theorem has_bools {xs : List V} (h : (T.sl 1 .bool).has xs) : ∃ d bs, xs = [d] ∧ ∀ σ, RdS σ d 1 (boolsV bs) := by
  rcases h with rfl | ⟨es, rfl, h⟩
  · exact ⟨_, [], rfl, fun σ => ⟨_, _, _, rfl, by simp [boolsV], .inl rfl⟩⟩
  · obtain ⟨bs, rfl⟩ := bools_of h
    exact ⟨_, bs, rfl, fun σ => ⟨_, _, _, rfl, by simp, .inr ⟨trivial, rfl⟩⟩⟩
theorem has_cgs {xs : List V} (h : (T.sl 13 (.agg CgT)).has xs) : ∃ d gs, xs = [d] ∧ (vbs xs ≤ 1048576 → ArgC d gs) := by
  rcases h with rfl | ⟨es, rfl, h⟩
  · exact ⟨_, [], rfl, fun _ => ⟨⟨[], rfl, fun σ => ⟨_, _, _, rfl, by simp [cgsV], .inl rfl⟩, by intro p hp; cases hp⟩, by simp, by intro g hg; cases hg⟩⟩
  · obtain ⟨l, rfl, h4, h5⟩ := cgs_of h
    refine ⟨_, l.map (·.2), rfl, fun hb => ?_⟩
    simp only [vbs, vb] at hb
    refine ⟨⟨l, rfl, fun σ => ⟨_, _, _, rfl, by simp, .inr ⟨trivial, rfl⟩⟩, fun p hp => (h5 p hp).1⟩, by rw [List.length_map]; omega, fun g hg => ?_⟩
    obtain ⟨p, hp, rfl⟩ := List.mem_map.1 hg
    have := (h5 p hp).2
    omega
end Go.VL.opl

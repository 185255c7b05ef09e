/- The V-logic, part 21: what an operation hangs on: for regions of more than one order. -/
import Derived.Test.YtefbofjonjdebaaVs
set_option linter.unusedVariables false
set_option linter.unusedSimpArgs false
namespace Go.VL
open Go

def Ag (rs : List Nat) (F G : Fr) : Prop := ∀ t ∈ rs, sget t F.s = sget t G.s

section
variable {F G : Fr} {σ τ : St} {rs : List Nat}
theorem Ag.ev {x : E} (h : Ag x.rs F G) : F.ev x = G.ev x := by
  cases x with
  | t n => exact h n (by simp [E.rs])
  | c v => rfl
theorem Ag.va {x : E} (h : Ag x.rs F G) : F.va x = G.va x := by simp only [Fr.va, h.ev]
theorem Ag.l {a b : List Nat} (h : Ag (a ++ b) F G) : Ag a F G := fun t ht => h t (by simp [ht])
theorem Ag.r {a b : List Nat} (h : Ag (a ++ b) F G) : Ag b F G := fun t ht => h t (by simp [ht])
theorem Ag.vaO {x : Option E} (h : Ag (EOrs x) F G) : F.vaO x = G.vaO x := by
  cases x with
  | none => rfl
  | some x => simp only [Fr.vaO, Ag.va (x := x) h]
theorem Ag.vas : ∀ {xs : List E}, Ag (xs.flatMap E.rs) F G → xs.map F.va = xs.map G.va
  | [], _ => rfl
  | x :: r, h => by
    simp only [List.flatMap_cons] at h
    simp only [List.map_cons, h.l.va, Ag.vas h.r]
theorem Ag.overs : ∀ {ps : List (Nat × Nat × E)} {z : Option (List V)}, Ag (ps.flatMap (·.2.2.rs)) F G → overs F z ps = overs G z ps
  | [], z, _ => by cases z <;> simp [VL.overs]
  | p :: r, none, _ => by simp [VL.overs]
  | p :: r, some z, h => by
    simp only [List.flatMap_cons] at h
    simp only [VL.overs, h.l.va, Ag.overs h.r]
theorem Ag.lits {s : Nat} : ∀ {xs : List E}, Ag (xs.flatMap E.rs) F G → lits F s xs = lits G s xs
  | [], _ => rfl
  | x :: r, h => by
    simp only [List.flatMap_cons] at h
    simp only [VL.lits, h.l.va, Ag.lits h.r]

def resP (d : Nat) (F G : Fr) (σ τ : St) : Res → Res → Prop
  | .bad, _ => True
  | .ok F' σ', r => ∃ u, F' = F.set d u ∧ σ' = σ ∧ r = .ok (G.set d u) τ
  | .need p F' σ', r => ∃ u q, F' = F.set d u ∧ σ' = σ ∧ r = .need q (G.set d u) τ ∧ (p → q)

theorem resP.ok {d : Nat} (u : S) : resP d F G σ τ (.ok (F.set d u) σ) (.ok (G.set d u) τ) := ⟨u, rfl, rfl, rfl⟩
theorem resP.need {d : Nat} {p q : Prop} (u : S) (h : p → q) : resP d F G σ τ (.need p (F.set d u) σ) (.need q (G.set d u) τ) := ⟨u, q, rfl, rfl, rfl, h⟩
theorem resP.also {d : Nat} {p q : Prop} (h : p → q) {r r' : Res} (hr : resP d F G σ τ r r') : resP d F G σ τ (r.also p) (r'.also q) := by
  cases r with
  | bad => trivial
  | ok F' σ' =>
    obtain ⟨u, h1, h2, h3⟩ := hr
    subst h3
    exact ⟨u, q, h1, h2, rfl, h⟩
  | need p' F' σ' =>
    obtain ⟨u, q', h1, h2, h3, h4⟩ := hr
    subst h3
    exact ⟨u, _, h1, h2, rfl, fun x => ⟨h x.1, h4 x.2⟩⟩

theorem ldC_p {d : Nat} {n : Nat} {g : Bool} {cs : List V} : resP d F G σ τ (ldC d F σ cs n g) (ldC d G τ cs n g) := by
  cases g with
  | true => exact .need _ id
  | false => cases cs <;> first | exact .ok _ | trivial

theorem ibin_p {d : Nat} {k : IntKind} {a b : Int} {op : BinOp} : resP d F G σ τ (ibin d F σ k a b op) (ibin d G τ k a b op) := by
  cases op <;> simp only [ibin] <;> first | exact .ok _ | exact .need _ id | trivial
theorem iibin_p {d : Nat} {k k' : IntKind} {a b : Int} {op : BinOp} : resP d F G σ τ (iibin d F σ op k a k' b) (iibin d G τ op k a k' b) := by
  cases op <;> simp only [iibin] <;> first | exact .need _ id | (split <;> first | exact ibin_p | trivial)
theorem sbin_p {d : Nat} {a b : List UInt8} {op : BinOp} : resP d F G σ τ (sbin d F σ a b op) (sbin d G τ a b op) := by
  cases op <;> simp only [sbin] <;> first | exact .ok _ | exact .need _ id | trivial
theorem bin_p {d : Nat} {a b : V} {op : BinOp} : resP d F G σ τ (bin d F σ op a b) (bin d G τ op a b) := by
  unfold bin
  split <;> first | exact iibin_p | exact sbin_p | trivial
theorem bqW_p {d : Nat} {ne : Bool} {k : EK} {a b : V} : resP d F G σ τ (bqW d F σ ne k a b) (bqW d G τ ne k a b) := by
  unfold bqW
  split <;> first | exact .ok _ | trivial
theorem beW_p {d : Nat} {ne : Bool} {lv : List LK} {a b : V} : resP d F G σ τ (beW d F σ ne lv a b) (beW d G τ ne lv a b) := by
  unfold beW
  split <;> first | exact .need _ id | trivial
theorem unW_p {d : Nat} {op : UnOp} {a : V} : resP d F G σ τ (unW d F σ op a) (unW d G τ op a) := by
  unfold unW
  split <;> (try split) <;> first | exact .ok _ | trivial
theorem pkB_p {d : Nat} {c a b : S} : resP d F G σ τ (pkB d F σ c a b) (pkB d G τ c a b) := by
  unfold pkB pkW
  split <;> first | exact .ok _ | trivial
theorem bldW_p {d : Nat} {o : Option (List V)} : resP d F G σ τ (bldW d F σ o) (bldW d G τ o) := by
  cases o <;> first | exact .ok _ | trivial
theorem ncW_p {d : Nat} {a : S} : resP d F G σ τ (ncW d F σ a) (ncW d G τ a) := by
  unfold ncW
  split <;> first | exact .ok _ | trivial
theorem cIW_p {d : Nat} {k : IntKind} {a : V} : resP d F G σ τ (cIW d F σ k a) (cIW d G τ k a) := by
  unfold cIW
  split <;> first | exact .ok _ | trivial
theorem cTW_p {d : Nat} {a : V} : resP d F G σ τ (cTW d F σ a) (cTW d G τ a) := by
  unfold cTW
  split <;> first | exact .ok _ | trivial
theorem faW_p {d off : Nat} {a : S} : resP d F G σ τ (faW d F σ off a) (faW d G τ off a) := by
  unfold faW
  split <;> first | exact .ok _ | trivial
theorem fdW_p {d off n : Nat} {g : Bool} {a : V} : resP d F G σ τ (fdW d F σ off n g a) (fdW d G τ off n g a) := by
  unfold fdW
  split <;> first | exact ldC_p | trivial
theorem iaW_p {d s : Nat} {a b : V} : resP d F G σ τ (iaW d F σ s a b) (iaW d G τ s a b) := by
  unfold iaW
  split <;> first | exact .need _ id | trivial
theorem iAV_p {d s n : Nat} {i : Int} {a : S} : resP d F G σ τ (iAV d F σ s n i a) (iAV d G τ s n i a) := by
  unfold iAV
  split <;> first | exact .need _ id | trivial
theorem iAW_p {d s n : Nat} {i : V} {a : S} : resP d F G σ τ (iAW d F σ s n a i) (iAW d G τ s n a i) := by
  unfold iAW
  split <;> first | exact iAV_p | trivial
theorem ixW_p {d : Nat} {a b : V} : resP d F G σ τ (ixW d F σ a b) (ixW d G τ a b) := by
  unfold ixW
  split <;> first | exact .need _ id | trivial
theorem exW_p {d i : Nat} {a : V} : resP d F G σ τ (exW d F σ i a) (exW d G τ i a) := by
  unfold exW
  split <;> (try split) <;> first | exact .ok _ | trivial
theorem mxW_p {d : Nat} {a b : V} : resP d F G σ τ (mxW d F σ a b) (mxW d G τ a b) := by
  unfold mxW
  split <;> first | exact .ok _ | trivial
theorem mnW_p {d : Nat} {a b : V} : resP d F G σ τ (mnW d F σ a b) (mnW d G τ a b) := by
  unfold mnW
  split <;> first | exact .ok _ | trivial
theorem slW_p {d n : Nat} {lo hi : Option V} {a : V} : resP d F G σ τ (slW d F σ n lo hi a) (slW d G τ n lo hi a) := by
  unfold slW slB
  split <;> (try split) <;> first | exact .need _ id | trivial
theorem ssW_p {d : Nat} {lo hi : Option V} {a : V} : resP d F G σ τ (ssW d F σ lo hi a) (ssW d G τ lo hi a) := by
  unfold ssW ssB
  split <;> (try split) <;> first | exact .need _ id | trivial

theorem rd_extD {L : List Nat} (he : ExtD L σ τ) {r : R} (h : rd σ.live r) : rd τ.live r := by
  cases r with
  | pub => trivial
  | own r => exact he.live _ h
  | view r => exact he.live _ h
theorem rd_ext (he : Ext σ τ) {r : R} (h : rd σ.live r) : rd τ.live r := rd_extD (L := []) he.on h
theorem cSW_p {L : List Nat} (he : ExtD L σ τ) {d : Nat} {a : V} : resP d F G σ τ (cSW d F σ a) (cSW d G τ a) := by
  unfold cSW
  split
  · exact .ok _
  · exact .need _ fun h => ⟨h.1.imp_right fun x => ⟨rd_extD he x.1, x.2⟩, h.2⟩
  · trivial
theorem ldO_p {d o n : Nat} {g : Bool} {x y : Option AObj} (h : ∀ a, x = some a → y = some a) : resP d F G σ τ (ldO d F σ n g o x) (ldO d G τ n g o y) := by
  cases x with
  | none => trivial
  | some a =>
    rw [h a rfl]
    cases a <;> first | exact ldC_p | trivial
theorem ldW_p (hl : F.l = G.l) {d n : Nat} {g : Bool} {a : S} (he : ExtD a.sees σ τ) : resP d F G σ τ (ldW d F σ n g a) (ldW d G τ n g a) := by
  cases a with
  | loc k o =>
    simp only [ldW, hl]
    cases lget k G.l with
    | none => trivial
    | some cs => exact ldC_p
  | v x =>
    simp only [ldW]
    unfold ldV
    split
    · exact ldO_p fun a h => he.objs _ (by simp [S.sees, V.sees]) _ h
    · exact .also (rd_extD he) ldC_p
    · trivial
theorem lnW_p {d : Nat} {k : EK} {a : V} (he : ExtD a.sees σ τ) : resP d F G σ τ (lnW d F σ k a) (lnW d G τ k a) := by
  unfold lnW
  split
  · exact .ok _
  · exact .ok _
  · exact .ok _
  · rename_i i
    cases hx : σ.objs[i]? with
    | none => trivial
    | some o =>
      rw [he.objs _ (by simp [V.sees]) _ hx]
      cases o <;> first | exact .ok _ | trivial
  · trivial
theorem lkW_p {d : Nat} {lv : List LK} {k z m : V} {ok : Bool} (he : ExtD m.sees σ τ) : resP d F G σ τ (lkW d F σ lv k ok z m) (lkW d G τ lv k ok z m) := by
  have hr : ∀ o, resP d F G σ τ (lkR d F σ ok z o) (lkR d G τ ok z o) := fun o => by cases o <;> exact .ok _
  unfold lkW
  split
  · rename_i i
    cases hx : σ.objs[i]? with
    | none => trivial
    | some o =>
      rw [he.objs _ (by simp [V.sees]) _ hx]
      cases o <;> first | exact .also id (hr _) | trivial
  · exact .also id (hr _)
  · trivial

/-- Values alone, or a look at memory. -/
theorem sees_va {F : Fr} {x : E} : (F.ev x).sees = (F.va x).sees := by
  unfold Fr.va
  cases F.ev x <;> rfl
theorem run_p {o : O} (hk : o.kind = .val ∨ o.kind = .look ∧ F.l = G.l ∧ ExtD (o.sees F) σ τ) (hag : Ag o.reads F G) : ∃ d, o.dst = some d ∧ resP d F G σ τ (o.run F σ) (o.run G τ) := by
  cases o <;> simp only [O.kind, false_or, or_false, true_or, false_and, true_and, reduceCtorEq] at hk <;> simp only [O.reads] at hag <;>
    refine ⟨_, rfl, ?_⟩ <;> simp only [O.run]
  case mv => rw [hag.ev]; exact .ok _
  case pk => rw [hag.l.ev, hag.r.l.ev, hag.r.r.ev]; exact pkB_p
  case bld => rw [hag.overs]; exact bldW_p
  case ld => simp only [O.sees] at hk; rw [hag.ev] at hk ⊢; exact ldW_p hk.1 hk.2
  case nc => rw [hag.ev]; exact ncW_p
  case bi => rw [hag.l.va, hag.r.va]; exact bin_p
  case bq => rw [hag.l.va, hag.r.va]; exact bqW_p
  case be => rw [hag.l.va, hag.r.va]; exact beW_p
  case un => rw [hag.va]; exact unW_p
  case cI => rw [hag.va]; exact cIW_p
  case cS => rw [hag.va]; exact cSW_p hk.2
  case cT => rw [hag.va]; exact cTW_p
  case mf => rw [hag.vas]; exact .ok _
  case sl => rw [hag.l.va, hag.r.l.vaO, hag.r.r.vaO]; exact slW_p
  case ss => rw [hag.l.va, hag.r.l.vaO, hag.r.r.vaO]; exact ssW_p
  case fa => rw [hag.ev]; exact faW_p
  case fd => rw [hag.va]; exact fdW_p
  case ia => rw [hag.l.va, hag.r.va]; exact iaW_p
  case iA => rw [hag.l.ev, hag.r.va]; exact iAW_p
  case ix => rw [hag.l.va, hag.r.va]; exact ixW_p
  case lk => simp only [O.sees, sees_va] at hk; rw [hag.l.va] at hk ⊢; rw [hag.r.va]; exact lkW_p hk.2
  case ex => rw [hag.va]; exact exW_p
  case ln => simp only [O.sees, sees_va] at hk; rw [hag.va] at hk ⊢; exact lnW_p hk.2
  case mx => rw [hag.l.va, hag.r.va]; exact mxW_p
  case mn => rw [hag.l.va, hag.r.va]; exact mnW_p

def wr : Option Nat → S → List (Nat × S) → List (Nat × S)
  | some d, u, s => sset d u s
  | none, _, s => s

def resC (d : Option Nat) (F G : Fr) (e : Option St) : Res → Res → Prop
  | .bad, _ => True
  | .ok F' σ', r => (∃ u l, F' = ⟨wr d u F.s, l⟩ ∧ r = .ok ⟨wr d u G.s, l⟩ σ') ∧ ∀ σ, e = some σ → Ext σ σ' ∧ F'.l = F.l
  | .need p F' σ', r => (∃ u l, F' = ⟨wr d u F.s, l⟩ ∧ r = .need p ⟨wr d u G.s, l⟩ σ') ∧ ∀ σ, e = some σ → Ext σ σ' ∧ F'.l = F.l

theorem ext_obj (σ : St) (o : AObj) : Ext σ ⟨σ.objs ++ [o], σ.live⟩ :=
  ⟨fun i x h => by
    have := (List.getElem?_eq_some_iff.1 h).1
    rw [List.getElem?_append_left this]; exact h, fun _ h => h, by simp, by simp⟩
theorem ext_live (σ : St) (b : Bool) : Ext σ ⟨σ.objs, σ.live ++ [b]⟩ :=
  ⟨fun _ _ h => h, fun i h => by
    have := (List.getElem?_eq_some_iff.1 h).1
    rw [List.getElem?_append_left this]; exact h, by simp, by simp⟩

/-- It makes memory. -/
theorem run_a {o : O} (hk : o.kind = .make) (hl : F.l = G.l) (hag : Ag o.reads F G) : resC o.dst F G (some σ) (o.run F σ) (o.run G σ) := by
  have one : ∀ (d : Nat) (v : S) (σ' : St), Ext σ σ' → resC (some d) F G (some σ) (.ok (F.set d v) σ') (.ok (G.set d v) σ') := fun d v σ' h =>
    ⟨⟨v, F.l, rfl, by simp [Fr.set, wr, hl]⟩, fun _ hx => by cases hx; exact ⟨h, rfl⟩⟩
  cases o <;> simp only [O.kind, reduceCtorEq] at hk <;> simp only [O.reads] at hag <;> simp only [O.run, O.dst]
  case alH => exact one _ _ _ (ext_obj _ _)
  case mm => exact one _ _ _ (ext_obj _ _)
  case bxH =>
    rw [hag.va]
    cases cellsOf (G.va _) with
    | none => trivial
    | some cs => exact one _ _ _ (ext_obj _ _)
  case lit =>
    rw [hag.lits]
    cases lits G _ _ with
    | none => trivial
    | some cs => exact one _ _ _ (ext_live _ _)
  case cB =>
    rw [hag.va]
    unfold cBW
    split <;> first | exact one _ _ _ (ext_live _ _) | trivial
  case ms =>
    rw [hag.l.va, hag.r.va]
    unfold msW
    split
    · exact ⟨⟨_, F.l, rfl, by simp [Fr.set, wr, hl]⟩, fun _ hx => by cases hx; exact ⟨ext_live _ _, rfl⟩⟩
    · trivial

theorem resC.also {d : Option Nat} {p : Prop} {r r' : Res} (h : resC d F G none r r') : resC d F G none (r.also p) (r'.also p) := by
  cases r with
  | bad => trivial
  | ok F' σ' =>
    obtain ⟨⟨u, l, h1, h2⟩, _⟩ := h
    subst h2
    exact ⟨⟨u, l, h1, rfl⟩, by simp⟩
  | need p' F' σ' =>
    obtain ⟨⟨u, l, h1, h2⟩, _⟩ := h
    subst h2
    exact ⟨⟨u, l, h1, rfl⟩, by simp⟩

/-- It changes memory. -/
theorem run_c {o : O} (hk : o.kind = .change) (hl : F.l = G.l) (hag : Ag o.reads F G) : resC o.dst F G none (o.run F σ) (o.run G σ) := by
  have same : ∀ σ', resC none F G none (.ok F σ') (.ok G σ') := fun σ' => ⟨⟨.v .bad, F.l, rfl, by simp [wr, hl]⟩, by simp⟩
  have sameN : ∀ p σ', resC none F G none (.need p F σ') (.need p G σ') := fun p σ' => ⟨⟨.v .bad, F.l, rfl, by simp [wr, hl]⟩, by simp⟩
  cases o <;> simp only [O.kind, reduceCtorEq] at hk <;> simp only [O.reads] at hag <;> simp only [O.run, O.dst]
  case st =>
    rw [hag.l.ev, hag.r.va]
    generalize cellsOf (G.va _) = oc
    generalize G.ev _ = sa
    cases oc with
    | none => trivial
    | some xs =>
      refine .also ?_
      unfold stW
      split
      · rename_i k o
        rw [hl]
        cases lget k G.l with
        | none => trivial
        | some cs => exact ⟨⟨.v .bad, _, rfl, by simp only [stL, Fr.setL, wr, hl]⟩, by simp⟩
      · unfold stV
        split
        · rename_i p
          cases σ.objs[p.1]? with
          | none => trivial
          | some o => cases o <;> first | exact sameN _ _ | trivial
        · trivial
  case ap =>
    rw [hag.l.va, hag.r.va]
    generalize G.va _ = va
    generalize G.va _ = vb
    unfold apW
    split
    · refine .also ?_
      cases apE σ.live _ va with
      | none => trivial
      | some p => exact ⟨⟨_, F.l, rfl, by simp only [apR, Fr.set, wr, hl]⟩, by simp⟩
    · trivial
  case mu =>
    rw [hag.l.va, hag.r.l.va, hag.r.r.va]
    generalize G.va _ = va
    generalize G.va _ = vb
    generalize G.va _ = vc
    unfold muW
    split
    · rename_i i
      cases σ.objs[i]? with
      | none => trivial
      | some o => cases o <;> first | exact .also (same _) | trivial
    · trivial
  case de =>
    rw [hag.l.va, hag.r.va]
    generalize G.va _ = va
    generalize G.va _ = vb
    unfold deW
    split
    · rename_i i
      cases σ.objs[i]? with
      | none => trivial
      | some o => cases o <;> first | exact .also (same _) | trivial
    · exact .also (same _)
    · trivial
end
end Go.VL

/- The V-logic, part 3: the predicate transformer of compiled code. -/
import Derived.Test.YtbhlnbffdhojcaaVb
set_option linter.unusedVariables false
set_option linter.unusedSimpArgs false
namespace Go.VL
open Go

def sLe (F : List (Nat × S)) : List (Nat × S) → Prop
  | [] => True
  | p :: r => sget p.1 F = p.2 ∧ sLe F r
def lLe (F : List (Nat × List V)) : List (Nat × List V) → Prop
  | [] => True
  | p :: r => lget p.1 F = some p.2 ∧ lLe F r
/-- All that G says F says. -/
def FrLe (G F : Fr) : Prop := G = F ∨ sLe F.s G.s ∧ lLe F.l G.l
theorem FrLe.refl (F : Fr) : FrLe F F := .inl rfl

/-- What was there is as it was. -/
structure Ext (σ σ' : St) : Prop where
  objs : ∀ (i : Nat) (o : AObj), σ.objs[i]? = some o → σ'.objs[i]? = some o
  live : ∀ (r : Nat), σ.live[r]? = some true → σ'.live[r]? = some true
  olen : σ.objs.length ≤ σ'.objs.length
  llen : σ.live.length ≤ σ'.live.length

theorem Ext.refl (σ : St) : Ext σ σ := ⟨fun _ _ h => h, fun _ h => h, Nat.le_refl _, Nat.le_refl _⟩
theorem Ext.trans {a b c : St} (h : Ext a b) (k : Ext b c) : Ext a c :=
  ⟨fun _ _ x => k.objs _ _ (h.objs _ _ x), fun _ x => k.live _ (h.live _ x), Nat.le_trans h.olen k.olen, Nat.le_trans h.llen k.llen⟩

def setO (F : Fr) : Option Nat → V → Fr
  | some d, v => F.set d (.v v)
  | none, _ => F

def resK (K : Fr → St → Prop) : Res → Prop
  | .bad => False
  | .ok F σ => K F σ
  | .need p F σ => p ∧ K F σ

def O.dst : O → Option Nat
  | .mv d _ | .pk d _ _ _ | .alL d _ | .alH d _ | .bxL d _ | .bxH d _ | .bld d _ _ | .lit d _ _ | .ld d _ _ _ | .nc d _ | .bi d _ _ _ | .be d _ _ _ _ | .bq d _ _ _ _
  | .un d _ _ | .cI d _ _ | .cS d _ | .cT d _ | .cB d _ | .mf d _ _ | .mm d _ | .ms d _ _ _ | .sl d _ _ _ _ | .ss d _ _ _ | .fa d _ _ | .fd d _ _ _ _ | .ia d _ _ _ | .iA d _ _ _ _
  | .ix d _ _ | .lk d _ _ _ _ _ | .rg d _ | .nx d _ | .ex d _ _ | .ap d _ _ _ | .ln d _ _ | .mx d _ _ | .mn d _ _ => some d
  | .st _ _ _ | .se _ _ _ | .mu _ _ _ _ | .de _ _ _ => none
  | .ca d _ _ | .cv d _ _ => d

variable (P : Program)

/-- One operation. e: a call must leave all that was there. -/
def O.W (e : Bool) (F : Fr) (σ : St) (K : Fr → St → Prop) : O → Prop
  | .ca d f xs => CallA P f (xs.map F.va) σ fun v σ' => (e = true → Ext σ σ') ∧ K (setO F d v) σ'
  | .cv d f xs => ∃ g caps, F.va f = .fn g caps ∧ CallA P g (xs.map F.va ++ caps) σ fun v σ' => (e = true → Ext σ σ') ∧ K (setO F d v) σ'
  | o => resK K (o.run F σ)

def GO.W (e : Bool) (F : Fr) (σ : St) (K : Fr → St → Prop) (o : GO) : Prop :=
  match o.g with
  | none => o.o.W P e F σ K
  | some g => ∃ c, F.va (.t g.1) = .bool c ∧ (c = g.2 → o.o.W P e F σ K) ∧ (c ≠ g.2 → K (setO F o.o.dst .bad) σ)

def opsW (e : Bool) : List GO → Fr → St → (X → Fr → St → Prop) → Prop
  | [], F, σ, Q => Q .normal F σ
  | o :: r, F, σ, Q => o.W P e F σ fun F' σ' => opsW e r F' σ' Q

def C.W : C → Fr → St → (X → Fr → St → Prop) → Prop
  | .skip, F, σ, Q => Q .normal F σ
  | .ops l, F, σ, Q => opsW P false l F σ Q
  | .opsD l, F, σ, Q => opsW P true l F σ Q
  | .seq a b, F, σ, Q => a.W F σ fun x F' σ' => match x with
    | .normal => b.W F' σ' Q
    | x => Q x F' σ'
  | .cut a b, F, σ, Q => ∃ R : Fr → St → Prop, (a.W F σ fun x F' σ' => match x with
    | .normal => ∃ G, FrLe G F' ∧ R G σ'
    | x => Q x F' σ') ∧ ∀ G σ', R G σ' → b.W G σ' Q
  | .cond x a b, F, σ, Q => ∃ c, F.va x = .bool c ∧ (c = true → a.W F σ Q) ∧ (c = false → b.W F σ Q)
  | .block id c, F, σ, Q => c.W F σ fun x F' σ' => match x with
    | .exit i => if i = id then Q .normal F' σ' else Q (.exit i) F' σ'
    | x => Q x F' σ'
  | .loop c, F, σ, Q => ∃ (α : Type) (fr : α → Fr) (inv : α → St → Prop) (m : α → Nat) (x0 : α), FrLe (fr x0) F ∧ inv x0 σ ∧
      ∀ x σ, inv x σ → c.W (fr x) σ fun y F' σ' => match y with
        | .normal => ∃ x', m x' < m x ∧ FrLe (fr x') F' ∧ inv x' σ'
        | y => Q y F' σ'
  | .exit id, F, σ, Q => Q (.exit id) F σ
  | .ret, F, σ, Q => Q .ret F σ
  | .range _ _ _ _, _, _, _ => False
end Go.VL

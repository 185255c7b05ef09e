/- The V-logic, part 3: the predicate transformer of compiled code. -/
import Derived.Test.YtefbofjonjdebaaVb
set_option linter.unusedVariables false
set_option linter.unusedSimpArgs false
namespace Go.VL
open Go

def sLe (F : List (Nat × S)) : List (Nat × S) → Prop
  | [] => True
  | p :: r => sget p.1 F = p.2 ∧ sLe F r
def lLe (F : List (Nat × List V)) : List (Nat × List V) → Prop
  | [] => True
  | p :: r => lget p.1 F = some p.2 ∧ lLe F r
/-- All that G says F says. -/
def FrLe (G F : Fr) : Prop := G = F ∨ sLe F.s G.s ∧ lLe F.l G.l
theorem FrLe.refl (F : Fr) : FrLe F F := .inl rfl

/-- What was there is as it was. -/
structure Ext (σ σ' : St) : Prop where
  objs : ∀ (i : Nat) (o : AObj), σ.objs[i]? = some o → σ'.objs[i]? = some o
  live : ∀ (r : Nat), σ.live[r]? = some true → σ'.live[r]? = some true
  olen : σ.objs.length ≤ σ'.objs.length
  llen : σ.live.length ≤ σ'.live.length

/-- What was looked at is as it was. -/
structure ExtD (L : List Nat) (σ σ' : St) : Prop where
  objs : ∀ (i : Nat), i ∈ L → ∀ (o : AObj), σ.objs[i]? = some o → σ'.objs[i]? = some o
  live : ∀ (r : Nat), σ.live[r]? = some true → σ'.live[r]? = some true
theorem Ext.on {σ σ' : St} (h : Ext σ σ') {L : List Nat} : ExtD L σ σ' := ⟨fun i _ => h.objs i, h.live⟩
/-- Of a region of more than one order: which objects were looked at. -/
def Kept (e : Option (List Nat)) (σ σ' : St) : Prop := ∀ L, e = some L → ExtD L σ σ'
theorem Ext.kept {σ σ' : St} (h : Ext σ σ') {e : Option (List Nat)} : Kept e σ σ' := fun _ _ => h.on
theorem kept_none {σ σ' : St} : Kept none σ σ' := fun _ h => by cases h
def see : Option (List Nat) → List Nat → Option (List Nat)
  | none, _ => none
  | some L, l => some (l ++ L)
def V.sees : V → List Nat
  | .ptr (some p) => [p.1]
  | .map (some i) => [i]
  | .ptr none | .map none | .int _ _ | .bool _ | .str _ | .agg _ | .tup _ | .sl _ _ _ _ | .elt _ _ _ _ _ | .fn _ _ | .nilf | .raw _ | .bad => []
def S.sees : S → List Nat
  | .v x => x.sees
  | .loc _ _ => []
def O.sees (F : Fr) : O → List Nat
  | .ld _ a _ _ => (F.ev a).sees
  | .lk _ _ m _ _ _ => (F.ev m).sees
  | .ln _ _ x => (F.ev x).sees
  | _ => []
def O.seen (e : Option (List Nat)) (F : Fr) : O → Option (List Nat)
  | .ld _ a _ _ => see e (F.ev a).sees
  | .lk _ _ m _ _ _ => see e (F.ev m).sees
  | .ln _ _ x => see e (F.ev x).sees
  | _ => e

theorem Ext.refl (σ : St) : Ext σ σ := ⟨fun _ _ h => h, fun _ h => h, Nat.le_refl _, Nat.le_refl _⟩
theorem Ext.trans {a b c : St} (h : Ext a b) (k : Ext b c) : Ext a c :=
  ⟨fun _ _ x => k.objs _ _ (h.objs _ _ x), fun _ x => k.live _ (h.live _ x), Nat.le_trans h.olen k.olen, Nat.le_trans h.llen k.llen⟩

def setO (F : Fr) : Option Nat → V → Fr
  | some d, v => F.set d (.v v)
  | none, _ => F

def resK (K : Fr → St → Prop) : Res → Prop
  | .bad => False
  | .ok F σ => K F σ
  | .need p F σ => p ∧ K F σ

def O.dst : O → Option Nat
  | .mv d _ | .pk d _ _ _ | .alL d _ | .alH d _ | .bxL d _ | .bxH d _ | .bld d _ _ | .lit d _ _ | .ld d _ _ _ | .nc d _ | .bi d _ _ _ | .be d _ _ _ _ | .bq d _ _ _ _
  | .un d _ _ | .cI d _ _ | .cS d _ | .cT d _ | .cB d _ | .mf d _ _ | .mm d _ | .ms d _ _ _ | .sl d _ _ _ _ | .ss d _ _ _ | .fa d _ _ | .fd d _ _ _ _ | .ia d _ _ _ | .iA d _ _ _ _
  | .ix d _ _ | .lk d _ _ _ _ _ | .rg d _ | .nx d _ | .ex d _ _ | .ap d _ _ _ | .ln d _ _ | .mx d _ _ | .mn d _ _ => some d
  | .st _ _ _ | .se _ _ _ | .mu _ _ _ _ | .de _ _ _ => none
  | .ca d _ _ | .cv d _ _ => d

variable (P : Program)

/-- One operation. e: what was looked at so far: a call must leave it. -/
def O.W (e : Option (List Nat)) (F : Fr) (σ : St) (K : Option (List Nat) → Fr → St → Prop) : O → Prop
  | .ca d f xs => CallA P f (xs.map F.va) σ fun v σ' => Kept e σ σ' ∧ K e (setO F d v) σ'
  | .cv d f xs => ∃ g caps, F.va f = .fn g caps ∧ CallA P g (xs.map F.va ++ caps) σ fun v σ' => Kept e σ σ' ∧ K e (setO F d v) σ'
  | o => resK (K (o.seen e F)) (o.run F σ)

/-- Under a guard: what is skipped leaves an empty tuple, and a guard that is one is not wanted. -/
def GO.W (e : Option (List Nat)) (F : Fr) (σ : St) (K : Option (List Nat) → Fr → St → Prop) (o : GO) : Prop :=
  match o.g with
  | none => o.o.W P e F σ K
  | some g => (F.va (.t g.1) = .tup [] ∧ K e (setO F o.o.dst (.tup [])) σ) ∨ ∃ c, F.va (.t g.1) = .bool c ∧ (c = g.2 → o.o.W P e F σ K) ∧ (c ≠ g.2 → K e (setO F o.o.dst (.tup [])) σ)

def opsW : Option (List Nat) → List GO → Fr → St → (X → Fr → St → Prop) → Prop
  | _, [], F, σ, Q => Q .normal F σ
  | e, o :: r, F, σ, Q => o.W P e F σ fun e' F' σ' => opsW e' r F' σ' Q

def C.W : C → Fr → St → (X → Fr → St → Prop) → Prop
  | .skip, F, σ, Q => Q .normal F σ
  | .ops l, F, σ, Q => opsW P none l F σ Q
  | .opsD l, F, σ, Q => opsW P (some []) l F σ Q
  | .opsE l m, F, σ, Q => opsW P (some []) l F σ Q ∧ opsW P (some []) m F σ Q
  | .seq a b, F, σ, Q => a.W F σ fun x F' σ' => match x with
    | .normal => b.W F' σ' Q
    | x => Q x F' σ'
  | .cut a b, F, σ, Q => ∃ R : Fr → St → Prop, (a.W F σ fun x F' σ' => match x with
    | .normal => ∃ G, FrLe G F' ∧ R G σ'
    | x => Q x F' σ') ∧ ∀ G σ', R G σ' → b.W G σ' Q
  | .cond x a b, F, σ, Q => ∃ c, F.va x = .bool c ∧ (c = true → a.W F σ Q) ∧ (c = false → b.W F σ Q)
  | .block id c, F, σ, Q => c.W F σ fun x F' σ' => match x with
    | .exit i => if i = id then Q .normal F' σ' else Q (.exit i) F' σ'
    | x => Q x F' σ'
  | .loop c, F, σ, Q => ∃ (α : Type) (fr : α → Fr) (inv : α → St → Prop) (m : α → Nat) (x0 : α), FrLe (fr x0) F ∧ inv x0 σ ∧
      ∀ x σ, inv x σ → c.W (fr x) σ fun y F' σ' => match y with
        | .normal => ∃ x', m x' < m x ∧ FrLe (fr x') F' ∧ inv x' σ'
        | y => Q y F' σ'
  | .exit id, F, σ, Q => Q (.exit id) F σ
  | .ret, F, σ, Q => Q .ret F σ
  | .range _ _ _ _, _, _, _ => False
end Go.VL

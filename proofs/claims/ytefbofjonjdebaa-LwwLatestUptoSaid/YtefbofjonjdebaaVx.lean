/- The V-logic, part 24: compiled code is carried out by rewriting. What goes on behind a statement is data, not a function. -/
import Derived.Test.YtefbofjonjdebaaVt
set_option linter.unusedVariables false
set_option linter.unusedSimpArgs false
namespace Go.VL
open Go

inductive KI where
  | seq (b : C)
  | cut (b : C)
  | block (id : Nat)

/-- What goes on. -/
def conts (P : Program) (Q : X → Fr → St → Prop) : List KI → X → Fr → St → Prop
  | [], x, F, σ => Q x F σ
  | .seq b :: k, x, F, σ => match x with
    | .normal => b.W P F σ (conts P Q k)
    | x => conts P Q k x F σ
  | .cut b :: k, x, F, σ => match x with
    | .normal => b.W P F σ (conts P Q k)
    | x => conts P Q k x F σ
  | .block id :: k, x, F, σ => match x with
    | .exit i => if i = id then conts P Q k .normal F σ else conts P Q k (.exit i) F σ
    | x => conts P Q k x F σ

def KW (P : Program) (r : Res) (e : Option (List Nat)) (l : List GO) (Q : X → Fr → St → Prop) : Prop := resK (fun F σ => opsW P e l F σ Q) r
/-- An operation under a guard. -/
def GW (P : Program) (c : V) (b : Bool) (o : O) (F : Fr) (σ : St) (e : Option (List Nat)) (l : List GO) (Q : X → Fr → St → Prop) : Prop :=
  (c = .tup [] ∧ opsW P e l (setO F o.dst (.tup [])) σ Q) ∨ ∃ c', c = .bool c' ∧ (c' = b → opsW P e (⟨none, o⟩ :: l) F σ Q) ∧ (c' ≠ b → opsW P e l (setO F o.dst (.tup [])) σ Q)
/-- A call is due. -/
def CallK (P : Program) (f : FuncId) (xs : List V) (d : Option Nat) (F : Fr) (σ : St) (e : Option (List Nat)) (l : List GO) (Q : X → Fr → St → Prop) : Prop :=
  CallA P f xs σ fun v σ' => Kept e σ σ' ∧ opsW P e l (setO F d v) σ' Q
def CallV (P : Program) (f : V) (xs : List V) (d : Option Nat) (F : Fr) (σ : St) (e : Option (List Nat)) (l : List GO) (Q : X → Fr → St → Prop) : Prop :=
  ∃ g caps, f = .fn g caps ∧ CallK P g (xs ++ caps) d F σ e l Q
def CondW (P : Program) (c : V) (a b : C) (F : Fr) (σ : St) (k : List KI) (Q : X → Fr → St → Prop) : Prop :=
  ∃ c', c = .bool c' ∧ (c' = true → a.W P F σ (conts P Q k)) ∧ (c' = false → b.W P F σ (conts P Q k))
/-- A loop is due. -/
def LoopW (P : Program) (c : C) (F : Fr) (σ : St) (k : List KI) (Q : X → Fr → St → Prop) : Prop := (C.loop c).W P F σ (conts P Q k)
/-- Behind a round. -/
def RoundQ (P : Program) (next : Fr → St → Prop) (Q : X → Fr → St → Prop) (k : List KI) : X → Fr → St → Prop := fun x F σ => match x with
  | .normal => next F σ
  | x => conts P Q k x F σ

section
variable {P : Program} {F : Fr} {σ : St} {e : Option (List Nat)} {r : List GO} {Q : X → Fr → St → Prop} {k : List KI}
@[go_sem ↓] theorem opsW_mv (d : Nat) (x : E) : opsW P e (⟨none, .mv d x⟩ :: r) F σ Q = KW P (.ok (F.set d (F.ev x)) σ) e r Q := rfl
@[go_sem ↓] theorem opsW_pk (d : Nat) (c : E) (a : E) (b : E) : opsW P e (⟨none, .pk d c a b⟩ :: r) F σ Q = KW P (pkB d F σ (F.ev c) (F.ev a) (F.ev b)) e r Q := rfl
@[go_sem ↓] theorem opsW_alL (d : Nat) (z : List V) : opsW P e (⟨none, .alL d z⟩ :: r) F σ Q = KW P (.ok (F.newL d z) σ) e r Q := rfl
@[go_sem ↓] theorem opsW_alH (d : Nat) (z : List V) : opsW P e (⟨none, .alH d z⟩ :: r) F σ Q = KW P (.ok (F.set d (.v (.ptr (some (σ.objs.length, 0))))) ⟨σ.objs ++ [.cells z], σ.live⟩) e r Q := rfl
@[go_sem ↓] theorem opsW_bxL (d : Nat) (x : E) : opsW P e (⟨none, .bxL d x⟩ :: r) F σ Q = KW P (bxLW d F σ (cellsOf (F.va x))) e r Q := rfl
@[go_sem ↓] theorem opsW_bxH (d : Nat) (x : E) : opsW P e (⟨none, .bxH d x⟩ :: r) F σ Q = KW P (bxHW d F σ (cellsOf (F.va x))) e r Q := rfl
@[go_sem ↓] theorem opsW_bld (d : Nat) (z : List V) (ps : List (Nat × Nat × E)) : opsW P e (⟨none, .bld d z ps⟩ :: r) F σ Q = KW P (bldW d F σ (overs F (some z) ps)) e r Q := rfl
@[go_sem ↓] theorem opsW_lit (d : Nat) (s : Nat) (ps : List E) : opsW P e (⟨none, .lit d s ps⟩ :: r) F σ Q = KW P (litW d F σ s (lits F s ps)) e r Q := rfl
@[go_sem ↓] theorem opsW_ld (d : Nat) (a : E) (n : Nat) (g : Bool) : opsW P e (⟨none, .ld d a n g⟩ :: r) F σ Q = KW P (ldW d F σ n g (F.ev a)) (see e (F.ev a).sees) r Q := rfl
@[go_sem ↓] theorem opsW_st (a : E) (x : E) (n : Nat) : opsW P e (⟨none, .st a x n⟩ :: r) F σ Q = KW P (stC F σ n (F.ev a) (cellsOf (F.va x))) e r Q := rfl
@[go_sem ↓] theorem opsW_se (a : E) (x : E) (n : Nat) : opsW P e (⟨none, .se a x n⟩ :: r) F σ Q = KW P (seC F σ n (F.va a) (cellsOf (F.va x))) e r Q := rfl
@[go_sem ↓] theorem opsW_nc (d : Nat) (x : E) : opsW P e (⟨none, .nc d x⟩ :: r) F σ Q = KW P (ncW d F σ (F.ev x)) e r Q := rfl
@[go_sem ↓] theorem opsW_bi (d : Nat) (op : BinOp) (x : E) (y : E) : opsW P e (⟨none, .bi d op x y⟩ :: r) F σ Q = KW P (bin d F σ op (F.va x) (F.va y)) e r Q := rfl
@[go_sem ↓] theorem opsW_bq (d : Nat) (ne : Bool) (k : EK) (x : E) (y : E) : opsW P e (⟨none, .bq d ne k x y⟩ :: r) F σ Q = KW P (bqW d F σ ne k (F.va x) (F.va y)) e r Q := rfl
@[go_sem ↓] theorem opsW_be (d : Nat) (ne : Bool) (lv : List LK) (x : E) (y : E) : opsW P e (⟨none, .be d ne lv x y⟩ :: r) F σ Q = KW P (beW d F σ ne lv (F.va x) (F.va y)) e r Q := rfl
@[go_sem ↓] theorem opsW_un (d : Nat) (op : UnOp) (x : E) : opsW P e (⟨none, .un d op x⟩ :: r) F σ Q = KW P (unW d F σ op (F.va x)) e r Q := rfl
@[go_sem ↓] theorem opsW_cI (d : Nat) (k : IntKind) (x : E) : opsW P e (⟨none, .cI d k x⟩ :: r) F σ Q = KW P (cIW d F σ k (F.va x)) e r Q := rfl
@[go_sem ↓] theorem opsW_cS (d : Nat) (x : E) : opsW P e (⟨none, .cS d x⟩ :: r) F σ Q = KW P (cSW d F σ (F.va x)) e r Q := rfl
@[go_sem ↓] theorem opsW_cT (d : Nat) (x : E) : opsW P e (⟨none, .cT d x⟩ :: r) F σ Q = KW P (cTW d F σ (F.va x)) e r Q := rfl
@[go_sem ↓] theorem opsW_cB (d : Nat) (x : E) : opsW P e (⟨none, .cB d x⟩ :: r) F σ Q = KW P (cBW d F σ (F.va x)) e r Q := rfl
@[go_sem ↓] theorem opsW_mf (d : Nat) (f : FuncId) (caps : List E) : opsW P e (⟨none, .mf d f caps⟩ :: r) F σ Q = KW P (.ok (F.set d (.v (.fn f (caps.map F.va)))) σ) e r Q := rfl
@[go_sem ↓] theorem opsW_mm (d : Nat) (lv : List LK) : opsW P e (⟨none, .mm d lv⟩ :: r) F σ Q = KW P (.ok (F.set d (.v (.map (some σ.objs.length)))) ⟨σ.objs ++ [.mp lv [] 0], σ.live⟩) e r Q := rfl
@[go_sem ↓] theorem opsW_ms (d : Nat) (z : List V) (n : E) (c : E) : opsW P e (⟨none, .ms d z n c⟩ :: r) F σ Q = KW P (msW d F σ z (F.va n) (F.va c)) e r Q := rfl
@[go_sem ↓] theorem opsW_sl (d : Nat) (n : Nat) (x : E) (lo : Option E) (hi : Option E) : opsW P e (⟨none, .sl d n x lo hi⟩ :: r) F σ Q = KW P (slW d F σ n (F.vaO lo) (F.vaO hi) (F.va x)) e r Q := rfl
@[go_sem ↓] theorem opsW_ss (d : Nat) (x : E) (lo : Option E) (hi : Option E) : opsW P e (⟨none, .ss d x lo hi⟩ :: r) F σ Q = KW P (ssW d F σ (F.vaO lo) (F.vaO hi) (F.va x)) e r Q := rfl
@[go_sem ↓] theorem opsW_fa (d : Nat) (x : E) (off : Nat) : opsW P e (⟨none, .fa d x off⟩ :: r) F σ Q = KW P (faW d F σ off (F.ev x)) e r Q := rfl
@[go_sem ↓] theorem opsW_fd (d : Nat) (x : E) (off : Nat) (n : Nat) (g : Bool) : opsW P e (⟨none, .fd d x off n g⟩ :: r) F σ Q = KW P (fdW d F σ off n g (F.va x)) e r Q := rfl
@[go_sem ↓] theorem opsW_ia (d : Nat) (x : E) (i : E) (s : Nat) : opsW P e (⟨none, .ia d x i s⟩ :: r) F σ Q = KW P (iaW d F σ s (F.va x) (F.va i)) e r Q := rfl
@[go_sem ↓] theorem opsW_iA (d : Nat) (x : E) (i : E) (s : Nat) (len : Nat) : opsW P e (⟨none, .iA d x i s len⟩ :: r) F σ Q = KW P (iAW d F σ s len (F.ev x) (F.va i)) e r Q := rfl
@[go_sem ↓] theorem opsW_ix (d : Nat) (x : E) (i : E) : opsW P e (⟨none, .ix d x i⟩ :: r) F σ Q = KW P (ixW d F σ (F.va x) (F.va i)) e r Q := rfl
@[go_sem ↓] theorem opsW_lk (d : Nat) (lv : List LK) (m : E) (k : E) (ok : Bool) (z : V) : opsW P e (⟨none, .lk d lv m k ok z⟩ :: r) F σ Q = KW P (lkW d F σ lv (F.va k) ok z (F.va m)) (see e (F.ev m).sees) r Q := rfl
@[go_sem ↓] theorem opsW_mu (lv : List LK) (m : E) (k : E) (v : E) : opsW P e (⟨none, .mu lv m k v⟩ :: r) F σ Q = KW P (muW F σ lv (F.va k) (F.va v) (F.va m)) e r Q := rfl
@[go_sem ↓] theorem opsW_ex (d : Nat) (x : E) (i : Nat) : opsW P e (⟨none, .ex d x i⟩ :: r) F σ Q = KW P (exW d F σ i (F.va x)) e r Q := rfl
@[go_sem ↓] theorem opsW_ap (d : Nat) (s : Nat) (x : E) (y : E) : opsW P e (⟨none, .ap d s x y⟩ :: r) F σ Q = KW P (apW d F σ s (F.va y) (F.va x)) e r Q := rfl
@[go_sem ↓] theorem opsW_ln (d : Nat) (k : EK) (x : E) : opsW P e (⟨none, .ln d k x⟩ :: r) F σ Q = KW P (lnW d F σ k (F.va x)) (see e (F.ev x).sees) r Q := rfl
@[go_sem ↓] theorem opsW_mx (d : Nat) (x : E) (y : E) : opsW P e (⟨none, .mx d x y⟩ :: r) F σ Q = KW P (mxW d F σ (F.va x) (F.va y)) e r Q := rfl
@[go_sem ↓] theorem opsW_mn (d : Nat) (x : E) (y : E) : opsW P e (⟨none, .mn d x y⟩ :: r) F σ Q = KW P (mnW d F σ (F.va x) (F.va y)) e r Q := rfl
@[go_sem ↓] theorem opsW_de (lv : List LK) (m : E) (k : E) : opsW P e (⟨none, .de lv m k⟩ :: r) F σ Q = KW P (deW F σ lv (F.va k) (F.va m)) e r Q := rfl
@[go_sem ↓] theorem opsW_ca (d : Option Nat) (f : FuncId) (xs : List E) : opsW P e (⟨none, .ca d f xs⟩ :: r) F σ Q = CallK P f (xs.map F.va) d F σ e r Q := rfl
theorem opsW_cv' (d : Option Nat) (f : E) (xs : List E) : opsW P e (⟨none, .cv d f xs⟩ :: r) F σ Q = CallV P (F.va f) (xs.map F.va) d F σ e r Q := rfl
@[go_sem ↓] theorem opsW_g (g : Nat) (b : Bool) (o : O) : opsW P e (⟨some (g, b), o⟩ :: r) F σ Q = GW P (F.va (.t g)) b o F σ e r Q := by
  cases o <;> rfl
@[go_sem] theorem opsW_nil : opsW P e [] F σ Q = Q .normal F σ := rfl
@[go_sem] theorem KW_ok : KW P (.ok F σ) e r Q = opsW P e r F σ Q := rfl
@[go_sem] theorem KW_need {p : Prop} : KW P (.need p F σ) e r Q = (p ∧ opsW P e r F σ Q) := rfl
theorem GW_b {c b : Bool} {o : O} : GW P (.bool c) b o F σ e r Q = ((c = b → opsW P e (⟨none, o⟩ :: r) F σ Q) ∧ (c ≠ b → opsW P e r (setO F o.dst (.tup [])) σ Q)) := by
  simp [GW]
@[go_sem] theorem GW_u {b : Bool} {o : O} : GW P (.tup []) b o F σ e r Q = opsW P e r (setO F o.dst (.tup [])) σ Q := by simp [GW]
@[go_sem] theorem GW_tt {o : O} : GW P (.bool true) true o F σ e r Q = opsW P e (⟨none, o⟩ :: r) F σ Q := by simp [GW]
@[go_sem] theorem GW_ff {o : O} : GW P (.bool false) false o F σ e r Q = opsW P e (⟨none, o⟩ :: r) F σ Q := by simp [GW]
@[go_sem] theorem GW_tf {o : O} : GW P (.bool true) false o F σ e r Q = opsW P e r (setO F o.dst (.tup [])) σ Q := by simp [GW]
@[go_sem] theorem GW_ft {o : O} : GW P (.bool false) true o F σ e r Q = opsW P e r (setO F o.dst (.tup [])) σ Q := by simp [GW]
@[go_sem ↓] theorem CW_skip : C.W P .skip F σ (conts P Q k) = conts P Q k .normal F σ := rfl
@[go_sem ↓] theorem CW_ops (l : List GO) : C.W P (.ops l) F σ (conts P Q k) = opsW P none l F σ (conts P Q k) := rfl
@[go_sem ↓] theorem CW_opsD (l : List GO) : C.W P (.opsD l) F σ (conts P Q k) = opsW P (some []) l F σ (conts P Q k) := rfl
@[go_sem ↓] theorem CW_opsE (l m : List GO) : C.W P (.opsE l m) F σ (conts P Q k) = (opsW P (some []) l F σ (conts P Q k) ∧ opsW P (some []) m F σ (conts P Q k)) := rfl
@[go_sem ↓] theorem CW_seq (a b : C) : C.W P (.seq a b) F σ (conts P Q k) = C.W P a F σ (conts P Q (.seq b :: k)) := by
  simp only [C.W]; congr
@[go_sem ↓] theorem CW_exit (i : Nat) : C.W P (.exit i) F σ (conts P Q k) = conts P Q k (.exit i) F σ := rfl
@[go_sem ↓] theorem CW_ret : C.W P .ret F σ (conts P Q k) = conts P Q k .ret F σ := rfl
@[go_sem ↓] theorem CW_block (i : Nat) (c : C) : C.W P (.block i c) F σ (conts P Q k) = C.W P c F σ (conts P Q (.block i :: k)) := by
  simp only [C.W]; congr
@[go_sem ↓] theorem CW_cond (x : E) (a b : C) : C.W P (.cond x a b) F σ (conts P Q k) = CondW P (F.va x) a b F σ k Q := rfl
@[go_sem ↓] theorem CW_loop (c : C) : C.W P (.loop c) F σ (conts P Q k) = LoopW P c F σ k Q := rfl
@[go_sem] theorem CondW_t (a b : C) : CondW P (.bool true) a b F σ k Q = a.W P F σ (conts P Q k) := by simp [CondW]
@[go_sem] theorem CondW_f (a b : C) : CondW P (.bool false) a b F σ k Q = b.W P F σ (conts P Q k) := by simp [CondW]
theorem CondW_b {c : Bool} {a b : C} (h1 : c = true → a.W P F σ (conts P Q k)) (h2 : c = false → b.W P F σ (conts P Q k)) : CondW P (.bool c) a b F σ k Q := ⟨c, rfl, h1, h2⟩
@[go_sem ↓] theorem conts_nil (x : X) : conts P Q [] x F σ = Q x F σ := rfl
@[go_sem ↓] theorem conts_seq_n (b : C) : conts P Q (.seq b :: k) .normal F σ = b.W P F σ (conts P Q k) := rfl
@[go_sem ↓] theorem conts_seq_e (b : C) (i : Nat) : conts P Q (.seq b :: k) (.exit i) F σ = conts P Q k (.exit i) F σ := rfl
@[go_sem ↓] theorem conts_seq_r (b : C) : conts P Q (.seq b :: k) .ret F σ = conts P Q k .ret F σ := rfl
@[go_sem ↓] theorem conts_cut_e (b : C) (i : Nat) : conts P Q (.cut b :: k) (.exit i) F σ = conts P Q k (.exit i) F σ := rfl
@[go_sem ↓] theorem conts_cut_r (b : C) : conts P Q (.cut b :: k) .ret F σ = conts P Q k .ret F σ := rfl
@[go_sem ↓] theorem conts_block_n (i : Nat) : conts P Q (.block i :: k) .normal F σ = conts P Q k .normal F σ := rfl
@[go_sem ↓] theorem conts_block_r (i : Nat) : conts P Q (.block i :: k) .ret F σ = conts P Q k .ret F σ := rfl
@[go_sem ↓] theorem conts_block_e (i j : Nat) : conts P Q (.block i :: k) (.exit j) F σ = (if j = i then conts P Q k .normal F σ else conts P Q k (.exit j) F σ) := rfl

theorem W_mono {c : C} : ∀ {F : Fr} {σ : St} {Q Q' : X → Fr → St → Prop}, c.W P F σ Q → (∀ x F σ, Q x F σ → Q' x F σ) → c.W P F σ Q' := by
  induction c with
  | skip => intro F σ Q Q' h hq; exact hq _ _ _ h
  | ops l => intro F σ Q Q' h hq; exact opsW_mono (fun F σ h => hq _ _ _ h) h
  | opsD l => intro F σ Q Q' h hq; exact opsW_mono (fun F σ h => hq _ _ _ h) h
  | opsE l m => intro F σ Q Q' h hq; exact ⟨opsW_mono (fun F σ h => hq _ _ _ h) h.1, opsW_mono (fun F σ h => hq _ _ _ h) h.2⟩
  | exit i => intro F σ Q Q' h hq; exact hq _ _ _ h
  | ret => intro F σ Q Q' h hq; exact hq _ _ _ h
  | range _ _ _ _ => intro F σ Q Q' h; exact h.elim
  | cond x a b iha ihb =>
    intro F σ Q Q' h hq
    obtain ⟨c, h1, h2, h3⟩ := h
    exact ⟨c, h1, fun e => iha (h2 e) hq, fun e => ihb (h3 e) hq⟩
  | seq a b iha ihb =>
    intro F σ Q Q' h hq
    refine iha h fun x F σ hx => ?_
    cases x with
    | normal => exact ihb hx hq
    | exit i => exact hq _ _ _ hx
    | ret => exact hq _ _ _ hx
  | cut a b iha ihb =>
    intro F σ Q Q' h hq
    obtain ⟨R, h1, h2⟩ := h
    refine ⟨R, iha h1 fun x F σ hx => ?_, fun G σ hr => ihb (h2 G σ hr) hq⟩
    cases x with
    | normal => exact hx
    | exit i => exact hq _ _ _ hx
    | ret => exact hq _ _ _ hx
  | block i c ih =>
    intro F σ Q Q' h hq
    refine ih h fun x F σ hx => ?_
    cases x with
    | normal => exact hq _ _ _ hx
    | exit j =>
      simp only at hx ⊢
      split
      · rename_i e; rw [if_pos e] at hx; exact hq _ _ _ hx
      · rename_i e; rw [if_neg e] at hx; exact hq _ _ _ hx
    | ret => exact hq _ _ _ hx
  | loop c ih =>
    intro F σ Q Q' h hq
    obtain ⟨α, fr, inv, m, x0, h1, h2, h3⟩ := h
    refine ⟨α, fr, inv, m, x0, h1, h2, fun x σ hi => ih (h3 x σ hi) fun y F σ hy => ?_⟩
    cases y with
    | normal => exact hy
    | exit i => exact hq _ _ _ hy
    | ret => exact hq _ _ _ hy

/-- Where ways meet, both go on. -/
theorem cut_dup {a b : C} (h : C.W P a F σ (conts P Q (.seq b :: k))) : C.W P (.cut a b) F σ (conts P Q k) := by
  refine ⟨fun G σ' => b.W P G σ' (conts P Q k), ?_, fun _ _ h => h⟩
  refine W_mono h fun x F' σ' hx => ?_
  cases x with
  | normal => exact ⟨F', FrLe.refl F', hx⟩
  | exit i => exact hx
  | ret => exact hx

/-- A cut: what is known where the ways meet. -/
theorem cut_at {a b : C} (R : Fr → St → Prop) (h : ∀ Z : X → Fr → St → Prop, (∀ G F' σ', FrLe G F' → R G σ' → Z .normal F' σ') → (∀ i F' σ', conts P Q k (.exit i) F' σ' → Z (.exit i) F' σ') →
      (∀ F' σ', conts P Q k .ret F' σ' → Z .ret F' σ') → C.W P a F σ (conts P Z [])) (hb : ∀ G σ', R G σ' → b.W P G σ' (conts P Q k)) : C.W P (.cut a b) F σ (conts P Q k) :=
  ⟨R, W_mono (h (fun x F' σ' => match x with
    | .normal => ∃ G, FrLe G F' ∧ R G σ'
    | x => conts P Q k x F' σ') (fun G F' σ' h1 h2 => ⟨G, h1, h2⟩) (fun _ _ _ h => h) (fun _ _ h => h)) (fun x F σ h => by cases x <;> exact h), hb⟩

/-- A loop. -/
theorem loop_at {c : C} {α : Type} (fr : α → Fr) (inv : α → St → Prop) (m : α → Nat) (x0 : α) (h0 : FrLe (fr x0) F) (h1 : inv x0 σ)
    (hr : ∀ x σ, inv x σ → ∀ Z : X → Fr → St → Prop, (∀ x' F' σ', FrLe (fr x') F' → m x' < m x → inv x' σ' → Z .normal F' σ') → (∀ i F' σ', conts P Q k (.exit i) F' σ' → Z (.exit i) F' σ') →
      (∀ F' σ', conts P Q k .ret F' σ' → Z .ret F' σ') → c.W P (fr x) σ (conts P Z [])) : LoopW P c F σ k Q := by
  refine ⟨α, fr, inv, m, x0, h0, h1, fun x σ hi => W_mono (hr x σ hi (fun y F' σ' => match y with
      | .normal => ∃ x', m x' < m x ∧ FrLe (fr x') F' ∧ inv x' σ'
      | y => conts P Q k y F' σ') (fun x' F' σ' h1 h2 h3 => ⟨x', h2, h1, h3⟩) (fun _ _ _ h => h) (fun _ _ h => h)) fun y F' σ' hy => ?_⟩
  cases y <;> exact hy

/-- A call. -/
theorem call_at {f : FuncId} {xs : List V} {d : Option Nat} {l : List GO} {K : V → St → Prop} (h : CallA P f xs σ K) (hk : ∀ v σ', K v σ' → Kept e σ σ' ∧ opsW P e l (setO F d v) σ' Q) :
    CallK P f xs d F σ e l Q := CallA.mono h hk

/-- A function's contract. -/
theorem fn_at {f : FuncId} {fn : Func} {xs : List V} {ts : List RV} {c : C} {K : V → St → Prop} {loc : List Nat} (hf : P.funcs[f]? = some fn) (hnm : (fn.name == "runtime.NumGoroutine") = false)
    (hc : compFn P loc fn = some (ts, c)) (hx : Nat.ble xs.length fn.ntmps = true)
    (h : ∀ Q : X → Fr → St → Prop, (∀ F σ', retW F σ' (fun v => K v σ') ts [] → Q .normal F σ') → (∀ F σ', retW F σ' (fun v => K v σ') ts [] → Q .ret F σ') → c.W P (inFr xs) σ (conts P Q [])) : CallA P f xs σ K := by
  refine fn_call hf hnm hc (Nat.le_of_ble_eq_true hx) (W_mono (h (fun x F σ' => match x with
      | .exit _ => False
      | _ => retW F σ' (fun v => K v σ') ts []) (fun _ _ h => h) (fun _ _ h => h)) fun x F σ' hx => ?_)
  cases x <;> exact hx
end
end Go.VL

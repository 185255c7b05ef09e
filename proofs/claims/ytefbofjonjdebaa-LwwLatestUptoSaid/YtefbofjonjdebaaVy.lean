/- The V-logic, part 25: the equations that evaluation goes by. -/
import Derived.Test.YtefbofjonjdebaaVx
set_option linter.unusedVariables false
set_option linter.unusedSimpArgs false
namespace Go.VL
open Go

theorem beq_nat (a b : Nat) : Nat.beq a b = (a == b) := by
  cases h : Nat.beq a b with
  | true => simp [Nat.eq_of_beq_eq_true h]
  | false => simp [Nat.ne_of_beq_eq_false h]
theorem ble_nat (a b : Nat) : Nat.ble a b = decide (a ≤ b) := by
  cases h : Nat.ble a b with
  | true => simp [Nat.le_of_ble_eq_true h]
  | false =>
    have : ¬ a ≤ b := fun x => by rw [Nat.ble_eq_true_of_le x] at h; cases h
    simp [this]
theorem setC_get {σ : St} {i : Nat} {cs : List V} (h : i < σ.objs.length) : (σ.setC i cs).objs[i]? = some (.cells cs) := by simp [St.setC, h]
theorem setC_setC {σ : St} {i : Nat} {a b : List V} : (σ.setC i a).setC i b = σ.setC i b := by simp [St.setC]
section
variable {r r' s : Nat} {es : List (List V)}
@[go_sem] theorem renS_own (q t : Nat) (l : List (List V)) : renS r r' s es (.v (.sl false (.own q) t l)) = bif Nat.beq q r then .v (.sl false (.own r') s es) else .v (.sl false (.own q) t l) := rfl
@[go_sem] theorem renS_eown (q t i o : Nat) (l : List (List V)) : renS r r' s es (.v (.elt (.own q) t l i o)) = bif Nat.beq q r then .v (.elt (.own r') s es i o) else .v (.elt (.own q) t l i o) := rfl
@[go_sem] theorem renS_pub (b : Bool) (t : Nat) (l : List (List V)) : renS r r' s es (.v (.sl b .pub t l)) = .v (.sl b .pub t l) := by cases b <;> rfl
@[go_sem] theorem renS_view (b : Bool) (q t : Nat) (l : List (List V)) : renS r r' s es (.v (.sl b (.view q) t l)) = .v (.sl b (.view q) t l) := by cases b <;> rfl
@[go_sem] theorem renS_nil (R : R) (t : Nat) (l : List (List V)) : renS r r' s es (.v (.sl true R t l)) = .v (.sl true R t l) := by cases R <;> rfl
@[go_sem] theorem renS_epub (t i o : Nat) (l : List (List V)) : renS r r' s es (.v (.elt .pub t l i o)) = .v (.elt .pub t l i o) := rfl
@[go_sem] theorem renS_eview (q t i o : Nat) (l : List (List V)) : renS r r' s es (.v (.elt (.view q) t l i o)) = .v (.elt (.view q) t l i o) := rfl
@[go_sem] theorem renS_loc (k o : Nat) : renS r r' s es (.loc k o) = .loc k o := rfl
@[go_sem] theorem renS_int (k : IntKind) (n : Int) : renS r r' s es (.v (.int k n)) = .v (.int k n) := rfl
@[go_sem] theorem renS_bool (b : Bool) : renS r r' s es (.v (.bool b)) = .v (.bool b) := rfl
@[go_sem] theorem renS_str (x : List UInt8) : renS r r' s es (.v (.str x)) = .v (.str x) := rfl
@[go_sem] theorem renS_agg (x : List V) : renS r r' s es (.v (.agg x)) = .v (.agg x) := rfl
@[go_sem] theorem renS_tup (x : List V) : renS r r' s es (.v (.tup x)) = .v (.tup x) := rfl
@[go_sem] theorem renS_ptr (x : Option (Nat × Nat)) : renS r r' s es (.v (.ptr x)) = .v (.ptr x) := rfl
@[go_sem] theorem renS_map (x : Option Nat) : renS r r' s es (.v (.map x)) = .v (.map x) := rfl
@[go_sem] theorem renS_fn (f : FuncId) (x : List V) : renS r r' s es (.v (.fn f x)) = .v (.fn f x) := rfl
@[go_sem] theorem renS_nilf : renS r r' s es (.v .nilf) = .v .nilf := rfl
@[go_sem] theorem renS_bad : renS r r' s es (.v .bad) = .v .bad := rfl
end
@[go_sem] theorem toView_pub : R.toView .pub = .pub := rfl
@[go_sem] theorem toView_own (r : Nat) : R.toView (.own r) = .view r := rfl
@[go_sem] theorem toView_view (r : Nat) : R.toView (.view r) = .view r := rfl
attribute [go_sem] Option.isNone_some Option.isNone_none Bool.not_true Bool.not_false keyFits fits LK.fits see V.sees S.sees ble_nat setC_setC decide_true decide_false List.take_zero List.take_succ_cons List.take_nil beq_nat Fr.set Fr.ev Fr.va S.val sget sset lget lset Fr.setL Fr.newL sdrop setO O.dst inFr numbered Fr.vaO
  bin iibin ibin sbin bqW unW beW pkB pkW overC overs bldW cellsOf V.flat flats lits litW bxLW bxHW ldC ldL ldO Res.also ldV ldW stL stO stV stW stC ncW cIW cSW cTW cBW faW fdW iaW iAV iAW ixW
  renL seO seV seC cond_true cond_false if_true if_false ite_true ite_false List.drop_zero List.length_cons List.length_nil Bool.and_true Bool.true_and Bool.and_false Bool.false_and List.drop_succ_cons List.map_cons List.map_nil List.nil_append List.cons_append lkR lkO lkW muO muW deO deW exW apE apR apW lnO lnW mxW mnW bndN slB ssB bnd0 slW ssW msW retV retW resK over sLe lLe
end Go.VL

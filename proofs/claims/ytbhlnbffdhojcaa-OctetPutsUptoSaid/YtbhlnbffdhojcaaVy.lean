/- The V-logic, part 25: the equations that evaluation goes by. -/
import Derived.Test.YtbhlnbffdhojcaaVx
set_option linter.unusedVariables false
set_option linter.unusedSimpArgs false
namespace Go.VL
open Go

theorem beq_nat (a b : Nat) : Nat.beq a b = (a == b) := by
  cases h : Nat.beq a b with
  | true => simp [Nat.eq_of_beq_eq_true h]
  | false => simp [Nat.ne_of_beq_eq_false h]
theorem ble_nat (a b : Nat) : Nat.ble a b = decide (a ≤ b) := by
  cases h : Nat.ble a b with
  | true => simp [Nat.le_of_ble_eq_true h]
  | false =>
    have : ¬ a ≤ b := fun x => by rw [Nat.ble_eq_true_of_le x] at h; cases h
    simp [this]
theorem setC_get {σ : St} {i : Nat} {cs : List V} (h : i < σ.objs.length) : (σ.setC i cs).objs[i]? = some (.cells cs) := by simp [St.setC, h]
theorem setC_setC {σ : St} {i : Nat} {a b : List V} : (σ.setC i a).setC i b = σ.setC i b := by simp [St.setC]
@[go_sem] theorem toView_pub : R.toView .pub = .pub := rfl
@[go_sem] theorem toView_own (r : Nat) : R.toView (.own r) = .view r := rfl
@[go_sem] theorem toView_view (r : Nat) : R.toView (.view r) = .view r := rfl
attribute [go_sem] see V.sees S.sees ble_nat setC_setC decide_true decide_false List.take_zero List.take_succ_cons List.take_nil beq_nat Fr.set Fr.ev Fr.va S.val sget sset lget lset Fr.setL Fr.newL sdrop setO O.dst inFr numbered Fr.vaO
  bin iibin ibin sbin bqW unW beW pkB pkW overC overs bldW cellsOf V.flat flats lits litW bxLW bxHW ldC ldL ldO Res.also ldV ldW stL stO stV stW stC ncW cIW cSW cTW cBW faW fdW iaW iAV iAW ixW
  renS renL seO seV seC cond_true cond_false if_true if_false ite_true ite_false List.drop_zero List.length_cons List.length_nil Bool.and_true Bool.true_and Bool.and_false Bool.false_and List.drop_succ_cons List.map_cons List.map_nil List.nil_append List.cons_append lkR lkO lkW muO muW deO deW exW apE apR apW lnO lnW mxW mnW bndN slB ssB bnd0 slW ssW msW retV retW resK over sLe lLe
end Go.VL

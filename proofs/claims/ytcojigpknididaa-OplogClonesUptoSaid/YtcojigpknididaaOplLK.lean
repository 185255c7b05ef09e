/- What is proved: for whatever changes, and whatever more, OplogClones tells true, and all that was there is as it was. Condition: the statement's own bound on the bulk of the arguments (1048576); no other. -/
import Derived.Test.YtcojigpknididaaB4
import Derived.Test.YtcojigpknididaaRows
set_option linter.unusedVariables false
set_option linter.unusedSimpArgs false
namespace Go.Proofs.Ytcojigpknididaa.oplogClones
open Go Go.VL Go.ChangeShapes Go.WideShapes Go.ChangeAt Go.RowKit

theorem own : ownKnob Try.prog.godebug = none := by kernel_rfl
theorem laidOut : laidOutB Try.prog = true := by kernel_rfl

theorem bulkAll {H : Type} : ∀ ds : List (DataW H), Rows.uptoBulkAll ds = (ds.map Rows.uptoBulk).sum
  | [] => rfl
  | d :: r => by simp only [Rows.uptoBulkAll, List.map_cons, List.sum_cons, bulkAll r]
theorem bulk {H : Type} : Bulk (Rows.uptoBulk : DataW H → Nat) where
  lit := fun l => by cases l <;> simp [Rows.uptoBulk]
  str := fun s => by simp [Rows.uptoBulk]
  nil := by simp [Rows.uptoBulk]
  slice := fun es sp => by simp only [Rows.uptoBulk, bulkAll]; omega
  agg := fun ps => by simp only [Rows.uptoBulk, bulkAll]; omega

set_option maxRecDepth 100000 in
theorem contract (H : Type) (enc : TypeId × Value → H) (W : World) (base : Nat) (args : Array Value) (ds gs : List (DataW H)) (before : List MemPlace)
    (hval : ∀ (j : Nat) t v, Try.f10.params[j]? = some t → args[j]? = some v → Value.okWide Try.prog W .any base t v)
    (hW : DataW.Whole enc Try.prog Try.f10.params.toList Rows.oplogClonesSpec.vars false W args.toList ds gs before) (hk : Rows.uptoSmall H (ds ++ gs) = true) :
    Calls Try.prog 10 args W fun e W' => ∃ v, e = .returned v ∧ Rows.oplogClonesSpec.post enc Try.prog Try.f10 false true false false W args v W' := by
  have hb := of_decide_eq_true hk
  rw [bulkAll] at hb
  refine law_calls bulk (n := 20) (Ts := [.sl 13 (.agg Go.VL.opl.CgT),  .sl 13 (.agg Go.VL.opl.CgT)]) laidOut (by kernel_rfl) (by kernel_rfl) rfl rfl Try.underlying4 ?_ hval hW ?_
  · intro ds hl
    match ds, hl with
    | [_, _], _ => rfl
  · rintro xs ⟨x, ys, rfl, hx, y, zs, rfl, hy, rfl⟩ hle
    obtain ⟨gs, h1⟩ := Go.VL.opl.arg_cgs hx
    obtain ⟨hs, h2⟩ := Go.VL.opl.arg_cgs hy
    simp only [vbas] at hle
    exact Go.VL.opl.clones_law (h1 (by omega)) (h2 (by omega))

set_option maxRecDepth 100000 in
theorem lifted (os : Os) (started : os.Started) (H : Type) (enc : TypeId × Value → H) (F : Stop.Interp) :
    ReturnsInHanded {} Try.checked os 10 .any ((Rows.OpenSpec.upto Rows.oplogClonesSpec).pre6 enc Try.prog Try.f10 Rows.oplogClonesUptoRow.domain false) (((Rows.OpenSpec.upto Rows.oplogClonesSpec).at F).post enc Try.prog Try.f10 false true false false) := by
  refine returnsInHanded_of_cond (C := Try.checked) (s := Rows.OpenSpec.upto Rows.oplogClonesSpec) (k := Rows.uptoSmall) rfl own started (by kernel_rfl) Try.func10
    (OpenSpec.witness (enc := enc) (C := Try.checked) (s := Rows.OpenSpec.upto Rows.oplogClonesSpec) (k := Rows.uptoSmall) rfl false ⟨#[], #[.slice none 0 0, .slice none 0 0], []⟩ 12 (by kernel_rfl) (by kernel_rfl) (by kernel_rfl)
      (x := ([.nil, .nil], [], [])) (by kernel_rfl) rfl (by kernel_rfl)) ?_
  intro W base args ds gs before hval hW _ hk _
  exact contract H enc W base args ds gs before hval hW hk

theorem over : Rows.oplogClonesUptoRow.holds Try.pinned (Rows.OpenSpec.upto Rows.oplogClonesSpec) :=
  OpenClaim.holds_of_cond 10 Try.f10 rfl rfl rfl rfl rfl rfl rfl ⟨rfl, rfl, rfl, rfl, rfl⟩ rfl rfl rfl rfl rfl (by kernel_rfl) Try.func10 (by kernel_rfl)
    (of_decide_eq_true (by kernel_rfl)) (by unfold Func.isWrapper; first | (rw [if_pos (by decide +kernel)]; kernel_rfl) | (rw [if_neg (by decide +kernel)]; exact ⟨rfl, rfl⟩))
    (fun os started H enc _ F => lifted os started H enc F)

theorem proved : Rows.OplogClonesUptoSaid :=
  over
end Go.Proofs.Ytcojigpknididaa.oplogClones

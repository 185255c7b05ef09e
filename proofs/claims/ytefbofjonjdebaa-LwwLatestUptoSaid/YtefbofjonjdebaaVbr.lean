/- The V-logic, part 27: from a contract to a claim. -/
import Derived.Test.YtefbofjonjdebaaVza
import Derived.WalkKit
import Derived.ProofKit
import Derived.OpenShut
import Derived.JoinedCond
set_option linter.unusedVariables false
set_option linter.unusedSimpArgs false
namespace Go.VL
open Go Go.ChangeShapes Go.WideShapes Go.ChangeAt Go.RowKit

/-- What was there is as it was. -/
structure OldKept (W w' : World) : Prop where
  os : w'.os = W.os
  out : w'.output = W.output
  heap : ∀ (b : Nat) (o : Obj), W.heap[b]? = some o → w'.heap[b]? = some o

def pubOf (W : World) (b : Nat) : List Value := match W.heap[b]? with
  | some (.cells c _ _) => c.toList
  | _ => []
/-- The ghost at a claim's start: all that is there is laid aside, and may be read. -/
def g0 (W : World) : G := { mu := [], rho := [], pub := pubOf W, phi := fun b => W.heap[b]?, snap := fun _ _ => none, os := W.os, tape := W.tape, out := W.output }

theorem inv0 (W : World) : INV (g0 W) ⟨[], []⟩ W where
  os := rfl
  tape := rfl
  out := rfl
  phi := fun _ _ h => h
  pub := fun b i v h => by
    simp only [g0, pubOf] at h
    split at h
    · rename_i c e z hx
      exact ⟨c, e, z, hx, by simpa using h⟩
    · simp at h
  mulen := rfl
  objs := fun i b o h => by simp [g0] at h
  inj := fun i j b h => by simp [g0] at h
  rholen := rfl
  own := fun r v s es h => by simp at h
  snapb := fun b n x h => by simp [g0] at h
  apart := fun r r' v s es v' s' es' b h => by simp at h

theorem entry {P : Program} {f : FuncId} {xs : List V} {W : World} {vs : List Value} {K : V → St → Prop} (h : CallA P f xs ⟨[], []⟩ K) (hr : RepL (g0 W) xs vs) :
    Calls P f vs.toArray W fun e w' => ∃ v x σ γ, e = .returned v ∧ OldKept W w' ∧ INV γ σ w' ∧ Rep γ x v ∧ K x σ := by
  refine (h.2 (g0 W) W vs (inv0 W) hr).mono ?_
  rintro e w' ⟨v, x, σ, γ, rfl, hle, hi, hx, hk⟩
  refine ⟨v, x, σ, γ, rfl, ⟨hi.os.trans hle.os, hi.out.trans hle.out, fun b o hb => hi.phi b o ?_⟩, hi, hx, hk⟩
  rw [hle.phi]; exact hb

theorem OldKept.frame {W w' : World} (h : OldKept W w') (may : MemPlace → Prop) : W.keptBut w' may := by
  refine ⟨h.os, h.out, fun i hi => ?_⟩
  have h1 : W.heap[i]? = some W.heap[i] := Array.getElem?_eq_getElem hi
  rw [h1, h.heap _ _ h1]
  cases W.heap[i] <;> simp

theorem OldKept.frozen {W w' : World} (h : OldKept W w') {a : Addr} (ha : a.block < W.heap.size) : w'.frozen? a = W.frozen? a := by
  have h1 : W.heap[a.block]? = some W.heap[a.block] := Array.getElem?_eq_getElem ha
  simp only [World.frozen?, h1, h.heap _ _ h1]

/-- A claim's postcondition where nothing that was there has changed. -/
theorem post_of_old {H : Type} {enc : TypeId × Value → H} {P : Program} {f : Func} {s : ChangeSpec} {apart fresh handsOn again : Bool} {W W' : World} {args : Array Value} {v : Value} {ds gs : List (DataW H)} {before pa pv : List MemPlace}
    (hW : DataW.Whole enc P f.params.toList s.vars apart W args.toList ds gs before)
    (hres : ∀ (b : Nat) (sp : Nat → Bool) (hd : Bool), DataW.TrodAll enc P W' b sp hd f.resultTypes.toList (v.resultList f.resultTypes.size) (s.fn H (ds ++ gs)).results [])
    (hargs : ∀ sp : Nat → Bool, (∀ p ∈ before, sp p.block = true) → DataW.TrodAll enc P W' 0 sp true f.params.toList args.toList (s.fn H (ds ++ gs)).args pa)
    (hvars : ∀ sp : Nat → Bool, (∀ p ∈ before, sp p.block = true) → DataW.TrodVars enc P W' sp s.vars (s.fn H (ds ++ gs)).vars pv)
    (hps : before = pa ++ pv) (hk : OldKept W W')
    (hok : ∀ (j : Nat) (t : TypeId) (r : Value), f.resultTypes[j]? = some t → (v.resultList f.resultTypes.size)[j]? = some r → Value.okWide P W' .any 0 t r) :
    s.post enc P f apart fresh handsOn again W args v W' := by
  have hold : ∀ p ∈ before, (fun b => decide (b < W.heap.size)) p.block = true := fun p hp => by simpa using hW.lt p hp
  have hlt := hW.lt
  refine ⟨ds, gs, before, [], pa, pv, hW, hres _ _ _, hargs _ hold, hvars _ hold, World.keptBut_mono (fun p hp => ⟨hp, ?_⟩) (hk.frame (· ∈ before)), fun _ => ?_⟩
  · rw [hps, List.mem_append] at hp
    exact Or.inr hp
  · obtain ⟨_, _, _, _, _, hz, hn⟩ := hW
    refine ⟨hok, _, _, ([] ++ pa) ++ pv, ⟨[] ++ pa, pv, trodAll_append (hargs _ (fun _ _ => rfl)) (hres _ _ _), hvars _ (fun _ _ => rfl), rfl, ?_, ?_⟩, ?_⟩
    · intro b off hp
      have hp' : MemPlace.cell b off ∈ before := by rw [hps]; simpa using hp
      rw [hk.frozen (by have := hlt _ hp'; exact this)]
      exact hz b off hp'
    · intro ha
      have := hn ha
      rw [hps] at this
      simpa using this
    · intro p hp _
      rw [hps]
      simpa using hp
end Go.VL

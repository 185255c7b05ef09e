/- The V-logic, part 28: a reading comes to the same where what was there is as it was. -/
import Derived.Test.YtefbofjonjdebaaVbr
import Derived.ReadAgain
set_option linter.unusedVariables false
set_option linter.unusedSimpArgs false
namespace Go.VL
open Go

section
variable {H : Type} {enc : TypeId × Value → H} {P : Program} {w w' : World} {base : Nat} {sp : Nat → Bool} {held : Bool}

theorem OldKept.same {W W' : World} (h : OldKept W W') {p : MemPlace} (hp : p.block < W.heap.size) : W.sameAt W' p := by
  have h1 : W.heap[p.block]? = some W.heap[p.block] := Array.getElem?_eq_getElem hp
  have h2 := h.heap _ _ h1
  cases p with
  | cell b off =>
    simp only [MemPlace.block] at h1 h2
    simp only [World.sameAt, World.cell?, h1, h2]
  | map b =>
    simp only [MemPlace.block] at h1 h2
    simp only [World.sameAt, h1, h2]

theorem trodAll_old : ∀ {ts : List TypeId} {vs : List Value} {ds : List (DataW H)} {ps : List MemPlace}, DataW.TrodAll enc P w base sp held ts vs ds ps → (∀ p ∈ ps, w.sameAt w' p) → DataW.TrodAll enc P w' base sp held ts vs ds ps
  | [], [], [], _, h, _ => h
  | _ :: _, _ :: _, _ :: _, _, ⟨p, q, ⟨n, h1⟩, h2, e⟩, hs =>
    ⟨p, q, ⟨n, DataW.trod_carry n _ _ _ h1 (fun x hx => hs x (by rw [e]; exact List.mem_append_left _ hx))⟩, trodAll_old h2 (fun x hx => hs x (by rw [e]; exact List.mem_append_right _ hx)), e⟩
end
end Go.VL

/- The V-logic, part 29: arguments that are slices. -/
import Derived.Test.YtefbofjonjdebaaVtr
set_option linter.unusedVariables false
set_option linter.unusedSimpArgs false
namespace Go.VL
open Go

/-- Cells that were there from the start. -/
theorem pub_cells {W : World} {a : Addr} {vs : List Value} (h : ∀ (i : Nat) v, vs[i]? = some v → W.cell? ⟨a.block, a.off + i, none⟩ = some v) : pubAt (g0 W) a.block a.off vs := by
  intro i v hv
  have hc := h i v hv
  simp only [g0, pubOf]
  unfold World.cell? at hc
  cases hb : W.heap[a.block]? with
  | none => rw [hb] at hc; cases hc
  | some o =>
    rw [hb] at hc
    cases o with
    | cells c e z => simpa using hc
    | _ => cases hc

theorem repE_ints {γ : G} (k : IntKind) : ∀ (zs : List Int), RepE γ 1 (intsV k zs) (zs.map fun n => Value.int k n)
  | [] => by simp [intsV, RepE]
  | z :: r => by
    simp only [intsV, List.map_cons, RepE]
    exact ⟨[.int k z], r.map fun n => Value.int k n, rfl, rfl, by simp only [RepL]; exact ⟨_, _, rfl, by simp only [Rep], rfl⟩, repE_ints k r, by simp [Value.oneCell']⟩

/-- A slice of numbers that was there. -/
theorem arg_ints {W : World} {k : IntKind} {a : Addr} {len cap : Nat} {zs : List Int} (hsp : a.spot = none) (hl : zs.length = len) (hc : len ≤ cap) (h : ∀ i, i < zs.length → W.cell? (a.add i) = some (.int k (zs.getD i 0))) :
    Rep (g0 W) (.sl false .pub 1 (intsV k zs)) (.slice (some a) len cap) := by
  simp only [Rep, intsV_length]
  refine ⟨a, cap, zs.map fun n => Value.int k n, by rw [hl], .inr hsp, by omega, pub_cells fun i v hv => ?_, repE_ints k zs⟩
  rw [List.getElem?_map] at hv
  cases hz : zs[i]? with
  | none => rw [hz] at hv; cases hv
  | some z =>
    rw [hz] at hv
    have hi := (List.getElem?_eq_some_iff.1 hz).1
    have := h i hi
    obtain ⟨b, o, s⟩ := a
    simp only at hsp
    subst hsp
    simp only [Option.map_some, Option.some.injEq] at hv
    subst hv
    have hd : zs.getD i 0 = z := by simp [List.getD, hz]
    rw [hd] at this
    rwa [add_spot rfl] at this

theorem repE_strs {γ : G} : ∀ (ss : List ByteArray), RepE γ 1 (ss.map fun s => [V.str s.data.toList]) (ss.map Value.string)
  | [] => by simp [RepE]
  | s :: r => by
    simp only [List.map_cons, RepE]
    exact ⟨[.string s], r.map Value.string, rfl, rfl, by simp only [RepL]; exact ⟨_, _, rfl, by simp only [Rep], rfl⟩, repE_strs r, by simp [Value.oneCell']⟩

/-- A slice of texts that was there. -/
theorem arg_strs {W : World} {a : Addr} {len cap : Nat} {ss : List ByteArray} (hsp : a.spot = none) (hl : ss.length = len) (hc : len ≤ cap) (h : ∀ i, i < ss.length → W.cell? (a.add i) = some (.string (ss.getD i ByteArray.empty))) :
    Rep (g0 W) (.sl false .pub 1 (ss.map fun s => [V.str s.data.toList])) (.slice (some a) len cap) := by
  simp only [Rep, List.length_map]
  refine ⟨a, cap, ss.map Value.string, by rw [hl], .inr hsp, by omega, pub_cells fun i v hv => ?_, repE_strs ss⟩
  rw [List.getElem?_map] at hv
  cases hz : ss[i]? with
  | none => rw [hz] at hv; cases hv
  | some z =>
    rw [hz] at hv
    have hi := (List.getElem?_eq_some_iff.1 hz).1
    have := h i hi
    obtain ⟨b, o, s⟩ := a
    simp only at hsp
    subst hsp
    simp only [Option.map_some, Option.some.injEq] at hv
    subst hv
    have hd : ss.getD i ByteArray.empty = z := by simp [List.getD, hz]
    rw [hd] at this
    rwa [add_spot rfl] at this
end Go.VL

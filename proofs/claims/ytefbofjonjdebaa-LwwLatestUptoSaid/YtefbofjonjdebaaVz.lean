/- The V-logic, part 26: slices of bytes and of numbers; what is new. -/
import Derived.Test.YtefbofjonjdebaaVy
import Derived.IntWalk
set_option linter.unusedVariables false
set_option linter.unusedSimpArgs false
namespace Go.VL
open Go

/-- A slice that may be read. -/
def RdS (σ : St) (v : V) (s : Nat) (es : List (List V)) : Prop := ∃ b r s', v = .sl b r s' es ∧ (b = true → es = []) ∧ (b = true ∨ rd σ.live r ∧ s' = s)
def intsV (k : IntKind) (l : List Int) : List (List V) := l.map fun n => [V.int k n]

theorem RdS.ext {σ τ : St} {v : V} {s : Nat} {es : List (List V)} (h : RdS σ v s es) (he : Ext σ τ) : RdS τ v s es := by
  obtain ⟨b, r, s', h1, h2, h3⟩ := h
  exact ⟨b, r, s', h1, h2, h3.imp_right fun x => ⟨rd_ext he x.1, x.2⟩⟩

theorem intsV_get {k : IntKind} {l : List Int} {i : Nat} (h : i < l.length) : (intsV k l)[((i : Nat) : Int).toNat]?.getD [] = [V.int k l[i]] := by
  simp [intsV, h]
theorem bytesV_get {l : List UInt8} {i : Nat} (h : i < l.length) : (bytesV l)[((i : Nat) : Int).toNat]?.getD [] = [V.int .u8 l[i].toNat] := by
  simp [bytesV, h]
theorem intsV_length (k : IntKind) (l : List Int) : (intsV k l).length = l.length := by simp [intsV]

/-- A slice that is owned, and new since a state. -/
def NewS (σ σ' : St) (v : V) (s : Nat) (es : List (List V)) : Prop := ∃ r, v = .sl false (.own r) s es ∧ σ'.live[r]? = some true ∧ σ.live.length ≤ r

theorem NewS.rd {σ σ' : St} {v : V} {s : Nat} {es : List (List V)} (h : NewS σ σ' v s es) : RdS σ' v s es := by
  obtain ⟨r, rfl, h1, _⟩ := h
  exact ⟨false, .own r, s, rfl, by simp, .inr ⟨h1, rfl⟩⟩
theorem NewS.ext {σ σ' τ : St} {v : V} {s : Nat} {es : List (List V)} (h : NewS σ σ' v s es) (he : Ext σ' τ) : NewS σ τ v s es := by
  obtain ⟨r, h0, h1, h2⟩ := h
  exact ⟨r, h0, he.live _ h1, h2⟩

/-- A right that is new has gone, another one has come. -/
theorem ext_kill {σ σ' : St} (h : Ext σ σ') {r : Nat} (hr : σ.live.length ≤ r) {b : Bool} : Ext σ ⟨σ'.objs, σ'.live.set r false ++ [b]⟩ :=
  ⟨h.objs, fun i hi => by
    have h1 := (List.getElem?_eq_some_iff.1 hi).1
    have h2 := h.live i hi
    have h3 := (List.getElem?_eq_some_iff.1 h2).1
    rw [List.getElem?_append_left (by simpa using h3), List.getElem?_set_ne (by omega)]
    exact h2, h.olen, by simp; have := h.llen; omega⟩
theorem ext_push {σ σ' : St} (h : Ext σ σ') {b : Bool} : Ext σ ⟨σ'.objs, σ'.live ++ [b]⟩ := h.trans (ext_live _ _)
/-- What is older than a right is not renamed with it. -/
theorem renS_old {σ : St} {b : Bool} {R : R} {z n r r' s : Nat} {es l : List (List V)} (h : RdS σ (.sl b R z l) n l) (hr : σ.live.length ≤ r) : renS r r' s es (.v (.sl b R z l)) = .v (.sl b R z l) := by
  obtain ⟨_, _, _, e, _, h2⟩ := h
  cases e
  rcases h2 with rfl | h2
  · exact renS_nil _ _ _
  · cases R with
    | pub => exact renS_pub _ _ _
    | view q => exact renS_view _ _ _ _
    | own q =>
      cases b with
      | true => exact renS_nil _ _ _
      | false =>
        have h3 : σ.live[q]? = some true := h2.1
        have := (List.getElem?_eq_some_iff.1 h3).1
        have h4 : Nat.beq q r = false := by
          rw [beq_nat]
          simp
          omega
        simp [renS_own, h4]
theorem live_last (l : List Bool) (b : Bool) : (l ++ [b])[l.length]? = some b := by simp
theorem live_last' (l : List Bool) (r : Nat) (b : Bool) : (l.set r false ++ [b])[l.length]? = some b := by
  rw [List.getElem?_append_right (by simp)]; simp

theorem bytesV_append (a b : List UInt8) : bytesV a ++ bytesV b = bytesV (a ++ b) := by simp [bytesV]
theorem bytesV_length (a : List UInt8) : (bytesV a).length = a.length := by simp [bytesV]
theorem bytes_back (s : List UInt8) : (bytesV s).map byteOfC = s := by
  induction s with
  | nil => rfl
  | cons c r ih => simp only [bytesV, List.map_cons, byteOfC] at ih ⊢; rw [ih]; simp
theorem byte1 (n : Int) (h : 0 ≤ n ∧ n ≤ 255) : [[V.int .u8 n]] = bytesV [UInt8.ofNat n.toNat] := by
  have : ((UInt8.ofNat n.toNat).toNat : Int) = n := by
    rw [UInt8.toNat_ofNat']; omega
  simp only [bytesV, List.map_cons, List.map_nil, this]

theorem and_127 (n : Nat) (h : n < 9223372036854775808) : ibits .and .i64 n 127 = (n % 128 : Nat) := by
  have h1 : (BitVec.ofInt IntKind.i64.bits (n : Int)).toNat = n := by
    rw [BitVec.ofInt_natCast, BitVec.toNat_ofNat, show IntKind.i64.bits = 64 from rfl]; omega
  have h2 : (BitVec.ofInt IntKind.i64.bits 127).toNat = 127 := rfl
  simp only [ibits, BitVec.toNat_and, h1, h2]
  rw [show n &&& 127 = n % 128 from Nat.and_two_pow_sub_one_eq_mod n 7, IntWalk.i64_in _ (by omega)]
theorem or_128 (n : Nat) (h : n < 128) : ibits .or .i64 n 128 = (n + 128 : Nat) := by
  have h1 : (BitVec.ofInt IntKind.i64.bits (n : Int)).toNat = n := by
    rw [BitVec.ofInt_natCast, BitVec.toNat_ofNat, show IntKind.i64.bits = 64 from rfl]; omega
  have h2 : (BitVec.ofInt IntKind.i64.bits 128).toNat = 128 := rfl
  simp only [ibits, BitVec.toNat_or, h1, h2]
  have : n ||| 128 = n + 128 := by
    have := Nat.two_pow_add_eq_or_of_lt (i := 7) (b := n) (by omega) 1
    rw [Nat.or_comm]; simp only [Nat.reducePow, Nat.mul_one] at this; omega
  rw [this, IntWalk.i64_in _ (by omega)]
theorem shr_7 (n : Nat) : (n : Int).fdiv (2 ^ min (Int.toNat 7) 64) = (n / 128 : Nat) := by
  show (n : Int).fdiv (2 ^ 7) = _
  rw [Int.fdiv_eq_ediv_of_nonneg _ (by decide)]; rfl
end Go.VL

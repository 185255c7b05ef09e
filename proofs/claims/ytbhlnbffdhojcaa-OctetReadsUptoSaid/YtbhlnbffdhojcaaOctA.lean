import Derived.Test.YtbhlnbffdhojcaaOctC
import Derived.Test.YtbhlnbffdhojcaaVz
set_option linter.unusedVariables false
set_option linter.unusedSimpArgs false
namespace Go.VL
open Go Go.Proofs Go.IntWalk

def enc (n : Nat) : List UInt8 := if n < 128 then [UInt8.ofNat n] else UInt8.ofNat (n % 128 + 128) :: enc (n / 128)
  decreasing_by omega
def encs (l : List Int) : List UInt8 := l.flatMap fun n => enc n.toNat
def I64 (n : Int) : Prop := -9223372036854775808 ≤ n ∧ n < 9223372036854775808

theorem enc_le (n : Nat) : (enc n).length ≤ 10 ∨ 2 ^ 70 ≤ n := by
  by_cases h0 : 2 ^ 70 ≤ n
  · exact .inr h0
  left
  have key : ∀ (k n : Nat), n < 128 ^ k → 0 < k → (enc n).length ≤ k := by
    intro k
    induction k with
    | zero => intro n _ h; omega
    | succ k ih =>
      intro n hn _
      rw [enc]
      split
      · simp
      · rename_i h1
        have : n / 128 < 128 ^ k := by rw [Nat.pow_succ] at hn; omega
        have hk : 0 < k := by
          rcases Nat.eq_zero_or_pos k with e | e
          · subst e; simp at this; omega
          · exact e
        have := ih _ this hk
        simp; omega
  exact key 10 n (by have : (128 : Nat) ^ 10 = 2 ^ 70 := by decide
                     omega) (by decide)

theorem enc_len {n : Int} (h : I64 n) : (enc n.toNat).length ≤ 10 := by
  rcases enc_le n.toNat with h1 | h1
  · exact h1
  · have := h.2; omega
theorem encs_len : ∀ {l : List Int}, (∀ n ∈ l, I64 n) → (encs l).length ≤ 10 * l.length
  | [], _ => by simp [encs]
  | n :: l, h => by
    have h1 := enc_len (h n (by simp))
    have h2 := encs_len (l := l) fun m hm => h m (by simp [hm])
    simp only [encs, List.flatMap_cons, List.length_append, List.length_cons] at h2 ⊢
    omega
theorem encs_take {l : List Int} {i : Nat} (h : i < l.length) : encs (l.take i) ++ enc (l[i]).toNat = encs (l.take (i + 1)) := by
  rw [List.take_succ_eq_append_getElem h]
  simp only [encs, List.flatMap_append, List.flatMap_cons, List.flatMap_nil, List.append_nil]

set_option maxRecDepth 100000 in
/-- octet.Put. -/
theorem put_ok {σ : St} {b l : V} {s : List UInt8} {ns : List Int} (hb : RdS σ b 1 (bytesV s)) (hl : RdS σ l 1 (intsV .i64 ns)) (hn : ∀ n ∈ ns, I64 n) (hlen : s.length + 10 * ns.length ≤ 536870912) :
    CallA Try.prog 9 [b, l] σ fun v σ' => Ext σ σ' ∧ σ'.objs = σ.objs ∧ NewS σ σ' v 1 (bytesV (s ++ encs ns)) := by
  obtain ⟨bb, br, bs, rfl, hb1, hb2⟩ := hb
  obtain ⟨lb, lr, ls, rfl, hl1, hl2⟩ := hl
  refine fn_at Try.func9 (by decide) comp9 rfl fun Q q1 q2 => ?_
  simp only [c9, go_sem, Nat.reduceBEq, Nat.reduceAdd]
  have hb3 : (bb = true ∨ rd (σ.live ++ [true]) br) ∧ (bs = 1 ∨ bytesV s = []) := by
    rcases hb2 with h | h
    · exact ⟨.inl h, .inr (hb1 h)⟩
    · exact ⟨.inr (rd_ext (ext_live σ true) h.1), .inl h.2⟩
  refine ⟨⟨.inr trivial, .inr (live_last _ _), hb3, by simp [bytesV_length]; omega⟩, ?_⟩
  refine loop_at (fun (x : Nat × Nat × List UInt8) => ⟨[(5, .v (.sl false (.own x.2.1) 1 (bytesV x.2.2))), (11, .v (.sl lb lr ls (intsV .i64 ns))), (12, .v (.int .i64 ns.length)), (13, .v (.int .i64 x.1))], []⟩)
    (fun x τ => x.1 ≤ ns.length ∧ Ext σ τ ∧ τ.objs = σ.objs ∧ τ.live[x.2.1]? = some true ∧ σ.live.length ≤ x.2.1 ∧ x.2.2 = s ++ encs (ns.take x.1)) (fun x => ns.length - x.1) (0, (σ.live ++ [true]).length, s) ?_ ?_ ?_
  · exact .inr (by simp [go_sem, intsV])
  · refine ⟨Nat.zero_le _, ?_, rfl, by simp [kill], by simp, by simp [encs]⟩
    exact ext_kill (ext_live σ true) (Nat.le_refl _)
  rintro ⟨i, r, acc⟩ τ ⟨h1, h2, h3, h4, h5, h6⟩ Z z1 z2 z3
  simp only at h1 h4 h5 h6
  simp -implicitDefEqProofs only [go_sem, Nat.reduceBEq, Nat.reduceAdd]
  refine CondW_b (fun hc => ?_) (fun hc => ?_)
  · have hi : i < ns.length := by simpa using hc
    simp -implicitDefEqProofs only [go_sem, Nat.reduceBEq, Nat.reduceAdd]
    have hrd : rd τ.live lr ∧ ls = 1 := by
      rcases hl2 with h | h
      · have := hl1 h
        simp [intsV] at this
        simp [this] at hi
      · exact ⟨rd_ext h2 h.1, h.2⟩
    have hni := hn _ (List.getElem_mem hi)
    generalize hN : ns[i] = m at hni
    simp -implicitDefEqProofs only [go_sem, Nat.reduceBEq, Nat.reduceAdd, intsV_get hi, hN]
    refine ⟨⟨by omega, by simpa [intsV] using hi, hrd.2⟩, hrd.1, ?_⟩
    have hmx : (if 0 > m then 0 else m) = ((m.toNat : Nat) : Int) := by split <;> omega
    simp only [hmx]
    refine loop_at (fun (x : Nat × Nat × List UInt8) => ⟨[(5, .v (.sl false (.own x.2.1) 1 (bytesV x.2.2))), (7, .v (.int .i64 x.1)), (11, .v (.sl lb lr ls (intsV .i64 ns))), (12, .v (.int .i64 ns.length)), (13, .v (.int .i64 i))], []⟩)
      (fun x τ => x.1 ≤ m.toNat ∧ Ext σ τ ∧ τ.objs = σ.objs ∧ τ.live[x.2.1]? = some true ∧ σ.live.length ≤ x.2.1 ∧ x.2.2 ++ enc x.1 = acc ++ enc m.toNat) (fun x => x.1) (m.toNat, r, acc) ?_ ?_ ?_
    · exact .inr (by simp [go_sem])
    · exact ⟨Nat.le_refl _, h2, h3, h4, h5, rfl⟩
    rintro ⟨n, r', acc'⟩ τ' ⟨g1, g2, g3, g4, g5, g6⟩ Z' z1' z2' z3'
    simp only at g1 g4 g5 g6
    have hacc : acc.length ≤ s.length + 10 * i := by
      have := encs_len (l := ns.take i) fun n hn' => hn n (List.mem_of_mem_take hn')
      rw [h6]
      simp at this ⊢
      omega
    have hacc' : acc'.length ≤ acc.length + 10 := by
      have h1 := congrArg List.length g6
      have h2 := enc_len hni
      simp at h1
      omega
    simp -implicitDefEqProofs only [go_sem, Nat.reduceBEq, Nat.reduceAdd]
    refine CondW_b (fun hc' => ?_) (fun hc' => ?_)
    · have hn' : 128 ≤ n := by have := of_decide_eq_true hc'; omega
      simp -implicitDefEqProofs only [go_sem, Nat.reduceBEq, Nat.reduceAdd, and_127 n (by have := hni.2; omega), or_128 (n % 128) (Nat.mod_lt _ (by decide)), u8_in ((n % 128 + 128 : Nat) : Int) (by omega), shr_7]
      have hb1 : [[V.int .u8 ((n % 128 + 128 : Nat) : Int)]] = bytesV [UInt8.ofNat (n % 128 + 128)] := byte1 _ (by omega)
      refine ⟨⟨.inr trivial, .inr ((ext_live _ _).live _ g4), ⟨.inr (live_last _ _), .inl trivial⟩, by simp only [bytesV_length]; omega⟩, by decide, ?_⟩
      refine z1' (n / 128, (τ'.live ++ [true]).length, acc' ++ [UInt8.ofNat (n % 128 + 128)]) _ _ (.inr ?_) ?_ ?_
      · simp -implicitDefEqProofs only [go_sem, Nat.reduceBEq, Nat.reduceAdd, hb1, bytesV_append, shr_7, and_true]
      · simp only; omega
      · refine ⟨by simp only; omega, ext_kill (ext_push g2) g5, g3, live_last' _ _ _, by have := g2.llen; simp; omega, ?_⟩
        rw [enc, if_neg (by omega)] at g6
        simpa using g6
    · have hn' : ¬ (128 ≤ n) := by have := of_decide_eq_false hc'; omega
      simp -implicitDefEqProofs only [go_sem, Nat.reduceBEq, Nat.reduceAdd]
      refine z2' _ _ _ ?_
      simp -implicitDefEqProofs only [go_sem, Nat.reduceBEq, Nat.reduceAdd, u8_in (n : Int) (by omega)]
      have hb1 : [[V.int .u8 (n : Int)]] = bytesV [UInt8.ofNat n] := byte1 _ (by omega)
      refine ⟨⟨.inr trivial, .inr ((ext_live _ _).live _ g4), ⟨.inr (live_last _ _), .inl trivial⟩, by simp only [bytesV_length]; omega⟩, ?_⟩
      refine z1 (i + 1, (τ'.live ++ [true]).length, acc' ++ [UInt8.ofNat n]) _ _ (.inr ?_) ?_ ?_
      · simp -implicitDefEqProofs only [go_sem, Nat.reduceBEq, Nat.reduceAdd, hb1, bytesV_append, and_true]
        rw [i64_in _ (by omega)]; simp
      · simp only; omega
      · refine ⟨by simp only; omega, ext_kill (ext_push g2) g5, g3, live_last' _ _ _, by have := g2.llen; simp; omega, ?_⟩
        rw [enc, if_pos (by omega)] at g6
        simp only [g6, h6, List.append_assoc, ← hN, encs_take hi]
  · have hi : ¬ (i < ns.length) := by simpa using hc
    simp -implicitDefEqProofs only [go_sem, Nat.reduceBEq, Nat.reduceAdd]
    refine z2 _ _ _ ?_
    simp -implicitDefEqProofs only [go_sem, Nat.reduceBEq, Nat.reduceAdd]
    refine q2 _ _ ?_
    simp -implicitDefEqProofs only [go_sem, Nat.reduceBEq, Nat.reduceAdd]
    refine ⟨h2, h3, r, ?_, h4, h5⟩
    rw [h6, List.take_of_length_le (by omega)]
end Go.VL

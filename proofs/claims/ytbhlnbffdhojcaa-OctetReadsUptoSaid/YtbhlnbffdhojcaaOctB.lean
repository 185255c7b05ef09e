import Derived.Test.YtbhlnbffdhojcaaOctA
set_option linter.unusedVariables false
set_option linter.unusedSimpArgs false
namespace Go.VL
open Go Go.Proofs Go.IntWalk

theorem shr_64 (m : Int) (h : 0 ≤ m) : m.fdiv (2 ^ min (Int.toNat 7) 64) = m / 128 := by
  show m.fdiv (2 ^ 7) = _
  rw [Int.fdiv_eq_ediv_of_nonneg _ (by decide)]; rfl

set_option maxRecDepth 100000 in
/-- octet.Size. -/
theorem size_ok {σ : St} {n : Int} (hn : I64 n) : CallA Try.prog 10 [.int .i64 n] σ fun v σ' => σ' = σ ∧ v = .int .i64 (enc n.toNat).length := by
  refine fn_at Try.func10 (by decide) comp10 rfl fun Q q1 q2 => ?_
  simp -implicitDefEqProofs only [c10, go_sem, Nat.reduceBEq, Nat.reduceAdd]
  refine loop_at (fun (x : Int × Nat) => ⟨[(0, .v (.int .i64 x.1)), (3, .v (.int .i64 x.2))], []⟩)
    (fun x τ => τ = σ ∧ x.1 ≤ max n 0 ∧ x.2 + (enc x.1.toNat).length = (enc n.toNat).length + 1) (fun x => x.1.toNat) (n, 1) ?_ ?_ ?_
  · exact .inr (by simp [go_sem])
  · exact ⟨rfl, by dsimp only; omega, by dsimp only; omega⟩
  rintro ⟨m, k⟩ τ ⟨rfl, h1, h2⟩ Z z1 z2 z3
  simp only at h1 h2
  have hle := enc_len hn
  simp -implicitDefEqProofs only [go_sem, Nat.reduceBEq, Nat.reduceAdd]
  refine CondW_b (fun hc => ?_) (fun hc => ?_)
  · have hm : 128 ≤ m := of_decide_eq_true hc
    have hpos : 1 ≤ (enc (m / 128).toNat).length := by rw [enc]; split <;> simp
    have he : (enc m.toNat).length = (enc (m / 128).toNat).length + 1 := by
      rw [enc, if_neg (by omega)]
      have : m.toNat / 128 = (m / 128).toNat := by omega
      simp [this]
    simp -implicitDefEqProofs only [go_sem, Nat.reduceBEq, Nat.reduceAdd, shr_64 m (by omega)]
    refine ⟨by decide, z1 (m / 128, k + 1) _ _ (.inr ?_) ?_ ?_⟩
    · simp only [go_sem, Nat.reduceBEq, Nat.reduceAdd, and_true, true_and]
      rw [i64_in _ (by omega)]; simp
    · simp only; omega
    · exact ⟨rfl, by simp only; omega, by simp only; omega⟩
  · have hm : ¬ 128 ≤ m := of_decide_eq_false hc
    have he : (enc m.toNat).length = 1 := by rw [enc, if_pos (by omega)]; rfl
    simp -implicitDefEqProofs only [go_sem, Nat.reduceBEq, Nat.reduceAdd]
    refine z2 _ _ _ ?_
    simp -implicitDefEqProofs only [go_sem, Nat.reduceBEq, Nat.reduceAdd]
    refine q2 _ _ ?_
    simp -implicitDefEqProofs only [go_sem, Nat.reduceBEq, Nat.reduceAdd]
    refine ⟨trivial, ?_⟩
    have : k = (enc n.toNat).length := by omega
    rw [this]

/-- A reader. -/
def Rdr (σ : St) (i : Nat) (bs : List UInt8) (at_ e bad : Int) : Prop := ∃ s, σ.objs[i]? = some (.cells [s, .int .i64 at_, .int .i64 e, .int .i64 bad]) ∧ RdS σ s 1 (bytesV bs)

set_option maxRecDepth 100000 in
/-- octet.New. -/
theorem new_ok {σ : St} {b : V} {s : List UInt8} (hb : RdS σ b 1 (bytesV s)) (hlen : s.length ≤ 536870912) :
    CallA Try.prog 15 [b] σ fun v σ' => Ext σ σ' ∧ v = .ptr (some (σ.objs.length, 0)) ∧ Rdr σ' σ.objs.length s 0 0 0 ∧ ∃ l, σ' = ⟨σ.objs ++ [l], σ'.live⟩ := by
  obtain ⟨bb, br, bs, rfl, hb1, hb2⟩ := hb
  refine fn_at Try.func15 (by decide) comp15 rfl fun Q q1 q2 => ?_
  have hb3 : (bb = true ∨ rd (σ.live ++ [true]) br) ∧ (bs = 1 ∨ bytesV s = []) := by
    rcases hb2 with h | h
    · exact ⟨.inl h, .inr (hb1 h)⟩
    · exact ⟨.inr (rd_ext (ext_live σ true) h.1), .inl h.2⟩
  simp -implicitDefEqProofs only [c15, go_sem, Nat.reduceBEq, Nat.reduceAdd, Nat.reduceLeDiff]
  refine ⟨⟨.inr trivial, .inr (live_last _ _), hb3, by simp only [bytesV_length]; omega⟩, ?_⟩
  refine q2 _ _ ?_
  simp -implicitDefEqProofs only [go_sem, Nat.reduceBEq, Nat.reduceAdd]
  have he : Ext σ ⟨σ.objs, kill (σ.live ++ [true]) (R.own σ.live.length) ++ [!false]⟩ := ext_kill (ext_live σ true) (Nat.le_refl _)
  refine ⟨he.trans (ext_obj _ _), trivial, ⟨.sl false (.own (σ.live ++ [true]).length) 1 (bytesV s), by simp, false, .own (σ.live ++ [true]).length, 1, rfl, by simp, .inr ⟨live_last' _ _ _, rfl⟩⟩, _, rfl⟩

set_option maxRecDepth 100000 in
/-- fail. -/
theorem fail_ok {σ : St} {i : Nat} {s : V} {at_ e bad e' at' : Int} (h : σ.objs[i]? = some (.cells [s, .int .i64 at_, .int .i64 e, .int .i64 bad])) :
    CallA Try.prog 28 [.ptr (some (i, 0)), .int .i64 e', .int .i64 at'] σ fun v σ' => σ' = ⟨σ.objs.set i (.cells [s, .int .i64 at', .int .i64 e', .int .i64 at']), σ.live⟩ := by
  refine fn_at Try.func28 (by decide) comp28 rfl fun Q q1 q2 => ?_
  have hlt : i < σ.objs.length := (List.getElem?_eq_some_iff.1 h).1
  simp -implicitDefEqProofs only [c28, go_sem, Nat.reduceBEq, Nat.reduceAdd, h, setC_get hlt]
  refine ⟨⟨⟨trivial, trivial⟩, by decide⟩, ⟨⟨trivial, trivial⟩, by decide⟩, ⟨⟨trivial, trivial⟩, by decide⟩, q1 _ _ ?_⟩
  simp -implicitDefEqProofs only [go_sem, Nat.reduceBEq, Nat.reduceAdd]
  rfl
end Go.VL

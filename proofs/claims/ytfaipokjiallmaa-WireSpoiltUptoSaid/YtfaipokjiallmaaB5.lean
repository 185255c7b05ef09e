import Derived.Test.YtfaipokjiallmaaB4
set_option linter.unusedVariables false
set_option linter.unusedSimpArgs false
namespace Go.VL.wire
open Go Go.VL Go.Proofs Go.IntWalk

/-! ### A sum tells one turned byte -/
theorem crcBit_inj {a b : Nat} (ha : a < 4294967296) (hb : b < 4294967296) (h : crcBit a = crcBit b) : a = b := by
  have key : ∀ x : Nat, x < 2147483648 → (x ^^^ 3988292384) / 2147483648 = 1 := by
    intro x hx
    have h1 : (x ^^^ 3988292384).testBit 31 = true := by
      rw [Nat.testBit_xor, Nat.testBit_lt_two_pow (by simpa using hx)]; decide
    have h2 : x ^^^ 3988292384 < 4294967296 := Nat.xor_lt_two_pow (n := 32) (by omega) (by decide)
    rw [Nat.testBit_eq_decide_div_mod_eq] at h1
    simp only [Nat.reducePow, decide_eq_true_eq] at h1
    omega
  unfold crcBit at h
  by_cases h1 : a % 2 = 1 <;> by_cases h2 : b % 2 = 1
  · rw [if_pos h1, if_pos h2] at h
    have : a / 2 = b / 2 := by
      have := congrArg (· ^^^ 3988292384) h
      simpa [Nat.xor_assoc] using this
    omega
  · rw [if_pos h1, if_neg h2] at h
    have := key (a / 2) (by omega)
    omega
  · rw [if_neg h1, if_pos h2] at h
    have := key (b / 2) (by omega)
    omega
  · rw [if_neg h1, if_neg h2] at h
    omega
theorem crcN_inj : ∀ (n : Nat) {a b : Nat}, a < 4294967296 → b < 4294967296 → crcN n a = crcN n b → a = b
  | 0, _, _, _, _, h => h
  | n + 1, _, _, ha, hb, h => crcBit_inj ha hb (crcN_inj n (crcBit_lt ha) (crcBit_lt hb) h)
theorem xor_inj {a b c : Nat} (h : a ^^^ c = b ^^^ c) : a = b := by
  have := congrArg (· ^^^ c) h
  simpa [Nat.xor_assoc] using this
theorem crc_inj : ∀ (l : List UInt8) {a b : Nat}, a < 4294967296 → b < 4294967296 → crc a l = crc b l → a = b
  | [], _, _, _, _, h => h
  | x :: l, a, b, ha, hb, h => xor_inj (crcN_inj 8 (xor_byte ha x) (xor_byte hb x) (crc_inj l (crcN_lt 8 (xor_byte ha x)) (crcN_lt 8 (xor_byte hb x)) h))
theorem sumN_set {l : List UInt8} {i : Nat} {x : UInt8} (hi : i < l.length) (hx : x ≠ l[i]) : sumN (l.set i x) ≠ sumN l := by
  intro h
  have h := xor_inj h
  have e1 : l = l.take i ++ l[i] :: l.drop (i + 1) := by rw [← List.drop_eq_getElem_cons hi, List.take_append_drop]
  have e2 : l.set i x = l.take i ++ x :: l.drop (i + 1) := by rw [List.set_eq_take_append_cons_drop, if_pos hi]
  rw [e2] at h
  conv at h => rhs; rw [e1]
  rw [crc_app, crc_app] at h
  have hc := crc_lt (l.take i) (c := 4294967295) (by decide)
  generalize crc 4294967295 (l.take i) = c at h hc
  have h : crc (crcN 8 (c ^^^ x.toNat)) (l.drop (i + 1)) = crc (crcN 8 (c ^^^ (l[i]).toNat)) (l.drop (i + 1)) := h
  have h := crcN_inj 8 (xor_byte hc x) (xor_byte hc l[i]) (crc_inj _ (crcN_lt 8 (xor_byte hc x)) (crcN_lt 8 (xor_byte hc l[i])) h)
  rw [Nat.xor_comm c, Nat.xor_comm c] at h
  exact hx (UInt8.toNat_inj.1 (xor_inj h))
theorem spoilt_open {p : List UInt8} {i : Nat} {x : UInt8} (hp : openE p = 0) (hi : i < p.length) (hx : x ≠ p[i]) : openE (p.set i x) ≠ 0 := by
  intro hq
  obtain ⟨f1, s1⟩ := openE_ok hp
  obtain ⟨f2, s2⟩ := openE_ok hq
  unfold badF at f1
  unfold badS at s1 s2
  simp only [Bool.or_eq_false_iff, decide_eq_false_iff_not, Bool.not_eq_false', decide_eq_true_eq, List.length_set] at f1 s1 s2
  by_cases hlt : i < p.length - 4
  · rw [List.drop_set_of_lt hlt, List.take_set, s1] at s2
    refine sumN_set (l := p.take (p.length - 4)) (i := i) (x := x) (by rw [List.length_take]; omega) ?_ s2.symm
    rw [List.getElem_take]; exact hx
  · rw [List.take_set_of_le (by omega), ← s1] at s2
    have h4 : (p.drop (p.length - 4)).length = 4 := by rw [List.length_drop]; omega
    have h5 : ((p.set i x).drop (p.length - 4)).length = 4 := by rw [List.length_drop, List.length_set]; omega
    have e : (p.set i x).drop (p.length - 4) = p.drop (p.length - 4) := by rw [← four_num4 h4, ← four_num4 h5, s2]
    have := congrArg (fun l => l[i - (p.length - 4)]?) e
    simp only [List.getElem?_drop] at this
    rw [show p.length - 4 + (i - (p.length - 4)) = i from by omega, List.getElem?_set_self hi, List.getElem?_eq_getElem hi] at this
    exact hx (Option.some.inj this)
theorem spoilt_read {p : List UInt8} {i : Nat} {x : UInt8} (hp : openE p = 0) (hi : i < p.length) (hx : x ≠ p[i]) : readI (p.set i x) = 2 ∨ readI (p.set i x) = 9 := by
  have h := spoilt_open hp hi hx
  unfold readI
  rw [decide_eq_false h]
  simp only [cond_false]
  unfold openE at h ⊢
  generalize badF (p.set i x) = a at h ⊢
  generalize badS (p.set i x) = b at h ⊢
  cases a <;> cases b <;> simp_all

theorem xor8 {a b : Nat} (ha : a < 256) (hb : b < 256) : ibits .xor .u8 a b = ((a ^^^ b : Nat) : Int) ∧ a ^^^ b < 256 := by
  have h : a ^^^ b < 256 := Nat.xor_lt_two_pow (n := 8) ha hb
  have bv : ∀ {n : Nat}, n < 256 → (BitVec.ofInt IntKind.u8.bits (n : Int)).toNat = n := by
    intro n hn
    rw [BitVec.ofInt_natCast, BitVec.toNat_ofNat, show IntKind.u8.bits = 8 from rfl]; omega
  refine ⟨?_, h⟩
  simp only [ibits, BitVec.toNat_xor, bv ha, bv hb]
  rw [IntKind.wrap_u8]; omega
section
variable {σ : St} {c v : V} {f : Fm} {p : List UInt8} {n m : Int}
set_option maxRecDepth 100000 in
set_option maxHeartbeats 2000000 in
theorem spoil_ok (hv : RdS σ v 1 (bytesV p)) (hm : I64 m) (hlen : p.length ≤ 100000000) :
    CallA Try.prog 26 [v, .int .i64 n, .int .i64 m] σ fun w σ' => Ext σ σ' ∧ ∃ x e, w = .tup [x, .int .i64 e] ∧ IsSl x ∧ (e = 0 → ∃ i y, ∃ hi : i < p.length, y ≠ p[i] ∧ RdS σ' x 1 (bytesV (p.set i y))) := by
  refine fn_at Try.func26 (by decide) comp26 rfl fun Q q1 q2 => ?_
  clear q1
  obtain ⟨b, R, z, rfl, -, -⟩ := id hv
  have hbl := bytesV_length p
  have hns : IsSl (.sl true .pub 1 []) := ⟨_, _, _, _, rfl⟩
  simp -implicitDefEqProofs only [go_sem, Nat.reduceBEq, Nat.reduceAdd, eq_self, true_and, and_true, and_self, List.getElem?_cons_zero, List.getElem?_cons_succ, Nat.reduceLeDiff, Nat.zero_add, Nat.reduceSub, Nat.le_refl, c26]
  cases h1 : decide (n < 0)
  case true =>
    simp -implicitDefEqProofs only [go_sem, Nat.reduceBEq, Nat.reduceAdd, eq_self, true_and, and_true, and_self, List.getElem?_cons_zero, List.getElem?_cons_succ, Nat.reduceLeDiff, Nat.zero_add, Nat.reduceSub, Nat.le_refl, h1]
    refine q2 _ _ ?_
    simp -implicitDefEqProofs only [go_sem, Nat.reduceBEq, Nat.reduceAdd, eq_self, true_and, and_true, and_self, List.getElem?_cons_zero, List.getElem?_cons_succ, Nat.reduceLeDiff, Nat.zero_add, Nat.reduceSub, Nat.le_refl, Nat.lt_irrefl]
    exact ⟨Ext.refl _, _, _, rfl, hns, fun h => absurd h (by decide)⟩
  simp -implicitDefEqProofs only [go_sem, Nat.reduceBEq, Nat.reduceAdd, eq_self, true_and, and_true, and_self, List.getElem?_cons_zero, List.getElem?_cons_succ, Nat.reduceLeDiff, Nat.zero_add, Nat.reduceSub, Nat.le_refl, h1, hbl]
  cases h2 : decide ((p.length : Int) ≤ n)
  case true =>
    simp -implicitDefEqProofs only [go_sem, Nat.reduceBEq, Nat.reduceAdd, eq_self, true_and, and_true, and_self, List.getElem?_cons_zero, List.getElem?_cons_succ, Nat.reduceLeDiff, Nat.zero_add, Nat.reduceSub, Nat.le_refl, h2]
    refine q2 _ _ ?_
    simp -implicitDefEqProofs only [go_sem, Nat.reduceBEq, Nat.reduceAdd, eq_self, true_and, and_true, and_self, List.getElem?_cons_zero, List.getElem?_cons_succ, Nat.reduceLeDiff, Nat.zero_add, Nat.reduceSub, Nat.le_refl, Nat.lt_irrefl]
    exact ⟨Ext.refl _, _, _, rfl, hns, fun h => absurd h (by decide)⟩
  have h1' := of_decide_eq_false h1
  have h2' := of_decide_eq_false h2
  obtain ⟨i, rfl⟩ : ∃ i : Nat, n = i := ⟨n.toNat, by omega⟩
  have hi : i < p.length := by omega
  have n256 : (256 : Int) ≠ 0 := by decide
  have hl0 : 0 ≤ (m.tmod 256 + 256).tmod 256 ∧ (m.tmod 256 + 256).tmod 256 < 256 := by
    have a1 := Int.lt_tmod_of_pos m (b := 256) (by decide)
    have a2 := Int.tmod_lt_of_pos m (b := 256) (by decide)
    exact ⟨Int.tmod_nonneg _ (by omega), Int.tmod_lt_of_pos _ (by decide)⟩
  have hw : IntKind.i64.wrap (m.tmod 256 + 256) = m.tmod 256 + 256 := by
    have a1 := Int.lt_tmod_of_pos m (b := 256) (by decide)
    have a2 := Int.tmod_lt_of_pos m (b := 256) (by decide)
    exact i64_in _ (by omega)
  simp -implicitDefEqProofs only [go_sem, Nat.reduceBEq, Nat.reduceAdd, eq_self, true_and, and_true, and_self, List.getElem?_cons_zero, List.getElem?_cons_succ, Nat.reduceLeDiff, Nat.zero_add, Nat.reduceSub, Nat.le_refl, h2, hw]
  refine ⟨n256, n256, ?_⟩
  obtain ⟨k, hk⟩ : ∃ k : Nat, (m.tmod 256 + 256).tmod 256 = k := ⟨((m.tmod 256 + 256).tmod 256).toNat, by omega⟩
  rw [hk] at hl0 ⊢
  cases h3 : decide ((k : Int) = 0)
  case true =>
    simp -implicitDefEqProofs only [go_sem, Nat.reduceBEq, Nat.reduceAdd, eq_self, true_and, and_true, and_self, List.getElem?_cons_zero, List.getElem?_cons_succ, Nat.reduceLeDiff, Nat.zero_add, Nat.reduceSub, Nat.le_refl, h3]
    refine q2 _ _ ?_
    simp -implicitDefEqProofs only [go_sem, Nat.reduceBEq, Nat.reduceAdd, eq_self, true_and, and_true, and_self, List.getElem?_cons_zero, List.getElem?_cons_succ, Nat.reduceLeDiff, Nat.zero_add, Nat.reduceSub, Nat.le_refl, Nat.lt_irrefl]
    exact ⟨Ext.refl _, _, _, rfl, hns, fun h => absurd h (by decide)⟩
  have h3' := of_decide_eq_false h3
  have hr := rd_src (hv.ext (ext_live σ true))
  have hcell : (bytesV p)[i]? = some [V.int .u8 (p[i]).toNat] := by simp [bytesV, hi]
  have hb1 := (p[i]).toNat_lt
  have hk8 : IntKind.u8.wrap (k : Int) = k := by rw [IntKind.wrap_u8]; omega
  obtain ⟨x1, x2⟩ := xor8 (a := (p[i]).toNat) (b := k) hb1 (by omega)
  have hib : (i : Int) < (bytesV p).length := by rw [bytesV_length]; omega
  have hset := bytesV_set (g := p) (i := i) (x := (((p[i]).toNat ^^^ k : Nat) : Int)) (by omega)
  simp -implicitDefEqProofs only [go_sem, Nat.reduceBEq, Nat.reduceAdd, eq_self, true_and, and_true, and_self, List.getElem?_cons_zero, List.getElem?_cons_succ, Nat.reduceLeDiff, Nat.zero_add, Nat.reduceSub, Nat.le_refl, h3, Int.toNat_natCast, hcell, Option.getD_some, beq_self_eq_true, hk8, x1, hset]
  have e1 : Ext σ ⟨σ.objs, kill (σ.live ++ [true]) (.own σ.live.length) ++ [true]⟩ := ext_kill (ext_push (Ext.refl σ)) (Nat.le_refl _)
  have e2 : Ext σ ⟨σ.objs, (kill (σ.live ++ [true]) (.own σ.live.length) ++ [true]).set (σ.live ++ [true]).length false ++ [true]⟩ := ext_kill e1 (by simp)
  refine ⟨⟨.inr trivial, .inr (live_last _ _), hr, by rw [hbl]; omega⟩, ⟨by omega, hib⟩, by simp [kill, rd], ⟨by omega, hib⟩, by simp [kill], ?_⟩
  refine q2 _ _ ?_
  simp -implicitDefEqProofs only [go_sem, Nat.reduceBEq, Nat.reduceAdd, eq_self, true_and, and_true, and_self, List.getElem?_cons_zero, List.getElem?_cons_succ, Nat.reduceLeDiff, Nat.zero_add, Nat.reduceSub, Nat.le_refl, Nat.lt_irrefl]
  refine ⟨e2, _, _, rfl, ⟨_, _, _, _, rfl⟩, fun _ => ⟨i, _, hi, ?_, ⟨_, _, _, rfl, by simp, .inr ⟨live_last' _ _ _, rfl⟩⟩⟩⟩
  intro he
  have := congrArg UInt8.toNat he
  rw [UInt8.toNat_ofNat'] at this
  have e3 : (p[i]).toNat ^^^ k = (p[i]).toNat := by omega
  have e4 := congrArg ((p[i]).toNat ^^^ ·) e3
  simp only [← Nat.xor_assoc, Nat.xor_self, Nat.zero_xor] at e4
  omega
set_option maxRecDepth 100000 in
set_option maxHeartbeats 2000000 in
theorem spoilt_ok (hf : ∀ σ, RdF σ c v f) (hz : FmZ f) (hI : FmI f) (hn : I64 n) (hm : I64 m) :
    CallA Try.prog 10 [fmV c v f, .int .i64 n, .int .i64 m] σ fun w σ' => w = .bool true := by
  refine fn_at Try.func10 (by decide) comp10 rfl fun Q q1 q2 => ?_
  clear q1
  obtain ⟨b, R, z, rfl, -, -⟩ := id (hf σ).1
  obtain ⟨b2, R2, z2, es, rfl⟩ := (hf σ).2.isSl
  have hwl := writeO_len hI
  simp -implicitDefEqProofs only [go_sem, Nat.reduceBEq, Nat.reduceAdd, eq_self, true_and, and_true, and_self, List.getElem?_cons_zero, List.getElem?_cons_succ, Nat.reduceLeDiff, Nat.zero_add, Nat.reduceSub, Nat.le_refl, c10, fmV, fmC]
  refine call_at (write_ok (hf _) hz hI) ?_
  rintro w τ1 ⟨e2, -, y1, rfl, hy1⟩
  refine ⟨kept_none, ?_⟩
  obtain ⟨yb, yR, yz, rfl, -, -⟩ := id hy1
  simp -implicitDefEqProofs only [go_sem, Nat.reduceBEq, Nat.reduceAdd, eq_self, true_and, and_true, and_self, List.getElem?_cons_zero, List.getElem?_cons_succ, Nat.reduceLeDiff, Nat.zero_add, Nat.reduceSub, Nat.le_refl, Nat.lt_irrefl]
  cases h1 : decide (writeI f = 0)
  case false =>
    have h0 : (writeO f).length = 0 := by
      unfold writeI at h1
      unfold writeO
      cases hc : decide (fchkI f = 0) <;> rw [hc] at h1
      · rfl
      · simp only [cond_true] at h1 ⊢
        unfold sealO; rw [h1]; rfl
    have hl0 : (bytesV (writeO f)).length = 0 := by rw [bytesV_length, h0]
    have d0 : decide (((0 : Nat) : Int) = 0) = true := by decide
    simp -implicitDefEqProofs only [go_sem, Nat.reduceBEq, Nat.reduceAdd, eq_self, true_and, and_true, and_self, List.getElem?_cons_zero, List.getElem?_cons_succ, Nat.reduceLeDiff, Nat.zero_add, Nat.reduceSub, Nat.le_refl, h1, hl0, d0]
    refine call_at awake_ok ?_
    rintro w τ3 ⟨e4, rfl⟩
    refine ⟨kept_none, ?_⟩
    simp -implicitDefEqProofs only [go_sem, Nat.reduceBEq, Nat.reduceAdd, eq_self, true_and, and_true, and_self, List.getElem?_cons_zero, List.getElem?_cons_succ, Nat.reduceLeDiff, Nat.zero_add, Nat.reduceSub, Nat.le_refl, Nat.lt_irrefl]
    refine q2 _ _ ?_
    simp -implicitDefEqProofs only [go_sem, Nat.reduceBEq, Nat.reduceAdd, eq_self, true_and, and_true, and_self, List.getElem?_cons_zero, List.getElem?_cons_succ, Nat.reduceLeDiff, Nat.zero_add, Nat.reduceSub, Nat.le_refl, Nat.lt_irrefl]
  simp -implicitDefEqProofs only [go_sem, Nat.reduceBEq, Nat.reduceAdd, eq_self, true_and, and_true, and_self, List.getElem?_cons_zero, List.getElem?_cons_succ, Nat.reduceLeDiff, Nat.zero_add, Nat.reduceSub, Nat.le_refl, h1]
  refine call_at (spoil_ok (n := n) hy1 hm (by omega)) ?_
  rintro w τ2 ⟨e3, x, e, rfl, ⟨xb, xR, xz, xe, rfl⟩, hx⟩
  refine ⟨kept_none, ?_⟩
  simp -implicitDefEqProofs only [go_sem, Nat.reduceBEq, Nat.reduceAdd, eq_self, true_and, and_true, and_self, List.getElem?_cons_zero, List.getElem?_cons_succ, Nat.reduceLeDiff, Nat.zero_add, Nat.reduceSub, Nat.le_refl, Nat.lt_irrefl]
  cases h2 : decide (e = 0)
  case false =>
    simp -implicitDefEqProofs only [go_sem, Nat.reduceBEq, Nat.reduceAdd, eq_self, true_and, and_true, and_self, List.getElem?_cons_zero, List.getElem?_cons_succ, Nat.reduceLeDiff, Nat.zero_add, Nat.reduceSub, Nat.le_refl, h2]
    refine call_at awake_ok ?_
    rintro w τ3 ⟨e4, rfl⟩
    refine ⟨kept_none, ?_⟩
    simp -implicitDefEqProofs only [go_sem, Nat.reduceBEq, Nat.reduceAdd, eq_self, true_and, and_true, and_self, List.getElem?_cons_zero, List.getElem?_cons_succ, Nat.reduceLeDiff, Nat.zero_add, Nat.reduceSub, Nat.le_refl, Nat.lt_irrefl]
    refine q2 _ _ ?_
    simp -implicitDefEqProofs only [go_sem, Nat.reduceBEq, Nat.reduceAdd, eq_self, true_and, and_true, and_self, List.getElem?_cons_zero, List.getElem?_cons_succ, Nat.reduceLeDiff, Nat.zero_add, Nat.reduceSub, Nat.le_refl, Nat.lt_irrefl]
  obtain ⟨i, y, hi, hy, hr⟩ := hx (of_decide_eq_true h2)
  simp -implicitDefEqProofs only [go_sem, Nat.reduceBEq, Nat.reduceAdd, eq_self, true_and, and_true, and_self, List.getElem?_cons_zero, List.getElem?_cons_succ, Nat.reduceLeDiff, Nat.zero_add, Nat.reduceSub, Nat.le_refl, h2]
  refine call_at (read_ok hr (by rw [List.length_set]; omega)) ?_
  rintro w τ3 ⟨e4, c', x', rfl, hx'⟩
  refine ⟨kept_none, ?_⟩
  have hx' := hx'.rd
  obtain ⟨cb', cR', cz', rfl, -, -⟩ := id hx'.1
  obtain ⟨xb', xR', xz', es', rfl⟩ := hx'.2.isSl
  have ho := (isF_read (write_isF hI (of_decide_eq_true h1) rfl)).1
  have d22 : decide ((2 : Int) = 2) = true := by decide
  have d92 : decide ((9 : Int) = 2) = false := by decide
  have d99 : decide ((9 : Int) = 9) = true := by decide
  rcases spoilt_read ho hi hy with h | h
  all_goals
    rw [h]
    simp -implicitDefEqProofs only [go_sem, Nat.reduceBEq, Nat.reduceAdd, eq_self, true_and, and_true, and_self, List.getElem?_cons_zero, List.getElem?_cons_succ, Nat.reduceLeDiff, Nat.zero_add, Nat.reduceSub, Nat.le_refl, fmV, fmC, d22, d92, d99]
    refine call_at awake_ok ?_
    rintro w τ3 ⟨e4, rfl⟩
    refine ⟨kept_none, ?_⟩
    simp -implicitDefEqProofs only [go_sem, Nat.reduceBEq, Nat.reduceAdd, eq_self, true_and, and_true, and_self, List.getElem?_cons_zero, List.getElem?_cons_succ, Nat.reduceLeDiff, Nat.zero_add, Nat.reduceSub, Nat.le_refl, Nat.lt_irrefl]
    refine q2 _ _ ?_
    simp -implicitDefEqProofs only [go_sem, Nat.reduceBEq, Nat.reduceAdd, eq_self, true_and, and_true, and_self, List.getElem?_cons_zero, List.getElem?_cons_succ, Nat.reduceLeDiff, Nat.zero_add, Nat.reduceSub, Nat.le_refl, Nat.lt_irrefl]
end
end Go.VL.wire

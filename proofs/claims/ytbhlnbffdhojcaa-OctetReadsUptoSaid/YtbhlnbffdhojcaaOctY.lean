/- octet: OctetBack. -/
import Derived.Test.YtbhlnbffdhojcaaOctV
set_option linter.unusedVariables false
set_option linter.unusedSimpArgs false
namespace Go.VL
open Go Go.Proofs Go.IntWalk

/-- What was written is taken. -/
theorem dec_of_enc : ∀ (m k a : Nat) (r : List UInt8), k ≤ 8 → m < 128 ^ (9 - k) → (0 < k → 0 < m) → dec k a (enc m ++ r) = some (a + m * 128 ^ k, k + (enc m).length, true) := by
  intro m
  induction m using Nat.strongRecOn with
  | _ m ih =>
    intro k a r hk hm h0
    by_cases h : m < 128
    · have e1 : (UInt8.ofNat m).toNat = m := by rw [UInt8.toNat_ofNat']; omega
      rw [enc_lt h]
      simp only [List.cons_append, List.nil_append, dec, if_neg (show k ≠ 9 from by omega), e1, if_pos h, Nat.mod_eq_of_lt h, List.length_cons, List.length_nil]
      have : (decide (m ≠ 0) || decide (k = 0)) = true := by
        by_cases hk0 : k = 0
        · simp [hk0]
        · have := h0 (by omega)
          have : m ≠ 0 := by omega
          simp [this]
      rw [this]
    · have e1 : (UInt8.ofNat (m % 128 + 128)).toNat = m % 128 + 128 := by rw [UInt8.toNat_ofNat']; omega
      have hk8 : k ≠ 8 := by
        intro e
        subst e
        simp at hm
        omega
      have hm' : m / 128 < 128 ^ (9 - (k + 1)) := by
        rw [show 9 - k = (9 - (k + 1)) + 1 from by omega, Nat.pow_succ] at hm
        omega
      rw [enc_ge h]
      simp only [List.cons_append, dec, if_neg (show k ≠ 9 from by omega), e1, if_neg (show ¬ m % 128 + 128 < 128 from by omega), List.length_cons]
      rw [ih (m / 128) (by omega) (k + 1) _ r (by omega) hm' (fun _ => by omega)]
      have e2 : (m % 128 + 128) % 128 = m % 128 := by omega
      have e3 : a + m % 128 * 128 ^ k + m / 128 * 128 ^ (k + 1) = a + m * 128 ^ k := by
        rw [Nat.pow_succ, Nat.add_assoc, Nat.mul_comm (128 ^ k) 128, ← Nat.mul_assoc, ← Nat.add_mul]
        congr 2
        omega
      rw [e2, e3]
      congr 3
      omega

theorem numR_of_enc {pre suf : List UInt8} {m : Nat} {bad : Int} (hm : m < 9223372036854775808) : numR (pre ++ (enc m ++ suf)) pre.length 0 bad = (m, pre.length + (enc m).length, 0, bad) := by
  simp only [numR, if_true, List.drop_left]
  rw [dec_of_enc m 0 0 suf (by decide) (by simpa using hm) (fun h => by omega)]
  simp
theorem txtR_of_enc {pre suf t : List UInt8} {bad : Int} (hm : t.length < 9223372036854775808) : txtR (pre ++ (enc t.length ++ (t ++ suf))) pre.length 0 bad t.length = (t, pre.length + ((enc t.length).length + t.length), 0, bad) := by
  have hc : cntR (pre ++ (enc t.length ++ (t ++ suf))) pre.length 0 bad t.length = (t.length, pre.length + (enc t.length).length, 0, bad) := by
    simp only [cntR, numR_of_enc hm]
    rw [if_neg (fun h => by have := h.2.2; simp at this)]
  simp only [txtR, if_true, hc]
  rw [if_neg (by simp only [List.length_append]; omega)]
  have : (pre ++ (enc t.length ++ (t ++ suf))).drop (pre.length + (enc t.length).length) = t ++ suf := by
    rw [← List.append_assoc, ← List.length_append, List.drop_left]
  rw [this, List.take_left]
  simp [Nat.add_assoc]

theorem kept_setC {L : List Nat} {σ : St} {i : Nat} {cs : List V} (h : i ∉ L) : Kept (some L) σ (σ.setC i cs) := by
  intro L' hL
  cases hL
  refine ⟨fun j hj o ho => ?_, fun r hr => hr⟩
  show (σ.objs.set i _)[j]? = some o
  rw [List.getElem?_set_ne (fun e => h (by rw [e]; exact hj))]
  exact ho

theorem encs_split {ns : List Int} {i : Nat} (h : i < ns.length) (r : List UInt8) : encs ns ++ r = encs (ns.take i) ++ (enc (ns[i]).toNat ++ (encs (ns.drop (i + 1)) ++ r)) := by
  have e : ns = ns.take i ++ ns[i] :: ns.drop (i + 1) := by rw [← List.drop_eq_getElem_cons h, List.take_append_drop]
  have : encs ns = encs (ns.take i) ++ (enc (ns[i]).toNat ++ encs (ns.drop (i + 1))) := by
    conv => lhs; rw [e]
    simp only [encs, List.flatMap_append, List.flatMap_cons]
  rw [this]; simp
theorem encTs_split {ts : List (List UInt8)} {i : Nat} (h : i < ts.length) : encTs ts = encTs (ts.take i) ++ (enc (ts[i]).length ++ (ts[i] ++ encTs (ts.drop (i + 1)))) := by
  have e : ts = ts.take i ++ ts[i] :: ts.drop (i + 1) := by rw [← List.drop_eq_getElem_cons h, List.take_append_drop]
  conv => lhs; rw [e]
  simp only [encTs, List.flatMap_append, List.flatMap_cons, List.append_assoc]

set_option maxRecDepth 100000 in
set_option maxHeartbeats 1600000 in
/-- OctetBack. -/
theorem back_ok {σ : St} {l s : V} {ns : List Int} {ts : List (List UInt8)} (hl : RdS σ l 1 (intsV .i64 ns)) (hs : RdS σ s 1 (strsV ts)) (hn : ∀ n ∈ ns, I64 n) (hlen : 10 * ns.length + sizes ts ≤ 134217728) :
    CallA Try.prog 5 [l, s] σ fun v _ => v = .bool true := by
  refine fn_at Try.func5 (by decide) comp5 rfl fun Q q1 q2 => ?_
  simp -implicitDefEqProofs only [go_sem, Nat.reduceBEq, Nat.reduceAdd, c5]
  have hnil : RdS σ (.sl true .pub 0 []) 1 (bytesV []) := ⟨true, .pub, 0, rfl, by simp [bytesV], .inl rfl⟩
  refine call_at (put_ok hnil hl hn (by simp only [List.length_nil]; omega)) ?_
  rintro v σ1 ⟨he1, _, hv⟩
  refine ⟨kept_none, ?_⟩
  simp -implicitDefEqProofs only [go_sem, Nat.reduceBEq, Nat.reduceAdd]
  have hel := encs_len hn
  have htl := encTs_len ts (by omega)
  refine call_at (putText_ok hv.rd (hs.ext he1) (by simp only [List.nil_append]; omega)) ?_
  rintro v2 σ2 ⟨he2, _, hv2⟩
  refine ⟨kept_none, ?_⟩
  simp -implicitDefEqProofs only [go_sem, Nat.reduceBEq, Nat.reduceAdd]
  rw [List.nil_append] at hv2
  refine call_at (new_ok hv2.rd (by simp only [List.length_append]; omega)) ?_
  rintro v3 σ3 ⟨he3, rfl, ⟨rs, hr3, hrs⟩, _⟩
  refine ⟨kept_none, ?_⟩
  have hl3 := ((hl.ext he1).ext he2).ext he3
  have hs3 := ((hs.ext he1).ext he2).ext he3
  generalize σ2.objs.length = R0 at hr3
  generalize hB : encs ns ++ encTs ts = B at hrs
  have hBl : B.length ≤ 134217728 := by rw [← hB, List.length_append]; omega
  simp -implicitDefEqProofs only [go_sem, Nat.reduceBEq, Nat.reduceAdd]
  obtain ⟨lb, lr, ls, rfl, hl1, -⟩ := hl
  obtain ⟨sb, sr, ss, rfl, hs1, -⟩ := hs
  have rdl : ∀ {τ : St} {b r s n es}, RdS τ (.sl b r s es) n es → es ≠ [] → rd τ.live r ∧ s = n := by
    rintro τ b r s n es ⟨b', r', s', e, h1, h2⟩ hne
    cases e
    exact h2.resolve_left fun hb => hne (h1 hb)
  refine loop_at (fun (i : Nat) => ⟨[(0, .v (.sl lb lr ls (intsV .i64 ns))), (1, .v (.sl sb sr ss (strsV ts))), (5, .v (.ptr (some (R0, 0)))), (6, .v (.int .i64 i))], []⟩)
    (fun i τ => i ≤ ns.length ∧ τ.objs[R0]? = some (.cells (cellsR rs (encs (ns.take i)).length 0 0)) ∧ RdS τ (.sl lb lr ls (intsV .i64 ns)) 1 (intsV .i64 ns) ∧ RdS τ (.sl sb sr ss (strsV ts)) 1 (strsV ts) ∧ RdS τ rs 1 (bytesV B)) (fun i => ns.length - i) 0 ?_ ?_ ?_
  · exact .inr (by simp [go_sem])
  · exact ⟨Nat.zero_le _, by simpa [encs, cellsR] using hr3, hl3, hs3, hrs⟩
  · rintro i τ ⟨h1, h2, h3, h4, h5⟩ Z z1 z2 z3
    simp -implicitDefEqProofs only [go_sem, Nat.reduceBEq, Nat.reduceAdd]
    refine CondW_b (fun hc => ?_) (fun hc => ?_)
    · have hi : i < ns.length := by simpa [intsV] using hc
      obtain ⟨k1, k2⟩ := rdl h3 (by cases ns <;> simp [intsV] at hi ⊢)
      simp -implicitDefEqProofs only [go_sem, Nat.reduceBEq, Nat.reduceAdd, intsV_get hi]
      refine ⟨⟨by omega, by simpa [intsV] using hi, k2⟩, k1, ?_⟩
      have hspl := encs_split hi (encTs ts)
      rw [hB] at hspl
      have hni := hn _ (List.getElem_mem hi)
      refine call_at (num_ok h2 h5 (by rw [hspl]; simp) (by omega)) ?_
      rintro v τ1 ⟨rfl, rfl⟩
      refine ⟨kept_setC (by simp), ?_⟩
      rw [hspl, numR_of_enc (by unfold I64 at hni; omega)]
      have hd : decide ((((ns[i]).toNat : Nat) : Int) = (((ns[i]).toNat : Nat) : Int)) = true := by simp
      simp -implicitDefEqProofs only [go_sem, Nat.reduceBEq, Nat.reduceAdd, max0, hd, Bool.not_true]
      refine z1 (i + 1) _ _ (.inr ?_) ?_ ?_
      · simp -implicitDefEqProofs only [go_sem, Nat.reduceBEq, Nat.reduceAdd, and_true]
        rw [i64_in _ (by omega)]; simp
      · omega
      · refine ⟨by omega, ?_, h3.setC, h4.setC, h5.setC⟩
        rw [setC_get (List.getElem?_eq_some_iff.1 h2).1, ← encs_take hi, List.length_append]
    · have hi : ¬ (i < ns.length) := by simpa [intsV] using hc
      simp -implicitDefEqProofs only [go_sem, Nat.reduceBEq, Nat.reduceAdd]
      refine z2 _ _ _ ?_
      simp -implicitDefEqProofs only [go_sem, Nat.reduceBEq, Nat.reduceAdd]
      have hfull : encs (ns.take i) = encs ns := by rw [List.take_of_length_le (by omega)]
      rw [hfull] at h2
      refine loop_at (fun (i : Nat) => ⟨[(1, .v (.sl sb sr ss (strsV ts))), (5, .v (.ptr (some (R0, 0)))), (7, .v (.int .i64 i))], []⟩)
        (fun i τ => i ≤ ts.length ∧ τ.objs[R0]? = some (.cells (cellsR rs (encs ns ++ encTs (ts.take i)).length 0 0)) ∧ RdS τ (.sl sb sr ss (strsV ts)) 1 (strsV ts) ∧ RdS τ rs 1 (bytesV B)) (fun i => ts.length - i) 0 ?_ ?_ ?_
      · exact .inr (by simp [go_sem])
      · exact ⟨Nat.zero_le _, by simpa [encTs] using h2, h4, h5⟩
      · clear z1 z2 z3 hc hi hfull h1 h2 h3 h4 h5 hr3 hl3 hs3 hrs hv hv2 he1 he2 he3
        rintro i τ ⟨h1, h2, h4, h5⟩ Z z1 z2 z3
        have hll := len_le_sizes ts
        simp -implicitDefEqProofs only [go_sem, Nat.reduceBEq, Nat.reduceAdd]
        refine CondW_b (fun hc => ?_) (fun hc => ?_)
        · have hi : i < ts.length := by simpa [strsV] using hc
          obtain ⟨k1, k2⟩ := rdl h4 (by cases ts <;> simp [strsV] at hi ⊢)
          have hsz := sizes_take ts hi
          have hspl := encTs_split hi
          have hspl : B = (encs ns ++ encTs (ts.take i)) ++ (enc (ts[i]).length ++ (ts[i] ++ encTs (ts.drop (i + 1)))) := by
            rw [← hB]; conv => lhs; rw [hspl]
            simp
          have htk := encTs_take hi
          simp -implicitDefEqProofs only [go_sem, Nat.reduceBEq, Nat.reduceAdd, strsV_get hi]
          refine ⟨⟨by omega, by simpa [strsV] using hi, k2⟩, k1, ⟨by omega, by simpa [strsV] using hi, k2⟩, k1, ?_⟩
          generalize ts[i] = t at hspl hsz htk
          refine call_at (text_ok (most := t.length) h2 h5 (by rw [hspl]; simp) (by omega)) ?_
          rintro v τ1 ⟨rfl, rfl⟩
          refine ⟨kept_setC (by simp), ?_⟩
          rw [hspl, txtR_of_enc (by omega)]
          have hd : decide (t = t) = true := by simp
          simp -implicitDefEqProofs only [go_sem, Nat.reduceBEq, Nat.reduceAdd, hd, Bool.not_true]
          refine z1 (i + 1) _ _ (.inr ?_) ?_ ?_
          · simp -implicitDefEqProofs only [go_sem, Nat.reduceBEq, Nat.reduceAdd, and_true]
            rw [i64_in _ (by omega)]; simp
          · omega
          · refine ⟨by omega, ?_, h4.setC, h5.setC⟩
            rw [setC_get (List.getElem?_eq_some_iff.1 h2).1, ← htk]
            simp [Nat.add_assoc]
        · have hi : ¬ (i < ts.length) := by simpa [strsV] using hc
          simp -implicitDefEqProofs only [go_sem, Nat.reduceBEq, Nat.reduceAdd]
          refine z2 _ _ _ ?_
          simp -implicitDefEqProofs only [go_sem, Nat.reduceBEq, Nat.reduceAdd]
          have hfull : encs ns ++ encTs (ts.take i) = B := by rw [List.take_of_length_le (by omega), hB]
          rw [hfull] at h2
          refine call_at (done_ok h2 h5) ?_
          rintro v τ1 ⟨rfl, rfl⟩
          refine ⟨kept_none, ?_⟩
          have d1 : decide (doneR B B.length 0 = 0) = true := by simp [doneR]
          simp -implicitDefEqProofs only [go_sem, Nat.reduceBEq, Nat.reduceAdd, d1]
          refine call_at (left_ok h2 h5 (Nat.le_refl _) (by omega)) ?_
          rintro v τ1 ⟨rfl, rfl⟩
          refine ⟨kept_none, ?_⟩
          have d2 : decide (((B.length - B.length : Nat) : Int) = 0) = true := by simp
          simp -implicitDefEqProofs only [go_sem, Nat.reduceBEq, Nat.reduceAdd, d2]
          refine call_at awake_ok ?_
          rintro v τ1 ⟨_, rfl⟩
          refine ⟨kept_none, ?_⟩
          simp -implicitDefEqProofs only [go_sem, Nat.reduceBEq, Nat.reduceAdd]
          refine q2 _ _ ?_
          simp -implicitDefEqProofs only [go_sem, Nat.reduceBEq, Nat.reduceAdd]
end Go.VL

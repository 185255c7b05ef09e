/- octet: OctetPuts. -/
import Derived.Test.YtbhlnbffdhojcaaOctRa
set_option linter.unusedVariables false
set_option linter.unusedSimpArgs false
namespace Go.VL
open Go Go.Proofs Go.IntWalk

theorem bytesV_set {g : List UInt8} {i : Nat} {x : Int} (h : 0 ≤ x ∧ x ≤ 255) : (bytesV g).set i [V.int .u8 x] = bytesV (g.set i (UInt8.ofNat x.toNat)) := by
  have : ((UInt8.ofNat x.toNat).toNat : Int) = x := by rw [UInt8.toNat_ofNat']; omega
  simp only [bytesV, List.map_set, this]
theorem rdl {τ : St} {b : Bool} {r : R} {s n : Nat} {es : List (List V)} (h : RdS τ (.sl b r s es) n es) (hne : es ≠ []) : rd τ.live r ∧ s = n := by
  obtain ⟨b', r', s', e, h1, h2⟩ := h
  cases e
  exact h2.resolve_left fun hb => hne (h1 hb)
theorem rd_src {τ : St} {b : Bool} {r : R} {s n : Nat} {es : List (List V)} (h : RdS τ (.sl b r s es) n es) : (b = true ∨ rd τ.live r) ∧ (s = n ∨ es = []) := by
  obtain ⟨b', r', s', e, h1, h2⟩ := h
  cases e
  rcases h2 with h2 | h2
  · exact ⟨.inl h2, .inr (h1 h2)⟩
  · exact ⟨.inr h2.1, .inl h2.2⟩

set_option maxRecDepth 100000 in
set_option maxHeartbeats 1600000 in
/-- OctetPuts. -/
theorem puts_ok {σ : St} {b l s : V} {bs : List UInt8} {ns : List Int} {ts : List (List UInt8)} (hb : RdS σ b 1 (bytesV bs)) (hl : RdS σ l 1 (intsV .i64 ns)) (hs : RdS σ s 1 (strsV ts)) (hn : ∀ n ∈ ns, I64 n)
    (hlen : bs.length + (10 * ns.length + sizes ts) ≤ 134217728) :
    CallA Try.prog 4 [b, l, s] σ fun v _ => v = .bool true := by
  obtain ⟨bb, br, bz, rfl, -, -⟩ := id hb
  obtain ⟨lb, lr, lz, rfl, -, -⟩ := id hl
  obtain ⟨sb, sr, sz, rfl, -, -⟩ := id hs
  refine fn_at Try.func4 (by decide) comp4 rfl fun Q q1 q2 => ?_
  simp -implicitDefEqProofs only [go_sem, Nat.reduceBEq, Nat.reduceAdd, c4]
  have hel := encs_len hn
  have htl := encTs_len ts (by omega)
  have hsl := len_le_sizes ts
  have hbl := bytesV_length bs
  refine ⟨⟨.inr trivial, .inr (live_last _ _), rd_src (hb.ext (ext_live σ true)), by simp only [bytesV_length]; omega⟩, ?_⟩
  refine loop_at (fun (x : Nat × Nat) => ⟨[(0, .v (.sl bb br bz (bytesV bs))), (1, .v (.sl lb lr lz (intsV .i64 ns))), (2, .v (.sl sb sr sz (strsV ts))), (7, .v (.sl false (.own x.2) 1 (bytesV (bs ++ encs (ns.take x.1))))), (8, .v (.int .i64 x.1))], []⟩)
    (fun x τ => x.1 ≤ ns.length ∧ Ext σ τ ∧ τ.live[x.2]? = some true ∧ σ.live.length ≤ x.2) (fun x => ns.length - x.1) (0, (σ.live ++ [true]).length) ?_ ?_ ?_
  · exact .inr (by simp [go_sem, encs])
  · exact ⟨Nat.zero_le _, ext_kill (ext_live σ true) (Nat.le_refl _), by simp [kill], by simp⟩
  rintro ⟨i, rw⟩ τ ⟨h1, h2, h3, h4⟩ Z z1 z2 z3
  simp only at h1 h3 h4
  simp -implicitDefEqProofs only [go_sem, Nat.reduceBEq, Nat.reduceAdd]
  refine CondW_b (fun hc => ?_) (fun hc => ?_)
  · have hi : i < ns.length := by simpa [intsV] using hc
    have hni := hn _ (List.getElem_mem hi)
    obtain ⟨k1, k2⟩ := rdl (hl.ext h2) (by cases ns <;> simp [intsV] at hi ⊢)
    have htk := encs_take hi
    simp -implicitDefEqProofs only [go_sem, Nat.reduceBEq, Nat.reduceAdd, intsV_get hi]
    refine ⟨⟨by omega, by simpa [intsV] using hi, k2⟩, k1, ?_⟩
    have hw : RdS τ (.sl false (.own rw) 1 (bytesV (bs ++ encs (ns.take i)))) 1 (bytesV (bs ++ encs (ns.take i))) := ⟨_, _, _, rfl, by simp, .inr ⟨h3, rfl⟩⟩
    have hacc : (encs (ns.take i)).length ≤ 10 * i := by
      have := encs_len (l := ns.take i) fun n hn' => hn n (List.mem_of_mem_take hn')
      simp at this; omega
    refine call_at (refPut_ok hw hni (by rw [List.length_append]; omega)) ?_
    rintro v τ1 ⟨he1, -, r1, rfl, hr1, hn1⟩
    refine ⟨kept_none, ?_⟩
    have hk := rdl (hl.ext (h2.trans he1)) (by cases ns <;> simp [intsV] at hi ⊢)
    simp -implicitDefEqProofs only [go_sem, Nat.reduceBEq, Nat.reduceAdd, intsV_get hi]
    refine ⟨⟨by omega, by simpa [intsV] using hi, k2⟩, hk.1, ⟨by omega, by simpa [intsV] using hi, k2⟩, hk.1, ?_⟩
    refine call_at (size_ok hni) ?_
    rintro v τ2 ⟨rfl, rfl⟩
    refine ⟨(Ext.refl _).kept, ?_⟩
    simp -implicitDefEqProofs only [go_sem, Nat.reduceBEq, Nat.reduceAdd]
    refine call_at (refPut_ok (s := []) ⟨true, .pub, 0, rfl, by simp [bytesV], .inl rfl⟩ hni (by simp)) ?_
    rintro v τ3 ⟨he3, -, r3, rfl, hr3, hn3⟩
    refine ⟨he3.kept, ?_⟩
    have hd : (!decide (((enc (ns[i]).toNat).length : Int) = ((enc (ns[i]).toNat).length : Int))) = false := by simp
    simp -implicitDefEqProofs only [go_sem, Nat.reduceBEq, Nat.reduceAdd, bytesV_length, List.nil_append, hd]
    refine z1 (i + 1, r1) _ _ (.inr ?_) ?_ ?_
    · simp -implicitDefEqProofs only [go_sem, Nat.reduceBEq, Nat.reduceAdd, and_true, List.append_assoc, htk]
      rw [i64_in _ (by omega)]; simp
    · simp only; omega
    · exact ⟨by simp only; omega, (h2.trans he1).trans he3, he3.live _ hr1, by have := h2.llen; simp only; omega⟩
  · have hi : ¬ (i < ns.length) := by simpa [intsV] using hc
    simp -implicitDefEqProofs only [go_sem, Nat.reduceBEq, Nat.reduceAdd]
    refine z2 _ _ _ ?_
    have hfull : encs (ns.take i) = encs ns := by rw [List.take_of_length_le (by omega)]
    have hw64 : IntKind.i64.wrap (((bytesV bs).length : Int) + 64) = ((bs.length + 64 : Nat) : Int) := by rw [bytesV_length, i64_in _ (by omega)]; omega
    have hrep : List.replicate (Int.toNat 0) [V.int .u8 0] = [] := rfl
    simp -implicitDefEqProofs only [go_sem, Nat.reduceBEq, Nat.reduceAdd, hfull, hw64, hrep]
    clear z1 z2 z3 hc
    refine ⟨⟨by omega, by omega, by omega⟩, ⟨.inr trivial, .inr (live_last _ _), rd_src ((hb.ext h2).ext (ext_live τ true)), by simp only [bytesV_length]; omega⟩, ?_⟩
    have hE : Ext τ ⟨τ.objs, kill (τ.live ++ [true]) (.own τ.live.length) ++ [true]⟩ := ext_kill (ext_live τ true) (Nat.le_refl _)
    have hg : (St.mk τ.objs (kill (τ.live ++ [true]) (.own τ.live.length) ++ [true])).live[(τ.live ++ [true]).length]? = some true := by simp [kill]
    have h3' := hE.live _ h3
    generalize (τ.live ++ [true]).length = rg at hg
    have hE' := h2.trans hE
    generalize St.mk τ.objs (kill (τ.live ++ [true]) (.own τ.live.length) ++ [true]) = τ1 at hE hE' hg h3'
    refine call_at (put_ok ⟨_, _, _, rfl, by simp, .inr ⟨hg, rfl⟩⟩ (hl.ext hE') hn (by omega)) ?_
    rintro v τ2 ⟨he2, -, r2, rfl, hr2, hn2⟩
    refine ⟨kept_none, ?_⟩
    have hE2 := hE'.trans he2
    have hb' : (bb = true ∨ rd τ2.live br ∧ bz = 1) := by
      obtain ⟨_, _, _, e, -, h⟩ := hb.ext hE2
      cases e; exact h
    have hd1 : (!decide (bs ++ encs ns = bs ++ encs ns)) = false := by simp
    have hd2 : (!decide (bs = bs)) = false := by simp
    simp -implicitDefEqProofs only [go_sem, Nat.reduceBEq, Nat.reduceAdd, bytes_back, hd1, hd2]
    refine ⟨⟨.inr ⟨hr2, trivial⟩, trivial⟩, ⟨.inr ⟨he2.live _ h3', trivial⟩, trivial⟩, ⟨.inr ⟨he2.live _ hg, trivial⟩, trivial⟩, ⟨hb', trivial⟩, ?_⟩
    have h3'' := he2.live _ h3'
    clear hb'
    refine loop_at (fun (x : Nat × Nat) => ⟨[(2, .v (.sl sb sr sz (strsV ts))), (7, .v (.sl false (.own x.2) 1 (bytesV (bs ++ (encs ns ++ encTs (ts.take x.1)))))), (10, .v (.sl false (.own r2) 1 (bytesV (bs ++ encs ns)))), (11, .v (.int .i64 x.1))], []⟩)
      (fun x τ => x.1 ≤ ts.length ∧ Ext σ τ ∧ τ.live[x.2]? = some true ∧ τ.live[r2]? = some true ∧ x.2 ≠ r2) (fun x => ts.length - x.1) (0, rw) ?_ ?_ ?_
    · exact .inr (by simp [go_sem, encTs])
    · exact ⟨Nat.zero_le _, hE2, h3'', hr2, by have := (List.getElem?_eq_some_iff.1 h3').1; simp only; omega⟩
    clear hE2 h3'' hr2 he2 h3' hE' hE hg h3 h2
    rintro ⟨i, rw⟩ τ ⟨h1, h2, h3, h4, h5⟩ Z z1 z2 z3
    simp only at h1 h3 h5
    simp -implicitDefEqProofs only [go_sem, Nat.reduceBEq, Nat.reduceAdd]
    refine CondW_b (fun hc => ?_) (fun hc => ?_)
    · have hi : i < ts.length := by simpa [strsV] using hc
      obtain ⟨k1, k2⟩ := rdl (hs.ext h2) (by cases ts <;> simp [strsV] at hi ⊢)
      have hsz := sizes_take ts hi
      have htk := encTs_take hi
      have hacc := encTs_len (ts.take i) (by omega)
      simp -implicitDefEqProofs only [go_sem, Nat.reduceBEq, Nat.reduceAdd, strsV_get hi]
      refine ⟨⟨by omega, by simpa [strsV] using hi, k2⟩, k1, ?_⟩
      generalize ts[i] = t at hsz htk
      refine call_at (refPutText_ok ⟨_, _, _, rfl, by simp, .inr ⟨h3, rfl⟩⟩ (by simp only [List.length_append]; omega)) ?_
      rintro v τ1 ⟨he1, -, r1, rfl, hr1, hn1⟩
      refine ⟨kept_none, ?_⟩
      simp -implicitDefEqProofs only [go_sem, Nat.reduceBEq, Nat.reduceAdd]
      refine z1 (i + 1, r1) _ _ (.inr ?_) ?_ ?_
      · simp -implicitDefEqProofs only [go_sem, Nat.reduceBEq, Nat.reduceAdd, and_true, List.append_assoc, htk]
        rw [i64_in _ (by omega)]; simp
      · simp only; omega
      · exact ⟨by simp only; omega, h2.trans he1, hr1, he1.live _ h4, by have := (List.getElem?_eq_some_iff.1 h4).1; simp only; omega⟩
    · have hi : ¬ (i < ts.length) := by simpa [strsV] using hc
      simp -implicitDefEqProofs only [go_sem, Nat.reduceBEq, Nat.reduceAdd]
      refine z2 _ _ _ ?_
      have hfull : encTs (ts.take i) = encTs ts := by rw [List.take_of_length_le (by omega)]
      simp -implicitDefEqProofs only [go_sem, Nat.reduceBEq, Nat.reduceAdd, hfull]
      clear z1 z2 z3 hc
      refine call_at (putText_ok ⟨_, _, _, rfl, by simp, .inr ⟨h4, rfl⟩⟩ (hs.ext h2) (by simp only [List.length_append]; omega)) ?_
      rintro v τ2 ⟨he2, -, ra, rfl, hra, hna⟩
      refine ⟨kept_none, ?_⟩
      simp -implicitDefEqProofs only [go_sem, Nat.reduceBEq, Nat.reduceAdd]
      have hne : ra ≠ r2 := by
        have := (List.getElem?_eq_some_iff.1 h4).1
        omega
      have h3' := he2.live _ h3
      have h4' := he2.live _ h4
      have hlt := (List.getElem?_eq_some_iff.1 h4').1
      refine loop_at (fun (x : Nat × Nat × List UInt8) => ⟨[(7, .v (.sl false (.own rw) 1 (bytesV (bs ++ (encs ns ++ encTs ts))))), (10, .v (.sl false (.own x.2.1) 1 (bytesV x.2.2))), (12, .v (.sl false (.own ra) 1 (bytesV (bs ++ encs ns ++ encTs ts)))), (13, .v (.int .i64 x.1))], []⟩)
        (fun x τ => x.1 ≤ x.2.2.length ∧ x.2.2.length = (bs ++ encs ns).length ∧ τ.live[rw]? = some true ∧ τ.live[ra]? = some true ∧ τ.live[x.2.1]? = some true ∧ rw ≠ x.2.1 ∧ ra ≠ x.2.1) (fun x => x.2.2.length - x.1) (0, r2, bs ++ encs ns) ?_ ?_ ?_
      · exact .inr (by simp [go_sem])
      · exact ⟨Nat.zero_le _, rfl, h3', hra, h4', h5, hne⟩
      clear h3' h4' hlt hne hra he2 h5 h3 h4 h1 h2 hi
      rintro ⟨i, r, g⟩ τ ⟨h1, h2, h3, h4, h5, h6, h7⟩ Z z1 z2 z3
      simp only at h1 h2 h5 h6 h7
      have hgl : g.length ≤ 134217728 := by rw [h2, List.length_append]; omega
      simp -implicitDefEqProofs only [go_sem, Nat.reduceBEq, Nat.reduceAdd]
      refine CondW_b (fun hc => ?_) (fun hc => ?_)
      · have hi : i < g.length := by simpa [bytesV_length] using hc
        have hcell : (bytesV g)[((i : Nat) : Int).toNat]? = some [V.int .u8 (g[i]).toNat] := by simp [bytesV, hi]
        have n1 : (rw == r) = false := by simpa using h6
        have n2 : (ra == r) = false := by simpa using h7
        have hb1 := (g[i]).toNat_lt
        simp -implicitDefEqProofs only [go_sem, Nat.reduceBEq, Nat.reduceAdd, hcell, Option.getD_some, n1, n2, beq_self_eq_true]
        have hib : (i : Int) < (bytesV g).length := by rw [bytesV_length]; omega
        have hw8 : IntKind.u8.wrap (255 - ((g[i]).toNat : Int)) = 255 - ((g[i]).toNat : Int) := u8_in _ (by omega)
        refine ⟨⟨by omega, hib, trivial⟩, h5, ⟨by omega, hib, trivial⟩, ⟨⟨trivial, trivial⟩, h5, Nat.le_refl _⟩, ?_⟩
        have keep : ∀ q, τ.live[q]? = some true → q ≠ r → (τ.live.set r false ++ [true])[q]? = some true := by
          intro q hq hne
          rw [List.getElem?_append_left (by rw [List.length_set]; exact (List.getElem?_eq_some_iff.1 hq).1), List.getElem?_set_ne (Ne.symm hne)]
          exact hq
        refine z1 (i + 1, τ.live.length, g.set i (UInt8.ofNat (255 - ((g[i]).toNat : Int)).toNat)) _ _ (.inr ?_) ?_ ?_
        · simp -implicitDefEqProofs only [go_sem, Nat.reduceBEq, Nat.reduceAdd, and_true, true_and, hw8, Int.toNat_natCast, bytesV_set (g := g) (i := i) (x := 255 - ((g[i]).toNat : Int)) (by omega)]
          rw [i64_in _ (by omega)]; simp
        · simp only [List.length_set]; omega
        · refine ⟨by simp only [List.length_set]; omega, by simp only [List.length_set]; exact h2, keep _ h3 h6, keep _ h4 h7, live_last' _ _ _, ?_, ?_⟩
          · have := (List.getElem?_eq_some_iff.1 h3).1; simp only; omega
          · have := (List.getElem?_eq_some_iff.1 h4).1; simp only; omega
      · have hi : ¬ (i < g.length) := by simpa [bytesV_length] using hc
        simp -implicitDefEqProofs only [go_sem, Nat.reduceBEq, Nat.reduceAdd]
        refine z2 _ _ _ ?_
        have hd : decide (bs ++ encs ns ++ encTs ts = bs ++ (encs ns ++ encTs ts)) = true := by simp
        simp -implicitDefEqProofs only [go_sem, Nat.reduceBEq, Nat.reduceAdd, bytes_back, hd]
        refine ⟨⟨.inr ⟨h4, trivial⟩, trivial⟩, ⟨.inr ⟨h3, trivial⟩, trivial⟩, ?_⟩
        refine call_at awake_ok ?_
        rintro v τ1 ⟨_, rfl⟩
        refine ⟨kept_none, ?_⟩
        simp -implicitDefEqProofs only [go_sem, Nat.reduceBEq, Nat.reduceAdd]
        refine q2 _ _ ?_
        simp -implicitDefEqProofs only [go_sem, Nat.reduceBEq, Nat.reduceAdd]
end Go.VL

/- octet: OctetReads. -/
import Derived.Test.YtbhlnbffdhojcaaOctRc
set_option linter.unusedVariables false
set_option linter.unusedSimpArgs false
namespace Go.VL
open Go Go.Proofs Go.IntWalk

def stepsV (l : List (Int × Int)) : List (List V) := l.map fun x => [V.int .i64 x.1, V.int .i64 x.2]
theorem stepsV_get {l : List (Int × Int)} {i : Nat} (h : i < l.length) : (stepsV l)[((i : Nat) : Int).toNat]?.getD [] = [V.int .i64 l[i].1, V.int .i64 l[i].2] := by simp [stepsV, h]

set_option maxRecDepth 100000 in
/-- octet.New: its bytes are its own. -/
theorem new2_ok {σ : St} {b : V} {s : List UInt8} (hb : RdS σ b 1 (bytesV s)) (hlen : s.length ≤ 536870912) :
    CallA Try.prog 15 [b] σ fun v σ' => Ext σ σ' ∧ v = .ptr (some (σ.objs.length, 0)) ∧ ∃ q, σ'.objs[σ.objs.length]? = some (.cells (cellsR (.sl false (.own q) 1 (bytesV s)) 0 0 0)) ∧ σ'.live[q]? = some true ∧ σ.live.length ≤ q := by
  obtain ⟨bb, br, bs, rfl, -, -⟩ := id hb
  refine fn_at Try.func15 (by decide) comp15 rfl fun Q q1 q2 => ?_
  simp -implicitDefEqProofs only [go_sem, Nat.reduceBEq, Nat.reduceAdd, c15, Nat.reduceLeDiff]
  refine ⟨⟨.inr trivial, .inr (live_last _ _), rd_src (hb.ext (ext_live σ true)), by simp only [bytesV_length]; omega⟩, ?_⟩
  refine q2 _ _ ?_
  simp -implicitDefEqProofs only [go_sem, Nat.reduceBEq, Nat.reduceAdd]
  have he : Ext σ ⟨σ.objs, kill (σ.live ++ [true]) (R.own σ.live.length) ++ [!false]⟩ := ext_kill (ext_live σ true) (Nat.le_refl _)
  exact ⟨he.trans (ext_obj _ _), trivial, (σ.live ++ [true]).length, by simp [cellsR], live_last' _ _ _, by simp⟩

/-- The frame behind the switch. -/
def rdF (pv lv : V) (i0 i : Nat) (a : Nat) (e b : Int) : Fr := ⟨[(0, .v pv), (1, .v lv), (6, .v (.ptr (some (i0, 0)))), (7, .loc 7 0), (9, .v (.int .i64 i)), (12, .v (.bool true))], [(7, cellsR pv a e b)]⟩

set_option maxRecDepth 100000 in
set_option maxHeartbeats 3200000 in
/-- OctetReads. -/
theorem reads_ok {σ : St} {p l : V} {bs : List UInt8} {ss : List (Int × Int)} (hp : RdS σ p 1 (bytesV bs)) (hl : RdS σ l 2 (stepsV ss)) (hlen : bs.length ≤ 134217728) (hll : ss.length ≤ 134217728) :
    CallA Try.prog 6 [p, l] σ fun v _ => v = .bool true := by
  obtain ⟨pb, pr, pz, rfl, -, -⟩ := id hp
  obtain ⟨lb, lr, lz, rfl, -, -⟩ := id hl
  refine fn_at Try.func6 (by decide) comp6 rfl fun Q q1 q2 => ?_
  simp -implicitDefEqProofs only [go_sem, Nat.reduceBEq, Nat.reduceAdd, c6]
  refine ⟨⟨.inr trivial, .inr (live_last _ _), rd_src (hp.ext (ext_live σ true)), by simp only [bytesV_length]; omega⟩, ?_⟩
  have hE : Ext σ ⟨σ.objs, kill (σ.live ++ [true]) (.own σ.live.length) ++ [true]⟩ := ext_kill (ext_live σ true) (Nat.le_refl _)
  have hg : (St.mk σ.objs (kill (σ.live ++ [true]) (.own σ.live.length) ++ [true])).live[(σ.live ++ [true]).length]? = some true := by simp [kill]
  have hgl : σ.live.length ≤ (σ.live ++ [true]).length := by simp
  generalize (σ.live ++ [true]).length = rg at hg hgl
  generalize St.mk σ.objs (kill (σ.live ++ [true]) (.own σ.live.length) ++ [true]) = τ0 at hE hg
  refine call_at (new2_ok (b := .sl false (.own rg) 1 (bytesV bs)) ⟨_, _, _, rfl, by simp, .inr ⟨hg, rfl⟩⟩ (by omega)) ?_
  rintro v σ1 ⟨he1, rfl, q, hr1, hq, hqn⟩
  refine ⟨kept_none, ?_⟩
  generalize τ0.objs.length = i0 at hr1
  simp -implicitDefEqProofs only [go_sem, Nat.reduceBEq, Nat.reduceAdd, Nat.reduceLeDiff, Nat.zero_add]
  refine ⟨⟨⟨trivial, trivial⟩, by decide⟩, ?_⟩
  refine loop_at (fun (x : Nat × Nat × List UInt8) => ⟨[(0, .v (.sl pb pr pz (bytesV bs))), (1, .v (.sl lb lr lz (stepsV ss))), (5, .v (.sl false (.own x.2.1) 1 (bytesV x.2.2))), (6, .v (.ptr (some (i0, 0)))), (7, .loc 7 0), (8, .v (.int .i64 x.1))],
      [(7, cellsR (.sl pb pr pz (bytesV bs)) 0 0 0)]⟩)
    (fun x τ => x.1 ≤ x.2.2.length ∧ x.2.2.length = bs.length ∧ Ext σ τ ∧ τ.objs[i0]? = some (.cells (cellsR (.sl false (.own q) 1 (bytesV bs)) 0 0 0)) ∧ τ.live[q]? = some true ∧ τ.live[x.2.1]? = some true ∧ q ≠ x.2.1 ∧ σ.live.length ≤ x.2.1) (fun x => x.2.2.length - x.1) (0, rg, bs) ?_ ?_ ?_
  · exact .inr (by simp [go_sem, cellsR])
  · have := (List.getElem?_eq_some_iff.1 hg).1
    exact ⟨Nat.zero_le _, rfl, hE.trans he1, hr1, hq, he1.live _ hg, by simp only; omega, hgl⟩
  clear hq hqn hr1 he1 hE hg hgl
  rintro ⟨i, r, g⟩ τ ⟨h1, h2, h3, h4, h5, h6, h7, h8⟩ Z z1 z2 z3
  simp only at h1 h2 h6 h7 h8
  simp -implicitDefEqProofs only [go_sem, Nat.reduceBEq, Nat.reduceAdd]
  refine CondW_b (fun hc => ?_) (fun hc => ?_)
  · have hi : i < g.length := by simpa [bytesV_length] using hc
    have hcell : (bytesV g)[((i : Nat) : Int).toNat]? = some [V.int .u8 (g[i]).toNat] := by simp [bytesV, hi]
    have hb1 := (g[i]).toNat_lt
    have hib : (i : Int) < (bytesV g).length := by rw [bytesV_length]; omega
    have hw8 : IntKind.u8.wrap (255 - ((g[i]).toNat : Int)) = 255 - ((g[i]).toNat : Int) := u8_in _ (by omega)
    have keep : ∀ q, τ.live[q]? = some true → q ≠ r → (τ.live.set r false ++ [true])[q]? = some true := by
      intro q hq hne
      rw [List.getElem?_append_left (by rw [List.length_set]; exact (List.getElem?_eq_some_iff.1 hq).1), List.getElem?_set_ne (Ne.symm hne)]
      exact hq
    have rn0 : ∀ a b c, renS r a b c (.v (.sl pb pr pz (bytesV bs))) = .v (.sl pb pr pz (bytesV bs)) := fun a b c => renS_old hp h8
    have rn1 : ∀ a b c, renS r a b c (.v (.sl lb lr lz (stepsV ss))) = .v (.sl lb lr lz (stepsV ss)) := fun a b c => renS_old hl h8
    simp -implicitDefEqProofs only [go_sem, Nat.reduceBEq, Nat.reduceAdd, hcell, Option.getD_some, rn0, rn1, beq_self_eq_true]
    refine ⟨⟨by omega, hib, trivial⟩, h6, ⟨by omega, hib, trivial⟩, ⟨⟨trivial, trivial⟩, h6, Nat.le_refl _⟩, ?_⟩
    refine z1 (i + 1, τ.live.length, g.set i (UInt8.ofNat (255 - ((g[i]).toNat : Int)).toNat)) _ _ (.inr ?_) ?_ ?_
    · simp -implicitDefEqProofs only [go_sem, Nat.reduceBEq, Nat.reduceAdd, and_true, true_and, hw8, Int.toNat_natCast, bytesV_set (g := g) (i := i) (x := 255 - ((g[i]).toNat : Int)) (by omega)]
      rw [i64_in _ (by omega)]; simp
    · simp only [List.length_set]; omega
    · have hll2 := h3.llen
      refine ⟨by simp only [List.length_set]; omega, by simp only [List.length_set]; exact h2, ext_kill h3 h8, h4, keep _ h5 h7, live_last' _ _ _, ?_, hll2⟩
      have := (List.getElem?_eq_some_iff.1 h5).1; simp only; omega
  · have hi : ¬ (i < g.length) := by simpa [bytesV_length] using hc
    simp -implicitDefEqProofs only [go_sem, Nat.reduceBEq, Nat.reduceAdd]
    refine z2 _ _ _ ?_
    simp -implicitDefEqProofs only [go_sem, Nat.reduceBEq, Nat.reduceAdd]
    have hp3 := hp.ext h3
    have hl3 := hl.ext h3
    have hrs3 : RdS τ (.sl false (.own q) 1 (bytesV bs)) 1 (bytesV bs) := ⟨_, _, _, rfl, by simp, .inr ⟨h5, rfl⟩⟩
    generalize V.sl false (.own q) 1 (bytesV bs) = rs at h4 hrs3
    clear z1 z2 z3 hc
    refine loop_at (fun (x : Nat × Nat × Int × Int) => ⟨[(0, .v (.sl pb pr pz (bytesV bs))), (1, .v (.sl lb lr lz (stepsV ss))), (6, .v (.ptr (some (i0, 0)))), (7, .loc 7 0), (9, .v (.int .i64 x.1))],
      [(7, cellsR (.sl pb pr pz (bytesV bs)) x.2.1 x.2.2.1 x.2.2.2)]⟩)
      (fun x τ => x.1 ≤ ss.length ∧ x.2.1 ≤ bs.length ∧ (x.2.2.1 = 0 → x.2.2.2 = 0) ∧ RdS τ (.sl pb pr pz (bytesV bs)) 1 (bytesV bs) ∧ RdS τ (.sl lb lr lz (stepsV ss)) 2 (stepsV ss) ∧ RdS τ rs 1 (bytesV bs) ∧
        τ.objs[i0]? = some (.cells (cellsR rs x.2.1 x.2.2.1 x.2.2.2))) (fun x => ss.length - x.1) (0, 0, 0, 0) ?_ ?_ ?_
    · exact .inr (by simp [go_sem, cellsR])
    · exact ⟨Nat.zero_le _, Nat.zero_le _, fun _ => rfl, hp3, hl3, hrs3, h4⟩
    clear hrs3 hl3 hp3 h8 h7 h6 h5 h4 h3 h2 h1
    rintro ⟨i, a, e, b⟩ τ ⟨h1, h2, h3, h4, h5, h6, h7⟩ Z z1 z2 z3
    simp only at h1 h2 h3 h7
    simp -implicitDefEqProofs only [go_sem, Nat.reduceBEq, Nat.reduceAdd]
    refine CondW_b (fun hc => ?_) (fun hc => ?_)
    · have hi : i < ss.length := by simpa [stepsV] using hc
      obtain ⟨k1, k2⟩ := rdl h5 (by cases ss <;> simp [stepsV] at hi ⊢)
      have hget := stepsV_get hi
      generalize ss[i] = km at hget
      obtain ⟨k, m⟩ := km
      simp only at hget
      have hib : (i : Int) < (stepsV ss).length := by simp [stepsV]; omega
      simp -implicitDefEqProofs only [go_sem, Nat.reduceBEq, Nat.reduceAdd]
      refine cut_at (fun G τ => ∃ a e b, G = rdF (.sl pb pr pz (bytesV bs)) (.sl lb lr lz (stepsV ss)) i0 i a e b ∧ a ≤ bs.length ∧ (e = 0 → b = 0) ∧ RdS τ (.sl pb pr pz (bytesV bs)) 1 (bytesV bs) ∧ RdS τ (.sl lb lr lz (stepsV ss)) 2 (stepsV ss) ∧ RdS τ rs 1 (bytesV bs) ∧
        τ.objs[i0]? = some (.cells (cellsR rs a e b))) ?_ ?_
      · intro Y y1 y2 y3
        simp -implicitDefEqProofs only [go_sem, Nat.reduceBEq, Nat.reduceAdd, hget, cellsR]
        refine ⟨⟨by omega, hib, k2⟩, k1, ?_⟩
        by_cases e0 : k = 0
        · have d0 : decide (k = 0) = true := by simp [e0]
          simp -implicitDefEqProofs only [go_sem, Nat.reduceBEq, Nat.reduceAdd, d0]
          refine ⟨trivial, call_at (refNext_ok (e := e) (bad := b) h4 h2 (by omega) h3) ?_⟩
          rintro v τ1 ⟨rfl, rfl⟩
          refine ⟨kept_none, ?_⟩
          have hnum := num_ok h7 h6 h2 (by omega)
          have hx1 := (numR_bound bs e b h2).1
          have hx2 := numR_bad (p := bs) (at_ := a) h3
          generalize numR bs a e b = x at hnum hx1 hx2
          obtain ⟨n, a', e', b'⟩ := x
          simp only at hx1 hx2
          simp -implicitDefEqProofs only [go_sem, Nat.reduceBEq, Nat.reduceAdd, rdr, cellsR, List.getElem?_cons_zero, List.getElem?_cons_succ]
          refine ⟨⟨⟨trivial, trivial⟩, by decide⟩, call_at hnum ?_⟩
          rintro v τ2 ⟨rfl, rfl⟩
          refine ⟨kept_none, ?_⟩
          have hd : decide ((n : Int) = (n : Int)) = true := by simp
          simp -implicitDefEqProofs only [go_sem, Nat.reduceBEq, Nat.reduceAdd, hd]
          refine y1 _ _ _ (.inr ?_) ⟨a', e', b', rfl, hx1, hx2, h4.setC, h5.setC, h6.setC, setC_get (List.getElem?_eq_some_iff.1 h7).1⟩
          simp -implicitDefEqProofs only [go_sem, Nat.reduceBEq, Nat.reduceAdd, rdF, cellsR, and_true]
        · have d0 : decide (k = 0) = false := by simp [e0]
          by_cases e1 : k = 1
          · have d1 : decide (k = 1) = true := by simp [e1]
            simp -implicitDefEqProofs only [go_sem, Nat.reduceBEq, Nat.reduceAdd, d0, d1, hget]
            refine ⟨trivial, ⟨by omega, hib, k2⟩, k1, call_at (refCount_ok (e := e) (bad := b) (most := m) h4 h2 (by omega) h3) ?_⟩
            rintro v τ1 ⟨rfl, rfl⟩
            refine ⟨(Ext.refl _).kept, ?_⟩
            have hnum := count_ok (most := m) h7 h6 h2 (by omega)
            have hx1 := (cntR_bound bs e b m h2).1
            have hx2 := cntR_bad (p := bs) (at_ := a) (most := m) h3
            generalize cntR bs a e b m = x at hnum hx1 hx2
            obtain ⟨n, a', e', b'⟩ := x
            simp only at hx1 hx2
            simp -implicitDefEqProofs only [go_sem, Nat.reduceBEq, Nat.reduceAdd, rdr, cellsR, List.getElem?_cons_zero, List.getElem?_cons_succ, hget]
            refine ⟨⟨⟨trivial, trivial⟩, by decide⟩, ⟨by omega, hib, k2⟩, k1, call_at hnum ?_⟩
            rintro v τ2 ⟨rfl, rfl⟩
            refine ⟨kept_none, ?_⟩
            have hd : decide ((n : Int) = (n : Int)) = true := by simp
            simp -implicitDefEqProofs only [go_sem, Nat.reduceBEq, Nat.reduceAdd, hd]
            refine y1 _ _ _ (.inr ?_) ⟨a', e', b', rfl, hx1, hx2, h4.setC, h5.setC, h6.setC, setC_get (List.getElem?_eq_some_iff.1 h7).1⟩
            simp -implicitDefEqProofs only [go_sem, Nat.reduceBEq, Nat.reduceAdd, rdF, cellsR, and_true]
          · have d1 : decide (k = 1) = false := by simp [e1]
            by_cases e2 : k = 2
            · have d2 : decide (k = 2) = true := by simp [e2]
              simp -implicitDefEqProofs only [go_sem, Nat.reduceBEq, Nat.reduceAdd, d0, d1, d2, hget]
              refine ⟨trivial, ⟨by omega, hib, k2⟩, k1, call_at (refText_ok (e := e) (bad := b) (most := m) h4 h2 (by omega) h3) ?_⟩
              rintro v τ1 ⟨rfl, rfl⟩
              refine ⟨(Ext.refl _).kept, ?_⟩
              have hnum := text_ok (most := m) h7 h6 h2 (by omega)
              have hx1 := txtR_bound bs e b m h2
              have hx2 := txtR_bad (p := bs) (at_ := a) (most := m) h3
              generalize txtR bs a e b m = x at hnum hx1 hx2
              obtain ⟨n, a', e', b'⟩ := x
              simp only at hx1 hx2
              simp -implicitDefEqProofs only [go_sem, Nat.reduceBEq, Nat.reduceAdd, rdr, cellsR, List.getElem?_cons_zero, List.getElem?_cons_succ, hget]
              refine ⟨⟨⟨trivial, trivial⟩, by decide⟩, ⟨by omega, hib, k2⟩, k1, call_at hnum ?_⟩
              rintro v τ2 ⟨rfl, rfl⟩
              refine ⟨kept_none, ?_⟩
              have hd : decide (n = n) = true := by simp
              simp -implicitDefEqProofs only [go_sem, Nat.reduceBEq, Nat.reduceAdd, hd]
              refine y1 _ _ _ (.inr ?_) ⟨a', e', b', rfl, hx1, hx2, h4.setC, h5.setC, h6.setC, setC_get (List.getElem?_eq_some_iff.1 h7).1⟩
              simp -implicitDefEqProofs only [go_sem, Nat.reduceBEq, Nat.reduceAdd, rdF, cellsR, and_true]
            · have d2 : decide (k = 2) = false := by simp [e2]
              simp -implicitDefEqProofs only [go_sem, Nat.reduceBEq, Nat.reduceAdd, d0, d1, d2]
              refine y1 _ _ _ (.inr ?_) ⟨a, e, b, rfl, h2, h3, h4, h5, h6, h7⟩
              simp -implicitDefEqProofs only [go_sem, Nat.reduceBEq, Nat.reduceAdd, rdF, cellsR, and_true]
      · clear h7 h6 h5 h4 h3 h2 k1 hc
        rintro G τ ⟨a, e, b, rfl, h2, h3, h4, h5, h6, h7⟩
        have hbl := bytesV_length bs
        simp -implicitDefEqProofs only [go_sem, Nat.reduceBEq, Nat.reduceAdd, rdF]
        refine call_at (why_ok h7) ?_
        rintro v τ1 ⟨rfl, rfl⟩
        refine ⟨kept_none, ?_⟩
        have de : (!decide (e = e)) = false := by simp
        have db : (!decide (b = b)) = false := by simp
        have da : (!decide ((a : Int) = (a : Int))) = false := by simp
        have hw : IntKind.i64.wrap ((bs.length : Int) - (a : Int)) = ((bs.length - a : Nat) : Int) := by rw [i64_in _ (by omega)]; omega
        have dl : (!decide (((bs.length - a : Nat) : Int) = ((bs.length - a : Nat) : Int))) = false := by simp
        have dd : (!decide (doneR bs a e = doneR bs a e)) = false := by simp
        simp -implicitDefEqProofs only [go_sem, Nat.reduceBEq, Nat.reduceAdd, cellsR, Bool.not_true, List.getElem?_cons_zero, List.getElem?_cons_succ, de, db]
        refine call_at (at_ok h7) ?_
        rintro v τ1 ⟨rfl, rfl⟩
        refine ⟨(Ext.refl _).kept, ?_⟩
        simp -implicitDefEqProofs only [go_sem, Nat.reduceBEq, Nat.reduceAdd, da, hbl, hw]
        refine call_at (left_ok h7 h6 h2 (by omega)) ?_
        rintro v τ1 ⟨rfl, rfl⟩
        refine ⟨(Ext.refl _).kept, ?_⟩
        simp -implicitDefEqProofs only [go_sem, Nat.reduceBEq, Nat.reduceAdd, dl]
        refine ⟨trivial, call_at (done_ok h7 h6) ?_⟩
        rintro v τ1 ⟨rfl, rfl⟩
        refine ⟨(Ext.refl _).kept, ?_⟩
        simp -implicitDefEqProofs only [go_sem, Nat.reduceBEq, Nat.reduceAdd]
        refine call_at (refDone_ok (e := e) (bad := b) (at_ := a) h4) ?_
        rintro v τ1 ⟨rfl, rfl⟩
        refine ⟨(Ext.refl _).kept, ?_⟩
        simp -implicitDefEqProofs only [go_sem, Nat.reduceBEq, Nat.reduceAdd, dd]
        refine z1 (i + 1, a, e, b) _ _ (.inr ?_) ?_ ?_
        · simp -implicitDefEqProofs only [go_sem, Nat.reduceBEq, Nat.reduceAdd, cellsR, and_true]
          rw [i64_in _ (by omega)]; simp
        · simp only; omega
        · exact ⟨by simp only; omega, h2, h3, h4, h5, h6, h7⟩
    · have hi : ¬ (i < ss.length) := by simpa [stepsV] using hc
      simp -implicitDefEqProofs only [go_sem, Nat.reduceBEq, Nat.reduceAdd]
      refine z2 _ _ _ ?_
      simp -implicitDefEqProofs only [go_sem, Nat.reduceBEq, Nat.reduceAdd]
      refine call_at awake_ok ?_
      rintro v τ1 ⟨_, rfl⟩
      refine ⟨kept_none, ?_⟩
      simp -implicitDefEqProofs only [go_sem, Nat.reduceBEq, Nat.reduceAdd]
      refine q2 _ _ ?_
      simp -implicitDefEqProofs only [go_sem, Nat.reduceBEq, Nat.reduceAdd]
end Go.VL

import Derived.Test.YtcojigpknididaaB1
import Derived.Test.YtcojigpknididaaProg
import Derived.Shelf.RegionOpenPlain
import Derived.WalkKit
import Derived.Deep.LoopGhost
import Derived.Deep.Draws
import Derived.Lib.Walk
import Derived.Sort.WalkB12
import Derived.Lib.SliceRun
import Derived.Shelf.Spec.SlicesInsert
import Derived.Lib.SlicesS
import Derived.Laws.StructEq
import Derived.ChangeKeysEq
import Derived.ProofKit
import Derived.OpenShut
import Derived.JoinedCond
set_option linter.unusedVariables false
set_option linter.unusedSimpArgs false
namespace Go.VL
open Go

theorem RdS.setC {σ : St} {v : V} {s i : Nat} {es : List (List V)} {cs : List V} (h : RdS σ v s es) : RdS (σ.setC i cs) v s es := by
  obtain ⟨b, r, s', h1, h2, h3⟩ := h
  refine ⟨b, r, s', h1, h2, h3.imp_right fun x => ⟨?_, x.2⟩⟩
  have := x.1
  cases r <;> exact this
theorem ext_set {σ σ' : St} (h : Ext σ σ') {i : Nat} (hi : σ.objs.length ≤ i) {cs : List V} : Ext σ (σ'.setC i cs) :=
  ⟨fun j o hj => by
    have h1 := (List.getElem?_eq_some_iff.1 hj).1
    show (σ'.objs.set i _)[j]? = some o
    rw [List.getElem?_set_ne (by omega)]
    exact h.objs _ _ hj, h.live, by
    show σ.objs.length ≤ (σ'.objs.set i _).length
    rw [List.length_set]; exact h.olen, h.llen⟩
theorem rdl {τ : St} {b : Bool} {r : R} {s n : Nat} {es : List (List V)} (h : RdS τ (.sl b r s es) n es) (hne : es ≠ []) : rd τ.live r ∧ s = n := by
  obtain ⟨b', r', s', e, h1, h2⟩ := h
  cases e
  exact h2.resolve_left fun hb => hne (h1 hb)
theorem rd_src {τ : St} {b : Bool} {r : R} {s n : Nat} {es : List (List V)} (h : RdS τ (.sl b r s es) n es) : (b = true ∨ rd τ.live r) ∧ (s = n ∨ es = []) := by
  obtain ⟨b', r', s', e, h1, h2⟩ := h
  cases e
  rcases h2 with h2 | h2
  · exact ⟨.inl h2, .inr (h1 h2)⟩
  · exact ⟨.inr h2.1, .inl h2.2⟩
/-- A value that is a slice. -/
def IsSl (s : V) : Prop := ∃ b r z es, s = .sl b r z es
theorem RdS.isSl {σ : St} {s : V} {n : Nat} {es : List (List V)} (h : RdS σ s n es) : IsSl s := by
  obtain ⟨b, r, z, h, _⟩ := h
  exact ⟨b, r, z, es, h⟩
end Go.VL

namespace Go.VL.st
open Go Go.VL

structure Sp where
  c : Int
  r : Int
  deriving DecidableEq
def zs : Sp := ⟨0, 0⟩
theorem sp_iff {a b : Sp} : a = b ↔ a.c = b.c ∧ a.r = b.r := by
  cases a; cases b; simp
theorem sp_dec (a b : Sp) : decide (a = b) = (decide (a.c = b.c) && decide (a.r = b.r)) := by
  rw [Bool.eq_iff_iff]; simp [sp_iff]
def spC (s : Sp) : List V := [.int .i64 s.c, .int .i64 s.r]
def spV (s : Sp) : V := .agg (spC s)
theorem sp_eqs (a b : Sp) : V.eqs [.int .i64 a.c, .int .i64 a.r] [.int .i64 b.c, .int .i64 b.r] = decide (a = b) := by
  simp [V.eqs, V.eq, sp_dec]
def right (s : Sp) : Bool := decide (1 ≤ s.c) && (decide (s.c ≤ 1099511627776) && (decide (0 ≤ s.r) && decide (s.r < 64)))
def less (a b : Sp) : Bool := decide (a.c < b.c) || (decide (a.c = b.c) && decide (a.r < b.r))
def cmp (a b : Sp) : Int := bif decide (a = b) then 0 else bif less a b then -1 else 1
theorem less_irr (a : Sp) : less a a = false := by simp [less]
theorem less_trans {a b c : Sp} (h : less a b = true) (k : less b c = true) : less a c = true := by
  simp only [less, Bool.or_eq_true, Bool.and_eq_true, decide_eq_true_eq] at *
  omega
theorem less_asymm {a b : Sp} (h : less a b = true) : less b a = false := by
  cases k : less b a with
  | false => rfl
  | true => have := less_trans h k; rw [less_irr] at this; cases this
theorem less_total {a b : Sp} (h : less a b = false) (k : less b a = false) : a = b := by
  simp only [less, Bool.or_eq_false_iff, Bool.and_eq_false_iff, decide_eq_false_iff_not] at h k
  exact sp_iff.2 (by omega)
theorem less_of {a b : Sp} (h : less a b = false) (hne : a ≠ b) : less b a = true := by
  cases k : less b a with
  | true => rfl
  | false => exact absurd (less_total h k) hne
theorem cmp_neg (a b : Sp) : decide (cmp a b < 0) = less a b := by
  unfold cmp
  by_cases h : a = b
  · subst h; simp [less_irr]
  · simp only [h, decide_false, cond_false]
    cases less a b <;> simp
def spsV (l : List Sp) : List (List V) := l.map spC
theorem spsV_get {l : List Sp} {i : Nat} (h : i < l.length) : (spsV l)[((i : Nat) : Int).toNat]?.getD [] = spC l[i] := by simp [spsV, h]
end Go.VL.st

namespace Go.Proofs
open Go.Shelf Go.RowKit Go.Lib Go.Sort Go.VL Go.VL.st

set_option maxHeartbeats 1000000 in
theorem cpt_short (base : Option Addr) (n cap : Nat) (w : World) (hn : n < 2) :
    Calls Try.prog 90 #[.slice base n cap] w fun e w' => e = .returned (.slice base n cap) ∧ w' = w := by
  have mixed : Try.prog.follows .mixedOrders = true := by kernel_rfl
  have h2 : (n : Int) < 2 := by omega
  go_enter Try.func90, Try.ntmps90
  go_wp2
  go_ret
  exact ⟨rfl, rfl⟩

theorem eq35 (x y : Sp) (W : World) : (Op.equalIn 10000 35 (.agg #[.int .i64 x.c, .int .i64 x.r]) (.agg #[.int .i64 y.c, .int .i64 y.r])).run Try.prog W = .ok (decide (x = y)) W := by
  rw [run_equalIn_agg W 9999 35 _ _ (by kernel_rfl) (by kernel_rfl)]
  have hf : (Try.prog.fieldsOf 35).toList = [(Try.prog.fieldsOf 35)[0]!, (Try.prog.fieldsOf 35)[1]!] := by kernel_rfl
  have n0 : ((Try.prog.fieldsOf 35)[0]!).name ≠ "_" := by decide +kernel
  have n1 : ((Try.prog.fieldsOf 35)[1]!).name ≠ "_" := by decide +kernel
  have t0 : ((Try.prog.fieldsOf 35)[0]!).type = 3 := by kernel_rfl
  have t1 : ((Try.prog.fieldsOf 35)[1]!).type = 3 := by kernel_rfl
  have o0 : ((Try.prog.fieldsOf 35)[0]!).offset = 0 := by kernel_rfl
  have o1 : ((Try.prog.fieldsOf 35)[1]!).offset = 1 := by kernel_rfl
  rw [hf]
  generalize (Try.prog.fieldsOf 35)[0]! = f0 at *
  generalize (Try.prog.fieldsOf 35)[1]! = f1 at *
  have p0 : ∀ (a b : Value) W, (part 3 #[a, b] 0).run Try.prog W = .ok a W := fun a b W => run_part_plain W (e := 3) (by kernel_rfl) rfl
  have p1 : ∀ (a b : Value) W, (part 3 #[a, b] 1).run Try.prog W = .ok b W := fun a b W => run_part_plain W (e := 3) (by kernel_rfl) rfl
  simp only [Op.eqFields, n0, n1, t0, t1, o0, o1, ne_eq, not_false_eq_true, if_true, Sem.run_bind, p0, p1, Result.andThen_ok, run_equalIn_int W 9998 3 .i64 .i64 _ _ Try.underlying3]
  by_cases h0 : x.c = y.c
  · by_cases h1 : x.r = y.r
    · have : x = y := sp_iff.2 ⟨h0, h1⟩
      simp [h0, h1, this, p1, run_equalIn_int _ 9998 3 .i64 .i64 _ _ Try.underlying3]
    · have : ¬ x = y := fun e => h1 (congrArg Sp.r e)
      simp [h0, h1, this, p1, run_equalIn_int _ 9998 3 .i64 .i64 _ _ Try.underlying3]
  · have : ¬ x = y := fun e => h0 (congrArg Sp.c e)
    simp [h0, this]
/-- Stamps lie in memory. -/
def Lies (w : World) (blk off : Nat) (l : List Sp) : Prop :=
  ∀ (j : Nat) (h : j < l.length), w.cell? ⟨blk, off + j * 2, none⟩ = some (.int .i64 l[j].c) ∧ w.cell? ⟨blk, off + j * 2 + 1, none⟩ = some (.int .i64 l[j].r) ∧ w.frozen? ⟨blk, off + j * 2, none⟩ = false ∧ w.frozen? ⟨blk, off + j * 2 + 1, none⟩ = false
/-- clear of stamps. -/
theorem run_clear2 (w : World) (ty : TypeId) (b o n c : Nat) (hn : 0 < n) (h3 : n ≤ 3)
    (hc : ∀ j, j < n * 2 → (w.cell? ⟨b, o + j, none⟩).isSome = true) (hf : ∀ j, j < n * 2 → w.frozen? ⟨b, o + j, none⟩ = false) :
    (Builtin.clear_ #[60] ty #[.slice (some ⟨b, o, none⟩) n c]).run Try.prog w = .ok (.tuple #[]) (w.setCells b o (List.replicate (n * 2) (.int .i64 0))) := by
  obtain ⟨zv, hzv⟩ : ∃ zv, Try.t35.zero = some zv := Option.isSome_iff_exists.1 (by kernel_rfl)
  have hzc : zv.cells = #[.int .i64 0, .int .i64 0] := by
    have h2 : (Try.t35.zero.map fun z => z.cells) = some #[.int .i64 0, .int .i64 0] := by kernel_rfl
    rw [hzv] at h2
    simpa using h2
  have hzl : (Builtin.zeroCells zv.cells n).toList = List.replicate (n * 2) (.int .i64 0) := by
    rw [hzc]
    obtain rfl | rfl | rfl : n = 1 ∨ n = 2 ∨ n = 3 := by omega
    all_goals kernel_rfl
  have hv : ∀ w, (zeroValue 35).run Try.prog w = .ok zv w := fun w => Go.VL.run_zeroValue (P := Try.prog) (by kernel_rfl) hzv
  have hst := run_storeCells_cells (P := Try.prog) b o (List.replicate (n * 2) (.int .i64 0)) 0 w (by simpa using hc) (by simpa using hf) (by intro v hv'; rw [List.eq_of_mem_replicate hv']; rfl)
  simp only [Nat.add_zero] at hst
  obtain ⟨m, rfl⟩ : ∃ m, n = m + 1 := ⟨n - 1, by omega⟩
  simp [Builtin.clear_, run_underlying Try.underlying60, hv, hzl, hst]
/-- What is left, and what is written. -/
inductive Left (l : List Sp) : Nat → List Value → Nat → List Value → Nat → Prop
  | all : (∀ j (h : j + 1 < l.length), l[j + 1] ≠ l[j]) → Left l l.length [] 0 [] 0
  | last (n : Nat) : l.length = n + 2 → (∀ h : n + 1 < l.length, l[n + 1] = l[n]) → (∀ j (h : j + 1 < n + 1) (h' : j + 1 < l.length), l[j + 1] ≠ l[j]) → Left l (n + 1) [] 0 [.int .i64 0, .int .i64 0] ((n + 1) * 2)
  | mid : (h : l.length = 3) → l[1] = l[0] → l[2] ≠ l[1] → Left l 2 [.int .i64 l[2].c, .int .i64 l[2].r] 2 [.int .i64 0, .int .i64 0] 4
  | one : (h : l.length = 3) → l[1] = l[0] → l[2] = l[1] → Left l 1 [] 0 [.int .i64 0, .int .i64 0, .int .i64 0, .int .i64 0] 2
set_option maxHeartbeats 4000000 in
set_option maxRecDepth 1000000 in
theorem cpt_three (blk off cap : Nat) (l : List Sp) (w : World) (hl : Lies w blk off l) (h2 : 2 ≤ l.length) (h3 : l.length ≤ 3) (hcap : l.length ≤ cap) :
    Calls Try.prog 90 #[.slice (some ⟨blk, off, none⟩) l.length cap] w fun e w' =>
      ∃ (n : Nat) (A B : List Value) (oa ob q0 q1 q2 : Nat), Left l n A oa B ob ∧ e = .returned (.slice (some ⟨blk, off, none⟩) n cap) ∧ w' = ((((w.drewN q0).setCells blk (off + oa) A).drewN q1).setCells blk (off + ob) B).drewN q2 := by
  have mixed : Try.prog.follows .mixedOrders = true := by kernel_rfl
  have h2' : ¬ (l.length : Int) < 2 := by omega
  have g35 : Try.prog.eqGuardType Try.prog.depth 35 = false := by kernel_rfl
  have L : Aside (Lies w blk off l ∧ 2 ≤ l.length ∧ l.length ≤ 3) := ⟨hl, h2, h3⟩
  generalize hn : l.length = n at *
  go_enter Try.func90, Try.ntmps90
  go_wp2
  go_loopg [3] n (fun g s3 wr => ∃ k q : Nat, 1 ≤ k ∧ k ≤ n ∧ n - k ≤ g ∧ s3 = .int .i64 k ∧ wr = w.drewN q ∧ ∀ j (h : j + 1 < k) (h' : j + 1 < l.length), l[j + 1] ≠ l[j])
  case atStart => exact ⟨1, 0, Nat.le_refl _, by omega, by omega, rfl, rfl, fun j h => by omega⟩
  case round =>
    obtain ⟨k, q, hk1, hk, hg, rfl, rfl, hall⟩ := hrel
    have A : Aside (∀ j (h : j + 1 < k) (h' : j + 1 < l.length), l[j + 1] ≠ l[j]) := hall
    clear hall
    by_cases hlt : k < n
    · obtain ⟨c1, c1', f1, f1'⟩ := hl k (by omega)
      obtain ⟨c0, c0', f0, f0'⟩ := hl (k - 1) (by omega)
      obtain ⟨x, hx⟩ : ∃ x, x = l[k] := ⟨_, rfl⟩
      obtain ⟨y, hy⟩ : ∃ y, y = l[k - 1] := ⟨_, rfl⟩
      rw [← hx] at c1 c1'
      rw [← hy] at c0 c0'
      have B : Aside (x = l[k] ∧ y = l[k - 1]) := ⟨hx, hy⟩
      clear hl hx hy
      by_cases hdup : x = y
      · have he : ∀ W, (Op.equalIn 10000 35 (.agg #[.int .i64 x.c, .int .i64 x.r]) (.agg #[.int .i64 y.c, .int .i64 y.r])).run Try.prog W = .ok true W := fun W => by rw [eq35]; simp [hdup]
        have D : Aside (x = y) := hdup
        clear hdup
        go_wp2_with fail
        go_region_o
        go_wp2
        clear c0 c0' c1 c1' f0 f0' f1 f1' he
        go_loopg [3, 5] n (fun g s3 s5 wr => ∃ (kk k2 q2 q3 oa : Nat) (S : List Value), s3 = .int .i64 kk ∧ s5 = .int .i64 k2 ∧ n - (k + k2) ≤ g ∧ wr = (((w.drewN q2).setCells blk (off + oa) S).drewN q3) ∧
          ((k2 = 1 ∧ kk = k ∧ S = [] ∧ oa = 0 ∧ q3 = 0) ∨ ∃ h : l.length = 3, k2 = 2 ∧ k = 1 ∧ ((l[2] = l[1] ∧ kk = 1 ∧ S = [] ∧ oa = 0) ∨ (l[2] ≠ l[1] ∧ kk = 2 ∧ S = [.int .i64 l[2].c, .int .i64 l[2].r] ∧ oa = 2))))
        case atStart => exact ⟨k, 1, q + 1, 0, 0, [], rfl, rfl, by omega, rfl, .inl ⟨rfl, rfl, rfl, rfl, rfl⟩⟩
        case round =>
          obtain ⟨kk, k2, q2, q3, oa, S, rfl, rfl, hg2, hwr, hcase⟩ := hrel
          rcases hcase with ⟨hk2, hkk, rfl, rfl, rfl⟩ | ⟨h, hk2, hk1', hcase⟩
          · have hwr' : wr = w.drewN q2 := hwr
            clear hwr
            subst hwr'
            have h1k : 1 ≤ k2 := by omega
            have hkkn : kk < n := by omega
            by_cases hlt2 : k + k2 < n
            · have hk1' : k = 1 := by omega
              have hn3 : n = 3 := by omega
              obtain ⟨c2, c2', f2, f2'⟩ := L.out.1 2 (by omega)
              obtain ⟨c1, c1', f1, f1'⟩ := L.out.1 1 (by omega)
              obtain ⟨u, hu⟩ : ∃ u, u = l[2] := ⟨_, rfl⟩
              obtain ⟨v, hv⟩ : ∃ v, v = l[1] := ⟨_, rfl⟩
              rw [← hu] at c2 c2'
              rw [← hv] at c1 c1'
              have E : Aside (l[2]? = some u ∧ l[1]? = some v) := ⟨by rw [hu]; exact List.getElem?_eq_getElem _, by rw [hv]; exact List.getElem?_eq_getElem _⟩
              clear hu hv
              have ck := c1
              have ck' := c1'
              have fk := f1
              have fk' := f1'
              rw [show off + 2 * 2 = off + k * 2 + k2 * 2 by omega] at c2 c2' f2 f2'
              rw [show off + 1 * 2 = off + k * 2 + (k2 - 1) * 2 by omega] at c1 c1' f1 f1'
              rw [show off + 1 * 2 = off + kk * 2 by omega] at ck ck' fk fk'
              have F : Aside (k2 = 1 ∧ kk = k ∧ k = 1 ∧ n = 3) := ⟨hk2, hkk, hk1', hn3⟩
              clear hk2 hkk hk1' hn3
              by_cases huv : u = v
              · have he : ∀ W, (Op.equalIn 10000 35 (.agg #[.int .i64 u.c, .int .i64 u.r]) (.agg #[.int .i64 v.c, .int .i64 v.r])).run Try.prog W = .ok true W := fun W => by rw [eq35]; simp [huv]
                go_wp2_with fail
                go_region_o
                go_wp2
                go_roundg (n - (k + (k2 + 1)))
                case measure => omega
                case rel =>
                  obtain ⟨g1, g2, g3, g4⟩ := F.out
                  obtain ⟨i2, i3⟩ := E.out
                  have i1 : l.length = 3 := by omega
                  have j2 := (List.getElem?_eq_some_iff.1 i2).2
                  have j3 := (List.getElem?_eq_some_iff.1 i3).2
                  exact ⟨kk, k2 + 1, q2 + 1, 0, 0, [], by go_num, by go_num, by omega, rfl, .inr ⟨i1, by omega, g3, .inl ⟨by rw [j2, j3]; exact huv, by omega, rfl, rfl⟩⟩⟩
              · have he : ∀ W, (Op.equalIn 10000 35 (.agg #[.int .i64 u.c, .int .i64 u.r]) (.agg #[.int .i64 v.c, .int .i64 v.r])).run Try.prog W = .ok false W := fun W => by rw [eq35]; simp [huv]
                go_wp2_with fail
                go_region_o
                go_wp2
                go_roundg (n - (k + (k2 + 1)))
                case measure => omega
                case rel =>
                  obtain ⟨g1, g2, g3, g4⟩ := F.out
                  obtain ⟨i2, i3⟩ := E.out
                  have i1 : l.length = 3 := by omega
                  have j2 := (List.getElem?_eq_some_iff.1 i2).2
                  have j3 := (List.getElem?_eq_some_iff.1 i3).2
                  have hkk1 : kk = 1 := by omega
                  refine ⟨kk + 1, k2 + 1, q2 + 1, 0, 2, [.int .i64 u.c, .int .i64 u.r], by go_num, by go_num, by omega, ?_, .inr ⟨i1, by omega, g3, .inr ⟨by rw [j2, j3]; exact huv, by omega, by rw [j2], rfl⟩⟩⟩
                  rw [hkk1]; rfl
            · have hnk : n = k + 1 := by omega
              have hcl : ∀ ty, (Builtin.clear_ #[60] ty #[.slice (some ⟨blk, off + kk * 2, none⟩) (n - kk) (cap - kk)]).run Try.prog (w.drewN q2) = .ok (.tuple #[]) ((w.drewN q2).setCells blk (off + kk * 2) (List.replicate ((n - kk) * 2) (.int .i64 0))) := fun ty => by
                obtain ⟨d1, d2, d3, d4⟩ := L.out.1 k (by omega)
                refine run_clear2 (w.drewN q2) ty blk (off + kk * 2) (n - kk) (cap - kk) (by omega) (by omega) (fun j hj => ?_) (fun j hj => ?_)
                all_goals
                  obtain rfl | rfl : j = 0 ∨ j = 1 := by omega
                · show (w.cell? ⟨blk, off + kk * 2, none⟩).isSome = true
                  rw [hkk, d1]; rfl
                · show (w.cell? ⟨blk, off + kk * 2 + 1, none⟩).isSome = true
                  rw [hkk, d2]; rfl
                · show w.frozen? ⟨blk, off + kk * 2, none⟩ = false
                  rw [hkk, d3]
                · show w.frozen? ⟨blk, off + kk * 2 + 1, none⟩ = false
                  rw [hkk, d4]
              have F : Aside (k2 = 1 ∧ kk = k ∧ n = k + 1) := ⟨hk2, hkk, hnk⟩
              clear hk2 hkk hnk
              go_wp2
              go_ret
              obtain ⟨g1, g2, g3⟩ := F.out
              obtain ⟨k', rfl⟩ : ∃ k', k = k' + 1 := ⟨k - 1, by omega⟩
              refine ⟨kk, [], List.replicate ((n - kk) * 2) (.int .i64 0), 0, kk * 2, ?_, rfl, q2, 0, 0, rfl⟩
              rw [show (n - kk) * 2 = 2 by omega, g2]
              refine .last k' (by omega) (fun h => ?_) fun j h h' => A.out j (by omega) h'
              have h1 := B.out.1
              have h2 := B.out.2
              have h3 := D.out
              rw [h1, h2] at h3
              exact h3
          · have hnk : n = 3 := by omega
            have hx01 : l[1]? = l[0]? := by
              have h1 := B.out.1
              have h2 := B.out.2
              have h3 := D.out
              rw [h1, h2] at h3
              subst hk1'
              rw [List.getElem?_eq_getElem (by omega), List.getElem?_eq_getElem (by omega)]
              exact congrArg some h3
            have hS : S.length ≤ 2 ∧ (S = [] ∨ oa = 2) := by
              rcases hcase with ⟨-, -, rfl, -⟩ | ⟨-, -, rfl, e⟩
              · exact ⟨by simp, .inl rfl⟩
              · exact ⟨by simp, .inr e⟩
            have hsome0 : ∀ j, j < 6 → (w.cell? ⟨blk, off + j, none⟩).isSome = true ∧ w.frozen? ⟨blk, off + j, none⟩ = false := fun j hj => by
              obtain ⟨d1, d2, d3, d4⟩ := L.out.1 (j / 2) (by omega)
              rcases Nat.mod_two_eq_zero_or_one j with e | e
              · rw [show off + j / 2 * 2 = off + j by omega] at d1 d3
                exact ⟨by rw [d1]; rfl, d3⟩
              · rw [show off + j / 2 * 2 + 1 = off + j by omega] at d2 d4
                exact ⟨by rw [d2]; rfl, d4⟩
            have hsome : ∀ j, j < 6 → (wr.cell? ⟨blk, off + j, none⟩).isSome = true ∧ wr.frozen? ⟨blk, off + j, none⟩ = false := fun j hj => by
              have hc : ∀ x, wr.cell? x = ((w.drewN q2).setCells blk (off + oa) S).cell? x := fun x => by rw [hwr]; rfl
              have hf : ∀ x, wr.frozen? x = ((w.drewN q2).setCells blk (off + oa) S).frozen? x := fun x => by rw [hwr]; rfl
              rw [hc, hf, World.frozen?_setCells]
              refine ⟨Go.Proofs.isSome_setCells blk S (off + oa) (w.drewN q2) (fun i hi => ?_) (off + j) (hsome0 j hj).1, (hsome0 j hj).2⟩
              rcases hS.2 with rfl | rfl
              · simp at hi
              · rw [Nat.add_assoc]; exact (hsome0 (2 + i) (by omega)).1
            have hkk3 : kk < 3 ∧ 1 ≤ kk := by rcases hcase with ⟨-, e, -⟩ | ⟨-, e, -⟩ <;> omega
            have hcl : ∀ ty, (Builtin.clear_ #[60] ty #[.slice (some ⟨blk, off + kk * 2, none⟩) (n - kk) (cap - kk)]).run Try.prog wr = .ok (.tuple #[]) (wr.setCells blk (off + kk * 2) (List.replicate ((n - kk) * 2) (.int .i64 0))) := fun ty =>
              run_clear2 wr ty blk (off + kk * 2) (n - kk) (cap - kk) (by omega) (by omega) (fun j hj => by rw [Nat.add_assoc]; exact (hsome (kk * 2 + j) (by omega)).1) (fun j hj => by rw [Nat.add_assoc]; exact (hsome (kk * 2 + j) (by omega)).2)
            have hnlt : ¬ k + k2 < n := by omega
            have hkkn : kk < n := by omega
            have hkkc : kk ≤ cap := by omega
            have F : Aside (k = 1 ∧ n = 3 ∧ l[1]? = l[0]? ∧ wr = ((w.drewN q2).setCells blk (off + oa) S).drewN q3 ∧ ∃ h : l.length = 3, ((l[2] = l[1] ∧ kk = 1 ∧ S = [] ∧ oa = 0) ∨ (l[2] ≠ l[1] ∧ kk = 2 ∧ S = [.int .i64 l[2].c, .int .i64 l[2].r] ∧ oa = 2))) := ⟨hk1', hnk, hx01, hwr, h, hcase⟩
            clear hwr hcase hsome hsome0 hS hx01 hk1' hnk hkk3
            go_wp2
            go_ret
            obtain ⟨g1, g2, g3, g4, h, g5⟩ := F.out
            have e10 : l[1] = l[0] := by
              rw [List.getElem?_eq_getElem (by omega), List.getElem?_eq_getElem (by omega)] at g3
              exact Option.some.inj g3
            rcases g5 with ⟨i1, i2, i3, i4⟩ | ⟨i1, i2, i3, i4⟩
            · refine ⟨kk, S, List.replicate ((n - kk) * 2) (.int .i64 0), oa, kk * 2, ?_, rfl, q2, q3, 0, by rw [g4]; rfl⟩
              rw [g2, i2, i3, i4]
              exact .one h e10 i1
            · refine ⟨kk, S, List.replicate ((n - kk) * 2) (.int .i64 0), oa, kk * 2, ?_, rfl, q2, q3, 0, by rw [g4]; rfl⟩
              rw [g2, i2, i3, i4]
              exact .mid h e10 i1
      · have he : ∀ W, (Op.equalIn 10000 35 (.agg #[.int .i64 x.c, .int .i64 x.r]) (.agg #[.int .i64 y.c, .int .i64 y.r])).run Try.prog W = .ok false W := fun W => by rw [eq35]; simp [hdup]
        go_wp2_with fail
        go_region_o
        go_wp2
        go_roundg (n - (k + 1))
        case measure => omega
        case rel =>
          refine ⟨k + 1, q + 1, by omega, by omega, Nat.le_refl _, by go_num, rfl, fun j h h' => ?_⟩
          by_cases e : j + 1 = k
          · subst e
            rw [← B.out.1]
            exact fun e => hdup (e.trans B.out.2.symm)
          · exact A.out j (by omega) h'
    · have : k = n := by omega
      subst this
      go_wp2
      go_ret
      exact ⟨_, [], [], 0, 0, q, 0, 0, by rw [← hn]; exact .all fun j h => A.out j (by omega) h, rfl, rfl⟩
end Go.Proofs

namespace Go.VL
open Go

theorem repL_set {γ : G} {x x' : V} : ∀ {cs : List V} {vs : List Value} {o : Nat}, RepL γ cs vs → cs[o]? = some x → (∀ v, Rep γ x v → Rep γ x' v) → RepL γ (cs.set o x') vs
  | [], _, _, _, h, _ => by cases h
  | y :: cs, vs, 0, hr, h, hx => by
    simp only [List.getElem?_cons_zero, Option.some.injEq] at h
    subst h
    simp only [RepL, List.set_cons_zero] at hr ⊢
    obtain ⟨v, ws, h1, h2, h3⟩ := hr
    exact ⟨v, ws, h1, hx v h2, h3⟩
  | y :: cs, vs, o + 1, hr, h, hx => by
    simp only [List.getElem?_cons_succ] at h
    simp only [RepL, List.set_cons_succ] at hr ⊢
    obtain ⟨v, ws, h1, h2, h3⟩ := hr
    exact ⟨v, ws, h1, h2, repL_set h3 h hx⟩
theorem INV.recell {γ : G} {σ : St} {w : World} (hi : INV γ σ w) {j : Nat} {cs cs' : List V} (ho : σ.objs[j]? = some (.cells cs)) (hc : ∀ vs, RepL γ cs vs → RepL γ cs' vs) : INV γ (σ.setC j cs') w := by
  refine ⟨hi.os, hi.tape, hi.out, hi.phi, hi.pub, ?_, ?_, hi.inj, hi.rholen, hi.own, hi.snapb, hi.apart, hi.drn⟩
  · show _ = (σ.objs.set j _).length
    rw [List.length_set]; exact hi.mulen
  · intro i b o hb hx
    have hx : (σ.objs.set j (.cells cs'))[i]? = some o := hx
    by_cases e : i = j
    · subst e
      rw [List.getElem?_set_self (List.getElem?_eq_some_iff.1 ho).1] at hx
      cases hx
      obtain ⟨h1, h2, vs, e, h3, h4⟩ := hi.objs _ _ _ hb ho
      exact ⟨h1, h2, vs, e, h3, hc vs h4⟩
    · rw [List.getElem?_set_ne (Ne.symm e)] at hx
      exact hi.objs _ _ _ hb hx
/-- The cell that has the slice has it under its new right. -/
theorem CallM.recell {P : Program} {f : FuncId} {args : List V} {r s : Nat} {es : List (List V)} {σ : St} {K : V → Nat → List (List V) → St → Prop} {j o : Nat} {cs : List V} (h : CallM P f args r s es σ K)
    (hK : ∀ v r' es' σ', K v r' es' σ' → σ'.objs[j]? = some (.cells cs)) (ho : cs[o]? = some (.sl false (.own r) s es)) :
    CallM P f args r s es σ fun v r' es' σ'' => ∃ σ', K v r' es' σ' ∧ σ'' = σ'.setC j (cs.set o (.sl false (.own r') s es')) := by
  refine ⟨h.1, fun γ w vs hi hr => (h.2 γ w vs hi hr).mono ?_⟩
  rintro e w' ⟨v, x, σ', γ', r', es', h1, h2, h3, h4, ⟨vr, h5, h6⟩, h7, h8⟩
  refine ⟨v, x, _, γ', r', es', h1, h2, h3.recell (hK _ _ _ _ h8) fun us hu => repL_set hu ho fun u hu => ?_, h4, ⟨vr, h5, h6⟩, h7, σ', h8, rfl⟩
  simp only [Rep] at hu ⊢
  obtain ⟨a, cap, e1, e2, e3, e4⟩ := hu
  have := h2.rho _ _ h5
  rw [e4] at this
  cases this
  exact ⟨a, cap, by rw [h7]; exact e1, e2, by rw [h7]; exact e3, h6⟩
end Go.VL

namespace Go.VL
open Go Go.ChangeShapes Go.WideShapes Go.ChangeAt Go.RowKit

/-- What was there is as it was. -/
structure OldKept (W w' : World) : Prop where
  os : w'.os = W.os
  out : w'.output = W.output
  heap : ∀ (b : Nat) (o : Obj), W.heap[b]? = some o → w'.heap[b]? = some o

def pubOf (W : World) (b : Nat) : List Value := match W.heap[b]? with
  | some (.cells c _ _) => c.toList
  | _ => []
/-- The ghost at a claim's start: all that is there is laid aside, and may be read. -/
def g0 (W : World) : G := { mu := [], rho := [], pub := pubOf W, phi := fun b => W.heap[b]?, snap := fun _ _ => none, os := W.os, tape := W.tape, out := W.output, drn := W.drawn }

theorem inv0 (W : World) : INV (g0 W) ⟨[], []⟩ W where
  os := rfl
  tape := rfl
  out := rfl
  phi := fun _ _ h => h
  pub := fun b i v h => by
    simp only [g0, pubOf] at h
    split at h
    · rename_i c e z hx
      exact ⟨c, e, z, hx, by simpa using h⟩
    · simp at h
  mulen := rfl
  objs := fun i b o h => by simp [g0] at h
  inj := fun i j b h => by simp [g0] at h
  rholen := rfl
  own := fun r v s es h => by simp at h
  snapb := fun b n x h => by simp [g0] at h
  apart := fun r r' v s es v' s' es' b h => by simp at h
  drn := Nat.le_refl _

theorem entry {P : Program} {f : FuncId} {xs : List V} {W : World} {vs : List Value} {K : V → St → Prop} (h : CallA P f xs ⟨[], []⟩ K) (hr : RepL (g0 W) xs vs) :
    Calls P f vs.toArray W fun e w' => ∃ v x σ γ, e = .returned v ∧ OldKept W w' ∧ INV γ σ w' ∧ Rep γ x v ∧ K x σ := by
  refine (h.2 (g0 W) W vs (inv0 W) hr).mono ?_
  rintro e w' ⟨v, x, σ, γ, rfl, hle, hi, hx, hk⟩
  refine ⟨v, x, σ, γ, rfl, ⟨hi.os.trans hle.os, hi.out.trans hle.out, fun b o hb => hi.phi b o ?_⟩, hi, hx, hk⟩
  rw [hle.phi]; exact hb

theorem OldKept.frame {W w' : World} (h : OldKept W w') (may : MemPlace → Prop) : W.keptBut w' may := by
  refine ⟨h.os, h.out, fun i hi => ?_⟩
  have h1 : W.heap[i]? = some W.heap[i] := Array.getElem?_eq_getElem hi
  rw [h1, h.heap _ _ h1]
  cases W.heap[i] <;> simp

theorem OldKept.frozen {W w' : World} (h : OldKept W w') {a : Addr} (ha : a.block < W.heap.size) : w'.frozen? a = W.frozen? a := by
  have h1 : W.heap[a.block]? = some W.heap[a.block] := Array.getElem?_eq_getElem ha
  simp only [World.frozen?, h1, h.heap _ _ h1]

/-- A claim's postcondition where nothing that was there has changed. -/
theorem post_of_old {H : Type} {enc : TypeId × Value → H} {P : Program} {f : Func} {s : ChangeSpec} {apart fresh handsOn again : Bool} {W W' : World} {args : Array Value} {v : Value} {ds gs : List (DataW H)} {before pa pv : List MemPlace}
    (hW : DataW.Whole enc P f.params.toList s.vars apart W args.toList ds gs before)
    (hres : ∀ (b : Nat) (sp : Nat → Bool) (hd : Bool), DataW.TrodAll enc P W' b sp hd f.resultTypes.toList (v.resultList f.resultTypes.size) (s.fn H (ds ++ gs)).results [])
    (hargs : ∀ sp : Nat → Bool, (∀ p ∈ before, sp p.block = true) → DataW.TrodAll enc P W' 0 sp true f.params.toList args.toList (s.fn H (ds ++ gs)).args pa)
    (hvars : ∀ sp : Nat → Bool, (∀ p ∈ before, sp p.block = true) → DataW.TrodVars enc P W' sp s.vars (s.fn H (ds ++ gs)).vars pv)
    (hps : before = pa ++ pv) (hk : OldKept W W')
    (hok : ∀ (j : Nat) (t : TypeId) (r : Value), f.resultTypes[j]? = some t → (v.resultList f.resultTypes.size)[j]? = some r → Value.okWide P W' .any 0 t r) :
    s.post enc P f apart fresh handsOn again W args v W' := by
  have hold : ∀ p ∈ before, (fun b => decide (b < W.heap.size)) p.block = true := fun p hp => by simpa using hW.lt p hp
  have hlt := hW.lt
  refine ⟨ds, gs, before, [], pa, pv, hW, hres _ _ _, hargs _ hold, hvars _ hold, World.keptBut_mono (fun p hp => ⟨hp, ?_⟩) (hk.frame (· ∈ before)), fun _ => ?_⟩
  · rw [hps, List.mem_append] at hp
    exact Or.inr hp
  · obtain ⟨_, _, _, _, _, hz, hn⟩ := hW
    refine ⟨hok, _, _, ([] ++ pa) ++ pv, ⟨[] ++ pa, pv, trodAll_append (hargs _ (fun _ _ => rfl)) (hres _ _ _), hvars _ (fun _ _ => rfl), rfl, ?_, ?_⟩, ?_⟩
    · intro b off hp
      have hp' : MemPlace.cell b off ∈ before := by rw [hps]; simpa using hp
      rw [hk.frozen (by have := hlt _ hp'; exact this)]
      exact hz b off hp'
    · intro ha
      have := hn ha
      rw [hps] at this
      simpa using this
    · intro p hp _
      rw [hps]
      simpa using hp
end Go.VL

namespace Go.VL.row
open Go Go.VL

theorem setCells_ok : ∀ (vs : List Value) (w : World) (b o : Nat) (c : Array Value) (e : TypeId) (z : Nat × Nat), w.heap[b]? = some (.cells c e z) → o + vs.length ≤ c.size →
    But (some b) w (w.setCells b o vs) ∧ ∃ c' : Array Value, (w.setCells b o vs).heap[b]? = some (.cells c' e z) ∧ c'.toList = c.toList.take o ++ vs ++ c.toList.drop (o + vs.length)
  | [], w, b, o, c, e, z, h, _ => ⟨.refl _ _, c, h, by simp⟩
  | v :: vs, w, b, o, c, e, z, h, hs => by
    simp only [List.length_cons] at hs
    have hlt : o < c.size := by omega
    obtain ⟨h1, c', h2, h3⟩ := setCells_ok vs (w.setCell ⟨b, o, none⟩ v) b (o + 1) _ e z (setCell_heap h v) (by simp; omega)
    refine ⟨(setCell_but w b o v).trans h1, c', h2, ?_⟩
    rw [h3, Array.toList_setIfInBounds, List.take_succ_eq_append_getElem (by simpa using hlt), List.take_set_of_le (Nat.le_refl _), List.drop_set_of_lt (by omega)]
    simp only [List.getElem_set_self, List.append_assoc, List.cons_append, List.nil_append, List.length_cons]
    rw [show o + 1 + vs.length = o + (vs.length + 1) from by omega]

theorem frep_nil {γ : G} {σ : St} {w : World} : FRep γ σ ⟨[], []⟩ ⟨#[], []⟩ w (fun _ => 0) := by
  refine ⟨fun t => ?_, fun k cs hk => ?_, fun a b c d h => ?_⟩
  · simp [sget, SRep, Rep]
  · simp [lget] at hk
  · simp [lget] at h

/-- A slice whose block is an object, or a nil one. -/
def RowOf (σ : St) (s : V) (z : Nat) (es : List (List V)) : Prop :=
  (∃ R q, s = .sl true R q [] ∧ es = []) ∨ ∃ j cap, s = .osl j es.length cap z ∧ σ.objs[j]? = some (.row cap z es.flatten) ∧ (∀ x ∈ es, x.length = z) ∧ es.length ≤ cap
/-- What is done to the objects. -/
def RowTo (σ : St) (s : V) (σ' : St) : Prop :=
  σ'.live = σ.live ∧ σ.objs.length ≤ σ'.objs.length ∧ ∀ (k : Nat) (o : AObj), (∀ n cap z, s ≠ .osl k n cap z) → σ.objs[k]? = some o → σ'.objs[k]? = some o

section
variable {γ : G} {σ : St} {w w' : World}
/-- A new row. -/
theorem row_new (hi : INV γ σ w) (hb : But none w w') {c : Array Value} {e : TypeId} {s : V} {z n cap : Nat} {es : List (List V)} {vs : List Value} (hw : w'.heap[w.heap.size]? = some (.cells c e (0, 0)))
    (hvs : ∀ (j : Nat) (v : Value), vs[j]? = some v → c[j]? = some v) (hr : RepL γ es.flatten vs) (h1 : ∀ v ∈ vs, v.oneCell' = true) (hc : cap * z ≤ c.size ∧ cap ≤ 9223372036854775807) (hz : ∀ x ∈ es, x.length = z) (hn : es.length = n) (hcap : n ≤ cap) (hfl : es.flatten.length ≤ cap * z) :
    ∃ v x σ' γ', Ending.returned (.slice (some ⟨w.heap.size, 0, none⟩) n cap) = .returned v ∧ Le γ γ' ∧ INV γ' σ' w' ∧ Rep γ' x v ∧ (RowOf σ' x z es ∧ RowTo σ s σ' ∧ ∃ j cap, x = .osl j n cap z ∧ ((∃ n' cap', s = .osl j n' cap' z) ∨ σ.objs.length ≤ j)) := by
  subst hn
  have hle : LeR γ { γ with mu := γ.mu ++ [w.heap.size] } := ⟨fun i c hi => by
    show (γ.mu ++ [_])[i]? = some c
    rw [List.getElem?_append_left (List.getElem?_eq_some_iff.1 hi).1]; exact hi, fun _ _ x => x, fun _ _ _ x => x⟩
  obtain ⟨h2, h3⟩ := hi.newObj hb (Nat.le_refl _) (sn := γ.snap) (fun _ _ _ x => x) (fun _ _ _ => rfl) (ob := .row cap z es.flatten)
    ⟨vs, c, e, (0, 0), hw, hvs, RepL.mono hle _ _ hr, hc, hfl, fun j _ => by omega, h1⟩
  refine ⟨_, .osl σ.objs.length es.length cap z, _, _, rfl, h3, h2, ?_, .inr ⟨_, cap, rfl, by simp, hz, hcap⟩, ⟨rfl, by simp, fun k o _ hk => ?_⟩, _, _, rfl, .inr (Nat.le_refl _)⟩
  · simp only [Rep]
    exact ⟨w.heap.size, by rw [← hi.mulen]; simp, rfl⟩
  · show (σ.objs ++ [_])[k]? = some o
    rw [List.getElem?_append_left (List.getElem?_eq_some_iff.1 hk).1]; exact hk
/-- A row in its place. -/
theorem row_set (hi : INV γ σ w) {j b : Nat} (hmu : γ.mu[j]? = some b) (hj : j < σ.objs.length) (hb : But (some b) w w') {c : Array Value} {e : TypeId} {q : Nat × Nat} {z n n0 cap : Nat} {es : List (List V)} {vs : List Value} (hw : w'.heap[b]? = some (.cells c e q))
    (hvs : ∀ (j : Nat) (v : Value), vs[j]? = some v → c[j]? = some v) (hr : RepL γ es.flatten vs) (h1 : ∀ v ∈ vs, v.oneCell' = true) (hc : cap * z ≤ c.size ∧ cap ≤ 9223372036854775807) (hq : ∀ j, j < cap * z → ¬ (q.1 ≤ j ∧ j < q.2)) (hz : ∀ x ∈ es, x.length = z) (hn : es.length = n) (hcap : n ≤ cap) (hfl : es.flatten.length ≤ cap * z) :
    ∃ v x σ' γ', Ending.returned (.slice (some ⟨b, 0, none⟩) n cap) = .returned v ∧ Le γ γ' ∧ INV γ' σ' w' ∧ Rep γ' x v ∧ (RowOf σ' x z es ∧ RowTo σ (.osl j n0 cap z) σ' ∧ ∃ j' cap', x = .osl j' n cap' z ∧ ((∃ n' cap'', V.osl j n0 cap z = .osl j' n' cap'' z) ∨ σ.objs.length ≤ j')) := by
  subst hn
  obtain ⟨h2, -⟩ := setObj_ok hi (frep_nil) hmu hb (ob := .row cap z es.flatten) (sn := γ.snap) (fun _ _ _ x => x) (fun _ _ _ => rfl) (fun c n x hx => Nat.lt_of_lt_of_le (hi.snapb c n x hx) hb.size) ⟨vs, c, e, q, hw, hvs, hr, hc, hfl, hq, h1⟩
  refine ⟨_, .osl j es.length cap z, _, γ, rfl, .refl γ, h2, ?_, .inr ⟨j, cap, rfl, by simp [hj], hz, hcap⟩, ⟨rfl, by simp, fun k o hk ho => ?_⟩, _, _, rfl, .inl ⟨_, _, rfl⟩⟩
  · simp only [Rep]
    exact ⟨b, hmu, rfl⟩
  · show (σ.objs.set j _)[k]? = some o
    rw [List.getElem?_set_ne (fun e => hk n0 cap z (by rw [e]))]; exact ho
end
theorem flat_take {z : Nat} : ∀ {es : List (List V)} (i : Nat), (∀ x ∈ es, x.length = z) → (es.take i).flatten = es.flatten.take (i * z)
  | [], i, _ => by simp
  | x :: es, 0, _ => by simp
  | x :: es, i + 1, h => by
    have hx := h x (by simp)
    have e : (i + 1) * z = z + i * z := by rw [Nat.succ_mul, Nat.add_comm]
    rw [List.take_succ_cons, List.flatten_cons, List.flatten_cons, flat_take i fun y hy => h y (by simp [hy]), e, List.take_append, hx, List.take_of_length_le (l := x) (by omega), show z + i * z - z = i * z by omega]
theorem flat_drop {z : Nat} : ∀ {es : List (List V)} (i : Nat), (∀ x ∈ es, x.length = z) → (es.drop i).flatten = es.flatten.drop (i * z)
  | [], i, _ => by simp
  | x :: es, 0, _ => by simp
  | x :: es, i + 1, h => by
    have hx := h x (by simp)
    have e : (i + 1) * z = z + i * z := by rw [Nat.succ_mul, Nat.add_comm]
    rw [List.drop_succ_cons, List.flatten_cons, flat_drop i fun y hy => h y (by simp [hy]), e, List.drop_append, hx, List.drop_of_length_le (l := x) (by omega), List.nil_append, show z + i * z - z = i * z by omega]
theorem flat_len' {z : Nat} : ∀ {es : List (List V)}, (∀ x ∈ es, x.length = z) → es.flatten.length = es.length * z
  | [], _ => by simp
  | x :: es, h => by
    rw [List.flatten_cons, List.length_append, h x (by simp), flat_len' fun y hy => h y (by simp [hy]), List.length_cons, Nat.succ_mul, Nat.add_comm]
theorem prefix_eq {c : Array Value} {vs : List Value} (h : ∀ (j : Nat) (v : Value), vs[j]? = some v → c[j]? = some v) : c.toList = vs ++ c.toList.drop vs.length := by
  have : c.toList.take vs.length = vs := by
    apply List.ext_getElem?
    intro j
    rw [List.getElem?_take]
    split
    · rename_i hj
      rw [List.getElem?_eq_getElem hj]
      simpa using h j _ (List.getElem?_eq_getElem hj)
    · rename_i hj
      rw [List.getElem?_eq_none (by omega)]
  conv => lhs; rw [← List.take_append_drop vs.length c.toList, this]
theorem eq_prefix {c : Array Value} {vs r : List Value} (h : c.toList = vs ++ r) (j : Nat) (v : Value) (hj : vs[j]? = some v) : c[j]? = some v := by
  have h1 := (List.getElem?_eq_some_iff.1 hj).1
  have : c.toList[j]? = some v := by rw [h, List.getElem?_append_left h1]; exact hj
  simpa using this
theorem but_new {w w' : World} (h : But (some w.heap.size) w w') : But none w w' :=
  ⟨h.os, h.tape, h.out, h.size, fun k o _ hk => h.heap k o (fun e => by cases e; exact absurd (Array.getElem?_eq_some_iff.1 hk).1 (Nat.lt_irrefl _)) hk, h.drn⟩
theorem mid_eq {l vs x : List Value} (h : l = vs ++ l.drop vs.length) (a b : Nat) {z : Nat} (hab : b = a + z) (ha : a ≤ vs.length) (hl : vs.length + z ≤ l.length) :
    List.take a (l.take b ++ vs.drop a ++ l.drop (b + (vs.drop a).length)) ++ x ++ List.drop b (l.take b ++ vs.drop a ++ l.drop (b + (vs.drop a).length)) = vs.take a ++ x ++ vs.drop a ++ l.drop (b + (vs.drop a).length) := by
  have hb : b ≤ l.length := by omega
  have e1 : List.take a (l.take b ++ vs.drop a ++ l.drop (b + (vs.drop a).length)) = vs.take a := by
    rw [List.append_assoc, List.take_append_of_le_length (by simp; omega), List.take_take, Nat.min_eq_left (by omega)]
    conv => lhs; rw [h]
    rw [List.take_append_of_le_length ha]
  have e2 : List.drop b (l.take b ++ vs.drop a ++ l.drop (b + (vs.drop a).length)) = vs.drop a ++ l.drop (b + (vs.drop a).length) := by
    rw [List.append_assoc, List.drop_append_of_le_length (by simp; omega), List.drop_of_length_le (by rw [List.length_take]; omega), List.nil_append]
  rw [e1, e2]
  simp [List.append_assoc]

/-- What is not of some objects stays. -/
structure UpdS (S : Nat → Prop) (σ τ : St) : Prop where
  objs : ∀ (j : Nat) (o : AObj), ¬ S j → σ.objs[j]? = some o → τ.objs[j]? = some o
  live : ∀ r : Nat, σ.live[r]? = some true → τ.live[r]? = some true
  olen : σ.objs.length ≤ τ.objs.length
  llen : σ.live.length ≤ τ.live.length
theorem UpdS.refl (S : Nat → Prop) (σ : St) : UpdS S σ σ := ⟨fun _ _ _ h => h, fun _ h => h, Nat.le_refl _, Nat.le_refl _⟩
theorem UpdS.trans {S S' : Nat → Prop} {a b c : St} (h : UpdS S a b) (k : UpdS S' b c) (hs : ∀ j, S' j → S j ∨ a.objs.length ≤ j) : UpdS S a c :=
  ⟨fun j o hj x => k.objs j o (fun h' => (hs j h').elim hj fun hl => by have := (List.getElem?_eq_some_iff.1 x).1; omega) (h.objs j o hj x), fun r x => k.live r (h.live r x), Nat.le_trans h.olen k.olen, Nat.le_trans h.llen k.llen⟩
theorem UpdS.of {S : Nat → Prop} {a b : St} (h : Ext a b) : UpdS S a b := ⟨fun j o _ x => h.objs j o x, h.live, h.olen, h.llen⟩
theorem UpdS.ext {a b : St} (h : UpdS (fun _ => False) a b) : Ext a b := ⟨fun j o x => h.objs j o (fun h => h) x, h.live, h.olen, h.llen⟩
theorem rowOf_up {S : Nat → Prop} {σ τ : St} {s : V} {z : Nat} {es : List (List V)} (h : RowOf σ s z es) (hu : UpdS S σ τ) (hs : ∀ k n cap z, s = .osl k n cap z → ¬ S k) : RowOf τ s z es := by
  rcases h with h | ⟨j, cap, rfl, h1, h2, h3⟩
  · exact .inl h
  · exact .inr ⟨j, cap, rfl, hu.objs _ _ (hs j _ _ _ rfl) h1, h2, h3⟩
theorem flat_split {z : Nat} {D : List (List V)} (hz : ∀ x ∈ D, x.length = z) {i : Nat} (hi : i < D.length) :
    D.flatten = (D.take i).flatten ++ (D[i] ++ (D.drop (i + 1)).flatten) ∧ (D.take i).flatten.length = i * z := by
  constructor
  · rw [← List.flatten_cons, ← List.flatten_append, ← List.drop_eq_getElem_cons hi, List.take_append_drop]
  · rw [flat_len' fun x hx => hz x (List.mem_of_mem_take hx), List.length_take, Nat.min_eq_left (by omega)]
section
variable {σ : St}
theorem updS_setM {m : Nat} {lv : List LK} {es : List (V × V)} {v : Nat} : UpdS (fun k => k = m) σ (σ.setM m lv es v) := by
  refine ⟨fun j o hj hx => ?_, fun _ h => h, ?_, Nat.le_refl _⟩
  · show (σ.objs.set m _)[j]? = some o
    rw [List.getElem?_set_ne (fun e => hj e.symm)]; exact hx
  · show _ ≤ (σ.objs.set m _).length
    rw [List.length_set]; exact Nat.le_refl _
theorem updS_setC {j : Nat} {cs : List V} : UpdS (fun k => k = j) σ (σ.setC j cs) := by
  refine ⟨fun j o hj hx => ?_, fun _ h => h, ?_, Nat.le_refl _⟩
  · show (σ.objs.set _ _)[j]? = some o
    rw [List.getElem?_set_ne (fun e => hj e.symm)]; exact hx
  · show _ ≤ (σ.objs.set _ _).length
    rw [List.length_set]; exact Nat.le_refl _
end
theorem rdS_up {S : Nat → Prop} {σ τ : St} {v : V} {s : Nat} {es : List (List V)} (h : RdS σ v s es) (hu : UpdS S σ τ) : RdS τ v s es := by
  obtain ⟨b', r', s', h1, h2, h3⟩ := h
  refine ⟨b', r', s', h1, h2, h3.imp_right fun y => ⟨?_, y.2⟩⟩
  have := y.1
  cases r' with
  | pub => trivial
  | own q => exact hu.live q this
  | view q => exact hu.live q this
theorem UpdS.toExt {S : Nat → Prop} {σ a b : St} (h : UpdS S a b) (k : Ext σ a) (hs : ∀ j, S j → σ.objs.length ≤ j) : Ext σ b :=
  ⟨fun j o x => h.objs j o (fun hj => by have := hs j hj; have := (List.getElem?_eq_some_iff.1 x).1; omega) (k.objs j o x), fun r x => h.live r (k.live r x), Nat.le_trans k.olen h.olen, Nat.le_trans k.llen h.llen⟩
/-- A slice that was begun as nil. -/
def Acc (n : Nat) (τ : St) (w : V) (z : Nat) (l : List (List V)) : Prop := (l = [] ∧ w = .sl true .pub z []) ∨ ∃ q, w = .sl false (.own q) z l ∧ τ.live[q]? = some true ∧ n ≤ q
theorem Acc.rd {n z : Nat} {τ : St} {w : V} {l : List (List V)} (h : Acc n τ w z l) : RdS τ w z l := by
  rcases h with ⟨rfl, rfl⟩ | ⟨q, rfl, h1, h2⟩
  · exact ⟨true, .pub, z, rfl, by simp, .inl rfl⟩
  · exact ⟨false, .own q, z, rfl, by simp, .inr ⟨h1, rfl⟩⟩
theorem setA_ne {τ : St} {i j : Nat} {o : AObj} (h : j ≠ i) : (τ.setA i o).objs[j]? = τ.objs[j]? := by
  show (τ.objs.set i o)[j]? = _
  rw [List.getElem?_set_ne (Ne.symm h)]
theorem setA_at {τ : St} {i : Nat} {o o' : AObj} (h : τ.objs[i]? = some o') : (τ.setA i o).objs[i]? = some o := by
  show (τ.objs.set i o)[i]? = _
  rw [List.getElem?_set_self (List.getElem?_eq_some_iff.1 h).1]
theorem ext_setA {σ τ : St} (h : Ext σ τ) {i : Nat} (hi : σ.objs.length ≤ i) {o : AObj} : Ext σ (τ.setA i o) :=
  ⟨fun j x hj => by
    have h1 := (List.getElem?_eq_some_iff.1 hj).1
    rw [setA_ne (by omega)]
    exact h.objs _ _ hj, h.live, by
    show σ.objs.length ≤ (τ.objs.set i _).length
    rw [List.length_set]; exact h.olen, h.llen⟩

/-- What a row brings to append. -/
theorem elts_row {σ : St} {y : V} {z : Nat} {es : List (List V)} (h : RowOf σ y z es) : ∃ p : Prop × List (List V), elts σ z y = some p ∧ p.1 ∧ p.2 = es := by
  rcases h with ⟨R, q, rfl, rfl⟩ | ⟨j, cap, rfl, h1, h2, h3⟩
  · exact ⟨_, rfl, ⟨.inl rfl, .inr rfl⟩, rfl⟩
  · refine ⟨(z = z ∧ z = z ∧ es.length * z ≤ es.flatten.length, chunk z es.length es.flatten), ?_, ⟨rfl, rfl, ?_⟩, chunk_flat h2⟩
    · simp only [elts, h1, eltO]
    · rw [flat_len' h2]; exact Nat.le_refl _
/-- append of a row to nothing: a new row. -/
theorem ao_copy {σ : St} {y : V} {z n0 : Nat} {R0 : R} {es : List (List V)} (h : RowOf σ y z es) (hl : es.length ≤ 1073741824) :
    AoV σ z true (.sl true R0 n0 []) y fun v σ' => RowOf σ' v z es ∧ Ext σ σ' ∧ σ'.live = σ.live ∧ (∀ k n cap z', v = .osl k n cap z' → σ.objs.length ≤ k) ∧ V.flat v = true ∧ (v = .sl true .pub 0 [] ∨ ∃ k n cap z', v = .osl k n cap z') := by
  obtain ⟨p, hp, p1, p2⟩ := elts_row h
  have hz : ∀ x ∈ es, x.length = z := by
    rcases h with ⟨R, q, rfl, rfl⟩ | ⟨j, cap, rfl, h1, h2, h3⟩
    · simp
    · exact h2
  unfold AoV
  rw [hp]
  refine ⟨rfl, p1, by rw [p2]; exact hl, fun e => ?_, fun e cap hc1 hc2 => ?_⟩
  · rw [p2] at e
    subst e
    exact ⟨.inl ⟨_, _, rfl, rfl⟩, .refl _, rfl, (fun k n cap z' h => by cases h), rfl, .inl rfl⟩
  · rw [p2] at hc1 ⊢
    refine ⟨.inr ⟨_, cap, rfl, by simp, hz, hc1⟩, ext_obj _ _, rfl, fun k n cap' z' h => ?_, rfl, .inr ⟨_, _, _, _, rfl⟩⟩
    cases h
    exact Nat.le_refl _

end Go.VL.row

namespace Go.VL.opl
open Go Go.VL Go.Proofs Go.VL.st Go.VL.row

/-- Neighbours that are the same, once. -/
def cpl : List Sp → List Sp
  | a :: b :: r => bif decide (a = b) then cpl (b :: r) else a :: cpl (b :: r)
  | l => l
theorem cpl_mem : ∀ (l : List Sp) (x : Sp), x ∈ cpl l ↔ x ∈ l
  | [], _ => Iff.rfl
  | [_], _ => Iff.rfl
  | a :: b :: r, x => by
    have ih := cpl_mem (b :: r) x
    simp only [cpl]
    cases h : decide (a = b)
    · simp only [cond_false, List.mem_cons] at ih ⊢
      rw [ih]
    · have := of_decide_eq_true h
      subst this
      simp only [cond_true, List.mem_cons] at ih ⊢
      rw [ih]
      constructor
      · exact fun h => .inr h
      · rintro (h | h)
        · exact .inl h
        · exact h
theorem cpl_srt : ∀ (l : List Sp), (l.Pairwise fun a b => less b a = false) → (cpl l).Pairwise fun a b => less a b = true
  | [], _ => .nil
  | [_], _ => by simp [cpl]
  | a :: b :: r, h => by
    have ih := cpl_srt (b :: r) (List.pairwise_cons.1 h).2
    simp only [cpl]
    cases hd : decide (a = b)
    · have hne := of_decide_eq_false hd
      simp only [cond_false, List.pairwise_cons]
      refine ⟨fun x hx => ?_, ih⟩
      rw [cpl_mem] at hx
      have hab : less a b = true := less_of ((List.pairwise_cons.1 h).1 b (by simp)) (Ne.symm hne)
      rcases List.mem_cons.1 hx with rfl | hx
      · exact hab
      · have h1 := (List.pairwise_cons.1 h).1 x (by simp [hx])
        by_cases e : a = x
        · subst e
          have := (List.pairwise_cons.1 (List.pairwise_cons.1 h).2).1 a hx
          rw [hab] at this; cases this
        · exact less_of h1 (Ne.symm e)
    · exact ih
/-- Stamps' cells. -/
def stW (l : List Sp) : List Value := l.flatMap fun s => [.int .i64 s.c, .int .i64 s.r]
theorem stW_len (l : List Sp) : (stW l).length = l.length * 2 := by
  induction l with
  | nil => rfl
  | cons a l ih =>
    simp only [stW, List.flatMap_cons, List.length_append, List.length_cons, List.length_nil] at ih ⊢
    omega
def splice (X : List Value) (o : Nat) (A : List Value) : List Value := X.take o ++ A ++ X.drop (o + A.length)
theorem splice_in {P X Q A : List Value} {o : Nat} (h : o + A.length ≤ X.length) :
    (P ++ X ++ Q).take (P.length + o) ++ A ++ (P ++ X ++ Q).drop (P.length + o + A.length) = P ++ splice X o A ++ Q := by
  unfold splice
  rw [List.append_assoc P X Q, List.take_append, List.take_of_length_le (by omega), Nat.add_sub_cancel_left, List.take_append_of_le_length (by omega),
    Nat.add_assoc, List.drop_append, List.drop_of_length_le (by omega), Nat.add_sub_cancel_left, List.nil_append, List.drop_append_of_le_length h]
  simp only [List.append_assoc]
theorem left_ok {l : List Sp} {n oa ob : Nat} {A B : List Value} (h : Go.Proofs.Left l n A oa B ob) (h2 : 2 ≤ l.length) (h3 : l.length ≤ 3) :
    oa + A.length ≤ (stW l).length ∧ ob + B.length ≤ (stW l).length ∧ ∃ l2 : List Sp, l2.length = l.length ∧ splice (splice (stW l) oa A) ob B = stW l2 ∧ l2.take n = cpl l ∧ n ≤ l.length := by
  have hz : (stW [zs]) = [.int .i64 0, .int .i64 0] := rfl
  match l, h2, h3 with
  | [a, b], _, _ =>
    cases h with
    | all hd =>
      have h0 : b ≠ a := hd 0 (by simp)
      exact ⟨by simp [stW], by simp [stW], [a, b], rfl, by simp [splice, stW], by simp [cpl, Ne.symm h0], by simp⟩
    | last n e h0 hd =>
      simp only [List.length_cons, List.length_nil] at e
      obtain rfl : n = 0 := by omega
      have h0 : b = a := h0 (by simp)
      exact ⟨by simp [stW], by simp [stW], [a, zs], rfl, by simp [splice, stW, zs], by simp [cpl, h0], by simp⟩
    | mid e => simp at e
    | one e => simp at e
  | [a, b, c], _, _ =>
    cases h with
    | all hd =>
      have h0 : b ≠ a := hd 0 (by simp)
      have h1 : c ≠ b := hd 1 (by simp)
      exact ⟨by simp [stW], by simp [stW], [a, b, c], rfl, by simp [splice, stW], by simp [cpl, Ne.symm h0, Ne.symm h1], by simp⟩
    | last n e h0 hd =>
      simp only [List.length_cons, List.length_nil] at e
      obtain rfl : n = 1 := by omega
      have h0 : c = b := h0 (by simp)
      have h1 : b ≠ a := hd 0 (by omega) (by simp)
      exact ⟨by simp [stW], by simp [stW], [a, b, zs], rfl, by simp [splice, stW, zs], by simp [cpl, h0, Ne.symm h1], by simp⟩
    | mid e h1 h2 =>
      have h1 : b = a := h1
      have h2 : c ≠ b := h2
      exact ⟨by simp [stW], by simp [stW], [a, c, zs], rfl, by simp [splice, stW, zs], by rw [h1] at h2; simp [cpl, h1, Ne.symm h2], by simp⟩
    | one e h1 h2 =>
      have h1 : b = a := h1
      have h2 : c = b := h2
      exact ⟨by simp [stW], by simp [stW], [a, zs, zs], rfl, by simp [splice, stW, zs], by simp [cpl, h1, h2], by simp⟩
end Go.VL.opl

namespace Go.VL.opl
open Go Go.VL Go.Proofs Go.VL.st Go.VL.row

def spsV (l : List Sp) : List (List V) := l.map spC
theorem spsV_len (l : List Sp) : (spsV l).length = l.length := by simp [spsV]
theorem stW_get : ∀ {l : List Sp} {j : Nat} (h : j < l.length), (stW l)[j * 2]? = some (.int .i64 l[j].c) ∧ (stW l)[j * 2 + 1]? = some (.int .i64 l[j].r)
  | a :: l, 0, _ => ⟨rfl, rfl⟩
  | a :: l, j + 1, h => by
    have ih := stW_get (l := l) (j := j) (by simpa using h)
    have e : stW (a :: l) = .int .i64 a.c :: .int .i64 a.r :: stW l := rfl
    rw [e, show (j + 1) * 2 = j * 2 + 1 + 1 by omega, show j * 2 + 1 + 1 + 1 = (j * 2 + 1) + 1 + 1 by omega]
    simp only [List.getElem?_cons_succ, List.getElem_cons_succ]
    exact ih
theorem repE_sp {γ : G} : ∀ (l : List Sp) (vs : List Value), RepE γ 2 (spsV l) vs → vs = stW l
  | [], vs, h => by simpa [spsV, RepE, stW] using h
  | a :: l, vs, h => by
    simp only [spsV, List.map_cons, RepE] at h
    obtain ⟨ws, us, rfl, -, h1, h2, -⟩ := h
    have := repE_sp l us h2
    simp only [spC, RepL, Rep] at h1
    obtain ⟨v1, _, rfl, rfl, v2, _, rfl, rfl, rfl⟩ := h1
    rw [this]; rfl
theorem sp_repE {γ : G} : ∀ (l : List Sp), RepE γ 2 (spsV l) (stW l)
  | [] => by simp [spsV, RepE, stW]
  | a :: l => by
    have ih := sp_repE (γ := γ) l
    simp only [spsV, List.map_cons, RepE] at ih ⊢
    refine ⟨[.int .i64 a.c, .int .i64 a.r], stW l, rfl, rfl, ?_, ih, ?_⟩
    · simp only [spC, RepL, Rep]
      exact ⟨_, _, rfl, rfl, _, _, rfl, rfl, rfl⟩
    · simp only [List.mem_cons, List.not_mem_nil, or_false]
      rintro v (rfl | rfl) <;> rfl
theorem toList_parts {c : Array Value} {off : Nat} {X : List Value} (h : ∀ i x, X[i]? = some x → c[off + i]? = some x) (hl : off + X.length ≤ c.size) : c.toList = c.toList.take off ++ X ++ c.toList.drop (off + X.length) := by
  have e : (c.toList.drop off).take X.length = X := by
    apply List.ext_getElem?
    intro i
    rw [List.getElem?_take]
    split
    · rename_i hi
      rw [List.getElem?_drop, Array.getElem?_toList, h i X[i] (List.getElem?_eq_getElem hi), List.getElem?_eq_getElem hi]
    · rename_i hi
      rw [List.getElem?_eq_none (by omega)]
  conv => lhs; rw [← List.take_append_drop off c.toList, ← List.take_append_drop X.length (c.toList.drop off), e, List.drop_drop]
  rw [List.append_assoc]
theorem parts_get {c : Array Value} {P X Q : List Value} (h : c.toList = P ++ X ++ Q) (i : Nat) (x : Value) (hx : X[i]? = some x) : c[P.length + i]? = some x := by
  rw [← Array.getElem?_toList, h, List.append_assoc, List.getElem?_append_right (by omega), Nat.add_sub_cancel_left, List.getElem?_append_left (List.getElem?_eq_some_iff.1 hx).1]
  exact hx
theorem but_drewN (w : World) (n : Nat) : But none w (w.drewN n) := .drawn w _ (Nat.le_add_right _ _)
section
variable {σ : St} {r : Nat} {l : List Sp}
set_option maxHeartbeats 1000000 in
theorem cpt_cm (hlive : σ.live[r]? = some true) (hl : l.length ≤ 3) :
    CallM Try.prog 90 [.sl false (.own r) 2 (spsV l)] r 2 (spsV l) σ fun v r' es' σ' => ∃ (l2 : List Sp) (n : Nat), l2.length = l.length ∧ es' = spsV l2 ∧ v = .sl false (.view r') 2 (spsV (l2.take n)) ∧ l2.take n = cpl l ∧ n ≤ l.length ∧
      r' = σ.live.length ∧ σ' = ⟨σ.objs, σ.live.set r false ++ [true]⟩ := by
  refine ⟨⟨Try.f90, Try.func90, rfl, by kernel_rfl⟩, fun γ w vs hi hr => ?_⟩
  simp only [RepL, Rep] at hr
  obtain ⟨v1, _, rfl, ⟨a, cap, rfl, hsp, hcap, hrho⟩, rfl⟩ := hr
  obtain ⟨blk, off, sp⟩ := a
  simp only at hsp
  subst hsp
  obtain ⟨a', cap', e0, -, h3, h4, h5, h6, c, e, z, vs0, h7, h8, h9, ⟨h10, h12⟩, h11⟩ := hi.own _ _ _ _ hlive hrho
  cases e0
  simp only at h4 h5 h6 h7 h8 h10 h11
  have hv0 := repE_sp l vs0 h9
  subst hv0
  rw [spsV_len] at h3 hcap ⊢
  have hwl := stW_len l
  have hll : (σ.live.set r false).length = σ.live.length := by simp
  have key : ∀ (n : Nat) (l2 : List Sp) (w' : World) (c' : Array Value), l2.length = l.length → l2.take n = cpl l → n ≤ l.length → But (some blk) w w' → w'.heap[blk]? = some (.cells c' e z) → c'.size = c.size → (∀ i x, (stW l2)[i]? = some x → c'[off + i]? = some x) →
      ∃ v x σ' γ' r' es', Ending.returned (.slice (some ⟨blk, off, none⟩) n cap) = .returned v ∧ Le γ γ' ∧ INV γ' σ' w' ∧ Rep γ' x v ∧ (∃ vr, γ.rho[r]? = some (vr, 2, spsV l) ∧ γ'.rho[r']? = some (vr, 2, es')) ∧ es'.length = l.length ∧
        ∃ (l2 : List Sp) (n : Nat), l2.length = l.length ∧ es' = spsV l2 ∧ x = .sl false (.view r') 2 (spsV (l2.take n)) ∧ l2.take n = cpl l ∧ n ≤ l.length ∧ r' = σ.live.length ∧ σ' = ⟨σ.objs, σ.live.set r false ++ [true]⟩ := by
    intro n l2 w' c' k1 k2 k3 hbut hnew hsz hget
    obtain ⟨q1, q2⟩ := hi.right hbut (live := σ.live.set r false) hll (fun j hj => by
        by_cases e : r = j
        · subst e
          rw [List.getElem?_set_self (List.getElem?_eq_some_iff.1 hlive).1] at hj
          cases hj
        · rwa [List.getElem?_set_ne e] at hj)
      (k := blk) ⟨h4, h5, h6, fun j v s es hj hrj hb => by
        by_cases e : r = j
        · subst e
          rw [List.getElem?_set_self (List.getElem?_eq_some_iff.1 hlive).1] at hj
          cases hj
        · rw [List.getElem?_set_ne e] at hj
          exact e (hi.apart r j _ _ _ _ _ _ blk hlive hj hrho hrj rfl hb)⟩
      (v := .slice (some ⟨blk, off, none⟩) (spsV l).length cap) (s := 2) (es := spsV l2) (f := true) (fun _ => ⟨rfl, by
        refine ⟨⟨blk, off, none⟩, cap, by rw [spsV_len, spsV_len, k1], rfl, by rw [spsV_len, k1]; exact h3, h4, h5, h6, c', e, z, stW l2, hnew, hget, sp_repE l2, ⟨by rw [hsz]; exact h10, by rw [hsz]; exact h12⟩, h11⟩⟩)
    have hrl : (γ.rho ++ [((.slice (some ⟨blk, off, none⟩) (spsV l).length cap : Value), 2, spsV l2)])[σ.live.length]? = some (.slice (some ⟨blk, off, none⟩) (spsV l).length cap, 2, spsV l2) := by
      rw [← hi.rholen]; simp
    have hn : (spsV (l2.take n)).length = n := by rw [spsV_len, List.length_take]; omega
    refine ⟨_, .sl false (.view σ.live.length) 2 (spsV (l2.take n)), _, _, σ.live.length, spsV l2, rfl, q2, q1, ?_, ⟨.slice (some ⟨blk, off, none⟩) (spsV l).length cap, by rw [spsV_len]; rw [spsV_len] at hrho; exact hrho, hrl⟩, by rw [spsV_len, k1], l2, n, k1, rfl, rfl, k2, k3, rfl, rfl⟩
    simp only [Rep]
    refine ⟨⟨blk, off, none⟩, cap, by rw [hn], rfl, by rw [hn]; omega, .inr ⟨⟨blk, off, none⟩, (spsV l).length, cap, spsV l2, 0, hrl, by rw [hn, spsV_len]; omega, ?_, rfl, by simp, rfl⟩⟩
    rw [hn, List.drop_zero]
    simp [spsV, List.map_take]
  rcases Nat.lt_or_ge l.length 2 with h2 | h2
  · refine (cpt_short (some ⟨blk, off, none⟩) l.length cap w h2).mono ?_
    rintro e' w' ⟨rfl, rfl⟩
    refine key l.length l w' c rfl ?_ (Nat.le_refl _) (.refl _ _) h7 rfl h8
    rw [List.take_length]
    match l, h2 with
    | [], _ => rfl
    | [_], _ => rfl
  · have hbd : off + (stW l).length ≤ c.size := by rw [hwl]; omega
    have hlies : Lies w blk off l := fun j hj => by
      obtain ⟨g1, g2⟩ := stW_get hj
      refine ⟨?_, ?_, ?_, ?_⟩
      · simp only [World.cell?, h7]; exact h8 _ _ g1
      · simp only [World.cell?, h7, Nat.add_assoc]; exact h8 _ _ g2
      · have := h11 (off + j * 2) (by omega) (by omega)
        simp only [World.frozen?, h7, Bool.and_eq_false_iff, decide_eq_false_iff_not]; omega
      · have := h11 (off + j * 2 + 1) (by omega) (by omega)
        simp only [World.frozen?, h7, Bool.and_eq_false_iff, decide_eq_false_iff_not]; omega
    refine (cpt_three blk off cap l w hlies h2 hl h3).mono ?_
    rintro e' w' ⟨n, A, B, oa, ob, q0, q1, q2, hL, rfl, rfl⟩
    obtain ⟨m1, m2, l2, m3, m4, m5, m6⟩ := left_ok hL h2 hl
    have hparts := toList_parts h8 hbd
    have hPl : (c.toList.take off).length = off := by rw [List.length_take, Array.length_toList]; omega
    obtain ⟨b1, c1, r1, r2⟩ := setCells_ok A (w.drewN q0) blk (off + oa) c e z h7 (by omega)
    have hs1 : c1.size = c.size := by
      have := congrArg List.length r2
      simp only [Array.length_toList, List.length_append, List.length_take, List.length_drop] at this
      omega
    have hr2 : c1.toList = c.toList.take off ++ splice (stW l) oa A ++ c.toList.drop (off + (stW l).length) := by
      rw [r2]
      have := splice_in (P := c.toList.take off) (X := stW l) (Q := c.toList.drop (off + (stW l).length)) m1
      rw [hPl, ← hparts] at this
      exact this
    have hXl : (splice (stW l) oa A).length = (stW l).length := by
      unfold splice
      simp only [List.length_append, List.length_take, List.length_drop]
      omega
    obtain ⟨b2, c2, r3, r4⟩ := setCells_ok B (((w.drewN q0).setCells blk (off + oa) A).drewN q1) blk (off + ob) c1 e z r1 (by omega)
    have hs2 : c2.size = c1.size := by
      have := congrArg List.length r4
      simp only [Array.length_toList, List.length_append, List.length_take, List.length_drop] at this
      omega
    have hr4 : c2.toList = c.toList.take off ++ stW l2 ++ c.toList.drop (off + (stW l).length) := by
      rw [r4, ← m4]
      have := splice_in (P := c.toList.take off) (X := splice (stW l) oa A) (Q := c.toList.drop (off + (stW l).length)) (A := B) (o := ob) (by rw [hXl]; exact m2)
      rw [hPl, ← hr2] at this
      exact this
    have hbut : But (some blk) w ((((((w.drewN q0).setCells blk (off + oa) A).drewN q1).setCells blk (off + ob) B).drewN q2)) :=
      ((but_drewN w q0).some _).trans (b1.trans (((but_drewN _ q1).some _).trans (b2.trans ((but_drewN _ q2).some _))))
    refine key n l2 _ c2 m3 m5 m6 hbut r3 (by rw [hs2, hs1]) fun i x hx => ?_
    have := parts_get hr4 i x hx
    rw [hPl] at this
    exact this
end
end Go.VL.opl

namespace Go.VL.opl
open Go Go.VL Go.Proofs
/-- topiary/topiarylaw07.filled: 2 parameters, 40 slots. -/
def c12 : C :=
  .seq (.ops [⟨none, .mv 4 (.c (.ptr none))⟩,
    ⟨none, .alL 5 [.int .i64 0, .sl true .pub 0 []]⟩])
  (.seq (.ops [⟨none, .mv 11 (.t 0)⟩,
    ⟨none, .ca (some 12) 24 [(.t 11)]⟩,
    ⟨none, .mv 10 (.t 12)⟩,
    ⟨none, .ex 13 (.t 10) 0⟩,
    ⟨none, .ex 14 (.t 10) 1⟩,
    ⟨none, .mv 6 (.t 13)⟩,
    ⟨none, .mv 7 (.t 14)⟩])
  (.seq (.ops [⟨none, .mv 15 (.t 0)⟩,
    ⟨none, .bld 16 [.int .i64 0, .sl true .pub 0 []] [(0, 1, (.t 15))]⟩,
    ⟨none, .alL 8 [.int .i64 0, .sl true .pub 0 []]⟩,
    ⟨none, .st (.t 8) (.t 16) 2⟩])
  (.seq (.seq (.ops [⟨none, .mv 9 (.c (.int .i64 0))⟩])
  (.block 0 (.loop (.seq (.seq (.ops [⟨none, .mv 17 (.t 9)⟩,
    ⟨none, .mv 18 (.t 1)⟩,
    ⟨none, .ln 19 .sl (.t 18)⟩,
    ⟨none, .bi 20 .lss (.t 17) (.t 19)⟩])
  (.cond (.t 20) (.skip)
    (.exit 0)))
  (.seq (.block 1 (.seq (.ops [⟨none, .mv 23 (.t 6)⟩,
    ⟨none, .mv 24 (.t 1)⟩,
    ⟨none, .mv 25 (.t 9)⟩,
    ⟨none, .ia 26 (.t 24) (.t 25) 13⟩,
    ⟨none, .ld 27 (.t 26) 13 true⟩,
    ⟨none, .ca (some 28) 14 [(.t 23), (.t 27)]⟩])
  (.opsD [⟨none, .ld 30 (.t 8) 2 true⟩,
    ⟨none, .mv 31 (.t 1)⟩,
    ⟨none, .mv 32 (.t 9)⟩,
    ⟨none, .ia 33 (.t 31) (.t 32) 13⟩,
    ⟨none, .ld 34 (.t 33) 13 true⟩,
    ⟨none, .ca (some 35) 35 [(.t 30), (.t 34)]⟩,
    ⟨none, .mv 29 (.t 35)⟩,
    ⟨none, .ex 36 (.t 29) 0⟩,
    ⟨none, .ex 37 (.t 29) 1⟩,
    ⟨none, .st (.t 8) (.t 36) 2⟩])))
  (.ops [⟨none, .mv 21 (.t 9)⟩,
    ⟨none, .bi 22 .add (.t 21) (.c (.int .i64 1))⟩,
    ⟨none, .mv 9 (.t 22)⟩]))))))
  (.seq (.opsD [⟨none, .mv 38 (.t 6)⟩,
    ⟨none, .ld 39 (.t 8) 2 true⟩,
    ⟨none, .mv 4 (.t 38)⟩,
    ⟨none, .st (.t 5) (.t 39) 2⟩])
  (.ret)))))
theorem comp12 : compFn Try.prog [5, 8] Try.f12 = some ([.t 4, .c 5 2 true], c12) := by kernel_rfl
/-- (*topiary/oplog.Log).Each: 2 parameters, 39 slots. -/
def c13 : C :=
  .seq (.ops [⟨none, .mv 4 (.c (.nilf))⟩])
  (.seq (.ops [⟨none, .alH 5 [.sl true .pub 0 []]⟩])
  (.cut (.seq (.ops [⟨none, .mv 8 (.t 0)⟩,
    ⟨none, .bq 9 true .ptr (.t 8) (.c (.ptr none))⟩,
    ⟨none, .mv 10 (.t 9)⟩,
    ⟨some (10, true), .mv 11 (.t 1)⟩,
    ⟨some (10, true), .ca (some 12) 43 [(.t 11)]⟩,
    ⟨some (10, true), .bi 13 .eql (.t 12) (.c (.int .i64 0))⟩,
    ⟨none, .pk 14 (.t 10) (.t 13) (.c (.bool false))⟩])
  (.cond (.t 14) (.seq (.ops [⟨none, .mv 15 (.t 0)⟩,
      ⟨none, .nc 16 (.t 15)⟩,
      ⟨none, .fa 17 (.t 16) 1⟩,
      ⟨none, .ld 18 (.t 17) 1 false⟩,
      ⟨none, .ln 19 .sl (.t 18)⟩,
      ⟨none, .mv 20 (.c (.int .i64 0))⟩])
    (.block 0 (.loop (.seq (.ops [⟨none, .bi 21 .lss (.t 20) (.t 19)⟩])
    (.seq (.cond (.t 21) (.skip)
      (.exit 0))
    (.cut (.block 1 (.seq (.ops [⟨none, .ia 22 (.t 18) (.t 20) 13⟩,
      ⟨none, .ld 23 (.t 22) 13 true⟩,
      ⟨none, .alL 7 [.int .i64 0, .int .i64 0, .int .i64 0, .sl true .pub 0 [], .int .i64 0, .int .i64 0, .int .i64 0, .int .i64 0, .int .i64 0, .int .i64 0, .int .i64 0, .str [], .str []]⟩,
      ⟨none, .st (.t 7) (.t 23) 13⟩])
    (.seq (.opsD [⟨none, .fa 24 (.t 7) 2⟩,
      ⟨none, .ld 25 (.t 24) 1 false⟩,
      ⟨none, .mv 26 (.t 1)⟩,
      ⟨none, .fa 27 (.t 7) 0⟩,
      ⟨none, .fa 28 (.t 27) 1⟩,
      ⟨none, .ld 29 (.t 28) 1 false⟩,
      ⟨none, .ca (some 30) 44 [(.t 26), (.t 29)]⟩,
      ⟨none, .bi 31 .gtr (.t 25) (.t 30)⟩])
    (.cond (.t 31) (.opsD [⟨none, .ld 32 (.t 5) 1 false⟩,
        ⟨none, .ld 33 (.t 7) 13 true⟩,
        ⟨none, .ca (some 34) 45 [(.t 33)]⟩,
        ⟨none, .lit 35 13 [(.t 34)]⟩,
        ⟨none, .ap 36 13 (.t 32) (.t 35)⟩,
        ⟨none, .st (.t 5) (.t 36) 1⟩])
      (.skip)))))
    (.ops [⟨none, .bi 37 .add (.t 20) (.c (.int .i64 1))⟩,
      ⟨none, .mv 20 (.t 37)⟩])))))))
    (.skip)))
  (.seq (.ops [⟨none, .mf 38 46 [(.t 5)]⟩,
    ⟨none, .mv 4 (.t 38)⟩])
  (.ret))))
theorem comp13 : compFn Try.prog [7] Try.f13 = some ([.t 4], c13) := by kernel_rfl
/-- topiary/topiarylaw07.first: 0 parameters, 6 slots. -/
def c15 : C :=
  .seq (.ops [⟨none, .alL 0 [.int .i64 0, .int .i64 0, .int .i64 0, .sl true .pub 0 [], .int .i64 0, .int .i64 0, .int .i64 0, .int .i64 0, .int .i64 0, .int .i64 0, .int .i64 0, .str [], .str []]⟩])
  (.seq (.ops [⟨none, .bld 2 [.int .i64 0, .int .i64 0] [(0, 1, (.c (.int .i64 1)))]⟩,
    ⟨none, .alL 1 [.int .i64 0, .int .i64 0]⟩,
    ⟨none, .st (.t 1) (.t 2) 2⟩])
  (.seq (.ops [⟨none, .ld 3 (.t 1) 2 true⟩,
    ⟨none, .ld 4 (.t 1) 2 true⟩,
    ⟨none, .bld 5 [.int .i64 0, .int .i64 0, .int .i64 0, .sl true .pub 0 [], .int .i64 0, .int .i64 0, .int .i64 0, .int .i64 0, .int .i64 0, .int .i64 0, .int .i64 0, .str [], .str []] [(0, 2, (.t 3)), (2, 1, (.c (.int .i64 1))), (4, 1, (.c (.int .i64 1))), (5, 2, (.t 4)), (11, 1, (.c (.str [112])))]⟩,
    ⟨none, .st (.t 0) (.t 5) 13⟩])
  (.ret)))
theorem comp15 : compFn Try.prog [0, 1] Try.f15 = some ([.c 0 13 true], c15) := by kernel_rfl
/-- topiary/topiaryref02.Check: 1 parameters, 25 slots. -/
def c16 : C :=
  .seq (.ops [⟨none, .mv 2 (.c (.int .i64 0))⟩])
  (.seq (.seq (.ops [⟨none, .mv 4 (.t 0)⟩,
    ⟨none, .ln 5 .sl (.t 4)⟩,
    ⟨none, .bi 6 .gtr (.t 5) (.c (.int .i64 64))⟩])
  (.cond (.t 6) (.seq (.ops [⟨none, .mv 2 (.c (.int .i64 3))⟩])
    (.ret))
    (.skip)))
  (.seq (.seq (.ops [⟨none, .mv 3 (.c (.int .i64 0))⟩])
  (.block 0 (.loop (.seq (.seq (.ops [⟨none, .mv 7 (.t 3)⟩,
    ⟨none, .mv 8 (.t 0)⟩,
    ⟨none, .ln 9 .sl (.t 8)⟩,
    ⟨none, .bi 10 .lss (.t 7) (.t 9)⟩])
  (.cond (.t 10) (.skip)
    (.exit 0)))
  (.seq (.block 1 (.seq (.ops [⟨none, .mv 13 (.t 0)⟩,
    ⟨none, .mv 14 (.t 3)⟩,
    ⟨none, .ia 15 (.t 13) (.t 14) 1⟩,
    ⟨none, .ld 16 (.t 15) 1 false⟩,
    ⟨none, .bi 17 .lss (.t 16) (.c (.int .i64 0))⟩,
    ⟨none, .mv 18 (.t 17)⟩,
    ⟨some (18, false), .mv 19 (.t 0)⟩,
    ⟨some (18, false), .mv 20 (.t 3)⟩,
    ⟨some (18, false), .ia 21 (.t 19) (.t 20) 1⟩,
    ⟨some (18, false), .ld 22 (.t 21) 1 false⟩,
    ⟨some (18, false), .bi 23 .gtr (.t 22) (.c (.int .i64 1099511627776))⟩,
    ⟨none, .pk 24 (.t 18) (.c (.bool true)) (.t 23)⟩])
  (.cond (.t 24) (.seq (.ops [⟨none, .mv 2 (.c (.int .i64 1))⟩])
    (.ret))
    (.skip))))
  (.ops [⟨none, .mv 11 (.t 3)⟩,
    ⟨none, .bi 12 .add (.t 11) (.c (.int .i64 1))⟩,
    ⟨none, .mv 3 (.t 12)⟩]))))))
  (.seq (.ops [⟨none, .mv 2 (.c (.int .i64 0))⟩])
  (.ret))))
theorem comp16 : compFn Try.prog [] Try.f16 = some ([.t 2], c16) := by kernel_rfl
/-- topiary/topiaryref05.Same: 2 parameters, 66 slots. -/
def c18 : C :=
  .seq (.ops [⟨none, .bxL 2 (.t 0)⟩,
    ⟨none, .bxL 3 (.t 1)⟩,
    ⟨none, .mv 4 (.c (.bool false))⟩])
  (.seq (.ops [⟨none, .fa 5 (.t 2) 0⟩,
    ⟨none, .ld 6 (.t 5) 2 true⟩,
    ⟨none, .fa 7 (.t 3) 0⟩,
    ⟨none, .ld 8 (.t 7) 2 true⟩,
    ⟨none, .be 9 false [.int .i64, .int .i64] (.t 6) (.t 8)⟩,
    ⟨none, .mv 10 (.t 9)⟩,
    ⟨some (10, true), .fa 11 (.t 2) 2⟩,
    ⟨some (10, true), .ld 12 (.t 11) 1 false⟩,
    ⟨some (10, true), .fa 13 (.t 3) 2⟩,
    ⟨some (10, true), .ld 14 (.t 13) 1 false⟩,
    ⟨some (10, true), .bi 15 .eql (.t 12) (.t 14)⟩,
    ⟨none, .pk 16 (.t 10) (.t 15) (.c (.bool false))⟩,
    ⟨none, .mv 17 (.t 16)⟩,
    ⟨some (17, true), .fa 18 (.t 2) 3⟩,
    ⟨some (17, true), .ld 19 (.t 18) 1 false⟩,
    ⟨some (17, true), .fa 20 (.t 3) 3⟩,
    ⟨some (17, true), .ld 21 (.t 20) 1 false⟩,
    ⟨some (17, true), .ca (some 22) 40 [(.t 19), (.t 21)]⟩,
    ⟨none, .pk 23 (.t 17) (.t 22) (.c (.bool false))⟩,
    ⟨none, .mv 24 (.t 23)⟩,
    ⟨some (24, true), .fa 25 (.t 2) 4⟩,
    ⟨some (24, true), .ld 26 (.t 25) 1 false⟩,
    ⟨some (24, true), .fa 27 (.t 3) 4⟩,
    ⟨some (24, true), .ld 28 (.t 27) 1 false⟩,
    ⟨some (24, true), .bi 29 .eql (.t 26) (.t 28)⟩,
    ⟨none, .pk 30 (.t 24) (.t 29) (.c (.bool false))⟩,
    ⟨none, .mv 31 (.t 30)⟩,
    ⟨some (31, true), .fa 32 (.t 2) 5⟩,
    ⟨some (31, true), .ld 33 (.t 32) 2 true⟩,
    ⟨some (31, true), .fa 34 (.t 3) 5⟩,
    ⟨some (31, true), .ld 35 (.t 34) 2 true⟩,
    ⟨some (31, true), .be 36 false [.int .i64, .int .i64] (.t 33) (.t 35)⟩,
    ⟨none, .pk 37 (.t 31) (.t 36) (.c (.bool false))⟩,
    ⟨none, .mv 38 (.t 37)⟩,
    ⟨some (38, true), .fa 39 (.t 2) 7⟩,
    ⟨some (38, true), .ld 40 (.t 39) 2 true⟩,
    ⟨some (38, true), .fa 41 (.t 3) 7⟩,
    ⟨some (38, true), .ld 42 (.t 41) 2 true⟩,
    ⟨some (38, true), .be 43 false [.int .i64, .int .i64] (.t 40) (.t 42)⟩,
    ⟨none, .pk 44 (.t 38) (.t 43) (.c (.bool false))⟩,
    ⟨none, .mv 45 (.t 44)⟩,
    ⟨some (45, true), .fa 46 (.t 2) 9⟩,
    ⟨some (45, true), .ld 47 (.t 46) 2 true⟩,
    ⟨some (45, true), .fa 48 (.t 3) 9⟩,
    ⟨some (45, true), .ld 49 (.t 48) 2 true⟩,
    ⟨some (45, true), .be 50 false [.int .i64, .int .i64] (.t 47) (.t 49)⟩,
    ⟨none, .pk 51 (.t 45) (.t 50) (.c (.bool false))⟩,
    ⟨none, .mv 52 (.t 51)⟩,
    ⟨some (52, true), .fa 53 (.t 2) 11⟩,
    ⟨some (52, true), .ld 54 (.t 53) 1 false⟩,
    ⟨some (52, true), .fa 55 (.t 3) 11⟩,
    ⟨some (52, true), .ld 56 (.t 55) 1 false⟩,
    ⟨some (52, true), .bi 57 .eql (.t 54) (.t 56)⟩,
    ⟨none, .pk 58 (.t 52) (.t 57) (.c (.bool false))⟩,
    ⟨none, .mv 59 (.t 58)⟩,
    ⟨some (59, true), .fa 60 (.t 2) 12⟩,
    ⟨some (59, true), .ld 61 (.t 60) 1 false⟩,
    ⟨some (59, true), .fa 62 (.t 3) 12⟩,
    ⟨some (59, true), .ld 63 (.t 62) 1 false⟩,
    ⟨some (59, true), .bi 64 .eql (.t 61) (.t 63)⟩,
    ⟨none, .pk 65 (.t 59) (.t 64) (.c (.bool false))⟩,
    ⟨none, .mv 4 (.t 65)⟩])
  (.ret))
theorem comp18 : compFn Try.prog [2, 3] Try.f18 = some ([.t 4], c18) := by kernel_rfl
/-- topiary/topiarylaw07.awake: 0 parameters, 35 slots. -/
def c19 : C :=
  .seq (.ops [⟨none, .mv 0 (.c (.bool false))⟩])
  (.seq (.ops [⟨none, .ca (some 4) 24 [(.c (.int .i64 3))]⟩,
    ⟨none, .mv 3 (.t 4)⟩,
    ⟨none, .ex 5 (.t 3) 0⟩,
    ⟨none, .ex 6 (.t 3) 1⟩,
    ⟨none, .mv 1 (.t 5)⟩,
    ⟨none, .mv 2 (.t 6)⟩])
  (.seq (.ops [⟨none, .mv 7 (.t 2)⟩,
    ⟨none, .bi 8 .eql (.t 7) (.c (.int .i64 0))⟩,
    ⟨none, .mv 9 (.t 8)⟩,
    ⟨some (9, true), .mv 10 (.t 1)⟩,
    ⟨some (9, true), .bq 11 true .ptr (.t 10) (.c (.ptr none))⟩,
    ⟨none, .pk 12 (.t 9) (.t 11) (.c (.bool false))⟩,
    ⟨none, .mv 13 (.t 12)⟩,
    ⟨some (13, true), .mv 14 (.t 1)⟩,
    ⟨some (13, true), .ca (some 15) 15 []⟩,
    ⟨some (13, true), .ca (some 16) 14 [(.t 14), (.t 15)]⟩,
    ⟨some (13, true), .bi 17 .eql (.t 16) (.c (.int .i64 0))⟩,
    ⟨none, .pk 18 (.t 13) (.t 17) (.c (.bool false))⟩,
    ⟨none, .mv 19 (.t 18)⟩,
    ⟨some (19, true), .mv 20 (.t 1)⟩,
    ⟨some (19, true), .ca (some 21) 15 []⟩,
    ⟨some (19, true), .ca (some 22) 14 [(.t 20), (.t 21)]⟩,
    ⟨some (19, true), .bi 23 .eql (.t 22) (.c (.int .i64 5))⟩,
    ⟨none, .pk 24 (.t 19) (.t 23) (.c (.bool false))⟩,
    ⟨none, .mv 25 (.t 24)⟩,
    ⟨some (25, true), .mv 26 (.t 1)⟩,
    ⟨some (25, true), .ca (some 27) 53 [(.t 26)]⟩,
    ⟨some (25, true), .bi 28 .eql (.t 27) (.c (.int .i64 1))⟩,
    ⟨none, .pk 29 (.t 25) (.t 28) (.c (.bool false))⟩,
    ⟨none, .mv 30 (.t 29)⟩,
    ⟨some (30, true), .mv 31 (.t 1)⟩,
    ⟨some (30, true), .ca (some 32) 54 [(.t 31)]⟩,
    ⟨some (30, true), .bi 33 .eql (.t 32) (.c (.int .i64 1))⟩,
    ⟨none, .pk 34 (.t 30) (.t 33) (.c (.bool false))⟩,
    ⟨none, .mv 0 (.t 34)⟩])
  (.ret)))
theorem comp19 : compFn Try.prog [] Try.f19 = some ([.t 0], c19) := by kernel_rfl
/-- topiary/topiaryref07.Find: 2 parameters, 20 slots. -/
def c21 : C :=
  .seq (.ops [⟨none, .bxL 3 (.t 1)⟩,
    ⟨none, .mv 4 (.c (.int .i64 0))⟩])
  (.seq (.seq (.ops [⟨none, .mv 5 (.c (.int .i64 0))⟩])
  (.block 0 (.loop (.seq (.seq (.ops [⟨none, .mv 6 (.t 5)⟩,
    ⟨none, .mv 7 (.t 0)⟩,
    ⟨none, .ln 8 .sl (.t 7)⟩,
    ⟨none, .bi 9 .lss (.t 6) (.t 8)⟩])
  (.cond (.t 9) (.skip)
    (.exit 0)))
  (.seq (.block 1 (.seq (.opsD [⟨none, .mv 12 (.t 0)⟩,
    ⟨none, .mv 13 (.t 5)⟩,
    ⟨none, .ia 14 (.t 12) (.t 13) 13⟩,
    ⟨none, .fa 15 (.t 14) 0⟩,
    ⟨none, .ld 16 (.t 15) 2 true⟩,
    ⟨none, .ld 17 (.t 3) 2 true⟩,
    ⟨none, .be 18 false [.int .i64, .int .i64] (.t 16) (.t 17)⟩])
  (.cond (.t 18) (.seq (.ops [⟨none, .mv 19 (.t 5)⟩,
      ⟨none, .mv 4 (.t 19)⟩])
    (.ret))
    (.skip))))
  (.ops [⟨none, .mv 10 (.t 5)⟩,
    ⟨none, .bi 11 .add (.t 10) (.c (.int .i64 1))⟩,
    ⟨none, .mv 5 (.t 11)⟩]))))))
  (.seq (.ops [⟨none, .mv 4 (.c (.int .i64 (-1)))⟩])
  (.ret)))
theorem comp21 : compFn Try.prog [3] Try.f21 = some ([.t 4], c21) := by kernel_rfl
/-- topiary/topiaryref07.Own: 3 parameters, 32 slots. -/
def c23 : C :=
  .seq (.ops [⟨none, .mv 6 (.c (.int .i64 0))⟩])
  (.seq (.seq (.ops [⟨none, .mv 7 (.c (.int .i64 0))⟩])
  (.block 0 (.loop (.seq (.seq (.ops [⟨none, .mv 8 (.t 7)⟩,
    ⟨none, .mv 9 (.t 0)⟩,
    ⟨none, .ln 10 .sl (.t 9)⟩,
    ⟨none, .bi 11 .lss (.t 8) (.t 10)⟩])
  (.cond (.t 11) (.skip)
    (.exit 0)))
  (.seq (.block 1 (.seq (.ops [⟨none, .mv 14 (.t 0)⟩,
    ⟨none, .mv 15 (.t 7)⟩,
    ⟨none, .ia 16 (.t 14) (.t 15) 13⟩,
    ⟨none, .fa 17 (.t 16) 0⟩,
    ⟨none, .fa 18 (.t 17) 1⟩,
    ⟨none, .ld 19 (.t 18) 1 false⟩,
    ⟨none, .mv 20 (.t 1)⟩,
    ⟨none, .bi 21 .eql (.t 19) (.t 20)⟩,
    ⟨none, .mv 22 (.t 21)⟩,
    ⟨some (22, true), .mv 23 (.t 0)⟩,
    ⟨some (22, true), .mv 24 (.t 7)⟩,
    ⟨some (22, true), .ia 25 (.t 23) (.t 24) 13⟩,
    ⟨some (22, true), .fa 26 (.t 25) 2⟩,
    ⟨some (22, true), .ld 27 (.t 26) 1 false⟩,
    ⟨some (22, true), .mv 28 (.t 2)⟩,
    ⟨some (22, true), .bi 29 .eql (.t 27) (.t 28)⟩,
    ⟨none, .pk 30 (.t 22) (.t 29) (.c (.bool false))⟩])
  (.cond (.t 30) (.seq (.ops [⟨none, .mv 31 (.t 7)⟩,
      ⟨none, .mv 6 (.t 31)⟩])
    (.ret))
    (.skip))))
  (.ops [⟨none, .mv 12 (.t 7)⟩,
    ⟨none, .bi 13 .add (.t 12) (.c (.int .i64 1))⟩,
    ⟨none, .mv 7 (.t 13)⟩]))))))
  (.seq (.ops [⟨none, .mv 6 (.c (.int .i64 (-1)))⟩])
  (.ret)))
theorem comp23 : compFn Try.prog [] Try.f23 = some ([.t 6], c23) := by kernel_rfl
/-- topiary/oplog.New: 1 parameters, 14 slots. -/
def c24 : C :=
  .seq (.ops [⟨none, .mv 2 (.c (.ptr none))⟩,
    ⟨none, .mv 3 (.c (.int .i64 0))⟩])
  (.seq (.seq (.ops [⟨none, .mv 4 (.t 0)⟩,
    ⟨none, .bi 5 .lss (.t 4) (.c (.int .i64 1))⟩,
    ⟨none, .mv 6 (.t 5)⟩,
    ⟨some (6, false), .mv 7 (.t 0)⟩,
    ⟨some (6, false), .bi 8 .gtr (.t 7) (.c (.int .i64 4096))⟩,
    ⟨none, .pk 9 (.t 6) (.c (.bool true)) (.t 8)⟩])
  (.cond (.t 9) (.seq (.ops [⟨none, .mv 2 (.c (.ptr none))⟩,
      ⟨none, .mv 3 (.c (.int .i64 1))⟩])
    (.ret))
    (.skip)))
  (.seq (.ops [⟨none, .mv 10 (.t 0)⟩,
    ⟨none, .mm 11 [.agg, .int .i64, .int .i64]⟩,
    ⟨none, .bld 12 [.int .i64 0, .sl true .pub 0 [], .map none, .sl true .pub 0 [], .sl true .pub 0 [], .sl true .pub 0 [], .sl true .pub 0 [], .sl true .pub 0 [], .sl true .pub 0 [], .sl true .pub 0 [], .sl true .pub 0 [], .sl true .pub 0 [], .sl true .pub 0 [], .sl true .pub 0 [], .sl true .pub 0 [], .sl true .pub 0 [], .sl true .pub 0 [], .sl true .pub 0 [], .sl true .pub 0 [], .sl true .pub 0 [], .sl true .pub 0 [], .sl true .pub 0 [], .sl true .pub 0 [], .sl true .pub 0 [], .sl true .pub 0 [], .sl true .pub 0 [], .sl true .pub 0 [], .sl true .pub 0 [], .sl true .pub 0 [], .sl true .pub 0 [], .sl true .pub 0 [], .sl true .pub 0 [], .sl true .pub 0 [], .sl true .pub 0 [], .sl true .pub 0 [], .sl true .pub 0 [], .sl true .pub 0 [], .sl true .pub 0 [], .sl true .pub 0 [], .sl true .pub 0 [], .sl true .pub 0 [], .sl true .pub 0 [], .sl true .pub 0 [], .sl true .pub 0 [], .sl true .pub 0 [], .sl true .pub 0 [], .sl true .pub 0 [], .sl true .pub 0 [], .sl true .pub 0 [], .sl true .pub 0 [], .sl true .pub 0 [], .sl true .pub 0 [], .sl true .pub 0 [], .sl true .pub 0 [], .sl true .pub 0 [], .sl true .pub 0 [], .sl true .pub 0 [], .sl true .pub 0 [], .sl true .pub 0 [], .sl true .pub 0 [], .sl true .pub 0 [], .sl true .pub 0 [], .sl true .pub 0 [], .sl true .pub 0 [], .sl true .pub 0 [], .sl true .pub 0 [], .sl true .pub 0 []] [(0, 1, (.t 10)), (2, 1, (.t 11))]⟩,
    ⟨none, .bxH 13 (.t 12)⟩,
    ⟨none, .mv 2 (.t 13)⟩,
    ⟨none, .mv 3 (.c (.int .i64 0))⟩])
  (.ret)))
theorem comp24 : compFn Try.prog [] Try.f24 = some ([.t 2, .t 3], c24) := by kernel_rfl
/-- (*topiary/oplog.Log).All: 1 parameters, 6 slots. -/
def c25 : C :=
  .seq (.ops [⟨none, .mv 2 (.c (.sl true .pub 13 []))⟩])
  (.seq (.ops [⟨none, .mv 3 (.t 0)⟩,
    ⟨none, .ca (some 4) 13 [(.t 3), (.c (.sl true .pub 0 []))]⟩,
    ⟨none, .ca (some 5) 55 [(.t 4)]⟩,
    ⟨none, .mv 2 (.t 5)⟩])
  (.ret))
theorem comp25 : compFn Try.prog [] Try.f25 = some ([.t 2], c25) := by kernel_rfl
/-- topiary/topiaryref01.Less: 2 parameters, 24 slots. -/
def c26 : C :=
  .seq (.ops [⟨none, .bxL 2 (.t 0)⟩,
    ⟨none, .bxL 3 (.t 1)⟩,
    ⟨none, .mv 4 (.c (.bool false))⟩])
  (.seq (.ops [⟨none, .fa 5 (.t 2) 0⟩,
    ⟨none, .ld 6 (.t 5) 1 false⟩,
    ⟨none, .fa 7 (.t 3) 0⟩,
    ⟨none, .ld 8 (.t 7) 1 false⟩,
    ⟨none, .bi 9 .lss (.t 6) (.t 8)⟩,
    ⟨none, .mv 10 (.t 9)⟩,
    ⟨some (10, false), .fa 11 (.t 2) 0⟩,
    ⟨some (10, false), .ld 12 (.t 11) 1 false⟩,
    ⟨some (10, false), .fa 13 (.t 3) 0⟩,
    ⟨some (10, false), .ld 14 (.t 13) 1 false⟩,
    ⟨some (10, false), .bi 15 .eql (.t 12) (.t 14)⟩,
    ⟨some (10, false), .mv 16 (.t 15)⟩,
    ⟨some (16, true), .fa 17 (.t 2) 1⟩,
    ⟨some (16, true), .ld 18 (.t 17) 1 false⟩,
    ⟨some (16, true), .fa 19 (.t 3) 1⟩,
    ⟨some (16, true), .ld 20 (.t 19) 1 false⟩,
    ⟨some (16, true), .bi 21 .lss (.t 18) (.t 20)⟩,
    ⟨some (10, false), .pk 22 (.t 16) (.t 21) (.c (.bool false))⟩,
    ⟨none, .pk 23 (.t 10) (.c (.bool true)) (.t 22)⟩,
    ⟨none, .mv 4 (.t 23)⟩])
  (.ret))
theorem comp26 : compFn Try.prog [2, 3] Try.f26 = some ([.t 4], c26) := by kernel_rfl
/-- topiary/topiaryref07.Clock: 1 parameters, 37 slots. -/
def c27 : C :=
  .seq (.ops [⟨none, .mv 2 (.c (.sl true .pub 1 []))⟩])
  (.seq (.ops [⟨none, .ms 6 [.int .i64 0] (.c (.int .i64 64)) (.c (.int .i64 64))⟩,
    ⟨none, .mv 3 (.t 6)⟩])
  (.seq (.seq (.ops [⟨none, .mv 4 (.c (.int .i64 0))⟩])
  (.block 0 (.loop (.seq (.seq (.ops [⟨none, .mv 7 (.t 4)⟩,
    ⟨none, .mv 8 (.t 0)⟩,
    ⟨none, .ln 9 .sl (.t 8)⟩,
    ⟨none, .bi 10 .lss (.t 7) (.t 9)⟩])
  (.cond (.t 10) (.skip)
    (.exit 0)))
  (.cut (.block 1 (.seq (.ops [⟨none, .mv 13 (.t 0)⟩,
    ⟨none, .mv 14 (.t 4)⟩,
    ⟨none, .ia 15 (.t 13) (.t 14) 13⟩,
    ⟨none, .fa 16 (.t 15) 0⟩,
    ⟨none, .fa 17 (.t 16) 1⟩,
    ⟨none, .ld 18 (.t 17) 1 false⟩,
    ⟨none, .mv 5 (.t 18)⟩])
  (.seq (.ops [⟨none, .mv 19 (.t 5)⟩,
    ⟨none, .bi 20 .geq (.t 19) (.c (.int .i64 0))⟩,
    ⟨none, .mv 21 (.t 20)⟩,
    ⟨some (21, true), .mv 22 (.t 5)⟩,
    ⟨some (21, true), .mv 23 (.t 3)⟩,
    ⟨some (21, true), .ln 24 .sl (.t 23)⟩,
    ⟨some (21, true), .bi 25 .lss (.t 22) (.t 24)⟩,
    ⟨none, .pk 26 (.t 21) (.t 25) (.c (.bool false))⟩])
  (.cond (.t 26) (.ops [⟨none, .mv 27 (.t 3)⟩,
      ⟨none, .mv 28 (.t 5)⟩,
      ⟨none, .mv 29 (.t 3)⟩,
      ⟨none, .mv 30 (.t 5)⟩,
      ⟨none, .ia 31 (.t 29) (.t 30) 1⟩,
      ⟨none, .ld 32 (.t 31) 1 false⟩,
      ⟨none, .bi 33 .add (.t 32) (.c (.int .i64 1))⟩,
      ⟨none, .ia 34 (.t 27) (.t 28) 1⟩,
      ⟨none, .se (.t 34) (.t 33) 1⟩])
    (.skip)))))
  (.ops [⟨none, .mv 11 (.t 4)⟩,
    ⟨none, .bi 12 .add (.t 11) (.c (.int .i64 1))⟩,
    ⟨none, .mv 4 (.t 12)⟩]))))))
  (.seq (.ops [⟨none, .mv 35 (.t 3)⟩,
    ⟨none, .ca (some 36) 56 [(.t 35)]⟩,
    ⟨none, .mv 2 (.t 36)⟩])
  (.ret))))
theorem comp27 : compFn Try.prog [1000034] Try.f27 = some ([.t 2], c27) := by kernel_rfl
/-- topiary/topiaryref02.Under: 2 parameters, 20 slots. -/
def c28 : C :=
  .seq (.ops [⟨none, .mv 4 (.c (.bool false))⟩])
  (.seq (.seq (.ops [⟨none, .mv 5 (.c (.int .i64 0))⟩])
  (.block 0 (.loop (.seq (.seq (.ops [⟨none, .mv 6 (.t 5)⟩,
    ⟨none, .mv 7 (.t 0)⟩,
    ⟨none, .ln 8 .sl (.t 7)⟩,
    ⟨none, .bi 9 .lss (.t 6) (.t 8)⟩])
  (.cond (.t 9) (.skip)
    (.exit 0)))
  (.seq (.block 1 (.seq (.opsD [⟨none, .mv 12 (.t 0)⟩,
    ⟨none, .mv 13 (.t 5)⟩,
    ⟨none, .ia 14 (.t 12) (.t 13) 1⟩,
    ⟨none, .ld 15 (.t 14) 1 false⟩,
    ⟨none, .mv 16 (.t 1)⟩,
    ⟨none, .mv 17 (.t 5)⟩,
    ⟨none, .ca (some 18) 29 [(.t 16), (.t 17)]⟩,
    ⟨none, .bi 19 .gtr (.t 15) (.t 18)⟩])
  (.cond (.t 19) (.seq (.ops [⟨none, .mv 4 (.c (.bool false))⟩])
    (.ret))
    (.skip))))
  (.ops [⟨none, .mv 10 (.t 5)⟩,
    ⟨none, .bi 11 .add (.t 10) (.c (.int .i64 1))⟩,
    ⟨none, .mv 5 (.t 11)⟩]))))))
  (.seq (.ops [⟨none, .mv 4 (.c (.bool true))⟩])
  (.ret)))
theorem comp28 : compFn Try.prog [] Try.f28 = some ([.t 4], c28) := by kernel_rfl
/-- topiary/topiaryref02.At: 2 parameters, 17 slots. -/
def c29 : C :=
  .seq (.ops [⟨none, .mv 4 (.c (.int .i64 0))⟩])
  (.seq (.seq (.ops [⟨none, .mv 5 (.t 1)⟩,
    ⟨none, .bi 6 .geq (.t 5) (.c (.int .i64 0))⟩,
    ⟨none, .mv 7 (.t 6)⟩,
    ⟨some (7, true), .mv 8 (.t 1)⟩,
    ⟨some (7, true), .mv 9 (.t 0)⟩,
    ⟨some (7, true), .ln 10 .sl (.t 9)⟩,
    ⟨some (7, true), .bi 11 .lss (.t 8) (.t 10)⟩,
    ⟨none, .pk 12 (.t 7) (.t 11) (.c (.bool false))⟩])
  (.cond (.t 12) (.seq (.ops [⟨none, .mv 13 (.t 0)⟩,
      ⟨none, .mv 14 (.t 1)⟩,
      ⟨none, .ia 15 (.t 13) (.t 14) 1⟩,
      ⟨none, .ld 16 (.t 15) 1 false⟩,
      ⟨none, .mv 4 (.t 16)⟩])
    (.ret))
    (.skip)))
  (.seq (.ops [⟨none, .mv 4 (.c (.int .i64 0))⟩])
  (.ret)))
theorem comp29 : compFn Try.prog [] Try.f29 = some ([.t 4], c29) := by kernel_rfl
/-- topiary/topiaryref05.Names: 1 parameters, 41 slots. -/
def c30 : C :=
  .seq (.ops [⟨none, .bxL 1 (.t 0)⟩,
    ⟨none, .mv 2 (.c (.sl true .pub 2 []))⟩])
  (.seq (.ops [⟨none, .fa 6 (.t 1) 5⟩,
    ⟨none, .ld 7 (.t 6) 2 true⟩,
    ⟨none, .fa 8 (.t 1) 7⟩,
    ⟨none, .ld 9 (.t 8) 2 true⟩,
    ⟨none, .fa 10 (.t 1) 9⟩,
    ⟨none, .ld 11 (.t 10) 2 true⟩,
    ⟨none, .lit 12 2 [(.t 7), (.t 9), (.t 11)]⟩,
    ⟨none, .mv 3 (.t 12)⟩])
  (.seq (.ops [⟨none, .lit 13 2 []⟩,
    ⟨none, .mv 4 (.t 13)⟩])
  (.seq (.seq (.ops [⟨none, .mv 5 (.c (.int .i64 0))⟩])
  (.block 0 (.loop (.seq (.seq (.ops [⟨none, .mv 14 (.t 5)⟩,
    ⟨none, .mv 15 (.t 3)⟩,
    ⟨none, .ln 16 .sl (.t 15)⟩,
    ⟨none, .bi 17 .lss (.t 14) (.t 16)⟩])
  (.cond (.t 17) (.skip)
    (.exit 0)))
  (.cut (.block 1 (.seq (.opsD [⟨none, .mv 20 (.t 3)⟩,
    ⟨none, .mv 21 (.t 5)⟩,
    ⟨none, .ia 22 (.t 20) (.t 21) 2⟩,
    ⟨none, .ld 23 (.t 22) 2 true⟩,
    ⟨none, .ca (some 24) 57 [(.t 23)]⟩,
    ⟨none, .mv 25 (.t 24)⟩,
    ⟨some (25, true), .mv 26 (.t 3)⟩,
    ⟨some (25, true), .mv 27 (.t 5)⟩,
    ⟨some (25, true), .ia 28 (.t 26) (.t 27) 2⟩,
    ⟨some (25, true), .ld 29 (.t 28) 2 true⟩,
    ⟨some (25, true), .fa 30 (.t 1) 0⟩,
    ⟨some (25, true), .ld 31 (.t 30) 2 true⟩,
    ⟨some (25, true), .be 32 true [.int .i64, .int .i64] (.t 29) (.t 31)⟩,
    ⟨none, .pk 33 (.t 25) (.t 32) (.c (.bool false))⟩])
  (.cond (.t 33) (.ops [⟨none, .mv 34 (.t 4)⟩,
      ⟨none, .mv 35 (.t 3)⟩,
      ⟨none, .mv 36 (.t 5)⟩,
      ⟨none, .ia 37 (.t 35) (.t 36) 2⟩,
      ⟨none, .ld 38 (.t 37) 2 true⟩,
      ⟨none, .ca (some 39) 58 [(.t 34), (.t 38)]⟩,
      ⟨none, .mv 4 (.t 39)⟩])
    (.skip))))
  (.ops [⟨none, .mv 18 (.t 5)⟩,
    ⟨none, .bi 19 .add (.t 18) (.c (.int .i64 1))⟩,
    ⟨none, .mv 5 (.t 19)⟩]))))))
  (.seq (.ops [⟨none, .mv 40 (.t 4)⟩,
    ⟨none, .mv 2 (.t 40)⟩])
  (.ret)))))
theorem comp30 : compFn Try.prog [1] Try.f30 = some ([.t 2], c30) := by kernel_rfl
/-- topiary/topiaryref05.SameAll: 2 parameters, 27 slots. -/
def c33 : C :=
  .seq (.ops [⟨none, .mv 4 (.c (.bool false))⟩])
  (.seq (.seq (.ops [⟨none, .mv 6 (.t 0)⟩,
    ⟨none, .ln 7 .sl (.t 6)⟩,
    ⟨none, .mv 8 (.t 1)⟩,
    ⟨none, .ln 9 .sl (.t 8)⟩,
    ⟨none, .bi 10 .neq (.t 7) (.t 9)⟩])
  (.cond (.t 10) (.seq (.ops [⟨none, .mv 4 (.c (.bool false))⟩])
    (.ret))
    (.skip)))
  (.seq (.seq (.ops [⟨none, .mv 5 (.c (.int .i64 0))⟩])
  (.block 0 (.loop (.seq (.seq (.ops [⟨none, .mv 11 (.t 5)⟩,
    ⟨none, .mv 12 (.t 0)⟩,
    ⟨none, .ln 13 .sl (.t 12)⟩,
    ⟨none, .bi 14 .lss (.t 11) (.t 13)⟩])
  (.cond (.t 14) (.skip)
    (.exit 0)))
  (.seq (.block 1 (.seq (.opsD [⟨none, .mv 17 (.t 0)⟩,
    ⟨none, .mv 18 (.t 5)⟩,
    ⟨none, .ia 19 (.t 17) (.t 18) 13⟩,
    ⟨none, .ld 20 (.t 19) 13 true⟩,
    ⟨none, .mv 21 (.t 1)⟩,
    ⟨none, .mv 22 (.t 5)⟩,
    ⟨none, .ia 23 (.t 21) (.t 22) 13⟩,
    ⟨none, .ld 24 (.t 23) 13 true⟩,
    ⟨none, .ca (some 25) 18 [(.t 20), (.t 24)]⟩,
    ⟨none, .un 26 .not (.t 25)⟩])
  (.cond (.t 26) (.seq (.ops [⟨none, .mv 4 (.c (.bool false))⟩])
    (.ret))
    (.skip))))
  (.ops [⟨none, .mv 15 (.t 5)⟩,
    ⟨none, .bi 16 .add (.t 15) (.c (.int .i64 1))⟩,
    ⟨none, .mv 5 (.t 16)⟩]))))))
  (.seq (.ops [⟨none, .mv 4 (.c (.bool true))⟩])
  (.ret))))
theorem comp33 : compFn Try.prog [] Try.f33 = some ([.t 4], c33) := by kernel_rfl
/-- topiary/topiaryref05.Copy: 1 parameters, 9 slots. -/
def c34 : C :=
  .seq (.ops [⟨none, .bxL 1 (.t 0)⟩,
    ⟨none, .alL 2 [.int .i64 0, .int .i64 0, .int .i64 0, .sl true .pub 0 [], .int .i64 0, .int .i64 0, .int .i64 0, .int .i64 0, .int .i64 0, .int .i64 0, .int .i64 0, .str [], .str []]⟩])
  (.seq (.ops [⟨none, .lit 3 1 []⟩,
    ⟨none, .fa 4 (.t 1) 3⟩,
    ⟨none, .ld 5 (.t 4) 1 false⟩,
    ⟨none, .ap 6 1 (.t 3) (.t 5)⟩,
    ⟨none, .fa 7 (.t 1) 3⟩,
    ⟨none, .st (.t 7) (.t 6) 1⟩])
  (.seq (.ops [⟨none, .ld 8 (.t 1) 13 true⟩,
    ⟨none, .st (.t 2) (.t 8) 13⟩])
  (.ret)))
theorem comp34 : compFn Try.prog [1, 2] Try.f34 = some ([.c 2 13 true], c34) := by kernel_rfl
/-- topiary/topiaryref07.Add: 2 parameters, 24 slots. -/
def c35 : C :=
  .seq (.ops [⟨none, .bxL 2 (.t 0)⟩,
    ⟨none, .bxL 3 (.t 1)⟩,
    ⟨none, .alL 4 [.int .i64 0, .sl true .pub 0 []]⟩,
    ⟨none, .mv 5 (.c (.int .i64 0))⟩])
  (.seq (.ops [⟨none, .fa 7 (.t 2) 1⟩,
    ⟨none, .ld 8 (.t 7) 1 false⟩,
    ⟨none, .fa 9 (.t 2) 0⟩,
    ⟨none, .ld 10 (.t 9) 1 false⟩,
    ⟨none, .ld 11 (.t 3) 13 true⟩,
    ⟨none, .ca (some 12) 42 [(.t 8), (.t 10), (.t 11)]⟩,
    ⟨none, .mv 6 (.t 12)⟩])
  (.seq (.seq (.ops [⟨none, .mv 13 (.t 6)⟩,
    ⟨none, .bi 14 .neq (.t 13) (.c (.int .i64 0))⟩])
  (.cond (.t 14) (.seq (.ops [⟨none, .ld 15 (.t 2) 2 true⟩,
      ⟨none, .mv 16 (.t 6)⟩,
      ⟨none, .st (.t 4) (.t 15) 2⟩,
      ⟨none, .mv 5 (.t 16)⟩])
    (.ret))
    (.skip)))
  (.seq (.opsD [⟨none, .fa 17 (.t 2) 0⟩,
    ⟨none, .ld 18 (.t 17) 1 false⟩,
    ⟨none, .fa 19 (.t 2) 1⟩,
    ⟨none, .ld 20 (.t 19) 1 false⟩,
    ⟨none, .ld 21 (.t 3) 13 true⟩,
    ⟨none, .ca (some 22) 59 [(.t 20), (.t 21)]⟩,
    ⟨none, .bld 23 [.int .i64 0, .sl true .pub 0 []] [(0, 1, (.t 18)), (1, 1, (.t 22))]⟩,
    ⟨none, .st (.t 4) (.t 23) 2⟩,
    ⟨none, .mv 5 (.c (.int .i64 0))⟩])
  (.ret))))
theorem comp35 : compFn Try.prog [2, 3, 4] Try.f35 = some ([.c 4 2 true, .t 5], c35) := by kernel_rfl
/-- topiary/topiarylaw07.told: 2 parameters, 41 slots. -/
def c36 : C :=
  .seq (.ops [⟨none, .bxL 3 (.t 1)⟩,
    ⟨none, .mv 4 (.c (.bool false))⟩])
  (.seq (.opsD [⟨none, .mv 5 (.t 0)⟩,
    ⟨none, .fa 7 (.t 3) 1⟩,
    ⟨none, .ld 8 (.t 7) 1 false⟩,
    ⟨none, .ln 9 .sl (.t 8)⟩,
    ⟨none, .ca (some 6) 53 [(.t 5)]⟩,
    ⟨none, .bi 10 .eql (.t 6) (.t 9)⟩,
    ⟨none, .mv 11 (.t 10)⟩,
    ⟨some (11, true), .mv 12 (.t 0)⟩,
    ⟨some (11, true), .fa 14 (.t 3) 0⟩,
    ⟨some (11, true), .ld 15 (.t 14) 1 false⟩,
    ⟨some (11, true), .ca (some 13) 60 [(.t 12)]⟩,
    ⟨some (11, true), .bi 16 .eql (.t 13) (.t 15)⟩,
    ⟨none, .pk 17 (.t 11) (.t 16) (.c (.bool false))⟩,
    ⟨none, .mv 18 (.t 17)⟩,
    ⟨some (18, true), .mv 19 (.t 0)⟩,
    ⟨some (18, true), .fa 21 (.t 3) 1⟩,
    ⟨some (18, true), .ld 22 (.t 21) 1 false⟩,
    ⟨some (18, true), .ca (some 20) 54 [(.t 19)]⟩,
    ⟨some (18, true), .ca (some 23) 61 [(.t 22)]⟩,
    ⟨some (18, true), .bi 24 .eql (.t 20) (.t 23)⟩,
    ⟨none, .pk 25 (.t 18) (.t 24) (.c (.bool false))⟩,
    ⟨none, .mv 26 (.t 25)⟩,
    ⟨some (26, true), .mv 27 (.t 0)⟩,
    ⟨some (26, true), .fa 29 (.t 3) 1⟩,
    ⟨some (26, true), .ld 30 (.t 29) 1 false⟩,
    ⟨some (26, true), .ca (some 28) 39 [(.t 27)]⟩,
    ⟨some (26, true), .ca (some 31) 27 [(.t 30)]⟩,
    ⟨some (26, true), .ca (some 32) 40 [(.t 28), (.t 31)]⟩,
    ⟨none, .pk 33 (.t 26) (.t 32) (.c (.bool false))⟩,
    ⟨none, .mv 34 (.t 33)⟩,
    ⟨some (34, true), .mv 35 (.t 0)⟩,
    ⟨some (34, true), .fa 37 (.t 3) 1⟩,
    ⟨some (34, true), .ld 38 (.t 37) 1 false⟩,
    ⟨some (34, true), .ca (some 36) 25 [(.t 35)]⟩,
    ⟨some (34, true), .ca (some 39) 33 [(.t 36), (.t 38)]⟩,
    ⟨none, .pk 40 (.t 34) (.t 39) (.c (.bool false))⟩,
    ⟨none, .mv 4 (.t 40)⟩])
  (.ret))
theorem comp36 : compFn Try.prog [3] Try.f36 = some ([.t 4], c36) := by kernel_rfl
/-- (*topiary/oplog.Log).Clock: 1 parameters, 23 slots. -/
def c39 : C :=
  .seq (.ops [⟨none, .mv 2 (.c (.sl true .pub 1 []))⟩])
  (.seq (.seq (.ops [⟨none, .mv 5 (.t 0)⟩,
    ⟨none, .bq 6 false .ptr (.t 5) (.c (.ptr none))⟩])
  (.cond (.t 6) (.seq (.ops [⟨none, .mv 2 (.c (.sl true .pub 1 []))⟩])
    (.ret))
    (.skip)))
  (.seq (.ops [⟨none, .mv 3 (.c (.sl true .pub 1 []))⟩])
  (.seq (.seq (.ops [⟨none, .mv 7 (.c (.int .i64 0))⟩])
  (.block 0 (.loop (.seq (.ops [⟨none, .bi 8 .lss (.t 7) (.c (.int .i64 64))⟩])
  (.seq (.cond (.t 8) (.skip)
    (.exit 0))
  (.seq (.block 1 (.seq (.ops [⟨none, .mv 9 (.t 7)⟩,
    ⟨none, .mv 4 (.t 9)⟩])
  (.ops [⟨none, .mv 10 (.t 3)⟩,
    ⟨none, .mv 11 (.t 0)⟩,
    ⟨none, .mv 12 (.t 4)⟩,
    ⟨none, .nc 13 (.t 11)⟩,
    ⟨none, .fa 14 (.t 13) 3⟩,
    ⟨none, .iA 15 (.t 14) (.t 12) 1 64⟩,
    ⟨none, .ld 16 (.t 15) 1 false⟩,
    ⟨none, .ln 17 .sl (.t 16)⟩,
    ⟨none, .lit 18 1 [(.t 17)]⟩,
    ⟨none, .ap 19 1 (.t 10) (.t 18)⟩,
    ⟨none, .mv 3 (.t 19)⟩])))
  (.ops [⟨none, .bi 20 .add (.t 7) (.c (.int .i64 1))⟩,
    ⟨none, .mv 7 (.t 20)⟩])))))))
  (.seq (.ops [⟨none, .mv 21 (.t 3)⟩,
    ⟨none, .ca (some 22) 63 [(.t 21)]⟩,
    ⟨none, .mv 2 (.t 22)⟩])
  (.ret)))))
theorem comp39 : compFn Try.prog [] Try.f39 = some ([.t 2], c39) := by kernel_rfl
/-- topiary/topiaryref02.Same: 2 parameters, 26 slots. -/
def c40 : C :=
  .seq (.ops [⟨none, .mv 4 (.c (.bool false))⟩])
  (.seq (.seq (.ops [⟨none, .mv 6 (.t 0)⟩,
    ⟨none, .ln 7 .sl (.t 6)⟩,
    ⟨none, .mv 8 (.t 1)⟩,
    ⟨none, .ln 9 .sl (.t 8)⟩,
    ⟨none, .bi 10 .neq (.t 7) (.t 9)⟩])
  (.cond (.t 10) (.seq (.ops [⟨none, .mv 4 (.c (.bool false))⟩])
    (.ret))
    (.skip)))
  (.seq (.seq (.ops [⟨none, .mv 5 (.c (.int .i64 0))⟩])
  (.block 0 (.loop (.seq (.seq (.ops [⟨none, .mv 11 (.t 5)⟩,
    ⟨none, .mv 12 (.t 0)⟩,
    ⟨none, .ln 13 .sl (.t 12)⟩,
    ⟨none, .bi 14 .lss (.t 11) (.t 13)⟩])
  (.cond (.t 14) (.skip)
    (.exit 0)))
  (.seq (.block 1 (.seq (.opsD [⟨none, .mv 17 (.t 0)⟩,
    ⟨none, .mv 18 (.t 5)⟩,
    ⟨none, .ia 19 (.t 17) (.t 18) 1⟩,
    ⟨none, .ld 20 (.t 19) 1 false⟩,
    ⟨none, .mv 21 (.t 1)⟩,
    ⟨none, .mv 22 (.t 5)⟩,
    ⟨none, .ia 23 (.t 21) (.t 22) 1⟩,
    ⟨none, .ld 24 (.t 23) 1 false⟩,
    ⟨none, .bi 25 .neq (.t 20) (.t 24)⟩])
  (.cond (.t 25) (.seq (.ops [⟨none, .mv 4 (.c (.bool false))⟩])
    (.ret))
    (.skip))))
  (.ops [⟨none, .mv 15 (.t 5)⟩,
    ⟨none, .bi 16 .add (.t 15) (.c (.int .i64 1))⟩,
    ⟨none, .mv 5 (.t 16)⟩]))))))
  (.seq (.ops [⟨none, .mv 4 (.c (.bool true))⟩])
  (.ret))))
theorem comp40 : compFn Try.prog [] Try.f40 = some ([.t 4], c40) := by kernel_rfl
/-- topiary/topiaryref07.Why: 3 parameters, 66 slots. -/
def c42 : C :=
  .seq (.ops [⟨none, .bxL 5 (.t 2)⟩,
    ⟨none, .mv 6 (.c (.int .i64 0))⟩])
  (.seq (.seq (.ops [⟨none, .ld 9 (.t 5) 13 true⟩,
    ⟨none, .ca (some 10) 64 [(.t 9)]⟩,
    ⟨none, .bi 11 .neq (.t 10) (.c (.int .i64 0))⟩])
  (.cond (.t 11) (.seq (.ops [⟨none, .ld 12 (.t 5) 13 true⟩,
      ⟨none, .ca (some 13) 64 [(.t 12)]⟩,
      ⟨none, .mv 6 (.t 13)⟩])
    (.ret))
    (.skip)))
  (.seq (.ops [⟨none, .mv 14 (.t 0)⟩,
    ⟨none, .fa 15 (.t 5) 0⟩,
    ⟨none, .ld 16 (.t 15) 2 true⟩,
    ⟨none, .ca (some 17) 21 [(.t 14), (.t 16)]⟩,
    ⟨none, .mv 7 (.t 17)⟩])
  (.seq (.seq (.opsD [⟨none, .mv 18 (.t 7)⟩,
    ⟨none, .bi 19 .geq (.t 18) (.c (.int .i64 0))⟩,
    ⟨none, .mv 20 (.t 19)⟩,
    ⟨some (20, true), .mv 21 (.t 0)⟩,
    ⟨some (20, true), .mv 22 (.t 7)⟩,
    ⟨some (20, true), .ia 23 (.t 21) (.t 22) 13⟩,
    ⟨some (20, true), .ld 24 (.t 23) 13 true⟩,
    ⟨some (20, true), .ld 25 (.t 5) 13 true⟩,
    ⟨some (20, true), .ca (some 26) 18 [(.t 24), (.t 25)]⟩,
    ⟨none, .pk 27 (.t 20) (.t 26) (.c (.bool false))⟩])
  (.cond (.t 27) (.seq (.ops [⟨none, .mv 6 (.c (.int .i64 5))⟩])
    (.ret))
    (.skip)))
  (.seq (.seq (.ops [⟨none, .mv 28 (.t 7)⟩,
    ⟨none, .bi 29 .geq (.t 28) (.c (.int .i64 0))⟩,
    ⟨none, .mv 30 (.t 29)⟩,
    ⟨some (30, false), .mv 31 (.t 0)⟩,
    ⟨some (30, false), .fa 32 (.t 5) 0⟩,
    ⟨some (30, false), .fa 33 (.t 32) 1⟩,
    ⟨some (30, false), .ld 34 (.t 33) 1 false⟩,
    ⟨some (30, false), .fa 35 (.t 5) 2⟩,
    ⟨some (30, false), .ld 36 (.t 35) 1 false⟩,
    ⟨some (30, false), .ca (some 37) 23 [(.t 31), (.t 34), (.t 36)]⟩,
    ⟨some (30, false), .bi 38 .geq (.t 37) (.c (.int .i64 0))⟩,
    ⟨none, .pk 39 (.t 30) (.c (.bool true)) (.t 38)⟩])
  (.cond (.t 39) (.seq (.ops [⟨none, .mv 6 (.c (.int .i64 7))⟩])
    (.ret))
    (.skip)))
  (.seq (.ops [⟨none, .mv 40 (.t 0)⟩,
    ⟨none, .ca (some 41) 27 [(.t 40)]⟩,
    ⟨none, .mv 8 (.t 41)⟩])
  (.seq (.seq (.opsD [⟨none, .fa 42 (.t 5) 2⟩,
    ⟨none, .ld 43 (.t 42) 1 false⟩,
    ⟨none, .mv 44 (.t 8)⟩,
    ⟨none, .fa 45 (.t 5) 0⟩,
    ⟨none, .fa 46 (.t 45) 1⟩,
    ⟨none, .ld 47 (.t 46) 1 false⟩,
    ⟨none, .ca (some 48) 29 [(.t 44), (.t 47)]⟩,
    ⟨none, .bi 49 .add (.t 48) (.c (.int .i64 1))⟩,
    ⟨none, .bi 50 .neq (.t 43) (.t 49)⟩,
    ⟨none, .mv 51 (.t 50)⟩,
    ⟨some (51, false), .fa 52 (.t 5) 3⟩,
    ⟨some (51, false), .ld 53 (.t 52) 1 false⟩,
    ⟨some (51, false), .mv 54 (.t 8)⟩,
    ⟨some (51, false), .ca (some 55) 28 [(.t 53), (.t 54)]⟩,
    ⟨some (51, false), .un 56 .not (.t 55)⟩,
    ⟨none, .pk 57 (.t 51) (.c (.bool true)) (.t 56)⟩])
  (.cond (.t 57) (.seq (.ops [⟨none, .mv 6 (.c (.int .i64 4))⟩])
    (.ret))
    (.skip)))
  (.seq (.seq (.ops [⟨none, .mv 58 (.t 0)⟩,
    ⟨none, .ld 59 (.t 5) 13 true⟩,
    ⟨none, .ca (some 60) 65 [(.t 58), (.t 59)]⟩,
    ⟨none, .un 61 .not (.t 60)⟩])
  (.cond (.t 61) (.seq (.ops [⟨none, .mv 6 (.c (.int .i64 2))⟩])
    (.ret))
    (.skip)))
  (.seq (.seq (.ops [⟨none, .mv 62 (.t 0)⟩,
    ⟨none, .ln 63 .sl (.t 62)⟩,
    ⟨none, .mv 64 (.t 1)⟩,
    ⟨none, .bi 65 .geq (.t 63) (.t 64)⟩])
  (.cond (.t 65) (.seq (.ops [⟨none, .mv 6 (.c (.int .i64 6))⟩])
    (.ret))
    (.skip)))
  (.seq (.ops [⟨none, .mv 6 (.c (.int .i64 0))⟩])
  (.ret))))))))))
theorem comp42 : compFn Try.prog [5] Try.f42 = some ([.t 6], c42) := by kernel_rfl
/-- topiary/clock.Check: 1 parameters, 21 slots. -/
def c43 : C :=
  .seq (.ops [⟨none, .mv 2 (.c (.int .i64 0))⟩])
  (.seq (.seq (.ops [⟨none, .mv 5 (.t 0)⟩,
    ⟨none, .ln 6 .sl (.t 5)⟩,
    ⟨none, .bi 7 .gtr (.t 6) (.c (.int .i64 64))⟩])
  (.cond (.t 7) (.seq (.ops [⟨none, .mv 2 (.c (.int .i64 3))⟩])
    (.ret))
    (.skip)))
  (.seq (.seq (.ops [⟨none, .mv 8 (.t 0)⟩,
    ⟨none, .ln 9 .sl (.t 8)⟩,
    ⟨none, .mv 10 (.c (.int .i64 0))⟩])
  (.block 0 (.loop (.seq (.ops [⟨none, .bi 11 .lss (.t 10) (.t 9)⟩])
  (.seq (.cond (.t 11) (.skip)
    (.exit 0))
  (.seq (.block 1 (.seq (.ops [⟨none, .ia 12 (.t 8) (.t 10) 1⟩,
    ⟨none, .ld 13 (.t 12) 1 false⟩,
    ⟨none, .mv 4 (.t 13)⟩])
  (.seq (.ops [⟨none, .mv 14 (.t 4)⟩,
    ⟨none, .bi 15 .lss (.t 14) (.c (.int .i64 0))⟩,
    ⟨none, .mv 16 (.t 15)⟩,
    ⟨some (16, false), .mv 17 (.t 4)⟩,
    ⟨some (16, false), .bi 18 .gtr (.t 17) (.c (.int .i64 1099511627776))⟩,
    ⟨none, .pk 19 (.t 16) (.c (.bool true)) (.t 18)⟩])
  (.cond (.t 19) (.seq (.ops [⟨none, .mv 2 (.c (.int .i64 1))⟩])
    (.ret))
    (.skip)))))
  (.ops [⟨none, .bi 20 .add (.t 10) (.c (.int .i64 1))⟩,
    ⟨none, .mv 10 (.t 20)⟩])))))))
  (.seq (.ops [⟨none, .mv 2 (.c (.int .i64 0))⟩])
  (.ret))))
theorem comp43 : compFn Try.prog [] Try.f43 = some ([.t 2], c43) := by kernel_rfl
/-- topiary/clock.At: 2 parameters, 17 slots. -/
def c44 : C :=
  .seq (.ops [⟨none, .mv 4 (.c (.int .i64 0))⟩])
  (.seq (.seq (.ops [⟨none, .mv 5 (.t 1)⟩,
    ⟨none, .bi 6 .lss (.t 5) (.c (.int .i64 0))⟩,
    ⟨none, .mv 7 (.t 6)⟩,
    ⟨some (7, false), .mv 8 (.t 1)⟩,
    ⟨some (7, false), .mv 9 (.t 0)⟩,
    ⟨some (7, false), .ln 10 .sl (.t 9)⟩,
    ⟨some (7, false), .bi 11 .geq (.t 8) (.t 10)⟩,
    ⟨none, .pk 12 (.t 7) (.c (.bool true)) (.t 11)⟩])
  (.cond (.t 12) (.seq (.ops [⟨none, .mv 4 (.c (.int .i64 0))⟩])
    (.ret))
    (.skip)))
  (.seq (.ops [⟨none, .mv 13 (.t 0)⟩,
    ⟨none, .mv 14 (.t 1)⟩,
    ⟨none, .ia 15 (.t 13) (.t 14) 1⟩,
    ⟨none, .ld 16 (.t 15) 1 false⟩,
    ⟨none, .mv 4 (.t 16)⟩])
  (.ret)))
theorem comp44 : compFn Try.prog [] Try.f44 = some ([.t 4], c44) := by kernel_rfl
/-- topiary/change.Copy: 1 parameters, 9 slots. -/
def c45 : C :=
  .seq (.ops [⟨none, .bxL 1 (.t 0)⟩,
    ⟨none, .alL 2 [.int .i64 0, .int .i64 0, .int .i64 0, .sl true .pub 0 [], .int .i64 0, .int .i64 0, .int .i64 0, .int .i64 0, .int .i64 0, .int .i64 0, .int .i64 0, .str [], .str []]⟩])
  (.seq (.ops [⟨none, .lit 3 1 []⟩,
    ⟨none, .fa 4 (.t 1) 3⟩,
    ⟨none, .ld 5 (.t 4) 1 false⟩,
    ⟨none, .ap 6 1 (.t 3) (.t 5)⟩,
    ⟨none, .fa 7 (.t 1) 3⟩,
    ⟨none, .st (.t 7) (.t 6) 1⟩])
  (.seq (.ops [⟨none, .ld 8 (.t 1) 13 true⟩,
    ⟨none, .st (.t 2) (.t 8) 13⟩])
  (.ret)))
theorem comp45 : compFn Try.prog [1, 2] Try.f45 = some ([.c 2 13 true], c45) := by kernel_rfl
/-- (*topiary/oplog.Log).Each$1: 1 parameters, 17 slots. -/
def c46 : C :=
  .seq (.ops [⟨none, .ld 5 (.t 1) 1 false⟩,
    ⟨none, .ln 6 .sl (.t 5)⟩,
    ⟨none, .mv 7 (.c (.int .i64 0))⟩])
  (.block 0 (.loop (.seq (.ops [⟨none, .bi 8 .lss (.t 7) (.t 6)⟩])
  (.seq (.cond (.t 8) (.skip)
    (.exit 0))
  (.seq (.block 1 (.seq (.ops [⟨none, .ia 9 (.t 5) (.t 7) 13⟩,
    ⟨none, .ld 10 (.t 9) 13 true⟩,
    ⟨none, .alL 4 [.int .i64 0, .int .i64 0, .int .i64 0, .sl true .pub 0 [], .int .i64 0, .int .i64 0, .int .i64 0, .int .i64 0, .int .i64 0, .int .i64 0, .int .i64 0, .str [], .str []]⟩,
    ⟨none, .st (.t 4) (.t 10) 13⟩])
  (.seq (.ops [⟨none, .mv 11 (.t 0)⟩,
    ⟨none, .ld 12 (.t 4) 13 true⟩,
    ⟨none, .ca (some 13) 45 [(.t 12)]⟩,
    ⟨none, .cv (some 14) (.t 11) [(.t 13)]⟩,
    ⟨none, .un 15 .not (.t 14)⟩])
  (.cond (.t 15) (.ret)
    (.skip)))))
  (.ops [⟨none, .bi 16 .add (.t 7) (.c (.int .i64 1))⟩,
    ⟨none, .mv 7 (.t 16)⟩]))))))
theorem comp46 : compFn Try.prog [4] Try.f46 = some ([], c46) := by kernel_rfl
/-- topiary/change.Check: 1 parameters, 45 slots. -/
def c47 : C :=
  .seq (.ops [⟨none, .bxL 1 (.t 0)⟩,
    ⟨none, .mv 2 (.c (.int .i64 0))⟩])
  (.seq (.block 0 (.seq (.ops [⟨none, .fa 5 (.t 1) 4⟩,
    ⟨none, .ld 6 (.t 5) 1 false⟩,
    ⟨none, .bi 7 .lss (.t 6) (.c (.int .i64 1))⟩,
    ⟨none, .mv 8 (.t 7)⟩,
    ⟨some (8, false), .fa 9 (.t 1) 4⟩,
    ⟨some (8, false), .ld 10 (.t 9) 1 false⟩,
    ⟨some (8, false), .bi 11 .gtr (.t 10) (.c (.int .i64 5))⟩,
    ⟨none, .pk 12 (.t 8) (.c (.bool true)) (.t 11)⟩,
    ⟨none, .mv 4 (.t 12)⟩])
  (.cond (.t 4) (.seq (.ops [⟨none, .mv 2 (.c (.int .i64 1))⟩])
    (.ret))
    (.seq (.ops [⟨none, .fa 14 (.t 1) 0⟩,
      ⟨none, .ld 15 (.t 14) 2 true⟩,
      ⟨none, .ca (some 16) 66 [(.t 15)]⟩,
      ⟨none, .un 17 .not (.t 16)⟩,
      ⟨none, .mv 13 (.t 17)⟩])
    (.cond (.t 13) (.seq (.ops [⟨none, .mv 2 (.c (.int .i64 2))⟩])
      (.ret))
      (.seq (.ops [⟨none, .fa 19 (.t 1) 2⟩,
        ⟨none, .ld 20 (.t 19) 1 false⟩,
        ⟨none, .bi 21 .lss (.t 20) (.c (.int .i64 1))⟩,
        ⟨none, .mv 22 (.t 21)⟩,
        ⟨some (22, false), .fa 23 (.t 1) 2⟩,
        ⟨some (22, false), .ld 24 (.t 23) 1 false⟩,
        ⟨some (22, false), .fa 25 (.t 1) 0⟩,
        ⟨some (22, false), .fa 26 (.t 25) 0⟩,
        ⟨some (22, false), .ld 27 (.t 26) 1 false⟩,
        ⟨some (22, false), .bi 28 .gtr (.t 24) (.t 27)⟩,
        ⟨none, .pk 29 (.t 22) (.c (.bool true)) (.t 28)⟩,
        ⟨none, .mv 18 (.t 29)⟩])
      (.cond (.t 18) (.seq (.ops [⟨none, .mv 2 (.c (.int .i64 1))⟩])
        (.ret))
        (.skip))))))))
  (.seq (.seq (.ops [⟨none, .ld 30 (.t 1) 13 true⟩,
    ⟨none, .ca (some 31) 67 [(.t 30)]⟩,
    ⟨none, .mv 3 (.t 31)⟩])
  (.seq (.ops [⟨none, .mv 32 (.t 3)⟩,
    ⟨none, .bi 33 .neq (.t 32) (.c (.int .i64 0))⟩])
  (.cond (.t 33) (.seq (.ops [⟨none, .mv 34 (.t 3)⟩,
      ⟨none, .mv 2 (.t 34)⟩])
    (.ret))
    (.skip))))
  (.seq (.seq (.ops [⟨none, .ld 35 (.t 1) 13 true⟩,
    ⟨none, .ca (some 36) 68 [(.t 35)]⟩,
    ⟨none, .un 37 .not (.t 36)⟩,
    ⟨none, .mv 38 (.t 37)⟩,
    ⟨some (38, false), .ld 39 (.t 1) 13 true⟩,
    ⟨some (38, false), .ca (some 40) 69 [(.t 39)]⟩,
    ⟨some (38, false), .un 41 .not (.t 40)⟩,
    ⟨none, .pk 42 (.t 38) (.c (.bool true)) (.t 41)⟩])
  (.cond (.t 42) (.seq (.ops [⟨none, .mv 2 (.c (.int .i64 2))⟩])
    (.ret))
    (.skip)))
  (.seq (.ops [⟨none, .ld 43 (.t 1) 13 true⟩,
    ⟨none, .ca (some 44) 70 [(.t 43)]⟩,
    ⟨none, .mv 2 (.t 44)⟩])
  (.ret)))))
theorem comp47 : compFn Try.prog [1] Try.f47 = some ([.t 2], c47) := by kernel_rfl
/-- (*topiary/oplog.Log).known: 2 parameters, 36 slots. -/
def c48 : C :=
  .seq (.ops [⟨none, .bxL 3 (.t 1)⟩,
    ⟨none, .mv 4 (.c (.int .i64 0))⟩])
  (.seq (.seq (.ops [⟨none, .mv 8 (.t 0)⟩,
    ⟨none, .fa 9 (.t 3) 0⟩,
    ⟨none, .ld 10 (.t 9) 2 true⟩,
    ⟨none, .ca (some 11) 50 [(.t 8), (.t 10)]⟩,
    ⟨none, .mv 7 (.t 11)⟩,
    ⟨none, .ex 12 (.t 7) 0⟩,
    ⟨none, .ex 13 (.t 7) 1⟩,
    ⟨none, .mv 5 (.t 12)⟩,
    ⟨none, .mv 6 (.t 13)⟩])
  (.seq (.ops [⟨none, .mv 14 (.t 6)⟩])
  (.cond (.t 14) (.seq (.seq (.opsD [⟨none, .mv 15 (.t 0)⟩,
      ⟨none, .nc 16 (.t 15)⟩,
      ⟨none, .fa 17 (.t 16) 1⟩,
      ⟨none, .ld 18 (.t 17) 1 false⟩,
      ⟨none, .mv 19 (.t 5)⟩,
      ⟨none, .ia 20 (.t 18) (.t 19) 13⟩,
      ⟨none, .ld 21 (.t 20) 13 true⟩,
      ⟨none, .ld 22 (.t 3) 13 true⟩,
      ⟨none, .ca (some 23) 71 [(.t 21), (.t 22)]⟩])
    (.cond (.t 23) (.seq (.ops [⟨none, .mv 4 (.c (.int .i64 5))⟩])
      (.ret))
      (.skip)))
    (.seq (.ops [⟨none, .mv 4 (.c (.int .i64 7))⟩])
    (.ret)))
    (.skip))))
  (.seq (.seq (.opsD [⟨none, .fa 24 (.t 3) 2⟩,
    ⟨none, .ld 25 (.t 24) 1 false⟩,
    ⟨none, .mv 26 (.t 0)⟩,
    ⟨none, .fa 27 (.t 3) 0⟩,
    ⟨none, .fa 28 (.t 27) 1⟩,
    ⟨none, .ld 29 (.t 28) 1 false⟩,
    ⟨none, .nc 30 (.t 26)⟩,
    ⟨none, .fa 31 (.t 30) 3⟩,
    ⟨none, .iA 32 (.t 31) (.t 29) 1 64⟩,
    ⟨none, .ld 33 (.t 32) 1 false⟩,
    ⟨none, .ln 34 .sl (.t 33)⟩,
    ⟨none, .bi 35 .leq (.t 25) (.t 34)⟩])
  (.cond (.t 35) (.seq (.ops [⟨none, .mv 4 (.c (.int .i64 7))⟩])
    (.ret))
    (.skip)))
  (.seq (.ops [⟨none, .mv 4 (.c (.int .i64 0))⟩])
  (.ret))))
theorem comp48 : compFn Try.prog [3] Try.f48 = some ([.t 4], c48) := by kernel_rfl
/-- (*topiary/oplog.Log).ready: 2 parameters, 95 slots. -/
def c49 : C :=
  .seq (.ops [⟨none, .bxH 2 (.t 0)⟩,
    ⟨none, .bxH 3 (.t 1)⟩,
    ⟨none, .alH 4 [.int .i64 0]⟩])
  (.seq (.seq (.opsD [⟨none, .fa 12 (.t 3) 2⟩,
    ⟨none, .ld 13 (.t 12) 1 false⟩,
    ⟨none, .ld 14 (.t 2) 1 false⟩,
    ⟨none, .fa 15 (.t 3) 0⟩,
    ⟨none, .fa 16 (.t 15) 1⟩,
    ⟨none, .ld 17 (.t 16) 1 false⟩,
    ⟨none, .nc 18 (.t 14)⟩,
    ⟨none, .fa 19 (.t 18) 3⟩,
    ⟨none, .iA 20 (.t 19) (.t 17) 1 64⟩,
    ⟨none, .ld 21 (.t 20) 1 false⟩,
    ⟨none, .ln 22 .sl (.t 21)⟩,
    ⟨none, .bi 23 .add (.t 22) (.c (.int .i64 1))⟩,
    ⟨none, .bi 24 .neq (.t 13) (.t 23)⟩])
  (.cond (.t 24) (.seq (.ops [⟨none, .st (.t 4) (.c (.int .i64 4)) 1⟩])
    (.ret))
    (.skip)))
  (.seq (.seq (.ops [⟨none, .fa 25 (.t 3) 3⟩,
    ⟨none, .ld 26 (.t 25) 1 false⟩,
    ⟨none, .ln 27 .sl (.t 26)⟩,
    ⟨none, .mv 28 (.c (.int .i64 0))⟩])
  (.block 0 (.loop (.seq (.ops [⟨none, .bi 29 .lss (.t 28) (.t 27)⟩])
  (.seq (.cond (.t 29) (.skip)
    (.exit 0))
  (.seq (.block 1 (.seq (.ops [⟨none, .mv 30 (.t 28)⟩,
    ⟨none, .ia 31 (.t 26) (.t 28) 1⟩,
    ⟨none, .ld 32 (.t 31) 1 false⟩,
    ⟨none, .mv 5 (.t 30)⟩,
    ⟨none, .mv 6 (.t 32)⟩])
  (.seq (.ops [⟨none, .mv 33 (.t 6)⟩,
    ⟨none, .ld 34 (.t 2) 1 false⟩,
    ⟨none, .mv 35 (.t 5)⟩,
    ⟨none, .nc 36 (.t 34)⟩,
    ⟨none, .fa 37 (.t 36) 3⟩,
    ⟨none, .iA 38 (.t 37) (.t 35) 1 64⟩,
    ⟨none, .ld 39 (.t 38) 1 false⟩,
    ⟨none, .ln 40 .sl (.t 39)⟩,
    ⟨none, .bi 41 .gtr (.t 33) (.t 40)⟩])
  (.cond (.t 41) (.seq (.ops [⟨none, .st (.t 4) (.c (.int .i64 4)) 1⟩])
    (.ret))
    (.skip)))))
  (.ops [⟨none, .bi 42 .add (.t 28) (.c (.int .i64 1))⟩,
    ⟨none, .mv 28 (.t 42)⟩])))))))
  (.seq (.seq (.ops [⟨none, .fa 43 (.t 3) 3⟩,
    ⟨none, .ld 44 (.t 43) 1 false⟩,
    ⟨none, .ln 45 .sl (.t 44)⟩,
    ⟨none, .mv 46 (.c (.int .i64 0))⟩])
  (.block 2 (.loop (.seq (.ops [⟨none, .bi 47 .lss (.t 46) (.t 45)⟩])
  (.seq (.cond (.t 47) (.skip)
    (.exit 2))
  (.seq (.block 3 (.seq (.ops [⟨none, .mv 48 (.t 46)⟩,
    ⟨none, .ia 49 (.t 44) (.t 46) 1⟩,
    ⟨none, .ld 50 (.t 49) 1 false⟩,
    ⟨none, .mv 7 (.t 48)⟩,
    ⟨none, .mv 8 (.t 50)⟩])
  (.seq (.opsD [⟨none, .mv 51 (.t 8)⟩,
    ⟨none, .bi 52 .gtr (.t 51) (.c (.int .i64 0))⟩,
    ⟨none, .mv 53 (.t 52)⟩,
    ⟨some (53, true), .ld 54 (.t 2) 1 false⟩,
    ⟨some (53, true), .mv 55 (.t 7)⟩,
    ⟨some (53, true), .nc 56 (.t 54)⟩,
    ⟨some (53, true), .fa 57 (.t 56) 3⟩,
    ⟨some (53, true), .iA 58 (.t 57) (.t 55) 1 64⟩,
    ⟨some (53, true), .ld 59 (.t 58) 1 false⟩,
    ⟨some (53, true), .mv 60 (.t 8)⟩,
    ⟨some (53, true), .bi 61 .sub (.t 60) (.c (.int .i64 1))⟩,
    ⟨some (53, true), .ia 62 (.t 59) (.t 61) 2⟩,
    ⟨some (53, true), .ld 63 (.t 62) 2 true⟩,
    ⟨some (53, true), .fa 64 (.t 3) 0⟩,
    ⟨some (53, true), .ld 65 (.t 64) 2 true⟩,
    ⟨some (53, true), .ca (some 66) 72 [(.t 63), (.t 65)]⟩,
    ⟨some (53, true), .un 67 .not (.t 66)⟩,
    ⟨none, .pk 68 (.t 53) (.t 67) (.c (.bool false))⟩])
  (.cond (.t 68) (.seq (.ops [⟨none, .st (.t 4) (.c (.int .i64 2)) 1⟩])
    (.ret))
    (.skip)))))
  (.ops [⟨none, .bi 69 .add (.t 46) (.c (.int .i64 1))⟩,
    ⟨none, .mv 46 (.t 69)⟩])))))))
  (.seq (.seq (.ops [⟨none, .ld 70 (.t 3) 13 true⟩,
    ⟨none, .ca (some 71) 74 [(.t 70)]⟩,
    ⟨none, .ca (some 72) 73 [(.t 71)]⟩])
  (.block 4 (.range (.t 72) [73] (.ops [⟨none, .alL 9 [.int .i64 0, .int .i64 0]⟩,
    ⟨none, .st (.t 9) (.t 73) 2⟩])
  (.block 5 (.seq (.opsD [⟨none, .ld 75 (.t 2) 1 false⟩,
    ⟨none, .nc 76 (.t 75)⟩,
    ⟨none, .fa 77 (.t 76) 2⟩,
    ⟨none, .ld 78 (.t 77) 1 false⟩,
    ⟨none, .ld 79 (.t 9) 2 true⟩,
    ⟨none, .lk 80 [.agg, .int .i64, .int .i64] (.t 78) (.t 79) true (.agg [.int .i64 0])⟩,
    ⟨none, .mv 74 (.t 80)⟩,
    ⟨none, .ex 81 (.t 74) 0⟩,
    ⟨none, .ex 82 (.t 74) 1⟩,
    ⟨none, .alH 10 [.int .i64 0]⟩,
    ⟨none, .st (.t 10) (.t 81) 1⟩,
    ⟨none, .mv 11 (.t 82)⟩])
  (.seq (.opsD [⟨none, .mv 83 (.t 11)⟩,
    ⟨none, .un 84 .not (.t 83)⟩,
    ⟨none, .mv 85 (.t 84)⟩,
    ⟨some (85, false), .fa 86 (.t 10) 0⟩,
    ⟨some (85, false), .ld 87 (.t 86) 1 false⟩,
    ⟨some (85, false), .fa 88 (.t 3) 3⟩,
    ⟨some (85, false), .ld 89 (.t 88) 1 false⟩,
    ⟨some (85, false), .fa 90 (.t 9) 1⟩,
    ⟨some (85, false), .ld 91 (.t 90) 1 false⟩,
    ⟨some (85, false), .ca (some 92) 44 [(.t 89), (.t 91)]⟩,
    ⟨some (85, false), .bi 93 .gtr (.t 87) (.t 92)⟩,
    ⟨none, .pk 94 (.t 85) (.c (.bool true)) (.t 93)⟩])
  (.cond (.t 94) (.seq (.ops [⟨none, .st (.t 4) (.c (.int .i64 2)) 1⟩])
    (.ret))
    (.skip))))))))
  (.seq (.ops [⟨none, .st (.t 4) (.c (.int .i64 0)) 1⟩])
  (.ret))))))
theorem comp49 : compFn Try.prog [9] Try.f49 = some ([.c 4 1 false], c49) := by kernel_rfl
/-- (*topiary/oplog.Log).place: 2 parameters, 14 slots. -/
def c50 : C :=
  .seq (.ops [⟨none, .bxL 3 (.t 1)⟩,
    ⟨none, .mv 4 (.c (.int .i64 0))⟩,
    ⟨none, .mv 5 (.c (.bool false))⟩])
  (.seq (.opsD [⟨none, .mv 6 (.t 0)⟩,
    ⟨none, .nc 7 (.t 6)⟩,
    ⟨none, .fa 8 (.t 7) 1⟩,
    ⟨none, .ld 9 (.t 8) 1 false⟩,
    ⟨none, .ld 10 (.t 3) 2 true⟩,
    ⟨none, .ca (some 11) 75 [(.t 9), (.t 10), (.c (.fn 76 []))]⟩,
    ⟨none, .ex 12 (.t 11) 0⟩,
    ⟨none, .ex 13 (.t 11) 1⟩,
    ⟨none, .mv 4 (.t 12)⟩,
    ⟨none, .mv 5 (.t 13)⟩])
  (.ret))
theorem comp50 : compFn Try.prog [3] Try.f50 = some ([.t 4, .t 5], c50) := by kernel_rfl
end Go.VL.opl

namespace Go.VL.opl
open Go Go.VL Go.Proofs
/-- topiary/topiaryref07.Within: 2 parameters, 13 slots. -/
def c52 : C :=
  .seq (.ops [⟨none, .bxL 2 (.t 0)⟩,
    ⟨none, .mv 4 (.c (.bool false))⟩])
  (.seq (.opsD [⟨none, .fa 5 (.t 2) 2⟩,
    ⟨none, .ld 6 (.t 5) 1 false⟩,
    ⟨none, .mv 7 (.t 1)⟩,
    ⟨none, .fa 8 (.t 2) 0⟩,
    ⟨none, .fa 9 (.t 8) 1⟩,
    ⟨none, .ld 10 (.t 9) 1 false⟩,
    ⟨none, .ca (some 11) 29 [(.t 7), (.t 10)]⟩,
    ⟨none, .bi 12 .leq (.t 6) (.t 11)⟩,
    ⟨none, .mv 4 (.t 12)⟩])
  (.ret))
theorem comp52 : compFn Try.prog [2] Try.f52 = some ([.t 4], c52) := by kernel_rfl
/-- (*topiary/oplog.Log).Len: 1 parameters, 10 slots. -/
def c53 : C :=
  .seq (.ops [⟨none, .mv 2 (.c (.int .i64 0))⟩])
  (.seq (.seq (.ops [⟨none, .mv 3 (.t 0)⟩,
    ⟨none, .bq 4 false .ptr (.t 3) (.c (.ptr none))⟩])
  (.cond (.t 4) (.seq (.ops [⟨none, .mv 2 (.c (.int .i64 0))⟩])
    (.ret))
    (.skip)))
  (.seq (.ops [⟨none, .mv 5 (.t 0)⟩,
    ⟨none, .nc 6 (.t 5)⟩,
    ⟨none, .fa 7 (.t 6) 1⟩,
    ⟨none, .ld 8 (.t 7) 1 false⟩,
    ⟨none, .ln 9 .sl (.t 8)⟩,
    ⟨none, .mv 2 (.t 9)⟩])
  (.ret)))
theorem comp53 : compFn Try.prog [] Try.f53 = some ([.t 2], c53) := by kernel_rfl
/-- (*topiary/oplog.Log).Last: 1 parameters, 20 slots. -/
def c54 : C :=
  .seq (.ops [⟨none, .mv 2 (.c (.int .i64 0))⟩])
  (.seq (.seq (.ops [⟨none, .mv 3 (.t 0)⟩,
    ⟨none, .ca (some 4) 53 [(.t 3)]⟩,
    ⟨none, .bi 5 .eql (.t 4) (.c (.int .i64 0))⟩])
  (.cond (.t 5) (.seq (.ops [⟨none, .mv 2 (.c (.int .i64 0))⟩])
    (.ret))
    (.skip)))
  (.seq (.opsD [⟨none, .mv 6 (.t 0)⟩,
    ⟨none, .nc 7 (.t 6)⟩,
    ⟨none, .fa 8 (.t 7) 1⟩,
    ⟨none, .ld 9 (.t 8) 1 false⟩,
    ⟨none, .mv 10 (.t 0)⟩,
    ⟨none, .nc 11 (.t 10)⟩,
    ⟨none, .fa 12 (.t 11) 1⟩,
    ⟨none, .ld 13 (.t 12) 1 false⟩,
    ⟨none, .ln 14 .sl (.t 13)⟩,
    ⟨none, .bi 15 .sub (.t 14) (.c (.int .i64 1))⟩,
    ⟨none, .ia 16 (.t 9) (.t 15) 13⟩,
    ⟨none, .fa 17 (.t 16) 0⟩,
    ⟨none, .fa 18 (.t 17) 0⟩,
    ⟨none, .ld 19 (.t 18) 1 false⟩,
    ⟨none, .mv 2 (.t 19)⟩])
  (.ret)))
theorem comp54 : compFn Try.prog [] Try.f54 = some ([.t 2], c54) := by kernel_rfl
/-- slices.Collect[topiary/api.Change]: 1 parameters, 5 slots. -/
def c55 : C :=
  .seq (.ops [⟨none, .mv 2 (.c (.sl true .pub 13 []))⟩])
  (.seq (.ops [⟨none, .mv 3 (.t 0)⟩,
    ⟨none, .ca (some 4) 80 [(.c (.sl true .pub 0 [])), (.t 3)]⟩,
    ⟨none, .mv 2 (.t 4)⟩])
  (.ret))
theorem comp55 : compFn Try.prog [] Try.f55 = some ([.t 2], c55) := by kernel_rfl
/-- topiary/topiaryref02.Trim: 1 parameters, 35 slots. -/
def c56 : C :=
  .seq (.ops [⟨none, .mv 2 (.c (.sl true .pub 1 []))⟩])
  (.seq (.ops [⟨none, .lit 6 1 []⟩,
    ⟨none, .mv 3 (.t 6)⟩])
  (.seq (.ops [⟨none, .mv 4 (.c (.int .i64 0))⟩])
  (.seq (.seq (.ops [⟨none, .mv 5 (.c (.int .i64 0))⟩])
  (.block 0 (.loop (.seq (.seq (.ops [⟨none, .mv 7 (.t 5)⟩,
    ⟨none, .mv 8 (.t 0)⟩,
    ⟨none, .ln 9 .sl (.t 8)⟩,
    ⟨none, .bi 10 .lss (.t 7) (.t 9)⟩])
  (.cond (.t 10) (.skip)
    (.exit 0)))
  (.cut (.block 1 (.seq (.seq (.ops [⟨none, .mv 13 (.t 0)⟩,
    ⟨none, .mv 14 (.t 5)⟩,
    ⟨none, .ia 15 (.t 13) (.t 14) 1⟩,
    ⟨none, .ld 16 (.t 15) 1 false⟩,
    ⟨none, .bi 17 .eql (.t 16) (.c (.int .i64 0))⟩])
  (.cond (.t 17) (.seq (.ops [⟨none, .mv 18 (.t 4)⟩,
      ⟨none, .bi 19 .add (.t 18) (.c (.int .i64 1))⟩,
      ⟨none, .mv 4 (.t 19)⟩])
    (.exit 1))
    (.skip)))
  (.seq (.block 2 (.loop (.seq (.seq (.ops [⟨none, .mv 20 (.t 4)⟩,
    ⟨none, .bi 21 .gtr (.t 20) (.c (.int .i64 0))⟩])
  (.cond (.t 21) (.skip)
    (.exit 2)))
  (.block 3 (.seq (.ops [⟨none, .mv 22 (.t 3)⟩,
    ⟨none, .lit 23 1 [(.c (.int .i64 0))]⟩,
    ⟨none, .ap 24 1 (.t 22) (.t 23)⟩,
    ⟨none, .mv 3 (.t 24)⟩])
  (.ops [⟨none, .mv 25 (.t 4)⟩,
    ⟨none, .bi 26 .sub (.t 25) (.c (.int .i64 1))⟩,
    ⟨none, .mv 4 (.t 26)⟩]))))))
  (.ops [⟨none, .mv 27 (.t 3)⟩,
    ⟨none, .mv 28 (.t 0)⟩,
    ⟨none, .mv 29 (.t 5)⟩,
    ⟨none, .ia 30 (.t 28) (.t 29) 1⟩,
    ⟨none, .ld 31 (.t 30) 1 false⟩,
    ⟨none, .lit 32 1 [(.t 31)]⟩,
    ⟨none, .ap 33 1 (.t 27) (.t 32)⟩,
    ⟨none, .mv 3 (.t 33)⟩]))))
  (.ops [⟨none, .mv 11 (.t 5)⟩,
    ⟨none, .bi 12 .add (.t 11) (.c (.int .i64 1))⟩,
    ⟨none, .mv 5 (.t 12)⟩]))))))
  (.seq (.ops [⟨none, .mv 34 (.t 3)⟩,
    ⟨none, .mv 2 (.t 34)⟩])
  (.ret)))))
theorem comp56 : compFn Try.prog [] Try.f56 = some ([.t 2], c56) := by kernel_rfl
/-- topiary/topiaryref01.Right: 1 parameters, 21 slots. -/
def c57 : C :=
  .seq (.ops [⟨none, .bxL 1 (.t 0)⟩,
    ⟨none, .mv 2 (.c (.bool false))⟩])
  (.seq (.ops [⟨none, .fa 3 (.t 1) 0⟩,
    ⟨none, .ld 4 (.t 3) 1 false⟩,
    ⟨none, .bi 5 .geq (.t 4) (.c (.int .i64 1))⟩,
    ⟨none, .mv 6 (.t 5)⟩,
    ⟨some (6, true), .fa 7 (.t 1) 0⟩,
    ⟨some (6, true), .ld 8 (.t 7) 1 false⟩,
    ⟨some (6, true), .bi 9 .leq (.t 8) (.c (.int .i64 1099511627776))⟩,
    ⟨none, .pk 10 (.t 6) (.t 9) (.c (.bool false))⟩,
    ⟨none, .mv 11 (.t 10)⟩,
    ⟨some (11, true), .fa 12 (.t 1) 1⟩,
    ⟨some (11, true), .ld 13 (.t 12) 1 false⟩,
    ⟨some (11, true), .bi 14 .geq (.t 13) (.c (.int .i64 0))⟩,
    ⟨none, .pk 15 (.t 11) (.t 14) (.c (.bool false))⟩,
    ⟨none, .mv 16 (.t 15)⟩,
    ⟨some (16, true), .fa 17 (.t 1) 1⟩,
    ⟨some (16, true), .ld 18 (.t 17) 1 false⟩,
    ⟨some (16, true), .bi 19 .lss (.t 18) (.c (.int .i64 64))⟩,
    ⟨none, .pk 20 (.t 16) (.t 19) (.c (.bool false))⟩,
    ⟨none, .mv 2 (.t 20)⟩])
  (.ret))
theorem comp57 : compFn Try.prog [1] Try.f57 = some ([.t 2], c57) := by kernel_rfl
/-- topiary/topiaryref01.Put: 2 parameters, 47 slots. -/
def c58 : C :=
  .seq (.ops [⟨none, .bxL 3 (.t 1)⟩,
    ⟨none, .mv 4 (.c (.sl true .pub 2 []))⟩])
  (.seq (.seq (.ops [⟨none, .mv 8 (.t 0)⟩,
    ⟨none, .ld 9 (.t 3) 2 true⟩,
    ⟨none, .ca (some 10) 81 [(.t 8), (.t 9)]⟩])
  (.cond (.t 10) (.seq (.ops [⟨none, .mv 11 (.t 0)⟩,
      ⟨none, .mv 4 (.t 11)⟩])
    (.ret))
    (.skip)))
  (.seq (.ops [⟨none, .lit 12 2 []⟩,
    ⟨none, .mv 5 (.t 12)⟩])
  (.seq (.ops [⟨none, .mv 6 (.c (.bool false))⟩])
  (.seq (.seq (.ops [⟨none, .mv 7 (.c (.int .i64 0))⟩])
  (.block 0 (.loop (.seq (.seq (.ops [⟨none, .mv 13 (.t 7)⟩,
    ⟨none, .mv 14 (.t 0)⟩,
    ⟨none, .ln 15 .sl (.t 14)⟩,
    ⟨none, .bi 16 .lss (.t 13) (.t 15)⟩])
  (.cond (.t 16) (.skip)
    (.exit 0)))
  (.seq (.block 1 (.cut (.seq (.opsD [⟨none, .mv 19 (.t 6)⟩,
    ⟨none, .un 20 .not (.t 19)⟩,
    ⟨none, .mv 21 (.t 20)⟩,
    ⟨some (21, true), .ld 22 (.t 3) 2 true⟩,
    ⟨some (21, true), .mv 23 (.t 0)⟩,
    ⟨some (21, true), .mv 24 (.t 7)⟩,
    ⟨some (21, true), .ia 25 (.t 23) (.t 24) 2⟩,
    ⟨some (21, true), .ld 26 (.t 25) 2 true⟩,
    ⟨some (21, true), .ca (some 27) 26 [(.t 22), (.t 26)]⟩,
    ⟨none, .pk 28 (.t 21) (.t 27) (.c (.bool false))⟩])
  (.cond (.t 28) (.seq (.ops [⟨none, .mv 29 (.t 5)⟩,
      ⟨none, .ld 30 (.t 3) 2 true⟩,
      ⟨none, .lit 31 2 [(.t 30)]⟩,
      ⟨none, .ap 32 2 (.t 29) (.t 31)⟩,
      ⟨none, .mv 5 (.t 32)⟩])
    (.ops [⟨none, .mv 6 (.c (.bool true))⟩]))
    (.skip)))
  (.ops [⟨none, .mv 33 (.t 5)⟩,
    ⟨none, .mv 34 (.t 0)⟩,
    ⟨none, .mv 35 (.t 7)⟩,
    ⟨none, .ia 36 (.t 34) (.t 35) 2⟩,
    ⟨none, .ld 37 (.t 36) 2 true⟩,
    ⟨none, .lit 38 2 [(.t 37)]⟩,
    ⟨none, .ap 39 2 (.t 33) (.t 38)⟩,
    ⟨none, .mv 5 (.t 39)⟩])))
  (.ops [⟨none, .mv 17 (.t 7)⟩,
    ⟨none, .bi 18 .add (.t 17) (.c (.int .i64 1))⟩,
    ⟨none, .mv 7 (.t 18)⟩]))))))
  (.cut (.seq (.ops [⟨none, .mv 40 (.t 6)⟩,
    ⟨none, .un 41 .not (.t 40)⟩])
  (.cond (.t 41) (.ops [⟨none, .mv 42 (.t 5)⟩,
      ⟨none, .ld 43 (.t 3) 2 true⟩,
      ⟨none, .lit 44 2 [(.t 43)]⟩,
      ⟨none, .ap 45 2 (.t 42) (.t 44)⟩,
      ⟨none, .mv 5 (.t 45)⟩])
    (.skip)))
  (.seq (.ops [⟨none, .mv 46 (.t 5)⟩,
    ⟨none, .mv 4 (.t 46)⟩])
  (.ret)))))))
theorem comp58 : compFn Try.prog [3] Try.f58 = some ([.t 4], c58) := by kernel_rfl
/-- topiary/topiaryref07.Put: 2 parameters, 47 slots. -/
def c59 : C :=
  .seq (.ops [⟨none, .bxL 3 (.t 1)⟩,
    ⟨none, .mv 4 (.c (.sl true .pub 13 []))⟩])
  (.seq (.ops [⟨none, .lit 8 13 []⟩,
    ⟨none, .mv 5 (.t 8)⟩])
  (.seq (.ops [⟨none, .mv 6 (.c (.bool false))⟩])
  (.seq (.seq (.ops [⟨none, .mv 7 (.c (.int .i64 0))⟩])
  (.block 0 (.loop (.seq (.seq (.ops [⟨none, .mv 9 (.t 7)⟩,
    ⟨none, .mv 10 (.t 0)⟩,
    ⟨none, .ln 11 .sl (.t 10)⟩,
    ⟨none, .bi 12 .lss (.t 9) (.t 11)⟩])
  (.cond (.t 12) (.skip)
    (.exit 0)))
  (.seq (.block 1 (.cut (.seq (.opsD [⟨none, .mv 15 (.t 6)⟩,
    ⟨none, .un 16 .not (.t 15)⟩,
    ⟨none, .mv 17 (.t 16)⟩,
    ⟨some (17, true), .fa 18 (.t 3) 0⟩,
    ⟨some (17, true), .ld 19 (.t 18) 2 true⟩,
    ⟨some (17, true), .mv 20 (.t 0)⟩,
    ⟨some (17, true), .mv 21 (.t 7)⟩,
    ⟨some (17, true), .ia 22 (.t 20) (.t 21) 13⟩,
    ⟨some (17, true), .fa 23 (.t 22) 0⟩,
    ⟨some (17, true), .ld 24 (.t 23) 2 true⟩,
    ⟨some (17, true), .ca (some 25) 26 [(.t 19), (.t 24)]⟩,
    ⟨none, .pk 26 (.t 17) (.t 25) (.c (.bool false))⟩])
  (.cond (.t 26) (.seq (.ops [⟨none, .mv 27 (.t 5)⟩,
      ⟨none, .ld 28 (.t 3) 13 true⟩,
      ⟨none, .ca (some 29) 34 [(.t 28)]⟩,
      ⟨none, .lit 30 13 [(.t 29)]⟩,
      ⟨none, .ap 31 13 (.t 27) (.t 30)⟩,
      ⟨none, .mv 5 (.t 31)⟩])
    (.ops [⟨none, .mv 6 (.c (.bool true))⟩]))
    (.skip)))
  (.ops [⟨none, .mv 32 (.t 5)⟩,
    ⟨none, .mv 33 (.t 0)⟩,
    ⟨none, .mv 34 (.t 7)⟩,
    ⟨none, .ia 35 (.t 33) (.t 34) 13⟩,
    ⟨none, .ld 36 (.t 35) 13 true⟩,
    ⟨none, .lit 37 13 [(.t 36)]⟩,
    ⟨none, .ap 38 13 (.t 32) (.t 37)⟩,
    ⟨none, .mv 5 (.t 38)⟩])))
  (.ops [⟨none, .mv 13 (.t 7)⟩,
    ⟨none, .bi 14 .add (.t 13) (.c (.int .i64 1))⟩,
    ⟨none, .mv 7 (.t 14)⟩]))))))
  (.cut (.seq (.ops [⟨none, .mv 39 (.t 6)⟩,
    ⟨none, .un 40 .not (.t 39)⟩])
  (.cond (.t 40) (.ops [⟨none, .mv 41 (.t 5)⟩,
      ⟨none, .ld 42 (.t 3) 13 true⟩,
      ⟨none, .ca (some 43) 34 [(.t 42)]⟩,
      ⟨none, .lit 44 13 [(.t 43)]⟩,
      ⟨none, .ap 45 13 (.t 41) (.t 44)⟩,
      ⟨none, .mv 5 (.t 45)⟩])
    (.skip)))
  (.seq (.ops [⟨none, .mv 46 (.t 5)⟩,
    ⟨none, .mv 4 (.t 46)⟩])
  (.ret))))))
theorem comp59 : compFn Try.prog [3] Try.f59 = some ([.t 4], c59) := by kernel_rfl
/-- (*topiary/oplog.Log).Room: 1 parameters, 9 slots. -/
def c60 : C :=
  .seq (.ops [⟨none, .mv 2 (.c (.int .i64 0))⟩])
  (.seq (.seq (.ops [⟨none, .mv 3 (.t 0)⟩,
    ⟨none, .bq 4 false .ptr (.t 3) (.c (.ptr none))⟩])
  (.cond (.t 4) (.seq (.ops [⟨none, .mv 2 (.c (.int .i64 0))⟩])
    (.ret))
    (.skip)))
  (.seq (.ops [⟨none, .mv 5 (.t 0)⟩,
    ⟨none, .nc 6 (.t 5)⟩,
    ⟨none, .fa 7 (.t 6) 0⟩,
    ⟨none, .ld 8 (.t 7) 1 false⟩,
    ⟨none, .mv 2 (.t 8)⟩])
  (.ret)))
theorem comp60 : compFn Try.prog [] Try.f60 = some ([.t 2], c60) := by kernel_rfl
/-- topiary/topiaryref07.Last: 1 parameters, 20 slots. -/
def c61 : C :=
  .seq (.ops [⟨none, .mv 2 (.c (.int .i64 0))⟩])
  (.seq (.ops [⟨none, .mv 3 (.c (.int .i64 0))⟩])
  (.seq (.seq (.ops [⟨none, .mv 4 (.c (.int .i64 0))⟩])
  (.block 0 (.loop (.seq (.seq (.ops [⟨none, .mv 5 (.t 4)⟩,
    ⟨none, .mv 6 (.t 0)⟩,
    ⟨none, .ln 7 .sl (.t 6)⟩,
    ⟨none, .bi 8 .lss (.t 5) (.t 7)⟩])
  (.cond (.t 8) (.skip)
    (.exit 0)))
  (.seq (.block 1 (.ops [⟨none, .mv 11 (.t 3)⟩,
    ⟨none, .mv 12 (.t 0)⟩,
    ⟨none, .mv 13 (.t 4)⟩,
    ⟨none, .ia 14 (.t 12) (.t 13) 13⟩,
    ⟨none, .fa 15 (.t 14) 0⟩,
    ⟨none, .fa 16 (.t 15) 0⟩,
    ⟨none, .ld 17 (.t 16) 1 false⟩,
    ⟨none, .mx 18 (.t 11) (.t 17)⟩,
    ⟨none, .mv 3 (.t 18)⟩]))
  (.ops [⟨none, .mv 9 (.t 4)⟩,
    ⟨none, .bi 10 .add (.t 9) (.c (.int .i64 1))⟩,
    ⟨none, .mv 4 (.t 10)⟩]))))))
  (.seq (.ops [⟨none, .mv 19 (.t 3)⟩,
    ⟨none, .mv 2 (.t 19)⟩])
  (.ret))))
theorem comp61 : compFn Try.prog [] Try.f61 = some ([.t 2], c61) := by kernel_rfl
/-- topiary/clock.Trim: 1 parameters, 23 slots. -/
def c63 : C :=
  .seq (.ops [⟨none, .mv 2 (.c (.sl true .pub 1 []))⟩])
  (.seq (.ops [⟨none, .mv 4 (.t 0)⟩,
    ⟨none, .ln 5 .sl (.t 4)⟩,
    ⟨none, .mv 3 (.t 5)⟩])
  (.seq (.block 0 (.loop (.seq (.seq (.ops [⟨none, .mv 6 (.t 3)⟩,
    ⟨none, .bi 7 .gtr (.t 6) (.c (.int .i64 0))⟩,
    ⟨none, .mv 8 (.t 7)⟩,
    ⟨some (8, true), .mv 9 (.t 0)⟩,
    ⟨some (8, true), .mv 10 (.t 3)⟩,
    ⟨some (8, true), .bi 11 .sub (.t 10) (.c (.int .i64 1))⟩,
    ⟨some (8, true), .ia 12 (.t 9) (.t 11) 1⟩,
    ⟨some (8, true), .ld 13 (.t 12) 1 false⟩,
    ⟨some (8, true), .bi 14 .eql (.t 13) (.c (.int .i64 0))⟩,
    ⟨none, .pk 15 (.t 8) (.t 14) (.c (.bool false))⟩])
  (.cond (.t 15) (.skip)
    (.exit 0)))
  (.block 1 (.ops [⟨none, .mv 16 (.t 3)⟩,
    ⟨none, .bi 17 .sub (.t 16) (.c (.int .i64 1))⟩,
    ⟨none, .mv 3 (.t 17)⟩])))))
  (.seq (.ops [⟨none, .lit 18 1 []⟩,
    ⟨none, .mv 19 (.t 0)⟩,
    ⟨none, .mv 20 (.t 3)⟩,
    ⟨none, .sl 21 1 (.t 19) none (some (.t 20))⟩,
    ⟨none, .ap 22 1 (.t 18) (.t 21)⟩,
    ⟨none, .mv 2 (.t 22)⟩])
  (.ret))))
theorem comp63 : compFn Try.prog [] Try.f63 = some ([.t 2], c63) := by kernel_rfl
/-- topiary/topiaryref05.Check: 1 parameters, 105 slots. -/
def c64 : C :=
  .seq (.ops [⟨none, .bxL 1 (.t 0)⟩,
    ⟨none, .mv 2 (.c (.int .i64 0))⟩])
  (.seq (.seq (.ops [⟨none, .fa 4 (.t 1) 4⟩,
    ⟨none, .ld 5 (.t 4) 1 false⟩,
    ⟨none, .bi 6 .lss (.t 5) (.c (.int .i64 1))⟩,
    ⟨none, .mv 7 (.t 6)⟩,
    ⟨some (7, false), .fa 8 (.t 1) 4⟩,
    ⟨some (7, false), .ld 9 (.t 8) 1 false⟩,
    ⟨some (7, false), .bi 10 .gtr (.t 9) (.c (.int .i64 5))⟩,
    ⟨none, .pk 11 (.t 7) (.c (.bool true)) (.t 10)⟩])
  (.cond (.t 11) (.seq (.ops [⟨none, .mv 2 (.c (.int .i64 1))⟩])
    (.ret))
    (.skip)))
  (.seq (.seq (.ops [⟨none, .fa 12 (.t 1) 0⟩,
    ⟨none, .ld 13 (.t 12) 2 true⟩,
    ⟨none, .ca (some 14) 57 [(.t 13)]⟩,
    ⟨none, .un 15 .not (.t 14)⟩])
  (.cond (.t 15) (.seq (.ops [⟨none, .mv 2 (.c (.int .i64 2))⟩])
    (.ret))
    (.skip)))
  (.seq (.seq (.ops [⟨none, .fa 16 (.t 1) 2⟩,
    ⟨none, .ld 17 (.t 16) 1 false⟩,
    ⟨none, .bi 18 .lss (.t 17) (.c (.int .i64 1))⟩,
    ⟨none, .mv 19 (.t 18)⟩,
    ⟨some (19, false), .fa 20 (.t 1) 2⟩,
    ⟨some (19, false), .ld 21 (.t 20) 1 false⟩,
    ⟨some (19, false), .fa 22 (.t 1) 0⟩,
    ⟨some (19, false), .fa 23 (.t 22) 0⟩,
    ⟨some (19, false), .ld 24 (.t 23) 1 false⟩,
    ⟨some (19, false), .bi 25 .gtr (.t 21) (.t 24)⟩,
    ⟨none, .pk 26 (.t 19) (.c (.bool true)) (.t 25)⟩])
  (.cond (.t 26) (.seq (.ops [⟨none, .mv 2 (.c (.int .i64 1))⟩])
    (.ret))
    (.skip)))
  (.seq (.seq (.ops [⟨none, .fa 27 (.t 1) 3⟩,
    ⟨none, .ld 28 (.t 27) 1 false⟩,
    ⟨none, .ca (some 29) 16 [(.t 28)]⟩,
    ⟨none, .bi 30 .neq (.t 29) (.c (.int .i64 0))⟩])
  (.cond (.t 30) (.seq (.ops [⟨none, .fa 31 (.t 1) 3⟩,
      ⟨none, .ld 32 (.t 31) 1 false⟩,
      ⟨none, .ca (some 33) 16 [(.t 32)]⟩,
      ⟨none, .mv 2 (.t 33)⟩])
    (.ret))
    (.skip)))
  (.seq (.seq (.opsD [⟨none, .fa 34 (.t 1) 3⟩,
    ⟨none, .ld 35 (.t 34) 1 false⟩,
    ⟨none, .fa 38 (.t 1) 3⟩,
    ⟨none, .ld 39 (.t 38) 1 false⟩,
    ⟨none, .ln 40 .sl (.t 39)⟩,
    ⟨none, .ca (some 36) 56 [(.t 35)]⟩,
    ⟨none, .ln 37 .sl (.t 36)⟩,
    ⟨none, .bi 41 .neq (.t 37) (.t 40)⟩,
    ⟨none, .mv 42 (.t 41)⟩,
    ⟨some (42, false), .fa 43 (.t 1) 3⟩,
    ⟨some (42, false), .ld 44 (.t 43) 1 false⟩,
    ⟨some (42, false), .fa 45 (.t 1) 0⟩,
    ⟨some (42, false), .fa 46 (.t 45) 1⟩,
    ⟨some (42, false), .ld 47 (.t 46) 1 false⟩,
    ⟨some (42, false), .fa 49 (.t 1) 2⟩,
    ⟨some (42, false), .ld 50 (.t 49) 1 false⟩,
    ⟨some (42, false), .bi 51 .sub (.t 50) (.c (.int .i64 1))⟩,
    ⟨some (42, false), .ca (some 48) 29 [(.t 44), (.t 47)]⟩,
    ⟨some (42, false), .bi 52 .neq (.t 48) (.t 51)⟩,
    ⟨none, .pk 53 (.t 42) (.c (.bool true)) (.t 52)⟩,
    ⟨none, .mv 54 (.t 53)⟩,
    ⟨some (54, false), .ld 55 (.t 1) 13 true⟩,
    ⟨some (54, false), .ca (some 56) 82 [(.t 55)]⟩,
    ⟨some (54, false), .un 57 .not (.t 56)⟩,
    ⟨none, .pk 58 (.t 54) (.c (.bool true)) (.t 57)⟩])
  (.cond (.t 58) (.seq (.ops [⟨none, .mv 2 (.c (.int .i64 2))⟩])
    (.ret))
    (.skip)))
  (.seq (.ops [⟨none, .fa 59 (.t 1) 4⟩,
    ⟨none, .ld 60 (.t 59) 1 false⟩,
    ⟨none, .bi 61 .eql (.t 60) (.c (.int .i64 1))⟩,
    ⟨none, .mv 62 (.t 61)⟩,
    ⟨some (62, false), .fa 63 (.t 1) 4⟩,
    ⟨some (62, false), .ld 64 (.t 63) 1 false⟩,
    ⟨some (62, false), .bi 65 .eql (.t 64) (.c (.int .i64 3))⟩,
    ⟨none, .pk 66 (.t 62) (.c (.bool true)) (.t 65)⟩,
    ⟨none, .mv 67 (.t 66)⟩,
    ⟨some (67, false), .fa 68 (.t 1) 4⟩,
    ⟨some (67, false), .ld 69 (.t 68) 1 false⟩,
    ⟨some (67, false), .bi 70 .eql (.t 69) (.c (.int .i64 4))⟩,
    ⟨none, .pk 71 (.t 67) (.c (.bool true)) (.t 70)⟩,
    ⟨none, .mv 3 (.t 71)⟩])
  (.seq (.seq (.ops [⟨none, .mv 72 (.t 3)⟩,
    ⟨none, .mv 73 (.t 72)⟩,
    ⟨some (73, true), .fa 74 (.t 1) 11⟩,
    ⟨some (73, true), .ld 75 (.t 74) 1 false⟩,
    ⟨some (73, true), .ca (some 76) 83 [(.t 75)]⟩,
    ⟨some (73, true), .un 77 .not (.t 76)⟩,
    ⟨none, .pk 78 (.t 73) (.t 77) (.c (.bool false))⟩,
    ⟨none, .mv 79 (.t 78)⟩,
    ⟨some (79, false), .mv 80 (.t 3)⟩,
    ⟨some (79, false), .un 81 .not (.t 80)⟩,
    ⟨some (79, false), .mv 82 (.t 81)⟩,
    ⟨some (82, true), .fa 83 (.t 1) 11⟩,
    ⟨some (82, true), .ld 84 (.t 83) 1 false⟩,
    ⟨some (82, true), .bi 85 .neq (.t 84) (.c (.str []))⟩,
    ⟨some (79, false), .pk 86 (.t 82) (.t 85) (.c (.bool false))⟩,
    ⟨none, .pk 87 (.t 79) (.c (.bool true)) (.t 86)⟩])
  (.cond (.t 87) (.seq (.ops [⟨none, .mv 2 (.c (.int .i64 8))⟩])
    (.ret))
    (.skip)))
  (.seq (.seq (.ops [⟨none, .fa 88 (.t 1) 12⟩,
    ⟨none, .ld 89 (.t 88) 1 false⟩,
    ⟨none, .ln 90 .fn (.t 89)⟩,
    ⟨none, .bi 91 .gtr (.t 90) (.c (.int .i64 256))⟩])
  (.cond (.t 91) (.seq (.ops [⟨none, .mv 2 (.c (.int .i64 3))⟩])
    (.ret))
    (.skip)))
  (.seq (.seq (.ops [⟨none, .fa 92 (.t 1) 4⟩,
    ⟨none, .ld 93 (.t 92) 1 false⟩,
    ⟨none, .bi 94 .neq (.t 93) (.c (.int .i64 3))⟩,
    ⟨none, .mv 95 (.t 94)⟩,
    ⟨some (95, true), .fa 96 (.t 1) 4⟩,
    ⟨some (95, true), .ld 97 (.t 96) 1 false⟩,
    ⟨some (95, true), .bi 98 .neq (.t 97) (.c (.int .i64 5))⟩,
    ⟨none, .pk 99 (.t 95) (.t 98) (.c (.bool false))⟩,
    ⟨none, .mv 100 (.t 99)⟩,
    ⟨some (100, true), .fa 101 (.t 1) 12⟩,
    ⟨some (100, true), .ld 102 (.t 101) 1 false⟩,
    ⟨some (100, true), .bi 103 .neq (.t 102) (.c (.str []))⟩,
    ⟨none, .pk 104 (.t 100) (.t 103) (.c (.bool false))⟩])
  (.cond (.t 104) (.seq (.ops [⟨none, .mv 2 (.c (.int .i64 2))⟩])
    (.ret))
    (.skip)))
  (.seq (.ops [⟨none, .mv 2 (.c (.int .i64 0))⟩])
  (.ret)))))))))))
theorem comp64 : compFn Try.prog [1] Try.f64 = some ([.t 2], c64) := by kernel_rfl
/-- topiary/topiaryref07.behind: 2 parameters, 70 slots. -/
def c65 : C :=
  .seq (.ops [⟨none, .bxL 3 (.t 1)⟩,
    ⟨none, .mv 4 (.c (.bool false))⟩])
  (.seq (.seq (.ops [⟨none, .mv 5 (.c (.int .i64 0))⟩])
  (.block 0 (.loop (.seq (.seq (.ops [⟨none, .mv 10 (.t 5)⟩,
    ⟨none, .fa 11 (.t 3) 3⟩,
    ⟨none, .ld 12 (.t 11) 1 false⟩,
    ⟨none, .ln 13 .sl (.t 12)⟩,
    ⟨none, .bi 14 .lss (.t 10) (.t 13)⟩])
  (.cond (.t 14) (.skip)
    (.exit 0)))
  (.cut (.block 1 (.seq (.seq (.ops [⟨none, .fa 17 (.t 3) 3⟩,
    ⟨none, .ld 18 (.t 17) 1 false⟩,
    ⟨none, .mv 19 (.t 5)⟩,
    ⟨none, .ia 20 (.t 18) (.t 19) 1⟩,
    ⟨none, .ld 21 (.t 20) 1 false⟩,
    ⟨none, .bi 22 .eql (.t 21) (.c (.int .i64 0))⟩])
  (.cond (.t 22) (.exit 1)
    (.skip)))
  (.seq (.ops [⟨none, .mv 23 (.t 0)⟩,
    ⟨none, .mv 24 (.t 5)⟩,
    ⟨none, .fa 25 (.t 3) 3⟩,
    ⟨none, .ld 26 (.t 25) 1 false⟩,
    ⟨none, .mv 27 (.t 5)⟩,
    ⟨none, .ia 28 (.t 26) (.t 27) 1⟩,
    ⟨none, .ld 29 (.t 28) 1 false⟩,
    ⟨none, .ca (some 30) 23 [(.t 23), (.t 24), (.t 29)]⟩,
    ⟨none, .mv 6 (.t 30)⟩])
  (.seq (.opsD [⟨none, .mv 31 (.t 6)⟩,
    ⟨none, .bi 32 .lss (.t 31) (.c (.int .i64 0))⟩,
    ⟨none, .mv 33 (.t 32)⟩,
    ⟨some (33, false), .mv 34 (.t 0)⟩,
    ⟨some (33, false), .mv 35 (.t 6)⟩,
    ⟨some (33, false), .ia 36 (.t 34) (.t 35) 13⟩,
    ⟨some (33, false), .fa 37 (.t 36) 0⟩,
    ⟨some (33, false), .ld 38 (.t 37) 2 true⟩,
    ⟨some (33, false), .fa 39 (.t 3) 0⟩,
    ⟨some (33, false), .ld 40 (.t 39) 2 true⟩,
    ⟨some (33, false), .ca (some 41) 26 [(.t 38), (.t 40)]⟩,
    ⟨some (33, false), .un 42 .not (.t 41)⟩,
    ⟨none, .pk 43 (.t 33) (.c (.bool true)) (.t 42)⟩])
  (.cond (.t 43) (.seq (.ops [⟨none, .mv 4 (.c (.bool false))⟩])
    (.ret))
    (.skip))))))
  (.ops [⟨none, .mv 15 (.t 5)⟩,
    ⟨none, .bi 16 .add (.t 15) (.c (.int .i64 1))⟩,
    ⟨none, .mv 5 (.t 16)⟩]))))))
  (.seq (.ops [⟨none, .ld 44 (.t 3) 13 true⟩,
    ⟨none, .ca (some 45) 30 [(.t 44)]⟩,
    ⟨none, .mv 7 (.t 45)⟩])
  (.seq (.seq (.ops [⟨none, .mv 8 (.c (.int .i64 0))⟩])
  (.block 2 (.loop (.seq (.seq (.ops [⟨none, .mv 46 (.t 8)⟩,
    ⟨none, .mv 47 (.t 7)⟩,
    ⟨none, .ln 48 .sl (.t 47)⟩,
    ⟨none, .bi 49 .lss (.t 46) (.t 48)⟩])
  (.cond (.t 49) (.skip)
    (.exit 2)))
  (.seq (.block 3 (.seq (.ops [⟨none, .mv 52 (.t 0)⟩,
    ⟨none, .mv 53 (.t 7)⟩,
    ⟨none, .mv 54 (.t 8)⟩,
    ⟨none, .ia 55 (.t 53) (.t 54) 2⟩,
    ⟨none, .ld 56 (.t 55) 2 true⟩,
    ⟨none, .ca (some 57) 21 [(.t 52), (.t 56)]⟩,
    ⟨none, .mv 9 (.t 57)⟩])
  (.seq (.opsD [⟨none, .mv 58 (.t 9)⟩,
    ⟨none, .bi 59 .lss (.t 58) (.c (.int .i64 0))⟩,
    ⟨none, .mv 60 (.t 59)⟩,
    ⟨some (60, false), .mv 61 (.t 0)⟩,
    ⟨some (60, false), .mv 62 (.t 9)⟩,
    ⟨some (60, false), .ia 63 (.t 61) (.t 62) 13⟩,
    ⟨some (60, false), .ld 64 (.t 63) 13 true⟩,
    ⟨some (60, false), .fa 65 (.t 3) 3⟩,
    ⟨some (60, false), .ld 66 (.t 65) 1 false⟩,
    ⟨some (60, false), .ca (some 67) 52 [(.t 64), (.t 66)]⟩,
    ⟨some (60, false), .un 68 .not (.t 67)⟩,
    ⟨none, .pk 69 (.t 60) (.c (.bool true)) (.t 68)⟩])
  (.cond (.t 69) (.seq (.ops [⟨none, .mv 4 (.c (.bool false))⟩])
    (.ret))
    (.skip)))))
  (.ops [⟨none, .mv 50 (.t 8)⟩,
    ⟨none, .bi 51 .add (.t 50) (.c (.int .i64 1))⟩,
    ⟨none, .mv 8 (.t 51)⟩]))))))
  (.seq (.ops [⟨none, .mv 4 (.c (.bool true))⟩])
  (.ret)))))
theorem comp65 : compFn Try.prog [3] Try.f65 = some ([.t 4], c65) := by kernel_rfl
/-- topiary/ident.Right: 1 parameters, 16 slots. -/
def c66 : C :=
  .seq (.ops [⟨none, .bxL 1 (.t 0)⟩,
    ⟨none, .mv 2 (.c (.bool false))⟩])
  (.seq (.ops [⟨none, .fa 3 (.t 1) 0⟩,
    ⟨none, .ld 4 (.t 3) 1 false⟩,
    ⟨none, .bi 5 .geq (.t 4) (.c (.int .i64 1))⟩,
    ⟨none, .mv 6 (.t 5)⟩,
    ⟨some (6, true), .fa 7 (.t 1) 0⟩,
    ⟨some (6, true), .ld 8 (.t 7) 1 false⟩,
    ⟨some (6, true), .bi 9 .leq (.t 8) (.c (.int .i64 1099511627776))⟩,
    ⟨none, .pk 10 (.t 6) (.t 9) (.c (.bool false))⟩,
    ⟨none, .mv 11 (.t 10)⟩,
    ⟨some (11, true), .fa 12 (.t 1) 1⟩,
    ⟨some (11, true), .ld 13 (.t 12) 1 false⟩,
    ⟨some (11, true), .ca (some 14) 84 [(.t 13)]⟩,
    ⟨none, .pk 15 (.t 11) (.t 14) (.c (.bool false))⟩,
    ⟨none, .mv 2 (.t 15)⟩])
  (.ret))
theorem comp66 : compFn Try.prog [1] Try.f66 = some ([.t 2], c66) := by kernel_rfl
/-- topiary/change.deps: 1 parameters, 37 slots. -/
def c67 : C :=
  .seq (.ops [⟨none, .bxL 1 (.t 0)⟩,
    ⟨none, .mv 2 (.c (.int .i64 0))⟩])
  (.seq (.seq (.ops [⟨none, .fa 5 (.t 1) 3⟩,
    ⟨none, .ld 6 (.t 5) 1 false⟩,
    ⟨none, .ca (some 7) 43 [(.t 6)]⟩,
    ⟨none, .mv 3 (.t 7)⟩])
  (.seq (.ops [⟨none, .mv 8 (.t 3)⟩,
    ⟨none, .bi 9 .neq (.t 8) (.c (.int .i64 0))⟩])
  (.cond (.t 9) (.seq (.ops [⟨none, .mv 10 (.t 3)⟩,
      ⟨none, .mv 2 (.t 10)⟩])
    (.ret))
    (.skip))))
  (.seq (.seq (.ops [⟨none, .fa 11 (.t 1) 3⟩,
    ⟨none, .ld 12 (.t 11) 1 false⟩,
    ⟨none, .ln 13 .sl (.t 12)⟩,
    ⟨none, .mv 4 (.t 13)⟩])
  (.seq (.opsD [⟨none, .mv 14 (.t 4)⟩,
    ⟨none, .bi 15 .gtr (.t 14) (.c (.int .i64 0))⟩,
    ⟨none, .mv 16 (.t 15)⟩,
    ⟨some (16, true), .fa 17 (.t 1) 3⟩,
    ⟨some (16, true), .ld 18 (.t 17) 1 false⟩,
    ⟨some (16, true), .mv 19 (.t 4)⟩,
    ⟨some (16, true), .bi 20 .sub (.t 19) (.c (.int .i64 1))⟩,
    ⟨some (16, true), .ia 21 (.t 18) (.t 20) 1⟩,
    ⟨some (16, true), .ld 22 (.t 21) 1 false⟩,
    ⟨some (16, true), .bi 23 .eql (.t 22) (.c (.int .i64 0))⟩,
    ⟨none, .pk 24 (.t 16) (.t 23) (.c (.bool false))⟩,
    ⟨none, .mv 25 (.t 24)⟩,
    ⟨some (25, false), .fa 26 (.t 1) 3⟩,
    ⟨some (25, false), .ld 27 (.t 26) 1 false⟩,
    ⟨some (25, false), .fa 28 (.t 1) 0⟩,
    ⟨some (25, false), .fa 29 (.t 28) 1⟩,
    ⟨some (25, false), .ld 30 (.t 29) 1 false⟩,
    ⟨some (25, false), .fa 32 (.t 1) 2⟩,
    ⟨some (25, false), .ld 33 (.t 32) 1 false⟩,
    ⟨some (25, false), .bi 34 .sub (.t 33) (.c (.int .i64 1))⟩,
    ⟨some (25, false), .ca (some 31) 44 [(.t 27), (.t 30)]⟩,
    ⟨some (25, false), .bi 35 .neq (.t 31) (.t 34)⟩,
    ⟨none, .pk 36 (.t 25) (.c (.bool true)) (.t 35)⟩])
  (.cond (.t 36) (.seq (.ops [⟨none, .mv 2 (.c (.int .i64 2))⟩])
    (.ret))
    (.skip))))
  (.seq (.ops [⟨none, .mv 2 (.c (.int .i64 0))⟩])
  (.ret))))
theorem comp67 : compFn Try.prog [1] Try.f67 = some ([.t 2], c67) := by kernel_rfl
/-- topiary/change.node: 1 parameters, 40 slots. -/
def c68 : C :=
  .seq (.ops [⟨none, .bxL 1 (.t 0)⟩,
    ⟨none, .mv 2 (.c (.bool false))⟩])
  (.seq (.seq (.ops [⟨none, .fa 3 (.t 1) 4⟩,
    ⟨none, .ld 4 (.t 3) 1 false⟩])
  (.block 0 (.seq (.ops [⟨none, .bi 6 .eql (.t 4) (.c (.int .i64 1))⟩,
    ⟨none, .mv 5 (.t 6)⟩])
  (.cond (.t 5) (.seq (.ops [⟨none, .fa 7 (.t 1) 5⟩,
      ⟨none, .ld 8 (.t 7) 2 true⟩,
      ⟨none, .fa 9 (.t 1) 0⟩,
      ⟨none, .ld 10 (.t 9) 2 true⟩,
      ⟨none, .be 11 false [.int .i64, .int .i64] (.t 8) (.t 10)⟩,
      ⟨none, .mv 2 (.t 11)⟩])
    (.ret))
    (.seq (.ops [⟨none, .bi 13 .eql (.t 4) (.c (.int .i64 2))⟩,
      ⟨none, .mv 12 (.t 13)⟩])
    (.cond (.t 12) (.seq (.ops [⟨none, .fa 14 (.t 1) 5⟩,
        ⟨none, .ld 15 (.t 14) 2 true⟩,
        ⟨none, .ca (some 16) 66 [(.t 15)]⟩,
        ⟨none, .mv 17 (.t 16)⟩,
        ⟨some (17, true), .fa 18 (.t 1) 5⟩,
        ⟨some (17, true), .ld 19 (.t 18) 2 true⟩,
        ⟨some (17, true), .fa 20 (.t 1) 0⟩,
        ⟨some (17, true), .ld 21 (.t 20) 2 true⟩,
        ⟨some (17, true), .ca (some 22) 72 [(.t 19), (.t 21)]⟩,
        ⟨none, .pk 23 (.t 17) (.t 22) (.c (.bool false))⟩,
        ⟨none, .mv 2 (.t 23)⟩])
      (.ret))
      (.skip)))))))
  (.seq (.ops [⟨none, .fa 24 (.t 1) 5⟩,
    ⟨none, .ld 25 (.t 24) 2 true⟩,
    ⟨none, .bld 26 [.int .i64 0, .int .i64 0] []⟩,
    ⟨none, .be 27 false [.int .i64, .int .i64] (.t 25) (.t 26)⟩,
    ⟨none, .mv 28 (.t 27)⟩,
    ⟨some (28, false), .fa 29 (.t 1) 5⟩,
    ⟨some (28, false), .ld 30 (.t 29) 2 true⟩,
    ⟨some (28, false), .ca (some 31) 66 [(.t 30)]⟩,
    ⟨some (28, false), .mv 32 (.t 31)⟩,
    ⟨some (32, true), .fa 33 (.t 1) 5⟩,
    ⟨some (32, true), .ld 34 (.t 33) 2 true⟩,
    ⟨some (32, true), .fa 35 (.t 1) 0⟩,
    ⟨some (32, true), .ld 36 (.t 35) 2 true⟩,
    ⟨some (32, true), .ca (some 37) 72 [(.t 34), (.t 36)]⟩,
    ⟨some (28, false), .pk 38 (.t 32) (.t 37) (.c (.bool false))⟩,
    ⟨none, .pk 39 (.t 28) (.c (.bool true)) (.t 38)⟩,
    ⟨none, .mv 2 (.t 39)⟩])
  (.ret)))
theorem comp68 : compFn Try.prog [1] Try.f68 = some ([.t 2], c68) := by kernel_rfl
/-- topiary/change.place: 1 parameters, 56 slots. -/
def c69 : C :=
  .seq (.ops [⟨none, .bxL 1 (.t 0)⟩,
    ⟨none, .mv 2 (.c (.bool false))⟩])
  (.seq (.seq (.ops [⟨none, .fa 3 (.t 1) 4⟩,
    ⟨none, .ld 4 (.t 3) 1 false⟩,
    ⟨none, .bi 5 .neq (.t 4) (.c (.int .i64 1))⟩,
    ⟨none, .mv 6 (.t 5)⟩,
    ⟨some (6, true), .fa 7 (.t 1) 4⟩,
    ⟨some (6, true), .ld 8 (.t 7) 1 false⟩,
    ⟨some (6, true), .bi 9 .neq (.t 8) (.c (.int .i64 2))⟩,
    ⟨none, .pk 10 (.t 6) (.t 9) (.c (.bool false))⟩])
  (.cond (.t 10) (.seq (.ops [⟨none, .fa 11 (.t 1) 7⟩,
      ⟨none, .ld 12 (.t 11) 2 true⟩,
      ⟨none, .bld 13 [.int .i64 0, .int .i64 0] []⟩,
      ⟨none, .be 14 false [.int .i64, .int .i64] (.t 12) (.t 13)⟩,
      ⟨none, .mv 15 (.t 14)⟩,
      ⟨some (15, true), .fa 16 (.t 1) 9⟩,
      ⟨some (15, true), .ld 17 (.t 16) 2 true⟩,
      ⟨some (15, true), .bld 18 [.int .i64 0, .int .i64 0] []⟩,
      ⟨some (15, true), .be 19 false [.int .i64, .int .i64] (.t 17) (.t 18)⟩,
      ⟨none, .pk 20 (.t 15) (.t 19) (.c (.bool false))⟩,
      ⟨none, .mv 2 (.t 20)⟩])
    (.ret))
    (.skip)))
  (.seq (.seq (.ops [⟨none, .fa 21 (.t 1) 7⟩,
    ⟨none, .ld 22 (.t 21) 2 true⟩,
    ⟨none, .ca (some 23) 85 [(.t 22)]⟩,
    ⟨none, .un 24 .not (.t 23)⟩,
    ⟨none, .mv 25 (.t 24)⟩,
    ⟨some (25, false), .fa 26 (.t 1) 7⟩,
    ⟨some (25, false), .ld 27 (.t 26) 2 true⟩,
    ⟨some (25, false), .fa 28 (.t 1) 0⟩,
    ⟨some (25, false), .ld 29 (.t 28) 2 true⟩,
    ⟨some (25, false), .ca (some 30) 72 [(.t 27), (.t 29)]⟩,
    ⟨some (25, false), .un 31 .not (.t 30)⟩,
    ⟨none, .pk 32 (.t 25) (.c (.bool true)) (.t 31)⟩,
    ⟨none, .mv 33 (.t 32)⟩,
    ⟨some (33, false), .fa 34 (.t 1) 7⟩,
    ⟨some (33, false), .ld 35 (.t 34) 2 true⟩,
    ⟨some (33, false), .fa 36 (.t 1) 5⟩,
    ⟨some (33, false), .ld 37 (.t 36) 2 true⟩,
    ⟨some (33, false), .be 38 false [.int .i64, .int .i64] (.t 35) (.t 37)⟩,
    ⟨none, .pk 39 (.t 33) (.c (.bool true)) (.t 38)⟩])
  (.cond (.t 39) (.seq (.ops [⟨none, .mv 2 (.c (.bool false))⟩])
    (.ret))
    (.skip)))
  (.seq (.ops [⟨none, .fa 40 (.t 1) 9⟩,
    ⟨none, .ld 41 (.t 40) 2 true⟩,
    ⟨none, .bld 42 [.int .i64 0, .int .i64 0] []⟩,
    ⟨none, .be 43 false [.int .i64, .int .i64] (.t 41) (.t 42)⟩,
    ⟨none, .mv 44 (.t 43)⟩,
    ⟨some (44, false), .fa 45 (.t 1) 9⟩,
    ⟨some (44, false), .ld 46 (.t 45) 2 true⟩,
    ⟨some (44, false), .ca (some 47) 66 [(.t 46)]⟩,
    ⟨some (44, false), .mv 48 (.t 47)⟩,
    ⟨some (48, true), .fa 49 (.t 1) 9⟩,
    ⟨some (48, true), .ld 50 (.t 49) 2 true⟩,
    ⟨some (48, true), .fa 51 (.t 1) 0⟩,
    ⟨some (48, true), .ld 52 (.t 51) 2 true⟩,
    ⟨some (48, true), .ca (some 53) 72 [(.t 50), (.t 52)]⟩,
    ⟨some (44, false), .pk 54 (.t 48) (.t 53) (.c (.bool false))⟩,
    ⟨none, .pk 55 (.t 44) (.c (.bool true)) (.t 54)⟩,
    ⟨none, .mv 2 (.t 55)⟩])
  (.ret))))
theorem comp69 : compFn Try.prog [1] Try.f69 = some ([.t 2], c69) := by kernel_rfl
/-- topiary/change.words: 1 parameters, 42 slots. -/
def c70 : C :=
  .seq (.ops [⟨none, .bxL 1 (.t 0)⟩,
    ⟨none, .mv 2 (.c (.int .i64 0))⟩])
  (.seq (.ops [⟨none, .mv 3 (.c (.bool false))⟩,
    ⟨none, .mv 4 (.c (.bool false))⟩])
  (.cut (.seq (.ops [⟨none, .fa 5 (.t 1) 4⟩,
    ⟨none, .ld 6 (.t 5) 1 false⟩])
  (.block 0 (.seq (.block 3 (.cut (.block 2 (.seq (.block 1 (.seq (.seq (.seq (.ops [⟨none, .bi 8 .eql (.t 6) (.c (.int .i64 3))⟩,
    ⟨none, .mv 7 (.t 8)⟩])
  (.cond (.t 7) (.exit 1)
    (.skip)))
  (.seq (.cut (.seq (.ops [⟨none, .bi 10 .eql (.t 6) (.c (.int .i64 1))⟩,
    ⟨none, .mv 9 (.t 10)⟩])
  (.cond (.t 9) (.skip)
    (.ops [⟨none, .bi 11 .eql (.t 6) (.c (.int .i64 4))⟩,
      ⟨none, .mv 9 (.t 11)⟩])))
  (.cond (.t 9) (.exit 2)
    (.skip)))
  (.seq (.ops [⟨none, .bi 13 .eql (.t 6) (.c (.int .i64 5))⟩,
    ⟨none, .mv 12 (.t 13)⟩])
  (.cond (.t 12) (.exit 3)
    (.skip)))))
  (.exit 0)))
  (.ops [⟨none, .mv 4 (.c (.bool true))⟩])))
  (.seq (.ops [⟨none, .mv 3 (.c (.bool true))⟩])
  (.exit 0))))
  (.seq (.ops [⟨none, .mv 4 (.c (.bool true))⟩])
  (.exit 0)))))
  (.seq (.block 4 (.cut (.seq (.ops [⟨none, .mv 15 (.t 3)⟩,
    ⟨none, .mv 16 (.t 15)⟩,
    ⟨some (16, true), .fa 17 (.t 1) 11⟩,
    ⟨some (16, true), .ld 18 (.t 17) 1 false⟩,
    ⟨some (16, true), .ca (some 19) 86 [(.t 18)]⟩,
    ⟨some (16, true), .un 20 .not (.t 19)⟩,
    ⟨none, .pk 21 (.t 16) (.t 20) (.c (.bool false))⟩,
    ⟨none, .mv 14 (.t 21)⟩])
  (.cond (.t 14) (.skip)
    (.ops [⟨none, .mv 22 (.t 3)⟩,
      ⟨none, .un 23 .not (.t 22)⟩,
      ⟨none, .mv 24 (.t 23)⟩,
      ⟨some (24, true), .fa 25 (.t 1) 11⟩,
      ⟨some (24, true), .ld 26 (.t 25) 1 false⟩,
      ⟨some (24, true), .bi 27 .neq (.t 26) (.c (.str []))⟩,
      ⟨none, .pk 28 (.t 24) (.t 27) (.c (.bool false))⟩,
      ⟨none, .mv 14 (.t 28)⟩])))
  (.cond (.t 14) (.seq (.ops [⟨none, .mv 2 (.c (.int .i64 8))⟩])
    (.ret))
    (.seq (.ops [⟨none, .fa 30 (.t 1) 12⟩,
      ⟨none, .ld 31 (.t 30) 1 false⟩,
      ⟨none, .ln 32 .fn (.t 31)⟩,
      ⟨none, .bi 33 .gtr (.t 32) (.c (.int .i64 256))⟩,
      ⟨none, .mv 29 (.t 33)⟩])
    (.cond (.t 29) (.seq (.ops [⟨none, .mv 2 (.c (.int .i64 3))⟩])
      (.ret))
      (.seq (.ops [⟨none, .mv 35 (.t 4)⟩,
        ⟨none, .un 36 .not (.t 35)⟩,
        ⟨none, .mv 37 (.t 36)⟩,
        ⟨some (37, true), .fa 38 (.t 1) 12⟩,
        ⟨some (37, true), .ld 39 (.t 38) 1 false⟩,
        ⟨some (37, true), .bi 40 .neq (.t 39) (.c (.str []))⟩,
        ⟨none, .pk 41 (.t 37) (.t 40) (.c (.bool false))⟩,
        ⟨none, .mv 34 (.t 41)⟩])
      (.cond (.t 34) (.seq (.ops [⟨none, .mv 2 (.c (.int .i64 2))⟩])
        (.ret))
        (.skip))))))))
  (.seq (.ops [⟨none, .mv 2 (.c (.int .i64 0))⟩])
  (.ret)))))
theorem comp70 : compFn Try.prog [1] Try.f70 = some ([.t 2], c70) := by kernel_rfl
/-- topiary/change.Same: 2 parameters, 66 slots. -/
def c71 : C :=
  .seq (.ops [⟨none, .bxL 2 (.t 0)⟩,
    ⟨none, .bxL 3 (.t 1)⟩,
    ⟨none, .mv 4 (.c (.bool false))⟩])
  (.seq (.ops [⟨none, .fa 5 (.t 2) 0⟩,
    ⟨none, .ld 6 (.t 5) 2 true⟩,
    ⟨none, .fa 7 (.t 3) 0⟩,
    ⟨none, .ld 8 (.t 7) 2 true⟩,
    ⟨none, .be 9 false [.int .i64, .int .i64] (.t 6) (.t 8)⟩,
    ⟨none, .mv 10 (.t 9)⟩,
    ⟨some (10, true), .fa 11 (.t 2) 2⟩,
    ⟨some (10, true), .ld 12 (.t 11) 1 false⟩,
    ⟨some (10, true), .fa 13 (.t 3) 2⟩,
    ⟨some (10, true), .ld 14 (.t 13) 1 false⟩,
    ⟨some (10, true), .bi 15 .eql (.t 12) (.t 14)⟩,
    ⟨none, .pk 16 (.t 10) (.t 15) (.c (.bool false))⟩,
    ⟨none, .mv 17 (.t 16)⟩,
    ⟨some (17, true), .fa 18 (.t 2) 3⟩,
    ⟨some (17, true), .ld 19 (.t 18) 1 false⟩,
    ⟨some (17, true), .fa 20 (.t 3) 3⟩,
    ⟨some (17, true), .ld 21 (.t 20) 1 false⟩,
    ⟨some (17, true), .ca (some 22) 87 [(.t 19), (.t 21)]⟩,
    ⟨none, .pk 23 (.t 17) (.t 22) (.c (.bool false))⟩,
    ⟨none, .mv 24 (.t 23)⟩,
    ⟨some (24, true), .fa 25 (.t 2) 4⟩,
    ⟨some (24, true), .ld 26 (.t 25) 1 false⟩,
    ⟨some (24, true), .fa 27 (.t 3) 4⟩,
    ⟨some (24, true), .ld 28 (.t 27) 1 false⟩,
    ⟨some (24, true), .bi 29 .eql (.t 26) (.t 28)⟩,
    ⟨none, .pk 30 (.t 24) (.t 29) (.c (.bool false))⟩,
    ⟨none, .mv 31 (.t 30)⟩,
    ⟨some (31, true), .fa 32 (.t 2) 5⟩,
    ⟨some (31, true), .ld 33 (.t 32) 2 true⟩,
    ⟨some (31, true), .fa 34 (.t 3) 5⟩,
    ⟨some (31, true), .ld 35 (.t 34) 2 true⟩,
    ⟨some (31, true), .be 36 false [.int .i64, .int .i64] (.t 33) (.t 35)⟩,
    ⟨none, .pk 37 (.t 31) (.t 36) (.c (.bool false))⟩,
    ⟨none, .mv 38 (.t 37)⟩,
    ⟨some (38, true), .fa 39 (.t 2) 7⟩,
    ⟨some (38, true), .ld 40 (.t 39) 2 true⟩,
    ⟨some (38, true), .fa 41 (.t 3) 7⟩,
    ⟨some (38, true), .ld 42 (.t 41) 2 true⟩,
    ⟨some (38, true), .be 43 false [.int .i64, .int .i64] (.t 40) (.t 42)⟩,
    ⟨none, .pk 44 (.t 38) (.t 43) (.c (.bool false))⟩,
    ⟨none, .mv 45 (.t 44)⟩,
    ⟨some (45, true), .fa 46 (.t 2) 9⟩,
    ⟨some (45, true), .ld 47 (.t 46) 2 true⟩,
    ⟨some (45, true), .fa 48 (.t 3) 9⟩,
    ⟨some (45, true), .ld 49 (.t 48) 2 true⟩,
    ⟨some (45, true), .be 50 false [.int .i64, .int .i64] (.t 47) (.t 49)⟩,
    ⟨none, .pk 51 (.t 45) (.t 50) (.c (.bool false))⟩,
    ⟨none, .mv 52 (.t 51)⟩,
    ⟨some (52, true), .fa 53 (.t 2) 11⟩,
    ⟨some (52, true), .ld 54 (.t 53) 1 false⟩,
    ⟨some (52, true), .fa 55 (.t 3) 11⟩,
    ⟨some (52, true), .ld 56 (.t 55) 1 false⟩,
    ⟨some (52, true), .bi 57 .eql (.t 54) (.t 56)⟩,
    ⟨none, .pk 58 (.t 52) (.t 57) (.c (.bool false))⟩,
    ⟨none, .mv 59 (.t 58)⟩,
    ⟨some (59, true), .fa 60 (.t 2) 12⟩,
    ⟨some (59, true), .ld 61 (.t 60) 1 false⟩,
    ⟨some (59, true), .fa 62 (.t 3) 12⟩,
    ⟨some (59, true), .ld 63 (.t 62) 1 false⟩,
    ⟨some (59, true), .bi 64 .eql (.t 61) (.t 63)⟩,
    ⟨none, .pk 65 (.t 59) (.t 64) (.c (.bool false))⟩,
    ⟨none, .mv 4 (.t 65)⟩])
  (.ret))
theorem comp71 : compFn Try.prog [2, 3] Try.f71 = some ([.t 4], c71) := by kernel_rfl
/-- topiary/ident.Less: 2 parameters, 9 slots. -/
def c72 : C :=
  .seq (.ops [⟨none, .bxL 2 (.t 0)⟩,
    ⟨none, .bxL 3 (.t 1)⟩,
    ⟨none, .mv 4 (.c (.bool false))⟩])
  (.seq (.ops [⟨none, .ld 5 (.t 2) 2 true⟩,
    ⟨none, .ld 6 (.t 3) 2 true⟩,
    ⟨none, .ca (some 7) 77 [(.t 5), (.t 6)]⟩,
    ⟨none, .bi 8 .lss (.t 7) (.c (.int .i64 0))⟩,
    ⟨none, .mv 4 (.t 8)⟩])
  (.ret))
theorem comp72 : compFn Try.prog [2, 3] Try.f72 = some ([.t 4], c72) := by kernel_rfl
/-- topiary/ident.Rising: 1 parameters, 12 slots. -/
def c73 : C :=
  .seq (.ops [⟨none, .mv 2 (.c (.nilf))⟩])
  (.seq (.ops [⟨none, .lit 4 2 []⟩,
    ⟨none, .mv 5 (.t 0)⟩,
    ⟨none, .ap 6 2 (.t 4) (.t 5)⟩,
    ⟨none, .alH 3 [.sl true .pub 0 []]⟩,
    ⟨none, .st (.t 3) (.t 6) 1⟩])
  (.seq (.ops [⟨none, .ld 7 (.t 3) 1 false⟩,
    ⟨none, .cm (some 8) 88 [(.t 7), (.c (.fn 89 []))]⟩])
  (.seq (.ops [⟨none, .ld 9 (.t 3) 1 false⟩,
    ⟨none, .cm (some 10) 90 [(.t 9)]⟩,
    ⟨none, .st (.t 3) (.t 10) 1⟩])
  (.seq (.ops [⟨none, .mf 11 91 [(.t 3)]⟩,
    ⟨none, .mv 2 (.t 11)⟩])
  (.ret)))))
theorem comp73 : compFn Try.prog [3000088, 3000090] Try.f73 = some ([.t 2], c73) := by kernel_rfl
/-- topiary/change.Names: 1 parameters, 33 slots. -/
def c74 : C :=
  .seq (.ops [⟨none, .bxL 1 (.t 0)⟩,
    ⟨none, .mv 2 (.c (.sl true .pub 2 []))⟩])
  (.seq (.ops [⟨none, .mv 3 (.c (.sl true .pub 2 []))⟩])
  (.seq (.seq (.ops [⟨none, .fa 6 (.t 1) 5⟩,
    ⟨none, .ld 7 (.t 6) 2 true⟩,
    ⟨none, .fa 8 (.t 1) 7⟩,
    ⟨none, .ld 9 (.t 8) 2 true⟩,
    ⟨none, .fa 10 (.t 1) 9⟩,
    ⟨none, .ld 11 (.t 10) 2 true⟩,
    ⟨none, .lit 12 2 [(.t 7), (.t 9), (.t 11)]⟩,
    ⟨none, .ln 13 .sl (.t 12)⟩,
    ⟨none, .mv 14 (.c (.int .i64 0))⟩])
  (.block 0 (.loop (.seq (.ops [⟨none, .bi 15 .lss (.t 14) (.t 13)⟩])
  (.seq (.cond (.t 15) (.skip)
    (.exit 0))
  (.cut (.block 1 (.seq (.ops [⟨none, .ia 16 (.t 12) (.t 14) 2⟩,
    ⟨none, .ld 17 (.t 16) 2 true⟩,
    ⟨none, .alL 5 [.int .i64 0, .int .i64 0]⟩,
    ⟨none, .st (.t 5) (.t 17) 2⟩])
  (.seq (.ops [⟨none, .ld 18 (.t 5) 2 true⟩,
    ⟨none, .ca (some 19) 66 [(.t 18)]⟩,
    ⟨none, .mv 20 (.t 19)⟩,
    ⟨some (20, true), .ld 21 (.t 5) 2 true⟩,
    ⟨some (20, true), .fa 22 (.t 1) 0⟩,
    ⟨some (20, true), .ld 23 (.t 22) 2 true⟩,
    ⟨some (20, true), .be 24 true [.int .i64, .int .i64] (.t 21) (.t 23)⟩,
    ⟨none, .pk 25 (.t 20) (.t 24) (.c (.bool false))⟩])
  (.cond (.t 25) (.ops [⟨none, .mv 26 (.t 3)⟩,
      ⟨none, .ld 27 (.t 5) 2 true⟩,
      ⟨none, .lit 28 2 [(.t 27)]⟩,
      ⟨none, .ap 29 2 (.t 26) (.t 28)⟩,
      ⟨none, .mv 3 (.t 29)⟩])
    (.skip)))))
  (.ops [⟨none, .bi 30 .add (.t 14) (.c (.int .i64 1))⟩,
    ⟨none, .mv 14 (.t 30)⟩])))))))
  (.seq (.ops [⟨none, .mv 31 (.t 3)⟩,
    ⟨none, .ca (some 32) 92 [(.t 31)]⟩,
    ⟨none, .mv 2 (.t 32)⟩])
  (.ret))))
theorem comp74 : compFn Try.prog [1, 5] Try.f74 = some ([.t 2], c74) := by kernel_rfl
/-- slices.BinarySearchFunc[[]topiary/api.Change,topiary/api.Change,topiary/api.Stamp]: 3 parameters, 49 slots. -/
def c75 : C :=
  .seq (.ops [⟨none, .bxL 4 (.t 1)⟩,
    ⟨none, .mv 6 (.c (.int .i64 0))⟩,
    ⟨none, .mv 7 (.c (.bool false))⟩])
  (.seq (.ops [⟨none, .mv 12 (.t 0)⟩,
    ⟨none, .ln 13 .sl (.t 12)⟩,
    ⟨none, .mv 8 (.t 13)⟩])
  (.seq (.ops [⟨none, .mv 14 (.t 8)⟩,
    ⟨none, .mv 9 (.c (.int .i64 0))⟩,
    ⟨none, .mv 10 (.t 14)⟩])
  (.seq (.block 0 (.loop (.seq (.seq (.ops [⟨none, .mv 15 (.t 9)⟩,
    ⟨none, .mv 16 (.t 10)⟩,
    ⟨none, .bi 17 .lss (.t 15) (.t 16)⟩])
  (.cond (.t 17) (.skip)
    (.exit 0)))
  (.block 1 (.seq (.ops [⟨none, .mv 18 (.t 9)⟩,
    ⟨none, .mv 19 (.t 10)⟩,
    ⟨none, .bi 20 .add (.t 18) (.t 19)⟩,
    ⟨none, .cI 21 .u64 (.t 20)⟩,
    ⟨none, .bi 22 .shr (.t 21) (.c (.int .u64 1))⟩,
    ⟨none, .cI 23 .i64 (.t 22)⟩,
    ⟨none, .mv 11 (.t 23)⟩])
  (.seq (.opsD [⟨none, .mv 24 (.t 2)⟩,
    ⟨none, .mv 25 (.t 0)⟩,
    ⟨none, .mv 26 (.t 11)⟩,
    ⟨none, .ia 27 (.t 25) (.t 26) 13⟩,
    ⟨none, .ld 28 (.t 27) 13 true⟩,
    ⟨none, .ld 29 (.t 4) 2 true⟩,
    ⟨none, .cv (some 30) (.t 24) [(.t 28), (.t 29)]⟩,
    ⟨none, .bi 31 .lss (.t 30) (.c (.int .i64 0))⟩])
  (.cond (.t 31) (.ops [⟨none, .mv 32 (.t 11)⟩,
      ⟨none, .bi 33 .add (.t 32) (.c (.int .i64 1))⟩,
      ⟨none, .mv 9 (.t 33)⟩])
    (.ops [⟨none, .mv 34 (.t 11)⟩,
      ⟨none, .mv 10 (.t 34)⟩]))))))))
  (.seq (.opsD [⟨none, .mv 35 (.t 9)⟩,
    ⟨none, .mv 36 (.t 9)⟩,
    ⟨none, .mv 37 (.t 8)⟩,
    ⟨none, .bi 38 .lss (.t 36) (.t 37)⟩,
    ⟨none, .mv 39 (.t 38)⟩,
    ⟨some (39, true), .mv 40 (.t 2)⟩,
    ⟨some (39, true), .mv 41 (.t 0)⟩,
    ⟨some (39, true), .mv 42 (.t 9)⟩,
    ⟨some (39, true), .ia 43 (.t 41) (.t 42) 13⟩,
    ⟨some (39, true), .ld 44 (.t 43) 13 true⟩,
    ⟨some (39, true), .ld 45 (.t 4) 2 true⟩,
    ⟨some (39, true), .cv (some 46) (.t 40) [(.t 44), (.t 45)]⟩,
    ⟨some (39, true), .bi 47 .eql (.t 46) (.c (.int .i64 0))⟩,
    ⟨none, .pk 48 (.t 39) (.t 47) (.c (.bool false))⟩,
    ⟨none, .mv 6 (.t 35)⟩,
    ⟨none, .mv 7 (.t 48)⟩])
  (.ret)))))
theorem comp75 : compFn Try.prog [4] Try.f75 = some ([.t 6, .t 7], c75) := by kernel_rfl
/-- (*topiary/oplog.Log).place$1: 2 parameters, 9 slots. -/
def c76 : C :=
  .seq (.ops [⟨none, .bxL 2 (.t 0)⟩,
    ⟨none, .bxL 3 (.t 1)⟩,
    ⟨none, .mv 4 (.c (.int .i64 0))⟩])
  (.seq (.ops [⟨none, .fa 5 (.t 2) 0⟩,
    ⟨none, .ld 6 (.t 5) 2 true⟩,
    ⟨none, .ld 7 (.t 3) 2 true⟩,
    ⟨none, .ca (some 8) 77 [(.t 6), (.t 7)]⟩,
    ⟨none, .mv 4 (.t 8)⟩])
  (.ret))
theorem comp76 : compFn Try.prog [2, 3] Try.f76 = some ([.t 4], c76) := by kernel_rfl
/-- topiary/ident.Compare: 2 parameters, 29 slots. -/
def c77 : C :=
  .seq (.ops [⟨none, .bxL 2 (.t 0)⟩,
    ⟨none, .bxL 3 (.t 1)⟩,
    ⟨none, .mv 4 (.c (.int .i64 0))⟩])
  (.seq (.block 0 (.seq (.ops [⟨none, .ld 6 (.t 2) 2 true⟩,
    ⟨none, .ld 7 (.t 3) 2 true⟩,
    ⟨none, .be 8 false [.int .i64, .int .i64] (.t 6) (.t 7)⟩,
    ⟨none, .mv 5 (.t 8)⟩])
  (.cond (.t 5) (.seq (.ops [⟨none, .mv 4 (.c (.int .i64 0))⟩])
    (.ret))
    (.seq (.ops [⟨none, .fa 10 (.t 2) 0⟩,
      ⟨none, .ld 11 (.t 10) 1 false⟩,
      ⟨none, .fa 12 (.t 3) 0⟩,
      ⟨none, .ld 13 (.t 12) 1 false⟩,
      ⟨none, .bi 14 .lss (.t 11) (.t 13)⟩,
      ⟨none, .mv 15 (.t 14)⟩,
      ⟨some (15, false), .fa 16 (.t 2) 0⟩,
      ⟨some (15, false), .ld 17 (.t 16) 1 false⟩,
      ⟨some (15, false), .fa 18 (.t 3) 0⟩,
      ⟨some (15, false), .ld 19 (.t 18) 1 false⟩,
      ⟨some (15, false), .bi 20 .eql (.t 17) (.t 19)⟩,
      ⟨some (15, false), .mv 21 (.t 20)⟩,
      ⟨some (21, true), .fa 22 (.t 2) 1⟩,
      ⟨some (21, true), .ld 23 (.t 22) 1 false⟩,
      ⟨some (21, true), .fa 24 (.t 3) 1⟩,
      ⟨some (21, true), .ld 25 (.t 24) 1 false⟩,
      ⟨some (21, true), .bi 26 .lss (.t 23) (.t 25)⟩,
      ⟨some (15, false), .pk 27 (.t 21) (.t 26) (.c (.bool false))⟩,
      ⟨none, .pk 28 (.t 15) (.c (.bool true)) (.t 27)⟩,
      ⟨none, .mv 9 (.t 28)⟩])
    (.cond (.t 9) (.seq (.ops [⟨none, .mv 4 (.c (.int .i64 (-1)))⟩])
      (.ret))
      (.skip))))))
  (.seq (.ops [⟨none, .mv 4 (.c (.int .i64 1))⟩])
  (.ret)))
theorem comp77 : compFn Try.prog [2, 3] Try.f77 = some ([.t 4], c77) := by kernel_rfl
/-- slices.AppendSeq[[]topiary/api.Change,topiary/api.Change]: 2 parameters, 13 slots. -/
def c80 : C :=
  .seq (.ops [⟨none, .bxH 2 (.t 0)⟩,
    ⟨none, .mv 4 (.c (.sl true .pub 13 []))⟩])
  (.seq (.seq (.ops [⟨none, .mv 6 (.t 1)⟩])
  (.block 0 (.range (.t 6) [7] (.ops [⟨none, .alL 5 [.int .i64 0, .int .i64 0, .int .i64 0, .sl true .pub 0 [], .int .i64 0, .int .i64 0, .int .i64 0, .int .i64 0, .int .i64 0, .int .i64 0, .int .i64 0, .str [], .str []]⟩,
    ⟨none, .st (.t 5) (.t 7) 13⟩])
  (.block 1 (.ops [⟨none, .ld 8 (.t 2) 1 false⟩,
    ⟨none, .ld 9 (.t 5) 13 true⟩,
    ⟨none, .lit 10 13 [(.t 9)]⟩,
    ⟨none, .ap 11 13 (.t 8) (.t 10)⟩,
    ⟨none, .st (.t 2) (.t 11) 1⟩])))))
  (.seq (.ops [⟨none, .ld 12 (.t 2) 1 false⟩,
    ⟨none, .mv 4 (.t 12)⟩])
  (.ret)))
theorem comp80 : compFn Try.prog [5] Try.f80 = some ([.t 4], c80) := by kernel_rfl
/-- topiary/topiaryref01.Has: 2 parameters, 18 slots. -/
def c81 : C :=
  .seq (.ops [⟨none, .bxL 3 (.t 1)⟩,
    ⟨none, .mv 4 (.c (.bool false))⟩])
  (.seq (.seq (.ops [⟨none, .mv 5 (.c (.int .i64 0))⟩])
  (.block 0 (.loop (.seq (.seq (.ops [⟨none, .mv 6 (.t 5)⟩,
    ⟨none, .mv 7 (.t 0)⟩,
    ⟨none, .ln 8 .sl (.t 7)⟩,
    ⟨none, .bi 9 .lss (.t 6) (.t 8)⟩])
  (.cond (.t 9) (.skip)
    (.exit 0)))
  (.seq (.block 1 (.seq (.opsD [⟨none, .mv 12 (.t 0)⟩,
    ⟨none, .mv 13 (.t 5)⟩,
    ⟨none, .ia 14 (.t 12) (.t 13) 2⟩,
    ⟨none, .ld 15 (.t 14) 2 true⟩,
    ⟨none, .ld 16 (.t 3) 2 true⟩,
    ⟨none, .be 17 false [.int .i64, .int .i64] (.t 15) (.t 16)⟩])
  (.cond (.t 17) (.seq (.ops [⟨none, .mv 4 (.c (.bool true))⟩])
    (.ret))
    (.skip))))
  (.ops [⟨none, .mv 10 (.t 5)⟩,
    ⟨none, .bi 11 .add (.t 10) (.c (.int .i64 1))⟩,
    ⟨none, .mv 5 (.t 11)⟩]))))))
  (.seq (.ops [⟨none, .mv 4 (.c (.bool false))⟩])
  (.ret)))
theorem comp81 : compFn Try.prog [3] Try.f81 = some ([.t 4], c81) := by kernel_rfl
/-- topiary/topiaryref05.placed: 1 parameters, 92 slots. -/
def c82 : C :=
  .seq (.ops [⟨none, .bxL 1 (.t 0)⟩,
    ⟨none, .mv 2 (.c (.bool false))⟩])
  (.seq (.ops [⟨none, .bld 5 [.int .i64 0, .int .i64 0] []⟩,
    ⟨none, .alL 3 [.int .i64 0, .int .i64 0]⟩,
    ⟨none, .st (.t 3) (.t 5) 2⟩])
  (.seq (.seq (.ops [⟨none, .fa 6 (.t 1) 4⟩,
    ⟨none, .ld 7 (.t 6) 1 false⟩,
    ⟨none, .bi 8 .eql (.t 7) (.c (.int .i64 1))⟩,
    ⟨none, .mv 9 (.t 8)⟩,
    ⟨some (9, true), .fa 10 (.t 1) 5⟩,
    ⟨some (9, true), .ld 11 (.t 10) 2 true⟩,
    ⟨some (9, true), .fa 12 (.t 1) 0⟩,
    ⟨some (9, true), .ld 13 (.t 12) 2 true⟩,
    ⟨some (9, true), .be 14 true [.int .i64, .int .i64] (.t 11) (.t 13)⟩,
    ⟨none, .pk 15 (.t 9) (.t 14) (.c (.bool false))⟩,
    ⟨none, .mv 16 (.t 15)⟩,
    ⟨some (16, false), .fa 17 (.t 1) 4⟩,
    ⟨some (16, false), .ld 18 (.t 17) 1 false⟩,
    ⟨some (16, false), .bi 19 .eql (.t 18) (.c (.int .i64 2))⟩,
    ⟨some (16, false), .mv 20 (.t 19)⟩,
    ⟨some (20, true), .fa 21 (.t 1) 5⟩,
    ⟨some (20, true), .ld 22 (.t 21) 2 true⟩,
    ⟨some (20, true), .fa 23 (.t 1) 0⟩,
    ⟨some (20, true), .ld 24 (.t 23) 2 true⟩,
    ⟨some (20, true), .ca (some 25) 94 [(.t 22), (.t 24)]⟩,
    ⟨some (20, true), .un 26 .not (.t 25)⟩,
    ⟨some (16, false), .pk 27 (.t 20) (.t 26) (.c (.bool false))⟩,
    ⟨none, .pk 28 (.t 16) (.c (.bool true)) (.t 27)⟩,
    ⟨none, .mv 29 (.t 28)⟩,
    ⟨some (29, false), .fa 30 (.t 1) 4⟩,
    ⟨some (29, false), .ld 31 (.t 30) 1 false⟩,
    ⟨some (29, false), .bi 32 .gtr (.t 31) (.c (.int .i64 2))⟩,
    ⟨some (29, false), .mv 33 (.t 32)⟩,
    ⟨some (33, true), .fa 34 (.t 1) 5⟩,
    ⟨some (33, true), .ld 35 (.t 34) 2 true⟩,
    ⟨some (33, true), .ld 36 (.t 3) 2 true⟩,
    ⟨some (33, true), .be 37 true [.int .i64, .int .i64] (.t 35) (.t 36)⟩,
    ⟨some (29, false), .pk 38 (.t 33) (.t 37) (.c (.bool false))⟩,
    ⟨some (29, false), .mv 39 (.t 38)⟩,
    ⟨some (39, true), .fa 40 (.t 1) 5⟩,
    ⟨some (39, true), .ld 41 (.t 40) 2 true⟩,
    ⟨some (39, true), .fa 42 (.t 1) 0⟩,
    ⟨some (39, true), .ld 43 (.t 42) 2 true⟩,
    ⟨some (39, true), .ca (some 44) 94 [(.t 41), (.t 43)]⟩,
    ⟨some (39, true), .un 45 .not (.t 44)⟩,
    ⟨some (29, false), .pk 46 (.t 39) (.t 45) (.c (.bool false))⟩,
    ⟨none, .pk 47 (.t 29) (.c (.bool true)) (.t 46)⟩])
  (.cond (.t 47) (.seq (.ops [⟨none, .mv 2 (.c (.bool false))⟩])
    (.ret))
    (.skip)))
  (.seq (.seq (.ops [⟨none, .fa 48 (.t 1) 4⟩,
    ⟨none, .ld 49 (.t 48) 1 false⟩,
    ⟨none, .bi 50 .gtr (.t 49) (.c (.int .i64 2))⟩])
  (.cond (.t 50) (.seq (.ops [⟨none, .fa 51 (.t 1) 7⟩,
      ⟨none, .ld 52 (.t 51) 2 true⟩,
      ⟨none, .ld 53 (.t 3) 2 true⟩,
      ⟨none, .be 54 false [.int .i64, .int .i64] (.t 52) (.t 53)⟩,
      ⟨none, .mv 55 (.t 54)⟩,
      ⟨some (55, true), .fa 56 (.t 1) 9⟩,
      ⟨some (55, true), .ld 57 (.t 56) 2 true⟩,
      ⟨some (55, true), .ld 58 (.t 3) 2 true⟩,
      ⟨some (55, true), .be 59 false [.int .i64, .int .i64] (.t 57) (.t 58)⟩,
      ⟨none, .pk 60 (.t 55) (.t 59) (.c (.bool false))⟩,
      ⟨none, .mv 2 (.t 60)⟩])
    (.ret))
    (.skip)))
  (.seq (.ops [⟨none, .fa 61 (.t 1) 7⟩,
    ⟨none, .ld 62 (.t 61) 2 true⟩,
    ⟨none, .ca (some 63) 95 [(.t 62)]⟩,
    ⟨none, .mv 64 (.t 63)⟩,
    ⟨some (64, true), .fa 65 (.t 1) 7⟩,
    ⟨some (64, true), .ld 66 (.t 65) 2 true⟩,
    ⟨some (64, true), .fa 67 (.t 1) 0⟩,
    ⟨some (64, true), .ld 68 (.t 67) 2 true⟩,
    ⟨some (64, true), .ca (some 69) 26 [(.t 66), (.t 68)]⟩,
    ⟨none, .pk 70 (.t 64) (.t 69) (.c (.bool false))⟩,
    ⟨none, .mv 71 (.t 70)⟩,
    ⟨some (71, true), .fa 72 (.t 1) 7⟩,
    ⟨some (71, true), .ld 73 (.t 72) 2 true⟩,
    ⟨some (71, true), .fa 74 (.t 1) 5⟩,
    ⟨some (71, true), .ld 75 (.t 74) 2 true⟩,
    ⟨some (71, true), .be 76 true [.int .i64, .int .i64] (.t 73) (.t 75)⟩,
    ⟨none, .pk 77 (.t 71) (.t 76) (.c (.bool false))⟩,
    ⟨none, .mv 4 (.t 77)⟩])
  (.seq (.ops [⟨none, .mv 78 (.t 4)⟩,
    ⟨none, .mv 79 (.t 78)⟩,
    ⟨some (79, true), .fa 80 (.t 1) 9⟩,
    ⟨some (79, true), .ld 81 (.t 80) 2 true⟩,
    ⟨some (79, true), .ld 82 (.t 3) 2 true⟩,
    ⟨some (79, true), .be 83 false [.int .i64, .int .i64] (.t 81) (.t 82)⟩,
    ⟨some (79, true), .mv 84 (.t 83)⟩,
    ⟨some (84, false), .fa 85 (.t 1) 9⟩,
    ⟨some (84, false), .ld 86 (.t 85) 2 true⟩,
    ⟨some (84, false), .fa 87 (.t 1) 0⟩,
    ⟨some (84, false), .ld 88 (.t 87) 2 true⟩,
    ⟨some (84, false), .ca (some 89) 94 [(.t 86), (.t 88)]⟩,
    ⟨some (79, true), .pk 90 (.t 84) (.c (.bool true)) (.t 89)⟩,
    ⟨none, .pk 91 (.t 79) (.t 90) (.c (.bool false))⟩,
    ⟨none, .mv 2 (.t 91)⟩])
  (.ret))))))
theorem comp82 : compFn Try.prog [1, 3] Try.f82 = some ([.t 2], c82) := by kernel_rfl
/-- topiary/topiaryref05.Name: 1 parameters, 53 slots. -/
def c83 : C :=
  .seq (.ops [⟨none, .mv 2 (.c (.bool false))⟩])
  (.seq (.seq (.ops [⟨none, .mv 3 (.c (.int .i64 0))⟩])
  (.block 0 (.loop (.seq (.seq (.ops [⟨none, .mv 5 (.t 3)⟩,
    ⟨none, .mv 6 (.t 0)⟩,
    ⟨none, .ln 7 .fn (.t 6)⟩,
    ⟨none, .bi 8 .lss (.t 5) (.t 7)⟩])
  (.cond (.t 8) (.skip)
    (.exit 0)))
  (.seq (.block 1 (.seq (.ops [⟨none, .mv 11 (.t 0)⟩,
    ⟨none, .mv 12 (.t 3)⟩,
    ⟨none, .ix 13 (.t 11) (.t 12)⟩,
    ⟨none, .bi 14 .geq (.t 13) (.c (.int .u8 97))⟩,
    ⟨none, .mv 15 (.t 14)⟩,
    ⟨some (15, true), .mv 16 (.t 0)⟩,
    ⟨some (15, true), .mv 17 (.t 3)⟩,
    ⟨some (15, true), .ix 18 (.t 16) (.t 17)⟩,
    ⟨some (15, true), .bi 19 .leq (.t 18) (.c (.int .u8 122))⟩,
    ⟨none, .pk 20 (.t 15) (.t 19) (.c (.bool false))⟩,
    ⟨none, .mv 4 (.t 20)⟩])
  (.seq (.ops [⟨none, .mv 21 (.t 4)⟩,
    ⟨none, .un 22 .not (.t 21)⟩,
    ⟨none, .mv 23 (.t 22)⟩,
    ⟨some (23, true), .mv 24 (.t 3)⟩,
    ⟨some (23, true), .bi 25 .eql (.t 24) (.c (.int .i64 0))⟩,
    ⟨some (23, true), .mv 26 (.t 25)⟩,
    ⟨some (26, false), .mv 27 (.t 0)⟩,
    ⟨some (26, false), .mv 28 (.t 3)⟩,
    ⟨some (26, false), .ix 29 (.t 27) (.t 28)⟩,
    ⟨some (26, false), .bi 30 .neq (.t 29) (.c (.int .u8 45))⟩,
    ⟨some (26, false), .mv 31 (.t 30)⟩,
    ⟨some (31, true), .mv 32 (.t 0)⟩,
    ⟨some (31, true), .mv 33 (.t 3)⟩,
    ⟨some (31, true), .ix 34 (.t 32) (.t 33)⟩,
    ⟨some (31, true), .bi 35 .lss (.t 34) (.c (.int .u8 48))⟩,
    ⟨some (31, true), .mv 36 (.t 35)⟩,
    ⟨some (36, false), .mv 37 (.t 0)⟩,
    ⟨some (36, false), .mv 38 (.t 3)⟩,
    ⟨some (36, false), .ix 39 (.t 37) (.t 38)⟩,
    ⟨some (36, false), .bi 40 .gtr (.t 39) (.c (.int .u8 57))⟩,
    ⟨some (31, true), .pk 41 (.t 36) (.c (.bool true)) (.t 40)⟩,
    ⟨some (26, false), .pk 42 (.t 31) (.t 41) (.c (.bool false))⟩,
    ⟨some (23, true), .pk 43 (.t 26) (.c (.bool true)) (.t 42)⟩,
    ⟨none, .pk 44 (.t 23) (.t 43) (.c (.bool false))⟩])
  (.cond (.t 44) (.seq (.ops [⟨none, .mv 2 (.c (.bool false))⟩])
    (.ret))
    (.skip)))))
  (.ops [⟨none, .mv 9 (.t 3)⟩,
    ⟨none, .bi 10 .add (.t 9) (.c (.int .i64 1))⟩,
    ⟨none, .mv 3 (.t 10)⟩]))))))
  (.seq (.ops [⟨none, .mv 45 (.t 0)⟩,
    ⟨none, .ln 46 .fn (.t 45)⟩,
    ⟨none, .bi 47 .geq (.t 46) (.c (.int .i64 1))⟩,
    ⟨none, .mv 48 (.t 47)⟩,
    ⟨some (48, true), .mv 49 (.t 0)⟩,
    ⟨some (48, true), .ln 50 .fn (.t 49)⟩,
    ⟨some (48, true), .bi 51 .leq (.t 50) (.c (.int .i64 32))⟩,
    ⟨none, .pk 52 (.t 48) (.t 51) (.c (.bool false))⟩,
    ⟨none, .mv 2 (.t 52)⟩])
  (.ret)))
theorem comp83 : compFn Try.prog [] Try.f83 = some ([.t 2], c83) := by kernel_rfl
/-- topiary/ident.replica: 1 parameters, 9 slots. -/
def c84 : C :=
  .seq (.ops [⟨none, .mv 2 (.c (.bool false))⟩])
  (.seq (.ops [⟨none, .mv 3 (.t 0)⟩,
    ⟨none, .bi 4 .geq (.t 3) (.c (.int .i64 0))⟩,
    ⟨none, .mv 5 (.t 4)⟩,
    ⟨some (5, true), .mv 6 (.t 0)⟩,
    ⟨some (5, true), .bi 7 .lss (.t 6) (.c (.int .i64 64))⟩,
    ⟨none, .pk 8 (.t 5) (.t 7) (.c (.bool false))⟩,
    ⟨none, .mv 2 (.t 8)⟩])
  (.ret))
theorem comp84 : compFn Try.prog [] Try.f84 = some ([.t 2], c84) := by kernel_rfl
/-- topiary/ident.Node: 1 parameters, 15 slots. -/
def c85 : C :=
  .seq (.ops [⟨none, .bxL 1 (.t 0)⟩,
    ⟨none, .mv 2 (.c (.bool false))⟩])
  (.seq (.ops [⟨none, .ld 3 (.t 1) 2 true⟩,
    ⟨none, .ca (some 4) 66 [(.t 3)]⟩,
    ⟨none, .mv 5 (.t 4)⟩,
    ⟨some (5, false), .ld 6 (.t 1) 2 true⟩,
    ⟨some (5, false), .bld 7 [.int .i64 0, .int .i64 0] []⟩,
    ⟨some (5, false), .be 8 false [.int .i64, .int .i64] (.t 6) (.t 7)⟩,
    ⟨none, .pk 9 (.t 5) (.c (.bool true)) (.t 8)⟩,
    ⟨none, .mv 10 (.t 9)⟩,
    ⟨some (10, false), .ld 11 (.t 1) 2 true⟩,
    ⟨some (10, false), .bld 12 [.int .i64 0, .int .i64 0] [(1, 1, (.c (.int .i64 1)))]⟩,
    ⟨some (10, false), .be 13 false [.int .i64, .int .i64] (.t 11) (.t 12)⟩,
    ⟨none, .pk 14 (.t 10) (.c (.bool true)) (.t 13)⟩,
    ⟨none, .mv 2 (.t 14)⟩])
  (.ret))
theorem comp85 : compFn Try.prog [1] Try.f85 = some ([.t 2], c85) := by kernel_rfl
/-- topiary/change.Name: 1 parameters, 50 slots. -/
def c86 : C :=
  .seq (.ops [⟨none, .mv 2 (.c (.bool false))⟩])
  (.seq (.seq (.ops [⟨none, .mv 5 (.t 0)⟩,
    ⟨none, .ln 6 .fn (.t 5)⟩,
    ⟨none, .bi 7 .eql (.t 6) (.c (.int .i64 0))⟩,
    ⟨none, .mv 8 (.t 7)⟩,
    ⟨some (8, false), .mv 9 (.t 0)⟩,
    ⟨some (8, false), .ln 10 .fn (.t 9)⟩,
    ⟨some (8, false), .bi 11 .gtr (.t 10) (.c (.int .i64 32))⟩,
    ⟨none, .pk 12 (.t 8) (.c (.bool true)) (.t 11)⟩,
    ⟨none, .mv 13 (.t 12)⟩,
    ⟨some (13, false), .mv 14 (.t 0)⟩,
    ⟨some (13, false), .ix 15 (.t 14) (.c (.int .i64 0))⟩,
    ⟨some (13, false), .bi 16 .lss (.t 15) (.c (.int .u8 97))⟩,
    ⟨none, .pk 17 (.t 13) (.c (.bool true)) (.t 16)⟩,
    ⟨none, .mv 18 (.t 17)⟩,
    ⟨some (18, false), .mv 19 (.t 0)⟩,
    ⟨some (18, false), .ix 20 (.t 19) (.c (.int .i64 0))⟩,
    ⟨some (18, false), .bi 21 .gtr (.t 20) (.c (.int .u8 122))⟩,
    ⟨none, .pk 22 (.t 18) (.c (.bool true)) (.t 21)⟩])
  (.cond (.t 22) (.seq (.ops [⟨none, .mv 2 (.c (.bool false))⟩])
    (.ret))
    (.skip)))
  (.seq (.seq (.ops [⟨none, .mv 23 (.t 0)⟩,
    ⟨none, .ln 24 .fn (.t 23)⟩,
    ⟨none, .mv 25 (.c (.int .i64 0))⟩])
  (.block 0 (.loop (.seq (.ops [⟨none, .bi 26 .lss (.t 25) (.t 24)⟩])
  (.seq (.cond (.t 26) (.skip)
    (.exit 0))
  (.seq (.block 1 (.seq (.ops [⟨none, .mv 27 (.t 25)⟩,
    ⟨none, .mv 3 (.t 27)⟩])
  (.seq (.ops [⟨none, .mv 28 (.t 0)⟩,
    ⟨none, .mv 29 (.t 3)⟩,
    ⟨none, .ix 30 (.t 28) (.t 29)⟩,
    ⟨none, .mv 4 (.t 30)⟩])
  (.seq (.ops [⟨none, .mv 31 (.t 4)⟩,
    ⟨none, .bi 32 .lss (.t 31) (.c (.int .u8 97))⟩,
    ⟨none, .mv 33 (.t 32)⟩,
    ⟨some (33, false), .mv 34 (.t 4)⟩,
    ⟨some (33, false), .bi 35 .gtr (.t 34) (.c (.int .u8 122))⟩,
    ⟨none, .pk 36 (.t 33) (.c (.bool true)) (.t 35)⟩,
    ⟨none, .mv 37 (.t 36)⟩,
    ⟨some (37, true), .mv 38 (.t 4)⟩,
    ⟨some (37, true), .bi 39 .lss (.t 38) (.c (.int .u8 48))⟩,
    ⟨some (37, true), .mv 40 (.t 39)⟩,
    ⟨some (40, false), .mv 41 (.t 4)⟩,
    ⟨some (40, false), .bi 42 .gtr (.t 41) (.c (.int .u8 57))⟩,
    ⟨some (37, true), .pk 43 (.t 40) (.c (.bool true)) (.t 42)⟩,
    ⟨none, .pk 44 (.t 37) (.t 43) (.c (.bool false))⟩,
    ⟨none, .mv 45 (.t 44)⟩,
    ⟨some (45, true), .mv 46 (.t 4)⟩,
    ⟨some (45, true), .bi 47 .neq (.t 46) (.c (.int .u8 45))⟩,
    ⟨none, .pk 48 (.t 45) (.t 47) (.c (.bool false))⟩])
  (.cond (.t 48) (.seq (.ops [⟨none, .mv 2 (.c (.bool false))⟩])
    (.ret))
    (.skip))))))
  (.ops [⟨none, .bi 49 .add (.t 25) (.c (.int .i64 1))⟩,
    ⟨none, .mv 25 (.t 49)⟩])))))))
  (.seq (.ops [⟨none, .mv 2 (.c (.bool true))⟩])
  (.ret))))
theorem comp86 : compFn Try.prog [] Try.f86 = some ([.t 2], c86) := by kernel_rfl
/-- slices.Equal[[]int,int]: 2 parameters, 26 slots. -/
def c87 : C :=
  .seq (.ops [⟨none, .mv 4 (.c (.bool false))⟩])
  (.seq (.seq (.ops [⟨none, .mv 6 (.t 0)⟩,
    ⟨none, .ln 7 .sl (.t 6)⟩,
    ⟨none, .mv 8 (.t 1)⟩,
    ⟨none, .ln 9 .sl (.t 8)⟩,
    ⟨none, .bi 10 .neq (.t 7) (.t 9)⟩])
  (.cond (.t 10) (.seq (.ops [⟨none, .mv 4 (.c (.bool false))⟩])
    (.ret))
    (.skip)))
  (.seq (.seq (.ops [⟨none, .mv 11 (.t 0)⟩,
    ⟨none, .ln 12 .sl (.t 11)⟩,
    ⟨none, .mv 13 (.c (.int .i64 0))⟩])
  (.block 0 (.loop (.seq (.ops [⟨none, .bi 14 .lss (.t 13) (.t 12)⟩])
  (.seq (.cond (.t 14) (.skip)
    (.exit 0))
  (.seq (.block 1 (.seq (.ops [⟨none, .mv 15 (.t 13)⟩,
    ⟨none, .mv 5 (.t 15)⟩])
  (.seq (.opsD [⟨none, .mv 16 (.t 0)⟩,
    ⟨none, .mv 17 (.t 5)⟩,
    ⟨none, .ia 18 (.t 16) (.t 17) 1⟩,
    ⟨none, .ld 19 (.t 18) 1 false⟩,
    ⟨none, .mv 20 (.t 1)⟩,
    ⟨none, .mv 21 (.t 5)⟩,
    ⟨none, .ia 22 (.t 20) (.t 21) 1⟩,
    ⟨none, .ld 23 (.t 22) 1 false⟩,
    ⟨none, .bi 24 .neq (.t 19) (.t 23)⟩])
  (.cond (.t 24) (.seq (.ops [⟨none, .mv 4 (.c (.bool false))⟩])
    (.ret))
    (.skip)))))
  (.ops [⟨none, .bi 25 .add (.t 13) (.c (.int .i64 1))⟩,
    ⟨none, .mv 13 (.t 25)⟩])))))))
  (.seq (.ops [⟨none, .mv 4 (.c (.bool true))⟩])
  (.ret))))
theorem comp87 : compFn Try.prog [] Try.f87 = some ([.t 4], c87) := by kernel_rfl
/-- topiary/ident.Rising$1: 2 parameters, 8 slots. -/
def c89 : C :=
  .seq (.ops [⟨none, .bxL 2 (.t 0)⟩,
    ⟨none, .bxL 3 (.t 1)⟩,
    ⟨none, .mv 4 (.c (.int .i64 0))⟩])
  (.seq (.ops [⟨none, .ld 5 (.t 2) 2 true⟩,
    ⟨none, .ld 6 (.t 3) 2 true⟩,
    ⟨none, .ca (some 7) 77 [(.t 5), (.t 6)]⟩,
    ⟨none, .mv 4 (.t 7)⟩])
  (.ret))
theorem comp89 : compFn Try.prog [2, 3] Try.f89 = some ([.t 4], c89) := by kernel_rfl
/-- topiary/ident.Rising$2: 1 parameters, 16 slots. -/
def c91 : C :=
  .seq (.ops [⟨none, .ld 5 (.t 1) 1 false⟩,
    ⟨none, .ln 6 .sl (.t 5)⟩,
    ⟨none, .mv 7 (.c (.int .i64 0))⟩])
  (.block 0 (.loop (.seq (.ops [⟨none, .bi 8 .lss (.t 7) (.t 6)⟩])
  (.seq (.cond (.t 8) (.skip)
    (.exit 0))
  (.seq (.block 1 (.seq (.ops [⟨none, .ia 9 (.t 5) (.t 7) 2⟩,
    ⟨none, .ld 10 (.t 9) 2 true⟩,
    ⟨none, .alL 4 [.int .i64 0, .int .i64 0]⟩,
    ⟨none, .st (.t 4) (.t 10) 2⟩])
  (.seq (.ops [⟨none, .mv 11 (.t 0)⟩,
    ⟨none, .ld 12 (.t 4) 2 true⟩,
    ⟨none, .cv (some 13) (.t 11) [(.t 12)]⟩,
    ⟨none, .un 14 .not (.t 13)⟩])
  (.cond (.t 14) (.ret)
    (.skip)))))
  (.ops [⟨none, .bi 15 .add (.t 7) (.c (.int .i64 1))⟩,
    ⟨none, .mv 7 (.t 15)⟩]))))))
theorem comp91 : compFn Try.prog [4] Try.f91 = some ([], c91) := by kernel_rfl
/-- topiary/ident.Sort: 1 parameters, 14 slots. -/
def c92 : C :=
  .seq (.ops [⟨none, .mv 2 (.c (.sl true .pub 2 []))⟩])
  (.seq (.ops [⟨none, .lit 5 2 []⟩,
    ⟨none, .alH 3 [.sl true .pub 0 []]⟩,
    ⟨none, .st (.t 3) (.t 5) 1⟩])
  (.seq (.seq (.ops [⟨none, .mv 6 (.t 0)⟩,
    ⟨none, .ca (some 7) 73 [(.t 6)]⟩])
  (.block 0 (.range (.t 7) [8] (.ops [⟨none, .alL 4 [.int .i64 0, .int .i64 0]⟩,
    ⟨none, .st (.t 4) (.t 8) 2⟩])
  (.block 1 (.ops [⟨none, .ld 9 (.t 3) 1 false⟩,
    ⟨none, .ld 10 (.t 4) 2 true⟩,
    ⟨none, .lit 11 2 [(.t 10)]⟩,
    ⟨none, .ap 12 2 (.t 9) (.t 11)⟩,
    ⟨none, .st (.t 3) (.t 12) 1⟩])))))
  (.seq (.ops [⟨none, .ld 13 (.t 3) 1 false⟩,
    ⟨none, .mv 2 (.t 13)⟩])
  (.ret))))
theorem comp92 : compFn Try.prog [4] Try.f92 = some ([.t 2], c92) := by kernel_rfl
/-- topiary/topiaryref05.ahead: 2 parameters, 12 slots. -/
def c94 : C :=
  .seq (.ops [⟨none, .bxL 2 (.t 0)⟩,
    ⟨none, .bxL 3 (.t 1)⟩,
    ⟨none, .mv 4 (.c (.bool false))⟩])
  (.seq (.ops [⟨none, .ld 5 (.t 2) 2 true⟩,
    ⟨none, .ca (some 6) 57 [(.t 5)]⟩,
    ⟨none, .mv 7 (.t 6)⟩,
    ⟨some (7, true), .ld 8 (.t 2) 2 true⟩,
    ⟨some (7, true), .ld 9 (.t 3) 2 true⟩,
    ⟨some (7, true), .ca (some 10) 26 [(.t 8), (.t 9)]⟩,
    ⟨none, .pk 11 (.t 7) (.t 10) (.c (.bool false))⟩,
    ⟨none, .mv 4 (.t 11)⟩])
  (.ret))
theorem comp94 : compFn Try.prog [2, 3] Try.f94 = some ([.t 4], c94) := by kernel_rfl
/-- topiary/topiaryref01.Node: 1 parameters, 20 slots. -/
def c95 : C :=
  .seq (.ops [⟨none, .bxL 1 (.t 0)⟩,
    ⟨none, .mv 2 (.c (.bool false))⟩])
  (.seq (.ops [⟨none, .ld 3 (.t 1) 2 true⟩,
    ⟨none, .ca (some 4) 57 [(.t 3)]⟩,
    ⟨none, .mv 5 (.t 4)⟩,
    ⟨some (5, false), .fa 6 (.t 1) 0⟩,
    ⟨some (5, false), .ld 7 (.t 6) 1 false⟩,
    ⟨some (5, false), .bi 8 .eql (.t 7) (.c (.int .i64 0))⟩,
    ⟨some (5, false), .mv 9 (.t 8)⟩,
    ⟨some (9, true), .fa 10 (.t 1) 1⟩,
    ⟨some (9, true), .ld 11 (.t 10) 1 false⟩,
    ⟨some (9, true), .bi 12 .eql (.t 11) (.c (.int .i64 0))⟩,
    ⟨some (9, true), .mv 13 (.t 12)⟩,
    ⟨some (13, false), .fa 14 (.t 1) 1⟩,
    ⟨some (13, false), .ld 15 (.t 14) 1 false⟩,
    ⟨some (13, false), .bi 16 .eql (.t 15) (.c (.int .i64 1))⟩,
    ⟨some (9, true), .pk 17 (.t 13) (.c (.bool true)) (.t 16)⟩,
    ⟨some (5, false), .pk 18 (.t 9) (.t 17) (.c (.bool false))⟩,
    ⟨none, .pk 19 (.t 5) (.c (.bool true)) (.t 18)⟩,
    ⟨none, .mv 2 (.t 19)⟩])
  (.ret))
theorem comp95 : compFn Try.prog [1] Try.f95 = some ([.t 2], c95) := by kernel_rfl
end Go.VL.opl

namespace Go.VL.opl
open Go Go.VL Go.Proofs Go.IntWalk

def right (c r : Int) : Bool := decide (1 ≤ c) && (decide (c ≤ 1099511627776) && (decide (0 ≤ r) && decide (r < 64)))
def stV (c r : Int) : V := .agg [.int .i64 c, .int .i64 r]

section
variable {σ : St} {c r a1 a2 b1 b2 : Int}
set_option maxRecDepth 100000 in
theorem replica_ok : CallA Try.prog 84 [.int .i64 r] σ fun v σ' => σ' = σ ∧ v = .bool (decide (0 ≤ r) && decide (r < 64)) := by
  refine fn_at Try.func84 (by decide) comp84 rfl fun Q q1 q2 => ?_
  cases h1 : decide (0 ≤ r) <;> cases h2 : decide (r < 64)
  all_goals
    rw [h1, h2] at q2
    simp -implicitDefEqProofs only [go_sem, Nat.reduceBEq, Nat.reduceAdd, eq_self, true_and, and_self, c84, h1, h2]
    refine q2 _ _ ?_
    simp -implicitDefEqProofs only [go_sem, Nat.reduceBEq, Nat.reduceAdd]
    first | exact ⟨trivial, trivial⟩ | exact ⟨trivial, rfl⟩ | exact ⟨rfl, rfl⟩ | exact ⟨rfl, trivial⟩ | trivial
set_option maxRecDepth 100000 in
theorem right_ok : CallA Try.prog 66 [stV c r] σ fun v σ' => σ' = σ ∧ v = .bool (right c r) := by
  refine fn_at Try.func66 (by decide) comp66 rfl fun Q q1 q2 => ?_
  simp only [right] at q2
  cases h1 : decide (1 ≤ c) <;> cases h2 : decide (c ≤ 1099511627776)
  case true.true =>
    rw [h1, h2] at q2
    simp -implicitDefEqProofs only [go_sem, Nat.reduceBEq, Nat.reduceAdd, eq_self, true_and, and_self, c66, stV, h1, h2]
    refine call_at replica_ok ?_
    rintro v σ' ⟨rfl, rfl⟩
    refine ⟨kept_none, ?_⟩
    simp -implicitDefEqProofs only [go_sem, Nat.reduceBEq, Nat.reduceAdd]
    refine q2 _ _ ?_
    simp -implicitDefEqProofs only [go_sem, Nat.reduceBEq, Nat.reduceAdd]
    first | exact ⟨trivial, trivial⟩ | exact ⟨trivial, rfl⟩ | exact ⟨rfl, rfl⟩ | exact ⟨rfl, trivial⟩ | trivial
  all_goals
    rw [h1, h2] at q2
    simp -implicitDefEqProofs only [go_sem, Nat.reduceBEq, Nat.reduceAdd, eq_self, true_and, and_self, c66, stV, h1, h2]
    refine q2 _ _ ?_
    simp -implicitDefEqProofs only [go_sem, Nat.reduceBEq, Nat.reduceAdd]
    first | exact ⟨trivial, trivial⟩ | exact ⟨trivial, rfl⟩ | exact ⟨rfl, rfl⟩ | exact ⟨rfl, trivial⟩ | trivial
set_option maxRecDepth 100000 in
theorem rright_ok : CallA Try.prog 57 [stV c r] σ fun v σ' => σ' = σ ∧ v = .bool (right c r) := by
  refine fn_at Try.func57 (by decide) comp57 rfl fun Q q1 q2 => ?_
  simp only [right] at q2
  cases h1 : decide (1 ≤ c) <;> cases h2 : decide (c ≤ 1099511627776) <;> cases h3 : decide (0 ≤ r) <;> cases h4 : decide (r < 64)
  all_goals
    rw [h1, h2, h3, h4] at q2
    simp -implicitDefEqProofs only [go_sem, Nat.reduceBEq, Nat.reduceAdd, eq_self, true_and, and_self, c57, stV, h1, h2, h3, h4]
    refine q2 _ _ ?_
    simp -implicitDefEqProofs only [go_sem, Nat.reduceBEq, Nat.reduceAdd]
    first | exact ⟨trivial, trivial⟩ | exact ⟨trivial, rfl⟩ | exact ⟨rfl, rfl⟩ | exact ⟨rfl, trivial⟩ | trivial

def less (a1 a2 b1 b2 : Int) : Bool := decide (a1 < b1) || (decide (a1 = b1) && decide (a2 < b2))
def cmp (a1 a2 b1 b2 : Int) : Int := bif decide (a1 = b1) && decide (a2 = b2) then 0 else bif less a1 a2 b1 b2 then -1 else 1

set_option maxRecDepth 100000 in
theorem compare_ok : CallA Try.prog 77 [stV a1 a2, stV b1 b2] σ fun v σ' => σ' = σ ∧ v = .int .i64 (cmp a1 a2 b1 b2) := by
  refine fn_at Try.func77 (by decide) comp77 rfl fun Q q1 q2 => ?_
  simp only [cmp, less] at q2
  cases h1 : decide (a1 = b1) <;> cases h2 : decide (a2 = b2) <;> cases h3 : decide (a1 < b1) <;> cases h4 : decide (a2 < b2)
  all_goals
    rw [h1, h2, h3, h4] at q2
    simp -implicitDefEqProofs only [go_sem, Nat.reduceBEq, Nat.reduceAdd, eq_self, true_and, and_self, c77, stV, h1, h2, h3, h4, V.eqs, V.eq]
    refine q2 _ _ ?_
    simp -implicitDefEqProofs only [go_sem, Nat.reduceBEq, Nat.reduceAdd]
    first | exact ⟨trivial, trivial⟩ | exact ⟨trivial, rfl⟩ | exact ⟨rfl, rfl⟩ | exact ⟨rfl, trivial⟩ | trivial
set_option maxRecDepth 100000 in
theorem less_ok : CallA Try.prog 26 [stV a1 a2, stV b1 b2] σ fun v σ' => σ' = σ ∧ v = .bool (less a1 a2 b1 b2) := by
  refine fn_at Try.func26 (by decide) comp26 rfl fun Q q1 q2 => ?_
  simp only [less] at q2
  cases h1 : decide (a1 = b1) <;> cases h3 : decide (a1 < b1) <;> cases h4 : decide (a2 < b2)
  all_goals
    rw [h1, h3, h4] at q2
    simp -implicitDefEqProofs only [go_sem, Nat.reduceBEq, Nat.reduceAdd, eq_self, true_and, and_self, c26, stV, h1, h3, h4]
    refine q2 _ _ ?_
    simp -implicitDefEqProofs only [go_sem, Nat.reduceBEq, Nat.reduceAdd]
    first | exact ⟨trivial, trivial⟩ | exact ⟨trivial, rfl⟩ | exact ⟨rfl, rfl⟩ | exact ⟨rfl, trivial⟩ | trivial
end
end Go.VL.opl

namespace Go.VL.opl
open Go Go.VL Go.Proofs Go.IntWalk

def letter (c : UInt8) : Bool := !(decide ((c.toNat : Int) < 97) || decide ((122 : Int) < c.toNat))
def okc (c : UInt8) : Bool := !((decide ((c.toNat : Int) < 97) || decide ((122 : Int) < c.toNat)) && ((decide ((c.toNat : Int) < 48) || decide ((57 : Int) < c.toNat)) && !decide ((c.toNat : Int) = 45)))
def nameB : List UInt8 → Bool
  | [] => false
  | c :: r => decide (((c :: r).length : Int) ≤ 32) && (letter c && (c :: r).all okc)
theorem letter_okc {c : UInt8} (h : letter c = true) : okc c = true := by
  unfold letter at h
  simp only [Bool.not_eq_true'] at h
  simp [okc, h]
theorem all_take {s : List UInt8} {f : UInt8 → Bool} {i : Nat} (hi : i < s.length) : (s.take (i + 1)).all f = ((s.take i).all f && f s[i]) := by
  rw [List.take_succ_eq_append_getElem hi, List.all_append]; simp
theorem all_bad {s : List UInt8} {f : UInt8 → Bool} {i : Nat} (hi : i < s.length) (h : f s[i] = false) : s.all f = false := by
  rw [List.all_eq_false]
  exact ⟨s[i], List.getElem_mem hi, by simp [h]⟩

section
variable {σ : St} {s : List UInt8}
set_option maxRecDepth 100000 in
set_option maxHeartbeats 1600000 in
theorem name_ok (hlen : s.length < 4611686018427387904) : CallA Try.prog 86 [.str s] σ fun v σ' => σ' = σ ∧ v = .bool (nameB s) := by
  refine fn_at Try.func86 (by decide) comp86 rfl fun Q q1 q2 => ?_
  cases s with
  | nil =>
    have h0 : decide (((0 : Nat) : Int) = 0) = true := by decide
    simp -implicitDefEqProofs only [go_sem, Nat.reduceBEq, Nat.reduceAdd, eq_self, true_and, and_self, c86, h0]
    refine q2 _ _ ?_
    simp -implicitDefEqProofs only [go_sem, Nat.reduceBEq, Nat.reduceAdd]
    first | exact ⟨trivial, trivial⟩ | exact ⟨trivial, rfl⟩ | exact ⟨rfl, rfl⟩ | exact ⟨rfl, trivial⟩ | trivial
  | cons c r =>
    have h0 : decide (((c :: r).length : Int) = 0) = false := by simp; omega
    have hg : ((c :: r)[Int.toNat 0]?.getD 0) = c := rfl
    have hl : ((c :: r).length : Int) = ((r.length + 1 : Nat) : Int) := rfl
    generalize hs : c :: r = s at h0 hg hl hlen q1 q2 ⊢
    have hn : nameB s = (decide ((s.length : Int) ≤ 32) && (letter c && s.all okc)) := by rw [← hs]; rfl
    have d1 : decide ((32 : Int) < s.length) = !decide ((s.length : Int) ≤ 32) := by
      by_cases h : (s.length : Int) ≤ 32 <;> simp [h] <;> omega
    have hpos : (0 : Int) ≤ 0 ∧ (0 : Int) < s.length := by omega
    rw [hn] at q2
    cases h1 : decide ((s.length : Int) ≤ 32)
    · rw [h1] at q2
      simp -implicitDefEqProofs only [go_sem, Nat.reduceBEq, Nat.reduceAdd, eq_self, true_and, and_self, c86, h0, d1, h1]
      refine q2 _ _ ?_
      simp -implicitDefEqProofs only [go_sem, Nat.reduceBEq, Nat.reduceAdd]
      first | exact ⟨trivial, trivial⟩ | exact ⟨trivial, rfl⟩ | exact ⟨rfl, rfl⟩ | exact ⟨rfl, trivial⟩ | trivial
    unfold letter at q2
    cases h2 : decide ((c.toNat : Int) < 97) <;> cases h3 : decide ((122 : Int) < c.toNat)
    case true.true | true.false | false.true =>
      rw [h1, h2, h3] at q2
      simp -implicitDefEqProofs only [go_sem, Nat.reduceBEq, Nat.reduceAdd, eq_self, true_and, and_self, c86, h0, d1, h1, hg, h2, h3]
      refine ⟨hpos, ?_⟩
      try refine ⟨hpos, ?_⟩
      refine q2 _ _ ?_
      simp -implicitDefEqProofs only [go_sem, Nat.reduceBEq, Nat.reduceAdd]
      first | exact ⟨trivial, trivial⟩ | exact ⟨trivial, rfl⟩ | exact ⟨rfl, rfl⟩ | exact ⟨rfl, trivial⟩ | trivial
    rw [h1, h2, h3] at q2
    simp -implicitDefEqProofs only [go_sem, Nat.reduceBEq, Nat.reduceAdd, eq_self, true_and, and_self, c86, h0, d1, h1, hg, h2, h3]
    refine ⟨hpos, hpos, ?_⟩
    refine loop_at (fun (i : Nat) => ⟨[(0, .v (.str s)), (24, .v (.int .i64 s.length)), (25, .v (.int .i64 i))], []⟩) (fun i τ => τ = σ ∧ i ≤ s.length ∧ (s.take i).all okc = true) (fun i => s.length - i) 0 ?_ ?_ ?_
    · exact .inr (by simp [go_sem])
    · exact ⟨rfl, Nat.zero_le _, by simp⟩
    rintro i τ ⟨rfl, g1, g2⟩ Z z1 z2 z3
    simp -implicitDefEqProofs only [go_sem, Nat.reduceBEq, Nat.reduceAdd]
    refine CondW_b (fun hc => ?_) (fun hc => ?_)
    · have hi : i < s.length := by simpa using hc
      have hget : (s[((i : Nat) : Int).toNat]?.getD 0) = s[i] := by simp [hi]
      have hb : (0 : Int) ≤ i ∧ (i : Int) < s.length := by omega
      have hbad := fun h => all_bad (f := okc) hi h
      have hall := all_take (f := okc) hi
      rw [g2, Bool.true_and] at hall
      generalize s[i] = x at hget hbad hall
      have hx : okc x = !((decide ((x.toNat : Int) < 97) || decide ((122 : Int) < x.toNat)) && ((decide ((x.toNat : Int) < 48) || decide ((57 : Int) < x.toNat)) && !decide ((x.toNat : Int) = 45))) := rfl
      cases e1 : decide ((x.toNat : Int) < 97) <;> cases e2 : decide ((122 : Int) < x.toNat) <;> cases e3 : decide ((x.toNat : Int) < 48) <;> cases e4 : decide ((57 : Int) < x.toNat) <;> cases e5 : decide ((x.toNat : Int) = 45)
      all_goals
        rw [e1, e2, e3, e4, e5] at hx
        simp -implicitDefEqProofs only [go_sem, Nat.reduceBEq, Nat.reduceAdd, eq_self, true_and, and_self, hget, e1, e2, e3, e4, e5]
        refine ⟨hb, ?_⟩
        first
        | (rw [hbad hx] at q2
           refine z3 _ _ ?_
           simp -implicitDefEqProofs only [go_sem, Nat.reduceBEq, Nat.reduceAdd]
           refine q2 _ _ ?_
           simp -implicitDefEqProofs only [go_sem, Nat.reduceBEq, Nat.reduceAdd]
           first | exact ⟨trivial, trivial⟩ | exact ⟨trivial, rfl⟩ | exact ⟨rfl, rfl⟩ | exact ⟨rfl, trivial⟩ | trivial)
        | (refine z1 (i + 1) _ _ (.inr ?_) (by omega) ⟨rfl, by omega, by rw [hall]; exact hx⟩
           simp -implicitDefEqProofs only [go_sem, Nat.reduceBEq, Nat.reduceAdd, and_true]
           rw [i64_in _ (by omega)]; simp)
    · have hi : ¬ (i < s.length) := by simpa using hc
      simp -implicitDefEqProofs only [go_sem, Nat.reduceBEq, Nat.reduceAdd]
      refine z2 _ _ _ ?_
      simp -implicitDefEqProofs only [go_sem, Nat.reduceBEq, Nat.reduceAdd]
      rw [List.take_of_length_le (by omega)] at g2
      rw [g2] at q2
      refine q2 _ _ ?_
      simp -implicitDefEqProofs only [go_sem, Nat.reduceBEq, Nat.reduceAdd]
      first | exact ⟨trivial, trivial⟩ | exact ⟨trivial, rfl⟩ | exact ⟨rfl, rfl⟩ | exact ⟨rfl, trivial⟩ | trivial

set_option maxRecDepth 100000 in
set_option maxHeartbeats 3200000 in
theorem rname_ok (hlen : s.length < 4611686018427387904) : CallA Try.prog 83 [.str s] σ fun v σ' => σ' = σ ∧ v = .bool (nameB s) := by
  refine fn_at Try.func83 (by decide) comp83 rfl fun Q q1 q2 => ?_
  simp -implicitDefEqProofs only [go_sem, Nat.reduceBEq, Nat.reduceAdd, c83]
  refine loop_at (fun (i : Nat) => ⟨[(0, .v (.str s)), (3, .v (.int .i64 i))], []⟩) (fun i τ => τ = σ ∧ i ≤ s.length ∧ (0 < i → (s.take i).all okc = true ∧ nameB s = (decide ((s.length : Int) ≤ 32) && s.all okc))) (fun i => s.length - i) 0 ?_ ?_ ?_
  · exact .inr (by simp [go_sem])
  · exact ⟨rfl, Nat.zero_le _, fun h => absurd h (Nat.lt_irrefl 0)⟩
  rintro i τ ⟨rfl, g1, g2⟩ Z z1 z2 z3
  simp -implicitDefEqProofs only [go_sem, Nat.reduceBEq, Nat.reduceAdd]
  refine CondW_b (fun hc => ?_) (fun hc => ?_)
  · have hi : i < s.length := by simpa using hc
    have hget : (s[((i : Nat) : Int).toNat]?.getD 0) = s[i] := by simp [hi]
    have hb : (0 : Int) ≤ i ∧ (i : Int) < s.length := by omega
    have hbad := fun h => all_bad (f := okc) hi h
    have hall := all_take (f := okc) hi
    have hfirst : i = 0 → nameB s = (decide ((s.length : Int) ≤ 32) && (letter s[i] && s.all okc)) := by
      intro e
      subst e
      cases s with
      | nil => simp at hi
      | cons c r => rfl
    generalize s[i] = x at hget hbad hall hfirst
    have hx : okc x = !((decide ((x.toNat : Int) < 97) || decide ((122 : Int) < x.toNat)) && ((decide ((x.toNat : Int) < 48) || decide ((57 : Int) < x.toNat)) && !decide ((x.toNat : Int) = 45))) := rfl
    have hy : letter x = !(decide ((x.toNat : Int) < 97) || decide ((122 : Int) < x.toNat)) := rfl
    have f1 : decide ((97 : Int) ≤ x.toNat) = !decide ((x.toNat : Int) < 97) := by by_cases h : (x.toNat : Int) < 97 <;> simp [h] <;> omega
    have f2 : decide ((x.toNat : Int) ≤ 122) = !decide ((122 : Int) < x.toNat) := by by_cases h : (122 : Int) < x.toNat <;> simp [h] <;> omega
    have next : okc x = true → (i = 0 → letter x = true) → Z .normal ⟨[(0, .v (.str s)), (3, .v (.int .i64 ((i + 1 : Nat) : Int)))], []⟩ τ := by
      intro h1 h2
      refine z1 (i + 1) _ _ (.inl rfl) (by omega) ⟨rfl, by omega, fun _ => ⟨?_, ?_⟩⟩
      · rw [hall, h1, Bool.and_true]
        by_cases e : i = 0
        · subst e; simp
        · exact (g2 (by omega)).1
      · by_cases e : i = 0
        · rw [hfirst e, h2 e, Bool.true_and]
        · exact (g2 (by omega)).2
    by_cases hi0 : i = 0
    · have e0 : decide ((i : Int) = 0) = true := by simp [hi0]
      have hf := hfirst hi0
      cases e1 : decide ((x.toNat : Int) < 97) <;> cases e2 : decide ((122 : Int) < x.toNat)
      all_goals
        rw [e1, e2] at hy
        simp -implicitDefEqProofs only [go_sem, Nat.reduceBEq, Nat.reduceAdd, eq_self, true_and, and_self, hget, f1, f2, e1, e2, e0]
        first
        | (refine ⟨hb, ?_⟩
           try refine ⟨hb, ?_⟩
           rw [hf, hy] at q2
           refine z3 _ _ ?_
           simp -implicitDefEqProofs only [go_sem, Nat.reduceBEq, Nat.reduceAdd]
           refine q2 _ _ ?_
           simp -implicitDefEqProofs only [go_sem, Nat.reduceBEq, Nat.reduceAdd, Bool.not_true, Bool.or_true, Bool.true_or, Bool.and_false, Bool.false_and]
           first | exact ⟨trivial, trivial⟩ | exact ⟨trivial, rfl⟩ | exact ⟨rfl, rfl⟩ | exact ⟨rfl, trivial⟩ | trivial)
        | (refine ⟨hb, hb, ?_⟩
           refine z1 (i + 1) _ _ (.inr ?_) (by omega) ⟨rfl, by omega, fun _ => ⟨?_, ?_⟩⟩
           · simp -implicitDefEqProofs only [go_sem, Nat.reduceBEq, Nat.reduceAdd, and_true]
             rw [i64_in _ (by omega)]; simp
           · rw [hall, letter_okc hy, Bool.and_true, hi0]; simp
           · rw [hf, hy]; simp)
    · have e0 : decide ((i : Int) = 0) = false := by simp [hi0]
      obtain ⟨g3, g4⟩ := g2 (by omega)
      rw [g3, Bool.true_and] at hall
      cases e1 : decide ((x.toNat : Int) < 97) <;> cases e2 : decide ((122 : Int) < x.toNat) <;> cases e3 : decide ((x.toNat : Int) < 48) <;> cases e4 : decide ((57 : Int) < x.toNat) <;> cases e5 : decide ((x.toNat : Int) = 45)
      all_goals
        rw [e1, e2, e3, e4, e5] at hx
        simp -implicitDefEqProofs only [go_sem, Nat.reduceBEq, Nat.reduceAdd, eq_self, true_and, and_self, hget, f1, f2, e1, e2, e3, e4, e5, e0]
        refine ⟨hb, ?_⟩
        try refine ⟨hb, ?_⟩
        try refine ⟨hb, ?_⟩
        try refine ⟨hb, ?_⟩
        try refine ⟨hb, ?_⟩
        first
        | (rw [g4, hbad hx, Bool.and_false] at q2
           refine z3 _ _ ?_
           simp -implicitDefEqProofs only [go_sem, Nat.reduceBEq, Nat.reduceAdd]
           refine q2 _ _ ?_
           simp -implicitDefEqProofs only [go_sem, Nat.reduceBEq, Nat.reduceAdd]
           first | exact ⟨trivial, trivial⟩ | exact ⟨trivial, rfl⟩ | exact ⟨rfl, rfl⟩ | exact ⟨rfl, trivial⟩ | trivial)
        | (refine z1 (i + 1) _ _ (.inr ?_) (by omega) ⟨rfl, by omega, fun _ => ⟨by rw [hall]; exact hx, g4⟩⟩
           simp -implicitDefEqProofs only [go_sem, Nat.reduceBEq, Nat.reduceAdd, and_true]
           rw [i64_in _ (by omega)]; simp)
  · have hi : ¬ (i < s.length) := by simpa using hc
    simp -implicitDefEqProofs only [go_sem, Nat.reduceBEq, Nat.reduceAdd]
    refine z2 _ _ _ ?_
    by_cases hs : s = []
    · subst hs
      have h0 : decide ((1 : Int) ≤ ((0 : Nat) : Int)) = false := by decide
      simp -implicitDefEqProofs only [go_sem, Nat.reduceBEq, Nat.reduceAdd, eq_self, true_and, and_self, h0]
      refine q2 _ _ ?_
      simp -implicitDefEqProofs only [go_sem, Nat.reduceBEq, Nat.reduceAdd]
      first | exact ⟨trivial, trivial⟩ | exact ⟨trivial, rfl⟩ | exact ⟨rfl, rfl⟩ | exact ⟨rfl, trivial⟩ | trivial
    · have hpos : 0 < s.length := by cases s <;> simp at hs ⊢
      obtain ⟨g3, g4⟩ := g2 (by omega)
      rw [List.take_of_length_le (by omega)] at g3
      rw [g4, g3, Bool.and_true] at q2
      have h0 : decide ((1 : Int) ≤ s.length) = true := by simp; omega
      cases h1 : decide ((s.length : Int) ≤ 32)
      all_goals
        rw [h1] at q2
        simp -implicitDefEqProofs only [go_sem, Nat.reduceBEq, Nat.reduceAdd, eq_self, true_and, and_self, h0, h1]
        refine q2 _ _ ?_
        simp -implicitDefEqProofs only [go_sem, Nat.reduceBEq, Nat.reduceAdd]
        first | exact ⟨trivial, trivial⟩ | exact ⟨trivial, rfl⟩ | exact ⟨rfl, rfl⟩ | exact ⟨rfl, trivial⟩ | trivial
end
end Go.VL.opl

namespace Go.VL.opl
open Go Go.VL Go.Proofs Go.IntWalk

theorem cmp_neg {a1 a2 b1 b2 : Int} : decide (cmp a1 a2 b1 b2 < 0) = less a1 a2 b1 b2 := by
  unfold cmp
  cases h : (decide (a1 = b1) && decide (a2 = b2)) with
  | true =>
    simp only [Bool.and_eq_true, decide_eq_true_eq] at h
    simp [less, h.1, h.2]
  | false => cases less a1 a2 b1 b2 <;> rfl
def zeroS (c r : Int) : Bool := decide (c = 0) && decide (r = 0)
def nodeS (c r : Int) : Bool := right c r || (zeroS c r || (decide (c = 0) && decide (r = 1)))
def aheadS (a1 a2 b1 b2 : Int) : Bool := right a1 a2 && less a1 a2 b1 b2

/-- A change. -/
structure Cg where
  ac : Int
  ar : Int
  seq : Int
  deps : List Int
  kind : Int
  nc : Int
  nr : Int
  pc : Int
  pr : Int
  fc : Int
  fr : Int
  name : List UInt8
  val : List UInt8
  deriving DecidableEq
def cgC (d : V) (c : Cg) : List V := [.int .i64 c.ac, .int .i64 c.ar, .int .i64 c.seq, d, .int .i64 c.kind, .int .i64 c.nc, .int .i64 c.nr, .int .i64 c.pc, .int .i64 c.pr, .int .i64 c.fc, .int .i64 c.fr, .str c.name, .str c.val]
def cgV (d : V) (c : Cg) : V := .agg (cgC d c)

def nodeB (c : Cg) : Bool := bif decide (c.kind = 1) then decide (c.nc = c.ac) && decide (c.nr = c.ar) else bif decide (c.kind = 2) then aheadS c.nc c.nr c.ac c.ar else zeroS c.nc c.nr || aheadS c.nc c.nr c.ac c.ar
def placeB (c : Cg) : Bool := bif !decide (c.kind = 1) && !decide (c.kind = 2) then zeroS c.pc c.pr && zeroS c.fc c.fr else
  bif !nodeS c.pc c.pr || (!less c.pc c.pr c.ac c.ar || (decide (c.pc = c.nc) && decide (c.pr = c.nr))) then false else zeroS c.fc c.fr || aheadS c.fc c.fr c.ac c.ar
def namedB (c : Cg) : Bool := decide (c.kind = 1) || (decide (c.kind = 3) || decide (c.kind = 4))
def valuedB (c : Cg) : Bool := decide (c.kind = 3) || decide (c.kind = 5)
def wordsI (c : Cg) : Int := bif (bif namedB c then !nameB c.name else !decide (c.name = [])) then 8 else bif decide ((256 : Int) < c.val.length) then 3 else bif !valuedB c && !decide (c.val = []) then 2 else 0

section
variable {σ : St} {c r a1 a2 b1 b2 : Int}
set_option maxRecDepth 100000 in
theorem iless_ok : CallA Try.prog 72 [stV a1 a2, stV b1 b2] σ fun v σ' => σ' = σ ∧ v = .bool (less a1 a2 b1 b2) := by
  refine fn_at Try.func72 (by decide) comp72 rfl fun Q q1 q2 => ?_
  simp -implicitDefEqProofs only [go_sem, Nat.reduceBEq, Nat.reduceAdd, eq_self, true_and, and_true, and_self, List.getElem?_cons_zero, List.getElem?_cons_succ, Nat.reduceLeDiff, Nat.zero_add, Nat.reduceSub, Nat.le_refl, c72, stV]
  repeat' first
    | (refine GW_c (fun h => ?_) (fun h => ?_) <;> (try simp only [Bool.not_eq_true', Bool.not_eq_false'] at h) <;> (try simp only [h]) <;> (try simp -implicitDefEqProofs only [go_sem, Nat.reduceBEq, Nat.reduceAdd, eq_self, true_and, and_true, and_self, List.getElem?_cons_zero, List.getElem?_cons_succ, Nat.reduceLeDiff, Nat.zero_add, Nat.reduceSub, Nat.le_refl, stV]))
    | (refine CondW_b (fun h => ?_) (fun h => ?_) <;> (try simp only [Bool.not_eq_true', Bool.not_eq_false'] at h) <;> (try simp only [h]) <;> (try simp -implicitDefEqProofs only [go_sem, Nat.reduceBEq, Nat.reduceAdd, eq_self, true_and, and_true, and_self, List.getElem?_cons_zero, List.getElem?_cons_succ, Nat.reduceLeDiff, Nat.zero_add, Nat.reduceSub, Nat.le_refl, stV]))
    | (refine call_at compare_ok ?_; rintro v τ ⟨rfl, rfl⟩; refine ⟨by first | exact kept_none | exact (Ext.refl _).kept, ?_⟩; (try simp -implicitDefEqProofs only [go_sem, Nat.reduceBEq, Nat.reduceAdd, eq_self, true_and, and_true, and_self, List.getElem?_cons_zero, List.getElem?_cons_succ, Nat.reduceLeDiff, Nat.zero_add, Nat.reduceSub, Nat.le_refl, stV]))
    | (refine cut_dup ?_; (try simp -implicitDefEqProofs only [go_sem, Nat.reduceBEq, Nat.reduceAdd, eq_self, true_and, and_true, and_self, List.getElem?_cons_zero, List.getElem?_cons_succ, Nat.reduceLeDiff, Nat.zero_add, Nat.reduceSub, Nat.le_refl, stV]))
    | (refine q2 _ _ ?_; (try simp -implicitDefEqProofs only [go_sem, Nat.reduceBEq, Nat.reduceAdd, eq_self, true_and, and_true, and_self, List.getElem?_cons_zero, List.getElem?_cons_succ, Nat.reduceLeDiff, Nat.zero_add, Nat.reduceSub, Nat.le_refl, stV]))
  exact cmp_neg ▸ rfl
set_option maxRecDepth 100000 in
theorem inode_ok : CallA Try.prog 85 [stV c r] σ fun v σ' => σ' = σ ∧ v = .bool (nodeS c r) := by
  refine fn_at Try.func85 (by decide) comp85 rfl fun Q q1 q2 => ?_
  simp -implicitDefEqProofs only [go_sem, Nat.reduceBEq, Nat.reduceAdd, eq_self, true_and, and_true, and_self, List.getElem?_cons_zero, List.getElem?_cons_succ, Nat.reduceLeDiff, Nat.zero_add, Nat.reduceSub, Nat.le_refl, c85, stV, V.eqs, V.eq, Bool.and_true]
  repeat' first
    | (refine GW_c (fun h => ?_) (fun h => ?_) <;> (try simp only [Bool.not_eq_true', Bool.not_eq_false'] at h) <;> (try simp only [h]) <;> (try simp -implicitDefEqProofs only [go_sem, Nat.reduceBEq, Nat.reduceAdd, eq_self, true_and, and_true, and_self, List.getElem?_cons_zero, List.getElem?_cons_succ, Nat.reduceLeDiff, Nat.zero_add, Nat.reduceSub, Nat.le_refl, stV, V.eqs, V.eq, Bool.and_true]))
    | (refine CondW_b (fun h => ?_) (fun h => ?_) <;> (try simp only [Bool.not_eq_true', Bool.not_eq_false'] at h) <;> (try simp only [h]) <;> (try simp -implicitDefEqProofs only [go_sem, Nat.reduceBEq, Nat.reduceAdd, eq_self, true_and, and_true, and_self, List.getElem?_cons_zero, List.getElem?_cons_succ, Nat.reduceLeDiff, Nat.zero_add, Nat.reduceSub, Nat.le_refl, stV, V.eqs, V.eq, Bool.and_true]))
    | (refine call_at right_ok ?_; rintro v τ ⟨rfl, rfl⟩; refine ⟨by first | exact kept_none | exact (Ext.refl _).kept, ?_⟩; (try simp -implicitDefEqProofs only [go_sem, Nat.reduceBEq, Nat.reduceAdd, eq_self, true_and, and_true, and_self, List.getElem?_cons_zero, List.getElem?_cons_succ, Nat.reduceLeDiff, Nat.zero_add, Nat.reduceSub, Nat.le_refl, stV, V.eqs, V.eq, Bool.and_true]))
    | (refine cut_dup ?_; (try simp -implicitDefEqProofs only [go_sem, Nat.reduceBEq, Nat.reduceAdd, eq_self, true_and, and_true, and_self, List.getElem?_cons_zero, List.getElem?_cons_succ, Nat.reduceLeDiff, Nat.zero_add, Nat.reduceSub, Nat.le_refl, stV, V.eqs, V.eq, Bool.and_true]))
    | (refine q2 _ _ ?_; (try simp -implicitDefEqProofs only [go_sem, Nat.reduceBEq, Nat.reduceAdd, eq_self, true_and, and_true, and_self, List.getElem?_cons_zero, List.getElem?_cons_succ, Nat.reduceLeDiff, Nat.zero_add, Nat.reduceSub, Nat.le_refl, stV, V.eqs, V.eq, Bool.and_true]))
  all_goals (clear q1 q2; first | (simp_all [nodeS, zeroS]; done) | grind [nodeS, zeroS])
set_option maxRecDepth 100000 in
theorem rnode_ok : CallA Try.prog 95 [stV c r] σ fun v σ' => σ' = σ ∧ v = .bool (nodeS c r) := by
  refine fn_at Try.func95 (by decide) comp95 rfl fun Q q1 q2 => ?_
  simp -implicitDefEqProofs only [go_sem, Nat.reduceBEq, Nat.reduceAdd, eq_self, true_and, and_true, and_self, List.getElem?_cons_zero, List.getElem?_cons_succ, Nat.reduceLeDiff, Nat.zero_add, Nat.reduceSub, Nat.le_refl, c95, stV, V.eqs, V.eq, Bool.and_true]
  repeat' first
    | (refine GW_c (fun h => ?_) (fun h => ?_) <;> (try simp only [Bool.not_eq_true', Bool.not_eq_false'] at h) <;> (try simp only [h]) <;> (try simp -implicitDefEqProofs only [go_sem, Nat.reduceBEq, Nat.reduceAdd, eq_self, true_and, and_true, and_self, List.getElem?_cons_zero, List.getElem?_cons_succ, Nat.reduceLeDiff, Nat.zero_add, Nat.reduceSub, Nat.le_refl, stV, V.eqs, V.eq, Bool.and_true]))
    | (refine CondW_b (fun h => ?_) (fun h => ?_) <;> (try simp only [Bool.not_eq_true', Bool.not_eq_false'] at h) <;> (try simp only [h]) <;> (try simp -implicitDefEqProofs only [go_sem, Nat.reduceBEq, Nat.reduceAdd, eq_self, true_and, and_true, and_self, List.getElem?_cons_zero, List.getElem?_cons_succ, Nat.reduceLeDiff, Nat.zero_add, Nat.reduceSub, Nat.le_refl, stV, V.eqs, V.eq, Bool.and_true]))
    | (refine call_at rright_ok ?_; rintro v τ ⟨rfl, rfl⟩; refine ⟨by first | exact kept_none | exact (Ext.refl _).kept, ?_⟩; (try simp -implicitDefEqProofs only [go_sem, Nat.reduceBEq, Nat.reduceAdd, eq_self, true_and, and_true, and_self, List.getElem?_cons_zero, List.getElem?_cons_succ, Nat.reduceLeDiff, Nat.zero_add, Nat.reduceSub, Nat.le_refl, stV, V.eqs, V.eq, Bool.and_true]))
    | (refine cut_dup ?_; (try simp -implicitDefEqProofs only [go_sem, Nat.reduceBEq, Nat.reduceAdd, eq_self, true_and, and_true, and_self, List.getElem?_cons_zero, List.getElem?_cons_succ, Nat.reduceLeDiff, Nat.zero_add, Nat.reduceSub, Nat.le_refl, stV, V.eqs, V.eq, Bool.and_true]))
    | (refine q2 _ _ ?_; (try simp -implicitDefEqProofs only [go_sem, Nat.reduceBEq, Nat.reduceAdd, eq_self, true_and, and_true, and_self, List.getElem?_cons_zero, List.getElem?_cons_succ, Nat.reduceLeDiff, Nat.zero_add, Nat.reduceSub, Nat.le_refl, stV, V.eqs, V.eq, Bool.and_true]))
  all_goals (clear q1 q2; first | (simp_all [nodeS, zeroS]; done) | grind [nodeS, zeroS])
set_option maxRecDepth 100000 in
theorem ahead_ok : CallA Try.prog 94 [stV a1 a2, stV b1 b2] σ fun v σ' => σ' = σ ∧ v = .bool (aheadS a1 a2 b1 b2) := by
  refine fn_at Try.func94 (by decide) comp94 rfl fun Q q1 q2 => ?_
  simp -implicitDefEqProofs only [go_sem, Nat.reduceBEq, Nat.reduceAdd, eq_self, true_and, and_true, and_self, List.getElem?_cons_zero, List.getElem?_cons_succ, Nat.reduceLeDiff, Nat.zero_add, Nat.reduceSub, Nat.le_refl, c94, stV]
  repeat' first
    | (refine GW_c (fun h => ?_) (fun h => ?_) <;> (try simp only [Bool.not_eq_true', Bool.not_eq_false'] at h) <;> (try simp only [h]) <;> (try simp -implicitDefEqProofs only [go_sem, Nat.reduceBEq, Nat.reduceAdd, eq_self, true_and, and_true, and_self, List.getElem?_cons_zero, List.getElem?_cons_succ, Nat.reduceLeDiff, Nat.zero_add, Nat.reduceSub, Nat.le_refl, stV]))
    | (refine CondW_b (fun h => ?_) (fun h => ?_) <;> (try simp only [Bool.not_eq_true', Bool.not_eq_false'] at h) <;> (try simp only [h]) <;> (try simp -implicitDefEqProofs only [go_sem, Nat.reduceBEq, Nat.reduceAdd, eq_self, true_and, and_true, and_self, List.getElem?_cons_zero, List.getElem?_cons_succ, Nat.reduceLeDiff, Nat.zero_add, Nat.reduceSub, Nat.le_refl, stV]))
    | (refine call_at rright_ok ?_; rintro v τ ⟨rfl, rfl⟩; refine ⟨by first | exact kept_none | exact (Ext.refl _).kept, ?_⟩; (try simp -implicitDefEqProofs only [go_sem, Nat.reduceBEq, Nat.reduceAdd, eq_self, true_and, and_true, and_self, List.getElem?_cons_zero, List.getElem?_cons_succ, Nat.reduceLeDiff, Nat.zero_add, Nat.reduceSub, Nat.le_refl, stV]))
    | (refine call_at less_ok ?_; rintro v τ ⟨rfl, rfl⟩; refine ⟨by first | exact kept_none | exact (Ext.refl _).kept, ?_⟩; (try simp -implicitDefEqProofs only [go_sem, Nat.reduceBEq, Nat.reduceAdd, eq_self, true_and, and_true, and_self, List.getElem?_cons_zero, List.getElem?_cons_succ, Nat.reduceLeDiff, Nat.zero_add, Nat.reduceSub, Nat.le_refl, stV]))
    | (refine cut_dup ?_; (try simp -implicitDefEqProofs only [go_sem, Nat.reduceBEq, Nat.reduceAdd, eq_self, true_and, and_true, and_self, List.getElem?_cons_zero, List.getElem?_cons_succ, Nat.reduceLeDiff, Nat.zero_add, Nat.reduceSub, Nat.le_refl, stV]))
    | (refine q2 _ _ ?_; (try simp -implicitDefEqProofs only [go_sem, Nat.reduceBEq, Nat.reduceAdd, eq_self, true_and, and_true, and_self, List.getElem?_cons_zero, List.getElem?_cons_succ, Nat.reduceLeDiff, Nat.zero_add, Nat.reduceSub, Nat.le_refl, stV]))
  all_goals (clear q1 q2; first | (simp_all [aheadS]; done) | grind [aheadS])

variable {d : V} {g : Cg}
set_option maxRecDepth 100000 in
set_option maxHeartbeats 1000000 in
theorem node_ok : CallA Try.prog 68 [cgV d g] σ fun v σ' => σ' = σ ∧ v = .bool (nodeB g) := by
  refine fn_at Try.func68 (by decide) comp68 rfl fun Q q1 q2 => ?_
  simp -implicitDefEqProofs only [go_sem, Nat.reduceBEq, Nat.reduceAdd, eq_self, true_and, and_true, and_self, List.getElem?_cons_zero, List.getElem?_cons_succ, Nat.reduceLeDiff, Nat.zero_add, Nat.reduceSub, Nat.le_refl, c68, cgV, cgC, V.eqs, V.eq, Bool.and_true]
  repeat' first
    | (refine GW_c (fun h => ?_) (fun h => ?_) <;> (try simp only [Bool.not_eq_true', Bool.not_eq_false'] at h) <;> (try simp only [h]) <;> (try simp -implicitDefEqProofs only [go_sem, Nat.reduceBEq, Nat.reduceAdd, eq_self, true_and, and_true, and_self, List.getElem?_cons_zero, List.getElem?_cons_succ, Nat.reduceLeDiff, Nat.zero_add, Nat.reduceSub, Nat.le_refl, cgV, cgC, V.eqs, V.eq, Bool.and_true]))
    | (refine CondW_b (fun h => ?_) (fun h => ?_) <;> (try simp only [Bool.not_eq_true', Bool.not_eq_false'] at h) <;> (try simp only [h]) <;> (try simp -implicitDefEqProofs only [go_sem, Nat.reduceBEq, Nat.reduceAdd, eq_self, true_and, and_true, and_self, List.getElem?_cons_zero, List.getElem?_cons_succ, Nat.reduceLeDiff, Nat.zero_add, Nat.reduceSub, Nat.le_refl, cgV, cgC, V.eqs, V.eq, Bool.and_true]))
    | (refine call_at right_ok ?_; rintro v τ ⟨rfl, rfl⟩; refine ⟨by first | exact kept_none | exact (Ext.refl _).kept, ?_⟩; (try simp -implicitDefEqProofs only [go_sem, Nat.reduceBEq, Nat.reduceAdd, eq_self, true_and, and_true, and_self, List.getElem?_cons_zero, List.getElem?_cons_succ, Nat.reduceLeDiff, Nat.zero_add, Nat.reduceSub, Nat.le_refl, cgV, cgC, V.eqs, V.eq, Bool.and_true]))
    | (refine call_at iless_ok ?_; rintro v τ ⟨rfl, rfl⟩; refine ⟨by first | exact kept_none | exact (Ext.refl _).kept, ?_⟩; (try simp -implicitDefEqProofs only [go_sem, Nat.reduceBEq, Nat.reduceAdd, eq_self, true_and, and_true, and_self, List.getElem?_cons_zero, List.getElem?_cons_succ, Nat.reduceLeDiff, Nat.zero_add, Nat.reduceSub, Nat.le_refl, cgV, cgC, V.eqs, V.eq, Bool.and_true]))
    | (refine cut_dup ?_; (try simp -implicitDefEqProofs only [go_sem, Nat.reduceBEq, Nat.reduceAdd, eq_self, true_and, and_true, and_self, List.getElem?_cons_zero, List.getElem?_cons_succ, Nat.reduceLeDiff, Nat.zero_add, Nat.reduceSub, Nat.le_refl, cgV, cgC, V.eqs, V.eq, Bool.and_true]))
    | (refine q2 _ _ ?_; (try simp -implicitDefEqProofs only [go_sem, Nat.reduceBEq, Nat.reduceAdd, eq_self, true_and, and_true, and_self, List.getElem?_cons_zero, List.getElem?_cons_succ, Nat.reduceLeDiff, Nat.zero_add, Nat.reduceSub, Nat.le_refl, cgV, cgC, V.eqs, V.eq, Bool.and_true]))
  all_goals (clear q1 q2; first | (simp_all [nodeB, zeroS, aheadS]; done) | grind [nodeB, zeroS, aheadS])
set_option maxRecDepth 100000 in
set_option maxHeartbeats 1000000 in
theorem place_ok : CallA Try.prog 69 [cgV d g] σ fun v σ' => σ' = σ ∧ v = .bool (placeB g) := by
  refine fn_at Try.func69 (by decide) comp69 rfl fun Q q1 q2 => ?_
  simp -implicitDefEqProofs only [go_sem, Nat.reduceBEq, Nat.reduceAdd, eq_self, true_and, and_true, and_self, List.getElem?_cons_zero, List.getElem?_cons_succ, Nat.reduceLeDiff, Nat.zero_add, Nat.reduceSub, Nat.le_refl, c69, cgV, cgC, V.eqs, V.eq, Bool.and_true]
  repeat' first
    | (refine GW_c (fun h => ?_) (fun h => ?_) <;> (try simp only [Bool.not_eq_true', Bool.not_eq_false'] at h) <;> (try simp only [h]) <;> (try simp -implicitDefEqProofs only [go_sem, Nat.reduceBEq, Nat.reduceAdd, eq_self, true_and, and_true, and_self, List.getElem?_cons_zero, List.getElem?_cons_succ, Nat.reduceLeDiff, Nat.zero_add, Nat.reduceSub, Nat.le_refl, cgV, cgC, V.eqs, V.eq, Bool.and_true]))
    | (refine CondW_b (fun h => ?_) (fun h => ?_) <;> (try simp only [Bool.not_eq_true', Bool.not_eq_false'] at h) <;> (try simp only [h]) <;> (try simp -implicitDefEqProofs only [go_sem, Nat.reduceBEq, Nat.reduceAdd, eq_self, true_and, and_true, and_self, List.getElem?_cons_zero, List.getElem?_cons_succ, Nat.reduceLeDiff, Nat.zero_add, Nat.reduceSub, Nat.le_refl, cgV, cgC, V.eqs, V.eq, Bool.and_true]))
    | (refine call_at inode_ok ?_; rintro v τ ⟨rfl, rfl⟩; refine ⟨by first | exact kept_none | exact (Ext.refl _).kept, ?_⟩; (try simp -implicitDefEqProofs only [go_sem, Nat.reduceBEq, Nat.reduceAdd, eq_self, true_and, and_true, and_self, List.getElem?_cons_zero, List.getElem?_cons_succ, Nat.reduceLeDiff, Nat.zero_add, Nat.reduceSub, Nat.le_refl, cgV, cgC, V.eqs, V.eq, Bool.and_true]))
    | (refine call_at right_ok ?_; rintro v τ ⟨rfl, rfl⟩; refine ⟨by first | exact kept_none | exact (Ext.refl _).kept, ?_⟩; (try simp -implicitDefEqProofs only [go_sem, Nat.reduceBEq, Nat.reduceAdd, eq_self, true_and, and_true, and_self, List.getElem?_cons_zero, List.getElem?_cons_succ, Nat.reduceLeDiff, Nat.zero_add, Nat.reduceSub, Nat.le_refl, cgV, cgC, V.eqs, V.eq, Bool.and_true]))
    | (refine call_at iless_ok ?_; rintro v τ ⟨rfl, rfl⟩; refine ⟨by first | exact kept_none | exact (Ext.refl _).kept, ?_⟩; (try simp -implicitDefEqProofs only [go_sem, Nat.reduceBEq, Nat.reduceAdd, eq_self, true_and, and_true, and_self, List.getElem?_cons_zero, List.getElem?_cons_succ, Nat.reduceLeDiff, Nat.zero_add, Nat.reduceSub, Nat.le_refl, cgV, cgC, V.eqs, V.eq, Bool.and_true]))
    | (refine cut_dup ?_; (try simp -implicitDefEqProofs only [go_sem, Nat.reduceBEq, Nat.reduceAdd, eq_self, true_and, and_true, and_self, List.getElem?_cons_zero, List.getElem?_cons_succ, Nat.reduceLeDiff, Nat.zero_add, Nat.reduceSub, Nat.le_refl, cgV, cgC, V.eqs, V.eq, Bool.and_true]))
    | (refine q2 _ _ ?_; (try simp -implicitDefEqProofs only [go_sem, Nat.reduceBEq, Nat.reduceAdd, eq_self, true_and, and_true, and_self, List.getElem?_cons_zero, List.getElem?_cons_succ, Nat.reduceLeDiff, Nat.zero_add, Nat.reduceSub, Nat.le_refl, cgV, cgC, V.eqs, V.eq, Bool.and_true]))
  all_goals (clear q1 q2; first | (simp_all [placeB, zeroS, aheadS]; done) | grind [placeB, zeroS, aheadS])
end
end Go.VL.opl

namespace Go.VL.opl
open Go Go.VL Go.Proofs Go.IntWalk

def badN (n : Int) : Bool := decide (n < 0) || decide ((1099511627776 : Int) < n)
def clockI (l : List Int) : Int := bif decide ((64 : Int) < l.length) then 3 else bif l.any badN then 1 else 0
def atD (l : List Int) (r : Int) : Int := bif decide (0 ≤ r) && decide (r < l.length) then l[r.toNat]?.getD 0 else 0
theorem any_take {α : Type} {s : List α} {f : α → Bool} {i : Nat} (hi : i < s.length) : (s.take (i + 1)).any f = ((s.take i).any f || f s[i]) := by
  rw [List.take_succ_eq_append_getElem hi, List.any_append]; simp
theorem any_bad {α : Type} {s : List α} {f : α → Bool} {i : Nat} (hi : i < s.length) (h : f s[i] = true) : s.any f = true := List.any_eq_true.2 ⟨s[i], List.getElem_mem hi, h⟩
theorem intsV_get {l : List Int} {i : Nat} (h : i < l.length) : (intsV .i64 l)[((i : Nat) : Int).toNat]?.getD [] = [V.int .i64 l[i]] := by simp [intsV, h]
theorem intsV_len (l : List Int) : (intsV .i64 l).length = l.length := by simp [intsV]
theorem intsV_ne {l : List Int} {i : Nat} (h : i < l.length) : intsV .i64 l ≠ [] := by cases l <;> simp [intsV] at h ⊢

section
variable {σ : St} {l : List Int} {v : V} {r : Int} {d : V} {g : Cg}
set_option maxRecDepth 100000 in
set_option maxHeartbeats 1000000 in
theorem words_ok (hlen : g.name.length < 4611686018427387904) : CallA Try.prog 70 [cgV d g] σ fun v σ' => σ' = σ ∧ v = .int .i64 (wordsI g) := by
  refine fn_at Try.func70 (by decide) comp70 rfl fun Q q1 q2 => ?_
  simp -implicitDefEqProofs only [go_sem, Nat.reduceBEq, Nat.reduceAdd, eq_self, true_and, and_true, and_self, List.getElem?_cons_zero, List.getElem?_cons_succ, Nat.reduceLeDiff, Nat.zero_add, Nat.reduceSub, Nat.le_refl, c70, cgV, cgC]
  repeat' first
    | (refine GW_c (fun h => ?_) (fun h => ?_) <;> (try simp only [Bool.not_eq_true', Bool.not_eq_false'] at h) <;> (try simp only [h]) <;> (try simp -implicitDefEqProofs only [go_sem, Nat.reduceBEq, Nat.reduceAdd, eq_self, true_and, and_true, and_self, List.getElem?_cons_zero, List.getElem?_cons_succ, Nat.reduceLeDiff, Nat.zero_add, Nat.reduceSub, Nat.le_refl, cgC]))
    | (refine CondW_b (fun h => ?_) (fun h => ?_) <;> (try simp only [Bool.not_eq_true', Bool.not_eq_false'] at h) <;> (try simp only [h]) <;> (try simp -implicitDefEqProofs only [go_sem, Nat.reduceBEq, Nat.reduceAdd, eq_self, true_and, and_true, and_self, List.getElem?_cons_zero, List.getElem?_cons_succ, Nat.reduceLeDiff, Nat.zero_add, Nat.reduceSub, Nat.le_refl, cgC]))
    | (refine call_at (name_ok hlen) ?_; rintro v τ ⟨rfl, rfl⟩; refine ⟨by first | exact kept_none | exact (Ext.refl _).kept, ?_⟩; (try simp -implicitDefEqProofs only [go_sem, Nat.reduceBEq, Nat.reduceAdd, eq_self, true_and, and_true, and_self, List.getElem?_cons_zero, List.getElem?_cons_succ, Nat.reduceLeDiff, Nat.zero_add, Nat.reduceSub, Nat.le_refl, cgC]))
    | (refine cut_dup ?_; (try simp -implicitDefEqProofs only [go_sem, Nat.reduceBEq, Nat.reduceAdd, eq_self, true_and, and_true, and_self, List.getElem?_cons_zero, List.getElem?_cons_succ, Nat.reduceLeDiff, Nat.zero_add, Nat.reduceSub, Nat.le_refl, cgC]))
    | (refine q2 _ _ ?_; (try simp -implicitDefEqProofs only [go_sem, Nat.reduceBEq, Nat.reduceAdd, eq_self, true_and, and_true, and_self, List.getElem?_cons_zero, List.getElem?_cons_succ, Nat.reduceLeDiff, Nat.zero_add, Nat.reduceSub, Nat.le_refl, cgC]))
  all_goals (clear q1 q2; first | (simp_all [wordsI, namedB, valuedB]; done) | grind [wordsI, namedB, valuedB])

set_option maxRecDepth 100000 in
set_option maxHeartbeats 1000000 in
theorem clock_ok (hv : RdS σ v 1 (intsV .i64 l)) : CallA Try.prog 43 [v] σ fun w σ' => σ' = σ ∧ w = .int .i64 (clockI l) := by
  obtain ⟨b, R, z, rfl, -, -⟩ := id hv
  refine fn_at Try.func43 (by decide) comp43 rfl fun Q q1 q2 => ?_
  have hl := intsV_len l
  simp -implicitDefEqProofs only [go_sem, Nat.reduceBEq, Nat.reduceAdd, eq_self, true_and, and_true, and_self, List.getElem?_cons_zero, List.getElem?_cons_succ, Nat.reduceLeDiff, Nat.zero_add, Nat.reduceSub, Nat.le_refl, c43, hl]
  refine CondW_b (fun h => ?_) (fun h0 => ?_)
  · simp -implicitDefEqProofs only [go_sem, Nat.reduceBEq, Nat.reduceAdd, eq_self, true_and, and_true, and_self, List.getElem?_cons_zero, List.getElem?_cons_succ, Nat.reduceLeDiff, Nat.zero_add, Nat.reduceSub, Nat.le_refl, Nat.lt_irrefl]
    refine q2 _ _ ?_
    simp -implicitDefEqProofs only [go_sem, Nat.reduceBEq, Nat.reduceAdd, eq_self, true_and, and_true, and_self, List.getElem?_cons_zero, List.getElem?_cons_succ, Nat.reduceLeDiff, Nat.zero_add, Nat.reduceSub, Nat.le_refl, Nat.lt_irrefl]
    rw [clockI, h]; rfl
  have h64 := of_decide_eq_false h0
  simp -implicitDefEqProofs only [go_sem, Nat.reduceBEq, Nat.reduceAdd, eq_self, true_and, and_true, and_self, List.getElem?_cons_zero, List.getElem?_cons_succ, Nat.reduceLeDiff, Nat.zero_add, Nat.reduceSub, Nat.le_refl, hl]
  refine loop_at (fun (i : Nat) => ⟨[(8, .v (.sl b R z (intsV .i64 l))), (9, .v (.int .i64 l.length)), (10, .v (.int .i64 i))], []⟩) (fun i τ => τ = σ ∧ i ≤ l.length ∧ (l.take i).any badN = false) (fun i => l.length - i) 0 ?_ ?_ ?_
  · exact .inr (by simp -implicitDefEqProofs only [go_sem, Nat.reduceBEq, Nat.reduceAdd, eq_self, true_and, and_true, and_self, List.getElem?_cons_zero, List.getElem?_cons_succ, Nat.reduceLeDiff, Nat.zero_add, Nat.reduceSub, Nat.le_refl, Nat.lt_irrefl]; trivial)
  · exact ⟨rfl, Nat.zero_le _, by simp⟩
  rintro i τ ⟨rfl, g1, g2⟩ Z z1 z2 z3
  simp -implicitDefEqProofs only [go_sem, Nat.reduceBEq, Nat.reduceAdd, eq_self, true_and, and_true, and_self, List.getElem?_cons_zero, List.getElem?_cons_succ, Nat.reduceLeDiff, Nat.zero_add, Nat.reduceSub, Nat.le_refl, Nat.lt_irrefl]
  refine CondW_b (fun hc => ?_) (fun hc => ?_)
  · have hi : i < l.length := by simpa using hc
    have hget := intsV_get hi
    obtain ⟨k1, k2⟩ := rdl hv (intsV_ne hi)
    have hb : (i : Int) < (intsV .i64 l).length := by rw [hl]; omega
    have hbad := fun h => any_bad (f := badN) hi h
    have hall := any_take (f := badN) hi
    rw [g2, Bool.false_or] at hall
    generalize l[i] = x at hget hbad hall
    simp -implicitDefEqProofs only [go_sem, Nat.reduceBEq, Nat.reduceAdd, eq_self, true_and, and_true, and_self, List.getElem?_cons_zero, List.getElem?_cons_succ, Nat.reduceLeDiff, Nat.zero_add, Nat.reduceSub, Nat.le_refl, hget]
    refine ⟨⟨by omega, hb, k2⟩, k1, ?_⟩
    have hx : badN x = (decide (x < 0) || decide ((1099511627776 : Int) < x)) := rfl
    cases e1 : decide (x < 0) <;> cases e2 : decide ((1099511627776 : Int) < x) <;> rw [e1, e2] at hx
    all_goals
      simp -implicitDefEqProofs only [go_sem, Nat.reduceBEq, Nat.reduceAdd, eq_self, true_and, and_true, and_self, List.getElem?_cons_zero, List.getElem?_cons_succ, Nat.reduceLeDiff, Nat.zero_add, Nat.reduceSub, Nat.le_refl, e1, e2]
      first
      | (refine z3 _ _ ?_
         simp -implicitDefEqProofs only [go_sem, Nat.reduceBEq, Nat.reduceAdd, eq_self, true_and, and_true, and_self, List.getElem?_cons_zero, List.getElem?_cons_succ, Nat.reduceLeDiff, Nat.zero_add, Nat.reduceSub, Nat.le_refl, Nat.lt_irrefl]
         refine q2 _ _ ?_
         simp -implicitDefEqProofs only [go_sem, Nat.reduceBEq, Nat.reduceAdd, eq_self, true_and, and_true, and_self, List.getElem?_cons_zero, List.getElem?_cons_succ, Nat.reduceLeDiff, Nat.zero_add, Nat.reduceSub, Nat.le_refl, Nat.lt_irrefl]
         rw [clockI, h0, hbad hx]; rfl)
      | (refine z1 (i + 1) _ _ (.inr ?_) (by omega) ⟨rfl, by omega, by rw [hall]; exact hx⟩
         simp -implicitDefEqProofs only [go_sem, Nat.reduceBEq, Nat.reduceAdd, eq_self, true_and, and_true, and_self, List.getElem?_cons_zero, List.getElem?_cons_succ, Nat.reduceLeDiff, Nat.zero_add, Nat.reduceSub, Nat.le_refl, Nat.lt_irrefl]
         rw [i64_in _ (by omega)]; simp)
  · have hi : ¬ i < l.length := by simpa using hc
    rw [List.take_of_length_le (by omega)] at g2
    simp -implicitDefEqProofs only [go_sem, Nat.reduceBEq, Nat.reduceAdd, eq_self, true_and, and_true, and_self, List.getElem?_cons_zero, List.getElem?_cons_succ, Nat.reduceLeDiff, Nat.zero_add, Nat.reduceSub, Nat.le_refl, Nat.lt_irrefl]
    refine z2 _ _ _ ?_
    simp -implicitDefEqProofs only [go_sem, Nat.reduceBEq, Nat.reduceAdd, eq_self, true_and, and_true, and_self, List.getElem?_cons_zero, List.getElem?_cons_succ, Nat.reduceLeDiff, Nat.zero_add, Nat.reduceSub, Nat.le_refl, Nat.lt_irrefl]
    refine q2 _ _ ?_
    simp -implicitDefEqProofs only [go_sem, Nat.reduceBEq, Nat.reduceAdd, eq_self, true_and, and_true, and_self, List.getElem?_cons_zero, List.getElem?_cons_succ, Nat.reduceLeDiff, Nat.zero_add, Nat.reduceSub, Nat.le_refl, Nat.lt_irrefl]
    rw [clockI, h0, g2]; rfl

set_option maxRecDepth 100000 in
set_option maxHeartbeats 1000000 in
theorem rclock_ok (hv : RdS σ v 1 (intsV .i64 l)) : CallA Try.prog 16 [v] σ fun w σ' => σ' = σ ∧ w = .int .i64 (clockI l) := by
  obtain ⟨b, R, z, rfl, -, -⟩ := id hv
  refine fn_at Try.func16 (by decide) comp16 rfl fun Q q1 q2 => ?_
  have hl := intsV_len l
  simp -implicitDefEqProofs only [go_sem, Nat.reduceBEq, Nat.reduceAdd, eq_self, true_and, and_true, and_self, List.getElem?_cons_zero, List.getElem?_cons_succ, Nat.reduceLeDiff, Nat.zero_add, Nat.reduceSub, Nat.le_refl, c16, hl]
  refine CondW_b (fun h => ?_) (fun h0 => ?_)
  · simp -implicitDefEqProofs only [go_sem, Nat.reduceBEq, Nat.reduceAdd, eq_self, true_and, and_true, and_self, List.getElem?_cons_zero, List.getElem?_cons_succ, Nat.reduceLeDiff, Nat.zero_add, Nat.reduceSub, Nat.le_refl, Nat.lt_irrefl]
    refine q2 _ _ ?_
    simp -implicitDefEqProofs only [go_sem, Nat.reduceBEq, Nat.reduceAdd, eq_self, true_and, and_true, and_self, List.getElem?_cons_zero, List.getElem?_cons_succ, Nat.reduceLeDiff, Nat.zero_add, Nat.reduceSub, Nat.le_refl, Nat.lt_irrefl]
    rw [clockI, h]; rfl
  have h64 := of_decide_eq_false h0
  simp -implicitDefEqProofs only [go_sem, Nat.reduceBEq, Nat.reduceAdd, eq_self, true_and, and_true, and_self, List.getElem?_cons_zero, List.getElem?_cons_succ, Nat.reduceLeDiff, Nat.zero_add, Nat.reduceSub, Nat.le_refl, hl]
  refine loop_at (fun (i : Nat) => ⟨[(0, .v (.sl b R z (intsV .i64 l))), (3, .v (.int .i64 i))], []⟩) (fun i τ => τ = σ ∧ i ≤ l.length ∧ (l.take i).any badN = false) (fun i => l.length - i) 0 ?_ ?_ ?_
  · exact .inr (by simp -implicitDefEqProofs only [go_sem, Nat.reduceBEq, Nat.reduceAdd, eq_self, true_and, and_true, and_self, List.getElem?_cons_zero, List.getElem?_cons_succ, Nat.reduceLeDiff, Nat.zero_add, Nat.reduceSub, Nat.le_refl, Nat.lt_irrefl]; trivial)
  · exact ⟨rfl, Nat.zero_le _, by simp⟩
  rintro i τ ⟨rfl, g1, g2⟩ Z z1 z2 z3
  simp -implicitDefEqProofs only [go_sem, Nat.reduceBEq, Nat.reduceAdd, eq_self, true_and, and_true, and_self, List.getElem?_cons_zero, List.getElem?_cons_succ, Nat.reduceLeDiff, Nat.zero_add, Nat.reduceSub, Nat.le_refl, hl]
  refine CondW_b (fun hc => ?_) (fun hc => ?_)
  · have hi : i < l.length := by simpa using hc
    have hget := intsV_get hi
    obtain ⟨k1, k2⟩ := rdl hv (intsV_ne hi)
    have hb : (i : Int) < l.length := by omega
    have hbad := fun h => any_bad (f := badN) hi h
    have hall := any_take (f := badN) hi
    rw [g2, Bool.false_or] at hall
    generalize l[i] = x at hget hbad hall
    simp -implicitDefEqProofs only [go_sem, Nat.reduceBEq, Nat.reduceAdd, eq_self, true_and, and_true, and_self, List.getElem?_cons_zero, List.getElem?_cons_succ, Nat.reduceLeDiff, Nat.zero_add, Nat.reduceSub, Nat.le_refl, hget]
    rw [hl]
    refine ⟨⟨by omega, hb, k2⟩, k1, ?_⟩
    have hx : badN x = (decide (x < 0) || decide ((1099511627776 : Int) < x)) := rfl
    cases e1 : decide (x < 0) <;> cases e2 : decide ((1099511627776 : Int) < x) <;> rw [e1, e2] at hx
    all_goals
      simp -implicitDefEqProofs only [go_sem, Nat.reduceBEq, Nat.reduceAdd, eq_self, true_and, and_true, and_self, List.getElem?_cons_zero, List.getElem?_cons_succ, Nat.reduceLeDiff, Nat.zero_add, Nat.reduceSub, Nat.le_refl, e1, e2, hget, hl]
      try refine ⟨⟨by omega, hb, k2⟩, k1, ?_⟩
      first
      | (refine z3 _ _ ?_
         simp -implicitDefEqProofs only [go_sem, Nat.reduceBEq, Nat.reduceAdd, eq_self, true_and, and_true, and_self, List.getElem?_cons_zero, List.getElem?_cons_succ, Nat.reduceLeDiff, Nat.zero_add, Nat.reduceSub, Nat.le_refl, Nat.lt_irrefl]
         refine q2 _ _ ?_
         simp -implicitDefEqProofs only [go_sem, Nat.reduceBEq, Nat.reduceAdd, eq_self, true_and, and_true, and_self, List.getElem?_cons_zero, List.getElem?_cons_succ, Nat.reduceLeDiff, Nat.zero_add, Nat.reduceSub, Nat.le_refl, Nat.lt_irrefl]
         rw [clockI, h0, hbad hx]; rfl)
      | (refine z1 (i + 1) _ _ (.inr ?_) (by omega) ⟨rfl, by omega, by rw [hall]; exact hx⟩
         simp -implicitDefEqProofs only [go_sem, Nat.reduceBEq, Nat.reduceAdd, eq_self, true_and, and_true, and_self, List.getElem?_cons_zero, List.getElem?_cons_succ, Nat.reduceLeDiff, Nat.zero_add, Nat.reduceSub, Nat.le_refl, Nat.lt_irrefl]
         rw [i64_in _ (by omega)]; simp)
  · have hi : ¬ i < l.length := by simpa using hc
    rw [List.take_of_length_le (by omega)] at g2
    simp -implicitDefEqProofs only [go_sem, Nat.reduceBEq, Nat.reduceAdd, eq_self, true_and, and_true, and_self, List.getElem?_cons_zero, List.getElem?_cons_succ, Nat.reduceLeDiff, Nat.zero_add, Nat.reduceSub, Nat.le_refl, Nat.lt_irrefl]
    refine z2 _ _ _ ?_
    simp -implicitDefEqProofs only [go_sem, Nat.reduceBEq, Nat.reduceAdd, eq_self, true_and, and_true, and_self, List.getElem?_cons_zero, List.getElem?_cons_succ, Nat.reduceLeDiff, Nat.zero_add, Nat.reduceSub, Nat.le_refl, Nat.lt_irrefl]
    refine q2 _ _ ?_
    simp -implicitDefEqProofs only [go_sem, Nat.reduceBEq, Nat.reduceAdd, eq_self, true_and, and_true, and_self, List.getElem?_cons_zero, List.getElem?_cons_succ, Nat.reduceLeDiff, Nat.zero_add, Nat.reduceSub, Nat.le_refl, Nat.lt_irrefl]
    rw [clockI, h0, g2]; rfl

set_option maxRecDepth 100000 in
set_option maxHeartbeats 1000000 in
theorem at_ok (hv : RdS σ v 1 (intsV .i64 l)) : CallA Try.prog 44 [v, .int .i64 r] σ fun w σ' => σ' = σ ∧ w = .int .i64 (atD l r) := by
  obtain ⟨b, R, z, rfl, -, -⟩ := id hv
  refine fn_at Try.func44 (by decide) comp44 rfl fun Q q1 q2 => ?_
  have hl := intsV_len l
  have e0 : decide (r < 0) = !decide (0 ≤ r) := by by_cases h : 0 ≤ r <;> simp [h] <;> omega
  have e1 : decide ((l.length : Int) ≤ r) = !decide (r < l.length) := by by_cases h : r < l.length <;> simp [h] <;> omega
  unfold atD at q1 q2
  cases h0 : decide (0 ≤ r) <;> cases h1 : decide (r < l.length) <;> rw [h0, h1] at q2
  case true.true =>
    have h0' := of_decide_eq_true h0
    have h1' := of_decide_eq_true h1
    have hi : r.toNat < l.length := by omega
    have hget := intsV_get hi
    rw [show ((r.toNat : Nat) : Int) = r from by omega] at hget
    obtain ⟨k1, k2⟩ := rdl hv (intsV_ne hi)
    have hg : l[r.toNat]?.getD 0 = l[r.toNat] := by simp [hi]
    rw [hg] at q2
    generalize l[r.toNat] = x at hget q2
    simp -implicitDefEqProofs only [go_sem, Nat.reduceBEq, Nat.reduceAdd, eq_self, true_and, and_true, and_self, List.getElem?_cons_zero, List.getElem?_cons_succ, Nat.reduceLeDiff, Nat.zero_add, Nat.reduceSub, Nat.le_refl, c44, hl, e0, e1, h0, h1, hget]
    refine ⟨⟨by omega, by omega, k2⟩, k1, ?_⟩
    refine q2 _ _ ?_
    simp -implicitDefEqProofs only [go_sem, Nat.reduceBEq, Nat.reduceAdd, eq_self, true_and, and_true, and_self, List.getElem?_cons_zero, List.getElem?_cons_succ, Nat.reduceLeDiff, Nat.zero_add, Nat.reduceSub, Nat.le_refl, Nat.lt_irrefl]
  all_goals
    simp -implicitDefEqProofs only [go_sem, Nat.reduceBEq, Nat.reduceAdd, eq_self, true_and, and_true, and_self, List.getElem?_cons_zero, List.getElem?_cons_succ, Nat.reduceLeDiff, Nat.zero_add, Nat.reduceSub, Nat.le_refl, c44, hl, e0, e1, h0, h1]
    refine q2 _ _ ?_
    simp -implicitDefEqProofs only [go_sem, Nat.reduceBEq, Nat.reduceAdd, eq_self, true_and, and_true, and_self, List.getElem?_cons_zero, List.getElem?_cons_succ, Nat.reduceLeDiff, Nat.zero_add, Nat.reduceSub, Nat.le_refl, Nat.lt_irrefl]
set_option maxRecDepth 100000 in
set_option maxHeartbeats 1000000 in
theorem rat_ok (hv : RdS σ v 1 (intsV .i64 l)) : CallA Try.prog 29 [v, .int .i64 r] σ fun w σ' => σ' = σ ∧ w = .int .i64 (atD l r) := by
  obtain ⟨b, R, z, rfl, -, -⟩ := id hv
  refine fn_at Try.func29 (by decide) comp29 rfl fun Q q1 q2 => ?_
  have hl := intsV_len l
  unfold atD at q1 q2
  cases h0 : decide (0 ≤ r) <;> cases h1 : decide (r < l.length) <;> rw [h0, h1] at q2
  case true.true =>
    have h0' := of_decide_eq_true h0
    have h1' := of_decide_eq_true h1
    have hi : r.toNat < l.length := by omega
    have hget := intsV_get hi
    rw [show ((r.toNat : Nat) : Int) = r from by omega] at hget
    obtain ⟨k1, k2⟩ := rdl hv (intsV_ne hi)
    have hg : l[r.toNat]?.getD 0 = l[r.toNat] := by simp [hi]
    rw [hg] at q2
    generalize l[r.toNat] = x at hget q2
    simp -implicitDefEqProofs only [go_sem, Nat.reduceBEq, Nat.reduceAdd, eq_self, true_and, and_true, and_self, List.getElem?_cons_zero, List.getElem?_cons_succ, Nat.reduceLeDiff, Nat.zero_add, Nat.reduceSub, Nat.le_refl, c29, hl, h0, h1, hget]
    refine ⟨⟨by omega, by omega, k2⟩, k1, ?_⟩
    refine q2 _ _ ?_
    simp -implicitDefEqProofs only [go_sem, Nat.reduceBEq, Nat.reduceAdd, eq_self, true_and, and_true, and_self, List.getElem?_cons_zero, List.getElem?_cons_succ, Nat.reduceLeDiff, Nat.zero_add, Nat.reduceSub, Nat.le_refl, Nat.lt_irrefl]
  all_goals
    simp -implicitDefEqProofs only [go_sem, Nat.reduceBEq, Nat.reduceAdd, eq_self, true_and, and_true, and_self, List.getElem?_cons_zero, List.getElem?_cons_succ, Nat.reduceLeDiff, Nat.zero_add, Nat.reduceSub, Nat.le_refl, c29, hl, h0, h1]
    refine q2 _ _ ?_
    simp -implicitDefEqProofs only [go_sem, Nat.reduceBEq, Nat.reduceAdd, eq_self, true_and, and_true, and_self, List.getElem?_cons_zero, List.getElem?_cons_succ, Nat.reduceLeDiff, Nat.zero_add, Nat.reduceSub, Nat.le_refl, Nat.lt_irrefl]

set_option maxRecDepth 100000 in
set_option maxHeartbeats 1000000 in
theorem rsame_ok {u : V} {m : List Int} (hv : RdS σ v 1 (intsV .i64 l)) (hu : RdS σ u 1 (intsV .i64 m)) (hlen : l.length < 4611686018427387904) : CallA Try.prog 40 [v, u] σ fun w σ' => σ' = σ ∧ w = .bool (decide (l = m)) := by
  obtain ⟨b, R, z, rfl, -, -⟩ := id hv
  obtain ⟨b2, R2, z2, rfl, -, -⟩ := id hu
  refine fn_at Try.func40 (by decide) comp40 rfl fun Q q1 q2 => ?_
  have hl := intsV_len l
  have hm := intsV_len m
  simp -implicitDefEqProofs only [go_sem, Nat.reduceBEq, Nat.reduceAdd, eq_self, true_and, and_true, and_self, List.getElem?_cons_zero, List.getElem?_cons_succ, Nat.reduceLeDiff, Nat.zero_add, Nat.reduceSub, Nat.le_refl, c40, hl, hm]
  refine CondW_b (fun h => ?_) (fun h0 => ?_)
  · have : ¬ l = m := by rintro rfl; simp at h
    simp -implicitDefEqProofs only [go_sem, Nat.reduceBEq, Nat.reduceAdd, eq_self, true_and, and_true, and_self, List.getElem?_cons_zero, List.getElem?_cons_succ, Nat.reduceLeDiff, Nat.zero_add, Nat.reduceSub, Nat.le_refl, Nat.lt_irrefl]
    refine q2 _ _ ?_
    simp -implicitDefEqProofs only [go_sem, Nat.reduceBEq, Nat.reduceAdd, eq_self, true_and, and_true, and_self, List.getElem?_cons_zero, List.getElem?_cons_succ, Nat.reduceLeDiff, Nat.zero_add, Nat.reduceSub, Nat.le_refl, this, decide_false]
  have hlm : l.length = m.length := by have := h0; simp at this; omega
  simp -implicitDefEqProofs only [go_sem, Nat.reduceBEq, Nat.reduceAdd, eq_self, true_and, and_true, and_self, List.getElem?_cons_zero, List.getElem?_cons_succ, Nat.reduceLeDiff, Nat.zero_add, Nat.reduceSub, Nat.le_refl, hl, hm]
  refine loop_at (fun (i : Nat) => ⟨[(0, .v (.sl b R z (intsV .i64 l))), (1, .v (.sl b2 R2 z2 (intsV .i64 m))), (5, .v (.int .i64 i))], []⟩) (fun i τ => τ = σ ∧ i ≤ l.length ∧ l.take i = m.take i) (fun i => l.length - i) 0 ?_ ?_ ?_
  · exact .inr (by simp -implicitDefEqProofs only [go_sem, Nat.reduceBEq, Nat.reduceAdd, eq_self, true_and, and_true, and_self, List.getElem?_cons_zero, List.getElem?_cons_succ, Nat.reduceLeDiff, Nat.zero_add, Nat.reduceSub, Nat.le_refl, Nat.lt_irrefl]; trivial)
  · exact ⟨rfl, Nat.zero_le _, by simp⟩
  rintro i τ ⟨rfl, g1, g2⟩ Z z1 z2 z3
  simp -implicitDefEqProofs only [go_sem, Nat.reduceBEq, Nat.reduceAdd, eq_self, true_and, and_true, and_self, List.getElem?_cons_zero, List.getElem?_cons_succ, Nat.reduceLeDiff, Nat.zero_add, Nat.reduceSub, Nat.le_refl, hl]
  refine CondW_b (fun hc => ?_) (fun hc => ?_)
  · have hi : i < l.length := by simpa using hc
    have hi2 : i < m.length := by omega
    have hget := intsV_get hi
    have hget2 := intsV_get hi2
    obtain ⟨k1, k2⟩ := rdl hv (intsV_ne hi)
    obtain ⟨k3, k4⟩ := rdl hu (intsV_ne hi2)
    have hb : (i : Int) < l.length := by omega
    have hb2 : (i : Int) < m.length := by omega
    have ht : ∀ x, l[i] = x → m[i] = x → l.take (i + 1) = m.take (i + 1) := fun x h1 h2 => by
      rw [List.take_succ_eq_append_getElem hi, List.take_succ_eq_append_getElem hi2, g2, h1, h2]
    have hne : l[i] ≠ m[i] → ¬ l = m := by rintro h rfl; exact h rfl
    generalize l[i] = x at hget ht hne
    generalize m[i] = y at hget2 ht hne
    simp -implicitDefEqProofs only [go_sem, Nat.reduceBEq, Nat.reduceAdd, eq_self, true_and, and_true, and_self, List.getElem?_cons_zero, List.getElem?_cons_succ, Nat.reduceLeDiff, Nat.zero_add, Nat.reduceSub, Nat.le_refl, hget, hget2]
    rw [hl, hm]
    refine ⟨⟨by omega, hb, k2⟩, k1, ⟨by omega, hb2, k4⟩, k3, ?_⟩
    refine CondW_b (fun he => ?_) (fun he => ?_)
    · have := hne (by simpa using he)
      simp -implicitDefEqProofs only [go_sem, Nat.reduceBEq, Nat.reduceAdd, eq_self, true_and, and_true, and_self, List.getElem?_cons_zero, List.getElem?_cons_succ, Nat.reduceLeDiff, Nat.zero_add, Nat.reduceSub, Nat.le_refl, Nat.lt_irrefl]
      refine z3 _ _ ?_
      simp -implicitDefEqProofs only [go_sem, Nat.reduceBEq, Nat.reduceAdd, eq_self, true_and, and_true, and_self, List.getElem?_cons_zero, List.getElem?_cons_succ, Nat.reduceLeDiff, Nat.zero_add, Nat.reduceSub, Nat.le_refl, Nat.lt_irrefl]
      refine q2 _ _ ?_
      simp -implicitDefEqProofs only [go_sem, Nat.reduceBEq, Nat.reduceAdd, eq_self, true_and, and_true, and_self, List.getElem?_cons_zero, List.getElem?_cons_succ, Nat.reduceLeDiff, Nat.zero_add, Nat.reduceSub, Nat.le_refl, this, decide_false]
    · have he : x = y := by simpa using he
      simp -implicitDefEqProofs only [go_sem, Nat.reduceBEq, Nat.reduceAdd, eq_self, true_and, and_true, and_self, List.getElem?_cons_zero, List.getElem?_cons_succ, Nat.reduceLeDiff, Nat.zero_add, Nat.reduceSub, Nat.le_refl, Nat.lt_irrefl]
      refine z1 (i + 1) _ _ (.inr ?_) (by omega) ⟨rfl, by omega, ht y he rfl⟩
      simp -implicitDefEqProofs only [go_sem, Nat.reduceBEq, Nat.reduceAdd, eq_self, true_and, and_true, and_self, List.getElem?_cons_zero, List.getElem?_cons_succ, Nat.reduceLeDiff, Nat.zero_add, Nat.reduceSub, Nat.le_refl, Nat.lt_irrefl]
      rw [i64_in _ (by omega)]; simp
  · have hi : ¬ i < l.length := by simpa using hc
    rw [List.take_of_length_le (by omega), List.take_of_length_le (by omega)] at g2
    simp -implicitDefEqProofs only [go_sem, Nat.reduceBEq, Nat.reduceAdd, eq_self, true_and, and_true, and_self, List.getElem?_cons_zero, List.getElem?_cons_succ, Nat.reduceLeDiff, Nat.zero_add, Nat.reduceSub, Nat.le_refl, Nat.lt_irrefl]
    refine z2 _ _ _ ?_
    simp -implicitDefEqProofs only [go_sem, Nat.reduceBEq, Nat.reduceAdd, eq_self, true_and, and_true, and_self, List.getElem?_cons_zero, List.getElem?_cons_succ, Nat.reduceLeDiff, Nat.zero_add, Nat.reduceSub, Nat.le_refl, Nat.lt_irrefl]
    refine q2 _ _ ?_
    simp -implicitDefEqProofs only [go_sem, Nat.reduceBEq, Nat.reduceAdd, eq_self, true_and, and_true, and_self, List.getElem?_cons_zero, List.getElem?_cons_succ, Nat.reduceLeDiff, Nat.zero_add, Nat.reduceSub, Nat.le_refl, g2, decide_true]
end
end Go.VL.opl

namespace Go.VL.opl
open Go Go.VL Go.Proofs Go.IntWalk

def lastZ (l : List Int) : Bool := decide ((0 : Int) < l.length) && decide (l[((l.length : Int) - 1).toNat]?.getD 0 = 0)
def depsI (g : Cg) : Int := bif !decide (clockI g.deps = 0) then clockI g.deps else bif lastZ g.deps || !decide (atD g.deps g.ar = g.seq - 1) then 2 else 0
def chkI (g : Cg) : Int := bif decide (g.kind < 1) || decide (5 < g.kind) then 1 else bif !right g.ac g.ar then 2 else bif decide (g.seq < 1) || decide (g.ac < g.seq) then 1 else
  bif !decide (depsI g = 0) then depsI g else bif !nodeB g || !placeB g then 2 else wordsI g

section
variable {σ : St} {d : V} {g : Cg}
set_option maxRecDepth 100000 in
set_option maxHeartbeats 1000000 in
theorem deps_ok (hd : RdS σ d 1 (intsV .i64 g.deps)) (hs : 1 ≤ g.seq ∧ g.seq < 9223372036854775808) : CallA Try.prog 67 [cgV d g] σ fun w σ' => σ' = σ ∧ w = .int .i64 (depsI g) := by
  obtain ⟨b, R, z, rfl, -, -⟩ := id hd
  refine fn_at Try.func67 (by decide) comp67 rfl fun Q q1 q2 => ?_
  have hl := intsV_len g.deps
  have hw : IntKind.i64.wrap (g.seq - 1) = g.seq - 1 := i64_in _ (by omega)
  unfold depsI at q1 q2
  simp -implicitDefEqProofs only [go_sem, Nat.reduceBEq, Nat.reduceAdd, eq_self, true_and, and_true, and_self, List.getElem?_cons_zero, List.getElem?_cons_succ, Nat.reduceLeDiff, Nat.zero_add, Nat.reduceSub, Nat.le_refl, c67, cgV, cgC]
  refine call_at (clock_ok hd) ?_
  rintro v τ ⟨rfl, rfl⟩
  refine ⟨kept_none, ?_⟩
  cases hc : decide (clockI g.deps = 0) <;> rw [hc] at q2
  · simp -implicitDefEqProofs only [go_sem, Nat.reduceBEq, Nat.reduceAdd, eq_self, true_and, and_true, and_self, List.getElem?_cons_zero, List.getElem?_cons_succ, Nat.reduceLeDiff, Nat.zero_add, Nat.reduceSub, Nat.le_refl, hc]
    refine q2 _ _ ?_
    simp -implicitDefEqProofs only [go_sem, Nat.reduceBEq, Nat.reduceAdd, eq_self, true_and, and_true, and_self, List.getElem?_cons_zero, List.getElem?_cons_succ, Nat.reduceLeDiff, Nat.zero_add, Nat.reduceSub, Nat.le_refl, Nat.lt_irrefl]
  have h64 : g.deps.length ≤ 64 := by
    have := of_decide_eq_true hc
    unfold clockI at this
    cases h : decide ((64 : Int) < g.deps.length) with
    | true => rw [h] at this; simp at this
    | false => have := of_decide_eq_false h; omega
  cases h0 : decide ((0 : Int) < g.deps.length)
  case' false =>
    have hz : lastZ g.deps = false := by unfold lastZ; rw [h0]; rfl
    simp -implicitDefEqProofs only [go_sem, Nat.reduceBEq, Nat.reduceAdd, eq_self, true_and, and_true, and_self, List.getElem?_cons_zero, List.getElem?_cons_succ, Nat.reduceLeDiff, Nat.zero_add, Nat.reduceSub, Nat.le_refl, hc, hl, h0]
  case' true =>
    have h0' := of_decide_eq_true h0
    have hi : g.deps.length - 1 < g.deps.length := by omega
    have hget := intsV_get hi
    have hw1 : IntKind.i64.wrap ((g.deps.length : Int) - 1) = ((g.deps.length - 1 : Nat) : Int) := by rw [i64_in _ (by omega)]; omega
    have hz : lastZ g.deps = decide (g.deps[g.deps.length - 1] = 0) := by
      unfold lastZ
      rw [h0, show ((g.deps.length : Int) - 1).toNat = g.deps.length - 1 from by omega]
      simp [hi]
    obtain ⟨k1, k2⟩ := rdl hd (intsV_ne hi)
    generalize g.deps[g.deps.length - 1] = x at hget hz
    have hb : (0 : Int) ≤ ((g.deps.length - 1 : Nat) : Int) ∧ ((g.deps.length - 1 : Nat) : Int) < g.deps.length ∧ z = 1 := ⟨by omega, by omega, k2⟩
    simp -implicitDefEqProofs only [go_sem, Nat.reduceBEq, Nat.reduceAdd, eq_self, true_and, and_true, and_self, List.getElem?_cons_zero, List.getElem?_cons_succ, Nat.reduceLeDiff, Nat.zero_add, Nat.reduceSub, Nat.le_refl, hc, hl, h0, hw1, hget]
    refine ⟨hb, k1, ?_⟩
    cases hx : decide (x = 0) <;> rw [hx] at hz
    case true =>
      simp -implicitDefEqProofs only [go_sem, Nat.reduceBEq, Nat.reduceAdd, eq_self, true_and, and_true, and_self, List.getElem?_cons_zero, List.getElem?_cons_succ, Nat.reduceLeDiff, Nat.zero_add, Nat.reduceSub, Nat.le_refl, hx]
      rw [hz] at q2
      refine q2 _ _ ?_
      simp -implicitDefEqProofs only [go_sem, Nat.reduceBEq, Nat.reduceAdd, eq_self, true_and, and_true, and_self, List.getElem?_cons_zero, List.getElem?_cons_succ, Nat.reduceLeDiff, Nat.zero_add, Nat.reduceSub, Nat.le_refl, cond_true, cond_false, Bool.true_or, Bool.false_or, Bool.or_true, Bool.or_false, Bool.and_true, Bool.and_false, Bool.true_and, Bool.false_and, Bool.or_self, Bool.and_self]
    simp -implicitDefEqProofs only [go_sem, Nat.reduceBEq, Nat.reduceAdd, eq_self, true_and, and_true, and_self, List.getElem?_cons_zero, List.getElem?_cons_succ, Nat.reduceLeDiff, Nat.zero_add, Nat.reduceSub, Nat.le_refl, hx]
  all_goals
    rw [hz] at q2
    refine call_at (at_ok hd) ?_
    rintro v τ ⟨rfl, rfl⟩
    refine ⟨(Ext.refl _).kept, ?_⟩
    simp -implicitDefEqProofs only [go_sem, Nat.reduceBEq, Nat.reduceAdd, eq_self, true_and, and_true, and_self, List.getElem?_cons_zero, List.getElem?_cons_succ, Nat.reduceLeDiff, Nat.zero_add, Nat.reduceSub, Nat.le_refl, hw]
    cases ha : decide (atD g.deps g.ar = g.seq - 1) <;> rw [ha] at q2
    all_goals
      simp -implicitDefEqProofs only [go_sem, Nat.reduceBEq, Nat.reduceAdd, eq_self, true_and, and_true, and_self, List.getElem?_cons_zero, List.getElem?_cons_succ, Nat.reduceLeDiff, Nat.zero_add, Nat.reduceSub, Nat.le_refl, ha]
      refine q2 _ _ ?_
      simp -implicitDefEqProofs only [go_sem, Nat.reduceBEq, Nat.reduceAdd, eq_self, true_and, and_true, and_self, List.getElem?_cons_zero, List.getElem?_cons_succ, Nat.reduceLeDiff, Nat.zero_add, Nat.reduceSub, Nat.le_refl, cond_true, cond_false, Bool.true_or, Bool.false_or, Bool.or_true, Bool.or_false, Bool.and_true, Bool.and_false, Bool.true_and, Bool.false_and, Bool.or_self, Bool.and_self]
set_option maxRecDepth 100000 in
set_option maxHeartbeats 2000000 in
theorem chk_ok (hd : RdS σ d 1 (intsV .i64 g.deps)) (hlen : g.name.length < 4611686018427387904) : CallA Try.prog 47 [cgV d g] σ fun w σ' => σ' = σ ∧ w = .int .i64 (chkI g) := by
  refine fn_at Try.func47 (by decide) comp47 rfl fun Q q1 q2 => ?_
  unfold chkI at q1 q2
  have hseq : right g.ac g.ar = true → decide (g.seq < 1) = false → decide (g.ac < g.seq) = false → 1 ≤ g.seq ∧ g.seq < 9223372036854775808 := by
    intro h1 h2 h3
    simp only [right, Bool.and_eq_true, decide_eq_true_eq, decide_eq_false_iff_not] at h1 h2 h3
    omega
  simp -implicitDefEqProofs only [go_sem, Nat.reduceBEq, Nat.reduceAdd, eq_self, true_and, and_true, and_self, List.getElem?_cons_zero, List.getElem?_cons_succ, Nat.reduceLeDiff, Nat.zero_add, Nat.reduceSub, Nat.le_refl, c47, cgV, cgC]
  repeat' first
    | (refine GW_c (fun h => ?_) (fun h => ?_) <;> (try simp only [Bool.not_eq_true', Bool.not_eq_false'] at h) <;> (try simp only [h]) <;> (try simp -implicitDefEqProofs only [go_sem, Nat.reduceBEq, Nat.reduceAdd, eq_self, true_and, and_true, and_self, List.getElem?_cons_zero, List.getElem?_cons_succ, Nat.reduceLeDiff, Nat.zero_add, Nat.reduceSub, Nat.le_refl, cgC, cgV]))
    | (refine CondW_b (fun h => ?_) (fun h => ?_) <;> (try simp only [Bool.not_eq_true', Bool.not_eq_false'] at h) <;> (try simp only [h]) <;> (try simp -implicitDefEqProofs only [go_sem, Nat.reduceBEq, Nat.reduceAdd, eq_self, true_and, and_true, and_self, List.getElem?_cons_zero, List.getElem?_cons_succ, Nat.reduceLeDiff, Nat.zero_add, Nat.reduceSub, Nat.le_refl, cgC, cgV]))
    | (refine call_at right_ok ?_; rintro v τ ⟨rfl, rfl⟩; refine ⟨by first | exact kept_none | exact (Ext.refl _).kept, ?_⟩; (try simp -implicitDefEqProofs only [go_sem, Nat.reduceBEq, Nat.reduceAdd, eq_self, true_and, and_true, and_self, List.getElem?_cons_zero, List.getElem?_cons_succ, Nat.reduceLeDiff, Nat.zero_add, Nat.reduceSub, Nat.le_refl, cgC, cgV]))
    | (refine call_at (node_ok (d := d) (g := g)) ?_; rintro v τ ⟨rfl, rfl⟩; refine ⟨by first | exact kept_none | exact (Ext.refl _).kept, ?_⟩; (try simp -implicitDefEqProofs only [go_sem, Nat.reduceBEq, Nat.reduceAdd, eq_self, true_and, and_true, and_self, List.getElem?_cons_zero, List.getElem?_cons_succ, Nat.reduceLeDiff, Nat.zero_add, Nat.reduceSub, Nat.le_refl, cgC, cgV]))
    | (refine call_at (place_ok (d := d) (g := g)) ?_; rintro v τ ⟨rfl, rfl⟩; refine ⟨by first | exact kept_none | exact (Ext.refl _).kept, ?_⟩; (try simp -implicitDefEqProofs only [go_sem, Nat.reduceBEq, Nat.reduceAdd, eq_self, true_and, and_true, and_self, List.getElem?_cons_zero, List.getElem?_cons_succ, Nat.reduceLeDiff, Nat.zero_add, Nat.reduceSub, Nat.le_refl, cgC, cgV]))
    | (refine call_at (words_ok (d := d) (g := g) hlen) ?_; rintro v τ ⟨rfl, rfl⟩; refine ⟨by first | exact kept_none | exact (Ext.refl _).kept, ?_⟩; (try simp -implicitDefEqProofs only [go_sem, Nat.reduceBEq, Nat.reduceAdd, eq_self, true_and, and_true, and_self, List.getElem?_cons_zero, List.getElem?_cons_succ, Nat.reduceLeDiff, Nat.zero_add, Nat.reduceSub, Nat.le_refl, cgC, cgV]))
    | (refine call_at (deps_ok (d := d) (g := g) hd (hseq (by assumption) (by assumption) (by assumption))) ?_; rintro v τ ⟨rfl, rfl⟩; refine ⟨by first | exact kept_none | exact (Ext.refl _).kept, ?_⟩; (try simp -implicitDefEqProofs only [go_sem, Nat.reduceBEq, Nat.reduceAdd, eq_self, true_and, and_true, and_self, List.getElem?_cons_zero, List.getElem?_cons_succ, Nat.reduceLeDiff, Nat.zero_add, Nat.reduceSub, Nat.le_refl, cgC, cgV]))
    | (refine cut_dup ?_; (try simp -implicitDefEqProofs only [go_sem, Nat.reduceBEq, Nat.reduceAdd, eq_self, true_and, and_true, and_self, List.getElem?_cons_zero, List.getElem?_cons_succ, Nat.reduceLeDiff, Nat.zero_add, Nat.reduceSub, Nat.le_refl, cgC, cgV]))
    | (refine q2 _ _ ?_; (try simp -implicitDefEqProofs only [go_sem, Nat.reduceBEq, Nat.reduceAdd, eq_self, true_and, and_true, and_self, List.getElem?_cons_zero, List.getElem?_cons_succ, Nat.reduceLeDiff, Nat.zero_add, Nat.reduceSub, Nat.le_refl, cgC, cgV]))
  all_goals (clear q1 q2; first | (simp_all [chkI]; done) | grind [chkI])
end
end Go.VL.opl

namespace Go.VL.opl
open Go Go.VL Go.Proofs Go.IntWalk

def Trims (l out : List Int) (z : Nat) : Prop := l = out ++ List.replicate z 0 ∧ (out = [] ∨ ∃ a x, out = a ++ [x] ∧ x ≠ 0)
theorem Trims.len {l out : List Int} {z : Nat} (h : Trims l out z) : decide ((out.length : Int) = l.length) = !lastZ l := by
  obtain ⟨rfl, h2⟩ := h
  unfold lastZ
  cases z with
  | zero =>
    rcases h2 with rfl | ⟨a, x, rfl, hx⟩
    · simp
    · have e : ((a ++ [x] ++ List.replicate 0 (0 : Int)).length : Int) = a.length + 1 := by simp
      rw [e]
      have e2 : ((a.length : Int) + 1 - 1).toNat = a.length := by omega
      rw [e2]
      simp [hx]
  | succ z =>
    have e : ((out ++ List.replicate (z + 1) (0 : Int)).length : Int) = out.length + z + 1 := by simp; omega
    rw [e]
    have e2 : ((out.length : Int) + z + 1 - 1).toNat = out.length + z := by omega
    have e3 : (out ++ List.replicate (z + 1) (0 : Int))[out.length + z]?.getD 0 = 0 := by
      rw [List.getElem?_append_right (by omega)]
      simp
    rw [e2, e3]
    have e4 : decide ((out.length : Int) = out.length + z + 1) = false := by simp; omega
    have e5 : decide ((0 : Int) < out.length + z + 1) = true := by simp; omega
    rw [e4, e5]; rfl

section
variable {σ : St} {l : List Int} {v d : V} {g : Cg}
set_option maxRecDepth 100000 in
set_option maxHeartbeats 1000000 in
theorem trim_ok (hv : RdS σ v 1 (intsV .i64 l)) (hlen : l.length ≤ 1000000) :
    CallA Try.prog 56 [v] σ fun w σ' => (∃ out z, Trims l out z ∧ RdS σ' w 1 (intsV .i64 out)) ∧ Ext σ σ' ∧ σ'.objs = σ.objs := by
  obtain ⟨b, R, z, rfl, -, -⟩ := id hv
  refine fn_at Try.func56 (by decide) comp56 rfl fun Q q1 q2 => ?_
  have hl := intsV_len l
  simp -implicitDefEqProofs only [go_sem, Nat.reduceBEq, Nat.reduceAdd, eq_self, true_and, and_true, and_self, List.getElem?_cons_zero, List.getElem?_cons_succ, Nat.reduceLeDiff, Nat.zero_add, Nat.reduceSub, Nat.le_refl, c56]
  refine loop_at (fun (x : Nat × List Int × Nat × Nat) => ⟨[(0, .v (.sl b R z (intsV .i64 l))), (3, .v (.sl false (.own x.2.2.2) 1 (intsV .i64 x.2.1))), (4, .v (.int .i64 x.2.2.1)), (5, .v (.int .i64 x.1))], []⟩)
    (fun x τ => x.1 ≤ l.length ∧ Trims (l.take x.1) x.2.1 x.2.2.1 ∧ Ext σ τ ∧ τ.objs = σ.objs ∧ τ.live[x.2.2.2]? = some true ∧ σ.live.length ≤ x.2.2.2) (fun x => l.length - x.1) (0, [], 0, σ.live.length) ?_ ?_ ?_
  · exact .inr (by simp -implicitDefEqProofs only [go_sem, Nat.reduceBEq, Nat.reduceAdd, eq_self, true_and, and_true, and_self, List.getElem?_cons_zero, List.getElem?_cons_succ, Nat.reduceLeDiff, Nat.zero_add, Nat.reduceSub, Nat.le_refl, Nat.lt_irrefl]; exact ⟨rfl, rfl⟩)
  · exact ⟨Nat.zero_le _, ⟨by simp, .inl rfl⟩, ext_live σ true, rfl, live_last _ _, Nat.le_refl _⟩
  rintro ⟨i, out, k, q⟩ τ ⟨g1, g2, g3, g4, g5, g6⟩ Z z1 z2 z3
  simp only at g1 g2 g5 g6
  have hlo : out.length + k = i := by
    have := congrArg List.length g2.1
    simp only [List.length_take, List.length_append, List.length_replicate] at this
    omega
  simp -implicitDefEqProofs only [go_sem, Nat.reduceBEq, Nat.reduceAdd, eq_self, true_and, and_true, and_self, List.getElem?_cons_zero, List.getElem?_cons_succ, Nat.reduceLeDiff, Nat.zero_add, Nat.reduceSub, Nat.le_refl, hl]
  refine CondW_b (fun hc => ?_) (fun hc => ?_)
  · have hi : i < l.length := by simpa using hc
    have hget := intsV_get hi
    obtain ⟨k1, k2⟩ := rdl (hv.ext g3) (intsV_ne hi)
    have hb : (i : Int) < l.length := by omega
    have htk : l.take (i + 1) = l.take i ++ [l[i]] := List.take_succ_eq_append_getElem hi
    generalize l[i] = x at hget htk
    have hw : ∀ n : Nat, n ≤ 1000000 → IntKind.i64.wrap ((n : Int) + 1) = ((n + 1 : Nat) : Int) := fun n h => by rw [i64_in _ (by omega)]; omega
    refine cut_at (fun G τ2 => ∃ out2 k2 q2, G = ⟨[(0, .v (.sl b R z (intsV .i64 l))), (3, .v (.sl false (.own q2) 1 (intsV .i64 out2))), (4, .v (.int .i64 (k2 : Nat))), (5, .v (.int .i64 i))], []⟩ ∧ Trims (l.take (i + 1)) out2 k2 ∧ Ext σ τ2 ∧ τ2.objs = σ.objs ∧ τ2.live[q2]? = some true ∧ σ.live.length ≤ q2) ?_ ?_
    case refine_2 =>
      rintro G τ2 ⟨out2, k2, q2', rfl, t1, t2, t3, t4, t5⟩
      simp -implicitDefEqProofs only [go_sem, Nat.reduceBEq, Nat.reduceAdd, eq_self, true_and, and_true, and_self, List.getElem?_cons_zero, List.getElem?_cons_succ, Nat.reduceLeDiff, Nat.zero_add, Nat.reduceSub, Nat.le_refl, Nat.lt_irrefl]
      refine z1 (i + 1, out2, k2, q2') _ _ (.inr ?_) (by simp only; omega) ⟨by simp only; omega, t1, t2, t3, t4, t5⟩
      simp -implicitDefEqProofs only [go_sem, Nat.reduceBEq, Nat.reduceAdd, eq_self, true_and, and_true, and_self, List.getElem?_cons_zero, List.getElem?_cons_succ, Nat.reduceLeDiff, Nat.zero_add, Nat.reduceSub, Nat.le_refl, hw i (by omega)]
    intro Y y1 y2 y3
    simp -implicitDefEqProofs only [go_sem, Nat.reduceBEq, Nat.reduceAdd, eq_self, true_and, and_true, and_self, List.getElem?_cons_zero, List.getElem?_cons_succ, Nat.reduceLeDiff, Nat.zero_add, Nat.reduceSub, Nat.le_refl, hl, hget]
    refine ⟨⟨by omega, hb, k2⟩, k1, ?_⟩
    refine CondW_b (fun hx => ?_) (fun hx => ?_)
    · have hx : x = 0 := of_decide_eq_true hx
      subst hx
      simp -implicitDefEqProofs only [go_sem, Nat.reduceBEq, Nat.reduceAdd, eq_self, true_and, and_true, and_self, List.getElem?_cons_zero, List.getElem?_cons_succ, Nat.reduceLeDiff, Nat.zero_add, Nat.reduceSub, Nat.le_refl, Nat.lt_irrefl]
      refine y1 _ _ _ (.inr ?_) ⟨out, k + 1, q, rfl, ⟨?_, g2.2⟩, g3, g4, g5, g6⟩
      · simp -implicitDefEqProofs only [go_sem, Nat.reduceBEq, Nat.reduceAdd, eq_self, true_and, and_true, and_self, List.getElem?_cons_zero, List.getElem?_cons_succ, Nat.reduceLeDiff, Nat.zero_add, Nat.reduceSub, Nat.le_refl, hw k (by omega)]
      · rw [htk, g2.1, List.replicate_succ', List.append_assoc]
    · have hx : x ≠ 0 := by simpa using hx
      simp -implicitDefEqProofs only [go_sem, Nat.reduceBEq, Nat.reduceAdd, eq_self, true_and, and_true, and_self, List.getElem?_cons_zero, List.getElem?_cons_succ, Nat.reduceLeDiff, Nat.zero_add, Nat.reduceSub, Nat.le_refl, Nat.lt_irrefl]
      refine loop_at (fun (y : Nat × Nat) => ⟨[(0, .v (.sl b R z (intsV .i64 l))), (3, .v (.sl false (.own y.2) 1 (intsV .i64 (out ++ List.replicate (k - y.1) 0)))), (4, .v (.int .i64 y.1)), (5, .v (.int .i64 i))], []⟩)
        (fun y τ => y.1 ≤ k ∧ Ext σ τ ∧ τ.objs = σ.objs ∧ τ.live[y.2]? = some true ∧ σ.live.length ≤ y.2) (fun y => y.1) (k, q) ?_ ?_ ?_
      · exact .inr (by simp -implicitDefEqProofs only [go_sem, Nat.reduceBEq, Nat.reduceAdd, eq_self, true_and, and_true, and_self, List.getElem?_cons_zero, List.getElem?_cons_succ, Nat.reduceLeDiff, Nat.zero_add, Nat.reduceSub, Nat.le_refl, Nat.sub_self, List.replicate_zero, List.append_nil])
      · exact ⟨Nat.le_refl _, g3, g4, g5, g6⟩
      rintro ⟨m, p⟩ τ1 ⟨m1, m2, m3, m4, m5⟩ X x1 x2 x3
      simp only at m1 m4 m5
      simp -implicitDefEqProofs only [go_sem, Nat.reduceBEq, Nat.reduceAdd, eq_self, true_and, and_true, and_self, List.getElem?_cons_zero, List.getElem?_cons_succ, Nat.reduceLeDiff, Nat.zero_add, Nat.reduceSub, Nat.le_refl, Nat.lt_irrefl]
      refine CondW_b (fun hm => ?_) (fun hm => ?_)
      · have hm : 0 < m := by simpa using hm
        have hsz : (intsV .i64 (out ++ List.replicate (k - m) 0)).length ≤ 1073741823 := by simp [intsV]; omega
        have hap : intsV .i64 (out ++ List.replicate (k - m) 0) ++ [[V.int .i64 0]] = intsV .i64 (out ++ List.replicate (k - (m - 1)) 0) := by
          rw [show k - (m - 1) = k - m + 1 from by omega, List.replicate_succ']
          simp [intsV]
        simp -implicitDefEqProofs only [go_sem, Nat.reduceBEq, Nat.reduceAdd, eq_self, true_and, and_true, and_self, List.getElem?_cons_zero, List.getElem?_cons_succ, Nat.reduceLeDiff, Nat.zero_add, Nat.reduceSub, Nat.le_refl, Nat.lt_irrefl]
        refine ⟨⟨.inr trivial, .inr ((ext_live _ _).live _ m4), ⟨.inr (live_last _ _), .inl trivial⟩, hsz⟩, ?_⟩
        refine x1 (m - 1, _) _ _ (.inr ?_) (by simp only; omega) ⟨by simp only; omega, ext_kill (ext_push m2) m5, m3, live_last' _ _ _, by have := m2.llen; simp only [List.length_append, List.length_cons, List.length_nil]; omega⟩
        simp -implicitDefEqProofs only [go_sem, Nat.reduceBEq, Nat.reduceAdd, eq_self, true_and, and_true, and_self, List.getElem?_cons_zero, List.getElem?_cons_succ, Nat.reduceLeDiff, Nat.zero_add, Nat.reduceSub, Nat.le_refl, hap]
        rw [i64_in _ (by omega)]
        have : ((m : Int) - 1) = ((m - 1 : Nat) : Int) := by omega
        rw [this]
      · have hm : m = 0 := by simp at hm; omega
        subst hm
        simp -implicitDefEqProofs only [go_sem, Nat.reduceBEq, Nat.reduceAdd, eq_self, true_and, and_true, and_self, List.getElem?_cons_zero, List.getElem?_cons_succ, Nat.reduceLeDiff, Nat.zero_add, Nat.reduceSub, Nat.le_refl, Nat.sub_zero]
        refine x2 _ _ _ ?_
        have k3 := rdl (hv.ext m2) (intsV_ne hi)
        have hsz : (intsV .i64 (out ++ List.replicate k 0)).length ≤ 1073741823 := by simp [intsV]; omega
        have hap : intsV .i64 (out ++ List.replicate k 0) ++ [[V.int .i64 x]] = intsV .i64 (out ++ List.replicate k 0 ++ [x]) := by simp [intsV]
        simp -implicitDefEqProofs only [go_sem, Nat.reduceBEq, Nat.reduceAdd, eq_self, true_and, and_true, and_self, List.getElem?_cons_zero, List.getElem?_cons_succ, Nat.reduceLeDiff, Nat.zero_add, Nat.reduceSub, Nat.le_refl, hl, hget]
        refine ⟨⟨by omega, hb, k2⟩, k3.1, ⟨⟨.inr trivial, .inr ((ext_live _ _).live _ m4), ⟨.inr (live_last _ _), .inl trivial⟩, hsz⟩, ?_⟩⟩
        refine y1 _ _ _ (.inr ?_) ⟨out ++ List.replicate k 0 ++ [x], 0, _, rfl, ⟨?_, .inr ⟨_, x, rfl, hx⟩⟩, ext_kill (ext_push m2) m5, m3, live_last' _ _ _, by have := m2.llen; simp only [List.length_append, List.length_cons, List.length_nil]; omega⟩
        · simp -implicitDefEqProofs only [go_sem, Nat.reduceBEq, Nat.reduceAdd, eq_self, true_and, and_true, and_self, List.getElem?_cons_zero, List.getElem?_cons_succ, Nat.reduceLeDiff, Nat.zero_add, Nat.reduceSub, Nat.le_refl, hap]
        · rw [htk, g2.1]; simp
  · have hi : ¬ i < l.length := by simpa using hc
    rw [List.take_of_length_le (by omega)] at g2
    simp -implicitDefEqProofs only [go_sem, Nat.reduceBEq, Nat.reduceAdd, eq_self, true_and, and_true, and_self, List.getElem?_cons_zero, List.getElem?_cons_succ, Nat.reduceLeDiff, Nat.zero_add, Nat.reduceSub, Nat.le_refl, Nat.lt_irrefl]
    refine z2 _ _ _ ?_
    simp -implicitDefEqProofs only [go_sem, Nat.reduceBEq, Nat.reduceAdd, eq_self, true_and, and_true, and_self, List.getElem?_cons_zero, List.getElem?_cons_succ, Nat.reduceLeDiff, Nat.zero_add, Nat.reduceSub, Nat.le_refl, Nat.lt_irrefl]
    refine q2 _ _ ?_
    simp -implicitDefEqProofs only [go_sem, Nat.reduceBEq, Nat.reduceAdd, eq_self, true_and, and_true, and_self, List.getElem?_cons_zero, List.getElem?_cons_succ, Nat.reduceLeDiff, Nat.zero_add, Nat.reduceSub, Nat.le_refl, Nat.lt_irrefl]
    exact ⟨⟨out, k, g2, _, _, _, rfl, by simp, .inr ⟨g5, rfl⟩⟩, g3, g4⟩

set_option maxRecDepth 100000 in
set_option maxHeartbeats 2000000 in
theorem rplaced_ok (hk : 1 ≤ g.kind) : CallA Try.prog 82 [cgV d g] σ fun w σ' => σ' = σ ∧ w = .bool (nodeB g && placeB g) := by
  refine fn_at Try.func82 (by decide) comp82 rfl fun Q q1 q2 => ?_
  rcases (by omega : g.kind = 1 ∨ g.kind = 2 ∨ 2 < g.kind) with k | k | k
  case' inl =>
    have e1 : decide (g.kind = 1) = true := by simp [k]
    have e2 : decide (g.kind = 2) = false := by simp [k]
    have e3 : decide (2 < g.kind) = false := by simp [k]
  case' inr.inl =>
    have e1 : decide (g.kind = 1) = false := by simp [k]
    have e2 : decide (g.kind = 2) = true := by simp [k]
    have e3 : decide (2 < g.kind) = false := by simp [k]
  case' inr.inr =>
    have e1 : decide (g.kind = 1) = false := by simp; omega
    have e2 : decide (g.kind = 2) = false := by simp; omega
    have e3 : decide (2 < g.kind) = true := by simp; omega
  all_goals
    simp -implicitDefEqProofs only [go_sem, Nat.reduceBEq, Nat.reduceAdd, eq_self, true_and, and_true, and_self, List.getElem?_cons_zero, List.getElem?_cons_succ, Nat.reduceLeDiff, Nat.zero_add, Nat.reduceSub, Nat.le_refl, c82, cgV, cgC, V.eqs, V.eq, Bool.and_true, e1, e2, e3]
    repeat' first
      | (refine GW_c (fun h => ?_) (fun h => ?_) <;> (try simp only [Bool.not_eq_true', Bool.not_eq_false'] at h) <;> (try simp only [h]) <;> (try simp -implicitDefEqProofs only [go_sem, Nat.reduceBEq, Nat.reduceAdd, eq_self, true_and, and_true, and_self, List.getElem?_cons_zero, List.getElem?_cons_succ, Nat.reduceLeDiff, Nat.zero_add, Nat.reduceSub, Nat.le_refl, cgC, cgV, V.eqs, V.eq, Bool.and_true, e1, e2, e3]))
      | (refine CondW_b (fun h => ?_) (fun h => ?_) <;> (try simp only [Bool.not_eq_true', Bool.not_eq_false'] at h) <;> (try simp only [h]) <;> (try simp -implicitDefEqProofs only [go_sem, Nat.reduceBEq, Nat.reduceAdd, eq_self, true_and, and_true, and_self, List.getElem?_cons_zero, List.getElem?_cons_succ, Nat.reduceLeDiff, Nat.zero_add, Nat.reduceSub, Nat.le_refl, cgC, cgV, V.eqs, V.eq, Bool.and_true, e1, e2, e3]))
      | (refine call_at ahead_ok ?_; rintro v τ ⟨rfl, rfl⟩; refine ⟨by first | exact kept_none | exact (Ext.refl _).kept, ?_⟩; (try simp -implicitDefEqProofs only [go_sem, Nat.reduceBEq, Nat.reduceAdd, eq_self, true_and, and_true, and_self, List.getElem?_cons_zero, List.getElem?_cons_succ, Nat.reduceLeDiff, Nat.zero_add, Nat.reduceSub, Nat.le_refl, cgC, cgV, V.eqs, V.eq, Bool.and_true, e1, e2, e3]))
      | (refine call_at rnode_ok ?_; rintro v τ ⟨rfl, rfl⟩; refine ⟨by first | exact kept_none | exact (Ext.refl _).kept, ?_⟩; (try simp -implicitDefEqProofs only [go_sem, Nat.reduceBEq, Nat.reduceAdd, eq_self, true_and, and_true, and_self, List.getElem?_cons_zero, List.getElem?_cons_succ, Nat.reduceLeDiff, Nat.zero_add, Nat.reduceSub, Nat.le_refl, cgC, cgV, V.eqs, V.eq, Bool.and_true, e1, e2, e3]))
      | (refine call_at less_ok ?_; rintro v τ ⟨rfl, rfl⟩; refine ⟨by first | exact kept_none | exact (Ext.refl _).kept, ?_⟩; (try simp -implicitDefEqProofs only [go_sem, Nat.reduceBEq, Nat.reduceAdd, eq_self, true_and, and_true, and_self, List.getElem?_cons_zero, List.getElem?_cons_succ, Nat.reduceLeDiff, Nat.zero_add, Nat.reduceSub, Nat.le_refl, cgC, cgV, V.eqs, V.eq, Bool.and_true, e1, e2, e3]))
      | (refine cut_dup ?_; (try simp -implicitDefEqProofs only [go_sem, Nat.reduceBEq, Nat.reduceAdd, eq_self, true_and, and_true, and_self, List.getElem?_cons_zero, List.getElem?_cons_succ, Nat.reduceLeDiff, Nat.zero_add, Nat.reduceSub, Nat.le_refl, cgC, cgV, V.eqs, V.eq, Bool.and_true, e1, e2, e3]))
      | (refine q2 _ _ ?_; (try simp -implicitDefEqProofs only [go_sem, Nat.reduceBEq, Nat.reduceAdd, eq_self, true_and, and_true, and_self, List.getElem?_cons_zero, List.getElem?_cons_succ, Nat.reduceLeDiff, Nat.zero_add, Nat.reduceSub, Nat.le_refl, cgC, cgV, V.eqs, V.eq, Bool.and_true, e1, e2, e3]))
    all_goals (clear q1 q2 k; first | (simp_all [nodeB, placeB, zeroS]; done) | grind [nodeB, placeB, zeroS])
end
end Go.VL.opl

namespace Go.VL.opl
open Go Go.VL Go.Proofs Go.IntWalk
section
variable {σ : St} {l : List Int} {v d : V} {g : Cg}
set_option maxRecDepth 100000 in
set_option maxHeartbeats 2000000 in
theorem rchk_ok (hd : RdS σ d 1 (intsV .i64 g.deps)) (hlen : g.name.length < 4611686018427387904) : CallA Try.prog 64 [cgV d g] σ fun w σ' => (Ext σ σ' ∧ σ'.objs = σ.objs) ∧ w = .int .i64 (chkI g) := by
  obtain ⟨b, R, z, rfl, -, -⟩ := id hd
  refine fn_at Try.func64 (by decide) comp64 rfl fun Q q1 q2 => ?_
  unfold chkI at q1 q2
  have hx : ∀ {τ : St}, τ = σ → (Ext σ τ ∧ τ.objs = σ.objs) := by rintro τ rfl; exact ⟨Ext.refl _, rfl⟩
  cases h1 : decide (g.kind < 1)
  case true =>
    simp -implicitDefEqProofs only [go_sem, Nat.reduceBEq, Nat.reduceAdd, eq_self, true_and, and_true, and_self, List.getElem?_cons_zero, List.getElem?_cons_succ, Nat.reduceLeDiff, Nat.zero_add, Nat.reduceSub, Nat.le_refl, c64, cgV, cgC, h1]
    refine q2 _ _ ?_
    rw [h1]
    simp -implicitDefEqProofs only [go_sem, Nat.reduceBEq, Nat.reduceAdd, eq_self, true_and, and_true, and_self, List.getElem?_cons_zero, List.getElem?_cons_succ, Nat.reduceLeDiff, Nat.zero_add, Nat.reduceSub, Nat.le_refl, cond_true, cond_false, Bool.true_or, Bool.false_or, Bool.or_true, Bool.or_false, Bool.and_true, Bool.and_false, Bool.true_and, Bool.false_and, Bool.or_self, Bool.and_self]
    exact Ext.refl _
  cases h2 : decide (5 < g.kind)
  case true =>
    simp -implicitDefEqProofs only [go_sem, Nat.reduceBEq, Nat.reduceAdd, eq_self, true_and, and_true, and_self, List.getElem?_cons_zero, List.getElem?_cons_succ, Nat.reduceLeDiff, Nat.zero_add, Nat.reduceSub, Nat.le_refl, c64, cgV, cgC, h1, h2]
    refine q2 _ _ ?_
    rw [h1, h2]
    simp -implicitDefEqProofs only [go_sem, Nat.reduceBEq, Nat.reduceAdd, eq_self, true_and, and_true, and_self, List.getElem?_cons_zero, List.getElem?_cons_succ, Nat.reduceLeDiff, Nat.zero_add, Nat.reduceSub, Nat.le_refl, cond_true, cond_false, Bool.true_or, Bool.false_or, Bool.or_true, Bool.or_false, Bool.and_true, Bool.and_false, Bool.true_and, Bool.false_and, Bool.or_self, Bool.and_self]
    exact Ext.refl _
  rw [h1, h2] at q1 q2
  cases h3 : right g.ac g.ar <;> rw [h3] at q1 q2
  case false =>
    simp -implicitDefEqProofs only [go_sem, Nat.reduceBEq, Nat.reduceAdd, eq_self, true_and, and_true, and_self, List.getElem?_cons_zero, List.getElem?_cons_succ, Nat.reduceLeDiff, Nat.zero_add, Nat.reduceSub, Nat.le_refl, c64, cgV, cgC, h1, h2]
    refine call_at (rright_ok (c := g.ac) (r := g.ar)) ?_
    rintro v τ ⟨rfl, rfl⟩
    refine ⟨kept_none, ?_⟩
    simp -implicitDefEqProofs only [go_sem, Nat.reduceBEq, Nat.reduceAdd, eq_self, true_and, and_true, and_self, List.getElem?_cons_zero, List.getElem?_cons_succ, Nat.reduceLeDiff, Nat.zero_add, Nat.reduceSub, Nat.le_refl, h3]
    refine q2 _ _ ?_
    simp -implicitDefEqProofs only [go_sem, Nat.reduceBEq, Nat.reduceAdd, eq_self, true_and, and_true, and_self, List.getElem?_cons_zero, List.getElem?_cons_succ, Nat.reduceLeDiff, Nat.zero_add, Nat.reduceSub, Nat.le_refl, cond_true, cond_false, Bool.true_or, Bool.false_or, Bool.or_true, Bool.or_false, Bool.and_true, Bool.and_false, Bool.true_and, Bool.false_and, Bool.or_self, Bool.and_self]
    exact Ext.refl _
  have h3' := h3
  simp only [right, Bool.and_eq_true, decide_eq_true_eq] at h3'
  cases h4 : decide (g.seq < 1)
  case true =>
    rw [h4] at q2
    simp -implicitDefEqProofs only [go_sem, Nat.reduceBEq, Nat.reduceAdd, eq_self, true_and, and_true, and_self, List.getElem?_cons_zero, List.getElem?_cons_succ, Nat.reduceLeDiff, Nat.zero_add, Nat.reduceSub, Nat.le_refl, c64, cgV, cgC, h1, h2]
    refine call_at (rright_ok (c := g.ac) (r := g.ar)) ?_
    rintro v τ ⟨rfl, rfl⟩
    refine ⟨kept_none, ?_⟩
    simp -implicitDefEqProofs only [go_sem, Nat.reduceBEq, Nat.reduceAdd, eq_self, true_and, and_true, and_self, List.getElem?_cons_zero, List.getElem?_cons_succ, Nat.reduceLeDiff, Nat.zero_add, Nat.reduceSub, Nat.le_refl, h3, h4]
    refine q2 _ _ ?_
    simp -implicitDefEqProofs only [go_sem, Nat.reduceBEq, Nat.reduceAdd, eq_self, true_and, and_true, and_self, List.getElem?_cons_zero, List.getElem?_cons_succ, Nat.reduceLeDiff, Nat.zero_add, Nat.reduceSub, Nat.le_refl, cond_true, cond_false, Bool.true_or, Bool.false_or, Bool.or_true, Bool.or_false, Bool.and_true, Bool.and_false, Bool.true_and, Bool.false_and, Bool.or_self, Bool.and_self]
    exact Ext.refl _
  cases h5 : decide (g.ac < g.seq) <;> rw [h4, h5] at q1 q2
  case true =>
    simp -implicitDefEqProofs only [go_sem, Nat.reduceBEq, Nat.reduceAdd, eq_self, true_and, and_true, and_self, List.getElem?_cons_zero, List.getElem?_cons_succ, Nat.reduceLeDiff, Nat.zero_add, Nat.reduceSub, Nat.le_refl, c64, cgV, cgC, h1, h2]
    refine call_at (rright_ok (c := g.ac) (r := g.ar)) ?_
    rintro v τ ⟨rfl, rfl⟩
    refine ⟨kept_none, ?_⟩
    simp -implicitDefEqProofs only [go_sem, Nat.reduceBEq, Nat.reduceAdd, eq_self, true_and, and_true, and_self, List.getElem?_cons_zero, List.getElem?_cons_succ, Nat.reduceLeDiff, Nat.zero_add, Nat.reduceSub, Nat.le_refl, h3, h4, h5]
    refine q2 _ _ ?_
    simp -implicitDefEqProofs only [go_sem, Nat.reduceBEq, Nat.reduceAdd, eq_self, true_and, and_true, and_self, List.getElem?_cons_zero, List.getElem?_cons_succ, Nat.reduceLeDiff, Nat.zero_add, Nat.reduceSub, Nat.le_refl, cond_true, cond_false, Bool.true_or, Bool.false_or, Bool.or_true, Bool.or_false, Bool.and_true, Bool.and_false, Bool.true_and, Bool.false_and, Bool.or_self, Bool.and_self]
    exact Ext.refl _
  have h4' := of_decide_eq_false h4
  have h5' := of_decide_eq_false h5
  have h1' := of_decide_eq_false h1
  have hw : IntKind.i64.wrap (g.seq - 1) = g.seq - 1 := i64_in _ (by omega)
  simp only [Bool.or_self, cond_false, Bool.not_true] at q1 q2
  have hdp : depsI g = bif !decide (clockI g.deps = 0) then clockI g.deps else bif lastZ g.deps || !decide (atD g.deps g.ar = g.seq - 1) then 2 else 0 := rfl
  cases h6 : decide (clockI g.deps = 0) <;> rw [h6] at hdp
  case false =>
    rw [hdp] at q2
    simp only [Bool.not_false, cond_true, h6] at q2
    simp -implicitDefEqProofs only [go_sem, Nat.reduceBEq, Nat.reduceAdd, eq_self, true_and, and_true, and_self, List.getElem?_cons_zero, List.getElem?_cons_succ, Nat.reduceLeDiff, Nat.zero_add, Nat.reduceSub, Nat.le_refl, c64, cgV, cgC, h1, h2]
    refine call_at (rright_ok (c := g.ac) (r := g.ar)) ?_
    rintro v τ ⟨rfl, rfl⟩
    refine ⟨kept_none, ?_⟩
    simp -implicitDefEqProofs only [go_sem, Nat.reduceBEq, Nat.reduceAdd, eq_self, true_and, and_true, and_self, List.getElem?_cons_zero, List.getElem?_cons_succ, Nat.reduceLeDiff, Nat.zero_add, Nat.reduceSub, Nat.le_refl, h3, h4, h5]
    refine call_at (rclock_ok hd) ?_
    rintro v τ ⟨rfl, rfl⟩
    refine ⟨kept_none, ?_⟩
    simp -implicitDefEqProofs only [go_sem, Nat.reduceBEq, Nat.reduceAdd, eq_self, true_and, and_true, and_self, List.getElem?_cons_zero, List.getElem?_cons_succ, Nat.reduceLeDiff, Nat.zero_add, Nat.reduceSub, Nat.le_refl, h6]
    refine call_at (rclock_ok hd) ?_
    rintro v τ ⟨rfl, rfl⟩
    refine ⟨kept_none, ?_⟩
    simp -implicitDefEqProofs only [go_sem, Nat.reduceBEq, Nat.reduceAdd, eq_self, true_and, and_true, and_self, List.getElem?_cons_zero, List.getElem?_cons_succ, Nat.reduceLeDiff, Nat.zero_add, Nat.reduceSub, Nat.le_refl, Nat.lt_irrefl]
    refine q2 _ _ ?_
    simp -implicitDefEqProofs only [go_sem, Nat.reduceBEq, Nat.reduceAdd, eq_self, true_and, and_true, and_self, List.getElem?_cons_zero, List.getElem?_cons_succ, Nat.reduceLeDiff, Nat.zero_add, Nat.reduceSub, Nat.le_refl, cond_true, cond_false, Bool.true_or, Bool.false_or, Bool.or_true, Bool.or_false, Bool.and_true, Bool.and_false, Bool.true_and, Bool.false_and, Bool.or_self, Bool.and_self]
    exact Ext.refl _
  have h64 : g.deps.length ≤ 64 := by
    have := of_decide_eq_true h6
    unfold clockI at this
    cases h : decide ((64 : Int) < g.deps.length) with
    | true => rw [h] at this; simp at this
    | false => have := of_decide_eq_false h; omega
  simp only [Bool.not_true, cond_false] at hdp
  simp -implicitDefEqProofs only [go_sem, Nat.reduceBEq, Nat.reduceAdd, eq_self, true_and, and_true, and_self, List.getElem?_cons_zero, List.getElem?_cons_succ, Nat.reduceLeDiff, Nat.zero_add, Nat.reduceSub, Nat.le_refl, c64, cgV, cgC, h1, h2]
  refine call_at (rright_ok (c := g.ac) (r := g.ar)) ?_
  rintro v τ ⟨rfl, rfl⟩
  refine ⟨kept_none, ?_⟩
  simp -implicitDefEqProofs only [go_sem, Nat.reduceBEq, Nat.reduceAdd, eq_self, true_and, and_true, and_self, List.getElem?_cons_zero, List.getElem?_cons_succ, Nat.reduceLeDiff, Nat.zero_add, Nat.reduceSub, Nat.le_refl, h3, h4, h5]
  refine call_at (rclock_ok hd) ?_
  rintro v τ ⟨rfl, rfl⟩
  refine ⟨kept_none, ?_⟩
  simp -implicitDefEqProofs only [go_sem, Nat.reduceBEq, Nat.reduceAdd, eq_self, true_and, and_true, and_self, List.getElem?_cons_zero, List.getElem?_cons_succ, Nat.reduceLeDiff, Nat.zero_add, Nat.reduceSub, Nat.le_refl, h6]
  refine call_at (trim_ok hd (by omega)) ?_
  rintro v τ1 ⟨⟨out, zz, ht, ⟨b2, R2, z2, rfl, -, -⟩⟩, he, ho⟩
  refine ⟨he.kept, ?_⟩
  have hl := intsV_len g.deps
  have hl2 := intsV_len out
  have hlen2 := ht.len
  simp -implicitDefEqProofs only [go_sem, Nat.reduceBEq, Nat.reduceAdd, eq_self, true_and, and_true, and_self, List.getElem?_cons_zero, List.getElem?_cons_succ, Nat.reduceLeDiff, Nat.zero_add, Nat.reduceSub, Nat.le_refl, hl, hl2, hlen2]
  have hd1 := hd.ext he
  have h2' := of_decide_eq_false h2
  rw [hdp] at q2
  clear q1 hdp ht hl hl2 hlen2 hx h1 h2
  cases hz : lastZ g.deps <;> rw [hz] at q2
  case true =>
    simp -implicitDefEqProofs only [go_sem, Nat.reduceBEq, Nat.reduceAdd, eq_self, true_and, and_true, and_self, List.getElem?_cons_zero, List.getElem?_cons_succ, Nat.reduceLeDiff, Nat.zero_add, Nat.reduceSub, Nat.le_refl, hz]
    refine q2 _ _ ?_
    simp -implicitDefEqProofs only [go_sem, Nat.reduceBEq, Nat.reduceAdd, eq_self, true_and, and_true, and_self, List.getElem?_cons_zero, List.getElem?_cons_succ, Nat.reduceLeDiff, Nat.zero_add, Nat.reduceSub, Nat.le_refl, cond_true, cond_false, Bool.true_or, Bool.false_or, Bool.or_true, Bool.or_false, Bool.and_true, Bool.and_false, Bool.true_and, Bool.false_and, Bool.or_self, Bool.and_self]
    first | exact ⟨⟨he, ho⟩, by simp⟩ | exact ⟨he, ho⟩
  simp -implicitDefEqProofs only [go_sem, Nat.reduceBEq, Nat.reduceAdd, eq_self, true_and, and_true, and_self, List.getElem?_cons_zero, List.getElem?_cons_succ, Nat.reduceLeDiff, Nat.zero_add, Nat.reduceSub, Nat.le_refl, hz]
  refine call_at (rat_ok hd1) ?_
  rintro v τ ⟨rfl, rfl⟩
  refine ⟨(Ext.refl _).kept, ?_⟩
  simp -implicitDefEqProofs only [go_sem, Nat.reduceBEq, Nat.reduceAdd, eq_self, true_and, and_true, and_self, List.getElem?_cons_zero, List.getElem?_cons_succ, Nat.reduceLeDiff, Nat.zero_add, Nat.reduceSub, Nat.le_refl, hw]
  cases ha : decide (atD g.deps g.ar = g.seq - 1) <;> rw [ha] at q2
  case false =>
    simp -implicitDefEqProofs only [go_sem, Nat.reduceBEq, Nat.reduceAdd, eq_self, true_and, and_true, and_self, List.getElem?_cons_zero, List.getElem?_cons_succ, Nat.reduceLeDiff, Nat.zero_add, Nat.reduceSub, Nat.le_refl, ha]
    refine q2 _ _ ?_
    simp -implicitDefEqProofs only [go_sem, Nat.reduceBEq, Nat.reduceAdd, eq_self, true_and, and_true, and_self, List.getElem?_cons_zero, List.getElem?_cons_succ, Nat.reduceLeDiff, Nat.zero_add, Nat.reduceSub, Nat.le_refl, cond_true, cond_false, Bool.true_or, Bool.false_or, Bool.or_true, Bool.or_false, Bool.and_true, Bool.and_false, Bool.true_and, Bool.false_and, Bool.or_self, Bool.and_self]
    first | exact ⟨⟨he, ho⟩, by simp⟩ | exact ⟨he, ho⟩
  simp -implicitDefEqProofs only [go_sem, Nat.reduceBEq, Nat.reduceAdd, eq_self, true_and, and_true, and_self, List.getElem?_cons_zero, List.getElem?_cons_succ, Nat.reduceLeDiff, Nat.zero_add, Nat.reduceSub, Nat.le_refl, ha]
  refine call_at (rplaced_ok (d := .sl b R z (intsV .i64 g.deps)) (g := g) (by omega)) ?_
  rintro v τ ⟨rfl, rfl⟩
  refine ⟨(Ext.refl _).kept, ?_⟩
  have hnp : (!nodeB g || !placeB g) = !(nodeB g && placeB g) := by cases nodeB g <;> rfl
  rw [hnp] at q2
  cases hp : nodeB g && placeB g <;> rw [hp] at q2
  case false =>
    simp -implicitDefEqProofs only [go_sem, Nat.reduceBEq, Nat.reduceAdd, eq_self, true_and, and_true, and_self, List.getElem?_cons_zero, List.getElem?_cons_succ, Nat.reduceLeDiff, Nat.zero_add, Nat.reduceSub, Nat.le_refl, Nat.lt_irrefl]
    refine q2 _ _ ?_
    simp -implicitDefEqProofs only [go_sem, Nat.reduceBEq, Nat.reduceAdd, eq_self, true_and, and_true, and_self, List.getElem?_cons_zero, List.getElem?_cons_succ, Nat.reduceLeDiff, Nat.zero_add, Nat.reduceSub, Nat.le_refl, cond_true, cond_false, Bool.true_or, Bool.false_or, Bool.or_true, Bool.or_false, Bool.and_true, Bool.and_false, Bool.true_and, Bool.false_and, Bool.or_self, Bool.and_self]
    first | exact ⟨⟨he, ho⟩, by simp⟩ | exact ⟨he, ho⟩
  simp only [Bool.or_self, Bool.not_true, Bool.not_false, cond_false, Bool.or_false, cond_true, Int.reduceEq, decide_true] at q2
  clear hnp hp ha hz hw h3 h3' h4 h5 h4' h5' h6 h64 hd hd1
  have e : ∀ n : Int, g.kind = n → decide (g.kind = 1) = decide (n = 1) ∧ decide (g.kind = 3) = decide (n = 3) ∧ decide (g.kind = 4) = decide (n = 4) ∧ decide (g.kind = 5) = decide (n = 5) ∧ decide (n = 1) = (n == 1) ∧ decide (n = 3) = (n == 3) := by
    rintro n rfl; exact ⟨rfl, rfl, rfl, rfl, by simp [BEq.beq], by simp [BEq.beq]⟩
  rcases (by omega : g.kind = 1 ∨ g.kind = 2 ∨ g.kind = 3 ∨ g.kind = 4 ∨ g.kind = 5) with k | k | k | k | k
  all_goals
    obtain ⟨e1, e3, e4, e5, -, -⟩ := e _ k
    simp only [Int.reduceEq, decide_true, decide_false] at e1 e3 e4 e5
    simp -implicitDefEqProofs only [go_sem, Nat.reduceBEq, Nat.reduceAdd, eq_self, true_and, and_true, and_self, List.getElem?_cons_zero, List.getElem?_cons_succ, Nat.reduceLeDiff, Nat.zero_add, Nat.reduceSub, Nat.le_refl, e1, e3, e4, e5]
    have q1 := q2
    repeat' first
      | (refine GW_c (fun h => ?_) (fun h => ?_) <;> (try simp only [Bool.not_eq_true', Bool.not_eq_false'] at h) <;> (try simp only [h]) <;> (try simp -implicitDefEqProofs only [go_sem, Nat.reduceBEq, Nat.reduceAdd, eq_self, true_and, and_true, and_self, List.getElem?_cons_zero, List.getElem?_cons_succ, Nat.reduceLeDiff, Nat.zero_add, Nat.reduceSub, Nat.le_refl, e1, e3, e4, e5]))
      | (refine CondW_b (fun h => ?_) (fun h => ?_) <;> (try simp only [Bool.not_eq_true', Bool.not_eq_false'] at h) <;> (try simp only [h]) <;> (try simp -implicitDefEqProofs only [go_sem, Nat.reduceBEq, Nat.reduceAdd, eq_self, true_and, and_true, and_self, List.getElem?_cons_zero, List.getElem?_cons_succ, Nat.reduceLeDiff, Nat.zero_add, Nat.reduceSub, Nat.le_refl, e1, e3, e4, e5]))
      | (refine call_at (rname_ok hlen) ?_; rintro v τ ⟨rfl, rfl⟩; refine ⟨by first | exact kept_none | exact (Ext.refl _).kept, ?_⟩; (try simp -implicitDefEqProofs only [go_sem, Nat.reduceBEq, Nat.reduceAdd, eq_self, true_and, and_true, and_self, List.getElem?_cons_zero, List.getElem?_cons_succ, Nat.reduceLeDiff, Nat.zero_add, Nat.reduceSub, Nat.le_refl, e1, e3, e4, e5]))
      | (refine cut_dup ?_; (try simp -implicitDefEqProofs only [go_sem, Nat.reduceBEq, Nat.reduceAdd, eq_self, true_and, and_true, and_self, List.getElem?_cons_zero, List.getElem?_cons_succ, Nat.reduceLeDiff, Nat.zero_add, Nat.reduceSub, Nat.le_refl, e1, e3, e4, e5]))
      | (refine q2 _ _ ?_; (try simp -implicitDefEqProofs only [go_sem, Nat.reduceBEq, Nat.reduceAdd, eq_self, true_and, and_true, and_self, List.getElem?_cons_zero, List.getElem?_cons_succ, Nat.reduceLeDiff, Nat.zero_add, Nat.reduceSub, Nat.le_refl, e1, e3, e4, e5]))
    all_goals (refine ⟨⟨he, ho⟩, ?_⟩; clear q1 q2 e he ho; first | (simp_all [wordsI, namedB, valuedB]; done) | grind [wordsI, namedB, valuedB])
end
end Go.VL.opl

namespace Go.VL.opl
open Go Go.VL Go.Proofs Go.IntWalk

def sameC (g h : Cg) : Bool := (decide (g.ac = h.ac) && decide (g.ar = h.ar)) && (decide (g.seq = h.seq) && (decide (g.deps = h.deps) && (decide (g.kind = h.kind) && ((decide (g.nc = h.nc) && decide (g.nr = h.nr)) && ((decide (g.pc = h.pc) && decide (g.pr = h.pr)) &&
  ((decide (g.fc = h.fc) && decide (g.fr = h.fr)) && (decide (g.name = h.name) && decide (g.val = h.val))))))))
theorem sameC_iff {g h : Cg} : sameC g h = true ↔ g = h := by
  obtain ⟨a1, a2, a3, a4, a5, a6, a7, a8, a9, a10, a11, a12, a13⟩ := g
  obtain ⟨b1, b2, b3, b4, b5, b6, b7, b8, b9, b10, b11, b12, b13⟩ := h
  simp only [sameC, Bool.and_eq_true, decide_eq_true_eq, Cg.mk.injEq]
  constructor
  · rintro ⟨⟨rfl, rfl⟩, rfl, rfl, rfl, ⟨rfl, rfl⟩, ⟨rfl, rfl⟩, ⟨rfl, rfl⟩, rfl, rfl⟩
    exact ⟨rfl, rfl, rfl, rfl, rfl, rfl, rfl, rfl, rfl, rfl, rfl, rfl, rfl⟩
  · rintro ⟨rfl, rfl, rfl, rfl, rfl, rfl, rfl, rfl, rfl, rfl, rfl, rfl, rfl⟩
    exact ⟨⟨rfl, rfl⟩, rfl, rfl, rfl, ⟨rfl, rfl⟩, ⟨rfl, rfl⟩, ⟨rfl, rfl⟩, rfl, rfl⟩
theorem sameC_self (g : Cg) : sameC g g = true := sameC_iff.2 rfl

section
variable {σ : St} {d f : V} {g h : Cg}
set_option maxRecDepth 100000 in
set_option maxHeartbeats 1000000 in
theorem copy_ok (hd : RdS σ d 1 (intsV .i64 g.deps)) (hlen : g.deps.length ≤ 1073741823) :
    CallA Try.prog 34 [cgV d g] σ fun w σ' => Ext σ σ' ∧ σ'.objs = σ.objs ∧ ∃ x, w = cgV x g ∧ NewS σ σ' x 1 (intsV .i64 g.deps) := by
  obtain ⟨b, R, z, rfl, -, -⟩ := id hd
  refine fn_at Try.func34 (by decide) comp34 rfl fun Q q1 q2 => ?_
  have hl := intsV_len g.deps
  have hr := rd_src (hd.ext (ext_live σ true))
  simp -implicitDefEqProofs only [go_sem, Nat.reduceBEq, Nat.reduceAdd, eq_self, true_and, and_true, and_self, List.getElem?_cons_zero, List.getElem?_cons_succ, Nat.reduceLeDiff, Nat.zero_add, Nat.reduceSub, Nat.le_refl, c34, cgV, cgC]
  refine ⟨⟨.inr trivial, .inr (live_last _ _), hr, by rw [hl]; omega⟩, ?_⟩
  refine q2 _ _ ?_
  simp -implicitDefEqProofs only [go_sem, Nat.reduceBEq, Nat.reduceAdd, eq_self, true_and, and_true, and_self, List.getElem?_cons_zero, List.getElem?_cons_succ, Nat.reduceLeDiff, Nat.zero_add, Nat.reduceSub, Nat.le_refl, Nat.lt_irrefl]
  refine ⟨ext_kill (ext_push (Ext.refl σ)) (Nat.le_refl _), _, rfl, ?_⟩
  refine ⟨_, rfl, live_last' _ _ _, by simp⟩
set_option maxRecDepth 100000 in
set_option maxHeartbeats 4000000 in
theorem same_ok (hd : RdS σ d 1 (intsV .i64 g.deps)) (hf : RdS σ f 1 (intsV .i64 h.deps)) (hlen : g.deps.length < 4611686018427387904) :
    CallA Try.prog 18 [cgV d g, cgV f h] σ fun w σ' => σ' = σ ∧ w = .bool (sameC g h) := by
  refine fn_at Try.func18 (by decide) comp18 rfl fun Q q1 q2 => ?_
  simp -implicitDefEqProofs only [go_sem, Nat.reduceBEq, Nat.reduceAdd, eq_self, true_and, and_true, and_self, List.getElem?_cons_zero, List.getElem?_cons_succ, Nat.reduceLeDiff, Nat.zero_add, Nat.reduceSub, Nat.le_refl, c18, cgV, cgC, V.eqs, V.eq, Bool.and_true]
  repeat' first
    | (refine GW_c (fun h => ?_) (fun h => ?_) <;> (try simp only [Bool.not_eq_true', Bool.not_eq_false'] at h) <;> (try simp only [h]) <;> (try simp -implicitDefEqProofs only [go_sem, Nat.reduceBEq, Nat.reduceAdd, eq_self, true_and, and_true, and_self, List.getElem?_cons_zero, List.getElem?_cons_succ, Nat.reduceLeDiff, Nat.zero_add, Nat.reduceSub, Nat.le_refl, cgC, cgV, V.eqs, V.eq, Bool.and_true]))
    | (refine CondW_b (fun h => ?_) (fun h => ?_) <;> (try simp only [Bool.not_eq_true', Bool.not_eq_false'] at h) <;> (try simp only [h]) <;> (try simp -implicitDefEqProofs only [go_sem, Nat.reduceBEq, Nat.reduceAdd, eq_self, true_and, and_true, and_self, List.getElem?_cons_zero, List.getElem?_cons_succ, Nat.reduceLeDiff, Nat.zero_add, Nat.reduceSub, Nat.le_refl, cgC, cgV, V.eqs, V.eq, Bool.and_true]))
    | (refine call_at (rsame_ok hd hf hlen) ?_; rintro v τ ⟨rfl, rfl⟩; refine ⟨by first | exact kept_none | exact (Ext.refl _).kept, ?_⟩; (try simp -implicitDefEqProofs only [go_sem, Nat.reduceBEq, Nat.reduceAdd, eq_self, true_and, and_true, and_self, List.getElem?_cons_zero, List.getElem?_cons_succ, Nat.reduceLeDiff, Nat.zero_add, Nat.reduceSub, Nat.le_refl, cgC, cgV, V.eqs, V.eq, Bool.and_true]))
    | (refine cut_dup ?_; (try simp -implicitDefEqProofs only [go_sem, Nat.reduceBEq, Nat.reduceAdd, eq_self, true_and, and_true, and_self, List.getElem?_cons_zero, List.getElem?_cons_succ, Nat.reduceLeDiff, Nat.zero_add, Nat.reduceSub, Nat.le_refl, cgC, cgV, V.eqs, V.eq, Bool.and_true]))
    | (refine q2 _ _ ?_; (try simp -implicitDefEqProofs only [go_sem, Nat.reduceBEq, Nat.reduceAdd, eq_self, true_and, and_true, and_self, List.getElem?_cons_zero, List.getElem?_cons_succ, Nat.reduceLeDiff, Nat.zero_add, Nat.reduceSub, Nat.le_refl, cgC, cgV, V.eqs, V.eq, Bool.and_true]))
  all_goals (clear q1 q2; first | (simp_all [sameC]; done) | grind [sameC])
end
end Go.VL.opl

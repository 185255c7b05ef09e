import Derived.Test.YtcojigpknididaaB2
import Derived.Shelf.SlSortCmp.NoneTotal
import Derived.Shelf.Lay
import Derived.Ground.SlsfProg
import Derived.Test.YtcojigpknididaaProg
import Derived.Shelf.Spec.SlicesInsertGrow
set_option linter.unusedVariables false
set_option linter.unusedSimpArgs false
namespace Go.VL.opl
open Go Go.VL Go.Proofs Go.IntWalk

def cgsV (l : List (V × Cg)) : List (List V) := l.map fun p => cgC p.1 p.2
theorem cgsV_len (l : List (V × Cg)) : (cgsV l).length = l.length := by simp [cgsV]
theorem cgsV_get {l : List (V × Cg)} {i : Nat} (h : i < l.length) : (cgsV l)[((i : Nat) : Int).toNat]?.getD [] = cgC l[i].1 l[i].2 := by simp [cgsV, h]
theorem cgsV_ne {l : List (V × Cg)} {i : Nat} (h : i < l.length) : cgsV l ≠ [] := by cases l <;> simp [cgsV] at h ⊢
/-- All their clocks may be read. -/
def Rds (σ : St) (l : List (V × Cg)) : Prop := ∀ p ∈ l, RdS σ p.1 1 (intsV .i64 p.2.deps)
theorem Rds.ext {σ σ' : St} {l : List (V × Cg)} (h : Rds σ l) (he : Ext σ σ') : Rds σ' l := fun p hp => (h p hp).ext he
def RdC (σ : St) (v : V) (gs : List Cg) : Prop := ∃ l : List (V × Cg), l.map (·.2) = gs ∧ RdS σ v 13 (cgsV l) ∧ Rds σ l
theorem RdC.ext {σ σ' : St} {v : V} {gs : List Cg} (h : RdC σ v gs) (he : Ext σ σ') : RdC σ' v gs := by
  obtain ⟨l, h1, h2, h3⟩ := h
  exact ⟨l, h1, h2.ext he, h3.ext he⟩

/-- But for one right. -/
def St.but (σ : St) (q : Nat) : St := ⟨σ.objs, σ.live.set q false⟩
theorem live_but {l : List Bool} {q r : Nat} (h : (l.set q false)[r]? = some true) : r ≠ q ∧ l[r]? = some true := by
  have hlt : r < l.length := by have := (List.getElem?_eq_some_iff.1 h).1; simpa using this
  by_cases e : r = q
  · subst e; rw [List.getElem?_set_self hlt] at h; cases h
  · rw [List.getElem?_set_ne (Ne.symm e)] at h; exact ⟨e, h⟩
theorem but_ext (σ : St) (q : Nat) : Ext (St.but σ q) σ := ⟨fun _ _ h => h, fun _ h => (live_but h).2, Nat.le_refl _, by simp [St.but]⟩
theorem but_app {τ τ2 : St} {q : Nat} (he : Ext τ τ2) : Ext (St.but τ q) (St.but ⟨τ2.objs, kill (τ2.live ++ [true]) (.own q) ++ [true]⟩ (τ2.live ++ [true]).length) := by
  refine ⟨he.objs, fun r hr => ?_, he.olen, ?_⟩
  · obtain ⟨h1, h2⟩ := live_but hr
    have h3 := he.live _ h2
    have hlt := (List.getElem?_eq_some_iff.1 h3).1
    show ((((τ2.live ++ [true]).set q false) ++ [true]).set (τ2.live ++ [true]).length false)[r]? = _
    rw [List.getElem?_set_ne (by simp; omega), List.getElem?_append_left (by simp; omega), List.getElem?_set_ne (Ne.symm h1), List.getElem?_append_left hlt]
    exact h3
  · have := he.llen
    simp [St.but, kill]; omega
theorem live_app {τ2 : St} {q r : Nat} (h : τ2.live[r]? = some true) (hr : r ≠ q) : (St.but ⟨τ2.objs, kill (τ2.live ++ [true]) (.own q) ++ [true]⟩ (τ2.live ++ [true]).length).live[r]? = some true := by
  have hlt := (List.getElem?_eq_some_iff.1 h).1
  show ((((τ2.live ++ [true]).set q false) ++ [true]).set (τ2.live ++ [true]).length false)[r]? = _
  rw [List.getElem?_set_ne (by simp; omega), List.getElem?_append_left (by simp; omega), List.getElem?_set_ne (Ne.symm hr), List.getElem?_append_left hlt]
  exact h

section
variable {σ : St} {v u : V} {gs hs : List Cg}
set_option maxRecDepth 100000 in
set_option maxHeartbeats 1000000 in
theorem sameAll_ok (hv : RdC σ v gs) (hu : RdC σ u hs) (hlen : gs.length ≤ 2000000) (hd : ∀ g ∈ gs, g.deps.length ≤ 1073741823) :
    CallA Try.prog 33 [v, u] σ fun w σ' => σ' = σ ∧ w = .bool (decide (gs = hs)) := by
  obtain ⟨l, rfl, hv, hds⟩ := hv
  obtain ⟨m, rfl, hu, hdm⟩ := hu
  obtain ⟨b, R, z, rfl, -, -⟩ := id hv
  obtain ⟨b2, R2, z2, rfl, -, -⟩ := id hu
  refine fn_at Try.func33 (by decide) comp33 rfl fun Q q1 q2 => ?_
  have hl := cgsV_len l
  have hm := cgsV_len m
  rw [List.length_map] at hlen
  simp -implicitDefEqProofs only [go_sem, Nat.reduceBEq, Nat.reduceAdd, eq_self, true_and, and_true, and_self, List.getElem?_cons_zero, List.getElem?_cons_succ, Nat.reduceLeDiff, Nat.zero_add, Nat.reduceSub, Nat.le_refl, c33, hl, hm]
  refine CondW_b (fun h => ?_) (fun h0 => ?_)
  · have : ¬ l.map (·.2) = m.map (·.2) := by
      intro e
      have := congrArg List.length e
      simp only [List.length_map] at this
      simp [this] at h
    simp -implicitDefEqProofs only [go_sem, Nat.reduceBEq, Nat.reduceAdd, eq_self, true_and, and_true, and_self, List.getElem?_cons_zero, List.getElem?_cons_succ, Nat.reduceLeDiff, Nat.zero_add, Nat.reduceSub, Nat.le_refl, Nat.lt_irrefl]
    refine q2 _ _ ?_
    simp -implicitDefEqProofs only [go_sem, Nat.reduceBEq, Nat.reduceAdd, eq_self, true_and, and_true, and_self, List.getElem?_cons_zero, List.getElem?_cons_succ, Nat.reduceLeDiff, Nat.zero_add, Nat.reduceSub, Nat.le_refl, this, decide_false]
  have hlm : l.length = m.length := by have := h0; simp at this; omega
  simp -implicitDefEqProofs only [go_sem, Nat.reduceBEq, Nat.reduceAdd, eq_self, true_and, and_true, and_self, List.getElem?_cons_zero, List.getElem?_cons_succ, Nat.reduceLeDiff, Nat.zero_add, Nat.reduceSub, Nat.le_refl, hl, hm]
  refine loop_at (fun (i : Nat) => ⟨[(0, .v (.sl b R z (cgsV l))), (1, .v (.sl b2 R2 z2 (cgsV m))), (5, .v (.int .i64 i))], []⟩) (fun i τ => τ = σ ∧ i ≤ l.length ∧ (l.take i).map (·.2) = (m.take i).map (·.2)) (fun i => l.length - i) 0 ?_ ?_ ?_
  · exact .inr (by simp -implicitDefEqProofs only [go_sem, Nat.reduceBEq, Nat.reduceAdd, eq_self, true_and, and_true, and_self, List.getElem?_cons_zero, List.getElem?_cons_succ, Nat.reduceLeDiff, Nat.zero_add, Nat.reduceSub, Nat.le_refl, Nat.lt_irrefl]; trivial)
  · exact ⟨rfl, Nat.zero_le _, by simp⟩
  rintro i τ ⟨rfl, g1, g2⟩ Z z1 z2 z3
  simp -implicitDefEqProofs only [go_sem, Nat.reduceBEq, Nat.reduceAdd, eq_self, true_and, and_true, and_self, List.getElem?_cons_zero, List.getElem?_cons_succ, Nat.reduceLeDiff, Nat.zero_add, Nat.reduceSub, Nat.le_refl, hl]
  refine CondW_b (fun hc => ?_) (fun hc => ?_)
  · have hi : i < l.length := by simpa using hc
    have hi2 : i < m.length := by omega
    have hget := cgsV_get hi
    have hget2 := cgsV_get hi2
    obtain ⟨k1, k2⟩ := rdl hv (cgsV_ne hi)
    obtain ⟨k3, k4⟩ := rdl hu (cgsV_ne hi2)
    have hb : (i : Int) < l.length := by omega
    have hb2 : (i : Int) < m.length := by omega
    have htk : l.take (i + 1) = l.take i ++ [l[i]] := List.take_succ_eq_append_getElem hi
    have htk2 : m.take (i + 1) = m.take i ++ [m[i]] := List.take_succ_eq_append_getElem hi2
    have hne : l[i].2 ≠ m[i].2 → ¬ l.map (·.2) = m.map (·.2) := by
      intro h e
      have h1 : (l.map (·.2))[i]'(by simpa using hi) = (m.map (·.2))[i]'(by simpa using hi2) := by simp only [e]
      simp only [List.getElem_map] at h1
      exact h h1
    have hdi := hds _ (List.getElem_mem hi)
    have hdi2 := hdm _ (List.getElem_mem hi2)
    have hdl := hd l[i].2 (List.mem_map.2 ⟨_, List.getElem_mem hi, rfl⟩)
    generalize l[i] = x at hget htk hne hdi hdl
    generalize m[i] = y at hget2 htk2 hne hdi2
    obtain ⟨d, g⟩ := x
    obtain ⟨f, h⟩ := y
    simp only at hget hget2 hdi hdi2 hdl hne
    simp -implicitDefEqProofs only [go_sem, Nat.reduceBEq, Nat.reduceAdd, eq_self, true_and, and_true, and_self, List.getElem?_cons_zero, List.getElem?_cons_succ, Nat.reduceLeDiff, Nat.zero_add, Nat.reduceSub, Nat.le_refl, hget, hget2, cgC]
    rw [hl, hm]
    refine ⟨⟨by omega, hb, k2⟩, k1, ⟨by omega, hb2, k4⟩, k3, call_at (same_ok (d := d) (f := f) (g := g) (h := h) hdi hdi2 (by omega)) ?_⟩
    rintro v τ2 ⟨rfl, rfl⟩
    refine ⟨(Ext.refl _).kept, ?_⟩
    cases he : sameC g h
    · have := hne (by intro e; rw [e, sameC_self] at he; cases he)
      simp -implicitDefEqProofs only [go_sem, Nat.reduceBEq, Nat.reduceAdd, eq_self, true_and, and_true, and_self, List.getElem?_cons_zero, List.getElem?_cons_succ, Nat.reduceLeDiff, Nat.zero_add, Nat.reduceSub, Nat.le_refl, he]
      refine z3 _ _ ?_
      simp -implicitDefEqProofs only [go_sem, Nat.reduceBEq, Nat.reduceAdd, eq_self, true_and, and_true, and_self, List.getElem?_cons_zero, List.getElem?_cons_succ, Nat.reduceLeDiff, Nat.zero_add, Nat.reduceSub, Nat.le_refl, Nat.lt_irrefl]
      refine q2 _ _ ?_
      simp -implicitDefEqProofs only [go_sem, Nat.reduceBEq, Nat.reduceAdd, eq_self, true_and, and_true, and_self, List.getElem?_cons_zero, List.getElem?_cons_succ, Nat.reduceLeDiff, Nat.zero_add, Nat.reduceSub, Nat.le_refl, this, decide_false]
    · have he := sameC_iff.1 he
      subst he
      simp -implicitDefEqProofs only [go_sem, Nat.reduceBEq, Nat.reduceAdd, eq_self, true_and, and_true, and_self, List.getElem?_cons_zero, List.getElem?_cons_succ, Nat.reduceLeDiff, Nat.zero_add, Nat.reduceSub, Nat.le_refl, sameC_self]
      refine z1 (i + 1) _ _ (.inr ?_) (by omega) ⟨rfl, by omega, by rw [htk, htk2, List.map_append, List.map_append, g2]; rfl⟩
      simp -implicitDefEqProofs only [go_sem, Nat.reduceBEq, Nat.reduceAdd, eq_self, true_and, and_true, and_self, List.getElem?_cons_zero, List.getElem?_cons_succ, Nat.reduceLeDiff, Nat.zero_add, Nat.reduceSub, Nat.le_refl, Nat.lt_irrefl]
      rw [i64_in _ (by omega)]; simp
  · have hi : ¬ i < l.length := by simpa using hc
    rw [List.take_of_length_le (by omega), List.take_of_length_le (by omega)] at g2
    simp -implicitDefEqProofs only [go_sem, Nat.reduceBEq, Nat.reduceAdd, eq_self, true_and, and_true, and_self, List.getElem?_cons_zero, List.getElem?_cons_succ, Nat.reduceLeDiff, Nat.zero_add, Nat.reduceSub, Nat.le_refl, Nat.lt_irrefl]
    refine z2 _ _ _ ?_
    simp -implicitDefEqProofs only [go_sem, Nat.reduceBEq, Nat.reduceAdd, eq_self, true_and, and_true, and_self, List.getElem?_cons_zero, List.getElem?_cons_succ, Nat.reduceLeDiff, Nat.zero_add, Nat.reduceSub, Nat.le_refl, Nat.lt_irrefl]
    refine q2 _ _ ?_
    simp -implicitDefEqProofs only [go_sem, Nat.reduceBEq, Nat.reduceAdd, eq_self, true_and, and_true, and_self, List.getElem?_cons_zero, List.getElem?_cons_succ, Nat.reduceLeDiff, Nat.zero_add, Nat.reduceSub, Nat.le_refl, g2, decide_true]
end
end Go.VL.opl

namespace Go.VL
open Go Go.Proofs Go.Shelf Go.RowKit Go.Lib Go.Sort

section
variable {P : Program} {γ : G} {σ : St} {w : World}

theorem flat_get {X : Type} [Inhabited X] {enc : X → List Value} {k : Nat} (hk : ∀ x, (enc x).length = k) : ∀ (l : List X) (j : Nat), j < l.length * k → (l.flatMap enc)[j]? = some (enc l.toArray[j / k]!)[j % k]!
  | [], j, h => by simp at h
  | x :: l, j, h => by
    have hk0 : 0 < k := by
      rcases Nat.eq_zero_or_pos k with h0 | h0
      · subst h0; simp at h
      · exact h0
    simp only [List.flatMap_cons]
    by_cases hj : j < k
    · rw [List.getElem?_append_left (by rw [hk]; exact hj), Nat.div_eq_of_lt hj, Nat.mod_eq_of_lt hj]
      have hx : j < (enc x).length := by rw [hk]; exact hj
      simp [List.getElem?_eq_getElem hx, hx]
    · rw [List.getElem?_append_right (by rw [hk]; omega), hk]
      have h2 : j - k < l.length * k := by
        simp only [List.length_cons, Nat.succ_mul] at h; omega
      rw [flat_get hk l (j - k) h2]
      have e1 : j / k = (j - k) / k + 1 := by
        have : j = (j - k) + k := by omega
        conv => lhs; rw [this]
        rw [Nat.add_div_right _ hk0]
      have e2 : j % k = (j - k) % k := by
        have : j = (j - k) + k := by omega
        conv => lhs; rw [this]
        rw [Nat.add_mod_right]
      rw [e1, e2]
      have hlt : (j - k) / k < l.length := Nat.div_lt_of_lt_mul (by rw [Nat.mul_comm]; exact h2)
      simp [hlt]
theorem flat_len {X : Type} {enc : X → List Value} {k : Nat} (hk : ∀ x, (enc x).length = k) (l : List X) : (l.flatMap enc).length = l.length * k := by
  induction l with
  | nil => simp
  | cons x l ih => simp [hk, ih, Nat.succ_mul, Nat.add_comm]
theorem repE_enc {X : Type} {encV : X → List V} {enc : X → List Value} {k : Nat} (hrep : ∀ x, RepL γ (encV x) (enc x)) (hk : ∀ x, (enc x).length = k) (h1 : ∀ x, ∀ v ∈ enc x, v.oneCell' = true) : ∀ l : List X, RepE γ k (l.map encV) (l.flatMap enc)
  | [] => by simp [RepE]
  | x :: l => by
    simp only [List.map_cons, List.flatMap_cons, RepE]
    exact ⟨enc x, l.flatMap enc, rfl, by rw [(hrep x).length, hk], hrep x, repE_enc hrep hk h1 l, h1 x⟩
theorem repE_det {X : Type} {encV : X → List V} {enc : X → List Value} {k : Nat} (hdet : ∀ x ws, RepL γ (encV x) ws → ws = enc x) : ∀ (l : List X) (vs : List Value), RepE γ k (l.map encV) vs → vs = l.flatMap enc
  | [], vs, h => by simpa [RepE] using h
  | x :: l, vs, h => by
    simp only [List.map_cons, RepE] at h
    obtain ⟨ws, us, rfl, -, h2, h3, -⟩ := h
    rw [hdet x ws h2, repE_det hdet l us h3]; rfl

/-- A comparison's calls, in whatever world: they lay blocks and draw, no more. -/
theorem cmp_lays {X : Type} {encV : X → List V} {enc : X → List Value} {cf : X → X → Int} {g : FuncId} (hrep : ∀ γ x, RepL γ (encV x) (enc x))
    (hg : ∀ x y, CallA P g [.agg (encV x), .agg (encV y)] ⟨[], []⟩ fun v _ => v = .int .i64 (cf x y)) (x y : X) (W : World) :
    Calls P g #[.agg (enc x).toArray, .agg (enc y).toArray] W fun e w' => e = .returned (.int .i64 (cf x y)) ∧ ∃ q os', w' = grow (W.drewN q) os' := by
  refine ((hg x y).2 (g0 W) W [.agg (enc x).toArray, .agg (enc y).toArray] (inv0 W) ?_).mono ?_
  · simp only [RepL, Rep]
    exact ⟨_, _, rfl, ⟨_, rfl, hrep _ x⟩, _, _, rfl, ⟨_, rfl, hrep _ y⟩, rfl⟩
  rintro e w' ⟨v, z, σ', γ', rfl, hle, hi, hz, rfl⟩
  simp only [Rep] at hz
  subst hz
  refine ⟨rfl, w'.drawn - W.drawn, w'.heap.extract W.heap.size w'.heap.size, ?_⟩
  have hd : W.drawn ≤ w'.drawn := by
    have := hi.drn
    rw [hle.drn] at this
    exact this
  have hh : ∀ (b : Nat) (o : Obj), W.heap[b]? = some o → w'.heap[b]? = some o := fun b o hb => hi.phi b o (by rw [hle.phi]; exact hb)
  have hsz : W.heap.size ≤ w'.heap.size := by
    rcases Nat.lt_or_ge w'.heap.size W.heap.size with hlt | hge
    · have := hh w'.heap.size W.heap[w'.heap.size] (Array.getElem?_eq_getElem hlt)
      simp at this
    · exact hge
  have hheap : w'.heap = W.heap ++ w'.heap.extract W.heap.size w'.heap.size := by
    apply Array.ext_getElem?
    intro i
    rw [Array.getElem?_append]
    split
    · rename_i hlt
      rw [Array.getElem?_eq_getElem hlt]
      exact hh i _ (Array.getElem?_eq_getElem hlt)
    · rename_i hge
      rw [Array.getElem?_extract]
      simp only [Nat.min_self]
      split
      · rename_i h2
        congr 1; omega
      · rename_i h2
        rw [Array.getElem?_eq_none (by omega)]
  have e1 : w'.os = W.os := hi.os.trans hle.os
  have e2 : w'.tape = W.tape := hi.tape.trans hle.tape
  have e3 : w'.output = W.output := hi.out.trans hle.out
  obtain ⟨h', t', d', o', u'⟩ := w'
  simp only at e1 e2 e3 hheap hd
  subst e1 e2 e3
  show _ = grow (World.drewN W (d' - W.drawn)) _
  simp only [World.drewN, grow]
  rw [← hheap]
  congr 1
  omega

set_option maxHeartbeats 1000000 in
/-- slices.SortFunc of an owned slice of structs. -/
theorem sort_cm {ρ : Ren} {X : Type} [Inhabited X] (L : SlLaysF0.n6 P ρ) (k : Nat) (aE : ∀ w, (isAgg (ρ.t 24)).run P w = .ok true w) (zE : ∀ w, (Go.sizeOf (ρ.t 24)).run P w = .ok k w)
    (encV : X → List V) (enc : X → List Value) (hrep : ∀ γ x, RepL γ (encV x) (enc x)) (hk : ∀ x, (enc x).length = k) (h1 : ∀ x, ∀ v ∈ enc x, v.oneCell' = true) (hdet : ∀ γ x ws, RepL γ (encV x) ws → ws = enc x)
    (cf : X → X → Int) (hO : SWO (ltOf cf)) (g : FuncId) (hg : ∀ x y, CallA P g [.agg (encV x), .agg (encV y)] ⟨[], []⟩ fun v _ => v = .int .i64 (cf x y))
    (hfn : ∃ fn, P.funcs[ρ.f 6]? = some fn ∧ fn.body.isSome = true ∧ (fn.name == "runtime.NumGoroutine") = false) {r : Nat} {l : List X} (hlive : σ.live[r]? = some true) (hsz : l.length < 4611686018427387904) :
    CallM P (ρ.f 6) [.sl false (.own r) k (l.map encV), .fn g []] r k (l.map encV) σ fun v r' es' σ' => ∃ l' : List X, l'.Perm l ∧ l'.Pairwise (fun a b => ltOf cf b a = false) ∧ es' = l'.map encV ∧ v = .tup [] ∧
      r' = σ.live.length ∧ σ' = ⟨σ.objs, σ.live.set r false ++ [true]⟩ := by
  refine ⟨hfn, fun γ w vs hi hr => ?_⟩
  simp only [RepL, Rep] at hr
  obtain ⟨v1, _, rfl, ⟨a, cap, rfl, hsp, hcap, hrho⟩, v2, _, rfl, ⟨_, rfl, rfl⟩, rfl⟩ := hr
  obtain ⟨blk, off, sp⟩ := a
  simp only at hsp
  subst hsp
  obtain ⟨a', cap', e0, -, h3, h4, h5, h6, c, e, z, vs0, h7, h8, h9, h10, h11⟩ := hi.own _ _ _ _ hlive hrho
  cases e0
  simp only at h4 h5 h6 h7 h8 h10 h11
  have hv0 := repE_det (hdet γ) l vs0 h9
  subst hv0
  have hlen : (l.map encV).length = l.length := by simp
  have hfl := flat_len hk l
  have hblk : blk < w.heap.size := lt_of_heap h7
  have hkb : l.length * k ≤ cap * k := Nat.mul_le_mul_right k (by rw [hlen] at h3; exact h3)
  have hcell : ∀ j, j < l.length * k → c[off + j]? = some ((flatK enc k l.toArray)[j]!) := by
    intro j hj
    rw [get_flatK enc k l.toArray j (by simpa using hj)]
    exact h8 j _ (flat_get hk l j hj)
  have hH : HoldsK enc k w blk off l.toArray := by
    intro j hj
    rw [size_flatK] at hj
    simp only [List.size_toArray] at hj
    refine ⟨?_, ?_⟩
    · simp only [World.cell?, h7]
      exact hcell j hj
    · have := h11 (off + j) (by omega) (by omega)
      simp only [World.frozen?, h7, Bool.and_eq_false_iff, decide_eq_false_iff_not]
      omega
  have eg : ∀ args w, (callFunc g args).run P w = .ok (.enter g args) w := fun args w => enter_ok (hg default default).1
  have hcmp : CmpLays P g #[] enc k cf blk off l.toArray.size w := fun m os dk _ x y => by
    simpa using cmp_lays hrep hg x y (sortWorldK enc k w blk off m dk os)
  have hcon := AnyQ.slices_SortFunc L k aE zE enc hk h1 cf hO g #[] blk off cap l.toArray w eg hcmp hH hblk (by simpa using hsz)
  rw [hlen]
  simp only [List.size_toArray] at hcon
  refine hcon.mono ?_
  rintro e' w' ⟨rfl, d', n, os, hp, hs, rfl⟩
  have hds : d'.size = l.length := by simpa using hp.1
  have hperm : d'.toList.Perm l := by
    have := hp.2.2
    rw [Array.extract_eq_self_of_le (by simp [hds]), Array.extract_eq_self_of_le (by simp)] at this
    simpa using this
  have hpair : d'.toList.Pairwise (fun a b => ltOf cf b a = false) := by
    rw [List.pairwise_iff_getElem]
    intro i j hi' hj' hij
    have hi2 : i < d'.size := by simpa using hi'
    have hj2 : j < d'.size := by simpa using hj'
    have := hs i j (Nat.zero_le _) hij (by rw [hds] at hj2; exact hj2)
    rw [getElem!_pos d' j hj2, getElem!_pos d' i hi2] at this
    simpa using this
  have hheap : ∀ b, (sortWorldK enc k w blk off n d' os).heap[b]? = if b < w.heap.size then (w.heap.modify blk (onCells (putCells id off (flatK enc k d'))))[b]? else os[b - w.heap.size]? := by
    intro b
    show ((w.heap.modify blk (onCells (putCells id off (flatK enc k d')))) ++ os)[b]? = _
    rw [Array.getElem?_append]
    simp only [Array.size_modify]
  have hbut : But (some blk) w (sortWorldK enc k w blk off n d' os) := by
    refine ⟨rfl, rfl, rfl, ?_, fun b o hb ho => ?_, ?_⟩
    · show w.heap.size ≤ ((w.heap.modify blk (onCells (putCells id off (flatK enc k d')))) ++ os).size
      simp
    · have hlt := lt_of_heap ho
      rw [hheap, if_pos hlt, Array.getElem?_modify, if_neg (fun e => hb (by rw [e]))]
      exact ho
    · show w.drawn ≤ w.drawn + n
      omega
  have hnew : (sortWorldK enc k w blk off n d' os).heap[blk]? = some (.cells (putCells id off (flatK enc k d') c) e z) := by
    rw [hheap, if_pos hblk, Array.getElem?_modify, if_pos rfl, h7]
    rfl
  have hll : (σ.live.set r false).length = σ.live.length := by simp
  obtain ⟨q1, q2⟩ := hi.right hbut (live := σ.live.set r false) hll (fun j hj => by
      by_cases e : r = j
      · subst e
        rw [List.getElem?_set_self (List.getElem?_eq_some_iff.1 hlive).1] at hj
        cases hj
      · rwa [List.getElem?_set_ne e] at hj)
    (k := blk) ⟨h4, h5, h6, fun j v s es hj hrj hb => by
      by_cases e : r = j
      · subst e
        rw [List.getElem?_set_self (List.getElem?_eq_some_iff.1 hlive).1] at hj
        cases hj
      · rw [List.getElem?_set_ne e] at hj
        exact e (hi.apart r j _ _ _ _ _ _ blk hlive hj hrho hrj rfl hb)⟩
    (v := .slice (some ⟨blk, off, none⟩) (l.map encV).length cap) (s := k) (es := d'.toList.map encV) (f := true) (fun _ => ⟨rfl, by
      refine ⟨⟨blk, off, none⟩, cap, by simp [hds], rfl, by simp only [List.length_map, Array.length_toList, hds]; rw [hlen] at h3; exact h3, h4, h5, h6, _, e, z, d'.toList.flatMap enc, hnew, fun i x hx => ?_, repE_enc (fun x => hrep _ x) hk h1 _, ?_, h11⟩
      · have hfl2 := flat_len hk d'.toList
        have hi2 : i < d'.toList.length * k := by rw [← hfl2]; exact (List.getElem?_eq_some_iff.1 hx).1
        rw [flat_get hk _ _ hi2] at hx
        have hi3 : i < l.length * k := by simpa [hds] using hi2
        have hlt : off + i < c.size := by
          have := hcell i hi3
          exact (Array.getElem?_eq_some_iff.1 this).1
        simp only [putCells]
        rw [Array.getElem?_mapIdx, Array.getElem?_eq_getElem hlt]
        simp only [Option.map_some]
        have hi4 : i < d'.size * k := by simpa using hi2
        rw [if_pos ⟨by omega, by rw [size_flatK]; omega⟩, Nat.add_sub_cancel_left, get_flatK enc k d' i hi4]
        simpa using hx
      · simp only [putCells, Array.size_mapIdx]; exact h10⟩)
  refine ⟨.tuple #[], .tup [], _, _, σ.live.length, d'.toList.map encV, rfl, q2, q1, ?_, ⟨.slice (some ⟨blk, off, none⟩) (l.map encV).length cap, hrho, ?_⟩, by simp [hds], d'.toList, hperm, hpair, rfl, rfl, rfl, rfl⟩
  · simp only [Rep]
    exact ⟨[], rfl, rfl⟩
  · show (γ.rho ++ [_])[σ.live.length]? = _
    rw [← hi.rholen]; simp
end
end Go.VL

namespace Go.Proofs
open Go.Shelf Go.RowKit Go.Lib Go.Sort
shelf_lay_g SlLaysF0.n6 Slsf 6 at Try 88 as oplSort
end Go.Proofs
namespace Go.VL.opl
open Go Go.VL Go.Proofs Go.IntWalk Go.Shelf Go.Sort Go.VL.st Go.VL.row

theorem sless (a b : Sp) : less a.c a.r b.c b.r = st.less a b := rfl
theorem scmp (a b : Sp) : cmp a.c a.r b.c b.r = st.cmp a b := by
  unfold cmp st.cmp
  rw [sp_dec, sless]
theorem sright (a : Sp) : right a.c a.r = st.right a := rfl
theorem cmpE_lt (a b : Sp) : ltOf st.cmp a b = st.less a b := st.cmp_neg a b
theorem cmpE_swo : SWO (ltOf st.cmp) := by
  have e : ltOf st.cmp = fun a b => st.less a b := by funext a b; exact cmpE_lt a b
  rw [e]
  refine ⟨fun a => less_irr _, fun _ _ _ h k => less_trans h k, fun x y z h1 h2 => ?_⟩
  cases h : st.less x z with
  | false => rfl
  | true =>
    cases h3 : st.less y x with
    | true => rw [less_trans h3 h] at h2; cases h2
    | false =>
      have := less_total h1 h3
      rw [← this, h] at h2; cases h2
def spE (p : Sp) : List Value := [.int .i64 p.c, .int .i64 p.r]
theorem spE_rep (γ : G) (r : Sp) : RepL γ (spC r) (spE r) := by
  simp only [spC, spE, RepL, Rep]
  exact ⟨_, _, rfl, rfl, _, _, rfl, rfl, rfl⟩
theorem spE_det (γ : G) (r : Sp) (ws : List Value) (h : RepL γ (spC r) ws) : ws = spE r := by
  simp only [spC, RepL, Rep] at h
  obtain ⟨_, _, rfl, rfl, _, _, rfl, rfl, rfl⟩ := h
  rfl
theorem spE_one (r : Sp) : ∀ v ∈ spE r, v.oneCell' = true := by
  intro v hv
  simp only [spE, List.mem_cons, List.not_mem_nil, or_false] at hv
  rcases hv with rfl | rfl <;> rfl
instance : Inhabited Sp := ⟨zs⟩
section
variable {σ : St} {a b : Sp} {v : V} {l : List Sp}
set_option maxRecDepth 100000 in
theorem cmpE_ok : CallA Try.prog 89 [spV a, spV b] σ fun v σ' => σ' = σ ∧ v = .int .i64 (st.cmp a b) := by
  refine fn_at Try.func89 (by decide) comp89 rfl fun Q q1 q2 => ?_
  simp -implicitDefEqProofs only [go_sem, Nat.reduceBEq, Nat.reduceAdd, eq_self, true_and, and_true, and_self, List.getElem?_cons_zero, List.getElem?_cons_succ, Nat.reduceLeDiff, Nat.zero_add, Nat.reduceSub, Nat.le_refl, c89, spV, spC]
  refine call_at (compare_ok (a1 := a.c) (a2 := a.r) (b1 := b.c) (b2 := b.r)) ?_
  rintro v τ ⟨rfl, rfl⟩
  refine ⟨kept_none, ?_⟩
  rw [scmp]
  simp -implicitDefEqProofs only [go_sem, Nat.reduceBEq, Nat.reduceAdd, eq_self, true_and, and_true, and_self, List.getElem?_cons_zero, List.getElem?_cons_succ, Nat.reduceLeDiff, Nat.zero_add, Nat.reduceSub, Nat.le_refl, Nat.lt_irrefl]
  refine q2 _ _ ?_
  simp -implicitDefEqProofs only [go_sem, Nat.reduceBEq, Nat.reduceAdd, eq_self, true_and, and_true, and_self, List.getElem?_cons_zero, List.getElem?_cons_succ, Nat.reduceLeDiff, Nat.zero_add, Nat.reduceSub, Nat.le_refl, Nat.lt_irrefl]
  try first | exact ⟨trivial, trivial⟩ | exact ⟨trivial, rfl⟩ | exact ⟨rfl, rfl⟩ | exact ⟨rfl, trivial⟩ | trivial
theorem sort_fn : ∃ fn, Try.prog.funcs[oplSort_ren.f 6]? = some fn ∧ fn.body.isSome = true ∧ (fn.name == "runtime.NumGoroutine") = false := ⟨Try.f88, Try.func88, rfl, by decide⟩
theorem sort_sps {q : Nat} (hq : σ.live[q]? = some true) (hl : l.length < 4611686018427387904) :
    CallM Try.prog 88 [.sl false (.own q) 2 (spsV l), .fn 89 []] q 2 (spsV l) σ fun v r' es' σ' => ∃ l' : List Sp, l'.Perm l ∧ l'.Pairwise (fun a b => st.less b a = false) ∧ es' = spsV l' ∧ v = .tup [] ∧
      r' = σ.live.length ∧ σ' = ⟨σ.objs, σ.live.set q false ++ [true]⟩ := by
  have h := sort_cm (P := Try.prog) (ρ := oplSort_ren) (σ := σ) oplSort 2 Try.isAgg35 Try.sizeOf35 spC spE spE_rep (fun _ => rfl) spE_one spE_det st.cmp cmpE_swo 89
    (fun x y => (cmpE_ok (a := x) (b := y)).mono fun _ _ h => h.2) sort_fn (r := q) (l := l) hq hl
  simp only [cmpE_lt] at h
  exact h
set_option maxRecDepth 100000 in
set_option maxHeartbeats 1000000 in
theorem rising_ok (hv : RdS σ v 2 (spsV l)) (hl : l.length ≤ 3) :
    CallA Try.prog 73 [v] σ fun w σ' => Ext σ σ' ∧ ∃ j x m, w = .fn 91 [.ptr (some (j, 0))] ∧ σ.objs.length ≤ j ∧ σ'.objs[j]? = some (.cells [x]) ∧ (∃ qv, x = .sl false (.view qv) 2 (spsV m) ∧ σ'.live[qv]? = some true ∧ σ.live.length ≤ qv) ∧ (m.Pairwise fun a b => st.less a b = true) ∧ (∀ y, y ∈ m ↔ y ∈ l) ∧ m.length ≤ 3 := by
  obtain ⟨b, R, z, rfl, -, -⟩ := id hv
  refine fn_at Try.func73 (by decide) comp73 rfl fun Q q1 q2 => ?_
  obtain ⟨hsb, hsz⟩ := rd_src (hv.ext (ext_live σ true))
  have hA := spsV_len l
  simp -implicitDefEqProofs only [go_sem, Nat.reduceBEq, Nat.reduceAdd, eq_self, true_and, and_true, and_self, List.getElem?_cons_zero, List.getElem?_cons_succ, Nat.reduceLeDiff, Nat.zero_add, Nat.reduceSub, Nat.le_refl, c73]
  refine ⟨⟨.inr trivial, .inr (live_last _ _), ⟨hsb, hsz⟩, by rw [hA]; omega⟩, ?_⟩
  have hcl : ∀ (A : List AObj) x, (A ++ [x])[A.length]? = some x := by simp
  simp -implicitDefEqProofs only [go_sem, Nat.reduceBEq, Nat.reduceAdd, eq_self, true_and, and_true, and_self, List.getElem?_cons_zero, List.getElem?_cons_succ, Nat.reduceLeDiff, Nat.zero_add, Nat.reduceSub, Nat.le_refl, hcl, Bool.false_and, List.nil_append, flats, V.flat]
  have x1 : Ext σ ⟨σ.objs, kill (σ.live ++ [true]) (.own σ.live.length) ++ [true]⟩ := ext_kill (ext_live σ true) (Nat.le_refl _)
  have he : Ext σ ((⟨σ.objs ++ [.cells [.sl true .pub 0 []]], kill (σ.live ++ [true]) (.own σ.live.length) ++ [true]⟩ : St).setC σ.objs.length [.sl false (.own (σ.live ++ [true]).length) 2 (spsV l)]) :=
    ext_set (x1.trans (ext_obj _ _)) (Nat.le_refl _)
  have hc : ((⟨σ.objs ++ [.cells [.sl true .pub 0 []]], kill (σ.live ++ [true]) (.own σ.live.length) ++ [true]⟩ : St).setC σ.objs.length [.sl false (.own (σ.live ++ [true]).length) 2 (spsV l)]).objs[σ.objs.length]? = some (.cells [.sl false (.own (σ.live ++ [true]).length) 2 (spsV l)]) := setC_get (by simp)
  have hq : ((⟨σ.objs ++ [.cells [.sl true .pub 0 []]], kill (σ.live ++ [true]) (.own σ.live.length) ++ [true]⟩ : St).setC σ.objs.length [.sl false (.own (σ.live ++ [true]).length) 2 (spsV l)]).live[(σ.live ++ [true]).length]? = some true := live_last' _ _ _
  have hql : σ.live.length ≤ (σ.live ++ [true]).length := by simp
  generalize ((⟨σ.objs ++ [.cells [.sl true .pub 0 []]], kill (σ.live ++ [true]) (.own σ.live.length) ++ [true]⟩ : St).setC σ.objs.length [.sl false (.own (σ.live ++ [true]).length) 2 (spsV l)]) = τ at *
  generalize (σ.live ++ [true]).length = q0 at *
  simp -implicitDefEqProofs only [go_sem, Nat.reduceBEq, Nat.reduceAdd, eq_self, true_and, and_true, and_self, List.getElem?_cons_zero, List.getElem?_cons_succ, Nat.reduceLeDiff, Nat.zero_add, Nat.reduceSub, Nat.le_refl, hc]
  refine cm_at ((sort_sps hq (by omega)).recell (j := σ.objs.length) (o := 0) (cs := [.sl false (.own q0) 2 (spsV l)]) (by rintro v r' es' σ' ⟨_, -, -, -, -, -, rfl⟩; exact hc) rfl) ?_
  rintro v r' es' σ2 ⟨_, ⟨l2, hp, hs, rfl, rfl, rfl, rfl⟩, rfl⟩
  refine ⟨kept_none, ?_⟩
  have hl2 : l2.length = l.length := hp.length_eq
  have x2 : Ext σ ⟨τ.objs, τ.live.set q0 false ++ [true]⟩ := ext_kill he hql
  have he2 : Ext σ ((⟨τ.objs, τ.live.set q0 false ++ [true]⟩ : St).setC σ.objs.length [.sl false (.own τ.live.length) 2 (spsV l2)]) := ext_set x2 (Nat.le_refl _)
  have hc2 : ((⟨τ.objs, τ.live.set q0 false ++ [true]⟩ : St).setC σ.objs.length [.sl false (.own τ.live.length) 2 (spsV l2)]).objs[σ.objs.length]? = some (.cells [.sl false (.own τ.live.length) 2 (spsV l2)]) := setC_get (List.getElem?_eq_some_iff.1 hc).1
  have hq2 : ((⟨τ.objs, τ.live.set q0 false ++ [true]⟩ : St).setC σ.objs.length [.sl false (.own τ.live.length) 2 (spsV l2)]).live[τ.live.length]? = some true := by
    show (τ.live.set q0 false ++ [true])[τ.live.length]? = _
    simp
  have hql2 : σ.live.length ≤ τ.live.length := he.llen
  simp -implicitDefEqProofs only [go_sem, Nat.reduceBEq, Nat.reduceAdd, eq_self, true_and, and_true, and_self, List.getElem?_cons_zero, List.getElem?_cons_succ, Nat.reduceLeDiff, Nat.zero_add, Nat.reduceSub, Nat.le_refl, List.set_cons_zero]
  generalize ((⟨τ.objs, τ.live.set q0 false ++ [true]⟩ : St).setC σ.objs.length [.sl false (.own τ.live.length) 2 (spsV l2)]) = τ2 at *
  generalize τ.live.length = q1' at *
  simp -implicitDefEqProofs only [go_sem, Nat.reduceBEq, Nat.reduceAdd, eq_self, true_and, and_true, and_self, List.getElem?_cons_zero, List.getElem?_cons_succ, Nat.reduceLeDiff, Nat.zero_add, Nat.reduceSub, Nat.le_refl, hc2]
  refine cm_at (cpt_cm hq2 (by omega)) ?_
  rintro v r' es' σ3 ⟨l3, n, hl3, rfl, rfl, hcp, hn, rfl, rfl⟩
  refine ⟨kept_none, ?_⟩
  have x3 : Ext σ ⟨τ2.objs, τ2.live.set q1' false ++ [true]⟩ := ext_kill he2 hql2
  simp -implicitDefEqProofs only [go_sem, Nat.reduceBEq, Nat.reduceAdd, eq_self, true_and, and_true, and_self, List.getElem?_cons_zero, List.getElem?_cons_succ, Nat.reduceLeDiff, Nat.zero_add, Nat.reduceSub, Nat.le_refl, hc2, flats, V.flat]
  have he3 : Ext σ ((⟨τ2.objs, τ2.live.set q1' false ++ [true]⟩ : St).setC σ.objs.length [.sl false (.view τ2.live.length) 2 (spsV (l3.take n))]) := ext_set x3 (Nat.le_refl _)
  have hc3 : ((⟨τ2.objs, τ2.live.set q1' false ++ [true]⟩ : St).setC σ.objs.length [.sl false (.view τ2.live.length) 2 (spsV (l3.take n))]).objs[σ.objs.length]? = some (.cells [.sl false (.view τ2.live.length) 2 (spsV (l3.take n))]) := setC_get (List.getElem?_eq_some_iff.1 hc2).1
  have hq3 : ((⟨τ2.objs, τ2.live.set q1' false ++ [true]⟩ : St).setC σ.objs.length [.sl false (.view τ2.live.length) 2 (spsV (l3.take n))]).live[τ2.live.length]? = some true := by
    show (τ2.live.set q1' false ++ [true])[τ2.live.length]? = _
    simp
  refine q2 _ _ ?_
  simp -implicitDefEqProofs only [go_sem, Nat.reduceBEq, Nat.reduceAdd, eq_self, true_and, and_true, and_self, List.getElem?_cons_zero, List.getElem?_cons_succ, Nat.reduceLeDiff, Nat.zero_add, Nat.reduceSub, Nat.le_refl, Nat.lt_irrefl]
  refine ⟨he3, _, _, l3.take n, rfl, Nat.le_refl _, hc3, ⟨_, rfl, hq3, he2.llen⟩, ?_, fun y => ?_, by rw [List.length_take]; omega⟩
  · rw [hcp]; exact cpl_srt _ hs
  · rw [hcp, cpl_mem, hp.mem_iff]
end
end Go.VL.opl

namespace Go.VL.opl
open Go Go.VL Go.Proofs Go.IntWalk Go.VL.st Go.VL.row

theorem spsV_get {l : List Sp} {i : Nat} (h : i < l.length) : (spsV l)[((i : Nat) : Int).toNat]?.getD [] = spC l[i] := by simp [spsV, h]
def AccS (n : Nat) (τ : St) (w : V) (l : List Sp) : Prop := (l = [] ∧ w = .sl true .pub 0 []) ∨ ∃ q, w = .sl false (.own q) 2 (spsV l) ∧ τ.live[q]? = some true ∧ n ≤ q
theorem AccS.rd {n : Nat} {τ : St} {w : V} {l : List Sp} (h : AccS n τ w l) : RdS τ w 2 (spsV l) := by
  rcases h with ⟨rfl, rfl⟩ | ⟨q, rfl, h1, h2⟩
  · exact ⟨true, .pub, 0, rfl, by simp [spsV], .inl rfl⟩
  · exact ⟨false, .own q, 2, rfl, by simp, .inr ⟨h1, rfl⟩⟩
theorem rdS_lv {τ τ' : St} {v : V} {s : Nat} {es : List (List V)} (h : RdS τ v s es) (e : ∀ r : Nat, τ.live[r]? = some true → τ'.live[r]? = some true) : RdS τ' v s es := by
  obtain ⟨b', r', s', h1, h2, h3⟩ := h
  refine ⟨b', r', s', h1, h2, h3.imp_right fun y => ⟨?_, y.2⟩⟩
  have := y.1
  cases r' with
  | pub => trivial
  | own q => exact e q this
  | view q => exact e q this
theorem setC_ne {τ : St} {i j : Nat} {cs : List V} (h : j ≠ i) : (τ.setC i cs).objs[j]? = τ.objs[j]? := setA_ne (o := .cells cs) h
section
variable {σ : St} {i u k j y : Nat} {s : V} {O W : List Sp} {w : V}
set_option maxRecDepth 100000 in
set_option maxHeartbeats 1000000 in
theorem sps1_ok (J : List Sp → St → Prop) (K : St → Prop) (hj : σ.objs[j]? = some (.cells [w])) (hw : RdS σ w 2 (spsV W)) (hW : W.length ≤ 100000)
    (hst : J W σ) (hJ : ∀ R τ, J R τ → RdS τ w 2 (spsV W))
    (hY : ∀ a R τ, J (a :: R) τ → YldA Try.prog y [spV a] τ fun v τ2 => v = .bool true ∧ J R τ2 ∨ v = .bool false ∧ K τ2) (h0 : ∀ τ, J [] τ → K τ) :
    CallA Try.prog 91 [yv y, .ptr (some (j, 0))] σ fun _ σ' => K σ' := by
  obtain ⟨b, R, z, rfl, -, -⟩ := id hw
  refine fn_at Try.func91 (by decide) comp91 rfl fun Q q1 q2 => ?_
  simp -implicitDefEqProofs only [go_sem, Nat.reduceBEq, Nat.reduceAdd, eq_self, true_and, and_true, and_self, List.getElem?_cons_zero, List.getElem?_cons_succ, Nat.reduceLeDiff, Nat.zero_add, Nat.reduceSub, Nat.le_refl, c91, hj]
  refine loop_at (fun (k : Nat) => ⟨[(0, .v (yv y)), (5, .v (.sl b R z (spsV W))), (6, .v (.int .i64 (spsV W).length)), (7, .v (.int .i64 k))], []⟩)
    (fun k τ => k ≤ W.length ∧ J (W.drop k) τ) (fun k => W.length - k) 0 ?_ ?_ ?_
  · refine .inr ?_
    simp -implicitDefEqProofs only [go_sem, Nat.reduceBEq, Nat.reduceAdd, eq_self, true_and, and_true, and_self, List.getElem?_cons_zero, List.getElem?_cons_succ, Nat.reduceLeDiff, Nat.zero_add, Nat.reduceSub, Nat.le_refl, Nat.lt_irrefl]
    try trivial
  · exact ⟨Nat.zero_le _, hst⟩
  rintro k τ ⟨g1, g2⟩ Z z1 z2 z3
  have hWl := spsV_len W
  simp -implicitDefEqProofs only [go_sem, Nat.reduceBEq, Nat.reduceAdd, eq_self, true_and, and_true, and_self, List.getElem?_cons_zero, List.getElem?_cons_succ, Nat.reduceLeDiff, Nat.zero_add, Nat.reduceSub, Nat.le_refl, Nat.lt_irrefl]
  refine CondW_b (fun hc => ?_) (fun hc => ?_)
  · have hk : k < W.length := by simpa [spsV_len] using hc
    obtain ⟨k1, k2⟩ := rdl (hJ _ _ g2) (by cases W <;> simp [spsV] at hk ⊢)
    have hget := spsV_get hk
    have hib : (k : Int) < (spsV W).length := by omega
    rw [List.drop_eq_getElem_cons hk] at g2
    generalize W[k] = a at hget g2
    simp -implicitDefEqProofs only [go_sem, Nat.reduceBEq, Nat.reduceAdd, eq_self, true_and, and_true, and_self, List.getElem?_cons_zero, List.getElem?_cons_succ, Nat.reduceLeDiff, Nat.zero_add, Nat.reduceSub, Nat.le_refl, hget, spC]
    refine ⟨⟨by omega, hib, k2⟩, k1, ?_⟩
    refine yld_at (hY a _ τ g2) ?_
    rintro v τ3 (⟨rfl, c1⟩ | ⟨rfl, c1⟩)
    · refine ⟨kept_none, ?_⟩
      simp -implicitDefEqProofs only [go_sem, Nat.reduceBEq, Nat.reduceAdd, eq_self, true_and, and_true, and_self, List.getElem?_cons_zero, List.getElem?_cons_succ, Nat.reduceLeDiff, Nat.zero_add, Nat.reduceSub, Nat.le_refl, Bool.not_true]
      refine z1 (k + 1) _ _ (.inr ?_) (by omega) ⟨by omega, c1⟩
      simp -implicitDefEqProofs only [go_sem, Nat.reduceBEq, Nat.reduceAdd, eq_self, true_and, and_true, and_self, List.getElem?_cons_zero, List.getElem?_cons_succ, Nat.reduceLeDiff, Nat.zero_add, Nat.reduceSub, Nat.le_refl, Nat.lt_irrefl]
      rw [i64_in _ (by omega)]; simp
    · refine ⟨kept_none, ?_⟩
      simp -implicitDefEqProofs only [go_sem, Nat.reduceBEq, Nat.reduceAdd, eq_self, true_and, and_true, and_self, List.getElem?_cons_zero, List.getElem?_cons_succ, Nat.reduceLeDiff, Nat.zero_add, Nat.reduceSub, Nat.le_refl, Bool.not_false]
      refine z3 _ _ ?_
      simp -implicitDefEqProofs only [go_sem, Nat.reduceBEq, Nat.reduceAdd, eq_self, true_and, and_true, and_self, List.getElem?_cons_zero, List.getElem?_cons_succ, Nat.reduceLeDiff, Nat.zero_add, Nat.reduceSub, Nat.le_refl, Nat.lt_irrefl]
      refine q2 _ _ ?_
      simp -implicitDefEqProofs only [go_sem, Nat.reduceBEq, Nat.reduceAdd, eq_self, true_and, and_true, and_self, List.getElem?_cons_zero, List.getElem?_cons_succ, Nat.reduceLeDiff, Nat.zero_add, Nat.reduceSub, Nat.le_refl, Nat.lt_irrefl]
      exact c1
  · have hk : ¬ k < W.length := by simpa [spsV_len] using hc
    rw [List.drop_of_length_le (by omega)] at g2
    simp -implicitDefEqProofs only [go_sem, Nat.reduceBEq, Nat.reduceAdd, eq_self, true_and, and_true, and_self, List.getElem?_cons_zero, List.getElem?_cons_succ, Nat.reduceLeDiff, Nat.zero_add, Nat.reduceSub, Nat.le_refl, Nat.lt_irrefl]
    refine z2 _ _ _ ?_
    simp -implicitDefEqProofs only [go_sem, Nat.reduceBEq, Nat.reduceAdd, eq_self, true_and, and_true, and_self, List.getElem?_cons_zero, List.getElem?_cons_succ, Nat.reduceLeDiff, Nat.zero_add, Nat.reduceSub, Nat.le_refl, Nat.lt_irrefl]
    refine q1 _ _ ?_
    simp -implicitDefEqProofs only [go_sem, Nat.reduceBEq, Nat.reduceAdd, eq_self, true_and, and_true, and_self, List.getElem?_cons_zero, List.getElem?_cons_succ, Nat.reduceLeDiff, Nat.zero_add, Nat.reduceSub, Nat.le_refl, Nat.lt_irrefl]
    exact h0 _ g2
set_option maxRecDepth 100000 in
set_option maxHeartbeats 1000000 in
theorem sort_ok {v : V} {l : List Sp} (hv : RdS σ v 2 (spsV l)) (hl : l.length ≤ 3) :
    CallA Try.prog 92 [v] σ fun w σ' => Ext σ σ' ∧ ∃ q m, w = .sl false (.own q) 2 (spsV m) ∧ σ'.live[q]? = some true ∧ σ.live.length ≤ q ∧ (m.Pairwise fun a b => st.less a b = true) ∧ (∀ y, y ∈ m ↔ y ∈ l) ∧ m.length ≤ 3 := by
  refine fn_at Try.func92 (by decide) comp92 rfl fun Q q1 q2 => ?_
  have hcl : ∀ (A : List AObj) x, (A ++ [x])[A.length]? = some x := by simp
  simp -implicitDefEqProofs only [go_sem, Nat.reduceBEq, Nat.reduceAdd, eq_self, true_and, and_true, and_self, List.getElem?_cons_zero, List.getElem?_cons_succ, Nat.reduceLeDiff, Nat.zero_add, Nat.reduceSub, Nat.le_refl, c92, hcl, flats, V.flat]
  have e0 : Ext σ ((⟨σ.objs ++ [.cells [.sl true .pub 0 []]], σ.live ++ [true]⟩ : St).setC σ.objs.length [.sl false (.own σ.live.length) 2 []]) := ext_set ((ext_live σ true).trans (ext_obj _ _)) (Nat.le_refl _)
  have h0 : ((⟨σ.objs ++ [.cells [.sl true .pub 0 []]], σ.live ++ [true]⟩ : St).setC σ.objs.length [.sl false (.own σ.live.length) 2 []]).objs[σ.objs.length]? = some (.cells [.sl false (.own σ.live.length) 2 []]) := setC_get (by simp)
  have hq0 : ((⟨σ.objs ++ [.cells [.sl true .pub 0 []]], σ.live ++ [true]⟩ : St).setC σ.objs.length [.sl false (.own σ.live.length) 2 []]).live[σ.live.length]? = some true := live_last _ _
  generalize ((⟨σ.objs ++ [.cells [.sl true .pub 0 []]], σ.live ++ [true]⟩ : St).setC σ.objs.length [.sl false (.own σ.live.length) 2 []]) = τ0 at *
  refine call_at (rising_ok (hv.ext e0) hl) ?_
  rintro v τ ⟨e1, j, w, O, rfl, hjl, hj, ⟨qv, rfl, hqv, hqvl⟩, hsrt, hmem, hO3⟩
  refine ⟨kept_none, ?_⟩
  have hp := e1.objs _ _ h0
  have hq1 := e1.live _ hq0
  have hll := (e0.trans e1).llen
  have hol := (e0.trans e1).olen
  have e2 := e0.trans e1
  have hle := (List.getElem?_eq_some_iff.1 hp).1
  have hq0l := (List.getElem?_eq_some_iff.1 hq0).1
  simp -implicitDefEqProofs only [go_sem, Nat.reduceBEq, Nat.reduceAdd, eq_self, true_and, and_true, and_self, List.getElem?_cons_zero, List.getElem?_cons_succ, Nat.reduceLeDiff, Nat.zero_add, Nat.reduceSub, Nat.le_refl, Nat.lt_irrefl]
  refine range_at ?_
  intro yl i0 r0 r1 r2 r3 hi hyy
  have e3 := ext_obj τ r0
  have hr0 : (⟨τ.objs ++ [r0], τ.live⟩ : St).objs[i0]? = some r0 := by rw [← hi]; simp
  have hrd : ∀ t : St, t.live[qv]? = some true → RdS t (.sl false (.view qv) 2 (spsV O)) 2 (spsV O) := fun t h => ⟨_, _, _, rfl, by simp, .inr ⟨h, rfl⟩⟩
  refine CallA.mono (sps1_ok (W := O)
    (fun R t => ∃ D q, O = D ++ R ∧ Ext σ t ∧ t.objs[σ.objs.length]? = some (.cells [.sl false (.own q) 2 (spsV D)]) ∧ t.live[q]? = some true ∧ σ.live.length ≤ q ∧ t.objs[i0]? = some r0 ∧ q ≠ qv ∧ t.live[qv]? = some true)
    (fun t => t.objs[i0]? = some r0 ∧ Ext σ t ∧ ∃ q, t.objs[σ.objs.length]? = some (.cells [.sl false (.own q) 2 (spsV O)]) ∧ t.live[q]? = some true ∧ σ.live.length ≤ q)
    (e3.objs _ _ hj) (hrd _ hqv) (by omega) ?_ ?_ ?_ ?_) ?_
  · exact ⟨[], _, rfl, e2.trans e3, e3.objs _ _ hp, hq1, Nat.le_refl _, hr0, by omega, hqv⟩
  · rintro R t ⟨D, q, -, -, -, -, -, -, -, h⟩
    exact hrd _ h
  · rintro a R t ⟨D, q, s1, s2, s3, s4, s5, s6, s7, s8⟩
    refine hyy t _ _ s6 rfl fun Y0 y0 => ?_
    simp -implicitDefEqProofs only [go_sem, Nat.reduceBEq, Nat.reduceAdd, eq_self, true_and, and_true, and_self, List.getElem?_cons_zero, List.getElem?_cons_succ, Nat.reduceLeDiff, Nat.zero_add, Nat.reduceSub, Nat.le_refl, rndF, setPs, dropL, spV, spC]
    refine y0 _ _ s6 fun Y y1 y2 y3 => ?_
    clear y0 Y0
    have b2 := ext_setA s2 (i := i0) (o := r1) (by omega)
    have b3 : (t.setA i0 r1).objs[σ.objs.length]? = _ := (setA_ne (by omega)).trans s3
    have b4 : (t.setA i0 r1).live[q]? = some true := s4
    have b6 : (t.setA i0 r1).objs[i0]? = some r1 := setA_at s6
    have b8 : (t.setA i0 r1).live[qv]? = some true := s8
    generalize t.setA i0 r1 = t2 at b2 b3 b4 b6 b8 ⊢
    clear s2 s3 s4 s6 s8 hyy
    have hDl : D.length ≤ 3 := by have := congrArg List.length s1; simp only [List.length_append] at this; omega
    have hal := spsV_len D
    have s1' : O = (D ++ [a]) ++ R := by rw [s1]; simp
    have hap : spsV (D ++ [a]) = spsV D ++ [[.int .i64 a.c, .int .i64 a.r]] := by simp [spsV, spC]
    simp -implicitDefEqProofs only [go_sem, Nat.reduceBEq, Nat.reduceAdd, eq_self, true_and, and_true, and_self, List.getElem?_cons_zero, List.getElem?_cons_succ, Nat.reduceLeDiff, Nat.zero_add, Nat.reduceSub, Nat.le_refl, b3]
    refine ⟨⟨.inr trivial, .inr ((ext_live _ _).live _ b4), ⟨.inr (live_last _ _), .inl trivial⟩, by rw [hal]; omega⟩, ?_⟩
    have ex1 := ext_kill (ext_push b2 (b := true)) (r := q) (b := true) (by omega)
    have hl2 := live_last' (t2.live ++ [true]) q true
    have hqvl2 := (List.getElem?_eq_some_iff.1 b8).1
    refine y1 _ _ ?_ (.inl ⟨rfl, D ++ [a], (t2.live ++ [true]).length, s1', ext_setA (ext_set ex1 (by omega)) (by omega), ?_, hl2, ?_, ?_, ?_, ?_⟩)
    · rw [setC_ne (by omega)]; exact b6
    · rw [setA_ne (by omega), setC_get (by show _ < t2.objs.length; exact (List.getElem?_eq_some_iff.1 b3).1), hap]
    · have := b2.llen
      simp only [List.length_append, List.length_singleton]; omega
    · exact setA_at (o' := r1) (by rw [setC_ne (by omega)]; exact b6)
    · simp only [List.length_append, List.length_singleton]; omega
    · show (kill (t2.live ++ [true]) (.own q) ++ [true])[qv]? = some true
      simp only [kill]
      rw [List.getElem?_append_left (by simp; omega), List.getElem?_set_ne s7, List.getElem?_append_left hqvl2]
      exact b8
  · rintro t ⟨D, q, s1, s2, s3, s4, s5, s6, s7, s8⟩
    rw [List.append_nil] at s1
    subst s1
    exact ⟨s6, s2, q, s3, s4, s5⟩
  · rintro v t ⟨h1, h2, q, h3, h4, h5⟩
    refine .inl ⟨h1, ?_⟩
    have h3' : (t.setA i0 (r3 .normal)).objs[σ.objs.length]? = _ := (setA_ne (by omega)).trans h3
    simp -implicitDefEqProofs only [go_sem, Nat.reduceBEq, Nat.reduceAdd, eq_self, true_and, and_true, and_self, List.getElem?_cons_zero, List.getElem?_cons_succ, Nat.reduceLeDiff, Nat.zero_add, Nat.reduceSub, Nat.le_refl, h3']
    refine q2 _ _ ?_
    simp -implicitDefEqProofs only [go_sem, Nat.reduceBEq, Nat.reduceAdd, eq_self, true_and, and_true, and_self, List.getElem?_cons_zero, List.getElem?_cons_succ, Nat.reduceLeDiff, Nat.zero_add, Nat.reduceSub, Nat.le_refl, Nat.lt_irrefl]
    exact ⟨ext_setA h2 (by omega), q, O, rfl, h4, h5, hsrt, hmem, hO3⟩
end
end Go.VL.opl

namespace Go.VL.opl
open Go Go.VL Go.Proofs Go.IntWalk Go.VL.st Go.VL.row

def atS (g : Cg) : Sp := ⟨g.ac, g.ar⟩
def baseN (g : Cg) : List Sp := [⟨g.nc, g.nr⟩, ⟨g.pc, g.pr⟩, ⟨g.fc, g.fr⟩]
def okN (g : Cg) (s : Sp) : Bool := st.right s && !decide (s = atS g)
/-- The stamps that a change names, in order. -/
def IsN (g : Cg) (m : List Sp) : Prop := (m.Pairwise fun a b => st.less a b = true) ∧ ∀ y, y ∈ m ↔ y ∈ (baseN g).filter (okN g)
theorem srt_uniq : ∀ {A B : List Sp}, (A.Pairwise fun a b => st.less a b = true) → (B.Pairwise fun a b => st.less a b = true) → (∀ y, y ∈ A ↔ y ∈ B) → A = B
  | [], [], _, _, _ => rfl
  | [], b :: B, _, _, h => absurd ((h b).2 (by simp)) (by simp)
  | a :: A, [], _, _, h => absurd ((h a).1 (by simp)) (by simp)
  | a :: A, b :: B, hA, hB, h => by
    obtain ⟨a1, a2⟩ := List.pairwise_cons.1 hA
    obtain ⟨b1, b2⟩ := List.pairwise_cons.1 hB
    have e : a = b := by
      rcases List.mem_cons.1 ((h a).1 (by simp)) with e | h1
      · exact e
      · rcases List.mem_cons.1 ((h b).2 (by simp)) with e | h2
        · exact e.symm
        · have := less_trans (a1 b h2) (b1 a h1)
          rw [less_irr] at this; cases this
    subst e
    refine congrArg _ (srt_uniq a2 b2 fun y => ?_)
    have hy := h y
    simp only [List.mem_cons] at hy
    constructor
    · intro hm
      rcases hy.1 (.inr hm) with e | h1
      · subst e
        have := a1 y hm
        rw [less_irr] at this; cases this
      · exact h1
    · intro hm
      rcases hy.2 (.inr hm) with e | h1
      · subst e
        have := b1 y hm
        rw [less_irr] at this; cases this
      · exact h1
theorem IsN.uniq {g : Cg} {A B : List Sp} (h : IsN g A) (k : IsN g B) : A = B := srt_uniq h.1 k.1 fun y => by rw [h.2, k.2]
theorem filt_len (g : Cg) (n : Nat) : (((baseN g).take n).filter (okN g)).length ≤ 3 := by
  have := List.length_filter_le (okN g) ((baseN g).take n)
  rw [List.length_take] at this
  simp only [baseN, List.length_cons, List.length_nil] at this ⊢
  omega
theorem filt_snoc {g : Cg} {n : Nat} (h : n < (baseN g).length) : ((baseN g).take (n + 1)).filter (okN g) = ((baseN g).take n).filter (okN g) ++ bif okN g (baseN g)[n] then [(baseN g)[n]] else [] := by
  rw [List.take_succ_eq_append_getElem h, List.filter_append]
  cases hk : okN g (baseN g)[n] <;> simp [hk]
section
variable {σ : St} {d : V} {g : Cg}
set_option maxRecDepth 100000 in
set_option maxHeartbeats 1000000 in
theorem names_ok : CallA Try.prog 74 [cgV d g] σ fun w σ' => Ext σ σ' ∧ ∃ q m, w = .sl false (.own q) 2 (spsV m) ∧ σ'.live[q]? = some true ∧ σ.live.length ≤ q ∧ IsN g m ∧ m.length ≤ 3 := by
  refine fn_at Try.func74 (by decide) comp74 rfl fun Q q1 q2 => ?_
  have hb3 : (baseN g).length = 3 := rfl
  have hlit : ([[.int .i64 g.nc, .int .i64 g.nr], [.int .i64 g.pc, .int .i64 g.pr], [.int .i64 g.fc, .int .i64 g.fr]] : List (List V)) = spsV (baseN g) := rfl
  simp -implicitDefEqProofs only [go_sem, Nat.reduceBEq, Nat.reduceAdd, eq_self, true_and, and_true, and_self, List.getElem?_cons_zero, List.getElem?_cons_succ, Nat.reduceLeDiff, Nat.zero_add, Nat.reduceSub, Nat.le_refl, c74, cgV, cgC]
  rw [hlit]
  refine loop_at (fun (y : Nat × V) => ⟨[(1, .loc 1 0), (3, .v y.2), (12, .v (.sl false (.own σ.live.length) 2 (spsV (baseN g)))), (13, .v (.int .i64 3)), (14, .v (.int .i64 y.1))], [(1, cgC d g)]⟩)
    (fun y t => y.1 ≤ 3 ∧ Ext σ t ∧ t.live[σ.live.length]? = some true ∧ ((((baseN g).take y.1).filter (okN g) = [] ∧ y.2 = .sl true .pub 2 []) ∨ ∃ q, y.2 = .sl false (.own q) 2 (spsV (((baseN g).take y.1).filter (okN g))) ∧ t.live[q]? = some true ∧ σ.live.length < q)) (fun y => 3 - y.1) (0, .sl true .pub 2 []) ?_ ?_ ?_
  · refine .inr ?_
    simp -implicitDefEqProofs only [go_sem, Nat.reduceBEq, Nat.reduceAdd, eq_self, true_and, and_true, and_self, List.getElem?_cons_zero, List.getElem?_cons_succ, Nat.reduceLeDiff, Nat.zero_add, Nat.reduceSub, Nat.le_refl, cgC]
    try exact rfl
    try exact ⟨rfl, rfl⟩
  · exact ⟨Nat.zero_le _, ext_live σ true, live_last _ _, .inl ⟨rfl, rfl⟩⟩
  rintro ⟨y, w⟩ t ⟨f1, f2, f3, f4⟩ Z z1 z2 z3
  simp only at f1 f4
  simp -implicitDefEqProofs only [go_sem, Nat.reduceBEq, Nat.reduceAdd, eq_self, true_and, and_true, and_self, List.getElem?_cons_zero, List.getElem?_cons_succ, Nat.reduceLeDiff, Nat.zero_add, Nat.reduceSub, Nat.le_refl, Nat.lt_irrefl]
  refine CondW_b (fun hcc => ?_) (fun hcc => ?_)
  · have hi : y < 3 := by have := of_decide_eq_true hcc; omega
    have hget := spsV_get (l := baseN g) (i := y) (by omega)
    have hib : (y : Int) < (spsV (baseN g)).length := by rw [spsV_len]; omega
    have hwy : IntKind.i64.wrap ((y : Int) + 1) = ((y + 1 : Nat) : Int) := by rw [i64_in _ (by omega)]; omega
    have hfs := filt_snoc (g := g) (n := y) (by omega)
    have hfl := filt_len g y
    have hok : okN g (baseN g)[y] = (st.right (baseN g)[y] && !decide ((baseN g)[y] = atS g)) := rfl
    generalize (baseN g)[y] = s at *
    generalize ((baseN g).take y).filter (okN g) = D at *
    have hle : (spsV D).length = D.length := spsV_len D
    refine cut_dup ?_
    have hse : V.eqs [.int .i64 s.c, .int .i64 s.r] [.int .i64 g.ac, .int .i64 g.ar] = decide (s = atS g) := sp_eqs s (atS g)
    simp -implicitDefEqProofs only [go_sem, Nat.reduceBEq, Nat.reduceAdd, eq_self, true_and, and_true, and_self, List.getElem?_cons_zero, List.getElem?_cons_succ, Nat.reduceLeDiff, Nat.zero_add, Nat.reduceSub, Nat.le_refl, hget, spC]
    refine ⟨⟨by omega, hib⟩, f3, ?_⟩
    refine call_at (right_ok (c := s.c) (r := s.r)) ?_
    rintro _ τ ⟨hτ, rfl⟩
    have hτ := hτ.symm
    subst hτ
    refine ⟨kept_none, ?_⟩
    rw [sright]
    cases h1 : st.right s <;> rw [h1] at hok
    · rw [hok] at hfs
      simp only [Bool.false_and, cond_false, List.append_nil] at hfs
      simp -implicitDefEqProofs only [go_sem, Nat.reduceBEq, Nat.reduceAdd, eq_self, true_and, and_true, and_self, List.getElem?_cons_zero, List.getElem?_cons_succ, Nat.reduceLeDiff, Nat.zero_add, Nat.reduceSub, Nat.le_refl, hwy]
      refine z1 (y + 1, w) _ _ (.inr ?_) (by simp only; omega) ⟨by simp only; omega, f2, f3, by simp only [hfs]; exact f4⟩
      simp -implicitDefEqProofs only [go_sem, Nat.reduceBEq, Nat.reduceAdd, eq_self, true_and, and_true, and_self, List.getElem?_cons_zero, List.getElem?_cons_succ, Nat.reduceLeDiff, Nat.zero_add, Nat.reduceSub, Nat.le_refl, cgC]
      try exact rfl
    · cases h2 : decide (s = atS g) <;> rw [h2] at hok
      · rw [hok] at hfs
        rw [h2] at hse
        simp only [Bool.true_and, Bool.not_false, cond_true] at hfs
        have hap : spsV (D ++ [s]) = spsV D ++ [[.int .i64 s.c, .int .i64 s.r]] := by simp [spsV, spC]
        rcases f4 with ⟨hD, rfl⟩ | ⟨q, rfl, hq, hql⟩
        · have hl2 : ((t.live ++ [true]) ++ [true])[t.live.length + 1]? = some true := by simp
          have hlt := f2.llen
          have hl3 : σ.live.length < t.live.length := (List.getElem?_eq_some_iff.1 f3).1
          simp -implicitDefEqProofs only [go_sem, Nat.reduceBEq, Nat.reduceAdd, eq_self, true_and, and_true, and_self, List.getElem?_cons_zero, List.getElem?_cons_succ, Nat.reduceLeDiff, Nat.zero_add, Nat.reduceSub, Nat.le_refl, hse, Bool.not_false, hwy, cgC]
          refine ⟨⟨.inl trivial, rfl, .inr (live_last _ _), .inl trivial⟩, ?_⟩
          refine z1 (y + 1, .sl false (.own (t.live.length + 1)) 2 (spsV (D ++ [s]))) _ _ (.inr ?_) (by simp only; omega) ⟨by simp only; omega, ext_push (ext_push f2), ?_, .inr ⟨_, by simp only [hfs], hl2, by omega⟩⟩
          · simp -implicitDefEqProofs only [go_sem, Nat.reduceBEq, Nat.reduceAdd, eq_self, true_and, and_true, and_self, List.getElem?_cons_zero, List.getElem?_cons_succ, Nat.reduceLeDiff, Nat.zero_add, Nat.reduceSub, Nat.le_refl, cgC]
            rw [hap, hD]
            simp [spsV]
          · show ((t.live ++ [true]) ++ [true])[σ.live.length]? = some true
            rw [List.getElem?_append_left (by simp; omega), List.getElem?_append_left hl3]; exact f3
        · have hlt := f2.llen
          have hl3 : σ.live.length < t.live.length := (List.getElem?_eq_some_iff.1 f3).1
          have hql3 := (List.getElem?_eq_some_iff.1 hq).1
          simp -implicitDefEqProofs only [go_sem, Nat.reduceBEq, Nat.reduceAdd, eq_self, true_and, and_true, and_self, List.getElem?_cons_zero, List.getElem?_cons_succ, Nat.reduceLeDiff, Nat.zero_add, Nat.reduceSub, Nat.le_refl, hse, Bool.not_false, hwy, cgC]
          refine ⟨⟨.inr trivial, .inr ((ext_live _ _).live _ hq), ⟨.inr (live_last _ _), .inl trivial⟩, by rw [hle]; omega⟩, ?_⟩
          refine z1 (y + 1, .sl false (.own (t.live ++ [true]).length) 2 (spsV (D ++ [s]))) _ _ (.inr ?_) (by simp only; omega) ⟨by simp only; omega, ext_kill (ext_push f2) (by omega), ?_, .inr ⟨_, by simp only [hfs], live_last' _ _ _, by simp; omega⟩⟩
          · simp -implicitDefEqProofs only [go_sem, Nat.reduceBEq, Nat.reduceAdd, eq_self, true_and, and_true, and_self, List.getElem?_cons_zero, List.getElem?_cons_succ, Nat.reduceLeDiff, Nat.zero_add, Nat.reduceSub, Nat.le_refl, cgC]
            rw [hap]
            try exact ⟨rfl, rfl⟩
            try exact rfl
          · show (kill (t.live ++ [true]) (.own q) ++ [true])[σ.live.length]? = some true
            simp only [kill]
            rw [List.getElem?_append_left (by simp; omega), List.getElem?_set_ne (by omega), List.getElem?_append_left hl3]
            exact f3
      · rw [hok] at hfs
        rw [h2] at hse
        simp only [Bool.true_and, Bool.not_true, cond_false, List.append_nil] at hfs
        simp -implicitDefEqProofs only [go_sem, Nat.reduceBEq, Nat.reduceAdd, eq_self, true_and, and_true, and_self, List.getElem?_cons_zero, List.getElem?_cons_succ, Nat.reduceLeDiff, Nat.zero_add, Nat.reduceSub, Nat.le_refl, hse, Bool.not_true, hwy, cgC]
        refine z1 (y + 1, w) _ _ (.inr ?_) (by simp only; omega) ⟨by simp only; omega, f2, f3, by simp only [hfs]; exact f4⟩
        simp -implicitDefEqProofs only [go_sem, Nat.reduceBEq, Nat.reduceAdd, eq_self, true_and, and_true, and_self, List.getElem?_cons_zero, List.getElem?_cons_succ, Nat.reduceLeDiff, Nat.zero_add, Nat.reduceSub, Nat.le_refl, cgC]
        try exact rfl
  · have hi : ¬ y < 3 := by have := of_decide_eq_false hcc; omega
    rw [List.take_of_length_le (by omega)] at f4
    have hfl := List.length_filter_le (okN g) (baseN g)
    simp -implicitDefEqProofs only [go_sem, Nat.reduceBEq, Nat.reduceAdd, eq_self, true_and, and_true, and_self, List.getElem?_cons_zero, List.getElem?_cons_succ, Nat.reduceLeDiff, Nat.zero_add, Nat.reduceSub, Nat.le_refl, Nat.lt_irrefl]
    refine z2 _ _ _ ?_
    have hrd : RdS t w 2 (spsV ((baseN g).filter (okN g))) := by
      rcases f4 with ⟨hD, rfl⟩ | ⟨q, rfl, hq, -⟩
      · rw [hD]; exact ⟨true, .pub, 2, rfl, fun _ => rfl, .inl rfl⟩
      · exact ⟨_, _, _, rfl, by simp, .inr ⟨hq, rfl⟩⟩
    simp -implicitDefEqProofs only [go_sem, Nat.reduceBEq, Nat.reduceAdd, eq_self, true_and, and_true, and_self, List.getElem?_cons_zero, List.getElem?_cons_succ, Nat.reduceLeDiff, Nat.zero_add, Nat.reduceSub, Nat.le_refl, Nat.lt_irrefl]
    refine call_at (sort_ok hrd (by omega)) ?_
    rintro _ t2 ⟨e2, q, m, rfl, hq, hql, hs, hm, hm3⟩
    refine ⟨kept_none, ?_⟩
    simp -implicitDefEqProofs only [go_sem, Nat.reduceBEq, Nat.reduceAdd, eq_self, true_and, and_true, and_self, List.getElem?_cons_zero, List.getElem?_cons_succ, Nat.reduceLeDiff, Nat.zero_add, Nat.reduceSub, Nat.le_refl, Nat.lt_irrefl]
    refine q2 _ _ ?_
    simp -implicitDefEqProofs only [go_sem, Nat.reduceBEq, Nat.reduceAdd, eq_self, true_and, and_true, and_self, List.getElem?_cons_zero, List.getElem?_cons_succ, Nat.reduceLeDiff, Nat.zero_add, Nat.reduceSub, Nat.le_refl, Nat.lt_irrefl]
    exact ⟨f2.trans e2, q, m, rfl, hq, by have := f2.llen; omega, ⟨hs, hm⟩, hm3⟩
end
end Go.VL.opl

namespace Go.VL.opl
open Go Go.VL Go.Proofs Go.IntWalk Go.VL.st Go.VL.row

def stepN (s : Sp) (o : List Sp × Bool) (x : Sp) : List Sp × Bool := bif !o.2 && st.less s x then (o.1 ++ [s] ++ [x], true) else (o.1 ++ [x], o.2)
def outN (s : Sp) (l : List Sp) : List Sp × Bool := l.foldl (stepN s) ([], false)
theorem outN_snoc (s : Sp) (l : List Sp) (x : Sp) : outN s (l ++ [x]) = stepN s (outN s l) x := by simp [outN]
def finN (s : Sp) (l : List Sp) : List Sp := bif (outN s l).2 then (outN s l).1 else (outN s l).1 ++ [s]
theorem snocInd {α : Type} {p : List α → Prop} (h0 : p []) (h1 : ∀ l a, p l → p (l ++ [a])) : ∀ l, p l := by
  have : ∀ n l, List.length l = n → p l := by
    intro n
    induction n with
    | zero => intro l hl; rw [List.length_eq_zero_iff.1 hl]; exact h0
    | succ n ih =>
      intro l hl
      rcases List.eq_nil_or_concat l with rfl | ⟨r, a, rfl⟩
      · exact h0
      · rw [List.concat_eq_append] at hl ⊢
        rw [List.length_append, List.length_singleton] at hl
        exact h1 _ _ (ih _ (by omega))
  exact fun l => this _ l rfl
structure OutI (s : Sp) (l : List Sp) : Prop where
  srt : (outN s l).1.Pairwise fun a b => st.less a b = true
  mem : ∀ y, y ∈ (outN s l).1 ↔ y ∈ l ∨ ((outN s l).2 = true ∧ y = s)
  bef : (outN s l).2 = false → ∀ y ∈ l, st.less y s = true
  aft : (outN s l).2 = true → ∃ y ∈ l, st.less s y = true
theorem outI (s : Sp) : ∀ l : List Sp, (l.Pairwise fun a b => st.less a b = true) → s ∉ l → OutI s l := by
  refine snocInd (fun _ _ => ⟨.nil, by simp [outN], by simp, by simp [outN]⟩) fun l x ih hl hs => ?_
  have hl1 := (List.pairwise_append.1 hl).1
  have hlx : ∀ y ∈ l, st.less y x = true := fun y hy => (List.pairwise_append.1 hl).2.2 y hy x (by simp)
  have hsx : x ≠ s := fun e => hs (by simp [e])
  obtain ⟨i1, i2, i3, i4⟩ := ih hl1 fun h => hs (by simp [h])
  have hst := outN_snoc s l x
  generalize hO : outN s l = o at *
  obtain ⟨o, dn⟩ := o
  simp only at i1 i2 i3 i4
  cases dn
  · cases hx : st.less s x
    · have e : outN s (l ++ [x]) = (o ++ [x], false) := by rw [hst, stepN]; simp [hx]
      have hxs : st.less x s = true := less_of hx (Ne.symm hsx)
      refine ⟨?_, fun y => ?_, fun _ y hy => ?_, fun h => by rw [e] at h; cases h⟩
      · rw [e]
        refine List.pairwise_append.2 ⟨i1, by simp, fun y hy z hz => ?_⟩
        rw [List.mem_singleton] at hz
        subst hz
        rcases (i2 y).1 hy with h | ⟨h, -⟩
        · exact hlx y h
        · cases h
      · rw [e]
        have := i2 y
        simp only [Bool.false_eq_true, false_and, or_false] at this
        simp [this]
      · rcases List.mem_append.1 hy with h | h
        · exact i3 rfl y h
        · rw [List.mem_singleton] at h; rw [h]; exact hxs
    · have e : outN s (l ++ [x]) = (o ++ [s] ++ [x], true) := by rw [hst, stepN]; simp [hx]
      refine ⟨?_, fun y => ?_, fun h => ?_, fun _ => ⟨x, by simp, hx⟩⟩
      · rw [e]
        refine List.pairwise_append.2 ⟨List.pairwise_append.2 ⟨i1, by simp, fun y hy z hz => ?_⟩, by simp, fun y hy z hz => ?_⟩
        · rw [List.mem_singleton] at hz
          subst hz
          rcases (i2 y).1 hy with h | ⟨h, -⟩
          · exact i3 rfl y h
          · cases h
        · rw [List.mem_singleton] at hz
          subst hz
          rcases List.mem_append.1 hy with h | h
          · rcases (i2 y).1 h with h | ⟨h, -⟩
            · exact hlx y h
            · cases h
          · rw [List.mem_singleton] at h; rw [h]; exact hx
      · rw [e]
        have := i2 y
        simp only [Bool.false_eq_true, false_and, or_false] at this
        simp only [List.mem_append, List.mem_singleton, this, true_and]
        constructor
        · rintro ((h | h) | h)
          · exact .inl (.inl h)
          · exact .inr h
          · exact .inl (.inr h)
        · rintro ((h | h) | h)
          · exact .inl (.inl h)
          · exact .inr h
          · exact .inl (.inr h)
      · rw [e] at h; cases h
  · have e : outN s (l ++ [x]) = (o ++ [x], true) := by rw [hst, stepN]; simp
    obtain ⟨y0, hy0, hl0⟩ := i4 rfl
    have hsx' : st.less s x = true := less_trans hl0 (hlx y0 hy0)
    refine ⟨?_, fun y => ?_, fun h => (by rw [e] at h; cases h), fun _ => ⟨x, by simp, hsx'⟩⟩
    · rw [e]
      refine List.pairwise_append.2 ⟨i1, by simp, fun y hy z hz => ?_⟩
      rw [List.mem_singleton] at hz
      subst hz
      rcases (i2 y).1 hy with h | ⟨-, h⟩
      · exact hlx y h
      · subst h
        exact hsx'
    · rw [e]
      have := i2 y
      simp only [true_and] at this
      simp only [List.mem_append, List.mem_singleton, this, true_and]
      constructor
      · rintro ((h | h) | h)
        · exact .inl (.inl h)
        · exact .inr h
        · exact .inl (.inr h)
      · rintro ((h | h) | h)
        · exact .inl (.inl h)
        · exact .inr h
        · exact .inl (.inr h)
/-- A stamp put at its place. -/
theorem finN_ok {s : Sp} {l : List Sp} (hl : l.Pairwise fun a b => st.less a b = true) (hs : s ∉ l) : ((finN s l).Pairwise fun a b => st.less a b = true) ∧ ∀ y, y ∈ finN s l ↔ y = s ∨ y ∈ l := by
  obtain ⟨i1, i2, i3, i4⟩ := outI s l hl hs
  unfold finN
  cases hd : (outN s l).2
  · refine ⟨List.pairwise_append.2 ⟨i1, by simp, fun y hy z hz => ?_⟩, fun y => ?_⟩
    · rw [List.mem_singleton] at hz
      subst hz
      rcases (i2 y).1 hy with h | ⟨h, -⟩
      · exact i3 hd y h
      · rw [hd] at h; cases h
    · have := i2 y
      rw [hd] at this
      simp only [Bool.false_eq_true, false_and, or_false] at this
      simp only [cond_false, List.mem_append, List.mem_singleton, this, or_comm]
  · refine ⟨i1, fun y => ?_⟩
    have := i2 y
    rw [hd] at this
    simp only [true_and] at this
    simp only [cond_true, this, or_comm]
theorem outN_len (s : Sp) (l : List Sp) : (outN s l).1.length ≤ l.length + 1 ∧ ((outN s l).2 = false → (outN s l).1.length = l.length) := by
  revert l
  refine snocInd (by simp [outN]) fun l x ih => ?_
  have hst := outN_snoc s l x
  rw [hst]
  generalize outN s l = o at *
  obtain ⟨o, dn⟩ := o
  unfold stepN
  cases dn <;> cases st.less s x <;> simp at ih ⊢ <;> omega
section
variable {σ : St} {v : V} {l : List Sp} {x : Sp}
set_option maxRecDepth 100000 in
theorem has01_ok (hv : RdS σ v 2 (spsV l)) (hl : l.length ≤ 1000000) : CallA Try.prog 81 [v, spV x] σ fun w σ' => w = .bool (decide (x ∈ l)) ∧ σ' = σ := by
  obtain ⟨b, R, z, rfl, -, -⟩ := id hv
  refine fn_at Try.func81 (by decide) comp81 rfl fun Q q1 q2 => ?_
  have hA := spsV_len l
  simp -implicitDefEqProofs only [go_sem, Nat.reduceBEq, Nat.reduceAdd, eq_self, true_and, and_true, and_self, List.getElem?_cons_zero, List.getElem?_cons_succ, Nat.reduceLeDiff, Nat.zero_add, Nat.reduceSub, Nat.le_refl, c81, spV, spC]
  refine loop_at (fun (y : Nat) => ⟨[(0, .v (.sl b R z (spsV l))), (3, .loc 3 0), (5, .v (.int .i64 y))], [(3, spC x)]⟩) (fun y t => y ≤ l.length ∧ t = σ ∧ x ∉ l.take y) (fun y => l.length - y) 0 ?_ ?_ ?_
  · refine .inr ?_
    simp -implicitDefEqProofs only [go_sem, Nat.reduceBEq, Nat.reduceAdd, eq_self, true_and, and_true, and_self, List.getElem?_cons_zero, List.getElem?_cons_succ, Nat.reduceLeDiff, Nat.zero_add, Nat.reduceSub, Nat.le_refl, spC]
    try exact rfl
  · exact ⟨Nat.zero_le _, rfl, by simp⟩
  rintro y τ ⟨g1, hτ, g3⟩ Z z1 z2 z3
  have hτ := hτ.symm
  subst hτ
  simp -implicitDefEqProofs only [go_sem, Nat.reduceBEq, Nat.reduceAdd, eq_self, true_and, and_true, and_self, List.getElem?_cons_zero, List.getElem?_cons_succ, Nat.reduceLeDiff, Nat.zero_add, Nat.reduceSub, Nat.le_refl, Nat.lt_irrefl]
  refine CondW_b (fun hcc => ?_) (fun hcc => ?_)
  · have hi : y < l.length := by simpa [hA] using hcc
    have hget := spsV_get hi
    have hib : (y : Int) < (spsV l).length := by omega
    have hwy : IntKind.i64.wrap ((y : Int) + 1) = ((y + 1 : Nat) : Int) := by rw [i64_in _ (by omega)]; omega
    obtain ⟨k1, k2⟩ := rdl hv (by cases l <;> simp [spsV] at hi ⊢)
    have hst1 : l.take (y + 1) = l.take y ++ [l[y]] := List.take_succ_eq_append_getElem hi
    have hse : V.eqs [.int .i64 l[y].c, .int .i64 l[y].r] [.int .i64 x.c, .int .i64 x.r] = decide (l[y] = x) := sp_eqs _ _
    have hmem : l[y] ∈ l := List.getElem_mem hi
    generalize l[y] = s at *
    cases hd : decide (s = x) <;> rw [hd] at hse
    · have hne := of_decide_eq_false hd
      simp -implicitDefEqProofs only [go_sem, Nat.reduceBEq, Nat.reduceAdd, eq_self, true_and, and_true, and_self, List.getElem?_cons_zero, List.getElem?_cons_succ, Nat.reduceLeDiff, Nat.zero_add, Nat.reduceSub, Nat.le_refl, hget, spC, hse, hwy]
      refine ⟨⟨by omega, hib, k2⟩, k1, ?_⟩
      refine z1 (y + 1) _ _ (.inr ?_) (by omega) ⟨by omega, rfl, ?_⟩
      · simp -implicitDefEqProofs only [go_sem, Nat.reduceBEq, Nat.reduceAdd, eq_self, true_and, and_true, and_self, List.getElem?_cons_zero, List.getElem?_cons_succ, Nat.reduceLeDiff, Nat.zero_add, Nat.reduceSub, Nat.le_refl, spC]
        try exact rfl
      · rw [hst1]
        simp only [List.mem_append, List.mem_singleton, not_or]
        exact ⟨g3, Ne.symm hne⟩
    · have he := of_decide_eq_true hd
      have hx : decide (x ∈ l) = true := by rw [← he]; simpa using hmem
      simp -implicitDefEqProofs only [go_sem, Nat.reduceBEq, Nat.reduceAdd, eq_self, true_and, and_true, and_self, List.getElem?_cons_zero, List.getElem?_cons_succ, Nat.reduceLeDiff, Nat.zero_add, Nat.reduceSub, Nat.le_refl, hget, spC, hse]
      refine ⟨⟨by omega, hib, k2⟩, k1, ?_⟩
      refine z3 _ _ ?_
      simp -implicitDefEqProofs only [go_sem, Nat.reduceBEq, Nat.reduceAdd, eq_self, true_and, and_true, and_self, List.getElem?_cons_zero, List.getElem?_cons_succ, Nat.reduceLeDiff, Nat.zero_add, Nat.reduceSub, Nat.le_refl, Nat.lt_irrefl]
      refine q2 _ _ ?_
      simp -implicitDefEqProofs only [go_sem, Nat.reduceBEq, Nat.reduceAdd, eq_self, true_and, and_true, and_self, List.getElem?_cons_zero, List.getElem?_cons_succ, Nat.reduceLeDiff, Nat.zero_add, Nat.reduceSub, Nat.le_refl, hx]
  · rw [List.take_of_length_le (by have : ¬ y < l.length := by simpa [hA] using hcc
                                   omega)] at g3
    have hx : decide (x ∈ l) = false := by simpa using g3
    simp -implicitDefEqProofs only [go_sem, Nat.reduceBEq, Nat.reduceAdd, eq_self, true_and, and_true, and_self, List.getElem?_cons_zero, List.getElem?_cons_succ, Nat.reduceLeDiff, Nat.zero_add, Nat.reduceSub, Nat.le_refl, Nat.lt_irrefl]
    refine z2 _ _ _ ?_
    simp -implicitDefEqProofs only [go_sem, Nat.reduceBEq, Nat.reduceAdd, eq_self, true_and, and_true, and_self, List.getElem?_cons_zero, List.getElem?_cons_succ, Nat.reduceLeDiff, Nat.zero_add, Nat.reduceSub, Nat.le_refl, Nat.lt_irrefl]
    refine q2 _ _ ?_
    simp -implicitDefEqProofs only [go_sem, Nat.reduceBEq, Nat.reduceAdd, eq_self, true_and, and_true, and_self, List.getElem?_cons_zero, List.getElem?_cons_succ, Nat.reduceLeDiff, Nat.zero_add, Nat.reduceSub, Nat.le_refl, hx]
end
end Go.VL.opl

namespace Go.VL.opl
open Go Go.VL Go.Proofs Go.IntWalk Go.VL.st Go.VL.row

def putS (l : List Sp) (s : Sp) : List Sp := bif decide (s ∈ l) then l else finN s l
theorem putS_ok {l : List Sp} {s : Sp} (hl : l.Pairwise fun a b => st.less a b = true) : ((putS l s).Pairwise fun a b => st.less a b = true) ∧ ∀ y, y ∈ putS l s ↔ y = s ∨ y ∈ l := by
  unfold putS
  cases h : decide (s ∈ l)
  · exact finN_ok hl (of_decide_eq_false h)
  · have := of_decide_eq_true h
    refine ⟨hl, fun y => ⟨.inr, ?_⟩⟩
    rintro (rfl | h)
    · exact this
    · exact h
theorem spsV_snoc (l : List Sp) (s : Sp) : spsV (l ++ [s]) = spsV l ++ [[.int .i64 s.c, .int .i64 s.r]] := by simp [spsV, spC]
section
variable {σ : St} {v d : V} {l : List Sp} {s : Sp} {g : Cg}
set_option maxRecDepth 100000 in
set_option maxHeartbeats 3200000 in
theorem put01_ok (hv : RdS σ v 2 (spsV l)) (hl : l.length ≤ 1000) : CallA Try.prog 58 [v, spV s] σ fun w σ' => RdS σ' w 2 (spsV (putS l s)) ∧ Ext σ σ' ∧ σ'.objs = σ.objs := by
  refine fn_at Try.func58 (by decide) comp58 rfl fun Q q1 q2 => ?_
  have hA := spsV_len l
  simp -implicitDefEqProofs only [go_sem, Nat.reduceBEq, Nat.reduceAdd, eq_self, true_and, and_true, and_self, List.getElem?_cons_zero, List.getElem?_cons_succ, Nat.reduceLeDiff, Nat.zero_add, Nat.reduceSub, Nat.le_refl, c58, spV, spC]
  refine call_at (has01_ok (x := s) hv (by omega)) ?_
  rintro _ τ ⟨rfl, hτ⟩
  have hτ := hτ.symm
  subst hτ
  refine ⟨kept_none, ?_⟩
  cases hs : decide (s ∈ l)
  case true =>
    simp -implicitDefEqProofs only [go_sem, Nat.reduceBEq, Nat.reduceAdd, eq_self, true_and, and_true, and_self, List.getElem?_cons_zero, List.getElem?_cons_succ, Nat.reduceLeDiff, Nat.zero_add, Nat.reduceSub, Nat.le_refl, Nat.lt_irrefl]
    refine q2 _ _ ?_
    simp -implicitDefEqProofs only [go_sem, Nat.reduceBEq, Nat.reduceAdd, eq_self, true_and, and_true, and_self, List.getElem?_cons_zero, List.getElem?_cons_succ, Nat.reduceLeDiff, Nat.zero_add, Nat.reduceSub, Nat.le_refl, Nat.lt_irrefl]
    refine ⟨?_, .refl _⟩
    unfold putS
    rw [hs]; exact hv
  have hfin : putS l s = finN s l := by unfold putS; rw [hs]; rfl
  rw [hfin] at q1 q2
  obtain ⟨b, R, z, rfl, -, -⟩ := id hv
  simp -implicitDefEqProofs only [go_sem, Nat.reduceBEq, Nat.reduceAdd, eq_self, true_and, and_true, and_self, List.getElem?_cons_zero, List.getElem?_cons_succ, Nat.reduceLeDiff, Nat.zero_add, Nat.reduceSub, Nat.le_refl, Nat.lt_irrefl]
  refine loop_at (fun (y : Nat × Nat) => ⟨[(0, .v (.sl b R z (spsV l))), (3, .loc 3 0), (5, .v (.sl false (.own y.2) 2 (spsV (outN s (l.take y.1)).1))), (6, .v (.bool (outN s (l.take y.1)).2)), (7, .v (.int .i64 y.1))], [(3, spC s)]⟩)
    (fun y t => y.1 ≤ l.length ∧ Ext σ t ∧ t.objs = σ.objs ∧ t.live[y.2]? = some true ∧ σ.live.length ≤ y.2) (fun y => l.length - y.1) (0, σ.live.length) ?_ ?_ ?_
  · refine .inr ?_
    simp -implicitDefEqProofs only [go_sem, Nat.reduceBEq, Nat.reduceAdd, eq_self, true_and, and_true, and_self, List.getElem?_cons_zero, List.getElem?_cons_succ, Nat.reduceLeDiff, Nat.zero_add, Nat.reduceSub, Nat.le_refl, spC]
    exact ⟨rfl, rfl, rfl⟩
  · exact ⟨Nat.zero_le _, ext_live σ true, rfl, live_last _ _, Nat.le_refl _⟩
  rintro ⟨y, q⟩ t ⟨g1, g2, g3, g4, g5⟩ Z z1 z2 z3
  simp only at g1 g4 g5
  simp -implicitDefEqProofs only [go_sem, Nat.reduceBEq, Nat.reduceAdd, eq_self, true_and, and_true, and_self, List.getElem?_cons_zero, List.getElem?_cons_succ, Nat.reduceLeDiff, Nat.zero_add, Nat.reduceSub, Nat.le_refl, Nat.lt_irrefl]
  refine CondW_b (fun hcc => ?_) (fun hcc => ?_)
  · have hi : y < l.length := by simpa [hA] using hcc
    have hget := spsV_get hi
    have hib : (y : Int) < (spsV l).length := by omega
    have hwy : IntKind.i64.wrap ((y : Int) + 1) = ((y + 1 : Nat) : Int) := by rw [i64_in _ (by omega)]; omega
    have hLn : spsV l ≠ [] := by cases l <;> simp [spsV] at hi ⊢
    obtain ⟨k1, k2⟩ := rdl (hv.ext g2) hLn
    have hst1 : l.take (y + 1) = l.take y ++ [l[y]] := List.take_succ_eq_append_getElem hi
    have hos := outN_snoc s (l.take y) l[y]
    have hol := (outN_len s (l.take y)).1
    rw [List.length_take] at hol
    rw [← hst1] at hos
    generalize l[y] = x at *
    generalize hO : outN s (l.take y) = o at *
    obtain ⟨o, dn⟩ := o
    simp only at hol
    have hoL := spsV_len o
    have x1 := ext_push (b := true) g2
    have a1 := (List.getElem?_eq_some_iff.1 g4).1
    have hls : less s.c s.r x.c x.r = st.less s x := rfl
    have x2 : Ext σ ⟨t.objs, kill (t.live ++ [true]) (.own q) ++ [true]⟩ := ext_kill x1 g5
    have b1 : σ.live.length ≤ (t.live ++ [true]).length := by have := g2.llen; simp; omega
    obtain ⟨k1', -⟩ := rdl (hv.ext x1) hLn
    obtain ⟨k1'', -⟩ := rdl (hv.ext x2) hLn
    obtain ⟨k1t, -⟩ := rdl (hv.ext (ext_push (b := true) x2)) hLn
    simp -implicitDefEqProofs only [go_sem, Nat.reduceBEq, Nat.reduceAdd, eq_self, true_and, and_true, and_self, List.getElem?_cons_zero, List.getElem?_cons_succ, Nat.reduceLeDiff, Nat.zero_add, Nat.reduceSub, Nat.le_refl, Nat.lt_irrefl]
    refine cut_dup ?_
    cases dn
    · cases hx : st.less s x
      · have e : outN s (l.take (y + 1)) = (o ++ [x], false) := by rw [hos, stepN]; simp [hx]
        simp -implicitDefEqProofs only [go_sem, Nat.reduceBEq, Nat.reduceAdd, eq_self, true_and, and_true, and_self, List.getElem?_cons_zero, List.getElem?_cons_succ, Nat.reduceLeDiff, Nat.zero_add, Nat.reduceSub, Nat.le_refl, hget, spC, Bool.not_false]
        refine ⟨⟨by omega, hib, k2⟩, k1, ?_⟩
        refine call_at (less_ok (a1 := s.c) (a2 := s.r) (b1 := x.c) (b2 := x.r)) ?_
        rintro _ τ ⟨hτ, rfl⟩
        have hτ := hτ.symm
        subst hτ
        refine ⟨(Ext.refl _).kept, ?_⟩
        rw [hls, hx]
        simp -implicitDefEqProofs only [go_sem, Nat.reduceBEq, Nat.reduceAdd, eq_self, true_and, and_true, and_self, List.getElem?_cons_zero, List.getElem?_cons_succ, Nat.reduceLeDiff, Nat.zero_add, Nat.reduceSub, Nat.le_refl, hget, spC, hwy]
        refine ⟨⟨by omega, hib, k2⟩, k1, ⟨.inr trivial, .inr ((ext_live _ _).live _ g4), ⟨.inr (live_last _ _), .inl trivial⟩, by rw [hoL]; omega⟩, ?_⟩
        refine z1 (y + 1, (t.live ++ [true]).length) _ _ (.inr ?_) (by simp only; omega) ⟨by simp only; omega, x2, g3, live_last' _ _ _, b1⟩
        rw [e, spsV_snoc]
        simp -implicitDefEqProofs only [go_sem, Nat.reduceBEq, Nat.reduceAdd, eq_self, true_and, and_true, and_self, List.getElem?_cons_zero, List.getElem?_cons_succ, Nat.reduceLeDiff, Nat.zero_add, Nat.reduceSub, Nat.le_refl, spC]
        try exact ⟨rfl, rfl⟩
      · have e : outN s (l.take (y + 1)) = (o ++ [s] ++ [x], true) := by rw [hos, stepN]; simp [hx]
        simp -implicitDefEqProofs only [go_sem, Nat.reduceBEq, Nat.reduceAdd, eq_self, true_and, and_true, and_self, List.getElem?_cons_zero, List.getElem?_cons_succ, Nat.reduceLeDiff, Nat.zero_add, Nat.reduceSub, Nat.le_refl, hget, spC, Bool.not_false]
        refine ⟨⟨by omega, hib, k2⟩, k1, ?_⟩
        refine call_at (less_ok (a1 := s.c) (a2 := s.r) (b1 := x.c) (b2 := x.r)) ?_
        rintro _ τ ⟨hτ, rfl⟩
        have hτ := hτ.symm
        subst hτ
        refine ⟨(Ext.refl _).kept, ?_⟩
        rw [hls, hx]
        simp -implicitDefEqProofs only [go_sem, Nat.reduceBEq, Nat.reduceAdd, eq_self, true_and, and_true, and_self, List.getElem?_cons_zero, List.getElem?_cons_succ, Nat.reduceLeDiff, Nat.zero_add, Nat.reduceSub, Nat.le_refl, hget, spC, hwy]
        have b2 : σ.live.length ≤ ((kill (t.live ++ [true]) (.own q) ++ [true]) ++ [true]).length := by have := g2.llen; simp [kill]; omega
        refine ⟨⟨.inr trivial, .inr ((ext_live _ _).live _ g4), ⟨.inr (live_last _ _), .inl trivial⟩, by rw [hoL]; omega⟩, ⟨by omega, hib, k2⟩, k1'', ⟨.inr trivial, .inr ((ext_live ⟨t.objs, kill (t.live ++ [true]) (.own q) ++ [true]⟩ true).live _ (live_last' _ _ _)), ⟨.inr (live_last _ _), .inl trivial⟩, by rw [List.length_append, hoL]; simp; omega⟩, ?_⟩
        refine z1 (y + 1, ((kill (t.live ++ [true]) (.own q) ++ [true]) ++ [true]).length) _ _ (.inr ?_) (by simp only; omega) ⟨by simp only; omega, ext_kill (ext_push x2) b1, g3, live_last' _ _ _, b2⟩
        rw [e, spsV_snoc, spsV_snoc]
        simp -implicitDefEqProofs only [go_sem, Nat.reduceBEq, Nat.reduceAdd, eq_self, true_and, and_true, and_self, List.getElem?_cons_zero, List.getElem?_cons_succ, Nat.reduceLeDiff, Nat.zero_add, Nat.reduceSub, Nat.le_refl, spC]
        try exact ⟨rfl, rfl⟩
    · have e : outN s (l.take (y + 1)) = (o ++ [x], true) := by rw [hos, stepN]; simp
      simp -implicitDefEqProofs only [go_sem, Nat.reduceBEq, Nat.reduceAdd, eq_self, true_and, and_true, and_self, List.getElem?_cons_zero, List.getElem?_cons_succ, Nat.reduceLeDiff, Nat.zero_add, Nat.reduceSub, Nat.le_refl, hget, spC, Bool.not_true, hwy]
      refine ⟨⟨by omega, hib, k2⟩, k1, ⟨.inr trivial, .inr ((ext_live _ _).live _ g4), ⟨.inr (live_last _ _), .inl trivial⟩, by rw [hoL]; omega⟩, ?_⟩
      refine z1 (y + 1, (t.live ++ [true]).length) _ _ (.inr ?_) (by simp only; omega) ⟨by simp only; omega, x2, g3, live_last' _ _ _, b1⟩
      rw [e, spsV_snoc]
      simp -implicitDefEqProofs only [go_sem, Nat.reduceBEq, Nat.reduceAdd, eq_self, true_and, and_true, and_self, List.getElem?_cons_zero, List.getElem?_cons_succ, Nat.reduceLeDiff, Nat.zero_add, Nat.reduceSub, Nat.le_refl, spC]
      try exact ⟨rfl, rfl⟩
  · rw [List.take_of_length_le (by have : ¬ y < l.length := by simpa [hA] using hcc
                                   omega)]
    have hol := (outN_len s l).1
    simp -implicitDefEqProofs only [go_sem, Nat.reduceBEq, Nat.reduceAdd, eq_self, true_and, and_true, and_self, List.getElem?_cons_zero, List.getElem?_cons_succ, Nat.reduceLeDiff, Nat.zero_add, Nat.reduceSub, Nat.le_refl, Nat.lt_irrefl]
    refine z2 _ _ _ ?_
    have hfe : finN s l = bif (outN s l).2 then (outN s l).1 else (outN s l).1 ++ [s] := rfl
    generalize outN s l = o at *
    obtain ⟨o, dn⟩ := o
    simp only at hol hfe
    have hoL := spsV_len o
    rw [hfe] at q2
    simp -implicitDefEqProofs only [go_sem, Nat.reduceBEq, Nat.reduceAdd, eq_self, true_and, and_true, and_self, List.getElem?_cons_zero, List.getElem?_cons_succ, Nat.reduceLeDiff, Nat.zero_add, Nat.reduceSub, Nat.le_refl, Nat.lt_irrefl]
    refine cut_dup ?_
    cases dn
    · simp -implicitDefEqProofs only [go_sem, Nat.reduceBEq, Nat.reduceAdd, eq_self, true_and, and_true, and_self, List.getElem?_cons_zero, List.getElem?_cons_succ, Nat.reduceLeDiff, Nat.zero_add, Nat.reduceSub, Nat.le_refl, spC, Bool.not_false]
      refine ⟨⟨.inr trivial, .inr ((ext_live _ _).live _ g4), ⟨.inr (live_last _ _), .inl trivial⟩, by rw [hoL]; omega⟩, ?_⟩
      refine q2 _ _ ?_
      simp -implicitDefEqProofs only [go_sem, Nat.reduceBEq, Nat.reduceAdd, eq_self, true_and, and_true, and_self, List.getElem?_cons_zero, List.getElem?_cons_succ, Nat.reduceLeDiff, Nat.zero_add, Nat.reduceSub, Nat.le_refl, cond_false, spsV_snoc]
      exact ⟨⟨_, _, _, rfl, (by simp), .inr ⟨live_last' _ _ _, rfl⟩⟩, ext_kill (ext_push g2) g5, g3⟩
    · simp -implicitDefEqProofs only [go_sem, Nat.reduceBEq, Nat.reduceAdd, eq_self, true_and, and_true, and_self, List.getElem?_cons_zero, List.getElem?_cons_succ, Nat.reduceLeDiff, Nat.zero_add, Nat.reduceSub, Nat.le_refl, Bool.not_true]
      refine q2 _ _ ?_
      simp -implicitDefEqProofs only [go_sem, Nat.reduceBEq, Nat.reduceAdd, eq_self, true_and, and_true, and_self, List.getElem?_cons_zero, List.getElem?_cons_succ, Nat.reduceLeDiff, Nat.zero_add, Nat.reduceSub, Nat.le_refl, cond_true]
      exact ⟨⟨_, _, _, rfl, (by simp), .inr ⟨g4, rfl⟩⟩, g2, g3⟩
def putsN (g : Cg) (l : List Sp) : List Sp := l.foldl (fun o s => bif okN g s then putS o s else o) []
theorem putsN_snoc (g : Cg) (l : List Sp) (s : Sp) : putsN g (l ++ [s]) = bif okN g s then putS (putsN g l) s else putsN g l := by simp [putsN]
theorem putsN_ok (g : Cg) : ∀ l : List Sp, ((putsN g l).Pairwise fun a b => st.less a b = true) ∧ ∀ y, y ∈ putsN g l ↔ y ∈ l.filter (okN g) := by
  refine snocInd ⟨.nil, by simp [putsN]⟩ fun l s ⟨h1, h2⟩ => ?_
  rw [putsN_snoc, List.filter_append]
  cases hk : okN g s
  · refine ⟨h1, fun y => ?_⟩
    simp [h2 y, hk]
  · obtain ⟨k1, k2⟩ := putS_ok (s := s) h1
    refine ⟨k1, fun y => ?_⟩
    simp only [cond_true, k2, h2 y]
    simp only [List.mem_append, List.filter_cons, hk, if_true, List.filter_nil, List.mem_singleton, or_comm]
theorem putS_len (l : List Sp) (s : Sp) : (putS l s).length ≤ l.length + 2 := by
  unfold putS finN
  have := (outN_len s l).1
  cases decide (s ∈ l) <;> cases (outN s l).2 <;> simp <;> omega
theorem putsN_len (g : Cg) : ∀ l : List Sp, (putsN g l).length ≤ l.length * 2 := by
  refine snocInd (by simp [putsN]) fun l s ih => ?_
  rw [putsN_snoc, List.length_append, List.length_singleton]
  have := putS_len (putsN g l) s
  cases okN g s <;> simp only [cond_true, cond_false] <;> omega
theorem putsN_is (g : Cg) : IsN g (putsN g (baseN g)) := putsN_ok g (baseN g)
set_option maxRecDepth 100000 in
set_option maxHeartbeats 3200000 in
theorem rnames_ok : CallA Try.prog 30 [cgV d g] σ fun w σ' => (∃ m, RdS σ' w 2 (spsV m) ∧ IsN g m ∧ m.length ≤ 6) ∧ Ext σ σ' ∧ σ'.objs = σ.objs := by
  refine fn_at Try.func30 (by decide) comp30 rfl fun Q q1 q2 => ?_
  have hb3 : (baseN g).length = 3 := rfl
  have hlit : ([[.int .i64 g.nc, .int .i64 g.nr], [.int .i64 g.pc, .int .i64 g.pr], [.int .i64 g.fc, .int .i64 g.fr]] : List (List V)) = spsV (baseN g) := rfl
  have hA := spsV_len (baseN g)
  simp -implicitDefEqProofs only [go_sem, Nat.reduceBEq, Nat.reduceAdd, eq_self, true_and, and_true, and_self, List.getElem?_cons_zero, List.getElem?_cons_succ, Nat.reduceLeDiff, Nat.zero_add, Nat.reduceSub, Nat.le_refl, c30, cgV, cgC]
  rw [hlit]
  refine loop_at (fun (y : Nat × V) => ⟨[(1, .loc 1 0), (3, .v (.sl false (.own σ.live.length) 2 (spsV (baseN g)))), (4, .v y.2), (5, .v (.int .i64 y.1))], [(1, cgC d g)]⟩)
    (fun y t => y.1 ≤ 3 ∧ Ext σ t ∧ t.objs = σ.objs ∧ t.live[σ.live.length]? = some true ∧ RdS t y.2 2 (spsV (putsN g ((baseN g).take y.1)))) (fun y => 3 - y.1) (0, .sl false (.own (σ.live ++ [true]).length) 2 []) ?_ ?_ ?_
  · refine .inr ?_
    simp -implicitDefEqProofs only [go_sem, Nat.reduceBEq, Nat.reduceAdd, eq_self, true_and, and_true, and_self, List.getElem?_cons_zero, List.getElem?_cons_succ, Nat.reduceLeDiff, Nat.zero_add, Nat.reduceSub, Nat.le_refl, cgC]
    try exact ⟨rfl, rfl⟩
    try exact rfl
  · exact ⟨Nat.zero_le _, ext_push (ext_live σ true), rfl, by show ((σ.live ++ [true]) ++ [true])[σ.live.length]? = some true; simp, ⟨_, _, _, rfl, (by simp), .inr ⟨live_last _ _, rfl⟩⟩⟩
  rintro ⟨y, w⟩ t ⟨f1, f2, f3, f4, f5⟩ Z z1 z2 z3
  simp only at f1 f5
  simp -implicitDefEqProofs only [go_sem, Nat.reduceBEq, Nat.reduceAdd, eq_self, true_and, and_true, and_self, List.getElem?_cons_zero, List.getElem?_cons_succ, Nat.reduceLeDiff, Nat.zero_add, Nat.reduceSub, Nat.le_refl, Nat.lt_irrefl]
  refine CondW_b (fun hcc => ?_) (fun hcc => ?_)
  · have hi : y < 3 := by have := of_decide_eq_true hcc; rw [hA] at this; omega
    have hget := spsV_get (l := baseN g) (i := y) (by omega)
    have hib : (y : Int) < (spsV (baseN g)).length := by rw [spsV_len]; omega
    have hwy : IntKind.i64.wrap ((y : Int) + 1) = ((y + 1 : Nat) : Int) := by rw [i64_in _ (by omega)]; omega
    have hst1 : (baseN g).take (y + 1) = (baseN g).take y ++ [(baseN g)[y]] := List.take_succ_eq_append_getElem (by omega)
    have hps := putsN_snoc g ((baseN g).take y) (baseN g)[y]
    have hpl := putsN_len g ((baseN g).take y)
    rw [List.length_take] at hpl
    rw [← hst1] at hps
    have hok : okN g (baseN g)[y] = (st.right (baseN g)[y] && !decide ((baseN g)[y] = atS g)) := rfl
    generalize (baseN g)[y] = s at *
    generalize putsN g ((baseN g).take y) = P at *
    have hse : V.eqs [.int .i64 s.c, .int .i64 s.r] [.int .i64 g.ac, .int .i64 g.ar] = decide (s = atS g) := sp_eqs s (atS g)
    refine cut_dup ?_
    simp -implicitDefEqProofs only [go_sem, Nat.reduceBEq, Nat.reduceAdd, eq_self, true_and, and_true, and_self, List.getElem?_cons_zero, List.getElem?_cons_succ, Nat.reduceLeDiff, Nat.zero_add, Nat.reduceSub, Nat.le_refl, hget, spC]
    refine ⟨⟨by omega, hib⟩, f4, ?_⟩
    refine call_at (rright_ok (c := s.c) (r := s.r)) ?_
    rintro _ τ ⟨hτ, rfl⟩
    have hτ := hτ.symm
    subst hτ
    refine ⟨(Ext.refl _).kept, ?_⟩
    rw [sright]
    cases h1 : st.right s <;> rw [h1] at hok
    · rw [hok] at hps
      simp -implicitDefEqProofs only [go_sem, Nat.reduceBEq, Nat.reduceAdd, eq_self, true_and, and_true, and_self, List.getElem?_cons_zero, List.getElem?_cons_succ, Nat.reduceLeDiff, Nat.zero_add, Nat.reduceSub, Nat.le_refl, hwy]
      refine z1 (y + 1, w) _ _ (.inr ?_) (by simp only; omega) ⟨by simp only; omega, f2, f3, f4, by simp only [hps]; exact f5⟩
      simp -implicitDefEqProofs only [go_sem, Nat.reduceBEq, Nat.reduceAdd, eq_self, true_and, and_true, and_self, List.getElem?_cons_zero, List.getElem?_cons_succ, Nat.reduceLeDiff, Nat.zero_add, Nat.reduceSub, Nat.le_refl, cgC]
      try exact rfl
    · cases h2 : decide (s = atS g) <;> rw [h2] at hok hse
      · rw [hok] at hps
        simp -implicitDefEqProofs only [go_sem, Nat.reduceBEq, Nat.reduceAdd, eq_self, true_and, and_true, and_self, List.getElem?_cons_zero, List.getElem?_cons_succ, Nat.reduceLeDiff, Nat.zero_add, Nat.reduceSub, Nat.le_refl, hget, spC, hse, Bool.not_false, hwy, cgC]
        refine ⟨⟨by omega, hib⟩, f4, ⟨by omega, hib⟩, f4, ?_⟩
        refine call_at (put01_ok (s := s) f5 (by omega)) ?_
        rintro w2 t2 ⟨p1, p2, p3⟩
        refine ⟨kept_none, ?_⟩
        simp -implicitDefEqProofs only [go_sem, Nat.reduceBEq, Nat.reduceAdd, eq_self, true_and, and_true, and_self, List.getElem?_cons_zero, List.getElem?_cons_succ, Nat.reduceLeDiff, Nat.zero_add, Nat.reduceSub, Nat.le_refl, hwy]
        refine z1 (y + 1, w2) _ _ (.inr ?_) (by simp only; omega) ⟨by simp only; omega, f2.trans p2, p3.trans f3, p2.live _ f4, by simp only [hps]; exact p1⟩
        simp -implicitDefEqProofs only [go_sem, Nat.reduceBEq, Nat.reduceAdd, eq_self, true_and, and_true, and_self, List.getElem?_cons_zero, List.getElem?_cons_succ, Nat.reduceLeDiff, Nat.zero_add, Nat.reduceSub, Nat.le_refl, cgC]
        try exact rfl
      · rw [hok] at hps
        simp -implicitDefEqProofs only [go_sem, Nat.reduceBEq, Nat.reduceAdd, eq_self, true_and, and_true, and_self, List.getElem?_cons_zero, List.getElem?_cons_succ, Nat.reduceLeDiff, Nat.zero_add, Nat.reduceSub, Nat.le_refl, hget, spC, hse, Bool.not_true, hwy, cgC]
        refine ⟨⟨by omega, hib⟩, f4, ?_⟩
        refine z1 (y + 1, w) _ _ (.inr ?_) (by simp only; omega) ⟨by simp only; omega, f2, f3, f4, by simp only [hps]; exact f5⟩
        simp -implicitDefEqProofs only [go_sem, Nat.reduceBEq, Nat.reduceAdd, eq_self, true_and, and_true, and_self, List.getElem?_cons_zero, List.getElem?_cons_succ, Nat.reduceLeDiff, Nat.zero_add, Nat.reduceSub, Nat.le_refl, cgC]
        try exact rfl
  · have hi : ¬ y < 3 := by have := of_decide_eq_false hcc; rw [hA] at this; omega
    rw [List.take_of_length_le (by omega)] at f5
    have hpl := putsN_len g (baseN g)
    simp -implicitDefEqProofs only [go_sem, Nat.reduceBEq, Nat.reduceAdd, eq_self, true_and, and_true, and_self, List.getElem?_cons_zero, List.getElem?_cons_succ, Nat.reduceLeDiff, Nat.zero_add, Nat.reduceSub, Nat.le_refl, Nat.lt_irrefl]
    refine z2 _ _ _ ?_
    simp -implicitDefEqProofs only [go_sem, Nat.reduceBEq, Nat.reduceAdd, eq_self, true_and, and_true, and_self, List.getElem?_cons_zero, List.getElem?_cons_succ, Nat.reduceLeDiff, Nat.zero_add, Nat.reduceSub, Nat.le_refl, Nat.lt_irrefl]
    refine q2 _ _ ?_
    simp -implicitDefEqProofs only [go_sem, Nat.reduceBEq, Nat.reduceAdd, eq_self, true_and, and_true, and_self, List.getElem?_cons_zero, List.getElem?_cons_succ, Nat.reduceLeDiff, Nat.zero_add, Nat.reduceSub, Nat.le_refl, Nat.lt_irrefl]
    exact ⟨⟨_, f5, putsN_is g, by omega⟩, f2, f3⟩
end
end Go.VL.opl

namespace Go.VL.opl
open Go Go.VL Go.Proofs
/-- (*topiary/oplog.Log).Add: 2 parameters, 90 slots. -/
def d14 : C :=
  .seq (.ops [⟨none, .bxL 3 (.t 1)⟩,
    ⟨none, .mv 4 (.c (.int .i64 0))⟩])
  (.seq (.seq (.ops [⟨none, .ld 11 (.t 3) 13 true⟩,
    ⟨none, .ca (some 12) 47 [(.t 11)]⟩,
    ⟨none, .mv 5 (.t 12)⟩])
  (.seq (.ops [⟨none, .mv 13 (.t 5)⟩,
    ⟨none, .bi 14 .neq (.t 13) (.c (.int .i64 0))⟩])
  (.cond (.t 14) (.seq (.ops [⟨none, .mv 15 (.t 5)⟩,
      ⟨none, .mv 4 (.t 15)⟩])
    (.ret))
    (.skip))))
  (.seq (.ops [⟨none, .mv 16 (.t 0)⟩,
    ⟨none, .mv 6 (.t 16)⟩])
  (.cut (.seq (.ops [⟨none, .mv 17 (.t 0)⟩,
    ⟨none, .bq 18 false .ptr (.t 17) (.c (.ptr none))⟩])
  (.cond (.t 18) (.ops [⟨none, .bld 19 [.int .i64 0, .sl true .pub 0 [], .map none, .sl true .pub 0 [], .sl true .pub 0 [], .sl true .pub 0 [], .sl true .pub 0 [], .sl true .pub 0 [], .sl true .pub 0 [], .sl true .pub 0 [], .sl true .pub 0 [], .sl true .pub 0 [], .sl true .pub 0 [], .sl true .pub 0 [], .sl true .pub 0 [], .sl true .pub 0 [], .sl true .pub 0 [], .sl true .pub 0 [], .sl true .pub 0 [], .sl true .pub 0 [], .sl true .pub 0 [], .sl true .pub 0 [], .sl true .pub 0 [], .sl true .pub 0 [], .sl true .pub 0 [], .sl true .pub 0 [], .sl true .pub 0 [], .sl true .pub 0 [], .sl true .pub 0 [], .sl true .pub 0 [], .sl true .pub 0 [], .sl true .pub 0 [], .sl true .pub 0 [], .sl true .pub 0 [], .sl true .pub 0 [], .sl true .pub 0 [], .sl true .pub 0 [], .sl true .pub 0 [], .sl true .pub 0 [], .sl true .pub 0 [], .sl true .pub 0 [], .sl true .pub 0 [], .sl true .pub 0 [], .sl true .pub 0 [], .sl true .pub 0 [], .sl true .pub 0 [], .sl true .pub 0 [], .sl true .pub 0 [], .sl true .pub 0 [], .sl true .pub 0 [], .sl true .pub 0 [], .sl true .pub 0 [], .sl true .pub 0 [], .sl true .pub 0 [], .sl true .pub 0 [], .sl true .pub 0 [], .sl true .pub 0 [], .sl true .pub 0 [], .sl true .pub 0 [], .sl true .pub 0 [], .sl true .pub 0 [], .sl true .pub 0 [], .sl true .pub 0 [], .sl true .pub 0 [], .sl true .pub 0 [], .sl true .pub 0 [], .sl true .pub 0 []] []⟩,
      ⟨none, .bxH 20 (.t 19)⟩,
      ⟨none, .mv 6 (.t 20)⟩])
    (.skip)))
  (.seq (.seq (.ops [⟨none, .mv 21 (.t 6)⟩,
    ⟨none, .ld 22 (.t 3) 13 true⟩,
    ⟨none, .ca (some 23) 48 [(.t 21), (.t 22)]⟩,
    ⟨none, .mv 7 (.t 23)⟩])
  (.seq (.ops [⟨none, .mv 24 (.t 7)⟩,
    ⟨none, .bi 25 .neq (.t 24) (.c (.int .i64 0))⟩])
  (.cond (.t 25) (.seq (.ops [⟨none, .mv 26 (.t 7)⟩,
      ⟨none, .mv 4 (.t 26)⟩])
    (.ret))
    (.skip))))
  (.seq (.seq (.ops [⟨none, .mv 27 (.t 6)⟩,
    ⟨none, .ld 28 (.t 3) 13 true⟩,
    ⟨none, .ca (some 29) 49 [(.t 27), (.t 28)]⟩,
    ⟨none, .mv 8 (.t 29)⟩])
  (.seq (.ops [⟨none, .mv 30 (.t 8)⟩,
    ⟨none, .bi 31 .neq (.t 30) (.c (.int .i64 0))⟩])
  (.cond (.t 31) (.seq (.ops [⟨none, .mv 32 (.t 8)⟩,
      ⟨none, .mv 4 (.t 32)⟩])
    (.ret))
    (.skip))))
  (.seq (.seq (.opsD [⟨none, .mv 33 (.t 6)⟩,
    ⟨none, .nc 34 (.t 33)⟩,
    ⟨none, .fa 35 (.t 34) 1⟩,
    ⟨none, .ld 36 (.t 35) 1 false⟩,
    ⟨none, .ln 37 .sl (.t 36)⟩,
    ⟨none, .mv 38 (.t 6)⟩,
    ⟨none, .nc 39 (.t 38)⟩,
    ⟨none, .fa 40 (.t 39) 0⟩,
    ⟨none, .ld 41 (.t 40) 1 false⟩,
    ⟨none, .bi 42 .geq (.t 37) (.t 41)⟩])
  (.cond (.t 42) (.seq (.ops [⟨none, .mv 4 (.c (.int .i64 6))⟩])
    (.ret))
    (.skip)))
  (.seq (.ops [⟨none, .mv 44 (.t 6)⟩,
    ⟨none, .fa 45 (.t 3) 0⟩,
    ⟨none, .ld 46 (.t 45) 2 true⟩,
    ⟨none, .ca (some 47) 50 [(.t 44), (.t 46)]⟩,
    ⟨none, .mv 43 (.t 47)⟩,
    ⟨none, .ex 48 (.t 43) 0⟩,
    ⟨none, .ex 49 (.t 43) 1⟩,
    ⟨none, .mv 9 (.t 48)⟩,
    ⟨none, .mv 10 (.t 49)⟩])
  (.seq (.opsD [⟨none, .mv 50 (.t 6)⟩,
    ⟨none, .mv 51 (.t 6)⟩,
    ⟨none, .nc 52 (.t 51)⟩,
    ⟨none, .fa 53 (.t 52) 1⟩,
    ⟨none, .ld 54 (.t 53) 1 false⟩,
    ⟨none, .mv 55 (.t 9)⟩,
    ⟨none, .ld 56 (.t 3) 13 true⟩,
    ⟨none, .ca (some 57) 45 [(.t 56)]⟩,
    ⟨none, .lit 58 13 [(.t 57)]⟩,
    ⟨none, .ca (some 59) 51 [(.t 54), (.t 55), (.t 58)]⟩,
    ⟨none, .nc 60 (.t 50)⟩,
    ⟨none, .fa 61 (.t 60) 1⟩,
    ⟨none, .st (.t 61) (.t 59) 1⟩])
  (.seq (.opsD [⟨none, .mv 62 (.t 6)⟩,
    ⟨none, .nc 63 (.t 62)⟩,
    ⟨none, .fa 64 (.t 63) 2⟩,
    ⟨none, .ld 65 (.t 64) 1 false⟩,
    ⟨none, .fa 66 (.t 3) 0⟩,
    ⟨none, .ld 67 (.t 66) 2 true⟩,
    ⟨none, .fa 68 (.t 3) 2⟩,
    ⟨none, .ld 69 (.t 68) 1 false⟩,
    ⟨none, .bld 70 [.int .i64 0] [(0, 1, (.t 69))]⟩,
    ⟨none, .mu [.agg, .int .i64, .int .i64] (.t 65) (.t 67) (.t 70)⟩])
  (.seq (.opsD [⟨none, .mv 71 (.t 6)⟩,
    ⟨none, .fa 72 (.t 3) 0⟩,
    ⟨none, .fa 73 (.t 72) 1⟩,
    ⟨none, .ld 74 (.t 73) 1 false⟩,
    ⟨none, .mv 75 (.t 6)⟩,
    ⟨none, .fa 76 (.t 3) 0⟩,
    ⟨none, .fa 77 (.t 76) 1⟩,
    ⟨none, .ld 78 (.t 77) 1 false⟩,
    ⟨none, .nc 79 (.t 75)⟩,
    ⟨none, .fa 80 (.t 79) 3⟩,
    ⟨none, .iA 81 (.t 80) (.t 78) 1 64⟩,
    ⟨none, .ld 82 (.t 81) 1 false⟩,
    ⟨none, .fa 83 (.t 3) 0⟩,
    ⟨none, .ld 84 (.t 83) 2 true⟩,
    ⟨none, .nc 87 (.t 71)⟩,
    ⟨none, .fa 88 (.t 87) 3⟩,
    ⟨none, .lit 85 2 [(.t 84)]⟩,
    ⟨none, .ao 86 2 true (.t 82) (.t 85)⟩,
    ⟨none, .iA 89 (.t 88) (.t 74) 1 64⟩,
    ⟨none, .st (.t 89) (.t 86) 1⟩])
  (.seq (.ops [⟨none, .mv 4 (.c (.int .i64 0))⟩])
  (.ret))))))))))))
theorem dcomp14 : compFn Try.prog [3, 5000086] Try.f14 = some ([.t 4], d14) := by kernel_rfl
/-- (*topiary/oplog.Log).Clone: 1 parameters, 71 slots. -/
def d41 : C :=
  .seq (.ops [⟨none, .mv 2 (.c (.ptr none))⟩])
  (.seq (.seq (.ops [⟨none, .mv 8 (.t 0)⟩,
    ⟨none, .bq 9 false .ptr (.t 8) (.c (.ptr none))⟩])
  (.cond (.t 9) (.seq (.ops [⟨none, .mv 2 (.c (.ptr none))⟩])
    (.ret))
    (.skip)))
  (.seq (.ops [⟨none, .mv 11 (.t 0)⟩,
    ⟨none, .nc 12 (.t 11)⟩,
    ⟨none, .fa 13 (.t 12) 0⟩,
    ⟨none, .ld 14 (.t 13) 1 false⟩,
    ⟨none, .ca (some 15) 24 [(.t 14)]⟩,
    ⟨none, .mv 10 (.t 15)⟩,
    ⟨none, .ex 16 (.t 10) 0⟩,
    ⟨none, .ex 17 (.t 10) 1⟩,
    ⟨none, .mv 3 (.t 16)⟩,
    ⟨none, .mv 4 (.t 17)⟩])
  (.seq (.seq (.ops [⟨none, .mv 18 (.t 0)⟩,
    ⟨none, .nc 19 (.t 18)⟩,
    ⟨none, .fa 20 (.t 19) 1⟩,
    ⟨none, .ld 21 (.t 20) 1 false⟩,
    ⟨none, .ln 22 .sl (.t 21)⟩,
    ⟨none, .mv 23 (.c (.int .i64 0))⟩])
  (.block 0 (.loop (.seq (.ops [⟨none, .bi 24 .lss (.t 23) (.t 22)⟩])
  (.seq (.cond (.t 24) (.skip)
    (.exit 0))
  (.seq (.block 1 (.seq (.ops [⟨none, .ia 25 (.t 21) (.t 23) 13⟩,
    ⟨none, .ld 26 (.t 25) 13 true⟩,
    ⟨none, .alL 6 [.int .i64 0, .int .i64 0, .int .i64 0, .sl true .pub 0 [], .int .i64 0, .int .i64 0, .int .i64 0, .int .i64 0, .int .i64 0, .int .i64 0, .int .i64 0, .str [], .str []]⟩,
    ⟨none, .st (.t 6) (.t 26) 13⟩])
  (.seq (.opsD [⟨none, .mv 27 (.t 3)⟩,
    ⟨none, .mv 28 (.t 3)⟩,
    ⟨none, .nc 29 (.t 28)⟩,
    ⟨none, .fa 30 (.t 29) 1⟩,
    ⟨none, .ld 31 (.t 30) 1 false⟩,
    ⟨none, .ld 32 (.t 6) 13 true⟩,
    ⟨none, .ca (some 33) 45 [(.t 32)]⟩,
    ⟨none, .lit 34 13 [(.t 33)]⟩,
    ⟨none, .ao 35 13 true (.t 31) (.t 34)⟩,
    ⟨none, .nc 36 (.t 27)⟩,
    ⟨none, .fa 37 (.t 36) 1⟩,
    ⟨none, .st (.t 37) (.t 35) 1⟩])
  (.opsD [⟨none, .mv 38 (.t 3)⟩,
    ⟨none, .nc 39 (.t 38)⟩,
    ⟨none, .fa 40 (.t 39) 2⟩,
    ⟨none, .ld 41 (.t 40) 1 false⟩,
    ⟨none, .fa 42 (.t 6) 0⟩,
    ⟨none, .ld 43 (.t 42) 2 true⟩,
    ⟨none, .fa 44 (.t 6) 2⟩,
    ⟨none, .ld 45 (.t 44) 1 false⟩,
    ⟨none, .bld 46 [.int .i64 0] [(0, 1, (.t 45))]⟩,
    ⟨none, .mu [.agg, .int .i64, .int .i64] (.t 41) (.t 43) (.t 46)⟩]))))
  (.ops [⟨none, .bi 47 .add (.t 23) (.c (.int .i64 1))⟩,
    ⟨none, .mv 23 (.t 47)⟩])))))))
  (.seq (.seq (.ops [⟨none, .mv 48 (.c (.int .i64 0))⟩])
  (.block 2 (.loop (.seq (.ops [⟨none, .bi 49 .lss (.t 48) (.c (.int .i64 64))⟩])
  (.seq (.cond (.t 49) (.skip)
    (.exit 2))
  (.seq (.block 3 (.seq (.ops [⟨none, .mv 50 (.t 48)⟩,
    ⟨none, .mv 7 (.t 50)⟩])
  (.opsD [⟨none, .mv 51 (.t 3)⟩,
    ⟨none, .mv 52 (.t 7)⟩,
    ⟨none, .mv 53 (.t 3)⟩,
    ⟨none, .mv 54 (.t 7)⟩,
    ⟨none, .nc 55 (.t 53)⟩,
    ⟨none, .fa 56 (.t 55) 3⟩,
    ⟨none, .iA 57 (.t 56) (.t 54) 1 64⟩,
    ⟨none, .ld 58 (.t 57) 1 false⟩,
    ⟨none, .mv 59 (.t 0)⟩,
    ⟨none, .mv 60 (.t 7)⟩,
    ⟨none, .nc 61 (.t 59)⟩,
    ⟨none, .fa 62 (.t 61) 3⟩,
    ⟨none, .iA 63 (.t 62) (.t 60) 1 64⟩,
    ⟨none, .ld 64 (.t 63) 1 false⟩,
    ⟨none, .nc 66 (.t 51)⟩,
    ⟨none, .fa 67 (.t 66) 3⟩,
    ⟨none, .ao 65 2 true (.t 58) (.t 64)⟩,
    ⟨none, .iA 68 (.t 67) (.t 52) 1 64⟩,
    ⟨none, .st (.t 68) (.t 65) 1⟩])))
  (.ops [⟨none, .bi 69 .add (.t 48) (.c (.int .i64 1))⟩,
    ⟨none, .mv 48 (.t 69)⟩])))))))
  (.seq (.ops [⟨none, .mv 70 (.t 3)⟩,
    ⟨none, .mv 2 (.t 70)⟩])
  (.ret))))))
theorem dcomp41 : compFn Try.prog [6, 5000035, 5000065] Try.f41 = some ([.t 2], d41) := by kernel_rfl
end Go.VL.opl

namespace Go.Proofs
open Go.Shelf Go.RowKit Go.Lib

/-- ALL IS READ BEFORE ANYTHING IS WRITTEN; elements of k cells. -/
theorem run_copyK {P : Program} (w : World) (dT sT ty elem : TypeId) (b o dLen dCap : Nat) (a : Addr) (sLen sCap k : Nat) (cs : List Value)
    (hu : P.underlying dT = some (.slice elem)) (hs : ∀ w, (Go.sizeOf elem).run P w = .ok k w) (hn : cs.length = Nat.min sLen dLen * k)
    (hsrc : ∀ j v, cs[j]? = some v → w.cell? (a.add j) = some v) (hc : ∀ j, j < cs.length → (w.cell? ⟨b, o + j, none⟩).isSome = true) (hf : ∀ j, j < cs.length → w.frozen? ⟨b, o + j, none⟩ = false) (h1 : ∀ v ∈ cs, v.oneCell' = true) :
    (Builtin.copy_ #[dT, sT] ty #[.slice (some ⟨b, o, none⟩) dLen dCap, .slice (some a) sLen sCap]).run P w = .ok (goInt (Nat.min sLen dLen)) (w.setCells b o cs) := by
  have hl := run_loadCells_list (P := P) w a cs hsrc
  have hst := run_storeCells_cells (P := P) b o cs 0 w (by simpa using hc) (by simpa using hf) h1
  simp [Builtin.copy_, run_underlying hu, Builtin.lenOf, Builtin.firstCells, hs, ← hn, hl, hst]

set_option maxHeartbeats 4000000 in
set_option maxRecDepth 100000 in
theorem insShift (b off n c i vb voff m vc : Nat) (cs vs : List Value) (w : World) (hi : i < n) (hm : 0 < m) (hroom : n + m ≤ c) (hc63 : c ≤ 9223372036854775807) (hvb : vb ≠ b)
    (hcl : cs.length = n * 13) (hvl : vs.length = m * 13)
    (hcs : ∀ j v, cs[j]? = some v → w.cell? ⟨b, off + j, none⟩ = some v) (hsp : ∀ j, j < (n + m) * 13 → (w.cell? ⟨b, off + j, none⟩).isSome = true) (hfz : ∀ j, j < (n + m) * 13 → w.frozen? ⟨b, off + j, none⟩ = false)
    (hvs : ∀ j v, vs[j]? = some v → w.cell? ⟨vb, voff + j, none⟩ = some v) (h1c : ∀ v ∈ cs, v.oneCell' = true) (h1v : ∀ v ∈ vs, v.oneCell' = true)
    (tA tB : TypeId) (kA kB : Nat) (hsa : w.shape? vb = some (tA, kA)) (hsb : w.shape? b = some (tB, kB)) (hkB : kB ≠ 0) (hfa : w.frozen? ⟨vb, voff, none⟩ = false) (hfe : w.frozen? ⟨vb, kA, none⟩ = false) :
    Calls Try.prog 51 #[.slice (some ⟨b, off, none⟩) n c, .int .i64 i, .slice (some ⟨vb, voff, none⟩) m vc] w fun e w' =>
      e = .returned (.slice (some ⟨b, off, none⟩) (n + m) c) ∧ w' = (w.drew.setCells b (off + (i + m) * 13) (cs.drop (i * 13))).setCells b (off + i * 13) vs := by
  have hz1 : ¬ ((m : Int) = 0) := by omega
  have hz2 : ¬ ((i : Int) = (n : Int)) := by omega
  have hov : ∀ lb cb, (callFunc 78 #[.slice (some ⟨vb, voff, none⟩) m vc, .slice (some ⟨b, off + (i + m) * 13, none⟩) lb cb]).run Try.prog w = .ok (.value (.bool false)) w := fun lb cb => by
    rw [run_callFunc_extern Try.func78 (by kernel_rfl) (by kernel_rfl) (by kernel_rfl) (e := Extern.SlicesOverlaps.overlaps #[22, 22] #[4]) (by kernel_rfl),
      Lib.run_overlaps_apart w 22 4 37 Try.underlying22 13 Try.sizeOf37 ⟨vb, voff, none⟩ ⟨b, off + (i + m) * 13, none⟩ m vc lb cb hvb tA tB kA kB hsa hsb hkB hfa hfe]
    rfl
  have hdl : (cs.drop (i * 13)).length = (n - i) * 13 := by rw [List.length_drop, hcl]; omega
  have mixed : Try.prog.follows .mixedOrders = true := by kernel_rfl
  have hw1 : IntKind.i64.wrap ((i : Int) + (m : Int)) = (i : Int) + (m : Int) := by rw [IntKind.wrap_i64]; omega
  have hb1 : (0 : Int) ≤ (i : Int) + (m : Int) := by omega
  have hin : i ≤ n := by omega
  have htn : ((i : Int) + (m : Int)).toNat = i + m := by omega
  have hb2 : ¬ (c = i + m) := by omega
  have hb3 : (i : Int) ≤ (n : Int) + (m : Int) := by omega
  have hb4 : ¬ (c = i) := by omega
  have hcp1 : ∀ ty dc sc, (Builtin.copy_ #[22, 22] ty #[.slice (some ⟨b, off + (i + m) * 13, none⟩) (n + m - (i + m)) dc, .slice (some ⟨b, off + i * 13, none⟩) (n + m - i) sc]).run Try.prog w.drew = .ok (goInt (n - i : Nat)) (w.drew.setCells b (off + (i + m) * 13) (cs.drop (i * 13))) := fun ty dc sc => by
    have := run_copyK (P := Try.prog) w.drew 22 22 ty 37 b (off + (i + m) * 13) (n + m - (i + m)) dc ⟨b, off + i * 13, none⟩ (n + m - i) sc 13 (cs.drop (i * 13)) Try.underlying22 Try.sizeOf37 (by rw [hdl]; simp only [Nat.min_def]; split <;> omega)
      (fun j v hj => by rw [Addr.add_lit, Nat.add_assoc]; exact hcs (i * 13 + j) v (by rwa [List.getElem?_drop] at hj))
      (fun j hj => by rw [Nat.add_assoc]; exact hsp _ (by omega)) (fun j hj => by rw [Nat.add_assoc]; exact hfz _ (by omega)) (fun v hv => h1c v (List.mem_of_mem_drop hv))
    rw [this]
    congr 2
    simp only [Nat.min_def]; split <;> omega
  obtain ⟨W1, hW1⟩ : ∃ W1, W1 = w.drew.setCells b (off + (i + m) * 13) (cs.drop (i * 13)) := ⟨_, rfl⟩
  have hsp1 : ∀ k, k < (n + m) * 13 → (W1.cell? ⟨b, off + k, none⟩).isSome = true := fun k hk => by
    rw [hW1]
    exact isSome_setCells b _ _ _ (fun j hj => by rw [Nat.add_assoc]; exact hsp _ (by omega)) _ (hsp k hk)
  have hcp2 : ∀ (W : World), (∀ x, W.cell? x = W1.cell? x) → (∀ x, W.frozen? x = W1.frozen? x) → ∀ ty dc, (Builtin.copy_ #[22, 22] ty #[.slice (some ⟨b, off + i * 13, none⟩) (n + m - i) dc, .slice (some ⟨vb, voff, none⟩) m vc]).run Try.prog W = .ok (goInt (m : Nat)) (W.setCells b (off + i * 13) vs) := fun W hWc hWf ty dc => by
    have := run_copyK (P := Try.prog) W 22 22 ty 37 b (off + i * 13) (n + m - i) dc ⟨vb, voff, none⟩ m vc 13 vs Try.underlying22 Try.sizeOf37 (by rw [hvl]; simp only [Nat.min_def]; split <;> omega)
      (fun j v hj => by
        rw [Addr.add_lit, hWc, hW1, World.cell?_setCells_out b _ _ _ _ (fun h _ => absurd h hvb)]
        exact hvs j v hj)
      (fun j hj => by rw [hWc, Nat.add_assoc]; exact hsp1 _ (by omega)) (fun j hj => by rw [hWf, hW1, World.frozen?_setCells, Nat.add_assoc]; exact hfz _ (by omega)) h1v
    rw [this]
    congr 2
    simp only [Nat.min_def]; split <;> omega
  rw [← hW1] at hcp1
  go_enter Try.func51, Try.ntmps51
  go_wp2_with (simp only [hov])
  go_region_law_o (refine step_copy_runI rfl _ _ 22 22 rfl _ _ (by simp [Act.eval, Act.put]) (by simp [Act.eval, Act.put]) (hcp1 _ _ _) ?_)
  go_wp2_with (at_builtin; refine wpList_copy_runI _ rfl _ _ 22 22 rfl _ _ rfl rfl (hcp2 _ (fun _ => rfl) (fun _ => rfl) _ _) ?_)
  go_ret
  first | exact ⟨rfl, rfl⟩ | exact ⟨rfl, by rw [hW1]⟩

set_option maxHeartbeats 4000000 in
set_option maxRecDepth 100000 in
theorem insGrow (b off n c i vb voff m vc : Nat) (cs vs : List Value) (w : World) (hi : i < n) (hm : 0 < m) (hnc : n ≤ c) (hroom : c < n + m) (hbig : n + m ≤ 1000000000)
    (hcl : cs.length = n * 13) (hvl : vs.length = m * 13)
    (hcs : ∀ j v, cs[j]? = some v → w.cell? ⟨b, off + j, none⟩ = some v)
    (hvs : ∀ j v, vs[j]? = some v → w.cell? ⟨vb, voff + j, none⟩ = some v) (h1c : ∀ v ∈ cs, v.oneCell' = true) (h1v : ∀ v ∈ vs, v.oneCell' = true) (zv : Value) (hzv : Try.t37.zero = some zv) :
    Calls Try.prog 51 #[.slice (some ⟨b, off, none⟩) n c, .int .i64 i, .slice (some ⟨vb, voff, none⟩) m vc] w fun e w' =>
      e = .returned (.slice (some ⟨w.heap.size, 0, none⟩) (n + m) (grownCap w (n + m) c 37)) ∧
      w' = (((w.alloc (.cells ((cs.take (i * 13)).toArray ++ Builtin.zeroCells zv.cells (n + m - i) ++ Builtin.zeroCells zv.cells (grownCap w (n + m) c 37 - (n + m))) 37)).drew.setCells w.heap.size (i * 13) vs).drew).setCells w.heap.size ((i + m) * 13) (cs.drop (i * 13)) := by
  have mixed : Try.prog.follows .mixedOrders = true := by kernel_rfl
  obtain ⟨i0, hi0, hz0, hzs, hzb⟩ : ∃ i0, Try.prog.info? 37 = some i0 ∧ i0.zero = some zv ∧ i0.size = 13 ∧ i0.bytes = 136 := ⟨Try.t37, by kernel_rfl, hzv, by kernel_rfl, by kernel_rfl⟩
  have hz1 : ¬ ((m : Int) = 0) := by omega
  have hz2 : ¬ ((i : Int) = (n : Int)) := by omega
  have hz3 : (c : Int) < (n : Int) + (m : Int) := by omega
  have hbw : b < w.heap.size := block_lt_of_cell (hcs 0 _ (List.getElem?_eq_getElem (by omega)))
  have hvw : vb < w.heap.size := block_lt_of_cell (hvs 0 _ (List.getElem?_eq_getElem (by omega)))
  have hkk : (n : Int) + (m : Int) - (i : Int) = ((n + m - i : Nat) : Int) := by omega
  have hik : i + (n + m - i) = n + m := by omega
  have hold : (Builtin.firstCells i0.size i (.slice (some ⟨b, off, none⟩) i c)).run Try.prog w.drew = .ok (cs.take (i * 13)).toArray w.drew := by
    rw [hzs]
    exact run_firstCells_some w.drew 13 i ⟨b, off, none⟩ i c (cs.take (i * 13)) (by rw [List.length_take]; omega) (fun j v hj => by
      rw [Addr.add_lit]
      rw [List.getElem?_take] at hj
      split at hj
      · exact hcs j v hj
      · cases hj)
  have hrz : ∀ ty, (Builtin.append_ #[22, 3] ty #[.slice (some ⟨b, off, none⟩) i c, .int .i64 ((n : Int) + (m : Int) - (i : Int))]).run Try.prog w =
      .ok (.slice (some ⟨w.heap.size, 0, none⟩) (n + m) (grownCap w (n + m) c 37)) (w.drew.alloc (.cells ((cs.take (i * 13)).toArray ++ Builtin.zeroCells zv.cells (n + m - i) ++ Builtin.zeroCells zv.cells (grownCap w (n + m) c 37 - (n + m))) 37)) := fun ty => by
    have h := Lib.run_append_grow_zeros w 22 3 ty 37 i0 _ .i64 .i64 Try.underlying22 Try.underlying3 hi0 hz0 (some ⟨b, off, none⟩) i c (cs.take (i * 13)) hold (n + m - i) (by omega) (by omega) (by omega) (by omega) (by rw [hzb]; omega) (by
      rw [hzb, hik]
      have := Go.VL.nextcap_le (n + m) c hroom
      omega)
    rw [hik] at h
    rw [hkk]
    exact h
  obtain ⟨G, hG⟩ : ∃ G, G = grownCap w (n + m) c 37 := ⟨_, rfl⟩
  obtain ⟨ROW, hROW⟩ : ∃ ROW : Array Value, ROW = (cs.take (i * 13)).toArray ++ Builtin.zeroCells zv.cells (n + m - i) ++ Builtin.zeroCells zv.cells (G - (n + m)) := ⟨_, rfl⟩
  rw [← hG] at hrz ⊢
  rw [← hROW] at hrz ⊢
  have hzc : zv.cells.size = 13 := by
    have : Try.t37.zero = some zv → zv.cells.size = 13 := by
      intro h
      have h2 : (Try.t37.zero.map fun z => z.cells.size) = some 13 := by kernel_rfl
      rw [h] at h2
      simpa using h2
    exact this hzv
  have hRl : (n + m) * 13 ≤ ROW.size := by
    rw [hROW]
    simp only [Array.size_append, List.size_toArray, List.length_take, Go.VL.zeroCells_size, hzc]
    omega
  obtain ⟨W1, hW1⟩ : ∃ W1, W1 = w.drew.alloc (.cells ROW 37) := ⟨_, rfl⟩
  rw [← hW1] at hrz
  have hN : ∀ j, j < (n + m) * 13 → (W1.cell? ⟨w.heap.size, j, none⟩).isSome = true := fun j hj => by
    rw [hW1, World.cell?_alloc_at (w := w.drew) ROW _ w.heap.size j rfl, Array.getElem?_eq_getElem (by omega)]; rfl
  have hNf : ∀ j, W1.frozen? ⟨w.heap.size, j, none⟩ = false := fun j => by rw [hW1]; exact World.frozen?_alloc_at (w := w.drew) ROW _ w.heap.size j rfl
  have hOb : ∀ j v, w.cell? ⟨b, j, none⟩ = some v → W1.cell? ⟨b, j, none⟩ = some v := fun j v h => by rw [hW1, World.cell?_alloc_past (w := w.drew) _ b j hbw]; exact h
  have hOv : ∀ j v, w.cell? ⟨vb, j, none⟩ = some v → W1.cell? ⟨vb, j, none⟩ = some v := fun j v h => by rw [hW1, World.cell?_alloc_past (w := w.drew) _ vb j hvw]; exact h
  have hcpA : ∀ (W : World), (∀ x, W.cell? x = W1.cell? x) → (∀ x, W.frozen? x = W1.frozen? x) → ∀ ty dc, (Builtin.copy_ #[22, 22] ty #[.slice (some ⟨w.heap.size, i * 13, none⟩) (n + m - i) dc, .slice (some ⟨vb, voff, none⟩) m vc]).run Try.prog W = .ok (goInt (m : Nat)) (W.setCells w.heap.size (i * 13) vs) := fun W hWc hWf ty dc => by
    have := run_copyK (P := Try.prog) W 22 22 ty 37 w.heap.size (i * 13) (n + m - i) dc ⟨vb, voff, none⟩ m vc 13 vs Try.underlying22 Try.sizeOf37 (by rw [hvl]; simp only [Nat.min_def]; split <;> omega)
      (fun j v hj => by rw [Addr.add_lit, hWc]; exact hOv _ v (hvs j v hj))
      (fun j hj => by rw [hWc]; exact hN _ (by omega)) (fun j hj => by rw [hWf]; exact hNf _) h1v
    rw [this]
    congr 2
    simp only [Nat.min_def]; split <;> omega
  have hGn : n + m ≤ G := by rw [hG]; exact grownCap_ge w _ _ _
  have hG63 : G ≤ 9223372036854775807 := by
    have := grownCap_le_maxLen w (n + m) c 37 (by unfold maxLen; omega)
    rw [← hG] at this
    unfold maxLen at this
    omega
  have hGi : ¬ (G = i) := by omega
  have hGim : ¬ (G = i + m) := by omega
  have hci : ¬ (c = i) := by omega
  have hbN : b ≠ w.heap.size := by omega
  have hdl : (cs.drop (i * 13)).length = (n - i) * 13 := by rw [List.length_drop, hcl]; omega
  have hcpB : ∀ (W : World), (∀ x, W.cell? x = (W1.setCells w.heap.size (i * 13) vs).cell? x) → (∀ x, W.frozen? x = (W1.setCells w.heap.size (i * 13) vs).frozen? x) → ∀ ty dc sc, (Builtin.copy_ #[22, 22] ty #[.slice (some ⟨w.heap.size, (i + m) * 13, none⟩) (n + m - (i + m)) dc, .slice (some ⟨b, off + i * 13, none⟩) (n - i) sc]).run Try.prog W = .ok (goInt (n - i : Nat)) (W.setCells w.heap.size ((i + m) * 13) (cs.drop (i * 13))) := fun W hWc hWf ty dc sc => by
    have := run_copyK (P := Try.prog) W 22 22 ty 37 w.heap.size ((i + m) * 13) (n + m - (i + m)) dc ⟨b, off + i * 13, none⟩ (n - i) sc 13 (cs.drop (i * 13)) Try.underlying22 Try.sizeOf37 (by rw [hdl]; simp only [Nat.min_def]; split <;> omega)
      (fun j v hj => by
        rw [Addr.add_lit, hWc, World.cell?_setCells_out _ _ _ _ _ (fun h _ => absurd h hbN), Nat.add_assoc]
        exact hOb _ v (hcs (i * 13 + j) v (by rwa [List.getElem?_drop] at hj)))
      (fun j hj => by rw [hWc]; exact isSome_setCells _ _ _ _ (fun t ht => hN _ (by omega)) _ (hN _ (by omega)))
      (fun j hj => by rw [hWf, World.frozen?_setCells]; exact hNf _) (fun v hv => h1c v (List.mem_of_mem_drop hv))
    rw [this]
    congr 2
    simp only [Nat.min_def]; split <;> omega
  subst hW1
  have hE1 : ∀ x, ((w.alloc (.cells ROW 37)).drew).cell? x = (w.drew.alloc (.cells ROW 37)).cell? x := fun x => rfl
  have hE2 : ∀ x, ((w.alloc (.cells ROW 37)).drew).frozen? x = (w.drew.alloc (.cells ROW 37)).frozen? x := fun x => rfl
  have hF1 : ∀ x, (((w.alloc (.cells ROW 37)).drew.setCells w.heap.size (i * 13) vs).drew).cell? x = ((w.drew.alloc (.cells ROW 37)).setCells w.heap.size (i * 13) vs).cell? x := fun x => rfl
  have hF2 : ∀ x, (((w.alloc (.cells ROW 37)).drew.setCells w.heap.size (i * 13) vs).drew).frozen? x = ((w.drew.alloc (.cells ROW 37)).setCells w.heap.size (i * 13) vs).frozen? x := fun x => rfl
  have hw1 : IntKind.i64.wrap ((i : Int) + (m : Int)) = (i : Int) + (m : Int) := by rw [IntKind.wrap_i64]; omega
  have hb1 : (0 : Int) ≤ (i : Int) + (m : Int) := by omega
  have hin : i ≤ n := by omega
  have htn : ((i : Int) + (m : Int)).toNat = i + m := by omega
  have hb3 : (i : Int) ≤ (n : Int) := by omega
  clear hkk hik hold hROW hG hRl
  go_enter Try.func51, Try.ntmps51
  go_wp2_with (first
    | (at_builtin; refine Lib.wpList_append_run _ rfl _ _ _ _ rfl _ _ rfl rfl _ _ (hrz _) ?_)
    | (at_builtin; refine wpList_copy_runI _ rfl _ _ 22 22 rfl _ _ rfl rfl (hcpA _ hE1 hE2 _ _) ?_)
    | (at_builtin; refine wpList_copy_runI _ rfl _ _ 22 22 rfl _ _ rfl rfl (hcpB _ (fun _ => rfl) (fun _ => rfl) _ _ _) ?_))
  go_region_law_o (refine step_copy_runI rfl _ _ 22 22 rfl (.slice (some ⟨w.heap.size, (i + m) * 13, none⟩) (n + m - (i + m)) (G - (i + m))) (.slice (some ⟨b, off + i * 13, none⟩) (n - i) (c - i)) (by simp [Act.eval, Act.put]) (by simp [Act.eval, Act.put]) (hcpB _ hF1 hF2 3 (G - (i + m)) (c - i)) ?_)
  go_wp2
  go_ret
  exact ⟨rfl, rfl⟩
end Go.Proofs

namespace Go.Proofs
open Go.Shelf Go.RowKit Go.Lib Go.VL

section
variable {P : Program} {w : World}
theorem run_appK_room {t ty e : TypeId} {i : TypeInfo} (ht : P.underlying t = some (.slice e)) (hi : P.info? e = some i) {b off n c m : Nat} {y : Value} (hl : (Builtin.lenOf y).run P w = .ok m w)
    {xs : List Value} (hxs : (Builtin.firstCells i.size m y).run P w = .ok xs.toArray w) (hroom : n + m ≤ c) {w' : World} (hst : (storeCells ⟨b, off + n * i.size, none⟩ xs).run P w = .ok () w') :
    (Builtin.append_ #[t, t] ty #[.slice (some ⟨b, off, none⟩) n c, y]).run P w = .ok (.slice (some ⟨b, off, none⟩) (n + m) c) w' := by
  have hsz : szOf P e = some i.size := by simp [szOf, hi]
  simp [Builtin.append_, run_underlying ht, Go.VL.run_sizeOf hsz, hl, hxs, hroom, add_none, hst]
theorem run_appK_grow {t ty e : TypeId} {i : TypeInfo} {zv : Value} (ht : P.underlying t = some (.slice e)) (hi : P.info? e = some i) (hzv : i.zero = some zv) (hbytes : i.bytes ≤ 65536) {base : Option Addr} {n c m : Nat} {y : Value}
    (hl : (Builtin.lenOf y).run P w = .ok m w) {xs os : List Value} (hxs : (Builtin.firstCells i.size m y).run P w.drew = .ok xs.toArray w.drew) (hos : (Builtin.firstCells i.size n (.slice base n c)).run P w.drew = .ok os.toArray w.drew)
    (hroom : ¬ n + m ≤ c) (hbig : n + m ≤ 1073741824) :
    ∃ nc, n + m ≤ nc ∧ nc ≤ 9223372036854775807 ∧ ∀ ty, (Builtin.append_ #[t, t] ty #[.slice base n c, y]).run P w = .ok (.slice (some ⟨w.heap.size, 0, none⟩) (n + m) nc) (pushed w.drew (.cells (os.toArray ++ (xs.toArray ++ Builtin.zeroCells zv.cells (nc - (n + m)))) e)) := by
  have hsz : szOf P e = some i.size := by simp [szOf, hi]
  refine ⟨(Question.appendCap (n + m) c e).cut (w.tape w.drawn (.appendCap (n + m) c e)), by simp only [Question.cut]; omega, ?_, fun ty => ?_⟩
  · have := grownCap_le_maxLen w (n + m) c e (by unfold maxLen; omega)
    unfold grownCap maxLen at this
    exact this
  have hn := nextcap_le (n + m) c (by omega)
  have hb : ¬ (Builtin.nextslicecap (n + m) c * i.bytes > 2 ^ 48) := by
    have : Builtin.nextslicecap (n + m) c * i.bytes ≤ 4294967296 * 65536 := Nat.mul_le_mul (by omega) hbytes
    omega
  have hq : (Question.appendCap (n + m) c e).forced = false := rfl
  simp [Builtin.append_, run_underlying ht, Go.VL.run_sizeOf hsz, hl, hroom, Go.VL.run_typeInfo hi]
  have hm : ¬ (9223372036854775807 < (n : Int) + (m : Int) ∧ i.bytes = 0) := by omega
  have hb' : ¬ (281474976710656 < Builtin.nextslicecap (n + m) c * i.bytes) := by omega
  rw [if_neg hm, if_neg hb', hq]
  simp [hos, hxs, run_zeroValue hi hzv, newRow]
  rfl
end

set_option maxHeartbeats 4000000 in
set_option maxRecDepth 100000 in
theorem insEnd (base : Option Addr) (n c vb voff m vc : Nat) (w w' : World) (v' : Value) (hm : 0 < m) (hrun : ∀ ty, (Builtin.append_ #[22, 22] ty #[.slice base n c, .slice (some ⟨vb, voff, none⟩) m vc]).run Try.prog w = .ok v' w') :
    Calls Try.prog 51 #[.slice base n c, .int .i64 n, .slice (some ⟨vb, voff, none⟩) m vc] w fun e W => e = .returned v' ∧ W = w' := by
  have mixed : Try.prog.follows .mixedOrders = true := by kernel_rfl
  have hz1 : ¬ ((m : Int) = 0) := by omega
  go_enter Try.func51, Try.ntmps51
  cases base with
  | none =>
    go_wp2_with (at_builtin; refine Lib.wpList_append_run _ rfl _ _ _ _ rfl _ _ rfl rfl _ _ (hrun _) ?_)
    go_ret
    exact ⟨rfl, rfl⟩
  | some a =>
    obtain ⟨ab, ao, asp⟩ := a
    go_wp2_with (at_builtin; refine Lib.wpList_append_run _ rfl _ _ _ _ rfl _ _ rfl rfl _ _ (hrun _) ?_)
    all_goals (go_ret; exact ⟨rfl, rfl⟩)
end Go.Proofs

namespace Go.VL.opl
open Go Go.VL Go.Proofs Go.VL.row

section
variable {σ : St} {s : V} {es : List (List V)} {i r : Nat} {x : List V}
set_option maxHeartbeats 1000000 in
theorem ins_ok (hs : RowOf σ s 13 es) (hin : i ≤ es.length) (hlen : es.length ≤ 100000000) (hlive : σ.live[r]? = some true) (hx : x.length = 13) :
    CallA Try.prog 51 [s, .int .i64 i, .sl false (.own r) 13 [x]] σ fun v σ' => RowOf σ' v 13 (es.take i ++ x :: es.drop i) ∧ RowTo σ s σ' ∧ ∃ j cap, v = .osl j (es.length + 1) cap 13 ∧ ((∃ n' cap', s = .osl j n' cap' 13) ∨ σ.objs.length ≤ j) := by
  refine ⟨⟨Try.f51, Try.func51, rfl, by kernel_rfl⟩, fun γ w vs hi hr => ?_⟩
  simp only [RepL] at hr
  obtain ⟨v1, _, rfl, hv1, v2, _, rfl, hv2, v3, _, rfl, hv3, rfl⟩ := hr
  simp only [Rep] at hv2 hv3
  subst hv2
  obtain ⟨a, cap3, rfl, hsp, hcap3, hrho⟩ := hv3
  obtain ⟨vb, voff, sp⟩ := a
  simp only at hsp
  subst hsp
  obtain ⟨a', cap', e0, -, h3, h4, h5, h6, c3, e3, z3, vs3, h7, h8, h9, ⟨h10, h12⟩, h11⟩ := hi.own _ _ _ _ hlive hrho
  cases e0
  simp only [List.length_cons, List.length_nil, Nat.zero_add] at h3 h4 h5 h6 h7 h8 h10 h11 hcap3
  have hvl : vs3.length = 13 := by have := h9.length; simpa using this
  have hx3 : RepL γ x vs3 := by have := h9.flat.1; simpa using this
  have h1v := h9.one
  have hvs : ∀ (j : Nat) (v : Value), vs3[j]? = some v → w.cell? ⟨vb, voff + j, none⟩ = some v := fun j v hj => by rw [cell_of_heap h7]; exact h8 j v hj
  have hfr : ∀ (w' : World), w'.heap = w.heap → (Builtin.firstCells 13 1 (.slice (some ⟨vb, voff, none⟩) 1 cap3)).run Try.prog w' = .ok vs3.toArray w' := fun w' hw' => by
    have hc7 : w'.heap[vb]? = some (.cells c3 e3 z3) := by rw [hw']; exact h7
    simp only [Builtin.firstCells]
    rw [run_loadCells (P := Try.prog) (w := w') (vs := vs3) (fun j v hj => by rw [cell_of_heap hc7]; exact h8 j v hj) (by omega), List.take_of_length_le (by omega)]
  obtain ⟨zv, hzv⟩ : ∃ zv, Try.t37.zero = some zv := Option.isSome_iff_exists.1 (by kernel_rfl)
  have hi71 : Try.prog.info? 37 = some Try.t37 := by kernel_rfl
  have hsz71 : Try.t37.size = 13 := by kernel_rfl
  have hby71 : Try.t37.bytes ≤ 65536 := by decide +kernel
  have hl3 : (Builtin.lenOf (.slice (some ⟨vb, voff, none⟩) 1 cap3)).run Try.prog w = .ok 1 w := by simp [Builtin.lenOf]
  have hzc : zv.cells.size = 13 := by
    have h2 : (Try.t37.zero.map fun z => z.cells.size) = some 13 := by kernel_rfl
    rw [hzv] at h2
    simpa using h2
  -- a new block behind append
  have grow : ∀ (base : Option Addr) (cp : Nat) (os : List Value), i = es.length → (Builtin.firstCells 13 es.length (.slice base es.length cp)).run Try.prog w.drew = .ok os.toArray w.drew → RepL γ es.flatten os → (∀ v ∈ os, v.oneCell' = true) → (∀ y ∈ es, y.length = 13) → ¬ es.length + 1 ≤ cp →
      Calls Try.prog 51 #[.slice base es.length cp, .int .i64 i, .slice (some ⟨vb, voff, none⟩) 1 cap3] w fun e w' => ∃ v x' σ' γ', e = .returned v ∧ Le γ γ' ∧ INV γ' σ' w' ∧ Rep γ' x' v ∧ (RowOf σ' x' 13 (es.take i ++ x :: es.drop i) ∧ RowTo σ s σ' ∧ ∃ j cap, x' = .osl j (es.length + 1) cap 13 ∧ ((∃ n' cap', s = .osl j n' cap' 13) ∨ σ.objs.length ≤ j)) := by
    intro base cp os hie hos hros hone hz hroom
    subst hie
    obtain ⟨nc, hnc, hnc2, hrun⟩ := run_appK_grow (P := Try.prog) (w := w) (t := 22) (ty := 22) Try.underlying22 hi71 hzv hby71 hl3 (by rw [hsz71]; exact hfr _ rfl) (by rw [hsz71]; exact hos) hroom (by omega)
    refine (insEnd base es.length cp vb voff 1 cap3 w _ _ (by omega) hrun).mono ?_
    rintro e w' ⟨rfl, rfl⟩
    have hol := hros.length
    have hfl := flat_len' hz
    have hes : (es.take es.length ++ x :: es.drop es.length).flatten = es.flatten ++ x := by simp
    refine row_new (s := s) hi ((But.drew w).trans (.push w.drew _)) (heap_push w.drew _) (vs := os ++ vs3) (fun j v hj => ?_) (by rw [hes]; exact hros.append hx3) (fun v hv => ?_) ?_ (fun y hy => ?_) (by simp) hnc ?_
    · exact eq_prefix (r := (Builtin.zeroCells zv.cells (nc - (es.length + 1))).toList) (by simp) j v hj
    · rcases List.mem_append.1 hv with hv | hv
      · exact hone v hv
      · exact h1v v hv
    · refine ⟨?_, hnc2⟩
      simp only [Array.size_append, List.size_toArray, zeroCells_size, hzc]
      omega
    · simp only [List.take_length, List.drop_length, List.mem_append, List.mem_singleton] at hy
      rcases hy with hy | hy
      · exact hz y hy
      · rw [hy]; exact hx
    · rw [hes, List.length_append, hfl, hx]; omega
  rcases hs with ⟨R, q, rfl, rfl⟩ | ⟨j, cap, rfl, ho, hz, hcap⟩
  · simp only [Rep] at hv1
    obtain ⟨-, rfl⟩ := hv1
    have hi0 : i = 0 := by simpa using hin
    subst hi0
    exact grow none 0 [] rfl (by simp [Builtin.firstCells]) (by simp [RepL]) (by simp) (by simp) (by simp)
  simp only [Rep] at hv1
  obtain ⟨b, hb, rfl⟩ := hv1
  obtain ⟨p1, p2, vs, c, e, z, k1, k2, k3, k4, k5, k6, k7⟩ := hi.objs _ _ _ hb ho
  have hfl := flat_len' hz
  have hvsl : vs.length = es.length * 13 := by rw [← k3.length, hfl]
  have hold : (Builtin.firstCells 13 es.length (.slice (some ⟨b, 0, none⟩) es.length cap)).run Try.prog w.drew = .ok vs.toArray w.drew := by
    have hc7 : w.drew.heap[b]? = some (.cells c e z) := k1
    simp only [Builtin.firstCells]
    rw [run_loadCells (P := Try.prog) (w := w.drew) (vs := vs) (fun j v hj => by rw [cell_of_heap hc7, Nat.zero_add]; exact k2 j v hj) (by omega), List.take_of_length_le (by omega)]
  by_cases hie : i = es.length
  · by_cases hroom : es.length + 1 ≤ cap
    · subst hie
      obtain ⟨w', r1, r2, c', r3, r4⟩ := run_storeCells (P := Try.prog) vs3 w b (0 + es.length * Try.t37.size) 0 c e z k1 (by rw [hsz71]; omega) (fun q h1 h2 => k6 q (by rw [hsz71] at h2; omega)) h1v
      refine (insEnd (some ⟨b, 0, none⟩) es.length cap vb voff 1 cap3 w _ _ (by omega) fun ty => run_appK_room (P := Try.prog) (ty := ty) Try.underlying22 hi71 hl3 (by rw [hsz71]; exact hfr w rfl) hroom r1).mono ?_
      rintro e' W ⟨rfl, rfl⟩
      have hes : (es.take es.length ++ x :: es.drop es.length).flatten = es.flatten ++ x := by simp
      have hcv := prefix_eq k2
      rw [hsz71, Nat.zero_add, Nat.add_zero, ← hvsl] at r4
      have hpre : c'.toList = (vs ++ vs3) ++ c.toList.drop (vs.length + vs3.length) := by
        rw [r4]
        conv => lhs; rw [hcv]
        simp
        try rw [← hcv]
      have hsize : c'.size = c.size := by
        have := congrArg List.length r4
        simp only [Array.length_toList, List.length_append, List.length_take, List.length_drop] at this
        omega
      have hjl : j < σ.objs.length := (List.getElem?_eq_some_iff.1 ho).1
      refine row_set (n0 := es.length) hi hb hjl r2 r3 (vs := vs ++ vs3) (fun q v hq => eq_prefix hpre q v hq) (by rw [hes]; exact k3.append hx3) (fun v hv => ?_) ⟨by rw [hsize]; exact k4.1, k4.2⟩ k6 (fun y hy => ?_) (by simp) hroom ?_
      · rcases List.mem_append.1 hv with hv | hv
        · exact k7 v hv
        · exact h1v v hv
      · simp only [List.take_length, List.drop_length, List.mem_append, List.mem_singleton] at hy
        rcases hy with hy | hy
        · exact hz y hy
        · rw [hy]; exact hx
      · rw [hes, List.length_append, hfl, hx]; omega
    · exact grow (some ⟨b, 0, none⟩) cap vs hie hold k3 k7 hz hroom
  · have hlt : i < es.length := by omega
    have hbv : vb ≠ b := fun h => h6 (h ▸ mem_of_get hb)
    have hl13 : vs3.length = 1 * 13 := by omega
    have hfes : (es.take i ++ x :: es.drop i).flatten = es.flatten.take (i * 13) ++ x ++ es.flatten.drop (i * 13) := by
      rw [List.flatten_append, List.flatten_cons, flat_take i hz, flat_drop i hz, List.append_assoc]
    have hnes : (es.take i ++ x :: es.drop i).length = es.length + 1 := by simp; omega
    have hzes : ∀ y ∈ es.take i ++ x :: es.drop i, y.length = 13 := fun y hy => by
      rcases List.mem_append.1 hy with hy | hy
      · exact hz y (List.mem_of_mem_take hy)
      · rcases List.mem_cons.1 hy with hy | hy
        · rw [hy]; exact hx
        · exact hz y (List.mem_of_mem_drop hy)
    have hc0 : ∀ (q : Nat) (v : Value), vs[q]? = some v → w.cell? ⟨b, 0 + q, none⟩ = some v := fun q v hq => by rw [cell_of_heap k1, Nat.zero_add]; exact k2 q v hq
    by_cases hroom : es.length + 1 ≤ cap
    · have hcs : (es.length + 1) * 13 ≤ c.size := by have := k4.1; omega
      have hsh := insShift b 0 es.length cap i vb voff 1 cap3 vs vs3 w hlt (by omega) hroom k4.2 hbv hvsl hl13 hc0
        (fun q hq => by rw [cell_of_heap k1, Nat.zero_add, Array.getElem?_eq_getElem (by omega)]; rfl)
        (fun q hq => by have := k6 q (by omega); simp only [World.frozen?, k1, Nat.zero_add, Bool.and_eq_false_iff, decide_eq_false_iff_not]; omega)
        hvs k7 h1v e3 e c3.size c.size (by simp [World.shape?, h7]) (by simp [World.shape?, k1]) (by omega)
        (by have := h11 voff (by omega) (by omega); simp only [World.frozen?, h7, Bool.and_eq_false_iff, decide_eq_false_iff_not]; omega)
        (by have := h12.resolve_right (by decide); simp only [World.frozen?, h7, Bool.and_eq_false_iff, decide_eq_false_iff_not]; omega)
      refine hsh.mono ?_
      rintro e' W ⟨rfl, rfl⟩
      have hvd : (vs.drop (i * 13)).length = vs.length - i * 13 := List.length_drop
      obtain ⟨b1, c1, r1, r2⟩ := setCells_ok (vs.drop (i * 13)) w.drew b (0 + (i + 1) * 13) c e z k1 (by rw [hvd]; omega)
      have hs1 : c1.size = c.size := by
        have := congrArg List.length r2
        simp only [Array.length_toList, List.length_append, List.length_take, List.length_drop] at this
        omega
      obtain ⟨b2, c2, r3, r4⟩ := setCells_ok vs3 _ b (0 + i * 13) c1 e z r1 (by rw [hvl, hs1]; omega)
      have hs2 : c2.size = c.size := by
        have := congrArg List.length r4
        simp only [Array.length_toList, List.length_append, List.length_take, List.length_drop] at this
        omega
      have hcv := prefix_eq k2
      have hE := mid_eq (z := 13) (l := c.toList) (vs := vs) (x := vs3) hcv (i * 13) ((i + 1) * 13) (by omega) (by omega) (by simp only [Array.length_toList]; omega)
      rw [Nat.zero_add] at r2 r4
      rw [r2, show i * 13 + vs3.length = (i + 1) * 13 from by omega, hE] at r4
      have hjl : j < σ.objs.length := (List.getElem?_eq_some_iff.1 ho).1
      refine row_set (n0 := es.length) hi hb hjl (((But.drew w).some _).trans (b1.trans b2)) r3 (vs := vs.take (i * 13) ++ vs3 ++ vs.drop (i * 13)) (fun q v hq => eq_prefix r4 q v hq) (by rw [hfes]; exact (k3.take.append hx3).append k3.drop) (fun v hv => ?_) ⟨by rw [hs2]; exact k4.1, k4.2⟩ k6 hzes hnes hroom ?_
      · rcases List.mem_append.1 hv with hv | hv
        · rcases List.mem_append.1 hv with hv | hv
          · exact k7 v (List.mem_of_mem_take hv)
          · exact h1v v hv
        · exact k7 v (List.mem_of_mem_drop hv)
      · rw [hfes]; simp only [List.length_append, List.length_take, List.length_drop, hfl, hx]; omega
    · have hgr := insGrow b 0 es.length cap i vb voff 1 cap3 vs vs3 w hlt (by omega) hcap (by omega) (by omega) hvsl hl13 hc0 hvs k7 h1v zv hzv
      refine hgr.mono ?_
      rintro e' W ⟨rfl, rfl⟩
      have hG := grownCap_ge w (es.length + 1) cap 37
      have hG63 := grownCap_le_maxLen w (es.length + 1) cap 37 (by unfold maxLen; omega)
      unfold maxLen at hG63
      generalize grownCap w (es.length + 1) cap 37 = G at hG hG63
      obtain ⟨ROW, hROW⟩ : ∃ ROW : Array Value, ROW = (vs.take (i * 13)).toArray ++ Builtin.zeroCells zv.cells (es.length + 1 - i) ++ Builtin.zeroCells zv.cells (G - (es.length + 1)) := ⟨_, rfl⟩
      rw [← hROW]
      have hRs : ROW.size = G * 13 := by
        rw [hROW]
        simp only [Array.size_append, List.size_toArray, List.length_take, zeroCells_size, hzc]
        omega
      have hRt : ROW.toList.take (i * 13) = vs.take (i * 13) := by
        rw [hROW, Array.toList_append, Array.toList_append, List.append_assoc, List.take_append_of_le_length (by simp only [List.length_take]; omega), List.take_of_length_le (by simp only [List.length_take]; omega)]
      obtain ⟨b1, c1, r1, r2⟩ := setCells_ok vs3 (w.alloc (.cells ROW 37)).drew w.heap.size (i * 13) ROW 37 (0, 0) (heap_push w _) (by rw [hvl, hRs]; omega)
      have hs1 : c1.size = ROW.size := by
        have := congrArg List.length r2
        simp only [Array.length_toList, List.length_append, List.length_take, List.length_drop] at this
        omega
      have hvd : (vs.drop (i * 13)).length = vs.length - i * 13 := List.length_drop
      obtain ⟨b2, c2, r3, r4⟩ := setCells_ok (vs.drop (i * 13)) (((w.alloc (.cells ROW 37)).drew.setCells w.heap.size (i * 13) vs3).drew) w.heap.size ((i + 1) * 13) c1 37 (0, 0) r1 (by rw [hvd, hs1, hRs]; omega)
      have hs2 : c2.size = ROW.size := by
        have := congrArg List.length r4
        simp only [Array.length_toList, List.length_append, List.length_take, List.length_drop] at this
        omega
      rw [hRt] at r2
      have hT : c1.toList.take ((i + 1) * 13) = vs.take (i * 13) ++ vs3 := by
        rw [r2, List.take_append_of_le_length (by simp only [List.length_append, List.length_take]; omega), List.take_of_length_le (by simp only [List.length_append, List.length_take]; omega)]
      rw [hT] at r4
      have hbut : But none w ((((w.alloc (.cells ROW 37)).drew.setCells w.heap.size (i * 13) vs3).drew).setCells w.heap.size ((i + 1) * 13) (vs.drop (i * 13))) := by
        have h1 : But (some w.heap.size) w ((((w.alloc (.cells ROW 37)).drew.setCells w.heap.size (i * 13) vs3).drew).setCells w.heap.size ((i + 1) * 13) (vs.drop (i * 13))) :=
          (((But.push w _).trans (But.drew _)).some _).trans (b1.trans (((But.drew _).some _).trans b2))
        exact but_new h1
      refine row_new (s := .osl j es.length cap 13) hi hbut r3 (vs := vs.take (i * 13) ++ vs3 ++ vs.drop (i * 13)) (fun q v hq => eq_prefix r4 q v hq) (by rw [hfes]; exact (k3.take.append hx3).append k3.drop) (fun v hv => ?_) ⟨by rw [hs2, hRs]; exact Nat.le_refl _, hG63⟩ hzes hnes (by omega) ?_
      · rcases List.mem_append.1 hv with hv | hv
        · rcases List.mem_append.1 hv with hv | hv
          · exact k7 v (List.mem_of_mem_take hv)
          · exact h1v v hv
        · exact k7 v (List.mem_of_mem_drop hv)
      · rw [hfes]; simp only [List.length_append, List.length_take, List.length_drop, hfl, hx]; omega
end
end Go.VL.opl

namespace Go.VL.opl
open Go Go.VL Go.Proofs Go.IntWalk Go.VL.st Go.VL.row

/-- The place of the first one; -1: there is none. -/
def fidx {α : Type} (p : α → Bool) (l : List α) : Int := match l.findIdx? p with
  | some i => i
  | none => -1
theorem fidx_at {α : Type} {p : α → Bool} {l : List α} {i : Nat} (h : i < l.length) (h0 : (l.take i).any p = false) (h1 : p l[i] = true) : fidx p l = i := by
  have : l.findIdx? p = some i := by
    rw [List.findIdx?_eq_some_iff_getElem]
    refine ⟨h, h1, fun j hj => ?_⟩
    intro hp
    have : (l.take i).any p = true := List.any_eq_true.2 ⟨l[j], by rw [List.mem_take_iff_getElem]; exact ⟨j, by omega, rfl⟩, hp⟩
    rw [h0] at this; cases this
  unfold fidx; rw [this]
theorem fidx_none {α : Type} {p : α → Bool} {l : List α} (h : l.any p = false) : fidx p l = -1 := by
  have : l.findIdx? p = none := by
    rw [List.findIdx?_eq_none_iff]
    intro x hx
    cases hp : p x
    · rfl
    · rw [List.any_eq_true.2 ⟨x, hx, hp⟩] at h; cases h
  unfold fidx; rw [this]
/-- A replica's change of a number. -/
def isO (r n : Int) (g : Cg) : Bool := decide (g.ar = r) && decide (g.seq = n)
def isA (x : Sp) (g : Cg) : Bool := decide (atS g = x)
theorem map2_len {l : List (V × Cg)} : (l.map (·.2)).length = l.length := by simp
theorem any_take2 {l : List (V × Cg)} {p : Cg → Bool} {i : Nat} (hi : i < l.length) : ((l.map (·.2)).take (i + 1)).any p = (((l.map (·.2)).take i).any p || p l[i].2) := by
  rw [any_take (by simpa using hi)]; simp
section
variable {σ : St} {v d f : V} {g h : Cg} {gs : List Cg} {x : Sp} {r n : Int} {l : List Int}
set_option maxRecDepth 100000 in
set_option maxHeartbeats 1000000 in
theorem pcopy_ok (hd : RdS σ d 1 (intsV .i64 g.deps)) (hlen : g.deps.length ≤ 1073741823) :
    CallA Try.prog 45 [cgV d g] σ fun w σ' => Ext σ σ' ∧ σ'.objs = σ.objs ∧ ∃ x, w = cgV x g ∧ NewS σ σ' x 1 (intsV .i64 g.deps) := by
  obtain ⟨b, R, z, rfl, -, -⟩ := id hd
  refine fn_at Try.func45 (by decide) comp45 rfl fun Q q1 q2 => ?_
  have hl := intsV_len g.deps
  have hr := rd_src (hd.ext (ext_live σ true))
  simp -implicitDefEqProofs only [go_sem, Nat.reduceBEq, Nat.reduceAdd, eq_self, true_and, and_true, and_self, List.getElem?_cons_zero, List.getElem?_cons_succ, Nat.reduceLeDiff, Nat.zero_add, Nat.reduceSub, Nat.le_refl, c45, cgV, cgC]
  refine ⟨⟨.inr trivial, .inr (live_last _ _), hr, by rw [hl]; omega⟩, ?_⟩
  refine q2 _ _ ?_
  simp -implicitDefEqProofs only [go_sem, Nat.reduceBEq, Nat.reduceAdd, eq_self, true_and, and_true, and_self, List.getElem?_cons_zero, List.getElem?_cons_succ, Nat.reduceLeDiff, Nat.zero_add, Nat.reduceSub, Nat.le_refl, Nat.lt_irrefl]
  refine ⟨ext_kill (ext_push (Ext.refl σ)) (Nat.le_refl _), _, rfl, ?_⟩
  refine ⟨_, rfl, live_last' _ _ _, by simp⟩
set_option maxRecDepth 100000 in
set_option maxHeartbeats 1000000 in
theorem equal_ok {u : V} {m : List Int} (hv : RdS σ v 1 (intsV .i64 l)) (hu : RdS σ u 1 (intsV .i64 m)) (hlen : l.length < 4611686018427387904) : CallA Try.prog 87 [v, u] σ fun w σ' => σ' = σ ∧ w = .bool (decide (l = m)) := by
  obtain ⟨b, R, z, rfl, -, -⟩ := id hv
  obtain ⟨b2, R2, z2, rfl, -, -⟩ := id hu
  refine fn_at Try.func87 (by decide) comp87 rfl fun Q q1 q2 => ?_
  have hl := intsV_len l
  have hm := intsV_len m
  simp -implicitDefEqProofs only [go_sem, Nat.reduceBEq, Nat.reduceAdd, eq_self, true_and, and_true, and_self, List.getElem?_cons_zero, List.getElem?_cons_succ, Nat.reduceLeDiff, Nat.zero_add, Nat.reduceSub, Nat.le_refl, c87, hl, hm]
  refine CondW_b (fun h => ?_) (fun h0 => ?_)
  · have : ¬ l = m := by rintro rfl; simp at h
    simp -implicitDefEqProofs only [go_sem, Nat.reduceBEq, Nat.reduceAdd, eq_self, true_and, and_true, and_self, List.getElem?_cons_zero, List.getElem?_cons_succ, Nat.reduceLeDiff, Nat.zero_add, Nat.reduceSub, Nat.le_refl, Nat.lt_irrefl]
    refine q2 _ _ ?_
    simp -implicitDefEqProofs only [go_sem, Nat.reduceBEq, Nat.reduceAdd, eq_self, true_and, and_true, and_self, List.getElem?_cons_zero, List.getElem?_cons_succ, Nat.reduceLeDiff, Nat.zero_add, Nat.reduceSub, Nat.le_refl, this, decide_false]
  have hlm : l.length = m.length := by have := h0; simp at this; omega
  simp -implicitDefEqProofs only [go_sem, Nat.reduceBEq, Nat.reduceAdd, eq_self, true_and, and_true, and_self, List.getElem?_cons_zero, List.getElem?_cons_succ, Nat.reduceLeDiff, Nat.zero_add, Nat.reduceSub, Nat.le_refl, hl, hm]
  refine loop_at (fun (i : Nat) => ⟨[(0, .v (.sl b R z (intsV .i64 l))), (1, .v (.sl b2 R2 z2 (intsV .i64 m))), (12, .v (.int .i64 l.length)), (13, .v (.int .i64 i))], []⟩) (fun i τ => τ = σ ∧ i ≤ l.length ∧ l.take i = m.take i) (fun i => l.length - i) 0 ?_ ?_ ?_
  · refine .inr ?_
    simp -implicitDefEqProofs only [go_sem, Nat.reduceBEq, Nat.reduceAdd, eq_self, true_and, and_true, and_self, List.getElem?_cons_zero, List.getElem?_cons_succ, Nat.reduceLeDiff, Nat.zero_add, Nat.reduceSub, Nat.le_refl, hl]
    exact rfl
  · exact ⟨rfl, Nat.zero_le _, by simp⟩
  rintro i τ ⟨hτ, g1, g2⟩ Z z1 z2 z3
  have hτ := hτ.symm
  subst hτ
  simp -implicitDefEqProofs only [go_sem, Nat.reduceBEq, Nat.reduceAdd, eq_self, true_and, and_true, and_self, List.getElem?_cons_zero, List.getElem?_cons_succ, Nat.reduceLeDiff, Nat.zero_add, Nat.reduceSub, Nat.le_refl, hl]
  refine CondW_b (fun hc => ?_) (fun hc => ?_)
  · have hi : i < l.length := by simpa using hc
    have hi2 : i < m.length := by omega
    have hget := intsV_get hi
    have hget2 := intsV_get hi2
    obtain ⟨k1, k2⟩ := rdl hv (intsV_ne hi)
    obtain ⟨k3, k4⟩ := rdl hu (intsV_ne hi2)
    have hb : (i : Int) < l.length := by omega
    have hb2 : (i : Int) < m.length := by omega
    have ht : ∀ x, l[i] = x → m[i] = x → l.take (i + 1) = m.take (i + 1) := fun x h1 h2 => by
      rw [List.take_succ_eq_append_getElem hi, List.take_succ_eq_append_getElem hi2, g2, h1, h2]
    have hne : l[i] ≠ m[i] → ¬ l = m := by rintro h rfl; exact h rfl
    generalize l[i] = x at hget ht hne
    generalize m[i] = y at hget2 ht hne
    simp -implicitDefEqProofs only [go_sem, Nat.reduceBEq, Nat.reduceAdd, eq_self, true_and, and_true, and_self, List.getElem?_cons_zero, List.getElem?_cons_succ, Nat.reduceLeDiff, Nat.zero_add, Nat.reduceSub, Nat.le_refl, hget, hget2]
    rw [hl, hm]
    refine ⟨⟨by omega, hb, k2⟩, k1, ⟨by omega, hb2, k4⟩, k3, ?_⟩
    refine CondW_b (fun he => ?_) (fun he => ?_)
    · have := hne (by simpa using he)
      simp -implicitDefEqProofs only [go_sem, Nat.reduceBEq, Nat.reduceAdd, eq_self, true_and, and_true, and_self, List.getElem?_cons_zero, List.getElem?_cons_succ, Nat.reduceLeDiff, Nat.zero_add, Nat.reduceSub, Nat.le_refl, Nat.lt_irrefl]
      refine z3 _ _ ?_
      simp -implicitDefEqProofs only [go_sem, Nat.reduceBEq, Nat.reduceAdd, eq_self, true_and, and_true, and_self, List.getElem?_cons_zero, List.getElem?_cons_succ, Nat.reduceLeDiff, Nat.zero_add, Nat.reduceSub, Nat.le_refl, Nat.lt_irrefl]
      refine q2 _ _ ?_
      simp -implicitDefEqProofs only [go_sem, Nat.reduceBEq, Nat.reduceAdd, eq_self, true_and, and_true, and_self, List.getElem?_cons_zero, List.getElem?_cons_succ, Nat.reduceLeDiff, Nat.zero_add, Nat.reduceSub, Nat.le_refl, this, decide_false]
    · have he : x = y := by simpa using he
      simp -implicitDefEqProofs only [go_sem, Nat.reduceBEq, Nat.reduceAdd, eq_self, true_and, and_true, and_self, List.getElem?_cons_zero, List.getElem?_cons_succ, Nat.reduceLeDiff, Nat.zero_add, Nat.reduceSub, Nat.le_refl, Nat.lt_irrefl]
      refine z1 (i + 1) _ _ (.inr ?_) (by omega) ⟨rfl, by omega, ht y he rfl⟩
      simp -implicitDefEqProofs only [go_sem, Nat.reduceBEq, Nat.reduceAdd, eq_self, true_and, and_true, and_self, List.getElem?_cons_zero, List.getElem?_cons_succ, Nat.reduceLeDiff, Nat.zero_add, Nat.reduceSub, Nat.le_refl, Nat.lt_irrefl]
      rw [i64_in _ (by omega)]; simp
  · have hi : ¬ i < l.length := by simpa using hc
    rw [List.take_of_length_le (by omega), List.take_of_length_le (by omega)] at g2
    simp -implicitDefEqProofs only [go_sem, Nat.reduceBEq, Nat.reduceAdd, eq_self, true_and, and_true, and_self, List.getElem?_cons_zero, List.getElem?_cons_succ, Nat.reduceLeDiff, Nat.zero_add, Nat.reduceSub, Nat.le_refl, Nat.lt_irrefl]
    refine z2 _ _ _ ?_
    simp -implicitDefEqProofs only [go_sem, Nat.reduceBEq, Nat.reduceAdd, eq_self, true_and, and_true, and_self, List.getElem?_cons_zero, List.getElem?_cons_succ, Nat.reduceLeDiff, Nat.zero_add, Nat.reduceSub, Nat.le_refl, Nat.lt_irrefl]
    refine q2 _ _ ?_
    simp -implicitDefEqProofs only [go_sem, Nat.reduceBEq, Nat.reduceAdd, eq_self, true_and, and_true, and_self, List.getElem?_cons_zero, List.getElem?_cons_succ, Nat.reduceLeDiff, Nat.zero_add, Nat.reduceSub, Nat.le_refl, g2, decide_true]
set_option maxRecDepth 100000 in
set_option maxHeartbeats 4000000 in
theorem psame_ok (hd : RdS σ d 1 (intsV .i64 g.deps)) (hf : RdS σ f 1 (intsV .i64 h.deps)) (hlen : g.deps.length < 4611686018427387904) :
    CallA Try.prog 71 [cgV d g, cgV f h] σ fun w σ' => σ' = σ ∧ w = .bool (sameC g h) := by
  refine fn_at Try.func71 (by decide) comp71 rfl fun Q q1 q2 => ?_
  simp -implicitDefEqProofs only [go_sem, Nat.reduceBEq, Nat.reduceAdd, eq_self, true_and, and_true, and_self, List.getElem?_cons_zero, List.getElem?_cons_succ, Nat.reduceLeDiff, Nat.zero_add, Nat.reduceSub, Nat.le_refl, c71, cgV, cgC, V.eqs, V.eq, Bool.and_true]
  repeat' first
    | (refine GW_c (fun h => ?_) (fun h => ?_) <;> (try simp only [Bool.not_eq_true', Bool.not_eq_false'] at h) <;> (try simp only [h]) <;> (try simp -implicitDefEqProofs only [go_sem, Nat.reduceBEq, Nat.reduceAdd, eq_self, true_and, and_true, and_self, List.getElem?_cons_zero, List.getElem?_cons_succ, Nat.reduceLeDiff, Nat.zero_add, Nat.reduceSub, Nat.le_refl, cgC, cgV, V.eqs, V.eq, Bool.and_true]))
    | (refine CondW_b (fun h => ?_) (fun h => ?_) <;> (try simp only [Bool.not_eq_true', Bool.not_eq_false'] at h) <;> (try simp only [h]) <;> (try simp -implicitDefEqProofs only [go_sem, Nat.reduceBEq, Nat.reduceAdd, eq_self, true_and, and_true, and_self, List.getElem?_cons_zero, List.getElem?_cons_succ, Nat.reduceLeDiff, Nat.zero_add, Nat.reduceSub, Nat.le_refl, cgC, cgV, V.eqs, V.eq, Bool.and_true]))
    | (refine call_at (equal_ok hd hf hlen) ?_; rintro v τ ⟨rfl, rfl⟩; refine ⟨by first | exact kept_none | exact (Ext.refl _).kept, ?_⟩; (try simp -implicitDefEqProofs only [go_sem, Nat.reduceBEq, Nat.reduceAdd, eq_self, true_and, and_true, and_self, List.getElem?_cons_zero, List.getElem?_cons_succ, Nat.reduceLeDiff, Nat.zero_add, Nat.reduceSub, Nat.le_refl, cgC, cgV, V.eqs, V.eq, Bool.and_true]))
    | (refine cut_dup ?_; (try simp -implicitDefEqProofs only [go_sem, Nat.reduceBEq, Nat.reduceAdd, eq_self, true_and, and_true, and_self, List.getElem?_cons_zero, List.getElem?_cons_succ, Nat.reduceLeDiff, Nat.zero_add, Nat.reduceSub, Nat.le_refl, cgC, cgV, V.eqs, V.eq, Bool.and_true]))
    | (refine q2 _ _ ?_; (try simp -implicitDefEqProofs only [go_sem, Nat.reduceBEq, Nat.reduceAdd, eq_self, true_and, and_true, and_self, List.getElem?_cons_zero, List.getElem?_cons_succ, Nat.reduceLeDiff, Nat.zero_add, Nat.reduceSub, Nat.le_refl, cgC, cgV, V.eqs, V.eq, Bool.and_true]))
  all_goals (clear q1 q2; first | (simp_all [sameC]; done) | grind [sameC])
set_option maxRecDepth 100000 in
set_option maxHeartbeats 1000000 in
theorem within_ok (hv : RdS σ v 1 (intsV .i64 l)) : CallA Try.prog 52 [cgV d g, v] σ fun w σ' => w = .bool (decide (g.seq ≤ atD l g.ar)) ∧ σ' = σ := by
  refine fn_at Try.func52 (by decide) comp52 rfl fun Q q1 q2 => ?_
  simp -implicitDefEqProofs only [go_sem, Nat.reduceBEq, Nat.reduceAdd, eq_self, true_and, and_true, and_self, List.getElem?_cons_zero, List.getElem?_cons_succ, Nat.reduceLeDiff, Nat.zero_add, Nat.reduceSub, Nat.le_refl, c52, cgV, cgC]
  refine call_at (rat_ok (r := g.ar) hv) ?_
  rintro w τ ⟨hτ, rfl⟩
  have hτ := hτ.symm
  subst hτ
  refine ⟨(Ext.refl _).kept, ?_⟩
  simp -implicitDefEqProofs only [go_sem, Nat.reduceBEq, Nat.reduceAdd, eq_self, true_and, and_true, and_self, List.getElem?_cons_zero, List.getElem?_cons_succ, Nat.reduceLeDiff, Nat.zero_add, Nat.reduceSub, Nat.le_refl, Nat.lt_irrefl]
  refine q2 _ _ ?_
  simp -implicitDefEqProofs only [go_sem, Nat.reduceBEq, Nat.reduceAdd, eq_self, true_and, and_true, and_self, List.getElem?_cons_zero, List.getElem?_cons_succ, Nat.reduceLeDiff, Nat.zero_add, Nat.reduceSub, Nat.le_refl, Nat.lt_irrefl]
set_option maxRecDepth 100000 in
set_option maxHeartbeats 1000000 in
theorem rfind_ok (hv : RdC σ v gs) (hlen : gs.length ≤ 2000000) : CallA Try.prog 21 [v, spV x] σ fun w σ' => w = .int .i64 (fidx (isA x) gs) ∧ σ' = σ := by
  obtain ⟨l, rfl, hv, hds⟩ := hv
  obtain ⟨b, R, z, rfl, -, -⟩ := id hv
  refine fn_at Try.func21 (by decide) comp21 rfl fun Q q1 q2 => ?_
  have hl := cgsV_len l
  rw [List.length_map] at hlen
  simp -implicitDefEqProofs only [go_sem, Nat.reduceBEq, Nat.reduceAdd, eq_self, true_and, and_true, and_self, List.getElem?_cons_zero, List.getElem?_cons_succ, Nat.reduceLeDiff, Nat.zero_add, Nat.reduceSub, Nat.le_refl, c21, spV, spC]
  refine loop_at (fun (y : Nat) => ⟨[(0, .v (.sl b R z (cgsV l))), (3, .loc 3 0), (5, .v (.int .i64 y))], [(3, spC x)]⟩) (fun y t => y ≤ l.length ∧ t = σ ∧ ((l.map (·.2)).take y).any (isA x) = false) (fun y => l.length - y) 0 ?_ ?_ ?_
  · refine .inr ?_
    simp -implicitDefEqProofs only [go_sem, Nat.reduceBEq, Nat.reduceAdd, eq_self, true_and, and_true, and_self, List.getElem?_cons_zero, List.getElem?_cons_succ, Nat.reduceLeDiff, Nat.zero_add, Nat.reduceSub, Nat.le_refl, spC]
    try exact rfl
  · exact ⟨Nat.zero_le _, rfl, by simp⟩
  rintro y τ ⟨g1, hτ, g3⟩ Z z1 z2 z3
  have hτ := hτ.symm
  subst hτ
  simp -implicitDefEqProofs only [go_sem, Nat.reduceBEq, Nat.reduceAdd, eq_self, true_and, and_true, and_self, List.getElem?_cons_zero, List.getElem?_cons_succ, Nat.reduceLeDiff, Nat.zero_add, Nat.reduceSub, Nat.le_refl, hl]
  refine CondW_b (fun hcc => ?_) (fun hcc => ?_)
  · have hi : y < l.length := by simpa using hcc
    have hget := cgsV_get hi
    have hwy : IntKind.i64.wrap ((y : Int) + 1) = ((y + 1 : Nat) : Int) := by rw [i64_in _ (by omega)]; omega
    obtain ⟨k1, k2⟩ := rdl hv (cgsV_ne hi)
    have hst1 := any_take2 (p := isA x) hi
    have hfi := fidx_at (p := isA x) (l := l.map (·.2)) (i := y) (by simpa using hi) g3
    simp only [List.getElem_map] at hfi
    generalize l[y] = p at *
    obtain ⟨d, g⟩ := p
    simp only at hget hst1 hfi
    have hse : V.eqs [.int .i64 g.ac, .int .i64 g.ar] [.int .i64 x.c, .int .i64 x.r] = decide (atS g = x) := sp_eqs (atS g) x
    unfold isA at hfi hst1
    cases hd : decide (atS g = x) <;> rw [hd] at hse hfi hst1
    · simp -implicitDefEqProofs only [go_sem, Nat.reduceBEq, Nat.reduceAdd, eq_self, true_and, and_true, and_self, List.getElem?_cons_zero, List.getElem?_cons_succ, Nat.reduceLeDiff, Nat.zero_add, Nat.reduceSub, Nat.le_refl, hget, cgC, spC, hse, hwy]
      rw [hl]
      refine ⟨⟨by omega, by omega, k2⟩, k1, ?_⟩
      refine z1 (y + 1) _ _ (.inr ?_) (by omega) ⟨by omega, rfl, ?_⟩
      · simp -implicitDefEqProofs only [go_sem, Nat.reduceBEq, Nat.reduceAdd, eq_self, true_and, and_true, and_self, List.getElem?_cons_zero, List.getElem?_cons_succ, Nat.reduceLeDiff, Nat.zero_add, Nat.reduceSub, Nat.le_refl, spC]
        try exact rfl
      · unfold isA; rw [hst1]; exact (Bool.or_false _).trans g3
    · simp -implicitDefEqProofs only [go_sem, Nat.reduceBEq, Nat.reduceAdd, eq_self, true_and, and_true, and_self, List.getElem?_cons_zero, List.getElem?_cons_succ, Nat.reduceLeDiff, Nat.zero_add, Nat.reduceSub, Nat.le_refl, hget, cgC, spC, hse]
      rw [hl]
      refine ⟨⟨by omega, by omega, k2⟩, k1, ?_⟩
      refine z3 _ _ ?_
      simp -implicitDefEqProofs only [go_sem, Nat.reduceBEq, Nat.reduceAdd, eq_self, true_and, and_true, and_self, List.getElem?_cons_zero, List.getElem?_cons_succ, Nat.reduceLeDiff, Nat.zero_add, Nat.reduceSub, Nat.le_refl, Nat.lt_irrefl]
      refine q2 _ _ ?_
      have := hfi rfl
      unfold isA
      simp -implicitDefEqProofs only [go_sem, Nat.reduceBEq, Nat.reduceAdd, eq_self, true_and, and_true, and_self, List.getElem?_cons_zero, List.getElem?_cons_succ, Nat.reduceLeDiff, Nat.zero_add, Nat.reduceSub, Nat.le_refl, this]
  · rw [List.take_of_length_le (by have : ¬ y < l.length := by simpa using hcc
                                   rw [map2_len]; omega)] at g3
    have := fidx_none g3
    simp -implicitDefEqProofs only [go_sem, Nat.reduceBEq, Nat.reduceAdd, eq_self, true_and, and_true, and_self, List.getElem?_cons_zero, List.getElem?_cons_succ, Nat.reduceLeDiff, Nat.zero_add, Nat.reduceSub, Nat.le_refl, Nat.lt_irrefl]
    refine z2 _ _ _ ?_
    simp -implicitDefEqProofs only [go_sem, Nat.reduceBEq, Nat.reduceAdd, eq_self, true_and, and_true, and_self, List.getElem?_cons_zero, List.getElem?_cons_succ, Nat.reduceLeDiff, Nat.zero_add, Nat.reduceSub, Nat.le_refl, Nat.lt_irrefl]
    refine q2 _ _ ?_
    simp -implicitDefEqProofs only [go_sem, Nat.reduceBEq, Nat.reduceAdd, eq_self, true_and, and_true, and_self, List.getElem?_cons_zero, List.getElem?_cons_succ, Nat.reduceLeDiff, Nat.zero_add, Nat.reduceSub, Nat.le_refl, this]
set_option maxRecDepth 100000 in
set_option maxHeartbeats 1000000 in
theorem rown_ok (hv : RdC σ v gs) (hlen : gs.length ≤ 2000000) : CallA Try.prog 23 [v, .int .i64 r, .int .i64 n] σ fun w σ' => w = .int .i64 (fidx (isO r n) gs) ∧ σ' = σ := by
  obtain ⟨l, rfl, hv, hds⟩ := hv
  obtain ⟨b, R, z, rfl, -, -⟩ := id hv
  refine fn_at Try.func23 (by decide) comp23 rfl fun Q q1 q2 => ?_
  have hl := cgsV_len l
  rw [List.length_map] at hlen
  simp -implicitDefEqProofs only [go_sem, Nat.reduceBEq, Nat.reduceAdd, eq_self, true_and, and_true, and_self, List.getElem?_cons_zero, List.getElem?_cons_succ, Nat.reduceLeDiff, Nat.zero_add, Nat.reduceSub, Nat.le_refl, c23]
  refine loop_at (fun (y : Nat) => ⟨[(0, .v (.sl b R z (cgsV l))), (1, .v (.int .i64 r)), (2, .v (.int .i64 n)), (7, .v (.int .i64 y))], []⟩) (fun y t => y ≤ l.length ∧ t = σ ∧ ((l.map (·.2)).take y).any (isO r n) = false) (fun y => l.length - y) 0 ?_ ?_ ?_
  · refine .inr ?_
    simp -implicitDefEqProofs only [go_sem, Nat.reduceBEq, Nat.reduceAdd, eq_self, true_and, and_true, and_self, List.getElem?_cons_zero, List.getElem?_cons_succ, Nat.reduceLeDiff, Nat.zero_add, Nat.reduceSub, Nat.le_refl, Nat.lt_irrefl]
    try exact rfl
  · exact ⟨Nat.zero_le _, rfl, by simp⟩
  rintro y τ ⟨g1, hτ, g3⟩ Z z1 z2 z3
  have hτ := hτ.symm
  subst hτ
  simp -implicitDefEqProofs only [go_sem, Nat.reduceBEq, Nat.reduceAdd, eq_self, true_and, and_true, and_self, List.getElem?_cons_zero, List.getElem?_cons_succ, Nat.reduceLeDiff, Nat.zero_add, Nat.reduceSub, Nat.le_refl, hl]
  refine CondW_b (fun hcc => ?_) (fun hcc => ?_)
  · have hi : y < l.length := by simpa using hcc
    have hget := cgsV_get hi
    have hwy : IntKind.i64.wrap ((y : Int) + 1) = ((y + 1 : Nat) : Int) := by rw [i64_in _ (by omega)]; omega
    obtain ⟨k1, k2⟩ := rdl hv (cgsV_ne hi)
    have hst1 := any_take2 (p := isO r n) hi
    have hfi := fidx_at (p := isO r n) (l := l.map (·.2)) (i := y) (by simpa using hi) g3
    simp only [List.getElem_map] at hfi
    generalize l[y] = p at *
    obtain ⟨d, g⟩ := p
    simp only at hget hst1 hfi
    cases hp : isO r n g <;> rw [hp] at hst1 hfi <;> unfold isO at hp
    · have hz : Q = Q → Z (.exit 0) = Z (.exit 0) := fun _ => rfl
      cases h1 : decide (g.ar = r)
      · simp -implicitDefEqProofs only [go_sem, Nat.reduceBEq, Nat.reduceAdd, eq_self, true_and, and_true, and_self, List.getElem?_cons_zero, List.getElem?_cons_succ, Nat.reduceLeDiff, Nat.zero_add, Nat.reduceSub, Nat.le_refl, hget, cgC, h1, hwy]
        rw [hl]
        refine ⟨⟨by omega, by omega, k2⟩, k1, ?_⟩
        refine z1 (y + 1) _ _ (.inr ?_) (by omega) ⟨by omega, rfl, by rw [hst1]; exact (Bool.or_false _).trans g3⟩
        simp -implicitDefEqProofs only [go_sem, Nat.reduceBEq, Nat.reduceAdd, eq_self, true_and, and_true, and_self, List.getElem?_cons_zero, List.getElem?_cons_succ, Nat.reduceLeDiff, Nat.zero_add, Nat.reduceSub, Nat.le_refl, Nat.lt_irrefl]
        try exact rfl
      · have h2 : decide (g.seq = n) = false := by rw [h1] at hp; exact hp
        simp -implicitDefEqProofs only [go_sem, Nat.reduceBEq, Nat.reduceAdd, eq_self, true_and, and_true, and_self, List.getElem?_cons_zero, List.getElem?_cons_succ, Nat.reduceLeDiff, Nat.zero_add, Nat.reduceSub, Nat.le_refl, hget, cgC, h1, h2, hwy]
        rw [hl]
        refine ⟨⟨by omega, by omega, k2⟩, k1, ⟨by omega, by omega, k2⟩, k1, ?_⟩
        refine z1 (y + 1) _ _ (.inr ?_) (by omega) ⟨by omega, rfl, by rw [hst1]; exact (Bool.or_false _).trans g3⟩
        simp -implicitDefEqProofs only [go_sem, Nat.reduceBEq, Nat.reduceAdd, eq_self, true_and, and_true, and_self, List.getElem?_cons_zero, List.getElem?_cons_succ, Nat.reduceLeDiff, Nat.zero_add, Nat.reduceSub, Nat.le_refl, Nat.lt_irrefl]
        try exact rfl
    · rw [Bool.and_eq_true] at hp
      simp -implicitDefEqProofs only [go_sem, Nat.reduceBEq, Nat.reduceAdd, eq_self, true_and, and_true, and_self, List.getElem?_cons_zero, List.getElem?_cons_succ, Nat.reduceLeDiff, Nat.zero_add, Nat.reduceSub, Nat.le_refl, hget, cgC, hp.1, hp.2]
      rw [hl]
      refine ⟨⟨by omega, by omega, k2⟩, k1, ⟨by omega, by omega, k2⟩, k1, ?_⟩
      refine z3 _ _ ?_
      simp -implicitDefEqProofs only [go_sem, Nat.reduceBEq, Nat.reduceAdd, eq_self, true_and, and_true, and_self, List.getElem?_cons_zero, List.getElem?_cons_succ, Nat.reduceLeDiff, Nat.zero_add, Nat.reduceSub, Nat.le_refl, Nat.lt_irrefl]
      refine q2 _ _ ?_
      have := hfi rfl
      simp -implicitDefEqProofs only [go_sem, Nat.reduceBEq, Nat.reduceAdd, eq_self, true_and, and_true, and_self, List.getElem?_cons_zero, List.getElem?_cons_succ, Nat.reduceLeDiff, Nat.zero_add, Nat.reduceSub, Nat.le_refl, this]
  · rw [List.take_of_length_le (by have : ¬ y < l.length := by simpa using hcc
                                   rw [map2_len]; omega)] at g3
    have := fidx_none g3
    simp -implicitDefEqProofs only [go_sem, Nat.reduceBEq, Nat.reduceAdd, eq_self, true_and, and_true, and_self, List.getElem?_cons_zero, List.getElem?_cons_succ, Nat.reduceLeDiff, Nat.zero_add, Nat.reduceSub, Nat.le_refl, Nat.lt_irrefl]
    refine z2 _ _ _ ?_
    simp -implicitDefEqProofs only [go_sem, Nat.reduceBEq, Nat.reduceAdd, eq_self, true_and, and_true, and_self, List.getElem?_cons_zero, List.getElem?_cons_succ, Nat.reduceLeDiff, Nat.zero_add, Nat.reduceSub, Nat.le_refl, Nat.lt_irrefl]
    refine q2 _ _ ?_
    simp -implicitDefEqProofs only [go_sem, Nat.reduceBEq, Nat.reduceAdd, eq_self, true_and, and_true, and_self, List.getElem?_cons_zero, List.getElem?_cons_succ, Nat.reduceLeDiff, Nat.zero_add, Nat.reduceSub, Nat.le_refl, this]
end
end Go.VL.opl

namespace Go.VL.opl
open Go Go.VL Go.Proofs Go.IntWalk Go.VL.st Go.VL.row

theorem fidx_find {α : Type} (p : α → Bool) (l : List α) : (fidx p l = -1 ∧ l.find? p = none) ∨ ∃ (i : Nat) (h : i < l.length), fidx p l = i ∧ l.find? p = some l[i] := by
  cases h : l.findIdx? p with
  | none =>
    refine .inl ⟨by unfold fidx; rw [h], ?_⟩
    rw [List.findIdx?_eq_none_iff] at h
    rw [List.find?_eq_none]
    intro x hx; rw [h x hx]; exact Bool.false_ne_true
  | some i =>
    obtain ⟨h1, h2, h3⟩ := List.findIdx?_eq_some_iff_getElem.1 h
    refine .inr ⟨i, h1, by unfold fidx; rw [h], ?_⟩
    rw [List.find?_eq_some_iff_getElem]
    refine ⟨h2, i, h1, rfl, fun j hj => ?_⟩
    have := h3 j hj
    simpa using this
/-- How many there are of a replica. -/
def cnt (L : List Cg) (r : Int) : Nat := (L.filter fun g => decide (g.ar = r)).length
def cnts (L : List Cg) : List Int := (List.range 64).map fun (r : Nat) => ((cnt L (r : Int) : Nat) : Int)
theorem cnts_len (L : List Cg) : (cnts L).length = 64 := by simp [cnts]
theorem cnts_get (L : List Cg) {r : Nat} (h : r < 64) : (cnts L)[r]? = some (cnt L r : Int) := by simp [cnts, h]
theorem cnt_snoc (L : List Cg) (g : Cg) (r : Int) : cnt (L ++ [g]) r = bif decide (g.ar = r) then cnt L r + 1 else cnt L r := by
  unfold cnt
  rw [List.filter_append, List.length_append]
  cases h : decide (g.ar = r) <;> simp [List.filter, h]
theorem cnt_le (L : List Cg) (r : Int) : cnt L r ≤ L.length := List.length_filter_le _ _
theorem cnts_nil : cnts [] = List.replicate 64 0 := by decide
theorem cnts_out {L : List Cg} {g : Cg} (h : (decide (0 ≤ g.ar) && decide (g.ar < 64)) = false) : cnts (L ++ [g]) = cnts L := by
  unfold cnts
  refine List.map_congr_left fun r hr => ?_
  have hr := List.mem_range.1 hr
  rw [cnt_snoc]
  have : decide (g.ar = (r : Int)) = false := by
    rw [decide_eq_false_iff_not]
    intro e
    rw [e] at h
    have : ((r : Int) < 64) := by omega
    simp [this] at h
  rw [this]; rfl
theorem cnts_in {L : List Cg} {g : Cg} {k : Nat} (hk : k < 64) (h : g.ar = k) : cnts (L ++ [g]) = (cnts L).set k ((cnt L k : Int) + 1) := by
  refine List.ext_getElem (by simp [cnts_len]) fun i h1 h2 => ?_
  rw [cnts_len] at h1
  have e1 : (cnts (L ++ [g]))[i]'(by rw [cnts_len]; omega) = (cnt (L ++ [g]) i : Int) := by simp [cnts]
  have e2 : (cnts L)[i]'(by rw [cnts_len]; omega) = (cnt L i : Int) := by simp [cnts]
  rw [e1, List.getElem_set, e2, cnt_snoc]
  by_cases e : k = i
  · subst e; simp [h]
  · have : decide (g.ar = (i : Int)) = false := by rw [h, decide_eq_false_iff_not]; omega
    rw [this, if_neg e]; rfl
theorem atD_trims {l out : List Int} {z : Nat} (h : Trims l out z) (r : Int) : atD out r = atD l r := by
  unfold atD
  by_cases h0 : 0 ≤ r
  · have hz : ∀ i : Nat, (out ++ List.replicate z (0 : Int))[i]?.getD 0 = out[i]?.getD 0 := by
      intro i
      by_cases hi : i < out.length
      · rw [List.getElem?_append_left hi]
      · rw [List.getElem?_append_right (by omega), List.getElem?_replicate, List.getElem?_eq_none (l := out) (by omega)]
        split <;> rfl
    have h1 : ∀ m : List Int, (bif decide (0 ≤ r) && decide (r < m.length) then m[r.toNat]?.getD 0 else 0) = m[r.toNat]?.getD 0 := by
      intro m
      cases hd : decide (r < m.length)
      · rw [Bool.and_false, cond_false, List.getElem?_eq_none (by have := of_decide_eq_false hd; omega)]; rfl
      · simp [h0]
    rw [h1, h1, h.1, hz]
  · simp [h0]
theorem atD_cnts (L : List Cg) {r : Int} (h : 0 ≤ r ∧ r < 64) : atD (cnts L) r = cnt L r := by
  unfold atD
  rw [cnts_len, cnts_get L (r := r.toNat) (by omega)]
  have : ((r.toNat : Nat) : Int) = r := by omega
  simp [h.1, this, h.2]
def underI (l m : List Int) : Bool := (List.range l.length).all fun r => decide (l[r]?.getD 0 ≤ atD m r)
theorem under_at {l m : List Int} {y : Nat} {x : Int} (hy : y < l.length) (hx : l[y] = x) : ((List.range (y + 1)).all fun r => decide (l[r]?.getD 0 ≤ atD m r)) = (((List.range y).all fun r => decide (l[r]?.getD 0 ≤ atD m r)) && decide (x ≤ atD m y)) := by
  rw [List.range_succ, List.all_append]; simp [hy, hx]
theorem all_false {n y : Nat} {f : Nat → Bool} (h : y < n) (hf : f y = false) : (List.range n).all f = false := by
  rw [List.all_eq_false]
  exact ⟨y, List.mem_range.2 h, by rw [hf]; exact Bool.false_ne_true⟩
/-- Is it there, and ahead? -/
def depB (L : List Cg) (g : Cg) (r n : Int) : Bool := decide (n = 0) || match L.find? (isO r n) with
  | some h => st.less (atS h) (atS g)
  | none => false
def nmB (L : List Cg) (g : Cg) (s : Sp) : Bool := match L.find? (isA s) with
  | some h => decide (h.seq ≤ atD g.deps h.ar)
  | none => false
def depsB (L : List Cg) (g : Cg) : Bool := (List.range g.deps.length).all fun r => depB L g r (g.deps[r]?.getD 0)
def namesB (L : List Cg) (g : Cg) : Bool := (baseN g).all fun s => !okN g s || nmB L g s
theorem names_all {g : Cg} {m : List Sp} (h : IsN g m) (p : Sp → Bool) : m.all p = (baseN g).all fun s => !okN g s || p s := by
  rw [Bool.eq_iff_iff, List.all_eq_true, List.all_eq_true]
  constructor
  · intro k s hs
    cases ho : okN g s
    · rfl
    · rw [k s ((h.2 s).2 (List.mem_filter.2 ⟨hs, ho⟩))]; rfl
  · intro k s hs
    obtain ⟨h1, h2⟩ := List.mem_filter.1 ((h.2 s).1 hs)
    have := k s h1
    rw [h2] at this; exact this
/-- A clock that was told. -/
def ClkR (σ : St) (w : V) (L : List Cg) : Prop := ∃ out z, Trims (cnts L) out z ∧ RdS σ w 1 (intsV .i64 out)
section
variable {σ : St} {v d f u : V} {g h : Cg} {gs : List Cg} {x : Sp} {r n : Int} {l m : List Int}
set_option maxRecDepth 100000 in
set_option maxHeartbeats 1000000 in
theorem under_ok (hv : RdS σ v 1 (intsV .i64 l)) (hu : RdS σ u 1 (intsV .i64 m)) (hlen : l.length ≤ 2000000) : CallA Try.prog 28 [v, u] σ fun w σ' => w = .bool (underI l m) ∧ σ' = σ := by
  obtain ⟨b, R, z, rfl, -, -⟩ := id hv
  refine fn_at Try.func28 (by decide) comp28 rfl fun Q q1 q2 => ?_
  have hl := intsV_len l
  simp -implicitDefEqProofs only [go_sem, Nat.reduceBEq, Nat.reduceAdd, eq_self, true_and, and_true, and_self, List.getElem?_cons_zero, List.getElem?_cons_succ, Nat.reduceLeDiff, Nat.zero_add, Nat.reduceSub, Nat.le_refl, c28]
  refine loop_at (fun (y : Nat) => ⟨[(0, .v (.sl b R z (intsV .i64 l))), (1, .v u), (5, .v (.int .i64 y))], []⟩) (fun y t => y ≤ l.length ∧ t = σ ∧ ((List.range y).all fun r => decide (l[r]?.getD 0 ≤ atD m r)) = true) (fun y => l.length - y) 0 ?_ ?_ ?_
  · refine .inr ?_
    simp -implicitDefEqProofs only [go_sem, Nat.reduceBEq, Nat.reduceAdd, eq_self, true_and, and_true, and_self, List.getElem?_cons_zero, List.getElem?_cons_succ, Nat.reduceLeDiff, Nat.zero_add, Nat.reduceSub, Nat.le_refl, Nat.lt_irrefl]
    try exact rfl
  · exact ⟨Nat.zero_le _, rfl, by simp⟩
  rintro y τ ⟨g1, hτ, g3⟩ Z z1 z2 z3
  have hτ := hτ.symm
  subst hτ
  simp -implicitDefEqProofs only [go_sem, Nat.reduceBEq, Nat.reduceAdd, eq_self, true_and, and_true, and_self, List.getElem?_cons_zero, List.getElem?_cons_succ, Nat.reduceLeDiff, Nat.zero_add, Nat.reduceSub, Nat.le_refl, hl]
  refine CondW_b (fun hcc => ?_) (fun hcc => ?_)
  · have hi : y < l.length := by simpa using hcc
    have hget := intsV_get hi
    have hwy : IntKind.i64.wrap ((y : Int) + 1) = ((y + 1 : Nat) : Int) := by rw [i64_in _ (by omega)]; omega
    obtain ⟨k1, k2⟩ := rdl hv (intsV_ne hi)
    have hst := under_at (m := m) hi rfl
    have hal : decide (l[y]?.getD 0 ≤ atD m y) = decide (l[y] ≤ atD m y) := by simp [hi]
    generalize l[y] = x at hget hst hal
    simp -implicitDefEqProofs only [go_sem, Nat.reduceBEq, Nat.reduceAdd, eq_self, true_and, and_true, and_self, List.getElem?_cons_zero, List.getElem?_cons_succ, Nat.reduceLeDiff, Nat.zero_add, Nat.reduceSub, Nat.le_refl, hget]
    rw [hl]
    refine ⟨⟨by omega, by omega, k2⟩, k1, ?_⟩
    refine call_at (rat_ok (r := (y : Int)) hu) ?_
    rintro w τ2 ⟨hτ2, rfl⟩
    have hτ2 := hτ2.symm
    subst hτ2
    refine ⟨(Ext.refl _).kept, ?_⟩
    cases hd : decide (x > atD m y)
    · simp -implicitDefEqProofs only [go_sem, Nat.reduceBEq, Nat.reduceAdd, eq_self, true_and, and_true, and_self, List.getElem?_cons_zero, List.getElem?_cons_succ, Nat.reduceLeDiff, Nat.zero_add, Nat.reduceSub, Nat.le_refl, hd, hwy]
      refine z1 (y + 1) _ _ (.inr ?_) (by omega) ⟨by omega, rfl, ?_⟩
      · simp -implicitDefEqProofs only [go_sem, Nat.reduceBEq, Nat.reduceAdd, eq_self, true_and, and_true, and_self, List.getElem?_cons_zero, List.getElem?_cons_succ, Nat.reduceLeDiff, Nat.zero_add, Nat.reduceSub, Nat.le_refl, Nat.lt_irrefl]
        try exact rfl
      · rw [hst, g3, Bool.true_and, decide_eq_true_eq]
        have := of_decide_eq_false hd
        omega
    · simp -implicitDefEqProofs only [go_sem, Nat.reduceBEq, Nat.reduceAdd, eq_self, true_and, and_true, and_self, List.getElem?_cons_zero, List.getElem?_cons_succ, Nat.reduceLeDiff, Nat.zero_add, Nat.reduceSub, Nat.le_refl, hd]
      refine z3 _ _ ?_
      simp -implicitDefEqProofs only [go_sem, Nat.reduceBEq, Nat.reduceAdd, eq_self, true_and, and_true, and_self, List.getElem?_cons_zero, List.getElem?_cons_succ, Nat.reduceLeDiff, Nat.zero_add, Nat.reduceSub, Nat.le_refl, Nat.lt_irrefl]
      refine q2 _ _ ?_
      have hun : underI l m = false := all_false hi (by rw [hal, decide_eq_false_iff_not]; have := of_decide_eq_true hd; omega)
      simp -implicitDefEqProofs only [go_sem, Nat.reduceBEq, Nat.reduceAdd, eq_self, true_and, and_true, and_self, List.getElem?_cons_zero, List.getElem?_cons_succ, Nat.reduceLeDiff, Nat.zero_add, Nat.reduceSub, Nat.le_refl, hun]
  · have : y = l.length := by
      have : ¬ y < l.length := by simpa using hcc
      omega
    subst this
    have hun : underI l m = true := g3
    simp -implicitDefEqProofs only [go_sem, Nat.reduceBEq, Nat.reduceAdd, eq_self, true_and, and_true, and_self, List.getElem?_cons_zero, List.getElem?_cons_succ, Nat.reduceLeDiff, Nat.zero_add, Nat.reduceSub, Nat.le_refl, Nat.lt_irrefl]
    refine z2 _ _ _ ?_
    simp -implicitDefEqProofs only [go_sem, Nat.reduceBEq, Nat.reduceAdd, eq_self, true_and, and_true, and_self, List.getElem?_cons_zero, List.getElem?_cons_succ, Nat.reduceLeDiff, Nat.zero_add, Nat.reduceSub, Nat.le_refl, Nat.lt_irrefl]
    refine q2 _ _ ?_
    simp -implicitDefEqProofs only [go_sem, Nat.reduceBEq, Nat.reduceAdd, eq_self, true_and, and_true, and_self, List.getElem?_cons_zero, List.getElem?_cons_succ, Nat.reduceLeDiff, Nat.zero_add, Nat.reduceSub, Nat.le_refl, hun]
set_option maxRecDepth 100000 in
set_option maxHeartbeats 2000000 in
theorem rclk_ok (hv : RdC σ v gs) (hlen : gs.length ≤ 2000000) : CallA Try.prog 27 [v] σ fun w σ' => ClkR σ' w gs ∧ Ext σ σ' ∧ σ'.objs = σ.objs := by
  obtain ⟨l, rfl, hv, hds⟩ := hv
  obtain ⟨b, R, z, rfl, -, -⟩ := id hv
  refine fn_at Try.func27 (by decide) comp27 rfl fun Q q1 q2 => ?_
  have hl := cgsV_len l
  rw [List.length_map] at hlen
  have hrep : List.replicate (Int.toNat 64) [V.int .i64 0] = intsV .i64 (cnts []) := by rw [cnts_nil]; rfl
  simp -implicitDefEqProofs only [go_sem, Nat.reduceBEq, Nat.reduceAdd, eq_self, true_and, and_true, and_self, List.getElem?_cons_zero, List.getElem?_cons_succ, Nat.reduceLeDiff, Nat.zero_add, Nat.reduceSub, Nat.le_refl, c27, hrep]
  refine ⟨by omega, ?_⟩
  refine loop_at (fun (y : Nat × Nat) => ⟨[(0, .v (.sl b R z (cgsV l))), (3, .v (.sl false (.own y.2) 1 (intsV .i64 (cnts ((l.map (·.2)).take y.1))))), (4, .v (.int .i64 y.1))], []⟩)
    (fun y t => y.1 ≤ l.length ∧ Ext σ t ∧ t.objs = σ.objs ∧ t.live[y.2]? = some true ∧ σ.live.length ≤ y.2) (fun y => l.length - y.1) (0, σ.live.length) ?_ ?_ ?_
  · refine .inr ?_
    simp -implicitDefEqProofs only [go_sem, Nat.reduceBEq, Nat.reduceAdd, eq_self, true_and, and_true, and_self, List.getElem?_cons_zero, List.getElem?_cons_succ, Nat.reduceLeDiff, Nat.zero_add, Nat.reduceSub, Nat.le_refl, List.take_zero]
    try exact rfl
  · exact ⟨Nat.zero_le _, ext_live σ true, rfl, live_last _ _, Nat.le_refl _⟩
  rintro ⟨y, q⟩ τ ⟨g1, g2, g3, g4, g5⟩ Z z1 z2 z3
  simp only at g1 g4 g5
  simp -implicitDefEqProofs only [go_sem, Nat.reduceBEq, Nat.reduceAdd, eq_self, true_and, and_true, and_self, List.getElem?_cons_zero, List.getElem?_cons_succ, Nat.reduceLeDiff, Nat.zero_add, Nat.reduceSub, Nat.le_refl, hl]
  refine CondW_b (fun hcc => ?_) (fun hcc => ?_)
  · have hi : y < l.length := by simpa using hcc
    have hget := cgsV_get hi
    have hwy : IntKind.i64.wrap ((y : Int) + 1) = ((y + 1 : Nat) : Int) := by rw [i64_in _ (by omega)]; omega
    obtain ⟨k1, k2⟩ := rdl (hv.ext g2) (cgsV_ne hi)
    have htk : (l.map (·.2)).take (y + 1) = (l.map (·.2)).take y ++ [l[y].2] := by rw [List.take_succ_eq_append_getElem (by simpa using hi)]; simp
    have hDl : ((l.map (·.2)).take y).length ≤ 2000000 := by rw [List.length_take]; omega
    generalize (l.map (·.2)).take y = D at *
    generalize hD' : (l.map (·.2)).take (y + 1) = D' at *
    generalize l[y] = p at *
    obtain ⟨d, g⟩ := p
    simp only at hget htk
    refine cut_at (fun G τ2 => ∃ q2, G = ⟨[(0, .v (.sl b R z (cgsV l))), (3, .v (.sl false (.own q2) 1 (intsV .i64 (cnts D')))), (4, .v (.int .i64 y))], []⟩ ∧ Ext σ τ2 ∧ τ2.objs = σ.objs ∧ τ2.live[q2]? = some true ∧ σ.live.length ≤ q2) ?_ ?_
    case refine_2 =>
      rintro G τ2 ⟨q2', rfl, t1, t2, t3, t4⟩
      simp -implicitDefEqProofs only [go_sem, Nat.reduceBEq, Nat.reduceAdd, eq_self, true_and, and_true, and_self, List.getElem?_cons_zero, List.getElem?_cons_succ, Nat.reduceLeDiff, Nat.zero_add, Nat.reduceSub, Nat.le_refl, hwy]
      refine z1 (y + 1, q2') _ _ (.inr ?_) (by simp only; omega) ⟨by simp only; omega, t1, t2, t3, t4⟩
      simp -implicitDefEqProofs only [go_sem, Nat.reduceBEq, Nat.reduceAdd, eq_self, true_and, and_true, and_self, List.getElem?_cons_zero, List.getElem?_cons_succ, Nat.reduceLeDiff, Nat.zero_add, Nat.reduceSub, Nat.le_refl, hD']
      try exact rfl
    intro Y y1 y2 y3
    have hc64 : (intsV .i64 (cnts D)).length = 64 := by rw [intsV_len, cnts_len]
    have hge : decide (g.ar ≥ 0) = decide (0 ≤ g.ar) := rfl
    cases h0 : decide (0 ≤ g.ar)
    · have := cnts_out (L := D) (g := g) (by rw [h0]; rfl)
      simp -implicitDefEqProofs only [go_sem, Nat.reduceBEq, Nat.reduceAdd, eq_self, true_and, and_true, and_self, List.getElem?_cons_zero, List.getElem?_cons_succ, Nat.reduceLeDiff, Nat.zero_add, Nat.reduceSub, Nat.le_refl, hget, cgC, hge, h0]
      rw [hl]
      refine ⟨⟨by omega, by omega, k2⟩, k1, ?_⟩
      refine y1 _ _ _ (.inr ?_) ⟨q, rfl, g2, g3, g4, g5⟩
      simp -implicitDefEqProofs only [go_sem, Nat.reduceBEq, Nat.reduceAdd, eq_self, true_and, and_true, and_self, List.getElem?_cons_zero, List.getElem?_cons_succ, Nat.reduceLeDiff, Nat.zero_add, Nat.reduceSub, Nat.le_refl, Nat.lt_irrefl]
      rw [htk, this]
      try exact rfl
    cases h1 : decide (g.ar < 64)
    · have := cnts_out (L := D) (g := g) (by rw [h1]; exact Bool.and_false _)
      have h1' : decide (g.ar < ((64 : Nat) : Int)) = false := h1
      simp -implicitDefEqProofs only [go_sem, Nat.reduceBEq, Nat.reduceAdd, eq_self, true_and, and_true, and_self, List.getElem?_cons_zero, List.getElem?_cons_succ, Nat.reduceLeDiff, Nat.zero_add, Nat.reduceSub, Nat.le_refl, hget, cgC, hge, h0, hc64, h1']
      rw [hl]
      refine ⟨⟨by omega, by omega, k2⟩, k1, ?_⟩
      refine y1 _ _ _ (.inr ?_) ⟨q, rfl, g2, g3, g4, g5⟩
      simp -implicitDefEqProofs only [go_sem, Nat.reduceBEq, Nat.reduceAdd, eq_self, true_and, and_true, and_self, List.getElem?_cons_zero, List.getElem?_cons_succ, Nat.reduceLeDiff, Nat.zero_add, Nat.reduceSub, Nat.le_refl, Nat.lt_irrefl]
      rw [htk, this]
      try exact rfl
    · have h0' := of_decide_eq_true h0
      have h1'' := of_decide_eq_true h1
      have h1' : decide (g.ar < ((64 : Nat) : Int)) = true := h1
      have hk : g.ar = ((g.ar.toNat : Nat) : Int) := by omega
      have hset := cnts_in (L := D) (g := g) (k := g.ar.toNat) (by omega) hk
      have hcl := cnt_le D ((g.ar.toNat : Nat) : Int)
      have hgc : (intsV .i64 (cnts D))[g.ar.toNat]? = some [V.int .i64 (cnt D ((g.ar.toNat : Nat) : Int))] := by
        unfold intsV; rw [List.getElem?_map, cnts_get D (by omega)]; rfl
      have hwc : IntKind.i64.wrap ((cnt D ((g.ar.toNat : Nat) : Int) : Int) + 1) = (cnt D ((g.ar.toNat : Nat) : Int) : Int) + 1 := by rw [i64_in _ (by omega)]
      have rn0 : ∀ a b' c, renS q a b' c (.v (.sl b R z (cgsV l))) = .v (.sl b R z (cgsV l)) := fun a b' c => renS_old hv g5
      have hiv : intsV .i64 ((cnts D).set g.ar.toNat ((cnt D ((g.ar.toNat : Nat) : Int) : Int) + 1)) = (intsV .i64 (cnts D)).set g.ar.toNat [V.int .i64 ((cnt D ((g.ar.toNat : Nat) : Int) : Int) + 1)] := by
        unfold intsV; rw [List.map_set]
      simp -implicitDefEqProofs only [go_sem, Nat.reduceBEq, Nat.reduceAdd, eq_self, true_and, and_true, and_self, List.getElem?_cons_zero, List.getElem?_cons_succ, Nat.reduceLeDiff, Nat.zero_add, Nat.reduceSub, Nat.le_refl, hget, cgC, hge, h0, hc64, h1', hgc, hwc, Option.getD_some, rn0, beq_self_eq_true]
      rw [hl]
      refine ⟨⟨by omega, by omega, k2⟩, k1, ⟨h0', by omega⟩, g4, ⟨h0', by omega⟩, g4, ?_⟩
      refine y1 _ _ _ (.inr ?_) ⟨_, rfl, ext_kill g2 g5, g3, live_last' _ _ _, g2.llen⟩
      simp -implicitDefEqProofs only [go_sem, Nat.reduceBEq, Nat.reduceAdd, eq_self, true_and, and_true, and_self, List.getElem?_cons_zero, List.getElem?_cons_succ, Nat.reduceLeDiff, Nat.zero_add, Nat.reduceSub, Nat.le_refl, Nat.lt_irrefl]
      rw [htk, hset, hiv]
  · rw [List.take_of_length_le (by have : ¬ y < l.length := by simpa using hcc
                                   rw [map2_len]; omega)] at *
    simp -implicitDefEqProofs only [go_sem, Nat.reduceBEq, Nat.reduceAdd, eq_self, true_and, and_true, and_self, List.getElem?_cons_zero, List.getElem?_cons_succ, Nat.reduceLeDiff, Nat.zero_add, Nat.reduceSub, Nat.le_refl, Nat.lt_irrefl]
    refine z2 _ _ _ ?_
    simp -implicitDefEqProofs only [go_sem, Nat.reduceBEq, Nat.reduceAdd, eq_self, true_and, and_true, and_self, List.getElem?_cons_zero, List.getElem?_cons_succ, Nat.reduceLeDiff, Nat.zero_add, Nat.reduceSub, Nat.le_refl, Nat.lt_irrefl]
    have hc : RdS τ (.sl false (.own q) 1 (intsV .i64 (cnts (l.map (·.2))))) 1 (intsV .i64 (cnts (l.map (·.2)))) := ⟨_, _, _, rfl, by simp, .inr ⟨g4, rfl⟩⟩
    refine call_at (trim_ok hc (by rw [cnts_len]; omega)) ?_
    rintro w τ2 ⟨a1, a2, a3⟩
    refine ⟨kept_none, ?_⟩
    simp -implicitDefEqProofs only [go_sem, Nat.reduceBEq, Nat.reduceAdd, eq_self, true_and, and_true, and_self, List.getElem?_cons_zero, List.getElem?_cons_succ, Nat.reduceLeDiff, Nat.zero_add, Nat.reduceSub, Nat.le_refl, Nat.lt_irrefl]
    refine q2 _ _ ?_
    simp -implicitDefEqProofs only [go_sem, Nat.reduceBEq, Nat.reduceAdd, eq_self, true_and, and_true, and_self, List.getElem?_cons_zero, List.getElem?_cons_succ, Nat.reduceLeDiff, Nat.zero_add, Nat.reduceSub, Nat.le_refl, Nat.lt_irrefl]
    exact ⟨a1, g2.trans a2, a3.trans g3⟩
end
end Go.VL.opl

namespace Go.VL.opl
open Go Go.VL Go.Proofs Go.IntWalk Go.VL.st Go.VL.row

def behB (L : List Cg) (g : Cg) : Bool := depsB L g && namesB L g
def whyR (L : List Cg) (room : Int) (g : Cg) : Int :=
  bif !decide (chkI g = 0) then chkI g else
  match L.find? (isA (atS g)) with
  | some h => bif sameC h g then 5 else 7
  | none => bif (L.find? (isO g.ar g.seq)).isSome then 7 else
    bif !decide (g.seq = cnt L g.ar + 1) || !underI g.deps (cnts L) then 4 else
    bif !behB L g then 2 else
    bif decide (L.length ≥ room) then 6 else 0
theorem all_snoc {y : Nat} {f : Nat → Bool} : (List.range (y + 1)).all f = ((List.range y).all f && f y) := by
  rw [List.range_succ, List.all_append]; simp
theorem all_tk {α : Type} {s : List α} {f : α → Bool} {i : Nat} (hi : i < s.length) : (s.take (i + 1)).all f = ((s.take i).all f && f s[i]) := by
  rw [List.take_succ_eq_append_getElem hi, List.all_append]; simp
section
variable {σ : St} {v d f u : V} {g h : Cg} {gs : List Cg} {x : Sp} {r n room : Int} {l m : List Int}
set_option maxRecDepth 100000 in
set_option maxHeartbeats 4000000 in
theorem behind_ok (hv : RdC σ v gs) (hlen : gs.length ≤ 2000000) (hd : RdS σ d 1 (intsV .i64 g.deps)) (hdl : g.deps.length ≤ 2000000) : CallA Try.prog 65 [v, cgV d g] σ fun w σ' => w = .bool (behB gs g) ∧ Ext σ σ' ∧ σ'.objs = σ.objs := by
  obtain ⟨b, R, z, rfl, -, -⟩ := id hd
  refine fn_at Try.func65 (by decide) comp65 rfl fun Q q1 q2 => ?_
  have hl := intsV_len g.deps
  simp -implicitDefEqProofs only [go_sem, Nat.reduceBEq, Nat.reduceAdd, eq_self, true_and, and_true, and_self, List.getElem?_cons_zero, List.getElem?_cons_succ, Nat.reduceLeDiff, Nat.zero_add, Nat.reduceSub, Nat.le_refl, c65, cgV, cgC]
  refine loop_at (fun (y : Nat) => ⟨[(0, .v v), (3, .loc 3 0), (5, .v (.int .i64 y))], [(3, cgC (.sl b R z (intsV .i64 g.deps)) g)]⟩) (fun y t => y ≤ g.deps.length ∧ t = σ ∧ ((List.range y).all fun r => depB gs g r (g.deps[r]?.getD 0)) = true) (fun y => g.deps.length - y) 0 ?_ ?_ ?_
  · refine .inr ?_
    simp -implicitDefEqProofs only [go_sem, Nat.reduceBEq, Nat.reduceAdd, eq_self, true_and, and_true, and_self, List.getElem?_cons_zero, List.getElem?_cons_succ, Nat.reduceLeDiff, Nat.zero_add, Nat.reduceSub, Nat.le_refl, cgC]
    try exact rfl
  · exact ⟨Nat.zero_le _, rfl, by simp⟩
  rintro y τ ⟨g1, hτ, g3⟩ Z z1 z2 z3
  have hτ := hτ.symm
  subst hτ
  simp -implicitDefEqProofs only [go_sem, Nat.reduceBEq, Nat.reduceAdd, eq_self, true_and, and_true, and_self, List.getElem?_cons_zero, List.getElem?_cons_succ, Nat.reduceLeDiff, Nat.zero_add, Nat.reduceSub, Nat.le_refl, cgC, hl]
  refine CondW_b (fun hcc => ?_) (fun hcc => ?_)
  · have hi : y < g.deps.length := by simpa using hcc
    have hget := intsV_get hi
    have hwy : IntKind.i64.wrap ((y : Int) + 1) = ((y + 1 : Nat) : Int) := by rw [i64_in _ (by omega)]; omega
    obtain ⟨k1, k2⟩ := rdl hd (intsV_ne hi)
    have hgo : g.deps[y]?.getD 0 = g.deps[y] := by simp [hi]
    have hal : ((List.range (y + 1)).all fun r => depB gs g r (g.deps[r]?.getD 0)) = depB gs g y g.deps[y] := by rw [all_snoc, g3, hgo, Bool.true_and]
    have hbad : depB gs g y g.deps[y] = false → behB gs g = false := fun h => by
      unfold behB depsB
      rw [all_false hi (by rw [hgo]; exact h)]; rfl
    generalize g.deps[y] = n at hget hal hbad
    refine cut_at (fun G τ2 => G = ⟨[(0, .v v), (3, .loc 3 0), (5, .v (.int .i64 y))], [(3, cgC (.sl b R z (intsV .i64 g.deps)) g)]⟩ ∧ τ2 = σ ∧ depB gs g y n = true) ?_ ?_
    case refine_2 =>
      rintro G τ2 ⟨rfl, rfl, t1⟩
      simp -implicitDefEqProofs only [go_sem, Nat.reduceBEq, Nat.reduceAdd, eq_self, true_and, and_true, and_self, List.getElem?_cons_zero, List.getElem?_cons_succ, Nat.reduceLeDiff, Nat.zero_add, Nat.reduceSub, Nat.le_refl, hwy]
      refine z1 (y + 1) _ _ (.inr ?_) (by omega) ⟨by omega, rfl, by rw [hal]; exact t1⟩
      simp -implicitDefEqProofs only [go_sem, Nat.reduceBEq, Nat.reduceAdd, eq_self, true_and, and_true, and_self, List.getElem?_cons_zero, List.getElem?_cons_succ, Nat.reduceLeDiff, Nat.zero_add, Nat.reduceSub, Nat.le_refl, Nat.lt_irrefl]
      try exact rfl
    intro Y y1 y2 y3
    cases h0 : decide (n = 0)
    · have hown := rown_ok (r := (y : Int)) (n := n) hv hlen
      simp -implicitDefEqProofs only [go_sem, Nat.reduceBEq, Nat.reduceAdd, eq_self, true_and, and_true, and_self, List.getElem?_cons_zero, List.getElem?_cons_succ, Nat.reduceLeDiff, Nat.zero_add, Nat.reduceSub, Nat.le_refl, cgC, hl, hget, h0]
      refine ⟨⟨by omega, by omega, k2⟩, k1, ⟨by omega, by omega, k2⟩, k1, ?_⟩
      refine call_at hown ?_
      rintro w τ2 ⟨rfl, hτ2⟩
      have hτ2 := hτ2.symm
      subst hτ2
      refine ⟨kept_none, ?_⟩
      have hdep : depB gs g y n = match gs.find? (isO y n) with
        | some h => st.less (atS h) (atS g)
        | none => false := by unfold depB; rw [h0]; rfl
      rcases fidx_find (isO y n) gs with ⟨e1, e2⟩ | ⟨i, hi2, e1, e2⟩
      · rw [e2] at hdep
        rw [e1]
        have h1 : decide ((-1 : Int) < 0) = true := by decide
        simp -implicitDefEqProofs only [go_sem, Nat.reduceBEq, Nat.reduceAdd, eq_self, true_and, and_true, and_self, List.getElem?_cons_zero, List.getElem?_cons_succ, Nat.reduceLeDiff, Nat.zero_add, Nat.reduceSub, Nat.le_refl, cgC, h1]
        refine y3 _ _ ?_
        simp -implicitDefEqProofs only [go_sem, Nat.reduceBEq, Nat.reduceAdd, eq_self, true_and, and_true, and_self, List.getElem?_cons_zero, List.getElem?_cons_succ, Nat.reduceLeDiff, Nat.zero_add, Nat.reduceSub, Nat.le_refl, Nat.lt_irrefl]
        refine z3 _ _ ?_
        simp -implicitDefEqProofs only [go_sem, Nat.reduceBEq, Nat.reduceAdd, eq_self, true_and, and_true, and_self, List.getElem?_cons_zero, List.getElem?_cons_succ, Nat.reduceLeDiff, Nat.zero_add, Nat.reduceSub, Nat.le_refl, Nat.lt_irrefl]
        refine q2 _ _ ?_
        have := hbad hdep
        simp -implicitDefEqProofs only [go_sem, Nat.reduceBEq, Nat.reduceAdd, eq_self, true_and, and_true, and_self, List.getElem?_cons_zero, List.getElem?_cons_succ, Nat.reduceLeDiff, Nat.zero_add, Nat.reduceSub, Nat.le_refl, this]
        exact .refl _
      · rw [e2] at hdep
        rw [e1]
        have h1 : decide ((i : Int) < 0) = false := by rw [decide_eq_false_iff_not]; omega
        obtain ⟨l, rfl, hv2, hds⟩ := id hv
        obtain ⟨b', R', z', rfl, -, -⟩ := id hv2
        have hi2 : i < l.length := by simpa using hi2
        have hcl := cgsV_len l
        have hget2 := cgsV_get hi2
        obtain ⟨k3, k4⟩ := rdl hv2 (cgsV_ne hi2)
        simp only [List.getElem_map] at hdep
        generalize l[i] = p at hget2 hdep
        obtain ⟨d2, h⟩ := p
        simp only at hget2 hdep
        have hls := less_ok (σ := σ) (a1 := h.ac) (a2 := h.ar) (b1 := g.ac) (b2 := g.ar)
        simp -implicitDefEqProofs only [go_sem, Nat.reduceBEq, Nat.reduceAdd, eq_self, true_and, and_true, and_self, List.getElem?_cons_zero, List.getElem?_cons_succ, Nat.reduceLeDiff, Nat.zero_add, Nat.reduceSub, Nat.le_refl, cgC, h1, hget2, hcl]
        refine ⟨⟨by omega, by omega, k4⟩, k3, ?_⟩
        refine call_at hls ?_
        rintro w τ2 ⟨hτ2, rfl⟩
        have hτ2 := hτ2.symm
        subst hτ2
        refine ⟨(Ext.refl _).kept, ?_⟩
        have hl2 : less h.ac h.ar g.ac g.ar = st.less (atS h) (atS g) := sless (atS h) (atS g)
        rw [hl2]
        cases hx : st.less (atS h) (atS g)
        · rw [hx] at hdep
          simp -implicitDefEqProofs only [go_sem, Nat.reduceBEq, Nat.reduceAdd, eq_self, true_and, and_true, and_self, List.getElem?_cons_zero, List.getElem?_cons_succ, Nat.reduceLeDiff, Nat.zero_add, Nat.reduceSub, Nat.le_refl, Bool.not_false]
          refine y3 _ _ ?_
          simp -implicitDefEqProofs only [go_sem, Nat.reduceBEq, Nat.reduceAdd, eq_self, true_and, and_true, and_self, List.getElem?_cons_zero, List.getElem?_cons_succ, Nat.reduceLeDiff, Nat.zero_add, Nat.reduceSub, Nat.le_refl, Nat.lt_irrefl]
          refine z3 _ _ ?_
          simp -implicitDefEqProofs only [go_sem, Nat.reduceBEq, Nat.reduceAdd, eq_self, true_and, and_true, and_self, List.getElem?_cons_zero, List.getElem?_cons_succ, Nat.reduceLeDiff, Nat.zero_add, Nat.reduceSub, Nat.le_refl, Nat.lt_irrefl]
          refine q2 _ _ ?_
          have := hbad hdep
          simp -implicitDefEqProofs only [go_sem, Nat.reduceBEq, Nat.reduceAdd, eq_self, true_and, and_true, and_self, List.getElem?_cons_zero, List.getElem?_cons_succ, Nat.reduceLeDiff, Nat.zero_add, Nat.reduceSub, Nat.le_refl, this]
          exact .refl _
        · rw [hx] at hdep
          simp -implicitDefEqProofs only [go_sem, Nat.reduceBEq, Nat.reduceAdd, eq_self, true_and, and_true, and_self, List.getElem?_cons_zero, List.getElem?_cons_succ, Nat.reduceLeDiff, Nat.zero_add, Nat.reduceSub, Nat.le_refl, Bool.not_true]
          refine y1 _ _ _ (.inr ?_) ⟨rfl, rfl, hdep⟩
          simp -implicitDefEqProofs only [go_sem, Nat.reduceBEq, Nat.reduceAdd, eq_self, true_and, and_true, and_self, List.getElem?_cons_zero, List.getElem?_cons_succ, Nat.reduceLeDiff, Nat.zero_add, Nat.reduceSub, Nat.le_refl, cgC]
          try exact rfl
    · simp -implicitDefEqProofs only [go_sem, Nat.reduceBEq, Nat.reduceAdd, eq_self, true_and, and_true, and_self, List.getElem?_cons_zero, List.getElem?_cons_succ, Nat.reduceLeDiff, Nat.zero_add, Nat.reduceSub, Nat.le_refl, cgC, hl, hget, h0]
      refine ⟨⟨by omega, by omega, k2⟩, k1, ?_⟩
      refine y1 _ _ _ (.inr ?_) ⟨rfl, rfl, by unfold depB; rw [h0]; rfl⟩
      simp -implicitDefEqProofs only [go_sem, Nat.reduceBEq, Nat.reduceAdd, eq_self, true_and, and_true, and_self, List.getElem?_cons_zero, List.getElem?_cons_succ, Nat.reduceLeDiff, Nat.zero_add, Nat.reduceSub, Nat.le_refl, cgC]
      try exact rfl
  have : y = g.deps.length := by
    have : ¬ y < g.deps.length := by simpa using hcc
    omega
  subst this
  have hdb : depsB gs g = true := g3
  simp -implicitDefEqProofs only [go_sem, Nat.reduceBEq, Nat.reduceAdd, eq_self, true_and, and_true, and_self, List.getElem?_cons_zero, List.getElem?_cons_succ, Nat.reduceLeDiff, Nat.zero_add, Nat.reduceSub, Nat.le_refl, cgC]
  refine z2 _ _ _ ?_
  clear z1 z2 z3
  have hnm := rnames_ok (σ := σ) (d := .sl b R z (intsV .i64 g.deps)) (g := g)
  simp -implicitDefEqProofs only [go_sem, Nat.reduceBEq, Nat.reduceAdd, eq_self, true_and, and_true, and_self, List.getElem?_cons_zero, List.getElem?_cons_succ, Nat.reduceLeDiff, Nat.zero_add, Nat.reduceSub, Nat.le_refl, cgC]
  refine call_at hnm ?_
  rintro w τ1 ⟨⟨m, hw, hm, hml⟩, a2, a3⟩
  refine ⟨kept_none, ?_⟩
  obtain ⟨b2, R2, z2, rfl, -, -⟩ := id hw
  have hml2 := spsV_len m
  have hnb : namesB gs g = m.all fun s => nmB gs g s := (names_all hm _).symm
  have hv1 := hv.ext a2
  have hd1 := hd.ext a2
  have hbe : behB gs g = m.all fun s => nmB gs g s := by unfold behB; rw [hdb, hnb]; rfl
  rw [hbe] at q1 q2
  simp -implicitDefEqProofs only [go_sem, Nat.reduceBEq, Nat.reduceAdd, eq_self, true_and, and_true, and_self, List.getElem?_cons_zero, List.getElem?_cons_succ, Nat.reduceLeDiff, Nat.zero_add, Nat.reduceSub, Nat.le_refl, cgC]
  refine loop_at (fun (y : Nat) => ⟨[(0, .v v), (3, .loc 3 0), (7, .v (.sl b2 R2 z2 (spsV m))), (8, .v (.int .i64 y))], [(3, cgC (.sl b R z (intsV .i64 g.deps)) g)]⟩) (fun y t => y ≤ m.length ∧ t = τ1 ∧ ((m.take y).all fun s => nmB gs g s) = true) (fun y => m.length - y) 0 ?_ ?_ ?_
  · refine .inr ?_
    simp -implicitDefEqProofs only [go_sem, Nat.reduceBEq, Nat.reduceAdd, eq_self, true_and, and_true, and_self, List.getElem?_cons_zero, List.getElem?_cons_succ, Nat.reduceLeDiff, Nat.zero_add, Nat.reduceSub, Nat.le_refl, cgC]
    try exact rfl
  · exact ⟨Nat.zero_le _, rfl, by simp⟩
  rintro y τ ⟨g1, hτ, g3⟩ Z z1 z2 z3
  have hτ := hτ.symm
  subst hτ
  simp -implicitDefEqProofs only [go_sem, Nat.reduceBEq, Nat.reduceAdd, eq_self, true_and, and_true, and_self, List.getElem?_cons_zero, List.getElem?_cons_succ, Nat.reduceLeDiff, Nat.zero_add, Nat.reduceSub, Nat.le_refl, cgC, hml2]
  refine CondW_b (fun hcc => ?_) (fun hcc => ?_)
  · have hi : y < m.length := by simpa using hcc
    have hget := spsV_get hi
    have hwy : IntKind.i64.wrap ((y : Int) + 1) = ((y + 1 : Nat) : Int) := by rw [i64_in _ (by omega)]; omega
    obtain ⟨k1, k2⟩ := rdl hw (by cases m <;> simp [spsV] at hi ⊢)
    have hal : ((m.take (y + 1)).all fun s => nmB gs g s) = nmB gs g m[y] := by rw [all_tk hi, g3, Bool.true_and]
    have hbad : nmB gs g m[y] = false → (m.all fun s => nmB gs g s) = false := fun h => by
      rw [List.all_eq_false]
      exact ⟨m[y], List.getElem_mem hi, by rw [h]; exact Bool.false_ne_true⟩
    generalize m[y] = s at hget hal hbad
    have hfd := rfind_ok (x := s) hv1 hlen
    simp only [spV, spC] at hfd
    simp -implicitDefEqProofs only [go_sem, Nat.reduceBEq, Nat.reduceAdd, eq_self, true_and, and_true, and_self, List.getElem?_cons_zero, List.getElem?_cons_succ, Nat.reduceLeDiff, Nat.zero_add, Nat.reduceSub, Nat.le_refl, cgC, hml2, hget, spC]
    refine ⟨⟨by omega, by omega, k2⟩, k1, ?_⟩
    refine call_at hfd ?_
    rintro w τ2 ⟨rfl, hτ2⟩
    have hτ2 := hτ2.symm
    subst hτ2
    refine ⟨kept_none, ?_⟩
    have hdep : nmB gs g s = match gs.find? (isA s) with
      | some h => decide (h.seq ≤ atD g.deps h.ar)
      | none => false := rfl
    rcases fidx_find (isA s) gs with ⟨e1, e2⟩ | ⟨i, hi2, e1, e2⟩
    · rw [e2] at hdep
      rw [e1]
      have h1 : decide ((-1 : Int) < 0) = true := by decide
      simp -implicitDefEqProofs only [go_sem, Nat.reduceBEq, Nat.reduceAdd, eq_self, true_and, and_true, and_self, List.getElem?_cons_zero, List.getElem?_cons_succ, Nat.reduceLeDiff, Nat.zero_add, Nat.reduceSub, Nat.le_refl, cgC, h1]
      refine z3 _ _ ?_
      simp -implicitDefEqProofs only [go_sem, Nat.reduceBEq, Nat.reduceAdd, eq_self, true_and, and_true, and_self, List.getElem?_cons_zero, List.getElem?_cons_succ, Nat.reduceLeDiff, Nat.zero_add, Nat.reduceSub, Nat.le_refl, Nat.lt_irrefl]
      refine q2 _ _ ?_
      have := hbad hdep
      simp -implicitDefEqProofs only [go_sem, Nat.reduceBEq, Nat.reduceAdd, eq_self, true_and, and_true, and_self, List.getElem?_cons_zero, List.getElem?_cons_succ, Nat.reduceLeDiff, Nat.zero_add, Nat.reduceSub, Nat.le_refl, this]
      exact ⟨a2, a3⟩
    · rw [e2] at hdep
      rw [e1]
      have h1 : decide ((i : Int) < 0) = false := by rw [decide_eq_false_iff_not]; omega
      obtain ⟨l, rfl, hv2, hds⟩ := id hv1
      obtain ⟨b', R', z', rfl, -, -⟩ := id hv2
      have hi2 : i < l.length := by simpa using hi2
      have hcl := cgsV_len l
      have hget2 := cgsV_get hi2
      obtain ⟨k3, k4⟩ := rdl hv2 (cgsV_ne hi2)
      simp only [List.getElem_map] at hdep
      generalize l[i] = p at hget2 hdep
      obtain ⟨d2, h⟩ := p
      simp only at hget2 hdep
      have hwi := within_ok (d := d2) (g := h) hd1
      simp only [cgV, cgC] at hwi
      simp -implicitDefEqProofs only [go_sem, Nat.reduceBEq, Nat.reduceAdd, eq_self, true_and, and_true, and_self, List.getElem?_cons_zero, List.getElem?_cons_succ, Nat.reduceLeDiff, Nat.zero_add, Nat.reduceSub, Nat.le_refl, cgC, h1, hget2, hcl]
      refine ⟨⟨by omega, by omega, k4⟩, k3, ?_⟩
      refine call_at hwi ?_
      rintro w τ2 ⟨rfl, hτ2⟩
      have hτ2 := hτ2.symm
      subst hτ2
      refine ⟨(Ext.refl _).kept, ?_⟩
      cases hx : decide (h.seq ≤ atD g.deps h.ar)
      · rw [hx] at hdep
        simp -implicitDefEqProofs only [go_sem, Nat.reduceBEq, Nat.reduceAdd, eq_self, true_and, and_true, and_self, List.getElem?_cons_zero, List.getElem?_cons_succ, Nat.reduceLeDiff, Nat.zero_add, Nat.reduceSub, Nat.le_refl, Bool.not_false]
        refine z3 _ _ ?_
        simp -implicitDefEqProofs only [go_sem, Nat.reduceBEq, Nat.reduceAdd, eq_self, true_and, and_true, and_self, List.getElem?_cons_zero, List.getElem?_cons_succ, Nat.reduceLeDiff, Nat.zero_add, Nat.reduceSub, Nat.le_refl, Nat.lt_irrefl]
        refine q2 _ _ ?_
        have := hbad hdep
        simp -implicitDefEqProofs only [go_sem, Nat.reduceBEq, Nat.reduceAdd, eq_self, true_and, and_true, and_self, List.getElem?_cons_zero, List.getElem?_cons_succ, Nat.reduceLeDiff, Nat.zero_add, Nat.reduceSub, Nat.le_refl, this]
        exact ⟨a2, a3⟩
      · rw [hx] at hdep
        simp -implicitDefEqProofs only [go_sem, Nat.reduceBEq, Nat.reduceAdd, eq_self, true_and, and_true, and_self, List.getElem?_cons_zero, List.getElem?_cons_succ, Nat.reduceLeDiff, Nat.zero_add, Nat.reduceSub, Nat.le_refl, Bool.not_true, hwy]
        refine z1 (y + 1) _ _ (.inr ?_) (by omega) ⟨by omega, rfl, by rw [hal]; exact hdep⟩
        simp -implicitDefEqProofs only [go_sem, Nat.reduceBEq, Nat.reduceAdd, eq_self, true_and, and_true, and_self, List.getElem?_cons_zero, List.getElem?_cons_succ, Nat.reduceLeDiff, Nat.zero_add, Nat.reduceSub, Nat.le_refl, cgC]
        try exact rfl
  · rw [List.take_of_length_le (by have : ¬ y < m.length := by simpa using hcc
                                   omega)] at g3
    simp -implicitDefEqProofs only [go_sem, Nat.reduceBEq, Nat.reduceAdd, eq_self, true_and, and_true, and_self, List.getElem?_cons_zero, List.getElem?_cons_succ, Nat.reduceLeDiff, Nat.zero_add, Nat.reduceSub, Nat.le_refl, Nat.lt_irrefl]
    refine z2 _ _ _ ?_
    simp -implicitDefEqProofs only [go_sem, Nat.reduceBEq, Nat.reduceAdd, eq_self, true_and, and_true, and_self, List.getElem?_cons_zero, List.getElem?_cons_succ, Nat.reduceLeDiff, Nat.zero_add, Nat.reduceSub, Nat.le_refl, Nat.lt_irrefl]
    refine q2 _ _ ?_
    simp -implicitDefEqProofs only [go_sem, Nat.reduceBEq, Nat.reduceAdd, eq_self, true_and, and_true, and_self, List.getElem?_cons_zero, List.getElem?_cons_succ, Nat.reduceLeDiff, Nat.zero_add, Nat.reduceSub, Nat.le_refl, g3]
    exact ⟨a2, a3⟩
end
end Go.VL.opl

namespace Go.VL.opl
open Go Go.VL Go.Proofs Go.IntWalk Go.VL.st Go.VL.row

def lessC (g h : Cg) : Bool := st.less (atS g) (atS h)
/-- A change at its place. -/
def putC (g : Cg) : List Cg → List Cg
  | [] => [g]
  | h :: t => bif lessC g h then g :: h :: t else h :: putC g t
theorem putC_none {g : Cg} : ∀ {L : List Cg}, L.any (lessC g) = false → putC g L = L ++ [g]
  | [], _ => rfl
  | h :: t, e => by
    rw [List.any_cons, Bool.or_eq_false_iff] at e
    simp only [putC, e.1, cond_false, putC_none e.2, List.cons_append]
theorem putC_snoc {g h : Cg} : ∀ {L : List Cg}, L.any (lessC g) = true → putC g (L ++ [h]) = putC g L ++ [h]
  | [], e => by cases e
  | k :: t, e => by
    cases hk : lessC g k
    · rw [List.any_cons, hk, Bool.false_or] at e
      simp only [List.cons_append, putC, hk, cond_false, putC_snoc e]
    · simp only [List.cons_append, putC, hk, cond_true]
theorem putC_first {g h : Cg} : ∀ {L : List Cg}, L.any (lessC g) = false → lessC g h = true → putC g (L ++ [h]) = L ++ [g] ++ [h]
  | [], _, hh => by simp [putC, hh]
  | k :: t, e, hh => by
    rw [List.any_cons, Bool.or_eq_false_iff] at e
    simp only [List.cons_append, putC, e.1, cond_false, putC_first e.2 hh]
theorem putC_len (g : Cg) : ∀ L : List Cg, (putC g L).length = L.length + 1
  | [] => rfl
  | h :: t => by
    simp only [putC]
    cases lessC g h
    · simp [putC_len g t]
    · simp
theorem putC_mem {g x : Cg} : ∀ {L : List Cg}, x ∈ putC g L ↔ x = g ∨ x ∈ L
  | [] => by simp [putC]
  | h :: t => by
    simp only [putC]
    cases lessC g h
    · simp only [cond_false, List.mem_cons, putC_mem (L := t)]
      constructor
      · rintro (h | h | h) <;> simp [h]
      · rintro (h | h | h) <;> simp [h]
    · simp
/-- How far Put is. -/
def PutI (g : Cg) (L : List Cg) (dn : Bool) (O : List Cg) : Prop := (dn = false ∧ O = L ∧ L.any (lessC g) = false) ∨ (dn = true ∧ O = putC g L ∧ L.any (lessC g) = true)
def PutM (g : Cg) (L : List Cg) (h : Cg) (dn : Bool) (O : List Cg) : Prop := (dn = false ∧ O = L ∧ L.any (lessC g) = false ∧ lessC g h = false) ∨ (dn = true ∧ O ++ [h] = putC g (L ++ [h]) ∧ (L ++ [h]).any (lessC g) = true)
theorem PutM.step {g h : Cg} {L O : List Cg} {dn : Bool} (k : PutM g L h dn O) : PutI g (L ++ [h]) dn (O ++ [h]) := by
  rcases k with ⟨h1, h2, h3, h4⟩ | ⟨h1, h2, h3⟩
  · exact .inl ⟨h1, by rw [h2], by rw [List.any_append, h3]; simp [h4]⟩
  · exact .inr ⟨h1, h2, h3⟩
/-- What is appended to. -/
structure Acc13 (σ τ : St) (q : Nat) (O : List (V × Cg)) : Prop where
  rds : Rds (St.but τ q) O
  ext : Ext σ τ
  objs : τ.objs = σ.objs
  live : τ.live[q]? = some true
  ge : σ.live.length ≤ q
theorem Acc13.rd {σ τ : St} {q : Nat} {O : List (V × Cg)} (h : Acc13 σ τ q O) : RdC τ (.sl false (.own q) 13 (cgsV O)) (O.map (·.2)) :=
  ⟨O, rfl, ⟨_, _, _, rfl, by simp, .inr ⟨h.live, rfl⟩⟩, h.rds.ext (but_ext _ _)⟩
theorem Acc13.new {σ τ : St} (h : Ext σ τ) (ho : τ.objs = σ.objs) : Acc13 σ ⟨τ.objs, τ.live ++ [true]⟩ τ.live.length [] :=
  ⟨(by intro p hp; cases hp), ext_push h, ho, live_last _ _, h.llen⟩
theorem cgsV_snoc (O : List (V × Cg)) (d : V) (g : Cg) : cgsV O ++ [cgC d g] = cgsV (O ++ [(d, g)]) := by simp [cgsV]
/-- Behind an append. -/
theorem Acc13.app {σ τ τ2 : St} {q : Nat} {O : List (V × Cg)} {p : V × Cg} (h : Acc13 σ τ q O) (he : Ext τ τ2) (ho : τ2.objs = τ.objs)
    (hp : RdS (St.but ⟨τ2.objs, kill (τ2.live ++ [true]) (.own q) ++ [true]⟩ (τ2.live ++ [true]).length) p.1 1 (intsV .i64 p.2.deps)) :
    Acc13 σ ⟨τ2.objs, kill (τ2.live ++ [true]) (.own q) ++ [true]⟩ (τ2.live ++ [true]).length (O ++ [p]) := by
  refine ⟨fun x hx => ?_, ext_kill (ext_push (h.ext.trans he)) h.ge, ho.trans h.objs, live_last' _ _ _, ?_⟩
  · rcases List.mem_append.1 hx with hx | hx
    · exact (h.rds x hx).ext (but_app he)
    · rw [List.mem_singleton] at hx
      rw [hx]; exact hp
  · have := (h.ext.trans he).llen
    simp only [List.length_append, List.length_cons, List.length_nil]; omega
/-- A slice of before. -/
theorem Acc13.old {σ τ τ2 : St} {q n : Nat} {O : List (V × Cg)} {x : V} {es : List (List V)} (h : Acc13 σ τ q O) (he : Ext τ τ2) (hx : RdS σ x n es) :
    RdS (St.but ⟨τ2.objs, kill (τ2.live ++ [true]) (.own q) ++ [true]⟩ (τ2.live ++ [true]).length) x n es := by
  refine rdS_lv hx fun r hr => ?_
  have h1 := (List.getElem?_eq_some_iff.1 hr).1
  have := h.ge
  exact live_app (he.live _ (h.ext.live _ hr)) (by omega)
/-- A new one. -/
theorem Acc13.new1 {τ τ2 : St} {q n : Nat} {x : V} {es : List (List V)} (hq : q < τ.live.length) (hx : NewS τ τ2 x n es) :
    RdS (St.but ⟨τ2.objs, kill (τ2.live ++ [true]) (.own q) ++ [true]⟩ (τ2.live ++ [true]).length) x n es := by
  obtain ⟨r, rfl, h1, h2⟩ := hx
  exact ⟨_, _, _, rfl, by simp, .inr ⟨live_app h1 (by omega), rfl⟩⟩
theorem Acc13.lt {σ τ : St} {q : Nat} {O : List (V × Cg)} (h : Acc13 σ τ q O) : q < τ.live.length := (List.getElem?_eq_some_iff.1 h.live).1
/-- It comes out of a list, or its slice is late. -/
def FromL (n : Nat) (l : List (V × Cg)) (p : V × Cg) : Prop := p ∈ l ∨ ∃ r, p.1 = .sl false (.own r) 1 (intsV .i64 p.2.deps) ∧ n ≤ r
def SrcC (n : Nat) (τ : St) (l : List (V × Cg)) (u : V) (L : List Cg) : Prop := ∃ O q, u = .sl false (.own q) 13 (cgsV O) ∧ n ≤ q ∧ τ.live[q]? = some true ∧ O.map (·.2) = L ∧ Rds τ O ∧ ∀ p ∈ O, FromL n l p
section
variable {σ : St} {v d f u : V} {g h : Cg} {gs : List Cg} {x : Sp} {r n room : Int} {l m : List Int}
set_option maxRecDepth 100000 in
set_option maxHeartbeats 4000000 in
theorem why_ok (hv : RdC σ v gs) (hlen : gs.length ≤ 2000000) (hd : RdS σ d 1 (intsV .i64 g.deps)) (hdl : g.deps.length ≤ 2000000) (hgl : ∀ h ∈ gs, h.deps.length ≤ 2000000) (hnl : g.name.length < 4611686018427387904) :
    CallA Try.prog 42 [v, .int .i64 room, cgV d g] σ fun w σ' => w = .int .i64 (whyR gs room g) ∧ Ext σ σ' ∧ σ'.objs = σ.objs := by
  refine fn_at Try.func42 (by decide) comp42 rfl fun Q q1 q2 => ?_
  have hck := rchk_ok (σ := σ) hd hnl
  simp only [cgV] at hck
  unfold whyR at q1 q2
  simp -implicitDefEqProofs only [go_sem, Nat.reduceBEq, Nat.reduceAdd, eq_self, true_and, and_true, and_self, List.getElem?_cons_zero, List.getElem?_cons_succ, Nat.reduceLeDiff, Nat.zero_add, Nat.reduceSub, Nat.le_refl, c42, cgV, cgC]
  refine call_at hck ?_
  rintro w τ ⟨⟨e1, o1⟩, rfl⟩
  refine ⟨kept_none, ?_⟩
  cases hc : decide (chkI g = 0) <;> rw [hc] at q2
  · have hck := rchk_ok (σ := τ) (hd.ext e1) hnl
    simp only [cgV, cgC] at hck
    simp -implicitDefEqProofs only [go_sem, Nat.reduceBEq, Nat.reduceAdd, eq_self, true_and, and_true, and_self, List.getElem?_cons_zero, List.getElem?_cons_succ, Nat.reduceLeDiff, Nat.zero_add, Nat.reduceSub, Nat.le_refl, hc, cgC, Bool.not_false]
    refine call_at hck ?_
    rintro w τ2 ⟨⟨e2, o2⟩, rfl⟩
    refine ⟨kept_none, ?_⟩
    simp -implicitDefEqProofs only [go_sem, Nat.reduceBEq, Nat.reduceAdd, eq_self, true_and, and_true, and_self, List.getElem?_cons_zero, List.getElem?_cons_succ, Nat.reduceLeDiff, Nat.zero_add, Nat.reduceSub, Nat.le_refl, Nat.lt_irrefl]
    refine q2 _ _ ?_
    simp -implicitDefEqProofs only [go_sem, Nat.reduceBEq, Nat.reduceAdd, eq_self, true_and, and_true, and_self, List.getElem?_cons_zero, List.getElem?_cons_succ, Nat.reduceLeDiff, Nat.zero_add, Nat.reduceSub, Nat.le_refl, Nat.lt_irrefl]
    first | exact ⟨e1.trans e2, o2.trans o1⟩ | exact ⟨rfl, e1.trans e2, o2.trans o1⟩
  have hok : chkI g = 0 := of_decide_eq_true hc
  have har : 0 ≤ g.ar ∧ g.ar < 64 := by
    unfold chkI at hok
    cases h1 : (decide (g.kind < 1) || decide (5 < g.kind)) <;> rw [h1] at hok
    case true => cases hok
    simp only [cond_false] at hok
    cases h2 : right g.ac g.ar <;> rw [h2] at hok
    · cases hok
    · simp only [right, Bool.and_eq_true, decide_eq_true_eq] at h2
      exact ⟨h2.2.2.1, h2.2.2.2⟩
  have hseq : 1 ≤ g.seq ∧ g.seq ≤ 1099511627776 := by
    unfold chkI at hok
    cases h1 : (decide (g.kind < 1) || decide (5 < g.kind)) <;> rw [h1] at hok
    case true => cases hok
    simp only [cond_false] at hok
    cases h2 : right g.ac g.ar <;> rw [h2] at hok
    · cases hok
    · cases h3 : (decide (g.seq < 1) || decide (g.ac < g.seq)) <;> rw [h3] at hok
      · simp only [right, Bool.and_eq_true, decide_eq_true_eq] at h2
        simp only [Bool.or_eq_false_iff, decide_eq_false_iff_not] at h3
        omega
      · cases hok
  have hv1 := hv.ext e1
  have hd1 := hd.ext e1
  have hfd := rfind_ok (x := atS g) hv1 hlen
  simp only [spV, spC, atS] at hfd
  simp -implicitDefEqProofs only [go_sem, Nat.reduceBEq, Nat.reduceAdd, eq_self, true_and, and_true, and_self, List.getElem?_cons_zero, List.getElem?_cons_succ, Nat.reduceLeDiff, Nat.zero_add, Nat.reduceSub, Nat.le_refl, hc, cgC, Bool.not_true]
  refine call_at hfd ?_
  rintro w τ2 ⟨rfl, hτ2⟩
  have hτ2 := hτ2.symm
  subst hτ2
  refine ⟨kept_none, ?_⟩
  simp only [Bool.not_true, cond_false] at q1 q2
  rcases fidx_find (isA (atS g)) gs with ⟨f1, f2⟩ | ⟨i, hi2, f1, f2⟩
  case inr =>
    have f1' : fidx (isA { c := g.ac, r := g.ar }) gs = i := f1
    rw [f2] at q1 q2
    simp only at q1 q2
    rw [f1']
    have h1 : decide ((i : Int) ≥ 0) = true := by rw [decide_eq_true_eq]; omega
    obtain ⟨l, rfl, hv2, hds⟩ := id hv1
    obtain ⟨b', R', z', rfl, -, -⟩ := id hv2
    have hi2 : i < l.length := by simpa using hi2
    have hcl := cgsV_len l
    have hget2 := cgsV_get hi2
    obtain ⟨k3, k4⟩ := rdl hv2 (cgsV_ne hi2)
    have hmem := hds _ (List.getElem_mem hi2)
    have hdlh := hgl l[i].2 (List.mem_map.2 ⟨_, List.getElem_mem hi2, rfl⟩)
    simp only [List.getElem_map] at q1 q2
    generalize l[i] = p at hget2 q1 q2 hmem hdlh
    obtain ⟨d2, h⟩ := p
    simp only at hget2 q1 q2 hmem hdlh
    have hsa := same_ok hmem hd1 (by omega)
    simp only [cgV, cgC] at hsa
    simp -implicitDefEqProofs only [go_sem, Nat.reduceBEq, Nat.reduceAdd, eq_self, true_and, and_true, and_self, List.getElem?_cons_zero, List.getElem?_cons_succ, Nat.reduceLeDiff, Nat.zero_add, Nat.reduceSub, Nat.le_refl, cgC, h1, hget2, hcl]
    refine ⟨⟨by omega, by omega, k4⟩, k3, ?_⟩
    refine call_at hsa ?_
    rintro w τ2 ⟨hτ2, rfl⟩
    have hτ2 := hτ2.symm
    subst hτ2
    refine ⟨(Ext.refl _).kept, ?_⟩
    cases hx : sameC h g <;> rw [hx] at q1 q2
    · simp -implicitDefEqProofs only [go_sem, Nat.reduceBEq, Nat.reduceAdd, eq_self, true_and, and_true, and_self, List.getElem?_cons_zero, List.getElem?_cons_succ, Nat.reduceLeDiff, Nat.zero_add, Nat.reduceSub, Nat.le_refl, h1]
      refine q2 _ _ ?_
      simp -implicitDefEqProofs only [go_sem, Nat.reduceBEq, Nat.reduceAdd, eq_self, true_and, and_true, and_self, List.getElem?_cons_zero, List.getElem?_cons_succ, Nat.reduceLeDiff, Nat.zero_add, Nat.reduceSub, Nat.le_refl, Nat.lt_irrefl]
      first | exact ⟨e1, o1⟩ | exact ⟨rfl, e1, o1⟩
    · simp -implicitDefEqProofs only [go_sem, Nat.reduceBEq, Nat.reduceAdd, eq_self, true_and, and_true, and_self, List.getElem?_cons_zero, List.getElem?_cons_succ, Nat.reduceLeDiff, Nat.zero_add, Nat.reduceSub, Nat.le_refl, Nat.lt_irrefl]
      refine q2 _ _ ?_
      simp -implicitDefEqProofs only [go_sem, Nat.reduceBEq, Nat.reduceAdd, eq_self, true_and, and_true, and_self, List.getElem?_cons_zero, List.getElem?_cons_succ, Nat.reduceLeDiff, Nat.zero_add, Nat.reduceSub, Nat.le_refl, Nat.lt_irrefl]
      first | exact ⟨e1, o1⟩ | exact ⟨rfl, e1, o1⟩
  have f1' : fidx (isA { c := g.ac, r := g.ar }) gs = -1 := f1
  rw [f2] at q1 q2
  simp only at q1 q2
  rw [f1']
  have h1 : decide ((-1 : Int) ≥ 0) = false := by decide
  have hown := rown_ok (r := g.ar) (n := g.seq) hv1 hlen
  simp -implicitDefEqProofs only [go_sem, Nat.reduceBEq, Nat.reduceAdd, eq_self, true_and, and_true, and_self, List.getElem?_cons_zero, List.getElem?_cons_succ, Nat.reduceLeDiff, Nat.zero_add, Nat.reduceSub, Nat.le_refl, cgC, h1]
  refine call_at hown ?_
  rintro w τ2 ⟨rfl, hτ2⟩
  have hτ2 := hτ2.symm
  subst hτ2
  refine ⟨kept_none, ?_⟩
  rcases fidx_find (isO g.ar g.seq) gs with ⟨f3, f4⟩ | ⟨i, hi2, f3, f4⟩
  case inr =>
    rw [f4] at q1 q2
    rw [f3]
    have h2 : decide ((i : Int) ≥ 0) = true := by rw [decide_eq_true_eq]; omega
    simp -implicitDefEqProofs only [go_sem, Nat.reduceBEq, Nat.reduceAdd, eq_self, true_and, and_true, and_self, List.getElem?_cons_zero, List.getElem?_cons_succ, Nat.reduceLeDiff, Nat.zero_add, Nat.reduceSub, Nat.le_refl, h2]
    refine q2 _ _ ?_
    simp -implicitDefEqProofs only [go_sem, Nat.reduceBEq, Nat.reduceAdd, eq_self, true_and, and_true, and_self, List.getElem?_cons_zero, List.getElem?_cons_succ, Nat.reduceLeDiff, Nat.zero_add, Nat.reduceSub, Nat.le_refl, Nat.lt_irrefl]
    first | exact ⟨e1, o1⟩ | exact ⟨rfl, e1, o1⟩
  rw [f4] at q1 q2
  rw [f3]
  simp only [Option.isSome_none, cond_false] at q1 q2
  simp -implicitDefEqProofs only [go_sem, Nat.reduceBEq, Nat.reduceAdd, eq_self, true_and, and_true, and_self, List.getElem?_cons_zero, List.getElem?_cons_succ, Nat.reduceLeDiff, Nat.zero_add, Nat.reduceSub, Nat.le_refl, h1]
  refine call_at (rclk_ok hv1 hlen) ?_
  rintro w τ3 ⟨⟨out, zz, t1, t2⟩, e3, o3⟩
  refine ⟨kept_none, ?_⟩
  have hat := rat_ok (r := g.ar) t2
  rw [atD_trims t1, atD_cnts _ har] at hat
  have hcn := cnt_le gs g.ar
  have hw : IntKind.i64.wrap ((cnt gs g.ar : Int) + 1) = (cnt gs g.ar : Int) + 1 := by rw [i64_in _ (by omega)]
  have hd3 := hd1.ext e3
  have hun : underI g.deps out = underI g.deps (cnts gs) := by
    unfold underI
    refine congrArg (fun f => (List.range g.deps.length).all f) (funext fun r => ?_)
    rw [atD_trims t1]
  have hub := under_ok hd3 t2 (by omega)
  rw [hun] at hub
  simp -implicitDefEqProofs only [go_sem, Nat.reduceBEq, Nat.reduceAdd, eq_self, true_and, and_true, and_self, List.getElem?_cons_zero, List.getElem?_cons_succ, Nat.reduceLeDiff, Nat.zero_add, Nat.reduceSub, Nat.le_refl, cgC]
  refine call_at hat ?_
  rintro w' τ4 ⟨hτ4, rfl⟩
  have hτ4 := hτ4.symm
  subst hτ4
  refine ⟨(Ext.refl _).kept, ?_⟩
  cases h2 : decide (g.seq = (cnt gs g.ar : Int) + 1) <;> rw [h2] at q1 q2
  · simp -implicitDefEqProofs only [go_sem, Nat.reduceBEq, Nat.reduceAdd, eq_self, true_and, and_true, and_self, List.getElem?_cons_zero, List.getElem?_cons_succ, Nat.reduceLeDiff, Nat.zero_add, Nat.reduceSub, Nat.le_refl, hw, h2, Bool.not_false]
    refine q2 _ _ ?_
    simp -implicitDefEqProofs only [go_sem, Nat.reduceBEq, Nat.reduceAdd, eq_self, true_and, and_true, and_self, List.getElem?_cons_zero, List.getElem?_cons_succ, Nat.reduceLeDiff, Nat.zero_add, Nat.reduceSub, Nat.le_refl, Nat.lt_irrefl]
    first | exact ⟨e1.trans e3, o3.trans o1⟩ | exact ⟨rfl, e1.trans e3, o3.trans o1⟩
  simp -implicitDefEqProofs only [go_sem, Nat.reduceBEq, Nat.reduceAdd, eq_self, true_and, and_true, and_self, List.getElem?_cons_zero, List.getElem?_cons_succ, Nat.reduceLeDiff, Nat.zero_add, Nat.reduceSub, Nat.le_refl, hw, h2, Bool.not_true, cgC]
  refine call_at hub ?_
  rintro w' τ4 ⟨rfl, hτ4⟩
  have hτ4 := hτ4.symm
  subst hτ4
  refine ⟨(Ext.refl _).kept, ?_⟩
  simp only [Bool.not_true, Bool.false_or] at q1 q2
  cases h3 : underI g.deps (cnts gs) <;> rw [h3] at q1 q2
  · simp -implicitDefEqProofs only [go_sem, Nat.reduceBEq, Nat.reduceAdd, eq_self, true_and, and_true, and_self, List.getElem?_cons_zero, List.getElem?_cons_succ, Nat.reduceLeDiff, Nat.zero_add, Nat.reduceSub, Nat.le_refl, Bool.not_false]
    refine q2 _ _ ?_
    simp -implicitDefEqProofs only [go_sem, Nat.reduceBEq, Nat.reduceAdd, eq_self, true_and, and_true, and_self, List.getElem?_cons_zero, List.getElem?_cons_succ, Nat.reduceLeDiff, Nat.zero_add, Nat.reduceSub, Nat.le_refl, Nat.lt_irrefl]
    first | exact ⟨e1.trans e3, o3.trans o1⟩ | exact ⟨rfl, e1.trans e3, o3.trans o1⟩
  have hbe := behind_ok (hv1.ext e3) hlen hd3 hdl
  simp only [cgV, cgC] at hbe
  simp -implicitDefEqProofs only [go_sem, Nat.reduceBEq, Nat.reduceAdd, eq_self, true_and, and_true, and_self, List.getElem?_cons_zero, List.getElem?_cons_succ, Nat.reduceLeDiff, Nat.zero_add, Nat.reduceSub, Nat.le_refl, Bool.not_true, cgC]
  refine call_at hbe ?_
  rintro w' τ4 ⟨rfl, e4, o4⟩
  refine ⟨kept_none, ?_⟩
  simp only [Bool.not_true, cond_false] at q1 q2
  cases h4 : behB gs g <;> rw [h4] at q1 q2
  · simp -implicitDefEqProofs only [go_sem, Nat.reduceBEq, Nat.reduceAdd, eq_self, true_and, and_true, and_self, List.getElem?_cons_zero, List.getElem?_cons_succ, Nat.reduceLeDiff, Nat.zero_add, Nat.reduceSub, Nat.le_refl, Bool.not_false]
    refine q2 _ _ ?_
    simp -implicitDefEqProofs only [go_sem, Nat.reduceBEq, Nat.reduceAdd, eq_self, true_and, and_true, and_self, List.getElem?_cons_zero, List.getElem?_cons_succ, Nat.reduceLeDiff, Nat.zero_add, Nat.reduceSub, Nat.le_refl, Nat.lt_irrefl]
    first | exact ⟨(e1.trans e3).trans e4, o4.trans (o3.trans o1)⟩ | exact ⟨rfl, (e1.trans e3).trans e4, o4.trans (o3.trans o1)⟩
  simp only [Bool.not_true, cond_false] at q1 q2
  obtain ⟨l, rfl, hv2, hds⟩ := id hv1
  obtain ⟨b', R', z', rfl, -, -⟩ := id hv2
  have hcl := cgsV_len l
  rw [map2_len] at q1 q2
  cases h5 : decide ((l.length : Int) ≥ room) <;> rw [h5] at q1 q2
  all_goals
    simp -implicitDefEqProofs only [go_sem, Nat.reduceBEq, Nat.reduceAdd, eq_self, true_and, and_true, and_self, List.getElem?_cons_zero, List.getElem?_cons_succ, Nat.reduceLeDiff, Nat.zero_add, Nat.reduceSub, Nat.le_refl, Bool.not_true, hcl, h5]
    refine q2 _ _ ?_
    simp -implicitDefEqProofs only [go_sem, Nat.reduceBEq, Nat.reduceAdd, eq_self, true_and, and_true, and_self, List.getElem?_cons_zero, List.getElem?_cons_succ, Nat.reduceLeDiff, Nat.zero_add, Nat.reduceSub, Nat.le_refl, Nat.lt_irrefl]
    first | exact ⟨(e1.trans e3).trans e4, o4.trans (o3.trans o1)⟩ | exact ⟨rfl, (e1.trans e3).trans e4, o4.trans (o3.trans o1)⟩
set_option maxRecDepth 100000 in
set_option maxHeartbeats 4000000 in
theorem rput_src {l : List (V × Cg)} (hv : RdS σ v 13 (cgsV l)) (hds : Rds σ l) (hlen : l.length ≤ 1000000) (hd : RdS σ d 1 (intsV .i64 g.deps)) (hdl : g.deps.length ≤ 2000000) :
    CallA Try.prog 59 [v, cgV d g] σ fun w σ' => RdC σ' w (putC g (l.map (·.2))) ∧ SrcC σ.live.length σ' l w (putC g (l.map (·.2))) ∧ Ext σ σ' ∧ σ'.objs = σ.objs := by
  obtain ⟨b, R, z, rfl, -, -⟩ := id hv
  refine fn_at Try.func59 (by decide) comp59 rfl fun Q q1 q2 => ?_
  have hcl := cgsV_len l
  simp -implicitDefEqProofs only [go_sem, Nat.reduceBEq, Nat.reduceAdd, eq_self, true_and, and_true, and_self, List.getElem?_cons_zero, List.getElem?_cons_succ, Nat.reduceLeDiff, Nat.zero_add, Nat.reduceSub, Nat.le_refl, c59, cgV, cgC]
  have hA0 := Acc13.new (Ext.refl σ) rfl
  refine loop_at (fun (y : Nat × Bool × List (V × Cg) × Nat) => ⟨[(0, .v (.sl b R z (cgsV l))), (3, .loc 3 0), (5, .v (.sl false (.own y.2.2.2) 13 (cgsV y.2.2.1))), (6, .v (.bool y.2.1)), (7, .v (.int .i64 y.1))], [(3, cgC d g)]⟩)
    (fun y t => y.1 ≤ l.length ∧ PutI g ((l.map (·.2)).take y.1) y.2.1 (y.2.2.1.map (·.2)) ∧ Acc13 σ t y.2.2.2 y.2.2.1 ∧ ∀ p ∈ y.2.2.1, FromL σ.live.length l p) (fun y => l.length - y.1) (0, false, [], σ.live.length) ?_ ?_ ?_
  · refine .inr ?_
    simp -implicitDefEqProofs only [go_sem, Nat.reduceBEq, Nat.reduceAdd, eq_self, true_and, and_true, and_self, List.getElem?_cons_zero, List.getElem?_cons_succ, Nat.reduceLeDiff, Nat.zero_add, Nat.reduceSub, Nat.le_refl, cgC]
    try exact ⟨rfl, rfl⟩
  · exact ⟨Nat.zero_le _, .inl ⟨rfl, by simp, by simp⟩, hA0, fun p hp => by cases hp⟩
  rintro ⟨y, dn, O, q⟩ τ ⟨g1, g2, g3, g9⟩ Z z1 z2 z3
  simp only at g1 g2 g3 g9
  have hDl : ((l.map (·.2)).take y).length ≤ y := by rw [List.length_take]; omega
  have hOl : O.length ≤ y + 1 := by
    rcases g2 with ⟨-, h, -⟩ | ⟨-, h, -⟩
    · have := congrArg List.length h; simp only [List.length_map, List.length_take] at this; omega
    · have := congrArg List.length h; rw [putC_len] at this; simp only [List.length_map, List.length_take] at this; omega
  simp -implicitDefEqProofs only [go_sem, Nat.reduceBEq, Nat.reduceAdd, eq_self, true_and, and_true, and_self, List.getElem?_cons_zero, List.getElem?_cons_succ, Nat.reduceLeDiff, Nat.zero_add, Nat.reduceSub, Nat.le_refl, hcl]
  refine CondW_b (fun hcc => ?_) (fun hcc => ?_)
  · have hi : y < l.length := by simpa using hcc
    have hget := cgsV_get hi
    have hwy : IntKind.i64.wrap ((y : Int) + 1) = ((y + 1 : Nat) : Int) := by rw [i64_in _ (by omega)]; omega
    obtain ⟨k1, k2⟩ := rdl (hv.ext g3.ext) (cgsV_ne hi)
    have htk : (l.map (·.2)).take (y + 1) = (l.map (·.2)).take y ++ [l[y].2] := by rw [List.take_succ_eq_append_getElem (by simpa using hi)]; simp
    have hdi := hds _ (List.getElem_mem hi)
    have hml := List.getElem_mem hi
    generalize l[y] = p at hget htk hdi hml
    obtain ⟨d2, h⟩ := p
    simp only at hget htk hdi
    obtain ⟨db, dr, dz, rfl, -, -⟩ := id hdi
    have hsl2 : lessC g h = less g.ac g.ar h.ac h.ar := (sless (atS g) (atS h)).symm
    simp -implicitDefEqProofs only [go_sem, Nat.reduceBEq, Nat.reduceAdd, eq_self, true_and, and_true, and_self, List.getElem?_cons_zero, List.getElem?_cons_succ, Nat.reduceLeDiff, Nat.zero_add, Nat.reduceSub, Nat.le_refl, Nat.lt_irrefl]
    refine cut_at (fun G τ2 => ∃ dn2 O2 q2, G = ⟨[(0, .v (.sl b R z (cgsV l))), (3, .loc 3 0), (5, .v (.sl false (.own q2) 13 (cgsV O2))), (6, .v (.bool dn2)), (7, .v (.int .i64 y))], [(3, cgC d g)]⟩ ∧ PutM g ((l.map (·.2)).take y) h dn2 (O2.map (·.2)) ∧ Acc13 σ τ2 q2 O2 ∧ O2.length ≤ y + 2 ∧ ∀ p ∈ O2, FromL σ.live.length l p) ?_ ?_
    case refine_2 =>
      rintro G τ2 ⟨dn2, O2, q2', rfl, t1, t2, t3, t9⟩
      have hO2 := cgsV_len O2
      obtain ⟨k3, k4⟩ := rdl (hv.ext t2.ext) (cgsV_ne hi)
      simp -implicitDefEqProofs only [go_sem, Nat.reduceBEq, Nat.reduceAdd, eq_self, true_and, and_true, and_self, List.getElem?_cons_zero, List.getElem?_cons_succ, Nat.reduceLeDiff, Nat.zero_add, Nat.reduceSub, Nat.le_refl, hwy, hcl, hget, cgC]
      refine ⟨⟨by omega, by omega, k4⟩, k3, ⟨.inr trivial, .inr ((ext_live _ _).live _ t2.live), ⟨.inr (live_last _ _), .inl trivial⟩, by omega⟩, ?_⟩
      refine z1 (y + 1, dn2, O2 ++ [(.sl db dr dz (intsV .i64 h.deps), h)], _) _ _ (.inr ?_) (by simp only; omega) ⟨by simp only; omega, ?_, t2.app (.refl _) rfl (t2.old (.refl _) hdi), fun p hp => (List.mem_append.1 hp).elim (t9 p) fun hp => by rw [List.mem_singleton] at hp; subst hp; exact .inl hml⟩
      · rw [← cgsV_snoc]
        simp -implicitDefEqProofs only [go_sem, Nat.reduceBEq, Nat.reduceAdd, eq_self, true_and, and_true, and_self, List.getElem?_cons_zero, List.getElem?_cons_succ, Nat.reduceLeDiff, Nat.zero_add, Nat.reduceSub, Nat.le_refl, cgC]
        try exact ⟨rfl, rfl⟩
      · simp only [List.map_append, List.map_cons, List.map_nil, htk]
        exact t1.step
    intro Y y1 y2 y3
    have hmid : dn = true → PutM g ((l.map (·.2)).take y) h dn (O.map (·.2)) := fun e => by
      rcases g2 with ⟨h1, -⟩ | ⟨h1, h2, h3⟩
      · rw [e] at h1; cases h1
      · exact .inr ⟨e, by rw [h2, putC_snoc h3], by rw [List.any_append, h3]; rfl⟩
    cases dn
    case true =>
      simp -implicitDefEqProofs only [go_sem, Nat.reduceBEq, Nat.reduceAdd, eq_self, true_and, and_true, and_self, List.getElem?_cons_zero, List.getElem?_cons_succ, Nat.reduceLeDiff, Nat.zero_add, Nat.reduceSub, Nat.le_refl, Bool.not_true]
      refine y1 _ _ _ (.inr ?_) ⟨true, O, q, rfl, hmid rfl, g3, by omega, g9⟩
      simp -implicitDefEqProofs only [go_sem, Nat.reduceBEq, Nat.reduceAdd, eq_self, true_and, and_true, and_self, List.getElem?_cons_zero, List.getElem?_cons_succ, Nat.reduceLeDiff, Nat.zero_add, Nat.reduceSub, Nat.le_refl, cgC]
      try exact ⟨rfl, rfl⟩
    have g2' : O.map (·.2) = (l.map (·.2)).take y ∧ ((l.map (·.2)).take y).any (lessC g) = false := by
      rcases g2 with ⟨-, h2, h3⟩ | ⟨h1, -⟩
      · exact ⟨h2, h3⟩
      · cases h1
    have hls := less_ok (σ := τ) (a1 := g.ac) (a2 := g.ar) (b1 := h.ac) (b2 := h.ar)
    simp -implicitDefEqProofs only [go_sem, Nat.reduceBEq, Nat.reduceAdd, eq_self, true_and, and_true, and_self, List.getElem?_cons_zero, List.getElem?_cons_succ, Nat.reduceLeDiff, Nat.zero_add, Nat.reduceSub, Nat.le_refl, Bool.not_false, cgC, hcl, hget]
    refine ⟨⟨by omega, by omega, k2⟩, k1, ?_⟩
    refine call_at hls ?_
    rintro w τ2 ⟨hτ2, rfl⟩
    have hτ2 := hτ2.symm
    subst hτ2
    refine ⟨(Ext.refl _).kept, ?_⟩
    rw [← hsl2]
    cases hx : lessC g h
    · simp -implicitDefEqProofs only [go_sem, Nat.reduceBEq, Nat.reduceAdd, eq_self, true_and, and_true, and_self, List.getElem?_cons_zero, List.getElem?_cons_succ, Nat.reduceLeDiff, Nat.zero_add, Nat.reduceSub, Nat.le_refl, Nat.lt_irrefl]
      refine y1 _ _ _ (.inr ?_) ⟨false, O, q, rfl, .inl ⟨rfl, g2'.1, g2'.2, hx⟩, g3, by omega, g9⟩
      simp -implicitDefEqProofs only [go_sem, Nat.reduceBEq, Nat.reduceAdd, eq_self, true_and, and_true, and_self, List.getElem?_cons_zero, List.getElem?_cons_succ, Nat.reduceLeDiff, Nat.zero_add, Nat.reduceSub, Nat.le_refl, cgC]
      try exact ⟨rfl, rfl⟩
    · have hco := copy_ok (hd.ext g3.ext) (by omega)
      simp only [cgV, cgC] at hco
      have hO2 := cgsV_len O
      simp -implicitDefEqProofs only [go_sem, Nat.reduceBEq, Nat.reduceAdd, eq_self, true_and, and_true, and_self, List.getElem?_cons_zero, List.getElem?_cons_succ, Nat.reduceLeDiff, Nat.zero_add, Nat.reduceSub, Nat.le_refl, cgC]
      refine call_at hco ?_
      rintro w τ2 ⟨e2, o2, x, rfl, hx2⟩
      refine ⟨kept_none, ?_⟩
      obtain ⟨rr, rfl, hr1, hr2⟩ := id hx2
      simp -implicitDefEqProofs only [go_sem, Nat.reduceBEq, Nat.reduceAdd, eq_self, true_and, and_true, and_self, List.getElem?_cons_zero, List.getElem?_cons_succ, Nat.reduceLeDiff, Nat.zero_add, Nat.reduceSub, Nat.le_refl, cgC]
      refine ⟨⟨.inr trivial, .inr ((ext_live _ _).live _ (e2.live _ g3.live)), ⟨.inr (live_last _ _), .inl trivial⟩, by omega⟩, ?_⟩
      refine y1 _ _ _ (.inr ?_) ⟨true, O ++ [(_, g)], _, rfl, .inr ⟨rfl, ?_, ?_⟩, g3.app e2 o2 (Acc13.new1 g3.lt hx2), by simp only [List.length_append, List.length_singleton]; omega, fun p hp => (List.mem_append.1 hp).elim (g9 p) fun hp => by rw [List.mem_singleton] at hp; subst hp; exact .inr ⟨rr, rfl, Nat.le_trans g3.ext.llen hr2⟩⟩
      · rw [← cgsV_snoc]
        simp -implicitDefEqProofs only [go_sem, Nat.reduceBEq, Nat.reduceAdd, eq_self, true_and, and_true, and_self, List.getElem?_cons_zero, List.getElem?_cons_succ, Nat.reduceLeDiff, Nat.zero_add, Nat.reduceSub, Nat.le_refl, cgC]
        try exact ⟨rfl, rfl⟩
      · simp only [List.map_append, List.map_cons, List.map_nil, g2'.1]
        exact (putC_first g2'.2 hx).symm
      · rw [List.any_append, Bool.or_eq_true]
        exact .inr (by simp [hx])
  · rw [List.take_of_length_le (by have : ¬ y < l.length := by simpa using hcc
                                   rw [map2_len]; omega)] at g2
    simp -implicitDefEqProofs only [go_sem, Nat.reduceBEq, Nat.reduceAdd, eq_self, true_and, and_true, and_self, List.getElem?_cons_zero, List.getElem?_cons_succ, Nat.reduceLeDiff, Nat.zero_add, Nat.reduceSub, Nat.le_refl, Nat.lt_irrefl]
    refine z2 _ _ _ ?_
    clear z1 z2 z3
    refine cut_at (fun G τ2 => ∃ w, G = ⟨[(5, .v w)], []⟩ ∧ RdC τ2 w (putC g (l.map (·.2))) ∧ SrcC σ.live.length τ2 l w (putC g (l.map (·.2))) ∧ Ext σ τ2 ∧ τ2.objs = σ.objs) ?_ ?_
    case refine_2 =>
      rintro G τ2 ⟨w, rfl, t1, ts, t2, t3⟩
      obtain ⟨l2, h1, h2, h3⟩ := id t1
      obtain ⟨b2, R2, zz2, rfl, -, -⟩ := id h2
      simp -implicitDefEqProofs only [go_sem, Nat.reduceBEq, Nat.reduceAdd, eq_self, true_and, and_true, and_self, List.getElem?_cons_zero, List.getElem?_cons_succ, Nat.reduceLeDiff, Nat.zero_add, Nat.reduceSub, Nat.le_refl, Nat.lt_irrefl]
      refine q2 _ _ ?_
      simp -implicitDefEqProofs only [go_sem, Nat.reduceBEq, Nat.reduceAdd, eq_self, true_and, and_true, and_self, List.getElem?_cons_zero, List.getElem?_cons_succ, Nat.reduceLeDiff, Nat.zero_add, Nat.reduceSub, Nat.le_refl, Nat.lt_irrefl]
      exact ⟨t1, ts, t2, t3⟩
    intro Y y1 y2 y3
    rcases g2 with ⟨rfl, h2, h3⟩ | ⟨rfl, h2, h3⟩
    · have hco := copy_ok (hd.ext g3.ext) (by omega)
      simp only [cgV, cgC] at hco
      have hO2 := cgsV_len O
      simp -implicitDefEqProofs only [go_sem, Nat.reduceBEq, Nat.reduceAdd, eq_self, true_and, and_true, and_self, List.getElem?_cons_zero, List.getElem?_cons_succ, Nat.reduceLeDiff, Nat.zero_add, Nat.reduceSub, Nat.le_refl, cgC, Bool.not_false]
      refine call_at hco ?_
      rintro w τ2 ⟨e2, o2, x, rfl, hx2⟩
      refine ⟨kept_none, ?_⟩
      obtain ⟨rr, rfl, hr1, hr2⟩ := id hx2
      simp -implicitDefEqProofs only [go_sem, Nat.reduceBEq, Nat.reduceAdd, eq_self, true_and, and_true, and_self, List.getElem?_cons_zero, List.getElem?_cons_succ, Nat.reduceLeDiff, Nat.zero_add, Nat.reduceSub, Nat.le_refl, cgC]
      refine ⟨⟨.inr trivial, .inr ((ext_live _ _).live _ (e2.live _ g3.live)), ⟨.inr (live_last _ _), .inl trivial⟩, by omega⟩, ?_⟩
      have hA := g3.app (p := (_, g)) e2 o2 (Acc13.new1 g3.lt hx2)
      have hrd := hA.rd
      have hmp : (O ++ [((.sl false (.own rr) 1 (intsV .i64 g.deps) : V), g)]).map (·.2) = putC g (l.map (·.2)) := by rw [List.map_append, h2, putC_none h3]; rfl
      have hsc : SrcC σ.live.length _ l _ (putC g (l.map (·.2))) := ⟨_, _, rfl, hA.ge, hA.live, hmp, hA.rds.ext (but_ext _ _), fun p hp => (List.mem_append.1 hp).elim (g9 p) fun hp => by rw [List.mem_singleton] at hp; subst hp; exact .inr ⟨rr, rfl, Nat.le_trans g3.ext.llen hr2⟩⟩
      rw [hmp] at hrd
      rw [← cgsV_snoc] at hrd hsc
      simp only [cgC] at hrd hsc
      refine y1 _ _ _ (.inr ?_) ⟨_, rfl, hrd, hsc, hA.ext, hA.objs⟩
      simp -implicitDefEqProofs only [go_sem, Nat.reduceBEq, Nat.reduceAdd, eq_self, true_and, and_true, and_self, List.getElem?_cons_zero, List.getElem?_cons_succ, Nat.reduceLeDiff, Nat.zero_add, Nat.reduceSub, Nat.le_refl, Nat.lt_irrefl]
      try exact ⟨rfl, rfl⟩
    · have hrd := g3.rd
      rw [h2] at hrd
      simp -implicitDefEqProofs only [go_sem, Nat.reduceBEq, Nat.reduceAdd, eq_self, true_and, and_true, and_self, List.getElem?_cons_zero, List.getElem?_cons_succ, Nat.reduceLeDiff, Nat.zero_add, Nat.reduceSub, Nat.le_refl, cgC, Bool.not_true]
      refine y1 _ _ _ (.inr ?_) ⟨_, rfl, hrd, ⟨O, q, rfl, g3.ge, g3.live, h2, g3.rds.ext (but_ext _ _), g9⟩, g3.ext, g3.objs⟩
      simp -implicitDefEqProofs only [go_sem, Nat.reduceBEq, Nat.reduceAdd, eq_self, true_and, and_true, and_self, List.getElem?_cons_zero, List.getElem?_cons_succ, Nat.reduceLeDiff, Nat.zero_add, Nat.reduceSub, Nat.le_refl, Nat.lt_irrefl]
      try exact ⟨rfl, rfl⟩
end
end Go.VL.opl

namespace Go.VL.opl
open Go Go.VL Go.Proofs Go.IntWalk Go.VL.st Go.VL.row

def addR (L : List Cg) (room : Int) (g : Cg) : List Cg := bif decide (whyR L room g = 0) then putC g L else L
def inC (k : List Int) (g : Cg) : Bool := decide (g.seq ≤ atD k g.ar)
def allR (L : List Cg) (k : List Int) : List Cg := L.filter fun g => !inC k g
theorem allR_snoc (L : List Cg) (k : List Int) (g : Cg) : allR (L ++ [g]) k = bif inC k g then allR L k else allR L k ++ [g] := by
  unfold allR
  rw [List.filter_append]
  cases h : inC k g <;> simp [List.filter, h]
theorem allR_len (L : List Cg) (k : List Int) : (allR L k).length ≤ L.length := List.length_filter_le _ _
def lastR (L : List Cg) : Int := L.foldl (fun n g => max n g.ac) 0
theorem lastR_snoc (L : List Cg) (g : Cg) : lastR (L ++ [g]) = max (lastR L) g.ac := by simp [lastR]
section
variable {σ : St} {v d f u : V} {g h : Cg} {gs : List Cg} {x : Sp} {r n room most : Int} {l m k : List Int}
set_option maxRecDepth 100000 in
set_option maxHeartbeats 4000000 in
theorem radd_src {l : List (V × Cg)} (hv2 : RdS σ v 13 (cgsV l)) (hds : Rds σ l) (hlen : l.length ≤ 1000000) (hd : RdS σ d 1 (intsV .i64 g.deps)) (hdl : g.deps.length ≤ 2000000) (hgl : ∀ h ∈ l.map (·.2), h.deps.length ≤ 2000000) (hnl : g.name.length < 4611686018427387904) :
    CallA Try.prog 35 [.agg [.int .i64 room, v], cgV d g] σ fun w σ' => (∃ u, w = .tup [.agg [.int .i64 room, u], .int .i64 (whyR (l.map (·.2)) room g)] ∧ RdC σ' u (addR (l.map (·.2)) room g) ∧ (u = v ∧ addR (l.map (·.2)) room g = l.map (·.2) ∨ SrcC σ.live.length σ' l u (addR (l.map (·.2)) room g))) ∧ Ext σ σ' ∧ σ'.objs = σ.objs := by
  have hv : RdC σ v (l.map (·.2)) := ⟨l, rfl, hv2, hds⟩
  obtain ⟨b, R, z, rfl, -, -⟩ := id hv2
  obtain ⟨db, dr, dz, rfl, -, -⟩ := id hd
  refine fn_at Try.func35 (by decide) comp35 rfl fun Q q1 q2 => ?_
  have hwy := why_ok (room := room) hv (by rw [List.length_map]; omega) hd hdl hgl hnl
  simp only [cgV, cgC] at hwy
  simp -implicitDefEqProofs only [go_sem, Nat.reduceBEq, Nat.reduceAdd, eq_self, true_and, and_true, and_self, List.getElem?_cons_zero, List.getElem?_cons_succ, Nat.reduceLeDiff, Nat.zero_add, Nat.reduceSub, Nat.le_refl, c35, cgV, cgC]
  refine call_at hwy ?_
  rintro w τ ⟨rfl, e1, o1⟩
  refine ⟨kept_none, ?_⟩
  unfold addR at q1 q2
  cases hc : decide (whyR (l.map (·.2)) room g = 0) <;> rw [hc] at q2
  · simp -implicitDefEqProofs only [go_sem, Nat.reduceBEq, Nat.reduceAdd, eq_self, true_and, and_true, and_self, List.getElem?_cons_zero, List.getElem?_cons_succ, Nat.reduceLeDiff, Nat.zero_add, Nat.reduceSub, Nat.le_refl, hc, Bool.not_false]
    refine q2 _ _ ?_
    simp -implicitDefEqProofs only [go_sem, Nat.reduceBEq, Nat.reduceAdd, eq_self, true_and, and_true, and_self, List.getElem?_cons_zero, List.getElem?_cons_succ, Nat.reduceLeDiff, Nat.zero_add, Nat.reduceSub, Nat.le_refl, Nat.lt_irrefl]
    first | exact ⟨⟨_, rfl, hv.ext e1, .inl rfl⟩, e1, o1⟩ | exact ⟨⟨_, rfl, hv.ext e1, .inl ⟨rfl, rfl⟩⟩, e1, o1⟩
  · have hpu := rput_src (g := g) (hv2.ext e1) (hds.ext e1) hlen (hd.ext e1) hdl
    simp only [cgV, cgC] at hpu
    simp -implicitDefEqProofs only [go_sem, Nat.reduceBEq, Nat.reduceAdd, eq_self, true_and, and_true, and_self, List.getElem?_cons_zero, List.getElem?_cons_succ, Nat.reduceLeDiff, Nat.zero_add, Nat.reduceSub, Nat.le_refl, hc, Bool.not_true]
    refine call_at hpu ?_
    rintro w τ2 ⟨a1, asr, e2, o2⟩
    refine ⟨e2.kept, ?_⟩
    have as2 : SrcC σ.live.length τ2 l w (putC g (l.map (·.2))) := by
      obtain ⟨O, q, x1, x2, x3, x5, x6, x4⟩ := asr
      exact ⟨O, q, x1, Nat.le_trans e1.llen x2, x3, x5, x6, fun p hp => (x4 p hp).imp_right fun ⟨r, y1, y2⟩ => ⟨r, y1, Nat.le_trans e1.llen y2⟩⟩
    clear asr
    obtain ⟨l2, h1, h2, h3⟩ := id a1
    obtain ⟨b2, R2, zz2, rfl, -, -⟩ := id h2
    have h0 : whyR (l.map (·.2)) room g = 0 := of_decide_eq_true hc
    rw [h0] at q2
    simp -implicitDefEqProofs only [go_sem, Nat.reduceBEq, Nat.reduceAdd, eq_self, true_and, and_true, and_self, List.getElem?_cons_zero, List.getElem?_cons_succ, Nat.reduceLeDiff, Nat.zero_add, Nat.reduceSub, Nat.le_refl, Nat.lt_irrefl]
    refine q2 _ _ ?_
    simp -implicitDefEqProofs only [go_sem, Nat.reduceBEq, Nat.reduceAdd, eq_self, true_and, and_true, and_self, List.getElem?_cons_zero, List.getElem?_cons_succ, Nat.reduceLeDiff, Nat.zero_add, Nat.reduceSub, Nat.le_refl, Nat.lt_irrefl]
    exact ⟨⟨_, rfl, a1, .inr as2⟩, e1.trans e2, o2.trans o1⟩
theorem radd_ok (hv : RdC σ v gs) (hlen : gs.length ≤ 1000000) (hd : RdS σ d 1 (intsV .i64 g.deps)) (hdl : g.deps.length ≤ 2000000) (hgl : ∀ h ∈ gs, h.deps.length ≤ 2000000) (hnl : g.name.length < 4611686018427387904) :
    CallA Try.prog 35 [.agg [.int .i64 room, v], cgV d g] σ fun w σ' => (∃ u, w = .tup [.agg [.int .i64 room, u], .int .i64 (whyR gs room g)] ∧ RdC σ' u (addR gs room g)) ∧ Ext σ σ' ∧ σ'.objs = σ.objs := by
  obtain ⟨l, rfl, hv2, hds⟩ := hv
  exact (radd_src hv2 hds (by rwa [List.length_map] at hlen) hd hdl hgl hnl).mono fun _ _ ⟨⟨u, h1, h2, _⟩, h3⟩ => ⟨⟨u, h1, h2⟩, h3⟩
set_option maxRecDepth 100000 in
set_option maxHeartbeats 1000000 in
theorem rlast_ok (hv : RdC σ v gs) (hlen : gs.length ≤ 1000000) : CallA Try.prog 61 [v] σ fun w σ' => w = .int .i64 (lastR gs) ∧ σ' = σ := by
  obtain ⟨l, rfl, hv, hds⟩ := hv
  obtain ⟨b, R, z, rfl, -, -⟩ := id hv
  refine fn_at Try.func61 (by decide) comp61 rfl fun Q q1 q2 => ?_
  have hcl := cgsV_len l
  rw [List.length_map] at hlen
  simp -implicitDefEqProofs only [go_sem, Nat.reduceBEq, Nat.reduceAdd, eq_self, true_and, and_true, and_self, List.getElem?_cons_zero, List.getElem?_cons_succ, Nat.reduceLeDiff, Nat.zero_add, Nat.reduceSub, Nat.le_refl, c61]
  refine loop_at (fun (y : Nat) => ⟨[(0, .v (.sl b R z (cgsV l))), (3, .v (.int .i64 (lastR ((l.map (·.2)).take y)))), (4, .v (.int .i64 y))], []⟩)
    (fun y t => y ≤ l.length ∧ t = σ) (fun y => l.length - y) 0 ?_ ?_ ?_
  · refine .inr ?_
    simp -implicitDefEqProofs only [go_sem, Nat.reduceBEq, Nat.reduceAdd, eq_self, true_and, and_true, and_self, List.getElem?_cons_zero, List.getElem?_cons_succ, Nat.reduceLeDiff, Nat.zero_add, Nat.reduceSub, Nat.le_refl, Nat.lt_irrefl]
    try exact ⟨rfl, rfl⟩
    try rfl
  · exact ⟨Nat.zero_le _, rfl⟩
  rintro y τ ⟨g1, hτ⟩ Z z1 z2 z3
  have hτ := hτ.symm
  subst hτ
  simp -implicitDefEqProofs only [go_sem, Nat.reduceBEq, Nat.reduceAdd, eq_self, true_and, and_true, and_self, List.getElem?_cons_zero, List.getElem?_cons_succ, Nat.reduceLeDiff, Nat.zero_add, Nat.reduceSub, Nat.le_refl, hcl]
  refine CondW_b (fun hcc => ?_) (fun hcc => ?_)
  · have hi : y < l.length := by simpa using hcc
    have hget := cgsV_get hi
    have hwy : IntKind.i64.wrap ((y : Int) + 1) = ((y + 1 : Nat) : Int) := by rw [i64_in _ (by omega)]; omega
    obtain ⟨k1, k2⟩ := rdl hv (cgsV_ne hi)
    have htk : (l.map (·.2)).take (y + 1) = (l.map (·.2)).take y ++ [l[y].2] := by rw [List.take_succ_eq_append_getElem (by simpa using hi)]; simp
    generalize hp : l[y] = p at hget htk
    obtain ⟨d2, h⟩ := p
    simp only at hget htk
    have hla := lastR_snoc ((l.map (·.2)).take y) h
    rw [← htk] at hla
    simp -implicitDefEqProofs only [go_sem, Nat.reduceBEq, Nat.reduceAdd, eq_self, true_and, and_true, and_self, List.getElem?_cons_zero, List.getElem?_cons_succ, Nat.reduceLeDiff, Nat.zero_add, Nat.reduceSub, Nat.le_refl, hcl, hget, cgC]
    refine ⟨⟨by omega, by omega, k2⟩, k1, ?_⟩
    refine z1 (y + 1) _ _ (.inr ?_) (by omega) ⟨by omega, rfl⟩
    have hmx : (if h.ac > lastR ((l.map (·.2)).take y) then h.ac else lastR ((l.map (·.2)).take y)) = max (lastR ((l.map (·.2)).take y)) h.ac := by
      rw [Int.max_def]; split <;> split <;> omega
    simp -implicitDefEqProofs only [go_sem, Nat.reduceBEq, Nat.reduceAdd, eq_self, true_and, and_true, and_self, List.getElem?_cons_zero, List.getElem?_cons_succ, Nat.reduceLeDiff, Nat.zero_add, Nat.reduceSub, Nat.le_refl, hla, hwy]
    rw [hmx]
  · have hy : y = l.length := by have : ¬ y < l.length := by simpa using hcc
                                 omega
    have htk : (l.map (·.2)).take y = l.map (·.2) := List.take_of_length_le (by rw [map2_len]; omega)
    simp -implicitDefEqProofs only [go_sem, Nat.reduceBEq, Nat.reduceAdd, eq_self, true_and, and_true, and_self, List.getElem?_cons_zero, List.getElem?_cons_succ, Nat.reduceLeDiff, Nat.zero_add, Nat.reduceSub, Nat.le_refl, htk]
    refine z2 _ _ _ ?_
    simp -implicitDefEqProofs only [go_sem, Nat.reduceBEq, Nat.reduceAdd, eq_self, true_and, and_true, and_self, List.getElem?_cons_zero, List.getElem?_cons_succ, Nat.reduceLeDiff, Nat.zero_add, Nat.reduceSub, Nat.le_refl, Nat.lt_irrefl]
    refine q2 _ _ ?_
    simp -implicitDefEqProofs only [go_sem, Nat.reduceBEq, Nat.reduceAdd, eq_self, true_and, and_true, and_self, List.getElem?_cons_zero, List.getElem?_cons_succ, Nat.reduceLeDiff, Nat.zero_add, Nat.reduceSub, Nat.le_refl, Nat.lt_irrefl]
end
end Go.VL.opl

namespace Go.VL.opl
open Go Go.VL Go.Proofs Go.IntWalk Go.VL.st Go.VL.row

def ownL (L : List Cg) (r : Int) : List Cg := L.filter fun g => decide (g.ar = r)
theorem ownL_len (L : List Cg) (r : Int) : (ownL L r).length = cnt L r := rfl
structure Good (L : List Cg) : Prop where
  srt : L.Pairwise fun a b => st.less (atS a) (atS b) = true
  chk : ∀ g ∈ L, chkI g = 0
  seq : ∀ (r : Int) (j : Nat) (h : j < (ownL L r).length), (ownL L r)[j].seq = j + 1
theorem good_nil : Good [] := ⟨.nil, by simp, fun r j h => by simp [ownL] at h⟩
/-- What a right change has. -/
theorem chk_has {g : Cg} (hok : chkI g = 0) : st.right (atS g) = true ∧ (1 ≤ g.seq ∧ g.seq ≤ g.ac) ∧ clockI g.deps = 0 ∧ atD g.deps g.ar = g.seq - 1 := by
  unfold chkI at hok
  cases h1 : (decide (g.kind < 1) || decide (5 < g.kind)) <;> rw [h1] at hok
  case true => cases hok
  simp only [cond_false] at hok
  cases h2 : right g.ac g.ar <;> rw [h2] at hok
  · cases hok
  cases h3 : (decide (g.seq < 1) || decide (g.ac < g.seq)) <;> rw [h3] at hok
  case true => cases hok
  simp only [Bool.or_eq_false_iff, decide_eq_false_iff_not] at h3
  simp only [Bool.not_true, cond_false] at hok
  have hd : depsI g = 0 := by
    cases h4 : decide (depsI g = 0) <;> rw [h4] at hok
    · simp only [Bool.not_false, cond_true] at hok
      exact absurd hok (of_decide_eq_false h4)
    · exact of_decide_eq_true h4
  refine ⟨h2, ⟨by omega, by omega⟩, ?_⟩
  unfold depsI at hd
  cases h5 : decide (clockI g.deps = 0) <;> rw [h5] at hd
  · simp only [Bool.not_false, cond_true] at hd
    exact absurd hd (of_decide_eq_false h5)
  simp only [Bool.not_true, cond_false] at hd
  cases h6 : decide (atD g.deps g.ar = g.seq - 1)
  · rw [h6, Bool.not_false, Bool.or_true] at hd
    cases hd
  · exact ⟨of_decide_eq_true h5, of_decide_eq_true h6⟩
theorem right_has {s : Sp} (h : st.right s = true) : (1 ≤ s.c ∧ s.c ≤ 1099511627776) ∧ 0 ≤ s.r ∧ s.r < 64 := by
  simp only [st.right, Bool.and_eq_true, decide_eq_true_eq] at h
  exact ⟨⟨h.1, h.2.1⟩, h.2.2.1, h.2.2.2⟩
theorem clock_has {l : List Int} (h : clockI l = 0) : l.length ≤ 64 ∧ ∀ n ∈ l, 0 ≤ n ∧ n ≤ 1099511627776 := by
  unfold clockI at h
  cases h1 : decide ((64 : Int) < l.length) <;> rw [h1] at h
  case true => cases h
  simp only [cond_false] at h
  cases h2 : l.any badN <;> rw [h2] at h
  case true => cases h
  rw [List.any_eq_false] at h2
  refine ⟨by have := of_decide_eq_false h1; omega, fun n hn => ?_⟩
  have := h2 n hn
  simp only [badN, Bool.not_eq_true, Bool.or_eq_false_iff, decide_eq_false_iff_not] at this
  omega
theorem srt_uniq1 {L : List Cg} (h : L.Pairwise fun a b => st.less (atS a) (atS b) = true) {a b : Cg} (ha : a ∈ L) (hb : b ∈ L) (e : atS a = atS b) : a = b := by
  obtain ⟨i, hi, rfl⟩ := List.getElem_of_mem ha
  obtain ⟨j, hj, rfl⟩ := List.getElem_of_mem hb
  rw [List.pairwise_iff_getElem] at h
  rcases Nat.lt_trichotomy i j with k | k | k
  · have := h i j hi hj k
    rw [e, less_irr] at this; cases this
  · subst k; rfl
  · have := h j i hj hi k
    rw [e, less_irr] at this; cases this
theorem find_A {L : List Cg} (h : L.Pairwise fun a b => st.less (atS a) (atS b) = true) {x : Sp} {g : Cg} : L.find? (isA x) = some g ↔ g ∈ L ∧ atS g = x := by
  constructor
  · intro e
    have h1 := List.find?_some e
    exact ⟨List.mem_of_find?_eq_some e, of_decide_eq_true h1⟩
  · rintro ⟨h1, h2⟩
    cases hf : L.find? (isA x) with
    | none =>
      rw [List.find?_eq_none] at hf
      exact absurd (by simp [isA, h2]) (hf g h1)
    | some k =>
      have h3 := List.find?_some hf
      rw [srt_uniq1 h (List.mem_of_find?_eq_some hf) h1 ((of_decide_eq_true h3).trans h2.symm)]
theorem find_A_none {L : List Cg} {x : Sp} : L.find? (isA x) = none ↔ ∀ g ∈ L, atS g ≠ x := by
  rw [List.find?_eq_none]
  simp [isA]
theorem own_mem {L : List Cg} {r : Int} {g : Cg} : g ∈ ownL L r ↔ g ∈ L ∧ g.ar = r := by simp [ownL]
theorem Good.find_O {L : List Cg} (h : Good L) {r n : Int} (hn : 1 ≤ n) : L.find? (isO r n) = (ownL L r)[n.toNat - 1]? := by
  cases hf : L.find? (isO r n) with
  | some g =>
    have h1 := List.find?_some hf
    simp only [isO, Bool.and_eq_true, decide_eq_true_eq] at h1
    obtain ⟨j, hj, hg⟩ := List.getElem_of_mem (own_mem.2 ⟨List.mem_of_find?_eq_some hf, h1.1⟩)
    have h2 := h.seq r j hj
    rw [hg, h1.2] at h2
    rw [show n.toNat - 1 = j by omega, List.getElem?_eq_getElem hj, hg]
  | none =>
    rw [List.find?_eq_none] at hf
    by_cases hj : n.toNat - 1 < (ownL L r).length
    · have h2 := h.seq r _ hj
      have h3 := own_mem.1 (List.getElem_mem hj)
      refine absurd ?_ (hf _ h3.1)
      simp only [isO, h3.2, h2, decide_true, Bool.true_and, decide_eq_true_eq]
      omega
    · rw [List.getElem?_eq_none (by omega)]
theorem Good.isO_cnt {L : List Cg} (h : Good L) {r n : Int} (hn : 1 ≤ n) : (L.find? (isO r n)).isSome = decide (n ≤ cnt L r) := by
  rw [h.find_O hn]
  by_cases hj : n.toNat - 1 < (ownL L r).length
  · rw [List.getElem?_eq_getElem hj, Option.isSome_some]
    rw [ownL_len] at hj
    simp; omega
  · rw [List.getElem?_eq_none (by omega), Option.isSome_none]
    rw [ownL_len] at hj
    simp; omega
/-- Where a stamp stands, or would. -/
def PlaceAt (L : List Cg) (x : Sp) (i : Nat) : Prop := i ≤ L.length ∧ (∀ (k : Nat) (h : k < L.length), k < i → st.less (atS L[k]) x = true) ∧ ∀ (k : Nat) (h : k < L.length), i ≤ k → st.less (atS L[k]) x = false
theorem PlaceAt.found {L : List Cg} {x : Sp} {i : Nat} (h : PlaceAt L x i) (hs : L.Pairwise fun a b => st.less (atS a) (atS b) = true) :
    (L.find? (isA x) = none ∧ ∀ hi : i < L.length, atS L[i] ≠ x) ∨ ∃ hi : i < L.length, atS L[i] = x ∧ L.find? (isA x) = some L[i] := by
  by_cases hc : ∃ hi : i < L.length, atS L[i] = x
  · obtain ⟨hi, e⟩ := hc
    exact .inr ⟨hi, e, (find_A hs).2 ⟨List.getElem_mem hi, e⟩⟩
  · refine .inl ⟨find_A_none.2 fun g hg e => ?_, fun hi e => hc ⟨hi, e⟩⟩
    obtain ⟨k, hk, rfl⟩ := List.getElem_of_mem hg
    rcases Nat.lt_trichotomy k i with h1 | h1 | h1
    · have := h.2.1 k hk h1
      rw [e, less_irr] at this; cases this
    · subst h1; exact hc ⟨hk, e⟩
    · have h2 := (List.pairwise_iff_getElem.1 hs) i k (by omega) hk h1
      rw [e] at h2
      rw [h.2.2 i (by omega) (Nat.le_refl _)] at h2; cases h2
theorem PlaceAt.put {L : List Cg} {g : Cg} {i : Nat} (h : PlaceAt L (atS g) i) (hn : L.find? (isA (atS g)) = none) : putC g L = L.take i ++ g :: L.drop i := by
  rw [find_A_none] at hn
  induction L generalizing i with
  | nil => simp [putC]
  | cons a t ih =>
    obtain ⟨h1, h2, h3⟩ := h
    cases i with
    | zero =>
      have e1 : st.less (atS a) (atS g) = false := h3 0 (by simp) (Nat.le_refl _)
      have e2 : lessC g a = true := less_of e1 (hn a (by simp))
      simp [putC, e2]
    | succ i =>
      have e1 : st.less (atS a) (atS g) = true := h2 0 (by simp) (by omega)
      have e2 : lessC g a = false := less_asymm e1
      simp only [putC, e2, cond_false, List.take_succ_cons, List.drop_succ_cons, List.cons_append]
      rw [ih (i := i) ⟨by simp at h1; omega, fun k hk hki => h2 (k + 1) (by simpa using hk) (by omega), fun k hk hki => h3 (k + 1) (by simpa using hk) (by omega)⟩ fun x hx => hn x (by simp [hx])]
theorem putC_srt {g : Cg} : ∀ {L : List Cg}, (L.Pairwise fun a b => st.less (atS a) (atS b) = true) → (∀ h ∈ L, atS h ≠ atS g) → (putC g L).Pairwise fun a b => st.less (atS a) (atS b) = true
  | [], _, _ => by simp [putC]
  | a :: t, hs, hn => by
    rw [List.pairwise_cons] at hs
    simp only [putC]
    cases e : lessC g a
    · rw [cond_false, List.pairwise_cons]
      have h1 : st.less (atS a) (atS g) = true := less_of e (Ne.symm (hn a (by simp)))
      refine ⟨fun x hx => ?_, putC_srt hs.2 fun h hh => hn h (by simp [hh])⟩
      rcases putC_mem.1 hx with rfl | hx
      · exact h1
      · exact hs.1 x hx
    · rw [cond_true, List.pairwise_cons, List.pairwise_cons]
      refine ⟨fun x hx => ?_, hs.1, hs.2⟩
      rcases List.mem_cons.1 hx with rfl | hx
      · exact e
      · exact less_trans e (hs.1 x hx)
theorem putC_own {g : Cg} {r : Int} (hr : g.ar ≠ r) : ∀ L : List Cg, ownL (putC g L) r = ownL L r
  | [] => by simp [putC, ownL, hr]
  | a :: t => by
    have ih := putC_own hr t
    unfold ownL at ih ⊢
    simp only [putC]
    cases lessC g a
    · rw [cond_false, List.filter_cons, List.filter_cons, ih]
    · rw [cond_true, List.filter_cons]; simp [hr]
theorem putC_own' {g : Cg} : ∀ {L : List Cg}, (∀ h ∈ ownL L g.ar, lessC g h = false) → (L.Pairwise fun a b => st.less (atS a) (atS b) = true) → ownL (putC g L) g.ar = ownL L g.ar ++ [g]
  | [], _, _ => by simp [putC, ownL]
  | a :: t, h, hs => by
    rw [List.pairwise_cons] at hs
    simp only [putC]
    cases e : lessC g a
    · have ih := putC_own' (L := t) (fun x hx => h x (by rw [own_mem] at hx ⊢; exact ⟨by simp [hx.1], hx.2⟩)) hs.2
      rw [cond_false]
      unfold ownL at ih ⊢
      rw [List.filter_cons, List.filter_cons, ih]
      split <;> rfl
    · rw [cond_true]
      have hn : ∀ x ∈ a :: t, x.ar ≠ g.ar := by
        intro x hx e2
        have h1 := h x (own_mem.2 ⟨hx, e2⟩)
        rcases List.mem_cons.1 hx with rfl | hx
        · rw [e] at h1; cases h1
        · have : lessC g x = true := less_trans e (hs.1 x hx)
          rw [this] at h1; cases h1
      have e0 : ownL (a :: t) g.ar = [] := by
        unfold ownL
        rw [List.filter_eq_nil_iff]
        intro x hx
        simp [hn x hx]
      have e1 : ownL (g :: a :: t) g.ar = g :: ownL (a :: t) g.ar := by unfold ownL; rw [List.filter_cons]; simp
      rw [e1, e0]; rfl
theorem putC_find {L : List Cg} {g : Cg} (hs : L.Pairwise fun a b => st.less (atS a) (atS b) = true) (hn : ∀ h ∈ L, atS h ≠ atS g) (x : Sp) : (putC g L).find? (isA x) = if x = atS g then some g else L.find? (isA x) := by
  split
  · rename_i e
    exact (find_A (putC_srt hs hn)).2 ⟨putC_mem.2 (.inl rfl), e.symm⟩
  · rename_i e
    cases hf : L.find? (isA x) with
    | some h =>
      obtain ⟨h1, h2⟩ := (find_A hs).1 hf
      exact (find_A (putC_srt hs hn)).2 ⟨putC_mem.2 (.inr h1), h2⟩
    | none =>
      rw [find_A_none] at hf ⊢
      intro h hh
      rcases putC_mem.1 hh with rfl | hh
      · exact Ne.symm e
      · exact hf h hh
/-- What makes a change fit. -/
structure Fits (L : List Cg) (room : Int) (g : Cg) : Prop where
  chk : chkI g = 0
  new : L.find? (isA (atS g)) = none
  seq : g.seq = cnt L g.ar + 1
  und : underI g.deps (cnts L) = true
  beh : behB L g = true
  room : (L.length : Int) < room
theorem why_fits {L : List Cg} {room : Int} {g : Cg} (h : whyR L room g = 0) : Fits L room g := by
  unfold whyR at h
  cases h1 : decide (chkI g = 0) <;> rw [h1] at h
  · simp only [Bool.not_false, cond_true] at h
    exact absurd h (of_decide_eq_false h1)
  simp only [Bool.not_true, cond_false] at h
  cases h2 : L.find? (isA (atS g)) with
  | some k =>
    rw [h2] at h
    simp only at h
    cases hs : sameC k g <;> rw [hs] at h <;> cases h
  | none =>
    rw [h2] at h
    simp only at h
    cases h3 : (L.find? (isO g.ar g.seq)).isSome <;> rw [h3] at h
    case true => cases h
    simp only [cond_false] at h
    cases h4 : decide (g.seq = (cnt L g.ar : Int) + 1) <;> rw [h4] at h
    · cases h
    cases h5 : underI g.deps (cnts L) <;> rw [h5] at h
    · cases h
    simp only [Bool.not_true, Bool.or_self, cond_false] at h
    cases h6 : behB L g <;> rw [h6] at h
    · cases h
    simp only [Bool.not_true, cond_false] at h
    cases h7 : decide ((L.length : Int) ≥ room) <;> rw [h7] at h
    · exact ⟨of_decide_eq_true h1, h2, of_decide_eq_true h4, h5, h6, by have := of_decide_eq_false h7; omega⟩
    · cases h
theorem all_get {n i : Nat} {f : Nat → Bool} (h : (List.range n).all f = true) (hi : i < n) : f i = true := List.all_eq_true.1 h i (List.mem_range.2 hi)
theorem Fits.own_less {L : List Cg} {room : Int} {g : Cg} (k : Fits L room g) (h : Good L) : ∀ x ∈ ownL L g.ar, st.less (atS x) (atS g) = true := by
  intro x hx
  obtain ⟨h1, h2, h3, h4⟩ := chk_has k.chk
  obtain ⟨-, hr⟩ := right_has h1
  have hr : 0 ≤ g.ar ∧ g.ar < 64 := hr
  obtain ⟨j, hj, rfl⟩ := List.getElem_of_mem hx
  have hjc := hj
  rw [ownL_len] at hjc
  have hseq := k.seq
  have hne : atD g.deps g.ar ≠ 0 := by rw [h4]; omega
  have hlt : g.ar.toNat < g.deps.length ∧ g.deps[g.ar.toNat]?.getD 0 = g.seq - 1 := by
    unfold atD at h4 hne
    cases h5 : decide (g.ar < g.deps.length)
    · rw [h5, Bool.and_false] at hne; exact absurd rfl hne
    · rw [h5, show decide (0 ≤ g.ar) = true by simp [hr.1]] at h4
      exact ⟨by have := of_decide_eq_true h5; omega, h4⟩
  have hb := k.beh
  unfold behB depsB at hb
  rw [Bool.and_eq_true] at hb
  have hd := all_get hb.1 hlt.1
  rw [hlt.2, show ((g.ar.toNat : Nat) : Int) = g.ar by omega] at hd
  unfold depB at hd
  have h0 : decide (g.seq - 1 = 0) = false := by rw [decide_eq_false_iff_not]; omega
  rw [h0, Bool.false_or, h.find_O (by omega)] at hd
  have hl : (g.seq - 1).toNat - 1 < (ownL L g.ar).length := by rw [ownL_len]; omega
  rw [List.getElem?_eq_getElem hl] at hd
  simp only at hd
  have hso : (ownL L g.ar).Pairwise fun a b => st.less (atS a) (atS b) = true := h.srt.sublist List.filter_sublist
  rcases Nat.lt_or_ge j ((g.seq - 1).toNat - 1) with hlt2 | hge
  · exact less_trans ((List.pairwise_iff_getElem.1 hso) j _ hj hl hlt2) hd
  · have : j = (g.seq - 1).toNat - 1 := by omega
    subst this; exact hd
theorem Fits.own {L : List Cg} {room : Int} {g : Cg} (k : Fits L room g) (h : Good L) : ownL (putC g L) g.ar = ownL L g.ar ++ [g] :=
  putC_own' (fun x hx => less_asymm (k.own_less h x hx)) h.srt
theorem Fits.good {L : List Cg} {room : Int} {g : Cg} (k : Fits L room g) (h : Good L) : Good (putC g L) := by
  refine ⟨putC_srt h.srt (find_A_none.1 k.new), fun x hx => ?_, fun r j hj => ?_⟩
  · rcases putC_mem.1 hx with rfl | hx
    · exact k.chk
    · exact h.chk x hx
  · by_cases hr : g.ar = r
    · subst hr
      have e := k.own h
      have hj' := hj
      rw [e, List.length_append, List.length_singleton] at hj'
      have hget : (ownL (putC g L) g.ar)[j] = (ownL L g.ar ++ [g])[j]'(by simpa using hj') := by simp only [e]
      rw [hget]
      by_cases hlt : j < (ownL L g.ar).length
      · rw [List.getElem_append_left hlt]; exact h.seq _ _ hlt
      · have : j = (ownL L g.ar).length := by omega
        subst this
        rw [List.getElem_append_right (Nat.le_refl _)]
        simp only [Nat.sub_self, List.getElem_singleton]
        rw [k.seq, ownL_len]
    · have e := putC_own hr L
      have hj' : j < (ownL L r).length := by rw [← e]; exact hj
      have hget : (ownL (putC g L) r)[j] = (ownL L r)[j] := by simp only [e]
      rw [hget]; exact h.seq _ _ hj'
theorem addR_good {L : List Cg} {room : Int} {g : Cg} (h : Good L) : Good (addR L room g) := by
  unfold addR
  cases hc : decide (whyR L room g = 0)
  · exact h
  · exact (why_fits (of_decide_eq_true hc)).good h
/-- What known tells. -/
def knI (L : List Cg) (g : Cg) : Int := match L.find? (isA (atS g)) with
  | some h => bif sameC h g then 5 else 7
  | none => bif decide (g.seq ≤ cnt L g.ar) then 7 else 0
/-- What ready tells. -/
def rdI (L : List Cg) (g : Cg) : Int := bif !decide (g.seq = cnt L g.ar + 1) then 4 else bif !underI g.deps (cnts L) then 4 else bif !depsB L g then 2 else bif !namesB L g then 2 else 0
theorem why_prog {L : List Cg} {room : Int} {g : Cg} (h : Good L) (hc : chkI g = 0) : whyR L room g = bif !decide (knI L g = 0) then knI L g else bif !decide (rdI L g = 0) then rdI L g else bif decide ((L.length : Int) ≥ room) then 6 else 0 := by
  obtain ⟨h1, h2, -⟩ := chk_has hc
  unfold whyR knI
  rw [hc]
  simp only [decide_true, Bool.not_true, cond_false]
  cases L.find? (isA (atS g)) with
  | some k => rcases Bool.eq_false_or_eq_true (sameC k g) with e | e <;> simp [e]
  | none =>
    simp only
    rw [h.isO_cnt h2.1]
    by_cases hd : g.seq ≤ (cnt L g.ar : Int)
    · simp [hd]
    · simp only [hd, decide_false, cond_false, decide_true, Bool.not_true]
      unfold rdI behB
      by_cases e1 : g.seq = (cnt L g.ar : Int) + 1
      · rcases Bool.eq_false_or_eq_true (underI g.deps (cnts L)) with e2 | e2 <;> rcases Bool.eq_false_or_eq_true (depsB L g) with e3 | e3 <;> rcases Bool.eq_false_or_eq_true (namesB L g) with e4 | e4 <;> simp [e1, e2, e3, e4]
      · simp [e1]
end Go.VL.opl

namespace Go.VL.opl
open Go Go.VL Go.Proofs Go.IntWalk Go.VL.st Go.VL.row

abbrev KL : List LK := [.agg, .int .i64, .int .i64]
abbrev cgL (P : List (V × Cg)) : List Cg := P.map (·.2)
def MapOk (σ : St) (mo : Option Nat) (L : List Cg) : Prop := match mo with
  | some m => ∃ es ver, σ.objs[m]? = some (.mp KL es ver) ∧ ∀ x : Sp, find (.agg [.int .i64 x.c, .int .i64 x.r]) es = (L.find? (isA x)).map fun h => V.agg [.int .i64 h.seq]
  | none => L = []
/-- A log in memory. -/
structure LogIs (σ : St) (i : Nat) (mo : Option Nat) (s : V) (ov : List V) (room : Int) (P : List (V × Cg)) : Prop where
  cells : σ.objs[i]? = some (.cells (.int .i64 room :: s :: .map mo :: ov))
  ovl : ov.length = 64
  row : RowOf σ s 13 (cgsV P)
  rds : Rds σ P
  map : MapOk σ mo (cgL P)
  own : ∀ (r : Nat) (h : r < ov.length), RowOf σ ov[r] 2 (spsV ((ownL (cgL P) r).map atS))
  sep : ∀ (a b : Nat) (ha : a < ov.length) (hb : b < ov.length) j n cap z n' cap' z', ov[a] = .osl j n cap z → ov[b] = .osl j n' cap' z' → a = b
  good : Good (cgL P)
/-- The objects that are a log's own. -/
def Own (i : Nat) (mo : Option Nat) (s : V) (ov : List V) (j : Nat) : Prop := j = i ∨ mo = some j ∨ (∃ n cap z, s = .osl j n cap z) ∨ ∃ (a : Nat) (h : a < ov.length), ∃ n cap z, ov[a] = .osl j n cap z
theorem LogIs.up {S : Nat → Prop} {σ τ : St} {i : Nat} {mo : Option Nat} {s : V} {ov : List V} {room : Int} {P : List (V × Cg)} (h : LogIs σ i mo s ov room P) (hu : UpdS S σ τ) (hS : ∀ j, Own i mo s ov j → ¬ S j) : LogIs τ i mo s ov room P := by
  refine ⟨hu.objs _ _ (hS i (.inl rfl)) h.cells, h.ovl, rowOf_up h.row hu fun j n cap z e => hS j (.inr (.inr (.inl ⟨n, cap, z, e⟩))), fun p hp => rdS_up (h.rds p hp) hu, ?_, fun r hr => rowOf_up (h.own r hr) hu fun j n cap z e => hS j (.inr (.inr (.inr ⟨r, hr, n, cap, z, e⟩))), h.sep, h.good⟩
  have hm := h.map
  cases mo with
  | none => exact hm
  | some m =>
    obtain ⟨es, ver, h1, h2⟩ := hm
    exact ⟨es, ver, hu.objs _ _ (hS m (.inr (.inl rfl))) h1, h2⟩
theorem LogIs.ext {σ τ : St} {i : Nat} {mo : Option Nat} {s : V} {ov : List V} {room : Int} {P : List (V × Cg)} (h : LogIs σ i mo s ov room P) (hu : Ext σ τ) : LogIs τ i mo s ov room P :=
  h.up (S := fun _ => False) (.of hu) fun _ _ h => h
theorem cg_len (P : List (V × Cg)) : ∀ x ∈ cgsV P, x.length = 13 := by
  intro x hx
  simp only [cgsV, List.mem_map] at hx
  obtain ⟨p, -, rfl⟩ := hx
  rfl
theorem cg_drop {P : List (V × Cg)} {k : Nat} (hk : k < P.length) (o : Nat) (ho : o ≤ 13) : (cgsV P).flatten.drop (k * 13 + o) = (cgC P[k].1 P[k].2).drop o ++ ((cgsV P).drop (k + 1)).flatten := by
  have hl : k < (cgsV P).length := by simpa [cgsV] using hk
  obtain ⟨h1, h2⟩ := flat_split (cg_len P) hl
  rw [h1, ← h2, List.drop_append, List.drop_of_length_le (by omega), Nat.add_sub_cancel_left, List.nil_append, show (cgsV P)[k] = cgC P[k].1 P[k].2 from by simp [cgsV], List.drop_append_of_le_length (by simpa [cgC] using ho)]
theorem cg_drop0 {P : List (V × Cg)} {k : Nat} (hk : k < P.length) : (cgsV P).flatten.drop (k * 13) = cgC P[k].1 P[k].2 ++ ((cgsV P).drop (k + 1)).flatten := cg_drop hk 0 (by omega)
theorem rowOf_nil (σ : St) (z : Nat) : RowOf σ (.sl true .pub 0 []) z [] := .inl ⟨_, _, rfl, rfl⟩
def nilO : List V := List.replicate 64 (.sl true .pub 0 [])
theorem nilO_get {a : Nat} (h : a < nilO.length) : nilO[a] = .sl true .pub 0 [] := by unfold nilO; exact List.getElem_replicate ..
theorem logIs_new {σ : St} {i : Nat} {mo : Option Nat} {room : Int} (h1 : σ.objs[i]? = some (.cells (.int .i64 room :: .sl true .pub 0 [] :: .map mo :: nilO))) (h2 : MapOk σ mo []) : LogIs σ i mo (.sl true .pub 0 []) nilO room [] := by
  have hn : ∀ (r : Nat) (h : r < nilO.length), nilO[r] = .sl true .pub 0 [] := fun r h => nilO_get h
  refine ⟨h1, by simp [nilO], rowOf_nil _ _, (by intro p hp; cases hp), h2, fun r h => ?_, fun a b ha hb j n cap z n' cap' z' e => ?_, good_nil⟩
  · rw [hn]; exact rowOf_nil _ _
  · rw [hn] at e; cases e
theorem own_new {i : Nat} {mo : Option Nat} {j : Nat} (h : Own i mo (.sl true .pub 0 []) nilO j) : j = i ∨ mo = some j := by
  rcases h with h | h | ⟨_, _, _, h⟩ | ⟨a, ha, n, cap, z, h⟩
  · exact .inl h
  · exact .inr h
  · cases h
  · rw [nilO_get] at h; cases h
section
variable {σ : St} {i j : Nat} {mo : Option Nat} {s d : V} {ov : List V} {room : Int} {P : List (V × Cg)} {g : Cg} {x : Sp}
theorem LogIs.len (h : LogIs σ i mo s ov room P) : ∃ n cap, (n = 0 ∧ ∃ R q, s = .sl true R q [] ∧ P = []) ∨ s = .osl n P.length cap 13 := by
  rcases h.row with ⟨R, q, rfl, e⟩ | ⟨j, cap, rfl, -⟩
  · exact ⟨0, 0, .inl ⟨rfl, R, q, rfl, by simpa [cgsV] using e⟩⟩
  · exact ⟨j, cap, .inr (by rw [cgsV_len])⟩
set_option maxRecDepth 100000 in
set_option maxHeartbeats 4000000 in
theorem new_ok (hr : (decide (room < 1) || decide (room > 4096)) = false) : CallA Try.prog 24 [.int .i64 room] σ fun v σ' => v = .tup [.ptr (some (σ.objs.length + 1, 0)), .int .i64 0] ∧ LogIs σ' (σ.objs.length + 1) (some σ.objs.length) (.sl true .pub 0 []) nilO room [] ∧ Ext σ σ' := by
  refine fn_at Try.func24 (by decide) comp24 rfl fun Q q1 q2 => ?_
  rw [Bool.or_eq_false_iff] at hr
  simp -implicitDefEqProofs only [go_sem, Nat.reduceBEq, Nat.reduceAdd, eq_self, true_and, and_true, and_self, List.getElem?_cons_zero, List.getElem?_cons_succ, Nat.reduceLeDiff, Nat.zero_add, Nat.reduceSub, Nat.le_refl, c24, hr.1, hr.2]
  refine q2 _ _ ?_
  simp -implicitDefEqProofs only [go_sem, Nat.reduceBEq, Nat.reduceAdd, eq_self, true_and, and_true, and_self, List.getElem?_cons_zero, List.getElem?_cons_succ, Nat.reduceLeDiff, Nat.zero_add, Nat.reduceSub, Nat.le_refl, Nat.lt_irrefl]
  refine ⟨?_, logIs_new (by simp [nilO]) ⟨[], 0, by simp, fun x => rfl⟩, (ext_obj _ _).trans (ext_obj _ _)⟩
  try simp
set_option maxRecDepth 100000 in
theorem len_ok (h : LogIs σ i mo s ov room P) : CallA Try.prog 53 [.ptr (some (i, 0))] σ fun v σ' => v = .int .i64 P.length ∧ σ' = σ := by
  have h1 := h.cells
  refine fn_at Try.func53 (by decide) comp53 rfl fun Q q1 q2 => ?_
  obtain ⟨n, cap, ⟨rfl, R, q, rfl, rfl⟩ | rfl⟩ := h.len
  all_goals
    simp -implicitDefEqProofs only [go_sem, Nat.reduceBEq, Nat.reduceAdd, eq_self, true_and, and_true, and_self, List.getElem?_cons_zero, List.getElem?_cons_succ, Nat.reduceLeDiff, Nat.zero_add, Nat.reduceSub, Nat.le_refl, c53, h1]
    refine q2 _ _ ?_
    simp -implicitDefEqProofs only [go_sem, Nat.reduceBEq, Nat.reduceAdd, eq_self, true_and, and_true, and_self, List.getElem?_cons_zero, List.getElem?_cons_succ, Nat.reduceLeDiff, Nat.zero_add, Nat.reduceSub, Nat.le_refl, Nat.lt_irrefl]
    try simp
set_option maxRecDepth 100000 in
theorem room_ok (h : LogIs σ i mo s ov room P) : CallA Try.prog 60 [.ptr (some (i, 0))] σ fun v σ' => v = .int .i64 room ∧ σ' = σ := by
  have h1 := h.cells
  refine fn_at Try.func60 (by decide) comp60 rfl fun Q q1 q2 => ?_
  simp -implicitDefEqProofs only [go_sem, Nat.reduceBEq, Nat.reduceAdd, eq_self, true_and, and_true, and_self, List.getElem?_cons_zero, List.getElem?_cons_succ, Nat.reduceLeDiff, Nat.zero_add, Nat.reduceSub, Nat.le_refl, c60, h1]
  refine q2 _ _ ?_
  simp -implicitDefEqProofs only [go_sem, Nat.reduceBEq, Nat.reduceAdd, eq_self, true_and, and_true, and_self, List.getElem?_cons_zero, List.getElem?_cons_succ, Nat.reduceLeDiff, Nat.zero_add, Nat.reduceSub, Nat.le_refl, Nat.lt_irrefl]
set_option maxRecDepth 100000 in
theorem ccmp_ok : CallA Try.prog 76 [cgV d g, spV x] σ fun v σ' => v = .int .i64 (st.cmp (atS g) x) ∧ σ' = σ := by
  refine fn_at Try.func76 (by decide) comp76 rfl fun Q q1 q2 => ?_
  have hc := compare_ok (σ := σ) (a1 := g.ac) (a2 := g.ar) (b1 := x.c) (b2 := x.r)
  have e : cmp g.ac g.ar x.c x.r = st.cmp (atS g) x := scmp (atS g) x
  rw [e] at hc
  simp -implicitDefEqProofs only [go_sem, Nat.reduceBEq, Nat.reduceAdd, eq_self, true_and, and_true, and_self, List.getElem?_cons_zero, List.getElem?_cons_succ, Nat.reduceLeDiff, Nat.zero_add, Nat.reduceSub, Nat.le_refl, c76, cgV, cgC, spV, spC]
  refine call_at hc ?_
  rintro v τ ⟨hτ, rfl⟩
  have hτ := hτ.symm
  subst hτ
  refine ⟨(Ext.refl _).kept, ?_⟩
  simp -implicitDefEqProofs only [go_sem, Nat.reduceBEq, Nat.reduceAdd, eq_self, true_and, and_true, and_self, List.getElem?_cons_zero, List.getElem?_cons_succ, Nat.reduceLeDiff, Nat.zero_add, Nat.reduceSub, Nat.le_refl, Nat.lt_irrefl]
  refine q2 _ _ ?_
  simp -implicitDefEqProofs only [go_sem, Nat.reduceBEq, Nat.reduceAdd, eq_self, true_and, and_true, and_self, List.getElem?_cons_zero, List.getElem?_cons_succ, Nat.reduceLeDiff, Nat.zero_add, Nat.reduceSub, Nat.le_refl, Nat.lt_irrefl]
set_option maxRecDepth 100000 in
set_option maxHeartbeats 4000000 in
theorem bs_ok (hr : RowOf σ s 13 (cgsV P)) (hl : P.length ≤ 1000000) (hd : Rds σ P) (hs : (cgL P).Pairwise fun a b => st.less (atS a) (atS b) = true) :
    CallA Try.prog 75 [s, spV x, .fn 76 []] σ fun w σ' => (∃ k : Nat, w = .tup [.int .i64 k, .bool ((cgL P).find? (isA x)).isSome] ∧ PlaceAt (cgL P) x k) ∧ σ' = σ := by
  refine fn_at Try.func75 (by decide) comp75 rfl fun Q q1 q2 => ?_
  rcases hr with ⟨R, q, rfl, he⟩ | ⟨j', cap, rfl, ho, -, hc⟩
  · have hD : P = [] := by simpa [cgsV] using he
    subst hD
    simp -implicitDefEqProofs only [go_sem, Nat.reduceBEq, Nat.reduceAdd, eq_self, true_and, and_true, and_self, List.getElem?_cons_zero, List.getElem?_cons_succ, Nat.reduceLeDiff, Nat.zero_add, Nat.reduceSub, Nat.le_refl, c75, spV, spC]
    refine loop_at (fun (_ : Unit) => ⟨[(0, .v (.sl true R q [])), (2, .v (.fn 76 [])), (4, .loc 4 0), (8, .v (.int .i64 0)), (9, .v (.int .i64 0)), (10, .v (.int .i64 0))], [(4, spC x)]⟩) (fun _ τ => τ = σ) (fun _ => 0) () ?_ ?_ ?_
    · refine .inr ?_
      simp -implicitDefEqProofs only [go_sem, Nat.reduceBEq, Nat.reduceAdd, eq_self, true_and, and_true, and_self, List.getElem?_cons_zero, List.getElem?_cons_succ, Nat.reduceLeDiff, Nat.zero_add, Nat.reduceSub, Nat.le_refl, spV, spC]
      try exact ⟨rfl, rfl⟩
      try rfl
    · rfl
    rintro u τ hτ Z z1 z2 z3
    have hτ := hτ.symm
    subst hτ
    have h0 : decide ((0 : Int) < 0) = false := by decide
    simp -implicitDefEqProofs only [go_sem, Nat.reduceBEq, Nat.reduceAdd, eq_self, true_and, and_true, and_self, List.getElem?_cons_zero, List.getElem?_cons_succ, Nat.reduceLeDiff, Nat.zero_add, Nat.reduceSub, Nat.le_refl, h0]
    refine z2 _ _ _ ?_
    simp -implicitDefEqProofs only [go_sem, Nat.reduceBEq, Nat.reduceAdd, eq_self, true_and, and_true, and_self, List.getElem?_cons_zero, List.getElem?_cons_succ, Nat.reduceLeDiff, Nat.zero_add, Nat.reduceSub, Nat.le_refl, h0]
    refine q2 _ _ ?_
    simp -implicitDefEqProofs only [go_sem, Nat.reduceBEq, Nat.reduceAdd, eq_self, true_and, and_true, and_self, List.getElem?_cons_zero, List.getElem?_cons_succ, Nat.reduceLeDiff, Nat.zero_add, Nat.reduceSub, Nat.le_refl, Nat.lt_irrefl]
    exact ⟨0, rfl, by simp [PlaceAt]⟩
  have hlm : (cgsV P).length = P.length := cgsV_len P
  have hll : (cgL P).length = P.length := by simp
  have hlook : ∀ (k : Nat) (h : k < P.length), (cgL P)[k]'(by rw [hll]; exact h) = P[k].2 := fun k h => by simp
  simp -implicitDefEqProofs only [go_sem, Nat.reduceBEq, Nat.reduceAdd, eq_self, true_and, and_true, and_self, List.getElem?_cons_zero, List.getElem?_cons_succ, Nat.reduceLeDiff, Nat.zero_add, Nat.reduceSub, Nat.le_refl, c75, spV, spC]
  refine loop_at (fun (y : Nat × Nat) => ⟨[(0, .v (.osl j' (cgsV P).length cap 13)), (2, .v (.fn 76 [])), (4, .loc 4 0), (8, .v (.int .i64 P.length)), (9, .v (.int .i64 y.1)), (10, .v (.int .i64 y.2))], [(4, spC x)]⟩)
    (fun y τ => y.1 ≤ y.2 ∧ y.2 ≤ P.length ∧ τ = σ ∧ (∀ (k : Nat) (h : k < (cgL P).length), k < y.1 → st.less (atS (cgL P)[k]) x = true) ∧ ∀ (k : Nat) (h : k < (cgL P).length), y.2 ≤ k → st.less (atS (cgL P)[k]) x = false) (fun y => y.2 - y.1) (0, P.length) ?_ ?_ ?_
  · refine .inr ?_
    simp -implicitDefEqProofs only [go_sem, Nat.reduceBEq, Nat.reduceAdd, eq_self, true_and, and_true, and_self, List.getElem?_cons_zero, List.getElem?_cons_succ, Nat.reduceLeDiff, Nat.zero_add, Nat.reduceSub, Nat.le_refl, hlm, spV, spC]
    try exact ⟨rfl, rfl⟩
    try rfl
  · exact ⟨Nat.zero_le _, Nat.le_refl _, rfl, fun k h h0 => by simp at h0, fun k h h0 => by simp only at h0; omega⟩
  rintro ⟨a, b⟩ τ ⟨g0, g1, hτ, g3, g4⟩ Z z1 z2 z3
  simp only at g0 g1 g3 g4
  have hτ := hτ.symm
  subst hτ
  simp -implicitDefEqProofs only [go_sem, Nat.reduceBEq, Nat.reduceAdd, eq_self, true_and, and_true, and_self, List.getElem?_cons_zero, List.getElem?_cons_succ, Nat.reduceLeDiff, Nat.zero_add, Nat.reduceSub, Nat.le_refl, Nat.lt_irrefl]
  refine CondW_b (fun hcc => ?_) (fun hcc => ?_)
  · have hab : a < b := by simpa using hcc
    have hwm : IntKind.i64.wrap ((IntKind.u64.wrap (IntKind.i64.wrap ((a : Int) + b))).fdiv (2 ^ min (Int.toNat 1) 64)) = (((a + b) / 2 : Nat) : Int) := by
      rw [i64_in ((a : Int) + b) (by omega), u64_in _ (by omega)]
      rw [show (2 ^ min (Int.toNat 1) 64 : Int) = 2 from rfl, Int.fdiv_eq_ediv_of_nonneg _ (by omega), i64_in _ (by omega)]
      omega
    generalize hcm : (a + b) / 2 = c at hwm
    have hc1 : a ≤ c ∧ c < b := by omega
    have hi : c < P.length := by omega
    have hget := cg_drop0 hi
    have hlk := hlook c hi
    have hdc := hd _ (List.getElem_mem hi)
    have hwc : IntKind.i64.wrap ((c : Int) + 1) = ((c + 1 : Nat) : Int) := by rw [i64_in _ (by omega)]; omega
    have hmono1 : ∀ (k : Nat) (h : k < (cgL P).length), k < c → st.less (atS (cgL P)[k]) (atS (P[c]).2) = true := fun k h hk => by
      rw [← hlk]; exact (List.pairwise_iff_getElem.1 hs) k c h (by omega) hk
    have hmono2 : ∀ (k : Nat) (h : k < (cgL P).length), c < k → st.less (atS (P[c]).2) (atS (cgL P)[k]) = true := fun k h hk => by
      rw [← hlk]; exact (List.pairwise_iff_getElem.1 hs) c k (by omega) h hk
    have hb1 : (c : Int) < (cgsV P).length := by rw [hlm]; omega
    generalize P[c] = p at hget hlk hdc hmono1 hmono2
    obtain ⟨d2, h⟩ := p
    simp only at hget hlk hdc hmono1 hmono2
    obtain ⟨db, dr, dz, rfl, -, -⟩ := id hdc
    have hcm2 := ccmp_ok (σ := σ) (d := .sl db dr dz (intsV .i64 h.deps)) (g := h) (x := x)
    simp only [cgV, cgC, spV, spC] at hcm2
    simp -implicitDefEqProofs only [go_sem, Nat.reduceBEq, Nat.reduceAdd, eq_self, true_and, and_true, and_self, List.getElem?_cons_zero, List.getElem?_cons_succ, Nat.reduceLeDiff, Nat.zero_add, Nat.reduceSub, Nat.le_refl, hwm, ho, hget, Int.toNat_natCast, Nat.add_zero, cgC, spC]
    refine ⟨by omega, ⟨by omega, hb1⟩, ?_⟩
    refine call_at hcm2 ?_
    rintro w τ ⟨rfl, hτ⟩
    have hτ := hτ.symm
    subst hτ
    refine ⟨(Ext.refl _).kept, ?_⟩
    have hneg : decide (st.cmp (atS h) x < 0) = st.less (atS h) x := st.cmp_neg _ _
    cases hx : st.less (atS h) x <;> rw [hx] at hneg
    · simp -implicitDefEqProofs only [go_sem, Nat.reduceBEq, Nat.reduceAdd, eq_self, true_and, and_true, and_self, List.getElem?_cons_zero, List.getElem?_cons_succ, Nat.reduceLeDiff, Nat.zero_add, Nat.reduceSub, Nat.le_refl, hneg]
      refine z1 (a, c) _ _ (.inr ?_) (by simp only; omega) ⟨by simp only; omega, by simp only; omega, rfl, g3, fun k hk h1 => ?_⟩
      · simp -implicitDefEqProofs only [go_sem, Nat.reduceBEq, Nat.reduceAdd, eq_self, true_and, and_true, and_self, List.getElem?_cons_zero, List.getElem?_cons_succ, Nat.reduceLeDiff, Nat.zero_add, Nat.reduceSub, Nat.le_refl, spC]
        try exact ⟨rfl, rfl⟩
        try rfl
      · simp only at h1
        rcases Nat.lt_or_ge c k with h2 | h2
        · cases h3 : st.less (atS (cgL P)[k]) x
          · rfl
          · rw [less_trans (hmono2 k hk h2) h3] at hx; cases hx
        · have : k = c := by omega
          subst this
          rw [hlk]; exact hx
    · simp -implicitDefEqProofs only [go_sem, Nat.reduceBEq, Nat.reduceAdd, eq_self, true_and, and_true, and_self, List.getElem?_cons_zero, List.getElem?_cons_succ, Nat.reduceLeDiff, Nat.zero_add, Nat.reduceSub, Nat.le_refl, hneg, hwc]
      refine z1 (c + 1, b) _ _ (.inr ?_) (by simp only; omega) ⟨by simp only; omega, g1, rfl, fun k hk h1 => ?_, g4⟩
      · simp -implicitDefEqProofs only [go_sem, Nat.reduceBEq, Nat.reduceAdd, eq_self, true_and, and_true, and_self, List.getElem?_cons_zero, List.getElem?_cons_succ, Nat.reduceLeDiff, Nat.zero_add, Nat.reduceSub, Nat.le_refl, spC]
        try exact ⟨rfl, rfl⟩
        try rfl
      · simp only at h1
        rcases Nat.lt_or_ge k c with h2 | h2
        · exact less_trans (hmono1 k hk h2) hx
        · have : k = c := by omega
          subst this
          rw [hlk]; exact hx
  · have hab : a = b := by have : ¬ a < b := by simpa using hcc
                           omega
    subst hab
    simp -implicitDefEqProofs only [go_sem, Nat.reduceBEq, Nat.reduceAdd, eq_self, true_and, and_true, and_self, List.getElem?_cons_zero, List.getElem?_cons_succ, Nat.reduceLeDiff, Nat.zero_add, Nat.reduceSub, Nat.le_refl, Nat.lt_irrefl]
    refine z2 _ _ _ ?_
    have hpl : PlaceAt (cgL P) x a := ⟨by omega, g3, g4⟩
    cases hin : decide ((a : Int) < P.length)
    · have hnf : ((cgL P).find? (isA x)).isSome = false := by
        rcases hpl.found hs with ⟨h1, -⟩ | ⟨hi, -⟩
        · rw [h1]; rfl
        · have := of_decide_eq_false hin; omega
      simp -implicitDefEqProofs only [go_sem, Nat.reduceBEq, Nat.reduceAdd, eq_self, true_and, and_true, and_self, List.getElem?_cons_zero, List.getElem?_cons_succ, Nat.reduceLeDiff, Nat.zero_add, Nat.reduceSub, Nat.le_refl, hin]
      refine q2 _ _ ?_
      simp -implicitDefEqProofs only [go_sem, Nat.reduceBEq, Nat.reduceAdd, eq_self, true_and, and_true, and_self, List.getElem?_cons_zero, List.getElem?_cons_succ, Nat.reduceLeDiff, Nat.zero_add, Nat.reduceSub, Nat.le_refl, hnf]
      exact ⟨a, rfl, hpl⟩
    · have hi : a < P.length := by have := of_decide_eq_true hin; omega
      have hget := cg_drop0 hi
      have hlk := hlook a hi
      have hdc := hd _ (List.getElem_mem hi)
      have hb1 : (a : Int) < (cgsV P).length := by rw [hlm]; omega
      have hfd : ((cgL P).find? (isA x)).isSome = decide (atS P[a].2 = x) := by
        rcases hpl.found hs with ⟨h1, h2⟩ | ⟨h1, h2, h3⟩
        · rw [h1]
          have := h2 (by omega)
          rw [hlk] at this
          simp [this]
        · rw [h3]
          rw [hlk] at h2
          simp [h2]
      generalize P[a] = p at hget hlk hdc hfd
      obtain ⟨d2, h⟩ := p
      simp only at hget hlk hdc hfd
      obtain ⟨db, dr, dz, rfl, -, -⟩ := id hdc
      have hcm2 := ccmp_ok (σ := σ) (d := .sl db dr dz (intsV .i64 h.deps)) (g := h) (x := x)
      simp only [cgV, cgC, spV, spC] at hcm2
      have hz : decide (st.cmp (atS h) x = 0) = decide (atS h = x) := by
        unfold st.cmp
        by_cases e : atS h = x
        · simp [e]
        · cases st.less (atS h) x <;> simp [e]
      rw [hfd] at q2
      simp -implicitDefEqProofs only [go_sem, Nat.reduceBEq, Nat.reduceAdd, eq_self, true_and, and_true, and_self, List.getElem?_cons_zero, List.getElem?_cons_succ, Nat.reduceLeDiff, Nat.zero_add, Nat.reduceSub, Nat.le_refl, hin, ho, hget, Int.toNat_natCast, Nat.add_zero, cgC, spC]
      refine ⟨⟨by omega, hb1⟩, ?_⟩
      refine call_at hcm2 ?_
      rintro w τ ⟨rfl, hτ⟩
      have hτ := hτ.symm
      subst hτ
      refine ⟨(Ext.refl _).kept, ?_⟩
      simp -implicitDefEqProofs only [go_sem, Nat.reduceBEq, Nat.reduceAdd, eq_self, true_and, and_true, and_self, List.getElem?_cons_zero, List.getElem?_cons_succ, Nat.reduceLeDiff, Nat.zero_add, Nat.reduceSub, Nat.le_refl, hz]
      refine q2 _ _ ?_
      simp -implicitDefEqProofs only [go_sem, Nat.reduceBEq, Nat.reduceAdd, eq_self, true_and, and_true, and_self, List.getElem?_cons_zero, List.getElem?_cons_succ, Nat.reduceLeDiff, Nat.zero_add, Nat.reduceSub, Nat.le_refl, Nat.lt_irrefl]
      exact ⟨a, rfl, hpl⟩
set_option maxRecDepth 100000 in
set_option maxHeartbeats 4000000 in
theorem place_at (h : LogIs σ i mo s ov room P) (hl : P.length ≤ 1000000) : CallA Try.prog 50 [.ptr (some (i, 0)), spV x] σ fun w σ' => (∃ k : Nat, w = .tup [.int .i64 k, .bool ((cgL P).find? (isA x)).isSome] ∧ PlaceAt (cgL P) x k) ∧ σ' = σ := by
  have h1 := h.cells
  refine fn_at Try.func50 (by decide) comp50 rfl fun Q q1 q2 => ?_
  have hbs := bs_ok (x := x) h.row hl h.rds h.good.srt
  simp only [spV, spC] at hbs
  simp -implicitDefEqProofs only [go_sem, Nat.reduceBEq, Nat.reduceAdd, eq_self, true_and, and_true, and_self, List.getElem?_cons_zero, List.getElem?_cons_succ, Nat.reduceLeDiff, Nat.zero_add, Nat.reduceSub, Nat.le_refl, c50, spV, spC, h1]
  refine call_at hbs ?_
  rintro w τ ⟨⟨k, rfl, hp⟩, hτ⟩
  have hτ := hτ.symm
  subst hτ
  refine ⟨(Ext.refl _).kept, ?_⟩
  simp -implicitDefEqProofs only [go_sem, Nat.reduceBEq, Nat.reduceAdd, eq_self, true_and, and_true, and_self, List.getElem?_cons_zero, List.getElem?_cons_succ, Nat.reduceLeDiff, Nat.zero_add, Nat.reduceSub, Nat.le_refl, Nat.lt_irrefl]
  refine q2 _ _ ?_
  simp -implicitDefEqProofs only [go_sem, Nat.reduceBEq, Nat.reduceAdd, eq_self, true_and, and_true, and_self, List.getElem?_cons_zero, List.getElem?_cons_succ, Nat.reduceLeDiff, Nat.zero_add, Nat.reduceSub, Nat.le_refl, Nat.lt_irrefl]
  exact ⟨k, rfl, hp⟩
end
end Go.VL.opl

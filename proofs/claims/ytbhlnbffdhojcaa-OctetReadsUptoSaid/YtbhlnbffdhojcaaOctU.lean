/- octet: PutText. -/
import Derived.Test.YtbhlnbffdhojcaaOctT
set_option linter.unusedVariables false
set_option linter.unusedSimpArgs false
namespace Go.VL
open Go Go.Proofs Go.IntWalk

def strsV (l : List (List UInt8)) : List (List V) := l.map fun s => [V.str s]
def encTs (l : List (List UInt8)) : List UInt8 := l.flatMap fun s => enc s.length ++ s
def sizes (l : List (List UInt8)) : Nat := (l.map fun s => s.length + 10).sum
theorem strsV_get {l : List (List UInt8)} {i : Nat} (h : i < l.length) : (strsV l)[((i : Nat) : Int).toNat]?.getD [] = [V.str l[i]] := by simp [strsV, h]
theorem encTs_take {l : List (List UInt8)} {i : Nat} (h : i < l.length) : encTs (l.take i) ++ (enc (l[i]).length ++ l[i]) = encTs (l.take (i + 1)) := by
  rw [List.take_succ_eq_append_getElem h]
  simp only [encTs, List.flatMap_append, List.flatMap_cons, List.flatMap_nil, List.append_nil]
theorem encTs_len : ∀ (l : List (List UInt8)), sizes l ≤ 536870912 → (encTs l).length ≤ sizes l
  | [], _ => by simp [encTs, sizes]
  | s :: l, h => by
    simp only [sizes, List.map_cons, List.sum_cons] at h ⊢
    have h2 := encTs_len l (by simp only [sizes]; omega)
    have h1 := enc_len (n := (s.length : Int)) ⟨by omega, by omega⟩
    simp only [Int.toNat_natCast] at h1
    simp only [encTs, List.flatMap_cons, List.length_append, sizes] at h2 ⊢
    omega
theorem len_le_sizes : ∀ (l : List (List UInt8)), l.length ≤ sizes l
  | [] => by simp
  | s :: l => by
    have := len_le_sizes l
    simp only [sizes, List.map_cons, List.sum_cons, List.length_cons] at this ⊢
    omega
theorem sizes_take (l : List (List UInt8)) {i : Nat} (h : i < l.length) : sizes (l.take i) + ((l[i]).length + 10) ≤ sizes l := by
  have e : l = l.take i ++ l[i] :: l.drop (i + 1) := by rw [← List.drop_eq_getElem_cons h, List.take_append_drop]
  have : sizes l = sizes (l.take i) + ((l[i]).length + 10 + sizes (l.drop (i + 1))) := by
    conv => lhs; rw [e]
    simp only [sizes, List.map_append, List.sum_append, List.map_cons, List.sum_cons]
  omega

set_option maxRecDepth 100000 in
/-- octet.PutText. -/
theorem putText_ok {σ : St} {b l : V} {s : List UInt8} {ts : List (List UInt8)} (hb : RdS σ b 1 (bytesV s)) (hl : RdS σ l 1 (strsV ts)) (hlen : s.length + sizes ts ≤ 268435456) :
    CallA Try.prog 14 [b, l] σ fun v σ' => Ext σ σ' ∧ σ'.objs = σ.objs ∧ NewS σ σ' v 1 (bytesV (s ++ encTs ts)) := by
  obtain ⟨bb, br, bs, rfl, hb1, hb2⟩ := hb
  obtain ⟨lb, lr, ls, rfl, hl1, hl2⟩ := hl
  refine fn_at Try.func14 (by decide) comp14 rfl fun Q q1 q2 => ?_
  simp -implicitDefEqProofs only [c14, go_sem, Nat.reduceBEq, Nat.reduceAdd]
  have hb3 : (bb = true ∨ rd (σ.live ++ [true]) br) ∧ (bs = 1 ∨ bytesV s = []) := by
    rcases hb2 with h | h
    · exact ⟨.inl h, .inr (hb1 h)⟩
    · exact ⟨.inr (rd_ext (ext_live σ true) h.1), .inl h.2⟩
  refine ⟨⟨.inr trivial, .inr (live_last _ _), hb3, by simp only [bytesV_length]; omega⟩, ?_⟩
  refine loop_at (fun (x : Nat × Nat × List UInt8) => ⟨[(5, .v (.sl false (.own x.2.1) 1 (bytesV x.2.2))), (11, .v (.sl lb lr ls (strsV ts))), (12, .v (.int .i64 ts.length)), (13, .v (.int .i64 x.1))], []⟩)
    (fun x τ => x.1 ≤ ts.length ∧ Ext σ τ ∧ τ.objs = σ.objs ∧ τ.live[x.2.1]? = some true ∧ σ.live.length ≤ x.2.1 ∧ x.2.2 = s ++ encTs (ts.take x.1)) (fun x => ts.length - x.1) (0, (σ.live ++ [true]).length, s) ?_ ?_ ?_
  · exact .inr (by simp [go_sem, strsV])
  · refine ⟨Nat.zero_le _, ?_, rfl, by simp [kill], by simp, by simp [encTs]⟩
    exact ext_kill (ext_live σ true) (Nat.le_refl _)
  rintro ⟨i, r, acc⟩ τ ⟨h1, h2, h3, h4, h5, h6⟩ Z z1 z2 z3
  simp only at h1 h4 h5 h6
  simp -implicitDefEqProofs only [go_sem, Nat.reduceBEq, Nat.reduceAdd]
  refine CondW_b (fun hc => ?_) (fun hc => ?_)
  · have hi : i < ts.length := by simpa using hc
    have hrd : rd τ.live lr ∧ ls = 1 := by
      rcases hl2 with h | h
      · have := hl1 h
        simp [strsV] at this
        simp [this] at hi
      · exact ⟨rd_ext h2 h.1, h.2⟩
    have hsz := sizes_take ts hi
    have hll := len_le_sizes ts
    have hel := encTs_len (ts.take i) (by omega)
    have hstep := encTs_take hi
    simp -implicitDefEqProofs only [go_sem, Nat.reduceBEq, Nat.reduceAdd, strsV_get hi]
    generalize ts[i] = t at hsz hstep
    have hacc : acc.length ≤ s.length + sizes (ts.take i) := by rw [h6, List.length_append]; omega
    refine ⟨⟨by omega, by simpa [strsV] using hi, hrd.2⟩, hrd.1, ?_⟩
    have hin : RdS ⟨τ.objs, τ.live ++ [true]⟩ (.sl false (.own τ.live.length) 1 [[V.int .i64 (t.length : Int)]]) 1 (intsV .i64 [(t.length : Int)]) := lit_rd (σ := τ) (l := [])
    have hout : RdS ⟨τ.objs, τ.live ++ [true]⟩ (.sl false (.own r) 1 (bytesV acc)) 1 (bytesV acc) := ⟨false, .own r, 1, rfl, by simp, .inr ⟨(ext_live _ _).live _ h4, rfl⟩⟩
    refine call_at (put_ok hout hin (by intro m hm; simp at hm; subst hm; exact ⟨by omega, by omega⟩) (by simp only [List.length_cons, List.length_nil]; omega)) ?_
    rintro v τ1 ⟨he1, ho1, r1, rfl, hr1, hn1⟩
    refine ⟨kept_none, ?_⟩
    have hen : encs [(t.length : Int)] = enc t.length := by simp [encs]
    have h10 := enc_len (n := (t.length : Int)) ⟨by omega, by omega⟩
    simp only [Int.toNat_natCast] at h10
    simp -implicitDefEqProofs only [go_sem, Nat.reduceBEq, Nat.reduceAdd, hen, bytesV_append]
    refine ⟨⟨.inr trivial, .inr hr1, trivial, by simp only [bytesV_length, List.length_append]; omega⟩, ?_⟩
    refine z1 (i + 1, τ1.live.length, acc ++ (enc t.length ++ t)) _ _ (.inr ?_) ?_ ?_
    · simp -implicitDefEqProofs only [go_sem, Nat.reduceBEq, Nat.reduceAdd, and_true, List.append_assoc]
      rw [i64_in _ (by omega)]; simp
    · simp only; omega
    · have hl1 : σ.live.length ≤ r1 := by have := h2.llen; simp at hn1; omega
      have hE : Ext σ τ1 := h2.trans ((ext_live _ _).trans he1)
      refine ⟨by simp only; omega, ext_kill hE hl1, ho1.trans h3, live_last' _ _ _, by have := hE.llen; simp only; omega, ?_⟩
      simp only [h6, List.append_assoc, hstep]
  · have hi : ¬ (i < ts.length) := by simpa using hc
    simp -implicitDefEqProofs only [go_sem, Nat.reduceBEq, Nat.reduceAdd]
    refine z2 _ _ _ ?_
    simp -implicitDefEqProofs only [go_sem, Nat.reduceBEq, Nat.reduceAdd]
    refine q2 _ _ ?_
    simp -implicitDefEqProofs only [go_sem, Nat.reduceBEq, Nat.reduceAdd]
    refine ⟨h2, h3, r, ?_, h4, h5⟩
    rw [h6, List.take_of_length_le (by omega)]
end Go.VL

/- The V-logic, part 7: single operations. -/
import Derived.Test.YtefbofjonjdebaaVf
import Derived.Laws.Sem
import Derived.Laws.Strings
set_option linter.unusedVariables false
set_option linter.unusedSimpArgs false
namespace Go.VL
open Go

theorem byteArray_mk (s : ByteArray) : (⟨s.data.toList.toArray⟩ : ByteArray) = s := by cases s; simp

theorem vOf1_rep (γ : G) (s : Nat) : ∀ (v : Value) (x : V), vOf1 s v = some x → Rep γ x v := by
  intro v x h
  cases v with
  | int k n => simp only [vOf1, Option.some.injEq] at h; subst h; simp [Rep]
  | bool b => simp only [vOf1, Option.some.injEq] at h; subst h; simp [Rep]
  | string t => simp only [vOf1, Option.some.injEq] at h; subst h; simp only [Rep, byteArray_mk]
  | slice a n c =>
    cases a with
    | some a => simp [vOf1] at h
    | none =>
      cases n with
      | succ n => simp [vOf1] at h
      | zero =>
        cases c with
        | succ n => simp [vOf1] at h
        | zero => simp only [vOf1, Option.some.injEq] at h; subst h; simp [Rep]
  | pointer a =>
    cases a with
    | some a => simp [vOf1] at h
    | none => simp only [vOf1, Option.some.injEq] at h; subst h; simp [Rep]
  | map a =>
    cases a with
    | some a => simp [vOf1] at h
    | none => simp only [vOf1, Option.some.injEq] at h; subst h; simp [Rep]
  | nilFunc => simp only [vOf1, Option.some.injEq] at h; subst h; simp [Rep]
  | _ => simp [vOf1] at h

theorem vOfs_rep (γ : G) : ∀ (vs : List Value) (xs : List V), vOfs vs = some xs → RepL γ xs vs
  | [], xs, h => by simp only [vOfs, Option.some.injEq] at h; subst h; simp [RepL]
  | v :: r, xs, h => by
    simp only [vOfs] at h
    split at h
    · rename_i x ys hx hys
      simp only [Option.some.injEq] at h
      subst h
      simp only [RepL]
      exact ⟨v, r, rfl, vOf1_rep γ 0 v x hx, vOfs_rep γ r ys hys⟩
    · simp at h

theorem vOf_rep (γ : G) (s : Nat) (v : Value) (x : V) (h : vOf s v = some x) : Rep γ x v := by
  cases v with
  | agg cs =>
    simp only [vOf, Option.map_eq_some_iff] at h
    obtain ⟨xs, h1, rfl⟩ := h
    simp only [Rep]
    exact ⟨cs.toList, by simp, vOfs_rep γ _ _ h1⟩
  | _ => exact vOf1_rep γ s _ x h

section
variable {P : Program} {γ : G} {σ : St} {F : Fr} {a : Act} {w : World} {lam : Nat → Nat}

theorem ev_rep (h : FRep γ σ F a w lam) {s : Nat} {x : Operand} {e : E} (hc : compE s x = some e) : SRep γ lam (F.ev e) (a.eval x) := by
  cases x with
  | tmp t =>
    simp only [compE, Option.some.injEq] at hc
    subst hc
    exact h.s t
  | const v =>
    simp only [compE, Option.map_eq_some_iff] at hc
    obtain ⟨y, h1, rfl⟩ := hc
    exact vOf_rep γ s v y h1
  | func f =>
    simp only [compE, Option.some.injEq] at hc
    subst hc
    simp only [Fr.ev, SRep, Rep, Act.eval]
    exact ⟨[], rfl, by simp [RepL]⟩
  | global g => simp [compE] at hc

theorem va_rep (h : FRep γ σ F a w lam) {s : Nat} {x : Operand} {e : E} (hc : compE s x = some e) : Rep γ (F.va e) (a.eval x) := by
  have := ev_rep h hc
  unfold Fr.va
  cases hs : F.ev e with
  | v y => rw [hs] at this; exact this
  | loc k o => simp [S.val, Rep]

theorem vas_rep (h : FRep γ σ F a w lam) : ∀ {xs : List Operand} {es : List E}, compEs 0 xs = some es → RepL γ (es.map F.va) (xs.map a.eval)
  | [], es, hc => by simp only [compEs, Option.some.injEq] at hc; subst hc; simp [RepL]
  | x :: r, es, hc => by
    simp only [compEs] at hc
    split at hc
    · rename_i y ys h1 h2
      simp only [Option.some.injEq] at hc
      subst hc
      simp only [List.map_cons, RepL]
      exact ⟨_, _, rfl, va_rep h h1, vas_rep h h2⟩
    · simp at hc

/-- What an operation must do. -/
def Good (P : Program) (o : Oper) (a : Act) (w : World) (γ : G) (K : Fr → St → Prop) : Prop :=
  ∃ r w' γ' σ' F' lam' v, (execOp a.eval o).run P w = .ok r w' ∧ (r = .value v ∨ (r = .skip ∧ v = undef)) ∧ Le γ γ' ∧ INV γ' σ' w' ∧
    FRep γ' σ' F' (a.put o.dst v) w' lam' ∧ K F' σ'

theorem good_pure {o : Oper} {K : Fr → St → Prop} {v : Value} {d : Nat} {x : S} (hi : INV γ σ w) (hf : FRep γ σ F a w lam) (hd : o.dst = some d) (hN : d < a.tmps.size)
    (hr : (execOp a.eval o).run P w = .ok (.value v) w) (hx : SRep γ lam x v) (hK : K (F.set d x) σ) : Good P o a w γ K :=
  ⟨_, w, γ, σ, F.set d x, lam, v, hr, .inl rfl, .refl γ, hi, by rw [hd]; exact hf.set hx hN, hK⟩

theorem run_underlying {t : TypeId} {u : TypeDesc} (h : P.underlying t = some u) : (underlying t).run P w = .ok u w := by
  simp [underlying, h]
theorem run_typeInfo {t : TypeId} {i : TypeInfo} (h : P.info? t = some i) : (typeInfo t).run P w = .ok i w := by
  simp [typeInfo, h]
theorem run_sizeOf {t : TypeId} {n : Nat} (h : szOf P t = some n) : (sizeOf t).run P w = .ok n w := by
  simp only [szOf, Option.map_eq_some_iff] at h
  obtain ⟨i, h1, rfl⟩ := h
  simp [sizeOf, run_typeInfo h1]
theorem run_isAgg {t : TypeId} {g : Bool} (h : aggOf P t = some g) : (isAgg t).run P w = .ok g w := by
  unfold aggOf at h
  unfold isAgg
  simp only [Sem.run_bind]
  cases hu : P.underlying t with
  | none => simp [hu] at h
  | some u =>
    rw [run_underlying hu]
    rw [hu] at h
    cases u <;> simp_all

variable (hi : INV γ σ w) (hf : FRep γ σ F a w lam) {o : Oper} {K : Fr → St → Prop}

theorem good_mv {s d : Nat} {x : Operand} {e : E} (hi : INV γ σ w) (hf : FRep γ σ F a w lam) (hop : o.op = .move x ∨ o.op = .assign x) (hd : o.dst = some d) (hN : d < a.tmps.size) (hc : compE s x = some e)
    (h : resK K ((O.mv d e).run F σ)) : Good P o a w γ K := by
  refine good_pure (v := a.eval x) hi hf hd hN ?_ (ev_rep hf hc) h
  rcases hop with h | h <;> simp [execOp, h]

theorem good_pk {d : Nat} {c x y : Operand} {ec ex ey : E} (hi : INV γ σ w) (hf : FRep γ σ F a w lam) (hop : o.op = .pick c x y) (hd : o.dst = some d) (hN : d < a.tmps.size)
    (hc : compE 0 c = some ec) (hx : compE 0 x = some ex) (hy : compE 0 y = some ey) (h : resK K ((O.pk d ec ex ey).run F σ)) : Good P o a w γ K := by
  have hv := va_rep hf hc
  simp only [O.run, pkB] at h
  change resK K (pkW d F σ (F.ev ex) (F.ev ey) (F.va ec)) at h
  cases hs : F.va ec with
  | bool b =>
    rw [hs] at h hv
    simp only [Rep] at hv
    cases b with
    | true => exact good_pure (v := a.eval x) hi hf hd hN (by simp [execOp, hop, hv, asBool]) (ev_rep hf hx) h
    | false => exact good_pure (v := a.eval y) hi hf hd hN (by simp [execOp, hop, hv, asBool]) (ev_rep hf hy) h
  | _ => rw [hs] at h; exact h.elim

theorem good_nc {d : Nat} {x : Operand} {e : E} (hi : INV γ σ w) (hf : FRep γ σ F a w lam) (hop : o.op = .nilCheck x) (hd : o.dst = some d) (hN : d < a.tmps.size)
    (hc : compE 0 x = some e) (h : resK K ((O.nc d e).run F σ)) : Good P o a w γ K := by
  have hv := ev_rep hf hc
  simp only [O.run] at h
  cases hs : F.ev e with
  | loc k q =>
    rw [hs] at h hv
    exact good_pure (v := a.eval x) hi hf hd hN (by simp only [SRep] at hv; simp [execOp, hop, hv]) hv h
  | v y =>
    rw [hs] at h hv
    cases y with
    | ptr p =>
      cases p with
      | none => exact h.elim
      | some p =>
        refine good_pure (v := a.eval x) hi hf hd hN ?_ hv h
        simp only [SRep, Rep] at hv
        obtain ⟨b, _, hv⟩ := hv
        simp [execOp, hop, hv]
    | elt r s es i q =>
      refine good_pure (v := a.eval x) hi hf hd hN ?_ hv h
      cases r <;> simp only [SRep, Rep] at hv
      · obtain ⟨_, _, hv, _⟩ := hv; simp [execOp, hop, hv]
      · obtain ⟨_, _, hv, _⟩ := hv; simp [execOp, hop, hv]
      · obtain ⟨_, hv, _⟩ := hv; simp [execOp, hop, hv]
    | fn f c =>
      refine good_pure (v := a.eval x) hi hf hd hN ?_ hv h
      simp only [SRep, Rep] at hv
      obtain ⟨vs, hv, _⟩ := hv
      simp [execOp, hop, hv]
    | _ => exact h.elim

theorem eqGuard_int {op : BinOp} {t : TypeId} {x y : Operand} {k k' : IntKind} {m n : Int} : (eqGuard op t x y (.int k m) (.int k' n)).run P w = .ok () w := by
  unfold eqGuard; cases op <;> simp
theorem eqGuard_str {op : BinOp} {t : TypeId} {x y : Operand} {m n : ByteArray} : (eqGuard op t x y (.string m) (.string n)).run P w = .ok () w := by
  unfold eqGuard; cases op <;> simp

theorem bytesLess_eq : ∀ a b : List UInt8, Op.bytesLess a b = strLess a b
  | _, [] => by simp [Op.bytesLess, strLess]
  | [], _ :: _ => rfl
  | x :: a, y :: b => by simp [Op.bytesLess, strLess, bytesLess_eq a b]

theorem beqI (m n : Int) : (m == n) = decide (m = n) := by by_cases h : m = n <;> simp [h]
theorem bneI (m n : Int) : (m != n) = !decide (m = n) := by simp [bne, beqI]
theorem beqL (m n : List UInt8) : (m == n) = decide (m = n) := by by_cases h : m = n <;> simp [h]
theorem toList_mk (m : List UInt8) : (⟨m.toArray⟩ : ByteArray).toList = m := ByteArray.toList_mk m

theorem ibin_ok {d : Nat} {k : IntKind} {m n : Int} {op : BinOp} {t : TypeId} (h : resK K (ibin d F σ k m n op)) :
    ∃ v x, (binOp op t (.int k m) (.int k n)).run P w = .ok v w ∧ Rep γ x v ∧ K (F.set d (.v x)) σ := by
  cases op <;> simp only [ibin, resK] at h
  case add => exact ⟨_, _, by simp only [binOp, ne_eq, not_true_eq_false, if_false, Op.intArith]; rfl, by simp only [Rep], h⟩
  case sub => exact ⟨_, _, by simp only [binOp, ne_eq, not_true_eq_false, if_false, Op.intArith]; rfl, by simp only [Rep], h⟩
  case mul => exact ⟨_, _, by simp only [binOp, ne_eq, not_true_eq_false, if_false, Op.intArith]; rfl, by simp only [Rep], h⟩
  case quo => exact ⟨_, _, by simp only [binOp, ne_eq, not_true_eq_false, if_false, Op.intDiv, if_neg h.1]; rfl, by simp only [Rep], h.2⟩
  case rem => exact ⟨_, _, by simp only [binOp, ne_eq, not_true_eq_false, if_false, Op.intDiv, if_neg h.1]; rfl, by simp only [Rep], h.2⟩
  case and => exact ⟨_, _, by simp only [binOp, ne_eq, not_true_eq_false, if_false, Op.intBits]; rfl, by simp only [Rep, ibits], h⟩
  case or => exact ⟨_, _, by simp only [binOp, ne_eq, not_true_eq_false, if_false, Op.intBits]; rfl, by simp only [Rep, ibits], h⟩
  case xor => exact ⟨_, _, by simp only [binOp, ne_eq, not_true_eq_false, if_false, Op.intBits]; rfl, by simp only [Rep, ibits], h⟩
  case andNot => exact ⟨_, _, by simp only [binOp, ne_eq, not_true_eq_false, if_false, Op.intBits]; rfl, by simp only [Rep, ibits], h⟩
  case eql => exact ⟨.bool (decide (m = n)), _, by simp only [binOp, ne_eq, not_true_eq_false, if_false, Op.intCmp]; (by_cases e : m = n <;> simp [e]), by simp only [Rep], h⟩
  case neq => exact ⟨.bool (!decide (m = n)), _, by simp only [binOp, ne_eq, not_true_eq_false, if_false, Op.intCmp]; (by_cases e : m = n <;> simp [e]), by simp only [Rep], h⟩
  case lss => exact ⟨_, _, by simp only [binOp, ne_eq, not_true_eq_false, if_false, Op.intCmp]; rfl, by simp only [Rep], h⟩
  case leq => exact ⟨_, _, by simp only [binOp, ne_eq, not_true_eq_false, if_false, Op.intCmp]; rfl, by simp only [Rep], h⟩
  case gtr => exact ⟨_, _, by simp only [binOp, ne_eq, not_true_eq_false, if_false, Op.intCmp]; rfl, by simp only [Rep, GT.gt], h⟩
  case geq => exact ⟨_, _, by simp only [binOp, ne_eq, not_true_eq_false, if_false, Op.intCmp]; rfl, by simp only [Rep, GE.ge], h⟩

theorem iibin_ok {d : Nat} {k k' : IntKind} {m n : Int} {op : BinOp} {t : TypeId} (h : resK K (iibin d F σ op k m k' n)) :
    ∃ v x, (binOp op t (.int k m) (.int k' n)).run P w = .ok v w ∧ Rep γ x v ∧ K (F.set d (.v x)) σ := by
  by_cases hl : op = .shl
  · subst hl
    simp only [iibin, resK] at h
    have : ¬ n < 0 := by omega
    exact ⟨_, _, by simp only [binOp, Op.shift, if_neg this]; rfl, by simp only [Rep], h.2⟩
  by_cases hr : op = .shr
  · subst hr
    simp only [iibin, resK] at h
    have : ¬ n < 0 := by omega
    exact ⟨_, _, by simp only [binOp, Op.shift, if_neg this]; rfl, by simp only [Rep], h.2⟩
  by_cases hk : k = k'
  · subst hk
    have : iibin d F σ op k m k n = ibin d F σ k m n op := by cases op <;> simp_all [iibin]
    rw [this] at h
    exact ibin_ok h
  · have : iibin d F σ op k m k' n = .bad := by cases op <;> simp_all [iibin]
    rw [this] at h
    exact h.elim

theorem sbin_ok {d : Nat} {m n : List UInt8} {op : BinOp} (h : resK K (sbin d F σ m n op)) :
    ∃ v x, (Op.stringOp op ⟨m.toArray⟩ ⟨n.toArray⟩).run P w = .ok v w ∧ Rep γ x v ∧ K (F.set d (.v x)) σ := by
  cases op <;> simp only [sbin, resK] at h <;> (first
    | exact h.elim
    | exact ⟨_, _, by simp only [Op.stringOp, toList_mk, bytesLess_eq, beqL]; rfl, by simp only [Rep], h⟩
    | (refine ⟨.string ⟨(m ++ n).toArray⟩, _, ?_, ?_, h.2⟩
       · have h2 : ¬ (((m.length + n.length : Nat) : Int) > IntKind.i64.max) := by
           have : IntKind.i64.max = 9223372036854775807 := by decide
           omega
         have e1 : (⟨m.toArray⟩ : ByteArray).size = m.length := by simp [ByteArray.size]
         have e2 : (⟨n.toArray⟩ : ByteArray).size = n.length := by simp [ByteArray.size]
         have e3 : (⟨m.toArray⟩ : ByteArray) ++ ⟨n.toArray⟩ = ⟨(m ++ n).toArray⟩ := by
           apply ByteArray.ext; simp
         simp only [Op.stringOp, e1, e2, if_neg h2, e3]; rfl
       · simp only [Rep]))

theorem good_bi {d : Nat} {op : BinOp} {t u : TypeId} {x y : Operand} {ex ey : E} (hi : INV γ σ w) (hf : FRep γ σ F a w lam) (hop : o.op = .binOp op t x y u) (hd : o.dst = some d) (hN : d < a.tmps.size)
    (hx : compE 0 x = some ex) (hy : compE 0 y = some ey) (h : resK K ((O.bi d op ex ey).run F σ)) : Good P o a w γ K := by
  have vx := va_rep hf hx
  have vy := va_rep hf hy
  simp only [O.run] at h
  cases hsx : F.va ex with
  | int k m =>
    rw [hsx] at h vx
    cases hsy : F.va ey with
    | int k' n =>
      rw [hsy] at h vy
      simp only [Rep] at vx vy
      obtain ⟨v, z, h1, h2, h3⟩ := iibin_ok (P := P) (γ := γ) (w := w) (t := t) h
      exact good_pure hi hf hd hN (by simp [execOp, hop, vx, vy, eqGuard_int, h1]) (x := .v z) h2 h3
    | _ => rw [hsy] at h; exact h.elim
  | str m =>
    rw [hsx] at h vx
    cases hsy : F.va ey with
    | str n =>
      rw [hsy] at h vy
      simp only [Rep] at vx vy
      obtain ⟨v, z, h1, h2, h3⟩ := sbin_ok (P := P) (γ := γ) (w := w) h
      have hb : binOp op t (.string ⟨m.toArray⟩) (.string ⟨n.toArray⟩) = Op.stringOp op ⟨m.toArray⟩ ⟨n.toArray⟩ := by cases op <;> rfl
      exact good_pure hi hf hd hN (by simp [execOp, hop, vx, vy, eqGuard_str, hb, h1]) (x := .v z) h2 h3
    | _ => rw [hsy] at h; exact h.elim
  | _ => rw [hsx] at h; exact h.elim
end
end Go.VL

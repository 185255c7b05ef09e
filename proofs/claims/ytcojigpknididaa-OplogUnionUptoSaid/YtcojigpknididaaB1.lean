import Derived.Test.YtcojigpknididaaB0
import Derived.Laws.AppendOwn
import Derived.Sort.LoopGhostIn
import Derived.RangeFuncIn
import Derived.RangeFuncRecord
import Derived.OrdersIn
import Derived.RangeFuncLeaves
import Derived.IntWalk
import Derived.Test.YtcojigpknididaaProg
import Derived.Shelf.RegionOpenPlain
import Derived.WalkKit
import Derived.Deep.LoopGhost
import Derived.Deep.Draws
import Derived.Lib.Walk
import Derived.Sort.WalkB12
import Derived.Lib.SliceRun
import Derived.Shelf.Spec.SlicesInsert
import Derived.Lib.SlicesS
import Derived.Laws.StructEq
import Derived.ChangeKeysEq
import Derived.ProofKit
import Derived.OpenShut
import Derived.JoinedCond
set_option linter.unusedVariables false
set_option linter.unusedSimpArgs false
namespace Go.VL
open Go
open Go.ChangeMaps (setBlock)

section
variable {P : Program} {γ γ' : G} {σ : St} {F : Fr} {a : Act} {w : World} {lam : Nat → Nat} {o : Oper} {K : Fr → St → Prop}

theorem good_rg {d : Nat} {t kt e : TypeId} {x : Operand} {ex : E} (hi : INV γ σ w) (hf : FRep γ σ F a w lam) (hop : o.op = .range t x) (hd : o.dst = some d) (hN : d < a.tmps.size)
    (ht : P.underlying t = some (.map kt e)) (hx : compE 0 x = some ex) (h : resK K ((O.rg d ex).run F σ)) : Good P o a w γ K := by
  have vx := va_rep hf hx
  simp only [O.run] at h
  have fin : ∀ (ob : AObj) (x : Obj), (execOp a.eval o).run P w = .ok (.value (.pointer (some ⟨w.heap.size, 0, none⟩))) (pushed w x) → (∀ γ', LeR γ γ' → γ'.snap = γ.snap → ORep γ' (pushed w x) w.heap.size ob) →
      K (F.set d (.v (.ptr (some (σ.objs.length, 0))))) ⟨σ.objs ++ [ob], σ.live⟩ → Good P o a w γ K := by
    intro ob x hr ho hK
    have hb : But none w (pushed w x) := .push w _
    have hle : LeR γ { γ with mu := γ.mu ++ [w.heap.size] } := ⟨fun i c hi => by
      show (γ.mu ++ [w.heap.size])[i]? = some c
      rw [List.getElem?_append_left (List.getElem?_eq_some_iff.1 hi).1]; exact hi, fun _ _ x => x, fun _ _ _ x => x⟩
    obtain ⟨h1, h2⟩ := hi.newObj hb (Nat.le_refl _) (sn := γ.snap) (fun _ _ _ x => x) (fun _ _ _ => rfl) (ob := ob) (ho _ hle rfl)
    refine ⟨_, _, _, _, _, lam, _, hr, .inl rfl, h2, h1, ?_, hK⟩
    rw [hd]
    refine (FRep.newObj hf hb (Nat.le_refl _)).set ?_ hN
    simp only [SRep, Rep]
    exact ⟨w.heap.size, by rw [← hi.mulen]; simp, rfl⟩
  cases hsx : F.va ex <;> rw [hsx] at h vx <;> (try exact h.elim)
  rename_i p
  cases p with
  | none =>
    simp only [Rep] at vx
    simp only [rgW, resK] at h
    exact fin (.it none [] none) (.mapIter none 0 #[] 0) (by simp [execOp, hop, Instr.range, run_underlying ht, vx, pushed]) (fun γ' _ _ => ⟨rfl, rfl, 0, #[], 0, heap_push w _⟩) h
  | some i =>
    simp only [Rep] at vx
    obtain ⟨b, hb, vx⟩ := vx
    simp only [rgW] at h
    cases ho : σ.objs[i]? with
    | none => rw [ho] at h; exact h.elim
    | some ob =>
      rw [ho] at h
      cases ob with
      | mp lv es ver =>
        simp only [rgO, resK] at h
        obtain ⟨_, _, ents, clock, g1, g2, g3, g4, g5, g6⟩ := hi.objs _ _ _ hb ho
        refine fin (.it (some (i, ver)) es none) (.mapIter (some b) clock #[] clock) (by simp [execOp, hop, Instr.range, run_underlying ht, vx, run_getMap g1, pushed]) (fun γ' hle hs => ?_) h
        refine ⟨b, ents, clock, #[], lv, hle.mu _ _ hb, by rw [hs]; exact g2, heap_push w _, ?_, by simp⟩
        have : (ents.filter fun e => !(#[] : Array Nat).contains e.born) = ents := by
          rw [List.filter_eq_self]; simp
        rw [this]
        exact RepM.mono hle lv es ents g4
      | _ => exact h.elim

theorem map_step {i b ver : Nat} {ob : AObj} {ents' : List MapEntry} {clock' : Nat} {w' : World} (hi : INV γ σ w) (hf : FRep γ σ F a w lam) (hb : γ.mu[i]? = some b) (hver : ∀ n, ver < n → γ.snap b n = none) (hbut : But (some b) w w')
    (hh : w'.heap[b]? = some (.map ents'.toArray clock')) (ho : ∀ γ', LeR γ γ' → γ'.snap b (ver + 1) = some (ents', clock') → (∀ n, ver + 1 < n → γ'.snap b n = none) → ORep γ' w' b ob) :
    ∃ γ', Le γ γ' ∧ INV γ' ⟨σ.objs.set i ob, σ.live⟩ w' ∧ FRep γ' ⟨σ.objs.set i ob, σ.live⟩ F a w' lam := by
  have hblt := lt_of_heap hh
  have hn : ∀ c n, γ.snap c n ≠ none → ¬ (c = b ∧ n = ver + 1) := by
    rintro c n hc ⟨rfl, rfl⟩
    exact hc (hver _ (Nat.lt_succ_self _))
  obtain ⟨sn, hsn⟩ : ∃ sn : Nat → Nat → Option (List MapEntry × Nat), sn = fun c n => if c = b ∧ n = ver + 1 then some (ents', clock') else γ.snap c n := ⟨_, rfl⟩
  have hold : ∀ (c n : Nat) x, γ.snap c n = some x → sn c n = some x := by
    intro c n x hx
    rw [hsn]
    simp only
    rw [if_neg (hn c n (by rw [hx]; simp))]
    exact hx
  have hle : LeR γ { γ with snap := sn } := ⟨fun _ _ x => x, fun _ _ x => x, fun _ _ _ x => x⟩
  obtain ⟨q1, q2⟩ := setObj_ok hi hf hb hbut (ob := ob) (sn := sn) hold (fun c n hc => by rw [hsn]; simp only; rw [if_neg (fun h => hc h.1)])
    (fun c n x hx => by
      rw [hsn] at hx
      simp only at hx
      by_cases e : c = b ∧ n = ver + 1
      · rw [e.1]; exact hblt
      · rw [if_neg e] at hx
        exact Nat.lt_of_lt_of_le (hi.snapb c n x hx) hbut.size)
    (ho _ hle (by show sn b (ver + 1) = _; rw [hsn]; simp) (fun n hn => by
      have : ¬ n = ver + 1 := by omega
      show sn b n = none
      rw [hsn]
      simp only [true_and, if_neg this]
      exact hver n (by omega)))
  exact ⟨{ γ with snap := sn }, ⟨hle, fun _ _ => rfl, rfl, hold, rfl, rfl, rfl, rfl⟩, q1, q2⟩

theorem leaf_refl {l : LK} {x : V} (h : l.fits x = true) : V.eq x x = true := by
  cases x <;> cases l <;> simp_all [LK.fits, V.eq]
theorem fits_refl : ∀ {lv : List LK} {cs : List V}, fits lv cs = true → V.eqs cs cs = true
  | [], [], _ => rfl
  | [], _ :: _, h => by simp [fits] at h
  | _ :: _, [], h => by simp [fits] at h
  | l :: lv, c :: cs, h => by
    simp only [fits, Bool.and_eq_true] at h
    simp only [V.eqs, Bool.and_eq_true]
    exact ⟨leaf_refl h.1, fits_refl h.2⟩
theorem keyFits_refl {lv : List LK} {k : V} (h : keyFits lv k = true) : V.eq k k = true := by
  unfold keyFits at h
  split at h
  · simp only [V.eq]; exact fits_refl h
  · cases h
  · cases h
  · have := fits_refl h
    simpa [V.eqs] using this
theorem findI_push {k z : V} (hk : V.eq k k = true) : ∀ (es : List (V × V)) (i : Nat), findI k es i = none → findI k (es ++ [(k, z)]) i = some (i + es.length, z)
  | [], i, _ => by simp [findI, hk]
  | p :: r, i, h => by
    simp only [findI] at h
    cases he : V.eq k p.1 with
    | true => simp [he] at h
    | false =>
      simp only [he, cond_false] at h
      simp only [List.cons_append, findI, he, cond_false]
      rw [findI_push hk r (i + 1) h]
      simp; omega

theorem good_me {d : Nat} {t kt e : TypeId} {x y : Operand} {em ek : E} {lv : List LK} {z : V} (hi : INV γ σ w) (hf : FRep γ σ F a w lam) (hop : o.op = .mapEntry t x y) (hd : o.dst = some d) (hN : d < a.tmps.size)
    (ht : P.underlying t = some (.map kt e)) (hl : leavesK P kt = some lv) (hx : compE 0 x = some em) (hy : compE 0 y = some ek) (hz : ((P.info? e).bind (·.zero)).bind (vOf 0) = some z)
    (h : meW d F σ K lv (F.va ek) z (F.va em)) : Good P o a w γ K := by
  have vx := va_rep hf hx
  have vy := va_rep hf hy
  obtain ⟨zv, hz1, hz2⟩ : ∃ zv, (∃ i, P.info? e = some i ∧ i.zero = some zv) ∧ ∀ γ, Rep γ z zv := by
    cases hi0 : P.info? e with
    | none => rw [hi0] at hz; simp at hz
    | some i =>
      rw [hi0] at hz
      simp only [Option.bind_some] at hz
      cases hz0 : i.zero with
      | none => rw [hz0] at hz; simp at hz
      | some zv =>
        rw [hz0] at hz
        exact ⟨zv, ⟨i, rfl, hz0⟩, fun γ => vOf_rep γ 0 zv z hz⟩
  obtain ⟨i0, hz1, hz3⟩ := hz1
  have hzr := run_zeroValue (P := P) (w := w) hz1 hz3
  unfold meW at h
  split at h
  · rename_i i hsx
    rw [hsx] at vx
    simp only [Rep] at vx
    obtain ⟨b, hb, vx⟩ := vx
    unfold meO at h
    split at h
    · rename_i lv' es ver ho
      obtain ⟨⟨rfl, hk⟩, hK⟩ := h
      obtain ⟨_, _, ents, clock, g1, g2, g3, g4, g5, g6⟩ := hi.objs _ _ _ hb ho
      obtain ⟨r, h1, h2⟩ := run_find (w := w) hl hk vy g4
      have hc := run_check (w := w) hl hk vy false
      have hfd := findI_find (F.va ek) es 0
      cases hfi : findI (F.va ek) es 0 with
      | none =>
        rw [hfi] at h2 hfd
        simp only [FoundAt] at h2
        subst h2
        have had : addE (F.va ek) z es = es ++ [(F.va ek, z)] := by unfold addE; rw [hfd]; rfl
        have hKn := hK clock
        rw [hfd, had] at hKn
        simp only [Option.map_none, Option.getD_none] at hKn
        obtain ⟨w', r1, r2, r3⟩ := setMap_heap (P := P) (es' := (ents ++ [({ key := a.eval y, val := zv, born := clock } : MapEntry)]).toArray) (c' := clock + 1) g1
        obtain ⟨γ', q1, q2, q3⟩ := map_step hi hf hb g3 r2 r3 (ob := .mq lv' (es ++ [(F.va ek, z)]) (ver + 1) clock (F.va ek)) (fun γ' hle hs hs2 => by
          refine ⟨_, _, r3, hs, hs2, RepM.push hk (Rep.mono hle _ _ vy) (hz2 _) (RepM.mono hle _ _ _ g4), ?_, ?_, hk, es.length, z, { key := a.eval y, val := zv, born := clock }, by simpa using findI_push (z := z) (keyFits_refl hk) es 0 hfi, ?_, rfl, Rep.mono hle _ _ vy⟩
          · rw [List.map_append, List.nodup_append]
            refine ⟨g5, by simp, ?_⟩
            intro m hm n hn
            simp only [List.map_cons, List.map_nil, List.mem_singleton] at hn
            subst hn
            obtain ⟨e', he', rfl⟩ := List.mem_map.1 hm
            have := g6 e' he'
            simp only [ne_eq]; omega
          · intro e' he'
            rcases List.mem_append.1 he' with he' | he'
            · have := g6 e' he'; omega
            · simp only [List.mem_singleton] at he'; subst he'; simp
          · rw [g4.length]; simp)
        refine ⟨.value (.tuple #[zv, .int .i64 clock]), w', γ', σ.setA i (.mq lv' (es ++ [(F.va ek, z)]) (ver + 1) clock (F.va ek)), F.set d (.v (.tup [z, .int .i64 clock])), lam, _, ?_, .inl rfl, q1, q2, ?_, hKn⟩
        · simp [execOp, hop, Instr.mapEntry, run_underlying ht, vx, run_getMap g1, hc, h1, hzr, goInt, r1]
        · rw [hd]
          refine FRep.set q3 ?_ hN
          simp only [SRep, Rep, RepL]
          exact ⟨[zv, .int .i64 clock], rfl, _, _, rfl, hz2 _, _, _, rfl, rfl, rfl⟩
      | some q =>
        rw [hfi] at h2 hfd
        obtain ⟨en, k1, _, rfl⟩ := h2
        rw [Nat.sub_zero] at k1
        obtain ⟨k', hk'⟩ := findI_get (k := F.va ek) es 0 hfi
        rw [Nat.sub_zero] at hk'
        obtain ⟨en', q1, q3, q4, q5⟩ := g4.get hk'
        rw [k1] at q1
        cases q1
        have heq : V.eq (F.va ek) k' = true := findI_eq es 0 hfi hk'
        have hsame : en.key = a.eval y := (keys_same hl hk q3 vy q4 heq).symm
        have hbits : Instr.sameBits 10000 en.key (a.eval y) = true := by rw [hsame]; exact key_bits hl hk vy
        have hstay := run_keyStays (P := P) (w := w) hbits
        have had : addE (F.va ek) z es = es := by unfold addE; rw [hfd]; rfl
        have hKn := hK en.born
        rw [hfd, had] at hKn
        simp only [Option.map_some, Option.getD_some] at hKn
        have hmod : ents.modify q.1 (fun e => { e with key := a.eval y }) = ents := by
          apply List.ext_getElem?
          intro j
          rw [List.getElem?_modify]
          by_cases e : q.1 = j
          · subst e
            rw [k1]
            simp [← hsame]
          · simp [e]
        obtain ⟨w', r1, r2, r3⟩ := setMap_heap (P := P) (es' := (ents.modify q.1 fun e => { e with key := a.eval y }).toArray) (c' := clock) g1
        rw [hmod] at r3
        obtain ⟨γ', p1, p2, p3⟩ := map_step hi hf hb g3 r2 r3 (ob := .mq lv' es (ver + 1) en.born (F.va ek)) (fun γ' hle hs hs2 =>
          ⟨_, _, r3, hs, hs2, RepM.mono hle _ _ _ g4, g5, g6, hk, q.1, q.2, en, hfi, k1, rfl, by rw [hsame]; exact Rep.mono hle _ _ vy⟩)
        refine ⟨.value (.tuple #[en.val, .int .i64 en.born]), w', γ', σ.setA i (.mq lv' es (ver + 1) en.born (F.va ek)), F.set d (.v (.tup [q.2, .int .i64 en.born])), lam, _, ?_, .inl rfl, p1, p2, ?_, hKn⟩
        · simp [execOp, hop, Instr.mapEntry, run_underlying ht, vx, run_getMap g1, hc, h1, k1, hstay, goInt, r1]
        · rw [hd]
          refine FRep.set p3 ?_ hN
          simp only [SRep, Rep, RepL]
          exact ⟨[en.val, .int .i64 en.born], rfl, _, _, rfl, Rep.mono p1.toLeR _ _ q5, _, _, rfl, rfl, rfl⟩
    · exact h.elim
  · exact h.elim

theorem good_es {t : TypeId} {x y z : Operand} {em ek ev : E} {lv : List LK} (hi : INV γ σ w) (hf : FRep γ σ F a w lam) (hop : o.op = .entryStore t x y z) (hd : o.dst = none)
    (hx : compE 0 x = some em) (hy : compE 0 y = some ek) (hz : compE 0 z = some ev)
    (h : resK K ((O.es lv em ek ev).run F σ)) : Good P o a w γ K := by
  have vx := va_rep hf hx
  have vy := va_rep hf hy
  have vz := va_rep hf hz
  simp only [O.run] at h
  unfold esW at h
  split at h
  · rename_i i n hsx hsy
    rw [hsx] at vx
    rw [hsy] at vy
    simp only [Rep] at vx vy
    obtain ⟨b, hb, vx⟩ := vx
    unfold esO at h
    split at h
    · rename_i lv' es ver m k ho
      obtain ⟨⟨rfl, rfl⟩, hK⟩ := h
      obtain ⟨_, _, ents, clock, g1, g2, g3, g4, g5, g6, hk, j, v0, en, k1, k2, k3, k4⟩ := hi.objs _ _ _ hb ho
      have hfx : ents.findIdx? (fun e => (e.born : Int) == (m : Int)) = some j := by
        rw [List.findIdx?_eq_some_iff_getElem]
        obtain ⟨hlt, hget⟩ := List.getElem?_eq_some_iff.1 k2
        refine ⟨hlt, by simp [hget, k3], fun j' hj' => ?_⟩
        have hlt' : j' < ents.length := by omega
        simp only [beq_iff_eq, Int.natCast_inj]
        intro he
        have hnd := List.nodup_iff_pairwise_ne.1 g5
        rw [List.pairwise_iff_getElem] at hnd
        have := hnd j' j (by simpa using hlt') (by simpa using hlt) hj'
        simp only [List.getElem_map] at this
        exact this (by rw [he, hget, k3])
      rw [upd_findI, k1] at hK
      simp only at hK
      have hmod : ents.modify j (fun e => { e with val := a.eval z }) = ents.set j { en with key := en.key, val := a.eval z } := by
        apply List.ext_getElem?
        intro j'
        rw [List.getElem?_modify, List.getElem?_set]
        by_cases e : j = j'
        · subst e
          obtain ⟨hlt, hget⟩ := List.getElem?_eq_some_iff.1 k2
          simp [hlt, hget]
        · simp [e]
      obtain ⟨w', r1, r2, r3⟩ := setMap_heap (P := P) (es' := (ents.modify j fun e => { e with val := a.eval z }).toArray) (c' := clock) g1
      rw [hmod] at r3
      obtain ⟨γ', p1, p2, p3⟩ := map_step hi hf hb g3 r2 r3 (ob := .mp lv' (es.set j (k, F.va ev)) (ver + 1)) (fun γ' hle hs hs2 => by
        refine ⟨_, _, r3, hs, hs2, RepM.set hk (Rep.mono hle _ _ k4) (Rep.mono hle _ _ vz) (RepM.mono hle _ _ _ g4) j k2, ?_, ?_⟩
        · have : (ents.set j { en with key := en.key, val := a.eval z }).map (·.born) = ents.map (·.born) := by
            apply List.ext_getElem?
            intro j'
            rw [List.getElem?_map, List.getElem?_map, List.getElem?_set]
            by_cases e : j = j'
            · subst e
              obtain ⟨hlt, hget⟩ := List.getElem?_eq_some_iff.1 k2
              simp [hlt, hget]
            · simp [e]
          rw [this]; exact g5
        · intro e' he'
          rcases List.mem_or_eq_of_mem_set he' with he' | rfl
          · exact g6 e' he'
          · exact g6 en (List.mem_of_getElem? k2))
      refine ⟨.skip, w', γ', σ.setM i lv' (es.set j (k, F.va ev)) (ver + 1), F, lam, undef, ?_, .inr ⟨rfl, rfl⟩, p1, p2, by rw [hd]; exact p3, hK⟩
      simp [execOp, hop, Instr.entryStore, vx, run_getMap g1, vy, asInt, asIntOf, hfx, r1]
    · exact h.elim
  · exact h.elim
end
end Go.VL

namespace Go.VL
open Go

section
variable {P : Program} {γ : G} {σ : St} {F : Fr} {a : Act} {w w' : World} {lam : Nat → Nat} {o : Oper} {K : Fr → St → Prop}

namespace Go.VL
open Go

section
variable {P : Program} {γ : G} {σ : St} {F : Fr} {a : Act} {w : World} {lam : Nat → Nat} {o : Oper} {K : Fr → St → Prop}

theorem fieldsOf_some {t : TypeId} {fs : Array Field} (h : fieldsOf P t = some fs) : P.underlying t = some (.struct fs) := by
  unfold fieldsOf at h
  split at h
  · rename_i gs hu
    cases h
    exact hu
  · simp at h

theorem compO'_good {loc : List Nat} {c : O} (hc : compO' P loc o = some c) (hi : INV γ σ w) (hf : FRep γ σ F a w lam) (hN : ∀ d, o.dst = some d → d < a.tmps.size)
    (h : resK K (c.run F σ)) : Good P o a w γ K := by
  unfold compO' at hc
  split at hc
  · rename_i x d hop hd
    simp only [Option.map_eq_some_iff] at hc; obtain ⟨e, h1, rfl⟩ := hc
    exact good_mv hi hf (.inl hop) hd (hN d hd) h1 h
  · rename_i x d hop hd
    simp only [Option.map_eq_some_iff] at hc; obtain ⟨e, h1, rfl⟩ := hc
    exact good_mv hi hf (.inr hop) hd (hN d hd) h1 h
  · rename_i c' x y d hop hd
    split at hc
    · rename_i ec ex ey h1 h2 h3
      cases hc
      exact good_pk hi hf hop hd (hN d hd) h1 h2 h3 h
    · simp at hc
  · rename_i t d hop hd
    simp only [Option.map_eq_some_iff] at hc; obtain ⟨z, h1, rfl⟩ := hc
    by_cases hl : loc.contains d = true
    · rw [if_pos hl] at h; exact good_al true hi hf hop hd (hN d hd) h1 h
    · rw [if_neg hl] at h; exact good_al false hi hf hop hd (hN d hd) h1 h
  · rename_i t x d hop hd
    simp only [Option.map_eq_some_iff] at hc; obtain ⟨e, h1, rfl⟩ := hc
    by_cases hl : loc.contains d = true
    · rw [if_pos hl] at h; exact good_bx true hi hf hop hd (hN d hd) h1 h
    · rw [if_neg hl] at h; exact good_bx false hi hf hop hd (hN d hd) h1 h
  · rename_i t ps d hop hd
    split at hc
    · rename_i fs z h1 h2
      split at hc
      · rename_i hall
        simp only [Option.map_eq_some_iff] at hc; obtain ⟨qs, h3, rfl⟩ := hc
        exact good_bld hi hf hop hd (hN d hd) (fieldsOf_some h1) (fun f hf => by
          simp only [Array.all_eq_true'] at hall
          exact hall f hf) h2 h3 h
      · simp at hc
    · simp at hc
  · rename_i t len ps d hop hd
    split at hc
    · rename_i e hu
      split at hc
      · rename_i s z l h1 h2 h3
        split at hc
        · rename_i hcond
          simp only [Bool.and_eq_true, decide_eq_true_eq] at hcond
          cases hl7 : loc.contains (d + 7000000) <;> rw [hl7] at hc <;> cases hc
          · exact good_lit hi hf hop hd (hN d hd) hu h1 h2 h3 hcond.1 hcond.2 h
          · exact good_lip hi hf hop hd (hN d hd) hu h1 h2 h3 hcond.1 hcond.2 h
        · simp at hc
      · simp at hc
    · simp at hc
  · rename_i t x d hop hd
    split at hc
    · rename_i n g e h1 h2 h3
      cases hc
      exact good_ld hi hf hop hd (hN d hd) h1 h2 h3 h
    · simp at hc
  · rename_i t x y hop hd
    split at hc
    · rename_i n ex ey h1 h2 h3
      cases hc
      cases hse : isSe loc x with
      | true => rw [hse] at h; exact good_se hi hf hop hd h1 h2 h3 h
      | false => rw [hse] at h; exact good_st hi hf hop hd h1 h2 h3 h
    · simp at hc
  · rename_i x d hop hd
    simp only [Option.map_eq_some_iff] at hc; obtain ⟨e, h1, rfl⟩ := hc
    exact good_nc hi hf hop hd (hN d hd) h1 h
  · rename_i op t x y u d hop hd
    split at hc
    · rename_i ex ey h1 h2
      split at hc
      · rename_i fs hu
        split at hc
        · rename_i lv hl
          split at hc
          · simp at hc
          · rename_i hg
            cases hc
            exact good_be hi hf hop hd (hN d hd) hu hl (by simpa using hg) (.inl ⟨rfl, rfl⟩) h1 h2 h
        · rename_i lv hl
          split at hc
          · simp at hc
          · rename_i hg
            cases hc
            exact good_be hi hf hop hd (hN d hd) hu hl (by simpa using hg) (.inr ⟨rfl, rfl⟩) h1 h2 h
        · simp at hc
      · cases hc
        exact good_bi hi hf hop hd (hN d hd) h1 h2 h
      · cases hc
        exact good_bi hi hf hop hd (hN d hd) h1 h2 h
      · rename_i T hu
        split at hc
        · rename_i k hk
          cases hc
          exact good_bq hi hf hop hd (hN d hd) hu hk (.inl ⟨rfl, rfl⟩) h1 h2 h
        · rename_i k hk
          cases hc
          exact good_bq hi hf hop hd (hN d hd) hu hk (.inr ⟨rfl, rfl⟩) h1 h2 h
        · simp at hc
      · simp at hc
    · simp at hc
  · rename_i op t x d hop hd
    simp only [Option.map_eq_some_iff] at hc; obtain ⟨e, h1, rfl⟩ := hc
    exact good_un hi hf hop hd (hN d hd) h1 h
  · rename_i s t x d hop hd
    split at hc
    · rename_i k' k e h1 h2 h3
      cases hc
      exact good_cI hi hf hop hd (hN d hd) h1 h2 h3 h
    · rename_i et e h1 h2 h3
      split at hc
      · rename_i hm
        cases hc
        refine good_cS hi hf hop hd (hN d hd) h1 ?_ h2 h3 h
        revert hm
        cases P.underlying et with
        | none => simp
        | some u => cases u <;> simp
      · simp at hc
    · rename_i e h1 h2 h3
      cases hc
      exact good_cT hi hf hop hd (hN d hd) h1 h2 h3 h
    · rename_i et e h1 h2 h3
      split at hc
      · rename_i hm
        cases hc
        refine good_cB hi hf hop hd (hN d hd) h1 h2 ?_ h3 h
        revert hm
        cases P.underlying et with
        | none => simp
        | some u => cases u <;> simp
      · simp at hc
    · simp at hc
  · rename_i f first caps d hop hd
    split at hc
    · rename_i hfi
      simp only [Option.map_eq_some_iff] at hc; obtain ⟨es, h1, rfl⟩ := hc
      exact good_mf hi hf hop hfi hd (hN d hd) h1 h
    · simp at hc
  · rename_i t d hop hd
    split at hc
    · simp only [Option.map_eq_some_iff] at hc; obtain ⟨lv, h1, rfl⟩ := hc
      exact good_mm hi hf hop hd (hN d hd) h
    · simp at hc
  · rename_i t l c' d hop hd
    split at hc
    · rename_i e hu
      split at hc
      · rename_i i z el ec h1 h2 h3 h4
        split at hc
        · rename_i hcond
          cases hc
          simp only [Bool.and_eq_true, decide_eq_true_eq] at hcond
          exact good_ms hi hf hop hd (hN d hd) hu h1 h2 hcond.1.1 hcond.1.2 hcond.2 h3 h4 h
        · simp at hc
      · simp at hc
    · simp at hc
  · rename_i t x lo hi' d hop hd
    split at hc
    · rename_i e ex el eh hu h1 h2 h3
      simp only [Option.map_eq_some_iff] at hc; obtain ⟨n, h4, rfl⟩ := hc
      exact good_sl hi hf hop hd (hN d hd) hu h4 h1 h2 h3 h
    · rename_i ex el eh hu h1 h2 h3
      cases hc
      exact good_ss hi hf hop hd (hN d hd) hu h1 h2 h3 h
    · simp at hc
  · rename_i t x i d hop hd
    split at hc
    · rename_i fs e h1 h2
      split at hc
      · rename_i f hf'
        split at hc
        · rename_i n hn
          cases hc
          exact good_fa hi hf hop hd (hN d hd) (fieldsOf_some h1) hf' hn h2 h
        · simp at hc
      · simp at hc
    · simp at hc
  · rename_i t x i d hop hd
    split at hc
    · rename_i fs e h1 h2
      split at hc
      · rename_i f hf'
        split at hc
        · rename_i n g hn hg
          cases hc
          exact good_fd hi hf hop hd (hN d hd) (fieldsOf_some h1) hf' hn hg h2 h
        · simp at hc
      · simp at hc
    · simp at hc
  · rename_i t x i d hop hd
    split at hc
    · rename_i e ex ei hu h1 h2
      simp only [Option.map_eq_some_iff] at hc; obtain ⟨n, h4, rfl⟩ := hc
      exact good_ia hi hf hop hd (hN d hd) hu h4 h1 h2 h
    · rename_i n e ex ei hu h1 h2
      simp only [Option.map_eq_some_iff] at hc; obtain ⟨s, h4, rfl⟩ := hc
      exact good_iA hi hf hop hd (hN d hd) hu h4 h1 h2 h
    · simp at hc
  · rename_i t x i d hop hd
    split at hc
    · rename_i ex ei hu h1 h2
      cases hc
      exact good_ix hi hf hop hd (hN d hd) hu h1 h2 h
    · simp at hc
  · rename_i x i d hop hd
    simp only [Option.map_eq_some_iff] at hc; obtain ⟨e, h1, rfl⟩ := hc
    exact good_ex hi hf hop hd (hN d hd) h1 h
  · rename_i t m k ok d hop hd
    split at hc
    · rename_i kt e hu
      split at hc
      · rename_i lv em ek z h1 h2 h3 h4
        cases hc
        exact good_lk hi hf hop hd (hN d hd) hu h1 h2 h3 h4 h
      · simp at hc
    · simp at hc
  · rename_i t x d hop hd
    split at hc
    · rename_i kt e hu
      simp only [Option.map_eq_some_iff] at hc; obtain ⟨ex, h1, rfl⟩ := hc
      exact good_rg hi hf hop hd (hN d hd) hu h1 h
    · simp at hc
  · rename_i x d hop hd
    simp only [Option.map_eq_some_iff] at hc; obtain ⟨ex, h1, rfl⟩ := hc
    exact good_en hi hf hop hd (hN d hd) h1 h
  · rename_i t m s v hop hd
    split at hc
    · rename_i kt e hu
      split at hc
      · rename_i lv em ek ev h1 h2 h3 h4
        cases hc
        exact good_es hi hf hop hd h2 h3 h4 h
      · simp at hc
    · simp at hc
  · rename_i t m k v hop hd
    split at hc
    · rename_i kt e hu
      split at hc
      · rename_i lv em ek ev h1 h2 h3 h4
        cases hc
        exact good_mu hi hf hop hd hu h1 h2 h3 h4 h
      · simp at hc
    · simp at hc
  · simp at hc

theorem compO_good {loc : List Nat} {c : O} (hc : compO P loc o = some c) (hcall : c.isCall = false) (hi : INV γ σ w) (hf : FRep γ σ F a w lam) (hN : ∀ d, o.dst = some d → d < a.tmps.size)
    (h : resK K (c.run F σ)) : Good P o a w γ K := by
  unfold compO at hc
  split at hc
  · rename_i c' hop
    simp only [Option.map_eq_some_iff] at hc; obtain ⟨c0, hc, rfl⟩ := hc
    unfold compCall at hc
    split at hc
    · simp only [Option.map_eq_some_iff] at hc; obtain ⟨es, h1, rfl⟩ := hc
      unfold toCm at hcall
      simp only at hcall
      rename_i f _
      cases hx : loc.contains (f + 3000000) <;> rw [hx] at hcall <;> simp [O.isCall] at hcall
    · simp only [Option.map_eq_some_iff] at hc; obtain ⟨es, h1, rfl⟩ := hc
      simp [toCm, O.isCall] at hcall
    · rename_i b hcal
      split at hc
      · rename_i x y d hargs hdst
        split at hc
        · rename_i e u h1 h2
          split at hc
          · simp at hc
          · rename_i hss
            split at hc
            · rename_i i ex ey h3 h4 h5
              split at hc
              · rename_i hcond
                cases hc
                simp only [Option.bind_eq_some_iff] at h1 h2
                obtain ⟨t1, g1, g2⟩ := h1
                obtain ⟨t2, g3, g4⟩ := h2
                simp only [Bool.and_eq_true, decide_eq_true_eq] at hcond
                obtain ⟨hb, hz0⟩ := hcond
                unfold zsOK at hz0
                split at hz0
                · rename_i zv hz
                  have htc : toCm loc (.ap d i.size ex ey) = .ap d i.size ex ey := by
                    unfold toCm at hcall ⊢
                    simp only at hcall ⊢
                    cases h1 : loc.contains (d + 5000000) <;> cases h2 : loc.contains (d + 6000000) <;> rw [h1, h2] at hcall <;> first | rfl | (simp [O.isCall] at hcall)
                  rw [htc] at h
                  exact good_ap hi hf hcal hargs hop hdst (hN d hdst) g1 g2 g3 g4 (by simpa using hss) h3 hz hb (by simpa using hz0) h4 h5 h
                · simp at hz0
              · simp at hc
            · simp at hc
        · simp at hc
      · rename_i x d hargs hdst
        split at hc
        · rename_i e h1
          simp only [Option.map_eq_some_iff] at hc; obtain ⟨ex, h2, rfl⟩ := hc
          simp only [Option.bind_eq_some_iff] at h1
          obtain ⟨t1, g1, g2⟩ := h1
          exact good_ln hi hf hop hcal hargs g1 g2 (.inl ⟨e, rfl, rfl⟩) hdst (hN d hdst) h2 h
        · rename_i h1
          simp only [Option.map_eq_some_iff] at hc; obtain ⟨ex, h2, rfl⟩ := hc
          simp only [Option.bind_eq_some_iff] at h1
          obtain ⟨t1, g1, g2⟩ := h1
          exact good_ln hi hf hop hcal hargs g1 g2 (.inr (.inl ⟨rfl, rfl⟩)) hdst (hN d hdst) h2 h
        · rename_i u e h1
          simp only [Option.map_eq_some_iff] at hc; obtain ⟨ex, h2, rfl⟩ := hc
          simp only [Option.bind_eq_some_iff] at h1
          obtain ⟨t1, g1, g2⟩ := h1
          exact good_ln hi hf hop hcal hargs g1 g2 (.inr (.inr ⟨u, e, rfl, rfl⟩)) hdst (hN d hdst) h2 h
        · simp at hc
      · rename_i x y d hargs hdst
        split at hc
        · rename_i ex ey h1 h2
          cases hc
          exact good_mx hi hf hop hcal hargs hdst (hN d hdst) h1 h2 h
        · simp at hc
      · rename_i x y d hargs hdst
        split at hc
        · rename_i ex ey h1 h2
          cases hc
          exact good_mn hi hf hop hcal hargs hdst (hN d hdst) h1 h2 h
        · simp at hc
      · rename_i x y hargs hdst
        split at hc
        · rename_i kt e h1
          split at hc
          · rename_i lv em ek h2 h3 h4
            cases hc
            simp only [Option.bind_eq_some_iff] at h1
            obtain ⟨t1, g1, g2⟩ := h1
            exact good_de hi hf hop hcal hargs hdst g1 g2 h2 h3 h4 h
          · simp at hc
        · simp at hc
      · simp at hc
    · simp at hc
  · simp at hc
  · split at hc
    · cases hc
      simp [O.isCall] at hcall
    · simp at hc
  · split at hc
    · split at hc
      · cases hc
        simp [O.isCall] at hcall
      · simp at hc
    · simp at hc
  · split at hc
    · rename_i c' h1
      split at hc
      · simp at hc
      · cases hc
        exact compO'_good h1 hi hf hN h
    · simp at hc
end
end Go.VL

namespace Go.VL
open Go

theorem chunk_len {s : Nat} : ∀ (n : Nat) (cs : List V), (chunk s n cs).length = n
  | 0, _ => rfl
  | n + 1, cs => by simp only [chunk, List.length_cons, chunk_len n]
theorem repE_chunk {γ : G} {s : Nat} : ∀ (n : Nat) {cs : List V} {vs : List Value}, RepL γ cs vs → (∀ v ∈ vs, v.oneCell' = true) → n * s ≤ cs.length → RepE γ s (chunk s n cs) (vs.take (n * s))
  | 0, cs, vs, _, _, _ => by simp [chunk, RepE]
  | n + 1, cs, vs, h, h1, hl => by
    rw [Nat.succ_mul] at hl
    have hvl := h.length
    simp only [chunk, RepE]
    refine ⟨vs.take s, (vs.drop s).take (n * s), ?_, by rw [List.length_take]; omega, h.take, repE_chunk n h.drop (fun v hv => h1 v (List.mem_of_mem_drop hv)) (by rw [List.length_drop]; omega), fun v hv => h1 v (List.mem_of_mem_take hv)⟩
    rw [Nat.succ_mul, Nat.add_comm, List.take_add]
theorem repE_flat {γ : G} {s : Nat} : ∀ {es : List (List V)} {vs : List Value}, RepE γ s es vs → RepL γ es.flatten vs ∧ es.flatten.length = es.length * s ∧ ∀ v ∈ vs, v.oneCell' = true
  | [], vs, h => by
    simp only [RepE] at h
    subst h
    exact ⟨by simp [RepL], by simp, by simp⟩
  | x :: es, vs, h => by
    simp only [RepE] at h
    obtain ⟨ws, us, rfl, h1, h2, h3, h4⟩ := h
    obtain ⟨k1, k2, k3⟩ := repE_flat h3
    refine ⟨h2.append k1, ?_, fun v hv => ?_⟩
    · rw [List.flatten_cons, List.length_append, k2, h1, List.length_cons, Nat.succ_mul, Nat.add_comm]
    · rcases List.mem_append.1 hv with hv | hv
      · exact h4 v hv
      · exact k3 v hv

section
variable {P : Program} {γ : G} {σ : St} {F : Fr} {a : Act} {w : World} {lam : Nat → Nat} {o : Oper} {K : Fr → St → Prop}

theorem elts_ok (hi : INV γ σ w) {x : V} {v : Value} (hx : Rep γ x v) {s : Nat} {p : Prop × List (List V)} (h : elts σ s x = some p) (hp : p.1) :
    (Builtin.lenOf v).run P w = .ok p.2.length w ∧ ∃ xs : List Value, (Builtin.firstCells s p.2.length v).run P w = .ok xs.toArray w ∧ RepE γ s p.2 xs := by
  cases x with
  | osl j n cap s' =>
    simp only [elts] at h
    simp only [Rep] at hx
    obtain ⟨b, hb, rfl⟩ := hx
    unfold eltO at h
    split at h
    · rename_i cap' z cs ho
      simp only [Option.some.injEq] at h
      subst h
      obtain ⟨rfl, rfl, hl⟩ := hp
      obtain ⟨p1, p2, vs, c, e, z, k1, k2, k3, k4, k5, k6, k7⟩ := hi.objs _ _ _ hb ho
      have hvl := k3.length
      simp only [chunk_len]
      refine ⟨by simp [Builtin.lenOf], vs.take (n * _), ?_, repE_chunk n k3 k7 hl⟩
      simp only [Builtin.firstCells]
      rw [run_loadCells (P := P) (w := w) (vs := vs) (fun j v hj => by rw [cell_of_heap k1, Nat.zero_add]; exact k2 j v hj) (by omega)]
    · cases h
  | _ => exact apE_ok hi hx (by simpa only [elts] using h) hp

theorem good_apC {p : Prop × List (List V)} {b : Bool} {r : R} {s' : Nat} {es : List (List V)} {d : Nat} {c : Call} {t t2 : TypeId} {T2 : TypeDesc} {et : TypeId} {i : TypeInfo} {zv : Value} {x y : Operand} {ex ey : E} (hi : INV γ σ w) (hf : FRep γ σ F a w lam) (hcal : c.callee = .builtin .append)
    (hargs : c.args.toList = [x, y]) (hop : o.op = .call c) (hd : o.dst = some d) (hN : d < a.tmps.size)
    (h0 : c.argTypes[0]? = some t) (ht : P.underlying t = some (.slice et)) (h1 : c.argTypes[1]? = some t2) (ht2 : P.underlying t2 = some T2) (hT2 : isSS T2 = true) (hti : P.info? et = some i) (hzv : i.zero = some zv)
    (hbytes : i.bytes ≤ 65536) (hzs : zv.cells.size = i.size) (hx : compE 0 x = some ex) (hy : compE 0 y = some ey) (hsx : F.va ex = .sl b r s' es)
    (hE : ∀ w', INV γ σ w' → (Builtin.lenOf (a.eval y)).run P w' = .ok p.2.length w' ∧ ∃ xs : List Value, (Builtin.firstCells i.size p.2.length (a.eval y)).run P w' = .ok xs.toArray w' ∧ RepE γ i.size p.2 xs)
    (hs' : b = true ∨ s' = i.size) (g1 : σ.ow b r) (g3 : es.length + p.2.length ≤ 1073741824)
    (hK : K (F.set d (.v (.sl (b && p.2.isEmpty) (.own σ.live.length) i.size (es ++ p.2)))) ⟨σ.objs, kill σ.live r ++ [!(b && p.2.isEmpty)]⟩) : Good P o a w γ K := by
  have vx := va_rep hf hx
  have ha : c.args = #[x, y] := by rw [← Array.toArray_toList (xs := c.args), hargs]
  rw [hsx] at vx
  obtain ⟨hl, xs, hxs, hrep⟩ := hE w hi
  obtain ⟨_, xs2, hxs2, hrep2⟩ := hE w.drew (hi.step (But.drew w))
  have hxl := hrep.length
  have hsub : ∀ q : Nat, (kill σ.live r)[q]? = some true → σ.live[q]? = some true := fun q hq => kill_sub hq
  have hgrow : ∀ (base : Option Addr) (cap : Nat) (os : List Value), a.eval x = .slice base es.length cap → (Builtin.firstCells i.size es.length (.slice base es.length cap)).run P w.drew = .ok os.toArray w.drew → RepE γ i.size es os →
      ¬ es.length + p.2.length ≤ cap → (b && p.2.isEmpty) = false → Good P o a w γ K := by
    intro base cap os hxe hos hro hroom hbp
    obtain ⟨nc, hnc, hr⟩ := run_append_grow hcal ha hop h0 ht h1 ht2 hT2 hti hzv hbytes hxe hl hxs2 hos hroom g3
    have hul := hro.length
    have hxl2 := hrep2.length
    have hb : But none w (pushed w.drew (.cells (os.toArray ++ (xs2.toArray ++ Builtin.zeroCells zv.cells (nc - (es.length + p.2.length)))) et)) := (But.drew w).trans (.push w.drew _)
    rw [hbp] at hK
    refine good_row hi hf hd hN hb (Nat.le_refl w.heap.size) hr (heap_push w.drew _) (s := i.size) (es := es ++ p.2) (by simp) hnc (vs := os ++ xs2) ?_ (hro.append hrep2) ?_ (fun q _ hq => by omega) kill_length hsub hK
    · intro j v hv
      rw [← Array.append_assoc, Array.getElem?_append_left (by have := (List.getElem?_eq_some_iff.1 hv).1; simpa using this)]
      simpa using hv
    · simp only [Array.size_append, List.size_toArray, zeroCells_size, hzs, hul, hxl2]
      have : nc * i.size = es.length * i.size + (p.2.length * i.size + (nc - (es.length + p.2.length)) * i.size) := by
        rw [← Nat.add_mul, ← Nat.add_mul]
        congr 1
        omega
      omega
  cases b with
  | true =>
    simp only [Rep] at vx
    obtain ⟨rfl, vx⟩ := vx
    by_cases hpe : p.2 = []
    · have hr := run_append_room (P := P) (w := w) (w' := w) (base := none) (len := 0) (cap := 0) hcal ha hop h0 ht h1 ht2 hT2 hti vx hl hxs (by simp [hpe]) (fun a' e => by cases e) (fun _ => rfl)
      have hfr := (hi.free_new (Nat.le_refl w.heap.size)).mono hsub
      obtain ⟨k1, k2⟩ := hi.right (.refl (some w.heap.size) w) (kill_length (r := r)) hsub hfr (v := .nilFunc) (s := 0) (es := []) (f := false) (fun e => by cases e)
      simp only [hpe, List.isEmpty_nil, Bool.and_self, Bool.not_true] at hK
      refine ⟨_, w, _, _, _, lam, _, hr, .inl rfl, k2, k1, ?_, hK⟩
      rw [hd]
      refine (hf.right (.refl (some w.heap.size) w) (by rw [kill_length, hi.rholen]) hsub (fun j cs hj => by have := lam_lt hf hj; omega) (fun e => by cases e)).set ?_ hN
      simp [SRep, Rep, hpe]
    · exact hgrow none 0 [] (by simpa using vx) (by simp [Builtin.firstCells]) (by simp [RepE]) (by
        have : 0 < p.2.length := List.length_pos_iff.2 hpe
        simp; omega) (by simp [hpe])
  | false =>
    have hs : s' = i.size := by rcases hs' with e | e; exact absurd e (by simp); exact e
    subst hs
    cases r with
    | pub => simp [St.ow] at g1
    | view r => simp [St.ow] at g1
    | own r =>
      have hlive : σ.live[r]? = some true := by simpa [St.ow] using g1
      simp only [Rep] at vx
      obtain ⟨c1, cap, e1, e2, e3, e4⟩ := vx
      obtain ⟨c2, cap2, f1, _, _, f4, f5, f6, cc, ce, cz, vs, k1, k2, k3, k4, k5⟩ := hi.own r _ _ _ hlive e4
      rw [e1] at f1
      cases f1
      have hvl := k3.length
      by_cases hroom : es.length + p.2.length ≤ cap
      · -- in place
        have hspot : c1.add (es.length * i.size) = ⟨c1.block, c1.off + es.length * i.size, none⟩ := add_spot e2 _
        have hone := hrep.one
        have hmul : (es.length + p.2.length) * i.size ≤ cap * i.size := Nat.mul_le_mul_right _ hroom
        rw [Nat.add_mul] at hmul
        obtain ⟨w', r1, r2, cc', r3, r4⟩ := run_storeCells (P := P) xs w c1.block (c1.off + es.length * i.size) 0 cc ce cz k1 (by omega) (fun j h1 h2 => k5 j (by omega) (by omega)) hone
        have hr := run_append_room (P := P) (w := w) (w' := w') hcal ha hop h0 ht h1 ht2 hT2 hti e1 hl hxs hroom (fun a' e => by cases e; rw [hspot]; exact r1) (fun e => by cases e)
        have hfr : Free γ ⟨σ.objs, kill σ.live (.own r)⟩ c1.block := ⟨f4, f5, f6, fun q v s es' h1 h2 h3 => by
          have hq := kill_own h1
          exact hq (hi.apart q r _ _ _ _ _ _ c1.block (kill_sub (live := σ.live) (r := .own r) h1) hlive h2 e4 h3 (by rw [e1]; rfl))⟩
        have hle : LeR γ { γ with rho := γ.rho ++ [(.slice (some c1) (es ++ p.2).length cap, i.size, es ++ p.2)] } := ⟨fun _ _ x => x, fun i c hi => by
          show (γ.rho ++ [_])[i]? = some c
          rw [List.getElem?_append_left (List.getElem?_eq_some_iff.1 hi).1]; exact hi, fun _ _ _ x => x⟩
        have hsize : cc'.size = cc.size := by
          have := congrArg List.length r4
          simp only [Array.length_toList, List.length_append, List.length_take, List.length_drop] at this
          omega
        have hcells : ∀ (j : Nat) (v : Value), (vs ++ xs)[j]? = some v → cc'[c1.off + j]? = some v := by
          intro j v hv
          have e5 : cc'[c1.off + j]? = cc'.toList[c1.off + j]? := by simp
          rw [e5, r4]
          by_cases hj : j < vs.length
          · rw [List.getElem?_append_left hj] at hv
            rw [List.append_assoc, List.getElem?_append_left (by simp; omega), List.getElem?_take, if_pos (by omega)]
            simpa using k2 _ _ hv
          · rw [List.getElem?_append_right (by omega)] at hv
            have hjl := (List.getElem?_eq_some_iff.1 hv).1
            rw [List.append_assoc, List.getElem?_append_right (by simp; omega), List.getElem?_append_left (by simp; omega), ← hv]
            congr 1
            simp; omega
        have hown : OwnAt { γ with rho := γ.rho ++ [(.slice (some c1) (es ++ p.2).length cap, i.size, es ++ p.2)] } w' (.slice (some c1) (es ++ p.2).length cap) i.size (es ++ p.2) :=
          ⟨c1, cap, rfl, e2, by simpa using hroom, f4, f5, f6, cc', ce, cz, vs ++ xs, r3, hcells, RepE.mono hle _ _ _ (k3.append hrep), by rw [hsize]; exact k4, k5⟩
        obtain ⟨m1, m2⟩ := hi.right r2 (kill_length (r := .own r)) hsub hfr (f := true) (fun _ => ⟨rfl, hown⟩)
        simp only [Bool.false_and, Bool.not_false] at hK
        refine ⟨_, w', _, _, _, lam, _, hr, .inl rfl, m2, m1, ?_, hK⟩
        rw [hd]
        refine (hf.right r2 (by rw [kill_length, hi.rholen]) hsub (fun j cs hj e => ?_) (fun _ => rfl)).set ?_ hN
        · exact (hf.l j cs hj).own r _ _ _ hlive e4 (by rw [e1, e]; rfl)
        · simp only [SRep, Rep]
          exact ⟨c1, cap, by simp, e2, by simpa using hroom, by rw [← hi.rholen]; simp⟩
      · refine hgrow (some c1) cap vs e1 ?_ k3 hroom (by simp)
        obtain ⟨cb, co, cs⟩ := c1
        simp only at e2
        subst e2
        simp only [Builtin.firstCells]
        rw [run_loadCells (P := P) (w := w.drew) (vs := vs) (fun j v hv => by
          have : w.drew.heap[cb]? = some (.cells cc ce cz) := k1
          rw [cell_of_heap this]; exact k2 _ _ hv) (by omega), List.take_of_length_le (by omega)]

theorem grow_bound (w : World) (n cap : Nat) (e : TypeId) (h : n ≤ 1073741824) : (Question.appendCap n cap e).cut (w.tape w.drawn (.appendCap n cap e)) ≤ 9223372036854775807 := by
  have := grownCap_le_maxLen w n cap e (by unfold maxLen; omega)
  unfold grownCap maxLen at this
  exact this
theorem run_append_growB {c : Call} {t t2 : TypeId} {T2 : TypeDesc} {et : TypeId} {i : TypeInfo} {zv : Value} {x y : Operand} (hcal : c.callee = .builtin .append) (hargs : c.args = #[x, y]) (hop : o.op = .call c)
    (h0 : c.argTypes[0]? = some t) (ht : P.underlying t = some (.slice et)) (h1 : c.argTypes[1]? = some t2) (ht2 : P.underlying t2 = some T2) (hT2 : isSS T2 = true) (hi : P.info? et = some i) (hzv : i.zero = some zv)
    (hbytes : i.bytes ≤ 65536)
    {base : Option Addr} {len cap n : Nat} (hx : a.eval x = .slice base len cap) (hl : (Builtin.lenOf (a.eval y)).run P w = .ok n w) {xs os : List Value}
    (hxs : (Builtin.firstCells i.size n (a.eval y)).run P w.drew = .ok xs.toArray w.drew) (hos : (Builtin.firstCells i.size len (.slice base len cap)).run P w.drew = .ok os.toArray w.drew)
    (hroom : ¬ len + n ≤ cap) (hbig : len + n ≤ 1073741824) :
    ∃ nc, len + n ≤ nc ∧ nc ≤ 9223372036854775807 ∧ (execOp a.eval o).run P w = .ok (.value (.slice (some ⟨w.heap.size, 0, none⟩) (len + n) nc)) (pushed w.drew (.cells (os.toArray ++ (xs.toArray ++ Builtin.zeroCells zv.cells (nc - (len + n)))) et)) := by
  have hsz : szOf P et = some i.size := by simp [szOf, hi]
  refine ⟨(Question.appendCap (len + n) cap et).cut (w.tape w.drawn (.appendCap (len + n) cap et)), by simp only [Question.cut]; omega, grow_bound w _ _ _ hbig, ?_⟩
  have hn := nextcap_le (len + n) cap (by omega)
  have hb : ¬ (Builtin.nextslicecap (len + n) cap * i.bytes > 2 ^ 48) := by
    have : Builtin.nextslicecap (len + n) cap * i.bytes ≤ 4294967296 * 65536 := Nat.mul_le_mul (by omega) hbytes
    omega
  have hq : (Question.appendCap (len + n) cap et).forced = false := rfl
  cases T2 <;> simp only [isSS, Bool.false_eq_true] at hT2 <;>
    simp [execOp, hop, resolve, hcal, invoke, builtin, hargs, Builtin.append_, h0, h1, run_underlying ht, run_underlying ht2, run_sizeOf hsz, hx, hl, hroom, run_typeInfo hi]
  all_goals
    have hm : ¬ (9223372036854775807 < (len : Int) + (n : Int) ∧ i.bytes = 0) := by omega
    have hb' : ¬ (281474976710656 < Builtin.nextslicecap (len + n) cap * i.bytes) := by omega
    rw [if_neg hm, if_neg hb', hq]
    simp [hos, hxs, run_zeroValue hi hzv, newRow]
    rfl

theorem good_ao {d : Nat} {row : Bool} {c : Call} {t t2 : TypeId} {T2 : TypeDesc} {et : TypeId} {i : TypeInfo} {zv : Value} {x y : Operand} {ex ey : E} (hi : INV γ σ w) (hf : FRep γ σ F a w lam) (hcal : c.callee = .builtin .append)
    (hargs : c.args.toList = [x, y]) (hop : o.op = .call c) (hd : o.dst = some d) (hN : d < a.tmps.size)
    (h0 : c.argTypes[0]? = some t) (ht : P.underlying t = some (.slice et)) (h1 : c.argTypes[1]? = some t2) (ht2 : P.underlying t2 = some T2) (hT2 : isSS T2 = true) (hti : P.info? et = some i) (hzv : i.zero = some zv)
    (hbytes : i.bytes ≤ 65536) (hzs : zv.cells.size = i.size) (hx : compE 0 x = some ex) (hy : compE 0 y = some ey) (h : AoV σ i.size row (F.va ex) (F.va ey) fun v σ' => K (F.set d (.v v)) σ') : Good P o a w γ K := by
  have vx := va_rep hf hx
  have vy := va_rep hf hy
  have ha : c.args = #[x, y] := by rw [← Array.toArray_toList (xs := c.args), hargs]
  unfold AoV at h
  rcases hp : elts σ i.size (F.va ey) with _ | p
  · rw [hp] at h; exact h.elim
  rw [hp] at h
  simp only at h
  have hE : p.1 → ∀ w', INV γ σ w' → (Builtin.lenOf (a.eval y)).run P w' = .ok p.2.length w' ∧ ∃ xs : List Value, (Builtin.firstCells i.size p.2.length (a.eval y)).run P w' = .ok xs.toArray w' ∧ RepE γ i.size p.2 xs :=
    fun g w' hi' => elts_ok hi' vy hp g
  -- a new row
  have hnew : ∀ (base : Option Addr) (len cap : Nat) (os : List Value) (cs : List V), p.1 → a.eval x = .slice base len cap → (Builtin.firstCells i.size len (.slice base len cap)).run P w.drew = .ok os.toArray w.drew → RepL γ cs os → (∀ v ∈ os, v.oneCell' = true) → cs.length = len * i.size →
      ¬ len + p.2.length ≤ cap → len + p.2.length ≤ 1073741824 → aoR σ i.size (len + p.2.length) (cs ++ p.2.flatten) (fun v σ' => K (F.set d (.v v)) σ') → Good P o a w γ K := by
    intro base len cap os cs g hxe hos hro hone hcl hroom hbig hK
    obtain ⟨hl, _⟩ := hE g w hi
    obtain ⟨_, xs2, hxs2, hrep2⟩ := hE g w.drew (hi.step (But.drew w))
    obtain ⟨f1, f2, f3⟩ := repE_flat hrep2
    obtain ⟨nc, hnc, hnc2, hr⟩ := run_append_growB hcal ha hop h0 ht h1 ht2 hT2 hti hzv hbytes hxe hl hxs2 hos hroom hbig
    have hul := hro.length
    have hxl2 := f1.length
    have hb : But none w (pushed w.drew (.cells (os.toArray ++ (xs2.toArray ++ Builtin.zeroCells zv.cells (nc - (len + p.2.length)))) et)) := (But.drew w).trans (.push w.drew _)
    have hle : LeR γ { γ with mu := γ.mu ++ [w.heap.size] } := ⟨fun i c hi => by
      show (γ.mu ++ [_])[i]? = some c
      rw [List.getElem?_append_left (List.getElem?_eq_some_iff.1 hi).1]; exact hi, fun _ _ x => x, fun _ _ _ x => x⟩
    have hmul : nc * i.size = len * i.size + (p.2.length * i.size + (nc - (len + p.2.length)) * i.size) := by
      rw [← Nat.add_mul, ← Nat.add_mul]
      congr 1
      omega
    obtain ⟨h2, h3⟩ := hi.newObj hb (Nat.le_refl _) (sn := γ.snap) (fun _ _ _ x => x) (fun _ _ _ => rfl) (ob := .row nc i.size (cs ++ p.2.flatten))
      ⟨os ++ xs2, _, _, (0, 0), heap_push w.drew _, fun j v hv => by
        rw [← Array.append_assoc, Array.getElem?_append_left (by have := (List.getElem?_eq_some_iff.1 hv).1; simpa using this)]
        simpa using hv, RepL.mono hle _ _ (hro.append f1), ⟨by
          simp only [Array.size_append, List.size_toArray, zeroCells_size, hzs]
          omega, hnc2⟩, by rw [List.length_append]; omega, fun j _ => by omega, fun v hv => by
          rcases List.mem_append.1 hv with hv | hv
          · exact hone v hv
          · exact f3 v hv⟩
    refine ⟨_, _, _, _, _, lam, _, hr, .inl rfl, h3, h2, ?_, hK nc hnc hnc2⟩
    rw [hd]
    refine (FRep.newObj hf hb (Nat.le_refl _)).set ?_ hN
    simp only [SRep, Rep]
    exact ⟨w.heap.size, by rw [← hi.mulen]; simp, rfl⟩
  cases hsx : F.va ex with
  | sl b r s' es =>
    rw [hsx] at h vx
    cases row with
    | false => exact good_apC hi hf hcal hargs hop hd hN h0 ht h1 ht2 hT2 hti hzv hbytes hzs hx hy hsx (hE h.2.1.2.1) h.1 h.2.1.1 h.2.1.2.2 h.2.2
    | true =>
      obtain ⟨rfl, g, g3, hK0, hK1⟩ := h
      simp only [Rep] at vx
      obtain ⟨rfl, vx⟩ := vx
      obtain ⟨hl, xs, hxs, hrep⟩ := hE g w hi
      by_cases hpe : p.2 = []
      · have hr := run_append_room (P := P) (w := w) (w' := w) (base := none) (len := 0) (cap := 0) hcal ha hop h0 ht h1 ht2 hT2 hti vx hl hxs (by simp [hpe]) (fun a' e => by cases e) (fun _ => rfl)
        refine good_pure hi hf hd hN hr ?_ (hK0 hpe)
        simp [SRep, Rep, hpe]
      · have := hnew none 0 0 [] [] g (by simpa using vx) (by simp [Builtin.firstCells]) (by simp [RepL]) (by simp) (by simp) (by
          have : 0 < p.2.length := List.length_pos_iff.2 hpe
          omega) (by omega)
        simp only [Nat.zero_add, List.nil_append] at this
        exact this (hK1 hpe)
  | osl j n cap s' =>
    rw [hsx] at h vx
    obtain ⟨rfl, rfl, h⟩ := h
    simp only [Rep] at vx
    obtain ⟨b, hb, vx⟩ := vx
    unfold aoX at h
    split at h
    rotate_left
    · exact h.elim
    rename_i cap' z cs ho
    obtain ⟨⟨rfl, rfl, hcl⟩, g, g3, hK1, hK2⟩ := h
    obtain ⟨p1, p2, vs, c0, e0, z0, k1, k2, k3, k4, k5, k6, k7⟩ := hi.objs _ _ _ hb ho
    have hvl := k3.length
    by_cases hroom : n + p.2.length ≤ cap'
    · obtain ⟨hl, xs, hxs, hrep⟩ := hE g w hi
      obtain ⟨f1, f2, f3⟩ := repE_flat hrep
      have hxl := f1.length
      have hmul : (n + p.2.length) * i.size ≤ cap' * i.size := Nat.mul_le_mul_right _ hroom
      rw [Nat.add_mul] at hmul
      obtain ⟨w', r1, r2, cc', r3, r4⟩ := run_storeCells (P := P) xs w b (0 + n * i.size) 0 c0 e0 z0 k1 (by have := k4.1; omega) (fun q h1 h2 => k6 q (by omega)) f3
      have hr := run_append_room (P := P) (w := w) (w' := w') hcal ha hop h0 ht h1 ht2 hT2 hti vx hl hxs hroom (fun a' e => by cases e; rw [add_none]; exact r1) (fun e => by cases e)
      have hsize : cc'.size = c0.size := by
        have := congrArg List.length r4
        simp only [Array.length_toList, List.length_append, List.length_take, List.length_drop] at this
        have := k4.1
        omega
      have hcells : ∀ (q : Nat) (v : Value), (vs ++ xs)[q]? = some v → cc'[q]? = some v := by
        intro q v hv
        have e5 : cc'[q]? = cc'.toList[q]? := by simp
        rw [e5, r4]
        by_cases hq : q < vs.length
        · rw [List.getElem?_append_left hq] at hv
          rw [List.append_assoc, List.getElem?_append_left (by simp; have := k4.1; omega), List.getElem?_take, if_pos (by omega)]
          simpa using k2 _ _ hv
        · rw [List.getElem?_append_right (by omega)] at hv
          have hjl := (List.getElem?_eq_some_iff.1 hv).1
          rw [List.append_assoc, List.getElem?_append_right (by simp; have := k4.1; omega), List.getElem?_append_left (by simp; have := k4.1; omega), ← hv]
          congr 1
          simp; have := k4.1; omega
      obtain ⟨q1, q2⟩ := setObj_ok hi hf hb r2 (ob := .row cap' i.size (cs ++ p.2.flatten)) (sn := γ.snap) (fun _ _ _ x => x) (fun _ _ _ => rfl) (fun c n x hx => Nat.lt_of_lt_of_le (hi.snapb c n x hx) r2.size)
        ⟨vs ++ xs, cc', e0, z0, r3, hcells, k3.append f1, by rw [hsize]; exact k4, by rw [List.length_append]; omega, k6, fun v hv => by
          rcases List.mem_append.1 hv with hv | hv
          · exact k7 v hv
          · exact f3 v hv⟩
      refine ⟨_, w', γ, _, _, lam, _, hr, .inl rfl, .refl γ, q1, ?_, hK1 hroom⟩
      rw [hd]
      refine q2.set ?_ hN
      simp only [SRep, Rep]
      exact ⟨b, hb, rfl⟩
    · refine hnew (some ⟨b, 0, none⟩) n cap' vs cs g vx ?_ k3 k7 hcl hroom g3 (hK2 hroom)
      simp only [Builtin.firstCells]
      rw [run_loadCells (P := P) (w := w.drew) (vs := vs) (fun j v hj => by
        have hc7 : w.drew.heap[b]? = some (.cells c0 e0 z0) := k1
        rw [cell_of_heap hc7, Nat.zero_add]; exact k2 j v hj) (by omega), List.take_of_length_le (by omega)]
  | _ => rw [hsx] at h; exact h.elim
end
end Go.VL

namespace Go.VL
open Go

def Fw (ro : Option Nat) : Fence := { Fence.wide with round := ro }

theorem callsIn_Fw {ro : Option Nat} {n : Nat} {P : Program} {f : FuncId} {args : Array Value} {w : World} {R : Ending → World → Prop} (h : Calls P f args w R) : CallsIn (Fw ro) n P f args w R :=
  (callsIn_wide (n := n)).2 h

def mark (r : Nat) : Deferred := { target := .collected r, args := #[] }

/-- The marks of the loops over functions. -/
def Marks (γ0 γ : G) (ds : List Deferred) : Prop := ∃ rs : List Nat, ds = rs.map mark ∧ rs.Nodup ∧ ∀ r ∈ rs, γ.phi r = some (.deferred (some [])) ∧ γ0.phi r = none

def exitX : Exit → X → Prop
  | .normal, .normal => True
  | .exit i, .exit j => i = j
  | .ret, .ret => True
  | _, _ => False

def Post (γ0 : G) (N : Nat) (Q : X → Fr → St → Prop) : Exit → Act → World → Prop := fun e a w =>
  ∃ x F σ γ lam, exitX e x ∧ LeB γ0 γ ∧ INV γ σ w ∧ FRep γ σ F a w lam ∧ a.tmps.size = N ∧ Marks γ0 γ a.defers ∧ Q x F σ

theorem Marks.mono {γ0 γ γ' : G} {ds : List Deferred} (h : Marks γ0 γ ds) (hl : LeB γ γ') : Marks γ0 γ' ds := by
  obtain ⟨rs, h1, h2, h3⟩ := h
  exact ⟨rs, h1, h2, fun r hr => ⟨hl.phi _ _ (h3 r hr).1, (h3 r hr).2⟩⟩

section
variable {P : Program} {γ0 γ : G} {σ : St} {F : Fr} {a : Act} {w : World} {lam : Nat → Nat} {o : Oper} {N : Nat} {ro : Option Nat} {n : Nat} {Q : X → Fr → St → Prop}

/-- Laying aside other blocks. -/
theorem INV.rephi (h : INV γ σ w) {p : Nat → Option Obj} (h1 : ∀ (b : Nat) (o : Obj), p b = some o → w.heap[b]? = some o) (h2 : ∀ b ∈ γ.mu, p b = none)
    (h3 : ∀ (r : Nat) v s es b, σ.live[r]? = some true → γ.rho[r]? = some (v, s, es) → blockOf v = some b → p b = none) : INV { γ with phi := p } σ w := by
  have hle : LeR γ { γ with phi := p } := ⟨fun _ _ x => x, fun _ _ x => x, fun _ _ _ x => x⟩
  refine ⟨h.os, h.tape, h.out, h1, h.pub, h.mulen, fun i b o e1 e2 => ?_, h.inj, h.rholen, fun r v s es e1 e2 => ?_, h.snapb, h.apart, h.drn⟩
  · obtain ⟨p1, p2, p3⟩ := h.objs _ _ _ e1 e2
    exact ⟨h2 b (mem_of_get e1), p2, p3.but (k := w.heap.size) (.refl _ _) (by obtain ⟨x, hx⟩ := p3.heap; have := lt_of_heap hx; omega) hle (fun _ => rfl) (fun _ _ _ x => x)⟩
  · have ho := h.own _ _ _ _ e1 e2
    refine ho.but (k := w.heap.size) (.refl _ _) ?_ hle ?_
    · obtain ⟨a, cap, rfl, _, _, _, _, _, c, _, _, _, h7, _⟩ := ho
      simp only [blockOf, ne_eq, Option.some.injEq]
      have := lt_of_heap h7
      omega
    · intro b hb
      refine ⟨h3 _ _ _ _ _ e1 e2 hb, ?_⟩
      obtain ⟨a, cap, rfl, _, _, _, h5, h6, _⟩ := ho
      cases hb
      exact ⟨h5, h6⟩

theorem blk_of_own (h : INV γ σ w) {r : Nat} {v : Value} {s : Nat} {es : List (List V)} (h1 : σ.live[r]? = some true) (h2 : γ.rho[r]? = some (v, s, es)) {b : Nat} (hb : blockOf v = some b) :
    γ.phi b = none ∧ ∃ x, w.heap[b]? = some x := by
  obtain ⟨a, cap, rfl, _, _, h4, _, _, c, _, _, _, h7, _⟩ := h.own _ _ _ _ h1 h2
  cases hb
  exact ⟨h4, _, h7⟩

open Classical in
/-- What a call leaves alone: the caller's own variables too. -/
noncomputable def aside (γ : G) (F : Fr) (lam : Nat → Nat) (w : World) (b : Nat) : Option Obj := if (∃ k cs, lget k F.l = some cs ∧ lam k = b) then w.heap[b]? else γ.phi b

theorem aside_pre (hi : INV γ σ w) (hf : FRep γ σ F a w lam) : INV { γ with phi := aside γ F lam w } σ w := by
  have hmu : ∀ b ∈ γ.mu, aside γ F lam w b = none := by
    intro b hb
    have : ¬ (∃ k cs, lget k F.l = some cs ∧ lam k = b) := by
      rintro ⟨k, cs, h1, rfl⟩
      exact (hf.l k cs h1).mu hb
    simp only [aside, if_neg this]
    obtain ⟨i, hi', he⟩ := List.getElem_of_mem hb
    have hlt : i < σ.objs.length := hi.mulen ▸ hi'
    exact (hi.objs i b σ.objs[i] (by rw [List.getElem?_eq_getElem hi', he]) (List.getElem?_eq_getElem hlt)).1
  refine hi.rephi ?_ hmu ?_
  · intro b o hb
    simp only [aside] at hb
    split at hb
    · exact hb
    · exact hi.phi _ _ hb
  · intro r v s es b h1 h2 h3
    have : ¬ (∃ k cs, lget k F.l = some cs ∧ lam k = b) := by
      rintro ⟨k, cs, e1, rfl⟩
      exact (hf.l k cs e1).own r _ _ _ h1 h2 h3
    simp only [aside, if_neg this]
    exact (blk_of_own hi h1 h2 h3).1
theorem aside_post (hi : INV γ σ w) (hf : FRep γ σ F a w lam) {γ' : G} {σ' : St} {w' : World} {x : V} {v : Value} (hle : Le { γ with phi := aside γ F lam w } γ') (hi2 : INV γ' σ' w') (hx : Rep γ' x v) :
    ∃ γ'', γ''.rho = γ'.rho ∧ Le γ γ'' ∧ INV γ'' σ' w' ∧ Rep γ'' x v ∧ FRep γ'' σ' F a w' lam := by
  have hphi : γ'.phi = aside γ F lam w := hle.phi
  have sub : ∀ b o, γ.phi b = some o → aside γ F lam w b = some o := by
    intro b o hb
    simp only [aside]
    split
    · exact hi.phi _ _ hb
    · exact hb
  have hloc : ∀ k cs, lget k F.l = some cs → aside γ F lam w (lam k) = w.heap[lam k]? := by
    intro k cs hk
    simp only [aside]
    rw [if_pos ⟨k, cs, hk, rfl⟩]
  have none_of : ∀ b, γ'.phi b = none → γ.phi b = none := by
    intro b hb
    cases hx : γ.phi b with
    | none => rfl
    | some o => rw [hphi, sub b o hx] at hb; cases hb
  have hi3 : INV { γ' with phi := γ.phi } σ' w' := by
    refine hi2.rephi (fun b o hb => hi2.phi b o (by rw [hphi]; exact sub b o hb)) ?_ ?_
    · intro b hb
      obtain ⟨i, hi', he⟩ := List.getElem_of_mem hb
      have hlt : i < σ'.objs.length := hi2.mulen ▸ hi'
      exact none_of b (hi2.objs i b σ'.objs[i] (by rw [List.getElem?_eq_getElem hi', he]) (List.getElem?_eq_getElem hlt)).1
    · intro r v s es b h1 h2 h3
      exact none_of b (blk_of_own hi2 h1 h2 h3).1
  have hler : LeR γ { γ' with phi := γ.phi } := ⟨hle.mu, hle.rho, hle.pub⟩
  refine ⟨{ γ' with phi := γ.phi }, rfl, ⟨hler, ?_, rfl, hle.snap, hle.os, hle.tape, hle.out, hle.drn⟩, hi3, Rep.mono (γ := γ') (γ' := { γ' with phi := γ.phi }) ⟨fun _ _ x => x, fun _ _ x => x, fun _ _ _ x => x⟩ _ _ hx, ?_⟩
  · intro b hb
    refine hle.pubp b ?_
    cases hx : γ.phi b with
    | none => exact absurd hx hb
    | some o => rw [show ({ γ with phi := aside γ F lam w } : G).phi b = aside γ F lam w b from rfl, sub b o hx]; simp
  · refine ⟨fun t => (hf.s t).mono hler, fun k cs hk' => ?_, hf.inj⟩
    have hl := hf.l k cs hk'
    obtain ⟨vs', e', h1, h2⟩ := hl.cells
    have hph : γ'.phi (lam k) = some (.cells vs'.toArray e' (0, 0)) := by rw [hphi, hloc k cs hk', h1]
    refine ⟨⟨vs', e', hi2.phi _ _ hph, RepL.mono hler _ _ h2⟩, hl.phi, ?_, ?_, ?_⟩
    · have := hle.pubp (lam k) (by
        show aside γ F lam w (lam k) ≠ none
        rw [hloc k cs hk', h1]; simp)
      exact this.trans hl.pub
    · intro hm
      obtain ⟨i, hi', he⟩ := List.getElem_of_mem hm
      have hlt : i < σ'.objs.length := hi2.mulen ▸ hi'
      have := (hi2.objs i (lam k) σ'.objs[i] (by rw [List.getElem?_eq_getElem hi', he]) (List.getElem?_eq_getElem hlt)).1
      rw [hph] at this
      cases this
    · intro r v s es h1 h2 h3
      have := (blk_of_own hi2 h1 h2 h3).1
      rw [hph] at this
      cases this

theorem aside_args {xs : List V} {vs : List Value} (hr : RepL γ xs vs) : RepL { γ with phi := aside γ F lam w } xs vs :=
  RepL.mono (γ := γ) (γ' := { γ with phi := aside γ F lam w }) ⟨fun _ _ x => x, fun _ _ x => x, fun _ _ _ x => x⟩ _ _ hr

/-- A call. -/
theorem call_ok {f : FuncId} {xs : List V} {vs : List Value} {K : V → St → Prop} (hi : INV γ σ w) (hf : FRep γ σ F a w lam) (hr : RepL γ xs vs) (h : CallA P f xs σ K) :
    Calls P f vs.toArray w fun e w' => ∃ v x σ' γ', e = .returned v ∧ Le γ γ' ∧ INV γ' σ' w' ∧ Rep γ' x v ∧ FRep γ' σ' F a w' lam ∧ K x σ' := by
  refine (h.2 _ w vs (aside_pre hi hf) (aside_args hr)).mono ?_
  rintro e w' ⟨v, x, σ', γ', rfl, hle, hi2, hx, hk⟩
  obtain ⟨γ'', -, h1, h2, h3, h4⟩ := aside_post hi hf hle hi2 hx
  exact ⟨v, x, σ', γ'', rfl, h1, h2, h3, h4, hk⟩

/-- A slice of the frame is under another right. -/
theorem FRep.ren {r r' s : Nat} {es es' : List (List V)} {vr : Value} (hf : FRep γ σ F a w lam) (h1 : γ.rho[r]? = some (vr, s, es)) (h2 : γ.rho[r']? = some (vr, s, es')) (hl : es'.length = es.length) :
    FRep γ σ ⟨renL r r' s es' F.s, F.l⟩ a w lam := by
  refine ⟨fun t => ?_, hf.l, hf.inj⟩
  simp only [sget_renL]
  have ht := hf.s t
  generalize sget t F.s = x at ht
  generalize a.tmps.getD t undef = v at ht
  unfold renS
  split
  · rename_i q t' l'
    cases hq : Nat.beq q r with
    | false => exact ht
    | true =>
      have := Nat.eq_of_beq_eq_true hq
      subst this
      simp only [cond_true]
      simp only [SRep, Rep] at ht ⊢
      obtain ⟨b, cap, k1, k2, k3, k4⟩ := ht
      rw [h1] at k4
      simp only [Option.some.injEq, Prod.mk.injEq] at k4
      obtain ⟨rfl, rfl, rfl⟩ := k4
      exact ⟨b, cap, by rw [hl]; exact k1, k2, by rw [hl]; exact k3, h2⟩
  · rename_i q t' l' i o
    cases hq : Nat.beq q r with
    | false => exact ht
    | true =>
      have := Nat.eq_of_beq_eq_true hq
      subst this
      simp only [cond_true]
      simp only [SRep, Rep] at ht ⊢
      obtain ⟨b, cap, k1, k2, k3, k4⟩ := ht
      rw [h1] at k3
      simp only [Option.some.injEq, Prod.mk.injEq] at k3
      obtain ⟨rfl, rfl, rfl⟩ := k3
      exact ⟨b, cap, k1, by rw [hl]; exact k2, by rw [hl]; exact h2, k4⟩
  · exact ht

/-- A call that may change a slice. -/
theorem callM_ok {f : FuncId} {xs : List V} {vs : List Value} {r s : Nat} {es : List (List V)} {K : V → Nat → List (List V) → St → Prop} (hi : INV γ σ w) (hf : FRep γ σ F a w lam) (hr : RepL γ xs vs) (h : CallM P f xs r s es σ K) :
    Calls P f vs.toArray w fun e w' => ∃ v x σ' γ' r' es', e = .returned v ∧ Le γ γ' ∧ INV γ' σ' w' ∧ Rep γ' x v ∧ FRep γ' σ' ⟨renL r r' s es' F.s, F.l⟩ a w' lam ∧ K x r' es' σ' := by
  refine (h.2 _ w vs (aside_pre hi hf) (aside_args hr)).mono ?_
  rintro e w' ⟨v, x, σ', γ', r', es', rfl, hle, hi2, hx, ⟨vr, k1, k2⟩, k3, hk⟩
  obtain ⟨γ'', h0, h1, h2, h3, h4⟩ := aside_post hi hf hle hi2 hx
  exact ⟨v, x, σ', γ'', r', es', rfl, h1, h2, h3, h4.ren (h1.rho _ _ k1) (by rw [h0]; exact k2) k3, hk⟩

theorem roundIn_Fw {ro : Option Nat} {n l : Nat} {f : FuncId} {tmps : Array Value} {ca cb : Code} {R : Ending → World → Prop} (h : RoundIn Fence.wide 0 P l f tmps ca cb w R) : RoundIn (Fw ro) n P l f tmps ca cb w R :=
  ⟨trivial, fun c cs _ => h.2 c cs (room_wide _)⟩
/-- A call of yield. -/
theorem yld_ok {l : Nat} {xs : List V} {vs : List Value} {K : V → St → Prop} (hi : INV γ σ w) (hf : FRep γ σ F a w lam) (hr : RepL γ xs vs) (h : YldA P l xs σ K) :
    YieldAt Fence.wide 0 P l vs.toArray w fun e w' => ∃ v x σ' γ', e = .returned v ∧ Le γ γ' ∧ INV γ' σ' w' ∧ Rep γ' x v ∧ FRep γ' σ' F a w' lam ∧ K x σ' := by
  obtain ⟨fn, tmps, ca, cb, h1, h2⟩ := h _ w vs (aside_pre hi hf) (aside_args hr)
  refine ⟨fn, tmps, ca, cb, h1, h2.mono ?_⟩
  rintro e w' ⟨v, x, σ', γ', rfl, hle, hi2, hx, hk⟩
  obtain ⟨γ'', -, h1, h2, h3, h4⟩ := aside_post hi hf hle hi2 hx
  exact ⟨v, x, σ', γ'', rfl, h1, h2, h3, h4, hk⟩

theorem compO_noDefer {loc : List Nat} {c : O} (hc : compO P loc o = some c) : ∀ c', o.op ≠ .defer c' := by
  intro c' h
  simp [compO, h] at hc

theorem compO_call {loc : List Nat} {c : O} (hc : compO P loc o = some c) (hcall : c.isCall = true) : (∃ cl c0, o.op = .call cl ∧ compCall P o.dst cl = some c0 ∧ c = toCm loc c0) ∨
    (∃ x d e, o.op = .next x false ∧ o.dst = some d ∧ compE 0 x = some e ∧ c = .nx d e) ∨
    ∃ t m k kt e d lv em ek z, o.op = .mapEntry t m k ∧ P.underlying t = some (.map kt e) ∧ o.dst = some d ∧ leavesK P kt = some lv ∧ compE 0 m = some em ∧ compE 0 k = some ek ∧
      ((P.info? e).bind (·.zero)).bind (vOf 0) = some z ∧ c = .me d lv em ek z := by
  unfold compO at hc
  split at hc
  · rename_i cl hop
    simp only [Option.map_eq_some_iff] at hc; obtain ⟨c0, hc, rfl⟩ := hc
    exact .inl ⟨cl, c0, hop, hc, rfl⟩
  · simp at hc
  · rename_i x b hop
    split at hc
    · rename_i d e hd he
      cases hc
      exact .inr (.inl ⟨_, _, _, hop, hd, he, rfl⟩)
    · simp at hc
  · rename_i t m k hop
    split at hc
    · rename_i kt e hu
      split at hc
      · rename_i d lv em ek z hd h1 h2 h3 h4
        cases hc
        exact .inr (.inr ⟨_, _, _, _, _, _, _, _, _, _, hop, hu, hd, h1, h2, h3, h4, rfl⟩)
      · simp at hc
    · simp at hc
  · split at hc
    · split at hc
      · simp at hc
      · rename_i h1
        cases hc
        rw [hcall] at h1
        exact absurd rfl h1
    · simp at hc

/-- What goes on behind an operation. -/
def Nxt (γ : G) (a : Act) (next : Act → World → Prop) (K : Fr → St → Prop) : Prop :=
  ∀ a' w' γ' σ' F' lam', LeB γ γ' → INV γ' σ' w' → FRep γ' σ' F' a' w' lam' → a'.tmps.size = a.tmps.size → a'.defers = a.defers → K F' σ' → next a' w'

theorem put_size (a : Act) (d : Option Nat) (v : Value) : (a.put d v).tmps.size = a.tmps.size ∧ (a.put d v).defers = a.defers := by cases d <;> simp [Act.put]

theorem enter_ok {f : FuncId} {args : Array Value} {w : World} (h : ∃ fn, P.funcs[f]? = some fn ∧ fn.body.isSome = true ∧ (fn.name == "runtime.NumGoroutine") = false) :
    (callFunc f args).run P w = .ok (.enter f args) w := by
  obtain ⟨fn, h1, h2, h3⟩ := h
  have hb : fn.body.isNone = false := by cases hx : fn.body <;> simp_all
  unfold callFunc
  simp only [Sem.run_bind, run_program, Result.andThen_ok, h1, h3, hb, Bool.false_eq_true, if_false, Sem.run_pure, Bool.false_and, Bool.and_false]

theorem op_wp {e : Option (List Nat)} {loc : List Nat} {c : O} {K : Fr → St → Prop} {next : Act → World → Prop} {QQ : Exit → Act → World → Prop} (hc : compO P loc o = some c) (h : c.W P e F σ fun _ => K) (hi : INV γ σ w) (hf : FRep γ σ F a w lam)
    (hN : ∀ d, o.dst = some d → d < a.tmps.size) (hn : Nxt γ a next K) : o.wpIn (Fw ro) n P a w next QQ := by
  refine ⟨fun _ _ => trivial, ?_⟩
  rw [Oper.semAt_eq _ _ _ (compO_noDefer hc)]
  have after : ∀ {d : Option Nat} {f : FuncId} {xs : List V} {vs : List Value}, o.dst = d → RepL γ xs vs → (execOp a.eval o).run P w = .ok (.enter f vs.toArray) w →
      CallA P f xs σ (fun v σ' => Kept e σ σ' ∧ K (setO F d v) σ') → o.uponIn (Fw ro) n P a next QQ ((execOp a.eval o).run P w) := by
    intro d f xs vs hd hr hrun hcall
    rw [hrun]
    simp only [Oper.uponIn]
    refine ⟨fun h => by simp [Fw, Fence.wide] at h, (callsIn_Fw (call_ok hi hf hr hcall)).mono ?_⟩
    rintro e' w' ⟨v, x, σ', γ', rfl, hle, hi2, hx, hf2, _, hk⟩
    refine hn _ w' γ' σ' (setO F d x) lam hle.b hi2 ?_ (put_size a o.dst v).1 (put_size a o.dst v).2 hk
    rw [hd]
    cases d with
    | none => exact hf2
    | some d => exact hf2.set (x := .v x) hx (hN d hd)
  cases hcl : c.isCall with
  | false =>
    have h' : resK K (c.run F σ) := by cases c <;> first | exact h | (simp [O.isCall] at hcl)
    obtain ⟨r, w', γ', σ', F', lam', v, h1, h2, h3, h4, h5, h6⟩ := compO_good hc hcl hi hf hN h'
    rw [h1]
    rcases h2 with rfl | ⟨rfl, rfl⟩
    · exact hn _ _ _ _ _ _ h3.b h4 h5 (put_size a o.dst v).1 (put_size a o.dst v).2 h6
    · exact hn _ _ _ _ _ _ h3.b h4 h5 (put_size a o.dst undef).1 (put_size a o.dst undef).2 h6
  | true =>
    have fin : Good P o a w γ K → o.uponIn (Fw ro) n P a next QQ ((execOp a.eval o).run P w) := by
      rintro ⟨r, w', γ', σ', F', lam', v, h1, h2, h3, h4, h5, h6⟩
      rw [h1]
      rcases h2 with rfl | ⟨rfl, rfl⟩
      · exact hn _ _ _ _ _ _ h3.b h4 h5 (put_size a o.dst v).1 (put_size a o.dst v).2 h6
      · exact hn _ _ _ _ _ _ h3.b h4 h5 (put_size a o.dst undef).1 (put_size a o.dst undef).2 h6
    rcases compO_call hc hcl with ⟨cl, c0, hop, hcc, rfl⟩ | ⟨x, d, e', hop, hd, he, rfl⟩ | ⟨t, m, k, kt, e', d, lv, em, ek, z, hop, hu, hd, k1, k2, k3, k4, rfl⟩
    rotate_left
    · exact fin (good_nx hi hf hop rfl hd (hN d hd) he h)
    · exact fin (good_me hi hf hop hd (hN d hd) hu k1 k2 k3 k4 h)
    unfold compCall at hcc
    split at hcc
    · rename_i f hcal
      simp only [Option.map_eq_some_iff] at hcc; obtain ⟨es, h1, rfl⟩ := hcc
      have run : (∃ fn, P.funcs[f]? = some fn ∧ fn.body.isSome = true ∧ (fn.name == "runtime.NumGoroutine") = false) → (execOp a.eval o).run P w = .ok (.enter f (List.toArray (cl.args.toList.map a.eval))) w := by
        intro he
        have := enter_ok (P := P) (f := f) (args := cl.args.map a.eval) (w := w) he
        simp [execOp, hop, resolve, hcal, Act.eval, Deferred.ofValue, invoke, this]
        apply Array.ext'; simp
      unfold toCm at h
      simp only at h
      cases hx : loc.contains (f + 3000000) <;> rw [hx] at h
      · exact after rfl (vas_rep hf h1) (run h.1) h
      · simp only [cond_true, O.W] at h
        unfold cmW at h
        split at h
        · rename_i r s es' xs hxs
          have hrep := vas_rep hf h1
          rw [hxs] at hrep
          rw [run h.1]
          simp only [Oper.uponIn]
          refine ⟨fun h => by simp [Fw, Fence.wide] at h, (callsIn_Fw (callM_ok hi hf hrep h)).mono ?_⟩
          rintro e' w' ⟨v, x, σ', γ', r', es', rfl, hle, hi2, hx, hf2, _, hk⟩
          refine hn _ w' γ' σ' (setO ⟨renL r r' s es' F.s, F.l⟩ o.dst x) lam hle.b hi2 ?_ (put_size a o.dst v).1 (put_size a o.dst v).2 hk
          cases hd : o.dst with
          | none => exact hf2
          | some d => exact hf2.set (x := .v x) hx (hN d hd)
        · exact after rfl (vas_rep hf h1) (run h.1) h
    · rename_i k hcal
      simp only [Option.map_eq_some_iff] at hcc; obtain ⟨es, h1, rfl⟩ := hcc
      rcases h with ⟨g, caps, hv, hcall⟩ | ⟨l, hv, hcall⟩
      rotate_left
      · have hr := va_rep hf (s := 0) (x := .tmp k) (e := .t k) rfl
        rw [hv] at hr
        simp only [yv, Rep] at hr
        obtain ⟨fn, tmps, ca, cb, hrun, hrd⟩ := yld_ok hi hf (vas_rep hf h1) hcall
        have hex : (execOp a.eval o).run P w = .ok (.round l fn tmps ca cb) w := by
          have e : Sem.run P (Instr.yield l (cl.args.map a.eval)) w = .ok (.round l fn tmps ca cb) w := by
            rw [← hrun]; congr 2; apply Array.ext'; simp
          simp [execOp, hop, resolve, hcal, hr, Deferred.ofValue, invoke, Sem.run_bind, Sem.run_pure, Result.andThen_ok, e]
        rw [hex, Oper.uponIn_round]
        refine ⟨fun h => by simp [Fw, Fence.wide] at h, (roundIn_Fw hrd).mono ?_⟩
        rintro e' w' ⟨v, x, σ', γ', rfl, hle, hi2, hx, hf2, _, hk⟩
        refine hn _ w' γ' σ' (setO F o.dst x) lam hle.b hi2 ?_ (put_size a o.dst v).1 (put_size a o.dst v).2 hk
        cases hd : o.dst with
        | none => exact hf2
        | some d => exact hf2.set (x := .v x) hx (hN d hd)
      have hr := va_rep hf (s := 0) (x := .tmp k) (e := .t k) rfl
      rw [hv] at hr
      simp only [Rep] at hr
      obtain ⟨cs, hr1, hr2⟩ := hr
      refine after rfl ((vas_rep hf h1).append hr2) ?_ hcall
      have := enter_ok (P := P) (f := g) (args := cl.args.map a.eval ++ cs.toArray) (w := w) hcall.1
      simp only [execOp, hop, resolve, hcal, hr1, Deferred.ofValue, invoke, Sem.run_bind, Sem.run_pure, Result.andThen_ok]
      rw [show #[] ++ cl.args.map a.eval ++ cs.toArray = cl.args.map a.eval ++ cs.toArray from by simp, this]
      congr 2
      apply Array.ext'; simp
    · rename_i b hcal
      split at hcc
      · rename_i x y d hargs hdst
        split at hcc
        · rename_i e' u h1 h2
          split at hcc
          · simp at hcc
          · rename_i hss
            split at hcc
            · rename_i i ex ey h3 h4 h5
              split at hcc
              · rename_i hcond
                cases hcc
                simp only [Option.bind_eq_some_iff] at h1 h2
                obtain ⟨t1, g1, g2⟩ := h1
                obtain ⟨t2, g3, g4⟩ := h2
                simp only [Bool.and_eq_true, decide_eq_true_eq] at hcond
                obtain ⟨hb, hz0⟩ := hcond
                unfold zsOK at hz0
                split at hz0
                · rename_i zv hz
                  have key : ∀ row, AoV σ i.size row (F.va ex) (F.va ey) (fun v σ' => Kept e σ σ' ∧ K (F.set d (.v v)) σ') → Good P o a w γ K := fun row h =>
                    good_ao hi hf hcal hargs hop hdst (hN d hdst) g1 g2 g3 g4 (by simpa using hss) h3 hz hb (by simpa using hz0) h4 h5 (AoV.mono h fun _ _ x => x.2)
                  unfold toCm at hcl h
                  simp only at hcl h
                  cases k1 : loc.contains (d + 5000000) <;> cases k2 : loc.contains (d + 6000000) <;> rw [k1, k2] at hcl h <;> first | exact fin (key _ h) | (simp [O.isCall] at hcl)
                · simp at hz0
              · simp at hcc
            · simp at hcc
        · simp at hcc
      all_goals (try split at hcc) <;> (try split at hcc) <;> (try split at hcc) <;> (try simp at hcc) <;> (try (obtain ⟨_, _, rfl⟩ := hcc; simp [toCm, O.isCall] at hcl)) <;> (try (cases hcc; simp [toCm, O.isCall] at hcl))
    · simp at hcc
end
end Go.VL

namespace Go.VL
open Go

section
variable {P : Program} {γ0 γ : G} {σ : St} {F : Fr} {a : Act} {w : World} {lam : Nat → Nat} {o : Oper} {N : Nat} {ro : Option Nat} {n : Nat} {Q : X → Fr → St → Prop} {loc : List Nat}

theorem yielded_of (hf : FRep γ σ F a w lam) {ops : Array Oper} {j g : Nat} (hg : (ops[j]?).bind (·.dst) = some g) {c : Bool} (hc : F.va (.t g) = .bool c) :
    yielded ops a.tmps j = some c := by
  have hr := va_rep hf (s := 0) (x := .tmp g) (e := .t g) rfl
  rw [hc] at hr
  simp only [Rep, Act.eval] at hr
  unfold yielded
  rw [hg]
  simp only [Option.bind_some]
  cases hx : a.tmps[g]? with
  | none => rw [Array.getD_eq_getD_getElem?, hx] at hr; cases hr
  | some v => rw [Array.getD_eq_getD_getElem?, hx] at hr; simp only [Option.getD_some] at hr; subst hr; rfl

theorem dstOK_spec {N : Nat} : ∀ {x y : Option Nat}, dstOK N x y = true → y = x ∧ ∀ d, x = some d → d < N
  | some d, some e, h => by
    simp only [dstOK, Bool.and_eq_true, Nat.ble_eq] at h
    have he : d = e := Nat.eq_of_beq_eq_true h.1
    refine ⟨by rw [he], ?_⟩
    intro d' hd
    simp only [Option.some.injEq] at hd
    omega
  | none, none, _ => ⟨rfl, fun d h => by cases h⟩
  | none, some _, h => by simp [dstOK] at h
  | some _, none, h => by simp [dstOK] at h

/-- What was skipped yields nothing. -/
theorem yielded_u (hf : FRep γ σ F a w lam) {ops : Array Oper} {j g : Nat} (hg : (ops[j]?).bind (·.dst) = some g) (hc : F.va (.t g) = .tup []) :
    yielded ops a.tmps j = none := by
  have hr := va_rep hf (s := 0) (x := .tmp g) (e := .t g) rfl
  rw [hc] at hr
  simp only [Rep, Act.eval, RepL] at hr
  obtain ⟨vs, hr, rfl⟩ := hr
  unfold yielded
  rw [hg]
  simp only [Option.bind_some]
  cases hx : a.tmps[g]? with
  | none => rfl
  | some v => rw [Array.getD_eq_getD_getElem?, hx] at hr; simp only [Option.getD_some] at hr; subst hr; rfl

theorem O.W_mono {K K' : Option (List Nat) → Fr → St → Prop} {o : O} {e : Option (List Nat)} (h : o.W P e F σ K) (hk : ∀ e F σ, K e F σ → K' e F σ) : o.W P e F σ K' := by
  have hr : ∀ {r : Res} {K K' : Fr → St → Prop}, resK K r → (∀ F σ, K F σ → K' F σ) → resK K' r := by
    intro r K K' h hk
    cases r with
    | bad => exact h
    | ok F σ => exact hk _ _ h
    | need p F σ => exact ⟨h.1, hk _ _ h.2⟩
  cases hc : o.isCall with
  | false =>
    have e1 : ∀ K, o.W P e F σ K = resK (K (o.seen e F)) (o.run F σ) := by intro K; cases o <;> first | rfl | (simp [O.isCall] at hc)
    rw [e1] at h ⊢
    exact hr h (hk _)
  | true =>
    cases o <;> simp only [O.isCall, Bool.false_eq_true] at hc
    · exact nxW_mono h fun _ _ x => hk _ _ _ x
    · exact meW_mono h fun _ _ x => hk _ _ _ x
    · exact CallA.mono h fun v σ' x => ⟨x.1, hk _ _ _ x.2⟩
    · exact CallF.mono h fun v σ' x => ⟨x.1, hk _ _ _ x.2⟩
    · unfold O.W at h ⊢
      exact cmW_mono h fun _ _ _ x => ⟨x.1, hk _ _ _ x.2⟩
    · exact AoV.mono h fun v σ' x => ⟨x.1, hk _ _ _ x.2⟩

theorem GO.W_mono {K K' : Option (List Nat) → Fr → St → Prop} {o : GO} {e : Option (List Nat)} (h : o.W P e F σ K) (hk : ∀ e F σ, K e F σ → K' e F σ) : o.W P e F σ K' := by
  unfold GO.W at h ⊢
  cases hg : o.g with
  | none => simp only [hg] at h ⊢; exact O.W_mono h hk
  | some g =>
    simp only [hg] at h ⊢
    rcases h with ⟨h1, h2⟩ | ⟨c, h1, h2, h3⟩
    · exact .inl ⟨h1, hk _ _ _ h2⟩
    · exact .inr ⟨c, h1, fun e => O.W_mono (h2 e) hk, fun e => hk _ _ _ (h3 e)⟩

theorem ops_wp {ops : Array Oper} (QQ : Exit → Act → World → Prop) (hQ : ∀ a w, Post γ0 N Q .normal a w → QQ .normal a w) :
    ∀ (l : List Oper) (gs : List GO) (e : Option (List Nat)) (F : Fr) (σ : St) (γ : G) (a : Act) (w : World) (lam : Nat → Nat), compGs P N loc ops l = some gs → opsW P e gs F σ Q →
      LeB γ0 γ → INV γ σ w → FRep γ σ F a w lam → a.tmps.size = N → Marks γ0 γ a.defers → wpListIn (Fw ro) n P ops QQ l a w
  | [], gs, e, F, σ, γ, a, w, lam, hc, h, hle, hi, hf, hN, hm => by
    simp only [compGs, Option.some.injEq] at hc
    subst hc
    exact hQ _ _ ⟨.normal, F, σ, γ, lam, trivial, hle, hi, hf, hN, hm, h⟩
  | o :: r, gs, e, F, σ, γ, a, w, lam, hc, h, hle, hi, hf, hN, hm => by
    simp only [compGs] at hc
    split at hc
    · rename_i g l hg hl
      simp only [Option.some.injEq] at hc
      subst hc
      simp only [compG] at hg
      split at hg
      · cases hg
      · rename_i c hcO
        cases hok : dstOK N o.dst c.dst with
        | false => simp [hok] at hg
        | true =>
          obtain ⟨hdst, hd0⟩ := dstOK_spec hok
          have hd' : ∀ d, o.dst = some d → d < a.tmps.size := fun d hd => hN ▸ hd0 d hd
          have next : ∀ F' σ', (∃ e', opsW P e' l F' σ' Q) → ∀ a' w' γ' lam', LeB γ γ' → INV γ' σ' w' → FRep γ' σ' F' a' w' lam' → a'.tmps.size = a.tmps.size → a'.defers = a.defers →
              wpListIn (Fw ro) n P ops QQ r a' w' := by
            intro F' σ' ⟨e', hW⟩ a' w' γ' lam' h1 h2 h3 h4 h5
            exact ops_wp QQ hQ r l e' F' σ' γ' a' w' lam' hl hW (hle.trans h1) h2 h3 (h4.trans hN) (by rw [h5]; exact hm.mono h1)
          have hop : c.W P e F σ (fun e' F' σ' => opsW P e' l F' σ' Q) → o.wpIn (Fw ro) n P a w (wpListIn (Fw ro) n P ops QQ r) QQ := fun hW =>
            op_wp hcO (O.W_mono (K' := fun _ F' σ' => ∃ e', opsW P e' l F' σ' Q) hW fun e' _ _ h => ⟨e', h⟩) hi hf hd' fun a' w' γ' σ' F' lam' h1 h2 h3 h4 h5 h6 => next F' σ' h6 a' w' γ' lam' h1 h2 h3 h4 h5
          unfold wpListIn
          simp only [hok] at hg
          split at hg
          · rename_i hgd
            simp only [Option.some.injEq] at hg
            subst hg
            simp only [opsW, GO.W] at h
            rw [if_pos (by simp [Region.wanted, hgd])]
            exact hop h
          · rename_i j b _ hgd
            simp only [Option.map_eq_some_iff] at hg
            obtain ⟨g', hg1, rfl⟩ := hg
            simp only [opsW, GO.W] at h
            have skip : opsW P e l (setO F c.dst (.tup [])) σ Q → Region.wanted o (yielded ops a.tmps) ≠ true → (if Region.wanted o (yielded ops a.tmps) = true then o.wpIn (Fw ro) n P a w (wpListIn (Fw ro) n P ops QQ r) QQ
                else (∀ f, o.about P w a.eval = some f → (Fw ro).fn f) ∧ wpListIn (Fw ro) n P ops QQ r (a.put o.dst undef) w) := by
              intro h hw
              rw [if_neg hw]
              refine ⟨fun _ _ => trivial, ?_⟩
              rw [hdst] at h
              exact next _ _ ⟨e, h⟩ _ _ γ lam (LeB.refl γ) hi (hf.forgetU) (put_size a o.dst undef).1 (put_size a o.dst undef).2
            rcases h with ⟨hu, h⟩ | ⟨cb, hcb, ht, hs⟩
            · have hy := yielded_u hf hg1 hu
              exact skip h (by simp [Region.wanted, hgd, hy])
            have hy := yielded_of hf hg1 hcb
            by_cases hcc : cb = b
            · rw [if_pos (by simp [Region.wanted, hgd, hy, hcc])]
              exact hop (ht hcc)
            · exact skip (hs hcc) (by simp [Region.wanted, hgd, hy, hcc])
          · cases hg
    · cases hc

/-- One operation of a region. -/
theorem go_wp {e : Option (List Nat)} {ops : Array Oper} {g : GO} {K : Fr → St → Prop} {next : Act → World → Prop} {QQ : Exit → Act → World → Prop} (hg : compG P N loc ops o = some g) (h : g.W P e F σ fun _ => K)
    (hi : INV γ σ w) (hf : FRep γ σ F a w lam) (hN : a.tmps.size = N) (hn : Nxt γ a next K) :
    if Region.wanted o (yielded ops a.tmps) = true then o.wpIn (Fw ro) n P a w next QQ else (∀ f, o.about P w a.eval = some f → (Fw ro).fn f) ∧ next (a.put o.dst undef) w := by
  simp only [compG] at hg
  split at hg
  · cases hg
  · rename_i c hcO
    cases hok : dstOK N o.dst c.dst with
    | false => simp [hok] at hg
    | true =>
      obtain ⟨hdst, hd0⟩ := dstOK_spec hok
      have hd' : ∀ d, o.dst = some d → d < a.tmps.size := fun d hd => hN ▸ hd0 d hd
      have hop : (c.W P e F σ fun _ => K) → o.wpIn (Fw ro) n P a w next QQ := fun hW => op_wp hcO hW hi hf hd' hn
      simp only [hok] at hg
      split at hg
      · rename_i hgd
        simp only [Option.some.injEq] at hg
        subst hg
        simp only [GO.W] at h
        rw [if_pos (by simp [Region.wanted, hgd])]
        exact hop h
      · rename_i j b _ hgd
        simp only [Option.map_eq_some_iff] at hg
        obtain ⟨g', hg1, rfl⟩ := hg
        simp only [GO.W] at h
        have skip : K (setO F c.dst (.tup [])) σ → Region.wanted o (yielded ops a.tmps) ≠ true → (if Region.wanted o (yielded ops a.tmps) = true then o.wpIn (Fw ro) n P a w next QQ
            else (∀ f, o.about P w a.eval = some f → (Fw ro).fn f) ∧ next (a.put o.dst undef) w) := by
          intro h hw
          rw [if_neg hw]
          refine ⟨fun _ _ => trivial, ?_⟩
          rw [hdst] at h
          exact hn _ _ _ _ _ _ (LeB.refl γ) hi (hf.forgetU) (put_size a o.dst undef).1 (put_size a o.dst undef).2 h
        rcases h with ⟨hu, h⟩ | ⟨cb, hcb, ht, hs⟩
        · have hy := yielded_u hf hg1 hu
          exact skip h (by simp [Region.wanted, hgd, hy])
        have hy := yielded_of hf hg1 hcb
        by_cases hcc : cb = b
        · rw [if_pos (by simp [Region.wanted, hgd, hy, hcc])]
          exact hop (ht hcc)
        · exact skip (hs hcc) (by simp [Region.wanted, hgd, hy, hcc])
      · cases hg
end
end Go.VL

namespace Go.VL
open Go

def Ag (rs : List Nat) (F G : Fr) : Prop := ∀ t ∈ rs, sget t F.s = sget t G.s

section
variable {F G : Fr} {σ τ : St} {rs : List Nat}
theorem Ag.ev {x : E} (h : Ag x.rs F G) : F.ev x = G.ev x := by
  cases x with
  | t n => exact h n (by simp [E.rs])
  | c v => rfl
theorem Ag.va {x : E} (h : Ag x.rs F G) : F.va x = G.va x := by simp only [Fr.va, h.ev]
theorem Ag.l {a b : List Nat} (h : Ag (a ++ b) F G) : Ag a F G := fun t ht => h t (by simp [ht])
theorem Ag.r {a b : List Nat} (h : Ag (a ++ b) F G) : Ag b F G := fun t ht => h t (by simp [ht])
theorem Ag.vaO {x : Option E} (h : Ag (EOrs x) F G) : F.vaO x = G.vaO x := by
  cases x with
  | none => rfl
  | some x => simp only [Fr.vaO, Ag.va (x := x) h]
theorem Ag.overs : ∀ {ps : List (Nat × Nat × E)} {z : Option (List V)}, Ag (ps.flatMap (·.2.2.rs)) F G → overs F z ps = overs G z ps
  | [], z, _ => by cases z <;> simp [VL.overs]
  | p :: r, none, _ => by simp [VL.overs]
  | p :: r, some z, h => by
    simp only [List.flatMap_cons] at h
    simp only [VL.overs, h.l.va, Ag.overs h.r]
theorem Ag.lits {s : Nat} : ∀ {xs : List E}, Ag (xs.flatMap E.rs) F G → lits F s xs = lits G s xs
  | [], _ => rfl
  | x :: r, h => by
    simp only [List.flatMap_cons] at h
    simp only [VL.lits, h.l.va, Ag.lits h.r]

def resP (d : Nat) (F G : Fr) (σ τ : St) : Res → Res → Prop
  | .bad, _ => True
  | .ok F' σ', r => ∃ u, F' = F.set d u ∧ σ' = σ ∧ r = .ok (G.set d u) τ
  | .need p F' σ', r => ∃ u q, F' = F.set d u ∧ σ' = σ ∧ r = .need q (G.set d u) τ ∧ (p → q)

theorem resP.ok {d : Nat} (u : S) : resP d F G σ τ (.ok (F.set d u) σ) (.ok (G.set d u) τ) := ⟨u, rfl, rfl, rfl⟩
theorem resP.need {d : Nat} {p q : Prop} (u : S) (h : p → q) : resP d F G σ τ (.need p (F.set d u) σ) (.need q (G.set d u) τ) := ⟨u, q, rfl, rfl, rfl, h⟩
theorem resP.also {d : Nat} {p q : Prop} (h : p → q) {r r' : Res} (hr : resP d F G σ τ r r') : resP d F G σ τ (r.also p) (r'.also q) := by
  cases r with
  | bad => trivial
  | ok F' σ' =>
    obtain ⟨u, h1, h2, h3⟩ := hr
    subst h3
    exact ⟨u, q, h1, h2, rfl, h⟩
  | need p' F' σ' =>
    obtain ⟨u, q', h1, h2, h3, h4⟩ := hr
    subst h3
    exact ⟨u, _, h1, h2, rfl, fun x => ⟨h x.1, h4 x.2⟩⟩

theorem rd_extD {L : List Nat} (he : ExtD L σ τ) {r : R} (h : rd σ.live r) : rd τ.live r := by
  cases r with
  | pub => trivial
  | own r => exact he.live _ h
  | view r => exact he.live _ h
theorem rd_ext (he : Ext σ τ) {r : R} (h : rd σ.live r) : rd τ.live r := rd_extD (L := []) he.on h
theorem resC.also {d : Option Nat} {p : Prop} {r r' : Res} (h : resC d F G none r r') : resC d F G none (r.also p) (r'.also p) := by
  cases r with
  | bad => trivial
  | ok F' σ' =>
    obtain ⟨⟨u, l, h1, h2⟩, _⟩ := h
    subst h2
    exact ⟨⟨u, l, h1, rfl⟩, by simp⟩
  | need p' F' σ' =>
    obtain ⟨⟨u, l, h1, h2⟩, _⟩ := h
    subst h2
    exact ⟨⟨u, l, h1, rfl⟩, by simp⟩

namespace Go.VL
open Go

/-- The same frame. -/
def FrEq (F G : Fr) : Prop := F.l = G.l ∧ ∀ t, sget t F.s = sget t G.s

theorem FrEq.refl (F : Fr) : FrEq F F := ⟨rfl, fun _ => rfl⟩
theorem FrEq.symm {F G : Fr} (h : FrEq F G) : FrEq G F := ⟨h.1.symm, fun t => (h.2 t).symm⟩
theorem FrEq.trans {F G H : Fr} (h : FrEq F G) (k : FrEq G H) : FrEq F H := ⟨h.1.trans k.1, fun t => (h.2 t).trans (k.2 t)⟩
theorem FrEq.ag {F G : Fr} (h : FrEq F G) (rs : List Nat) : Ag rs F G := fun t _ => h.2 t

theorem sget_wr (t : Nat) (d : Option Nat) (u : S) (s : List (Nat × S)) : sget t (wr d u s) = if d = some t then u else sget t s := by
  cases d with
  | none => simp [wr]
  | some d =>
    simp only [wr, sget_sset, Option.some.injEq]
    by_cases e : t = d
    · subst e; simp
    · have : ¬ d = t := fun h => e h.symm
      simp [e, this]

theorem FrEq.wr {F G : Fr} (h : FrEq F G) (d : Option Nat) (u : S) (l : List (Nat × List V)) : FrEq ⟨VL.wr d u F.s, l⟩ ⟨VL.wr d u G.s, l⟩ :=
  ⟨rfl, fun t => by simp only [sget_wr, h.2]⟩

theorem free_spec {d : Option Nat} {l : List Nat} (h : free d l = true) {F : Fr} {u : S} {l' : List (Nat × List V)} : Ag l F ⟨wr d u F.s, l'⟩ := by
  intro t ht
  rw [sget_wr]
  cases d with
  | none => simp
  | some d =>
    simp only [free, List.all_eq_true, Bool.not_eq_true'] at h
    have h1 := h t ht
    have : ¬ d = t := fun e => by
      subst e
      rw [show Nat.beq d d = true from Nat.beq_refl d] at h1
      cases h1
    simp [this]

theorem Ag.trans {l : List Nat} {F G H : Fr} (h : Ag l F G) (k : Ag l G H) : Ag l F H := fun t ht => (h t ht).trans (k t ht)
theorem Ag.symm {l : List Nat} {F G : Fr} (h : Ag l F G) : Ag l G F := fun t ht => (h t ht).symm

section
variable {P : Program} {F G : Fr} {σ τ : St} {K K' : Option (List Nat) → Fr → St → Prop} {e e1 : Option (List Nat)}

theorem resK.mono {K K' : Fr → St → Prop} {r : Res} (h : resK K r) (hk : ∀ F σ, K F σ → K' F σ) : resK K' r := by
  cases r with
  | bad => exact h
  | ok F σ => exact hk _ _ h
  | need p F σ => exact ⟨h.1, hk _ _ h.2⟩

theorem O.W_call {o : O} (h : o.kind ≠ .call ∧ o.kind ≠ .no) : o.W P e F σ K = resK (K (o.seen e F)) (o.run F σ) := by
  cases o <;> first | rfl | (simp [O.kind] at h)

/-- Less was looked at. -/
def ELe (e' e : Option (List Nat)) : Prop := e'.isSome = e.isSome ∧ ∀ L L', e = some L → e' = some L' → ∀ i ∈ L', i ∈ L

theorem ELe.refl (e : Option (List Nat)) : ELe e e := ⟨rfl, fun L L' h1 h2 i hi => by rw [h1] at h2; cases h2; exact hi⟩
theorem ELe.add {e e' : Option (List Nat)} (h : ELe e' e) (l : List Nat) : ELe (see e' l) (see e l) := by
  cases e with
  | none => cases e' with
    | none => exact .refl _
    | some L => simp [ELe] at h
  | some L => cases e' with
    | none => simp [ELe] at h
    | some L' =>
      refine ⟨rfl, fun a b h1 h2 i hi => ?_⟩
      cases h1; cases h2
      rcases List.mem_append.1 hi with hi | hi
      · exact List.mem_append_left _ hi
      · exact List.mem_append_right _ (h.2 _ _ rfl rfl i hi)
theorem ELe.more (l : List Nat) : ELe e (see e l) := by
  cases e with
  | none => exact .refl _
  | some L =>
    refine ⟨rfl, fun a b h1 h2 i hi => ?_⟩
    cases h1; cases h2
    exact List.mem_append_right _ hi
theorem ELe.swap (l l' : List Nat) : ELe (see (see e l) l') (see (see e l') l) := by
  cases e with
  | none => exact .refl _
  | some L =>
    refine ⟨rfl, fun a b h1 h2 i hi => ?_⟩
    cases h1; cases h2
    simp only [List.mem_append] at hi ⊢
    rcases hi with hi | hi | hi
    · exact .inr (.inl hi)
    · exact .inl hi
    · exact .inr (.inr hi)
theorem Kept.less {σ σ' : St} (h : Kept e1 σ σ') (hle : ELe e e1) : Kept e σ σ' := by
  intro L hL
  subst hL
  cases e1 with
  | none => simp [ELe] at hle
  | some L1 => exact ⟨fun i hi => (h _ rfl).objs i (hle.2 _ _ rfl rfl i hi), (h _ rfl).live⟩
theorem front {y : GO} {l2 : List GO} {Q : X → Fr → St → Prop} (hQ : ClosedQ (Q .normal)) : ∀ {l1 : List GO} {L : List Nat} {F : Fr} {σ : St}, (∀ x ∈ l1, swOK x y = true) → (∀ o ∈ l1 ++ y :: l2, o.o.kind ≠ .no) →
    opsW P (some L) (l1 ++ y :: l2) F σ Q → opsW P (some L) (y :: (l1 ++ l2)) F σ Q
  | [], L, F, σ, _, _, h => h
  | x :: r, L, F, σ, hs, hno, h => by
    have h0 : x.W P (some L) F σ fun e' F' σ' => opsW P e' (r ++ y :: l2) F' σ' Q := h
    have hno1 : ∀ o ∈ r ++ y :: l2, o.o.kind ≠ .no := fun o ho => hno o (List.mem_cons_of_mem _ ho)
    have h1 : x.W P (some L) F σ fun e' F' σ' => y.W P e' F' σ' fun e' F' σ' => opsW P e' (r ++ l2) F' σ' Q :=
      GO.W_mono (GO.W_some (hno x (by simp)) h0) fun e' F' σ' ⟨⟨L', hL⟩, h⟩ => by
        subst hL
        exact front hQ (fun x hx => hs x (List.mem_cons_of_mem _ hx)) hno1 h
    have hno2 : ∀ o ∈ r ++ l2, o.o.kind ≠ .no := by
      intro o ho
      refine hno1 o ?_
      rcases List.mem_append.1 ho with h | h
      · exact List.mem_append_left _ h
      · exact List.mem_append_right _ (List.mem_cons_of_mem _ h)
    exact swap (hs x (by simp)) (closed_opsW hQ hno2) h1

theorem resK.and {K K' : Fr → St → Prop} {r : Res} (h : resK K r) (h' : resK K' r) : resK (fun F σ => K F σ ∧ K' F σ) r := by
  cases r with
  | bad => exact h
  | ok F σ => exact ⟨h, h'⟩
  | need p F σ => exact ⟨h.1, h.2, h'.2⟩
end
end Go.VL

namespace Go.VL
open Go

section
variable {P : Program} {γ0 γ : G} {σ : St} {F : Fr} {a : Act} {w : World} {lam : Nat → Nat} {N : Nat} {Q : X → Fr → St → Prop}

end
end Go.VL

namespace Go.VL
open Go

theorem FRep.eq {γ : G} {σ : St} {F G : Fr} {a : Act} {w : World} {lam : Nat → Nat} (h : FRep γ σ F a w lam) (he : FrEq F G) : FRep γ σ G a w lam :=
  ⟨fun t => he.2 t ▸ h.s t, fun k cs hk => h.l k cs (by rw [he.1]; exact hk), fun k k' cs cs' h1 h2 => h.inj k k' cs cs' (by rw [he.1]; exact h1) (by rw [he.1]; exact h2)⟩

/-- Nothing waits for what is still to come. -/
def Topo (ops : Array Oper) : (Nat → Prop) → List Nat → Prop
  | _, [] => True
  | D, i :: r => (∀ o, ops[i]? = some o → ∀ e ∈ o.after, Region.binds .any e = true → D e.on) ∧ Topo ops (fun j => D j ∨ j = i) r

theorem Topo.mono {ops : Array Oper} : ∀ {l : List Nat} {D D' : Nat → Prop}, Topo ops D l → (∀ i, D i → D' i) → Topo ops D' l
  | [], _, _, _, _ => trivial
  | i :: r, D, D', h, hd => ⟨fun o ho e he hb => hd _ (h.1 o ho e he hb), Topo.mono h.2 fun j hj => hj.imp_left (hd j)⟩
theorem Topo.take {ops : Array Oper} {i : Nat} {l2 : List Nat} : ∀ {l1 : List Nat} {D : Nat → Prop}, Topo ops D (l1 ++ i :: l2) → Topo ops (fun j => D j ∨ j = i) (l1 ++ l2)
  | [], _, h => h.2
  | x :: r, D, h => ⟨fun o ho e he hb => .inl (h.1 o ho e he hb), Topo.mono (Topo.take h.2) fun j hj => by
      rcases hj with (h | h) | h
      · exact .inl (.inl h)
      · exact .inr h
      · exact .inl (.inr h)⟩

section
variable {P : Program} {γ0 γ : G} {σ : St} {F : Fr} {a : Act} {w : World} {lam : Nat → Nat} {o : Oper} {N : Nat} {ro : Option Nat} {n : Nat} {Q : X → Fr → St → Prop} {loc : List Nat}

theorem mask_bit {rows : List Nat} {x : Nat} : ∀ {es : List Edge}, (mask rows es).testBit x = true → ∃ e ∈ es, Region.binds .any e = true ∧ (x = e.on ∨ (rows[e.on]?.getD 0).testBit x = true)
  | [], h => by simp [mask] at h
  | e :: r, h => by
    simp only [mask] at h
    cases hb : Region.binds .any e with
    | false =>
      simp only [hb, cond_false] at h
      obtain ⟨e', h1, h2⟩ := mask_bit h
      exact ⟨e', by simp [h1], h2⟩
    | true =>
      simp only [hb, cond_true, Nat.testBit_or, Bool.or_eq_true] at h
      rcases h with (h | h) | h
      · rw [Nat.testBit_two_pow] at h
        exact ⟨e, by simp, hb, .inl (by simpa using (of_decide_eq_true h).symm)⟩
      · exact ⟨e, by simp, hb, .inr h⟩
      · obtain ⟨e', h1, h2⟩ := mask_bit h
        exact ⟨e', by simp [h1], h2⟩

def goAt (gs : List GO) (i : Nat) : GO := gs[i]?.getD ⟨none, .mv 0 (.t 0)⟩
theorem goAt_no {gs : List GO} (hno : ∀ o ∈ gs, o.o.kind ≠ .no) (k : Nat) : (goAt gs k).o.kind ≠ .no := by
  unfold goAt
  cases hx : gs[k]? with
  | none => simp [O.kind]
  | some g => exact hno _ (List.mem_of_getElem? hx)

theorem compGs_get {ops : Array Oper} : ∀ {l : List Oper} {gs : List GO}, compGs P N loc ops l = some gs → gs.length = l.length ∧ ∀ (i : Nat) o, l[i]? = some o → ∃ g, gs[i]? = some g ∧ compG P N loc ops o = some g
  | [], gs, h => by simp only [compGs, Option.some.injEq] at h; subst h; simp
  | o :: r, gs, h => by
    simp only [compGs] at h
    split at h
    · rename_i g l hg hl
      simp only [Option.some.injEq] at h
      subst h
      obtain ⟨h1, h2⟩ := compGs_get hl
      refine ⟨by simp [h1], fun i o' ho => ?_⟩
      cases i with
      | zero => simp only [List.getElem?_cons_zero, Option.some.injEq] at ho; subst ho; exact ⟨g, rfl, hg⟩
      | succ i => simp only [List.getElem?_cons_succ] at ho; simpa using h2 i o' ho
    · cases h

theorem draw_wp {ops : Array Oper} {gs : List GO} {rows : List Nat} (hgs : compGs P N loc ops ops.toList = some gs) (hrows : ∀ (i : Nat) o, ops[i]? = some o → rows[i]?.getD 0 = mask rows o.after.toList)
    (hno : ∀ g ∈ gs, g.o.kind ≠ .no) (QQ : Exit → Act → World → Prop) (hQ : ClosedQ (Q .normal)) (hQQ : ∀ a w, Post γ0 N Q .normal a w → QQ .normal a w) :
    ∀ (m : Nat) (ord : List Nat) (listed : Array Bool) (L : List Nat) (F : Fr) (σ : St) (γ : G) (a : Act) (w : World) (lam : Nat → Nat), ord.length = m → listed.size = ops.size →
      (∀ i, i ∈ ord ↔ listed.getD i true = false) → ord.Nodup → Topo ops (fun i => listed.getD i false = true) ord → (∀ i j, listed.getD i false = true → (rows[i]?.getD 0).testBit j = true → listed.getD j false = true) →
      ord.Pairwise (fun x y => (rows[y]?.getD 0).testBit x = true ∨ swOK (goAt gs x) (goAt gs y) = true) →
      opsW P (some L) (ord.map (goAt gs)) F σ Q → LeB γ0 γ → INV γ σ w → FRep γ σ F a w lam → a.tmps.size = N → Marks γ0 γ a.defers →
      wpAnyIn (Fw ro) n P .any ops QQ m listed a w := by
  intro m
  induction m with
  | zero =>
    intro ord listed L F σ γ a w lam hm hsz hmem hnd htopo hcl hpair h hle hi hf hN hmk
    have : ord = [] := List.eq_nil_of_length_eq_zero hm
    subst this
    refine ⟨?_, hQQ _ _ ⟨.normal, F, σ, γ, lam, trivial, hle, hi, hf, hN, hmk, h⟩⟩
    rw [List.eq_nil_iff_forall_not_mem]
    intro i hr
    have := (mem_ready.1 hr).1
    rw [← hmem] at this
    simp at this
  | succ m ih =>
    intro ord listed L F σ γ a w lam hm hsz hmem hnd htopo hcl hpair h hle hi hf hN hmk
    refine ⟨fun hr => ?_, fun i hr => ?_⟩
    · exfalso
      cases ord with
      | nil => simp at hm
      | cons i r =>
        have hi0 := (hmem i).1 (by simp)
        have hlt : i < ops.size := by
          rw [← hsz]
          by_cases hx : i < listed.size
          · exact hx
          · simp [Array.getElem?_eq_none (Nat.le_of_not_lt hx)] at hi0
        have : i ∈ Region.ready .any ops listed := mem_ready.2 ⟨hi0, ops[i], Array.getElem?_eq_getElem hlt, fun e he hb => htopo.1 _ (Array.getElem?_eq_getElem hlt) e he hb⟩
        rw [hr] at this
        simp at this
    · obtain ⟨h0, o, ho, hall⟩ := mem_ready.1 hr
      obtain ⟨l1, l2, rfl⟩ := List.append_of_mem ((hmem i).2 h0)
      have hil : i < listed.size := by
        by_cases hx : i < listed.size
        · exact hx
        · simp [Array.getElem?_eq_none (Nat.le_of_not_lt hx)] at h0
      have hbit : ∀ x, (rows[i]?.getD 0).testBit x = true → listed.getD x false = true := by
        intro x hx
        rw [hrows i o ho] at hx
        obtain ⟨e, he, hb, h1⟩ := mask_bit hx
        have hle := hall e (Array.mem_toList_iff.1 he) hb
        rcases h1 with rfl | h1
        · exact hle
        · exact hcl _ _ hle h1
      have notl : ∀ x ∈ l1 ++ i :: l2, listed.getD x false ≠ true := by
        intro x hx hl
        have h1 := (hmem x).1 hx
        by_cases hs : x < listed.size
        · simp [Array.getD, hs] at h1 hl
          rw [h1] at hl; cases hl
        · simp [Array.getElem?_eq_none (Nat.le_of_not_lt hs)] at hl
      have hsw : ∀ x ∈ l1.map (goAt gs), swOK x (goAt gs i) = true := by
        intro x hx
        obtain ⟨k, hk, rfl⟩ := List.mem_map.1 hx
        rw [List.pairwise_append] at hpair
        rcases hpair.2.2 k hk i (by simp) with h1 | h1
        · exact absurd (hbit k h1) (notl k (by simp [hk]))
        · exact h1
      have hgo : ∀ k, goAt gs k ∈ gs ∨ goAt gs k = ⟨none, .mv 0 (.t 0)⟩ := by
        intro k
        unfold goAt
        cases hx : gs[k]? with
        | none => exact .inr rfl
        | some g => exact .inl (List.mem_of_getElem? hx)
      have hno' : ∀ o ∈ l1.map (goAt gs) ++ goAt gs i :: l2.map (goAt gs), o.o.kind ≠ .no := by
        intro o ho
        have : ∃ k, o = goAt gs k := by
          rcases List.mem_append.1 ho with h | h
          · obtain ⟨k, _, rfl⟩ := List.mem_map.1 h; exact ⟨k, rfl⟩
          · rcases List.mem_cons.1 h with h | h
            · exact ⟨i, h⟩
            · obtain ⟨k, _, rfl⟩ := List.mem_map.1 h; exact ⟨k, rfl⟩
        obtain ⟨k, rfl⟩ := this
        rcases hgo k with h | h
        · exact hno _ h
        · rw [h]; simp [O.kind]
      have h := front hQ hsw hno' (by simpa using h)
      have h : (goAt gs i).W P (some L) F σ fun e' F' σ' => opsW P e' ((l1 ++ l2).map (goAt gs)) F' σ' Q := by simpa [opsW] using h
      have h : (goAt gs i).W P (some L) F σ fun _ F' σ' => ∃ L', opsW P (some L') ((l1 ++ l2).map (goAt gs)) F' σ' Q := GO.W_mono (GO.W_some (goAt_no hno i) h) fun e' F' σ' ⟨⟨L', hL⟩, h⟩ => by
        subst hL
        exact ⟨L', h⟩
      obtain ⟨g, hg1, hg2⟩ := (compGs_get hgs).2 i o (by simpa using ho)
      have hgi : goAt gs i = g := by simp [goAt, hg1]
      rw [hgi] at h
      unfold wpOpIn
      rw [ho]
      refine go_wp hg2 h hi hf hN ?_
      intro a' w' γ' σ' F' lam' h1 h2 h3 h4 h5 ⟨L', h6⟩
      have hset : ∀ j, j ≠ i → (listed.setIfInBounds i true).getD j false = listed.getD j false := fun j hj => getD_set_ne false (Ne.symm hj)
      have hset2 : ∀ j, j ≠ i → (listed.setIfInBounds i true).getD j true = listed.getD j true := fun j hj => getD_set_ne true (Ne.symm hj)
      have hseti : ∀ d, (listed.setIfInBounds i true).getD i d = true := by
        intro d
        simp [Array.getD, hil]
      have hnd' := hnd
      rw [List.nodup_append, List.nodup_cons] at hnd'
      have hni : i ∉ l1 ++ l2 := by
        intro hx
        rcases List.mem_append.1 hx with hx | hx
        · exact hnd'.2.2 i hx i (by simp) rfl
        · exact hnd'.2.1.1 hx
      refine ih (l1 ++ l2) _ L' F' σ' γ' a' w' lam' (by simp at hm ⊢; omega) (by simp [hsz]) ?_ ?_ ?_ ?_ ?_ h6 (hle.trans h1) h2 h3 (h4.trans hN) (by rw [h5]; exact hmk.mono h1)
      · intro j
        by_cases hj : j = i
        · subst hj
          rw [hseti]
          simp [hni]
        · rw [hset2 j hj, ← hmem j]
          simp [hj]
      · exact (List.nodup_append.2 ⟨hnd'.1, hnd'.2.1.2, fun x hx y hy => hnd'.2.2 x hx y (by simp [hy])⟩)
      · refine (Topo.take htopo).mono fun j hj => ?_
        rcases hj with hj | rfl
        · exact getD_set_true hj
        · exact hseti _
      · intro x y hx hy
        by_cases hxi : x = i
        · subst hxi
          exact getD_set_true (hbit y hy)
        · rw [hset x hxi] at hx
          exact getD_set_true (hcl x y hx hy)
      · refine hpair.sublist ?_
        exact List.Sublist.append (List.Sublist.refl _) (List.sublist_cons_self _ _)

theorem not_mem_split {i : Nat} {l1 l2 : List Nat} (h : (l1 ++ i :: l2).Nodup) : i ∉ l1 ++ l2 := by
  rw [List.nodup_append, List.nodup_cons] at h
  intro hx
  rcases List.mem_append.1 hx with hx | hx
  · exact h.2.2 i hx i (by simp) rfl
  · exact h.2.1.1 hx

theorem ready_some {ops : Array Oper} {listed : Array Bool} {ord : List Nat} (hsz : listed.size = ops.size) (hmem : ∀ i, i ∈ ord ↔ listed.getD i true = false) (htopo : Topo ops (fun i => listed.getD i false = true) ord)
    (hne : ord ≠ []) (hr : Region.ready .any ops listed = []) : False := by
  cases ord with
  | nil => exact hne rfl
  | cons i r =>
    have hi0 := (hmem i).1 (by simp)
    have hlt : i < ops.size := by
      rw [← hsz]
      by_cases hx : i < listed.size
      · exact hx
      · simp [Array.getElem?_eq_none (Nat.le_of_not_lt hx)] at hi0
    have : i ∈ Region.ready .any ops listed := mem_ready.2 ⟨hi0, ops[i], Array.getElem?_eq_getElem hlt, fun e he hb => htopo.1 _ (Array.getElem?_eq_getElem hlt) e he hb⟩
    rw [hr] at this
    simp at this

/-- What is known behind an operation that was ready. -/
structure NextOf (ops : Array Oper) (rows : List Nat) (listed : Array Bool) (i : Nat) (l1 l2 : List Nat) : Prop where
  size : (listed.setIfInBounds i true).size = ops.size
  mem : ∀ j, j ∈ l1 ++ l2 ↔ (listed.setIfInBounds i true).getD j true = false
  nodup : (l1 ++ l2).Nodup
  topo : Topo ops (fun j => (listed.setIfInBounds i true).getD j false = true) (l1 ++ l2)
  closed : ∀ x y, (listed.setIfInBounds i true).getD x false = true → (rows[x]?.getD 0).testBit y = true → (listed.setIfInBounds i true).getD y false = true
  bit : ∀ x, (rows[i]?.getD 0).testBit x = true → listed.getD x false = true
  notl : ∀ x ∈ l1 ++ i :: l2, listed.getD x false ≠ true

theorem opsW_mono {l : List GO} {Q' : X → Fr → St → Prop} (hq : ∀ F σ, Q .normal F σ → Q' .normal F σ)  : ∀ {e : Option (List Nat)} {F : Fr} {σ : St}, opsW P e l F σ Q → opsW P e l F σ Q' := by
  induction l with
  | nil => intro e F σ h; exact hq _ _ h
  | cons o r ih => intro e F σ h; exact GO.W_mono h fun _ _ _ h => ih h

end
end Go.VL

namespace Go.VL
open Go

def numbered : Nat → List V → List (Nat × S)
  | _, [] => []
  | k, x :: r => (k, .v x) :: numbered (k + 1) r
/-- The frame a function begins with. -/
def inFr (xs : List V) : Fr := ⟨numbered 0 xs, []⟩

/-- A result: a slot; a variable. -/
inductive RV where
  | t (k : Nat)
  | c (k n : Nat) (g : Bool)

def compR (P : Program) : List ResultVar → Option (List RV)
  | [] => some []
  | .tmp t :: r => (compR P r).map (.t t :: ·)
  | .cell b t :: r => match szOf P t, aggOf P t, compR P r with
    | some n, some g, some l => some (.c b n g :: l)
    | _, _, _ => none

def retV : List V → V
  | [x] => x
  | vs => .tup vs
def retW (F : Fr) (σ : St) (k : V → Prop) : List RV → List V → Prop
  | [], acc => k (retV acc)
  | .t t :: r, acc => retW F σ k r (acc ++ [F.va (.t t)])
  | .c b n g :: r, acc => resK (fun F' _ => retW F σ k r (acc ++ [F'.va (.t 0)])) (ldW 0 F σ n g (F.ev (.t b)))

def compFn (P : Program) (loc : List Nat) (fn : Func) : Option (List RV × C) :=
  match fn.body, compR P fn.results.toList with
  | some b, some ts => (compC P fn.ntmps loc b).map (ts, ·)
  | _, _ => none

section
variable {P : Program} {γ0 γ : G} {σ : St} {F : Fr} {a : Act} {w : World} {lam : Nat → Nat} {o : Oper} {N : Nat} {ro : Option Nat} {n : Nat} {Q : X → Fr → St → Prop} {loc : List Nat}

theorem numbered_rep : ∀ (xs : List V) (vs : List Value) (k t : Nat), RepL γ xs vs → k ≤ t → SRep γ lam (sget t (numbered k xs)) (vs.getD (t - k) undef)
  | [], vs, k, t, _, _ => by simp [numbered, sget, SRep, Rep]
  | x :: r, vs, k, t, h, hk => by
    simp only [RepL] at h
    obtain ⟨v, us, rfl, h1, h2⟩ := h
    simp only [numbered, sget]
    by_cases e : t = k
    · subst e
      simp [SRep, h1]
    · have : Nat.beq k t = false := by
        cases hb : Nat.beq k t with
        | false => rfl
        | true => exact absurd (Nat.eq_of_beq_eq_true hb).symm e
      rw [this, cond_false]
      have h2 := numbered_rep r us (k + 1) t h2 (by omega)
      have : t - k = (t - (k + 1)) + 1 := by omega
      rw [this]
      simpa using h2

theorem FRep.start {xs : List V} {vs : List Value} (h : RepL γ xs vs) {m : Nat} : FRep γ σ (inFr xs) { tmps := vs.toArray ++ Array.replicate m undef, defers := [] } w lam := by
  refine ⟨fun t => ?_, fun k cs hk => by simp [inFr, lget] at hk, fun k k' cs cs' h1 => by simp [inFr, lget] at h1⟩
  have := numbered_rep (lam := lam) xs vs 0 t h (by omega)
  simp only [inFr]
  have e : (vs.toArray ++ Array.replicate m undef).getD t undef = vs.getD t undef := by
    rw [Array.getD_eq_getD_getElem?, Array.getElem?_append]
    split
    · rename_i hlt
      simp [List.getD_eq_getElem?_getD]
    · rename_i hlt
      simp only [List.size_toArray, Nat.not_lt] at hlt
      rw [List.getD_eq_getElem?_getD, List.getElem?_eq_none hlt, Array.getElem?_replicate]
      split <;> simp
  rw [e]
  simpa using this

namespace Go.VL
open Go

inductive KI where
  | seq (b : C)
  | cut (b : C)
  | block (id : Nat)

/-- What goes on. -/
def conts (P : Program) (Q : X → Fr → St → Prop) : List KI → X → Fr → St → Prop
  | [], x, F, σ => Q x F σ
  | .seq b :: k, x, F, σ => match x with
    | .normal => b.W P F σ (conts P Q k)
    | x => conts P Q k x F σ
  | .cut b :: k, x, F, σ => match x with
    | .normal => b.W P F σ (conts P Q k)
    | x => conts P Q k x F σ
  | .block id :: k, x, F, σ => match x with
    | .exit i => if i = id then conts P Q k .normal F σ else conts P Q k (.exit i) F σ
    | x => conts P Q k x F σ

def KW (P : Program) (r : Res) (e : Option (List Nat)) (l : List GO) (Q : X → Fr → St → Prop) : Prop := resK (fun F σ => opsW P e l F σ Q) r
/-- An operation under a guard. -/
def GW (P : Program) (c : V) (b : Bool) (o : O) (F : Fr) (σ : St) (e : Option (List Nat)) (l : List GO) (Q : X → Fr → St → Prop) : Prop :=
  (c = .tup [] ∧ opsW P e l (setO F o.dst (.tup [])) σ Q) ∨ ∃ c', c = .bool c' ∧ (c' = b → opsW P e (⟨none, o⟩ :: l) F σ Q) ∧ (c' ≠ b → opsW P e l (setO F o.dst (.tup [])) σ Q)
/-- A call is due. -/
def CallK (P : Program) (f : FuncId) (xs : List V) (d : Option Nat) (F : Fr) (σ : St) (e : Option (List Nat)) (l : List GO) (Q : X → Fr → St → Prop) : Prop :=
  CallA P f xs σ fun v σ' => Kept e σ σ' ∧ opsW P e l (setO F d v) σ' Q
def CallV (P : Program) (f : V) (xs : List V) (d : Option Nat) (F : Fr) (σ : St) (e : Option (List Nat)) (l : List GO) (Q : X → Fr → St → Prop) : Prop :=
  CallF P f xs σ fun v σ' => Kept e σ σ' ∧ opsW P e l (setO F d v) σ' Q
def CondW (P : Program) (c : V) (a b : C) (F : Fr) (σ : St) (k : List KI) (Q : X → Fr → St → Prop) : Prop :=
  ∃ c', c = .bool c' ∧ (c' = true → a.W P F σ (conts P Q k)) ∧ (c' = false → b.W P F σ (conts P Q k))
/-- A loop is due. -/
def LoopW (P : Program) (c : C) (F : Fr) (σ : St) (k : List KI) (Q : X → Fr → St → Prop) : Prop := (C.loop c).W P F σ (conts P Q k)
def YldK (P : Program) (l : Nat) (xs : List V) (d : Option Nat) (F : Fr) (σ : St) (e : Option (List Nat)) (r : List GO) (Q : X → Fr → St → Prop) : Prop :=
  YldA P l xs σ fun v σ' => Kept e σ σ' ∧ opsW P e r (setO F d v) σ' Q
/-- A range over a function is due. -/
def RangeW (P : Program) (f : V) (ps : List Nat) (a b : C) (F : Fr) (σ : St) (k : List KI) (Q : X → Fr → St → Prop) : Prop :=
  ∃ g caps, f = .fn g caps ∧ ∀ (l : Nat) (r0 r1 : AObj) (r2 r3 : X → AObj),
      (∀ τ args K, τ.objs[σ.objs.length]? = some r0 → args.length = ps.length →
        (a.W P (rndF F ps args) τ fun x F1 τ1 => x = .normal ∧ τ1.objs[σ.objs.length]? = some r0 ∧ b.W P F1 (τ1.setA σ.objs.length r1) fun y _ τ2 => τ2.objs[σ.objs.length]? = some r1 ∧ match y with
          | .normal => K (.bool true) (τ2.setA σ.objs.length r0)
          | y => K (.bool false) (τ2.setA σ.objs.length (r2 y))) →
        YldA P l args τ K) →
      CallA P g (yv l :: caps) ⟨σ.objs ++ [r0], σ.live⟩ fun _ σ' =>
        (σ'.objs[σ.objs.length]? = some r0 ∧ conts P Q k .normal F (σ'.setA σ.objs.length (r3 .normal))) ∨
          ∃ y, y ≠ .normal ∧ σ'.objs[σ.objs.length]? = some (r2 y) ∧ conts P Q k y F (σ'.setA σ.objs.length (r3 y))

/-- A call that may change a slice is due. -/
def CmK (P : Program) (f : FuncId) (xs : List V) (d : Option Nat) (F : Fr) (σ : St) (e : Option (List Nat)) (r : List GO) (Q : X → Fr → St → Prop) : Prop :=
  cmW P d f F σ (fun σ0 F' σ' => Kept e σ0 σ' ∧ opsW P e r F' σ' Q) xs
/-- A loop over a map goes on; an entry is made or found. -/
def NxK (P : Program) (d : Nat) (v : V) (F : Fr) (σ : St) (e : Option (List Nat)) (r : List GO) (Q : X → Fr → St → Prop) : Prop := nxW d F σ (fun F' σ' => opsW P e r F' σ' Q) v
def MeK (P : Program) (d : Nat) (lv : List LK) (k z m : V) (F : Fr) (σ : St) (e : Option (List Nat)) (r : List GO) (Q : X → Fr → St → Prop) : Prop := meW d F σ (fun F' σ' => opsW P e r F' σ' Q) lv k z m

section
variable {P : Program} {F : Fr} {σ : St} {e : Option (List Nat)} {r : List GO} {Q : X → Fr → St → Prop} {k : List KI}
@[go_sem ↓] theorem CW_range (f : E) (ps : List Nat) (a b : C) : C.W P (.range f ps a b) F σ (conts P Q k) = RangeW P (F.va f) ps a b F σ k Q := rfl
@[go_sem] theorem CallV_fn {g : FuncId} {caps : List V} {xs : List V} {d : Option Nat} : CallV P (.fn g caps) xs d F σ e r Q = CallK P g (xs ++ caps) d F σ e r Q := by
  apply propext
  constructor
  · rintro (⟨g', c', h1, h2⟩ | ⟨l, h1, _⟩)
    · cases h1; exact h2
    · cases h1
  · exact fun h => .inl ⟨_, _, rfl, h⟩
@[go_sem] theorem CallV_yv {l : Nat} {xs : List V} {d : Option Nat} : CallV P (yv l) xs d F σ e r Q = YldK P l xs d F σ e r Q := by
  apply propext
  constructor
  · rintro (⟨g', c', h1, h2⟩ | ⟨l', h1, h2⟩)
    · cases h1
    · cases h1; exact h2
  · exact fun h => .inr ⟨_, rfl, h⟩
theorem yld_at {l : Nat} {xs : List V} {d : Option Nat} {K : V → St → Prop} (h : YldA P l xs σ K) (hk : ∀ v σ', K v σ' → Kept e σ σ' ∧ opsW P e r (setO F d v) σ' Q) :
    YldK P l xs d F σ e r Q := h.mono hk
@[go_sem ↓] theorem opsW_mv (d : Nat) (x : E) : opsW P e (⟨none, .mv d x⟩ :: r) F σ Q = KW P (.ok (F.set d (F.ev x)) σ) e r Q := rfl
@[go_sem ↓] theorem opsW_pk (d : Nat) (c : E) (a : E) (b : E) : opsW P e (⟨none, .pk d c a b⟩ :: r) F σ Q = KW P (pkB d F σ (F.ev c) (F.ev a) (F.ev b)) e r Q := rfl
@[go_sem ↓] theorem opsW_alL (d : Nat) (z : List V) : opsW P e (⟨none, .alL d z⟩ :: r) F σ Q = KW P (.ok (F.newL d z) σ) e r Q := rfl
@[go_sem ↓] theorem opsW_alH (d : Nat) (z : List V) : opsW P e (⟨none, .alH d z⟩ :: r) F σ Q = KW P (.ok (F.set d (.v (.ptr (some (σ.objs.length, 0))))) ⟨σ.objs ++ [.cells z], σ.live⟩) e r Q := rfl
@[go_sem ↓] theorem opsW_bxL (d : Nat) (x : E) : opsW P e (⟨none, .bxL d x⟩ :: r) F σ Q = KW P (bxLW d F σ (cellsOf (F.va x))) e r Q := rfl
@[go_sem ↓] theorem opsW_bxH (d : Nat) (x : E) : opsW P e (⟨none, .bxH d x⟩ :: r) F σ Q = KW P (bxHW d F σ (cellsOf (F.va x))) e r Q := rfl
@[go_sem ↓] theorem opsW_bld (d : Nat) (z : List V) (ps : List (Nat × Nat × E)) : opsW P e (⟨none, .bld d z ps⟩ :: r) F σ Q = KW P (bldW d F σ (overs F (some z) ps)) e r Q := rfl
@[go_sem ↓] theorem opsW_lip (d : Nat) (s : Nat) (ps : List E) : opsW P e (⟨none, .lip d s ps⟩ :: r) F σ Q = KW P (lipW d F σ s (lits F s ps)) e r Q := rfl
@[go_sem ↓] theorem opsW_lit (d : Nat) (s : Nat) (ps : List E) : opsW P e (⟨none, .lit d s ps⟩ :: r) F σ Q = KW P (litW d F σ s (lits F s ps)) e r Q := rfl
@[go_sem ↓] theorem opsW_ld (d : Nat) (a : E) (n : Nat) (g : Bool) : opsW P e (⟨none, .ld d a n g⟩ :: r) F σ Q = KW P (ldW d F σ n g (F.ev a)) (see e (F.ev a).sees) r Q := rfl
@[go_sem ↓] theorem opsW_st (a : E) (x : E) (n : Nat) : opsW P e (⟨none, .st a x n⟩ :: r) F σ Q = KW P (stC F σ n (F.ev a) (cellsOf (F.va x))) e r Q := rfl
@[go_sem ↓] theorem opsW_se (a : E) (x : E) (n : Nat) : opsW P e (⟨none, .se a x n⟩ :: r) F σ Q = KW P (seC F σ n (F.va a) (cellsOf (F.va x))) e r Q := rfl
@[go_sem ↓] theorem opsW_nc (d : Nat) (x : E) : opsW P e (⟨none, .nc d x⟩ :: r) F σ Q = KW P (ncW d F σ (F.ev x)) e r Q := rfl
@[go_sem ↓] theorem opsW_bi (d : Nat) (op : BinOp) (x : E) (y : E) : opsW P e (⟨none, .bi d op x y⟩ :: r) F σ Q = KW P (bin d F σ op (F.va x) (F.va y)) e r Q := rfl
@[go_sem ↓] theorem opsW_bq (d : Nat) (ne : Bool) (k : EK) (x : E) (y : E) : opsW P e (⟨none, .bq d ne k x y⟩ :: r) F σ Q = KW P (bqW d F σ ne k (F.va x) (F.va y)) e r Q := rfl
@[go_sem ↓] theorem opsW_be (d : Nat) (ne : Bool) (lv : List LK) (x : E) (y : E) : opsW P e (⟨none, .be d ne lv x y⟩ :: r) F σ Q = KW P (beW d F σ ne lv (F.va x) (F.va y)) e r Q := rfl
@[go_sem ↓] theorem opsW_un (d : Nat) (op : UnOp) (x : E) : opsW P e (⟨none, .un d op x⟩ :: r) F σ Q = KW P (unW d F σ op (F.va x)) e r Q := rfl
@[go_sem ↓] theorem opsW_cI (d : Nat) (k : IntKind) (x : E) : opsW P e (⟨none, .cI d k x⟩ :: r) F σ Q = KW P (cIW d F σ k (F.va x)) e r Q := rfl
@[go_sem ↓] theorem opsW_cS (d : Nat) (x : E) : opsW P e (⟨none, .cS d x⟩ :: r) F σ Q = KW P (cSW d F σ (F.va x)) e r Q := rfl
@[go_sem ↓] theorem opsW_cT (d : Nat) (x : E) : opsW P e (⟨none, .cT d x⟩ :: r) F σ Q = KW P (cTW d F σ (F.va x)) e r Q := rfl
@[go_sem ↓] theorem opsW_cB (d : Nat) (x : E) : opsW P e (⟨none, .cB d x⟩ :: r) F σ Q = KW P (cBW d F σ (F.va x)) e r Q := rfl
@[go_sem ↓] theorem opsW_mf (d : Nat) (f : FuncId) (caps : List E) : opsW P e (⟨none, .mf d f caps⟩ :: r) F σ Q = KW P (.ok (F.set d (.v (.fn f (caps.map F.va)))) σ) e r Q := rfl
@[go_sem ↓] theorem opsW_mm (d : Nat) (lv : List LK) : opsW P e (⟨none, .mm d lv⟩ :: r) F σ Q = KW P (.ok (F.set d (.v (.map (some σ.objs.length)))) ⟨σ.objs ++ [.mp lv [] 0], σ.live⟩) e r Q := rfl
@[go_sem ↓] theorem opsW_ms (d : Nat) (z : List V) (n : E) (c : E) : opsW P e (⟨none, .ms d z n c⟩ :: r) F σ Q = KW P (msW d F σ z (F.va n) (F.va c)) e r Q := rfl
@[go_sem ↓] theorem opsW_sl (d : Nat) (n : Nat) (x : E) (lo : Option E) (hi : Option E) : opsW P e (⟨none, .sl d n x lo hi⟩ :: r) F σ Q = KW P (slW d F σ n (F.vaO lo) (F.vaO hi) (F.va x)) e r Q := rfl
@[go_sem ↓] theorem opsW_ss (d : Nat) (x : E) (lo : Option E) (hi : Option E) : opsW P e (⟨none, .ss d x lo hi⟩ :: r) F σ Q = KW P (ssW d F σ (F.vaO lo) (F.vaO hi) (F.va x)) e r Q := rfl
@[go_sem ↓] theorem opsW_fa (d : Nat) (x : E) (off : Nat) : opsW P e (⟨none, .fa d x off⟩ :: r) F σ Q = KW P (faW d F σ off (F.ev x)) e r Q := rfl
@[go_sem ↓] theorem opsW_fd (d : Nat) (x : E) (off : Nat) (n : Nat) (g : Bool) : opsW P e (⟨none, .fd d x off n g⟩ :: r) F σ Q = KW P (fdW d F σ off n g (F.va x)) e r Q := rfl
@[go_sem ↓] theorem opsW_ia (d : Nat) (x : E) (i : E) (s : Nat) : opsW P e (⟨none, .ia d x i s⟩ :: r) F σ Q = KW P (iaW d F σ s (F.va x) (F.va i)) e r Q := rfl
@[go_sem ↓] theorem opsW_iA (d : Nat) (x : E) (i : E) (s : Nat) (len : Nat) : opsW P e (⟨none, .iA d x i s len⟩ :: r) F σ Q = KW P (iAW d F σ s len (F.ev x) (F.va i)) e r Q := rfl
@[go_sem ↓] theorem opsW_ix (d : Nat) (x : E) (i : E) : opsW P e (⟨none, .ix d x i⟩ :: r) F σ Q = KW P (ixW d F σ (F.va x) (F.va i)) e r Q := rfl
@[go_sem ↓] theorem opsW_lk (d : Nat) (lv : List LK) (m : E) (k : E) (ok : Bool) (z : V) : opsW P e (⟨none, .lk d lv m k ok z⟩ :: r) F σ Q = KW P (lkW d F σ lv (F.va k) ok z (F.va m)) (see e (F.ev m).sees) r Q := rfl
@[go_sem ↓] theorem opsW_mu (lv : List LK) (m : E) (k : E) (v : E) : opsW P e (⟨none, .mu lv m k v⟩ :: r) F σ Q = KW P (muW F σ lv (F.va k) (F.va v) (F.va m)) e r Q := rfl
/-- append where a row stands. -/
def AoK (P : Program) (d s : Nat) (row : Bool) (x y : V) (F : Fr) (σ : St) (e : Option (List Nat)) (r : List GO) (Q : X → Fr → St → Prop) : Prop := AoV σ s row x y fun v σ' => Kept e σ σ' ∧ opsW P e r (F.set d (.v v)) σ' Q
@[go_sem ↓] theorem opsW_ao (d s : Nat) (row : Bool) (x y : E) : opsW P e (⟨none, .ao d s row x y⟩ :: r) F σ Q = AoK P d s row (F.va x) (F.va y) F σ e r Q := rfl
theorem ao_at {d s : Nat} {row : Bool} {x y : V} {K : V → St → Prop} (h : AoV σ s row x y K) (hk : ∀ v σ', K v σ' → Kept e σ σ' ∧ opsW P e r (F.set d (.v v)) σ' Q) : AoK P d s row x y F σ e r Q := AoV.mono h hk
@[go_sem ↓] theorem opsW_cm (d : Option Nat) (f : FuncId) (xs : List E) : opsW P e (⟨none, .cm d f xs⟩ :: r) F σ Q = CmK P f (xs.map F.va) d F σ e r Q := rfl
theorem cm_at {f : FuncId} {q s : Nat} {es : List (List V)} {xs : List V} {d : Option Nat} {K : V → Nat → List (List V) → St → Prop} (h : CallM P f (.sl false (.own q) s es :: xs) q s es σ K)
    (hk : ∀ v r' es' σ', K v r' es' σ' → Kept e σ σ' ∧ opsW P e r (setO ⟨renL q r' s es' F.s, F.l⟩ d v) σ' Q) : CmK P f (.sl false (.own q) s es :: xs) d F σ e r Q := h.mono hk
@[go_sem ↓] theorem opsW_rg (d : Nat) (x : E) : opsW P e (⟨none, .rg d x⟩ :: r) F σ Q = KW P (rgW d F σ (F.va x)) e r Q := rfl
@[go_sem ↓] theorem opsW_en (d : Nat) (x : E) : opsW P e (⟨none, .en d x⟩ :: r) F σ Q = KW P (enW d F σ (F.va x)) e r Q := rfl
@[go_sem ↓] theorem opsW_es (lv : List LK) (m s v : E) : opsW P e (⟨none, .es lv m s v⟩ :: r) F σ Q = KW P (esW F σ lv (F.va v) (F.va m) (F.va s)) e r Q := rfl
@[go_sem ↓] theorem opsW_nx (d : Nat) (x : E) : opsW P e (⟨none, .nx d x⟩ :: r) F σ Q = NxK P d (F.va x) F σ e r Q := rfl
@[go_sem ↓] theorem opsW_me (d : Nat) (lv : List LK) (m k : E) (z : V) : opsW P e (⟨none, .me d lv m k z⟩ :: r) F σ Q = MeK P d lv (F.va k) z (F.va m) F σ e r Q := rfl
theorem nx_at {d j : Nat} {m : Nat × Nat} {left : List (V × V)} {cur : Option (V × V)} (ho : σ.objs[j]? = some (.it (some m) left cur)) (hv : isV (σ.objs[m.1]?) m.2)
    (h0 : left = [] → opsW P e r (F.set d (.v (.tup [.bool false]))) σ Q) (h1 : ∀ a x b, left = a ++ x :: b → opsW P e r (F.set d (.v (.tup [.bool true, x.1, x.2]))) (σ.setA j (.it (some m) (a ++ b) (some x))) Q) :
    NxK P d (.ptr (some (j, 0))) F σ e r Q := by
  show nxO d j F σ (fun F' σ' => opsW P e r F' σ' Q) (σ.objs[j]?)
  rw [ho]
  exact ⟨hv, h0, h1⟩
@[go_sem ↓] theorem opsW_ex (d : Nat) (x : E) (i : Nat) : opsW P e (⟨none, .ex d x i⟩ :: r) F σ Q = KW P (exW d F σ i (F.va x)) e r Q := rfl
@[go_sem ↓] theorem opsW_ap (d : Nat) (s : Nat) (x : E) (y : E) : opsW P e (⟨none, .ap d s x y⟩ :: r) F σ Q = KW P (apW d F σ s (F.va y) (F.va x)) e r Q := rfl
@[go_sem ↓] theorem opsW_ln (d : Nat) (k : EK) (x : E) : opsW P e (⟨none, .ln d k x⟩ :: r) F σ Q = KW P (lnW d F σ k (F.va x)) (see e (F.ev x).sees) r Q := rfl
@[go_sem ↓] theorem opsW_mx (d : Nat) (x : E) (y : E) : opsW P e (⟨none, .mx d x y⟩ :: r) F σ Q = KW P (mxW d F σ (F.va x) (F.va y)) e r Q := rfl
@[go_sem ↓] theorem opsW_mn (d : Nat) (x : E) (y : E) : opsW P e (⟨none, .mn d x y⟩ :: r) F σ Q = KW P (mnW d F σ (F.va x) (F.va y)) e r Q := rfl
@[go_sem ↓] theorem opsW_de (lv : List LK) (m : E) (k : E) : opsW P e (⟨none, .de lv m k⟩ :: r) F σ Q = KW P (deW F σ lv (F.va k) (F.va m)) e r Q := rfl
@[go_sem ↓] theorem opsW_ca (d : Option Nat) (f : FuncId) (xs : List E) : opsW P e (⟨none, .ca d f xs⟩ :: r) F σ Q = CallK P f (xs.map F.va) d F σ e r Q := rfl
@[go_sem ↓] theorem opsW_cv (d : Option Nat) (f : E) (xs : List E) : opsW P e (⟨none, .cv d f xs⟩ :: r) F σ Q = CallV P (F.va f) (xs.map F.va) d F σ e r Q := rfl
@[go_sem ↓] theorem opsW_g (g : Nat) (b : Bool) (o : O) : opsW P e (⟨some (g, b), o⟩ :: r) F σ Q = GW P (F.va (.t g)) b o F σ e r Q := by
  cases o <;> rfl
@[go_sem] theorem opsW_nil : opsW P e [] F σ Q = Q .normal F σ := rfl
@[go_sem] theorem KW_ok : KW P (.ok F σ) e r Q = opsW P e r F σ Q := rfl
@[go_sem] theorem KW_need {p : Prop} : KW P (.need p F σ) e r Q = (p ∧ opsW P e r F σ Q) := rfl
theorem GW_b {c b : Bool} {o : O} : GW P (.bool c) b o F σ e r Q = ((c = b → opsW P e (⟨none, o⟩ :: r) F σ Q) ∧ (c ≠ b → opsW P e r (setO F o.dst (.tup [])) σ Q)) := by
  simp [GW]
theorem GW_c {c b : Bool} {o : O} (h1 : c = true → GW P (.bool true) b o F σ e r Q) (h2 : c = false → GW P (.bool false) b o F σ e r Q) : GW P (.bool c) b o F σ e r Q := by
  cases c
  · exact h2 rfl
  · exact h1 rfl
@[go_sem] theorem GW_u {b : Bool} {o : O} : GW P (.tup []) b o F σ e r Q = opsW P e r (setO F o.dst (.tup [])) σ Q := by simp [GW]
@[go_sem] theorem GW_tt {o : O} : GW P (.bool true) true o F σ e r Q = opsW P e (⟨none, o⟩ :: r) F σ Q := by simp [GW]
@[go_sem] theorem GW_ff {o : O} : GW P (.bool false) false o F σ e r Q = opsW P e (⟨none, o⟩ :: r) F σ Q := by simp [GW]
@[go_sem] theorem GW_tf {o : O} : GW P (.bool true) false o F σ e r Q = opsW P e r (setO F o.dst (.tup [])) σ Q := by simp [GW]
@[go_sem] theorem GW_ft {o : O} : GW P (.bool false) true o F σ e r Q = opsW P e r (setO F o.dst (.tup [])) σ Q := by simp [GW]
@[go_sem ↓] theorem CW_skip : C.W P .skip F σ (conts P Q k) = conts P Q k .normal F σ := rfl
@[go_sem ↓] theorem CW_ops (l : List GO) : C.W P (.ops l) F σ (conts P Q k) = opsW P none l F σ (conts P Q k) := rfl
@[go_sem ↓] theorem CW_opsD (l : List GO) : C.W P (.opsD l) F σ (conts P Q k) = opsW P (some []) l F σ (conts P Q k) := rfl
@[go_sem ↓] theorem CW_opsE (l m : List GO) : C.W P (.opsE l m) F σ (conts P Q k) = (opsW P (some []) l F σ (conts P Q k) ∧ opsW P (some []) m F σ (conts P Q k)) := rfl
@[go_sem ↓] theorem CW_seq (a b : C) : C.W P (.seq a b) F σ (conts P Q k) = C.W P a F σ (conts P Q (.seq b :: k)) := by
  simp only [C.W]; congr
@[go_sem ↓] theorem CW_exit (i : Nat) : C.W P (.exit i) F σ (conts P Q k) = conts P Q k (.exit i) F σ := rfl
@[go_sem ↓] theorem CW_ret : C.W P .ret F σ (conts P Q k) = conts P Q k .ret F σ := rfl
@[go_sem ↓] theorem CW_block (i : Nat) (c : C) : C.W P (.block i c) F σ (conts P Q k) = C.W P c F σ (conts P Q (.block i :: k)) := by
  simp only [C.W]; congr
@[go_sem ↓] theorem CW_cond (x : E) (a b : C) : C.W P (.cond x a b) F σ (conts P Q k) = CondW P (F.va x) a b F σ k Q := rfl
@[go_sem ↓] theorem CW_loop (c : C) : C.W P (.loop c) F σ (conts P Q k) = LoopW P c F σ k Q := rfl
@[go_sem] theorem CondW_t (a b : C) : CondW P (.bool true) a b F σ k Q = a.W P F σ (conts P Q k) := by simp [CondW]
@[go_sem] theorem CondW_f (a b : C) : CondW P (.bool false) a b F σ k Q = b.W P F σ (conts P Q k) := by simp [CondW]
theorem CondW_b {c : Bool} {a b : C} (h1 : c = true → a.W P F σ (conts P Q k)) (h2 : c = false → b.W P F σ (conts P Q k)) : CondW P (.bool c) a b F σ k Q := ⟨c, rfl, h1, h2⟩
@[go_sem ↓] theorem conts_nil (x : X) : conts P Q [] x F σ = Q x F σ := rfl
@[go_sem ↓] theorem conts_seq_n (b : C) : conts P Q (.seq b :: k) .normal F σ = b.W P F σ (conts P Q k) := rfl
@[go_sem ↓] theorem conts_seq_e (b : C) (i : Nat) : conts P Q (.seq b :: k) (.exit i) F σ = conts P Q k (.exit i) F σ := rfl
@[go_sem ↓] theorem conts_seq_r (b : C) : conts P Q (.seq b :: k) .ret F σ = conts P Q k .ret F σ := rfl
@[go_sem ↓] theorem conts_cut_e (b : C) (i : Nat) : conts P Q (.cut b :: k) (.exit i) F σ = conts P Q k (.exit i) F σ := rfl
@[go_sem ↓] theorem conts_cut_r (b : C) : conts P Q (.cut b :: k) .ret F σ = conts P Q k .ret F σ := rfl
@[go_sem ↓] theorem conts_block_n (i : Nat) : conts P Q (.block i :: k) .normal F σ = conts P Q k .normal F σ := rfl
@[go_sem ↓] theorem conts_block_r (i : Nat) : conts P Q (.block i :: k) .ret F σ = conts P Q k .ret F σ := rfl
@[go_sem ↓] theorem conts_block_e (i j : Nat) : conts P Q (.block i :: k) (.exit j) F σ = (if j = i then conts P Q k .normal F σ else conts P Q k (.exit j) F σ) := rfl

theorem W_mono {c : C} : ∀ {F : Fr} {σ : St} {Q Q' : X → Fr → St → Prop}, c.W P F σ Q → (∀ x F σ, Q x F σ → Q' x F σ) → c.W P F σ Q' := by
  induction c with
  | skip => intro F σ Q Q' h hq; exact hq _ _ _ h
  | ops l => intro F σ Q Q' h hq; exact opsW_mono (fun F σ h => hq _ _ _ h) h
  | opsD l => intro F σ Q Q' h hq; exact opsW_mono (fun F σ h => hq _ _ _ h) h
  | opsE l m => intro F σ Q Q' h hq; exact ⟨opsW_mono (fun F σ h => hq _ _ _ h) h.1, opsW_mono (fun F σ h => hq _ _ _ h) h.2⟩
  | exit i => intro F σ Q Q' h hq; exact hq _ _ _ h
  | ret => intro F σ Q Q' h hq; exact hq _ _ _ h
  | range _ _ _ _ _ _ =>
    intro F σ Q Q' h hq
    obtain ⟨g, caps, h1, h2⟩ := h
    refine ⟨g, caps, h1, fun l r0 r1 r2 r3 hy => (h2 l r0 r1 r2 r3 hy).mono ?_⟩
    rintro _ σ' (⟨k1, k2⟩ | ⟨y, k0, k1, k2⟩)
    · exact .inl ⟨k1, hq _ _ _ k2⟩
    · exact .inr ⟨y, k0, k1, hq _ _ _ k2⟩
  | cond x a b iha ihb =>
    intro F σ Q Q' h hq
    obtain ⟨c, h1, h2, h3⟩ := h
    exact ⟨c, h1, fun e => iha (h2 e) hq, fun e => ihb (h3 e) hq⟩
  | seq a b iha ihb =>
    intro F σ Q Q' h hq
    refine iha h fun x F σ hx => ?_
    cases x with
    | normal => exact ihb hx hq
    | exit i => exact hq _ _ _ hx
    | ret => exact hq _ _ _ hx
  | cut a b iha ihb =>
    intro F σ Q Q' h hq
    obtain ⟨R, h1, h2⟩ := h
    refine ⟨R, iha h1 fun x F σ hx => ?_, fun G σ hr => ihb (h2 G σ hr) hq⟩
    cases x with
    | normal => exact hx
    | exit i => exact hq _ _ _ hx
    | ret => exact hq _ _ _ hx
  | block i c ih =>
    intro F σ Q Q' h hq
    refine ih h fun x F σ hx => ?_
    cases x with
    | normal => exact hq _ _ _ hx
    | exit j =>
      simp only at hx ⊢
      split
      · rename_i e; rw [if_pos e] at hx; exact hq _ _ _ hx
      · rename_i e; rw [if_neg e] at hx; exact hq _ _ _ hx
    | ret => exact hq _ _ _ hx
  | loop c ih =>
    intro F σ Q Q' h hq
    obtain ⟨α, fr, inv, m, x0, h1, h2, h3⟩ := h
    refine ⟨α, fr, inv, m, x0, h1, h2, fun x σ hi => ih (h3 x σ hi) fun y F σ hy => ?_⟩
    cases y with
    | normal => exact hy
    | exit i => exact hq _ _ _ hy
    | ret => exact hq _ _ _ hy

/-- Where ways meet, both go on. -/
theorem cut_dup {a b : C} (h : C.W P a F σ (conts P Q (.seq b :: k))) : C.W P (.cut a b) F σ (conts P Q k) := by
  refine ⟨fun G σ' => b.W P G σ' (conts P Q k), ?_, fun _ _ h => h⟩
  refine W_mono h fun x F' σ' hx => ?_
  cases x with
  | normal => exact ⟨F', FrLe.refl F', hx⟩
  | exit i => exact hx
  | ret => exact hx

/-- A cut: what is known where the ways meet. -/
theorem cut_at {a b : C} (R : Fr → St → Prop) (h : ∀ Z : X → Fr → St → Prop, (∀ G F' σ', FrLe G F' → R G σ' → Z .normal F' σ') → (∀ i F' σ', conts P Q k (.exit i) F' σ' → Z (.exit i) F' σ') →
      (∀ F' σ', conts P Q k .ret F' σ' → Z .ret F' σ') → C.W P a F σ (conts P Z [])) (hb : ∀ G σ', R G σ' → b.W P G σ' (conts P Q k)) : C.W P (.cut a b) F σ (conts P Q k) :=
  ⟨R, W_mono (h (fun x F' σ' => match x with
    | .normal => ∃ G, FrLe G F' ∧ R G σ'
    | x => conts P Q k x F' σ') (fun G F' σ' h1 h2 => ⟨G, h1, h2⟩) (fun _ _ _ h => h) (fun _ _ h => h)) (fun x F σ h => by cases x <;> exact h), hb⟩

/-- A loop. -/
theorem loop_at {c : C} {α : Type} (fr : α → Fr) (inv : α → St → Prop) (m : α → Nat) (x0 : α) (h0 : FrLe (fr x0) F) (h1 : inv x0 σ)
    (hr : ∀ x σ, inv x σ → ∀ Z : X → Fr → St → Prop, (∀ x' F' σ', FrLe (fr x') F' → m x' < m x → inv x' σ' → Z .normal F' σ') → (∀ i F' σ', conts P Q k (.exit i) F' σ' → Z (.exit i) F' σ') →
      (∀ F' σ', conts P Q k .ret F' σ' → Z .ret F' σ') → c.W P (fr x) σ (conts P Z [])) : LoopW P c F σ k Q := by
  refine ⟨α, fr, inv, m, x0, h0, h1, fun x σ hi => W_mono (hr x σ hi (fun y F' σ' => match y with
      | .normal => ∃ x', m x' < m x ∧ FrLe (fr x') F' ∧ inv x' σ'
      | y => conts P Q k y F' σ') (fun x' F' σ' h1 h2 h3 => ⟨x', h2, h1, h3⟩) (fun _ _ _ h => h) (fun _ _ h => h)) fun y F' σ' hy => ?_⟩
  cases y <;> exact hy

/-- A call. -/
theorem call_at {f : FuncId} {xs : List V} {d : Option Nat} {l : List GO} {K : V → St → Prop} (h : CallA P f xs σ K) (hk : ∀ v σ', K v σ' → Kept e σ σ' ∧ opsW P e l (setO F d v) σ' Q) :
    CallK P f xs d F σ e l Q := CallA.mono h hk

/-- A range over a function: its rounds, walked; what the function comes to. -/
theorem range_at {g : FuncId} {caps : List V} {ps : List Nat} {a b : C}
    (h : ∀ (l i : Nat) (r0 r1 : AObj) (r2 r3 : X → AObj), σ.objs.length = i →
      (∀ τ args K, τ.objs[i]? = some r0 → args.length = ps.length →
        (∀ Z : X → Fr → St → Prop, (∀ F1 τ1, τ1.objs[i]? = some r0 →
            (∀ Y : X → Fr → St → Prop, (∀ F2 τ2, τ2.objs[i]? = some r1 → K (.bool true) (τ2.setA i r0) → Y .normal F2 τ2) →
              (∀ j F2 τ2, τ2.objs[i]? = some r1 → K (.bool false) (τ2.setA i (r2 (.exit j))) → Y (.exit j) F2 τ2) →
              (∀ F2 τ2, τ2.objs[i]? = some r1 → K (.bool false) (τ2.setA i (r2 .ret)) → Y .ret F2 τ2) → b.W P F1 (τ1.setA i r1) (conts P Y [])) → Z .normal F1 τ1) →
          a.W P (rndF F ps args) τ (conts P Z [])) → YldA P l args τ K) →
      CallA P g (yv l :: caps) ⟨σ.objs ++ [r0], σ.live⟩ fun _ σ' =>
        (σ'.objs[i]? = some r0 ∧ conts P Q k .normal F (σ'.setA i (r3 .normal))) ∨ ∃ y, y ≠ .normal ∧ σ'.objs[i]? = some (r2 y) ∧ conts P Q k y F (σ'.setA i (r3 y))) :
    RangeW P (.fn g caps) ps a b F σ k Q := by
  refine ⟨g, caps, rfl, fun l r0 r1 r2 r3 hy => h l σ.objs.length r0 r1 r2 r3 rfl fun τ args K h1 h2 hW => hy τ args K h1 h2 ?_⟩
  refine W_mono (hW (fun x F1 τ1 => x = .normal ∧ τ1.objs[σ.objs.length]? = some r0 ∧ b.W P F1 (τ1.setA σ.objs.length r1) fun y _ τ2 => τ2.objs[σ.objs.length]? = some r1 ∧ match y with
          | .normal => K (.bool true) (τ2.setA σ.objs.length r0)
          | y => K (.bool false) (τ2.setA σ.objs.length (r2 y))) fun F1 τ1 ho hb => ⟨rfl, ho, ?_⟩) fun _ _ _ h => h
  exact W_mono (hb (fun y _ τ2 => τ2.objs[σ.objs.length]? = some r1 ∧ match y with
          | .normal => K (.bool true) (τ2.setA σ.objs.length r0)
          | y => K (.bool false) (τ2.setA σ.objs.length (r2 y))) (fun _ _ h k => ⟨h, k⟩) (fun _ _ _ h k => ⟨h, k⟩) (fun _ _ h k => ⟨h, k⟩)) fun _ _ _ h => h

/-- A function's contract. -/
theorem fn_at {f : FuncId} {fn : Func} {xs : List V} {ts : List RV} {c : C} {K : V → St → Prop} {loc : List Nat} (hf : P.funcs[f]? = some fn) (hnm : (fn.name == "runtime.NumGoroutine") = false)
    (hc : compFn P loc fn = some (ts, c)) (hx : Nat.ble xs.length fn.ntmps = true)
    (h : ∀ Q : X → Fr → St → Prop, (∀ F σ', retW F σ' (fun v => K v σ') ts [] → Q .normal F σ') → (∀ F σ', retW F σ' (fun v => K v σ') ts [] → Q .ret F σ') → c.W P (inFr xs) σ (conts P Q [])) : CallA P f xs σ K := by
  refine fn_call hf hnm hc (Nat.le_of_ble_eq_true hx) (W_mono (h (fun x F σ' => match x with
      | .exit _ => False
      | _ => retW F σ' (fun v => K v σ') ts []) (fun _ _ h => h) (fun _ _ h => h)) fun x F σ' hx => ?_)
  cases x <;> exact hx
end
end Go.VL

namespace Go.VL
open Go

theorem beq_nat (a b : Nat) : Nat.beq a b = (a == b) := by
  cases h : Nat.beq a b with
  | true => simp [Nat.eq_of_beq_eq_true h]
  | false => simp [Nat.ne_of_beq_eq_false h]
theorem ble_nat (a b : Nat) : Nat.ble a b = decide (a ≤ b) := by
  cases h : Nat.ble a b with
  | true => simp [Nat.le_of_ble_eq_true h]
  | false =>
    have : ¬ a ≤ b := fun x => by rw [Nat.ble_eq_true_of_le x] at h; cases h
    simp [this]
theorem setC_get {σ : St} {i : Nat} {cs : List V} (h : i < σ.objs.length) : (σ.setC i cs).objs[i]? = some (.cells cs) := by simp [St.setC, h]
theorem setC_setC {σ : St} {i : Nat} {a b : List V} : (σ.setC i a).setC i b = σ.setC i b := by simp [St.setC]
section
variable {r r' s : Nat} {es : List (List V)}
@[go_sem] theorem renV_own (q t : Nat) (l : List (List V)) : renV r r' s es (.sl false (.own q) t l) = bif Nat.beq q r then .sl false (.own r') s es else .sl false (.own q) t l := rfl
@[go_sem] theorem renV_pub (b : Bool) (t : Nat) (l : List (List V)) : renV r r' s es (.sl b .pub t l) = .sl b .pub t l := by cases b <;> rfl
@[go_sem] theorem renV_view (b : Bool) (q t : Nat) (l : List (List V)) : renV r r' s es (.sl b (.view q) t l) = .sl b (.view q) t l := by cases b <;> rfl
@[go_sem] theorem renV_nil (R : R) (t : Nat) (l : List (List V)) : renV r r' s es (.sl true R t l) = .sl true R t l := by cases R <;> rfl
@[go_sem] theorem renV_elt (R : R) (t i o : Nat) (l : List (List V)) : renV r r' s es (.elt R t l i o) = .elt R t l i o := rfl
@[go_sem] theorem renV_int (k : IntKind) (n : Int) : renV r r' s es (.int k n) = .int k n := rfl
@[go_sem] theorem renV_bool (b : Bool) : renV r r' s es (.bool b) = .bool b := rfl
@[go_sem] theorem renV_str (x : List UInt8) : renV r r' s es (.str x) = .str x := rfl
@[go_sem] theorem renV_agg (x : List V) : renV r r' s es (.agg x) = .agg x := rfl
@[go_sem] theorem renV_tup (x : List V) : renV r r' s es (.tup x) = .tup x := rfl
@[go_sem] theorem renV_ptr (x : Option (Nat × Nat)) : renV r r' s es (.ptr x) = .ptr x := rfl
@[go_sem] theorem renV_map (x : Option Nat) : renV r r' s es (.map x) = .map x := rfl
@[go_sem] theorem renV_fn (f : FuncId) (x : List V) : renV r r' s es (.fn f x) = .fn f x := rfl
@[go_sem] theorem renV_nilf : renV r r' s es .nilf = .nilf := rfl
@[go_sem] theorem renV_bad : renV r r' s es .bad = .bad := rfl
@[go_sem] theorem renV_osl (j n c z : Nat) : renV r r' s es (.osl j n c z) = .osl j n c z := rfl
@[go_sem] theorem renS_own (q t : Nat) (l : List (List V)) : renS r r' s es (.v (.sl false (.own q) t l)) = bif Nat.beq q r then .v (.sl false (.own r') s es) else .v (.sl false (.own q) t l) := rfl
@[go_sem] theorem renS_eown (q t i o : Nat) (l : List (List V)) : renS r r' s es (.v (.elt (.own q) t l i o)) = bif Nat.beq q r then .v (.elt (.own r') s es i o) else .v (.elt (.own q) t l i o) := rfl
@[go_sem] theorem renS_pub (b : Bool) (t : Nat) (l : List (List V)) : renS r r' s es (.v (.sl b .pub t l)) = .v (.sl b .pub t l) := by cases b <;> rfl
@[go_sem] theorem renS_view (b : Bool) (q t : Nat) (l : List (List V)) : renS r r' s es (.v (.sl b (.view q) t l)) = .v (.sl b (.view q) t l) := by cases b <;> rfl
@[go_sem] theorem renS_nil (R : R) (t : Nat) (l : List (List V)) : renS r r' s es (.v (.sl true R t l)) = .v (.sl true R t l) := by cases R <;> rfl
@[go_sem] theorem renS_epub (t i o : Nat) (l : List (List V)) : renS r r' s es (.v (.elt .pub t l i o)) = .v (.elt .pub t l i o) := rfl
@[go_sem] theorem renS_eview (q t i o : Nat) (l : List (List V)) : renS r r' s es (.v (.elt (.view q) t l i o)) = .v (.elt (.view q) t l i o) := rfl
@[go_sem] theorem renS_loc (k o : Nat) : renS r r' s es (.loc k o) = .loc k o := rfl
@[go_sem] theorem renS_int (k : IntKind) (n : Int) : renS r r' s es (.v (.int k n)) = .v (.int k n) := rfl
@[go_sem] theorem renS_bool (b : Bool) : renS r r' s es (.v (.bool b)) = .v (.bool b) := rfl
@[go_sem] theorem renS_str (x : List UInt8) : renS r r' s es (.v (.str x)) = .v (.str x) := rfl
@[go_sem] theorem renS_agg (x : List V) : renS r r' s es (.v (.agg x)) = .v (.agg x) := rfl
@[go_sem] theorem renS_tup (x : List V) : renS r r' s es (.v (.tup x)) = .v (.tup x) := rfl
@[go_sem] theorem renS_ptr (x : Option (Nat × Nat)) : renS r r' s es (.v (.ptr x)) = .v (.ptr x) := rfl
@[go_sem] theorem renS_map (x : Option Nat) : renS r r' s es (.v (.map x)) = .v (.map x) := rfl
@[go_sem] theorem renS_fn (f : FuncId) (x : List V) : renS r r' s es (.v (.fn f x)) = .v (.fn f x) := rfl
@[go_sem] theorem renS_nilf : renS r r' s es (.v .nilf) = .v .nilf := rfl
@[go_sem] theorem renS_bad : renS r r' s es (.v .bad) = .v .bad := rfl
end
@[go_sem] theorem toView_pub : R.toView .pub = .pub := rfl
@[go_sem] theorem toView_own (r : Nat) : R.toView (.own r) = .view r := rfl
@[go_sem] theorem toView_view (r : Nat) : R.toView (.view r) = .view r := rfl
attribute [go_sem] Option.isNone_some Option.isNone_none Bool.not_true Bool.not_false keyFits fits LK.fits see V.sees S.sees ble_nat setC_setC decide_true decide_false List.take_zero List.take_succ_cons List.take_nil beq_nat Fr.set Fr.ev Fr.va S.val sget sset lget lset Fr.setL Fr.newL sdrop setO O.dst inFr numbered Fr.vaO
  bin iibin ibin sbin bqW unW beW pkB pkW overC overs bldW cellsOf V.flat flats lits litW lipW bxLW bxHW ldC ldL ldO Res.also ldV ldW stL stO stV stW stC ncW cIW cSW cTW cBW faW fdW iaW iAV iAW ixW
  renL renF seO seV seC cond_true cond_false if_true if_false ite_true ite_false List.drop_zero List.length_cons List.length_nil Bool.and_true Bool.true_and Bool.and_false Bool.false_and List.drop_succ_cons List.map_cons List.map_nil List.nil_append List.cons_append lkR lkO lkW muO muW deO deW exW apE apR apW lnO lnW mxW mnW bndN slB ssB bnd0 slW ssW msW retV retW resK over sLe lLe rgW rgO enW enO esW esO
end Go.VL

namespace Go.VL
open Go

/-- A slice that may be read. -/
def RdS (σ : St) (v : V) (s : Nat) (es : List (List V)) : Prop := ∃ b r s', v = .sl b r s' es ∧ (b = true → es = []) ∧ (b = true ∨ rd σ.live r ∧ s' = s)
def intsV (k : IntKind) (l : List Int) : List (List V) := l.map fun n => [V.int k n]

theorem RdS.ext {σ τ : St} {v : V} {s : Nat} {es : List (List V)} (h : RdS σ v s es) (he : Ext σ τ) : RdS τ v s es := by
  obtain ⟨b, r, s', h1, h2, h3⟩ := h
  exact ⟨b, r, s', h1, h2, h3.imp_right fun x => ⟨rd_ext he x.1, x.2⟩⟩

theorem intsV_get {k : IntKind} {l : List Int} {i : Nat} (h : i < l.length) : (intsV k l)[((i : Nat) : Int).toNat]?.getD [] = [V.int k l[i]] := by
  simp [intsV, h]
theorem bytesV_get {l : List UInt8} {i : Nat} (h : i < l.length) : (bytesV l)[((i : Nat) : Int).toNat]?.getD [] = [V.int .u8 l[i].toNat] := by
  simp [bytesV, h]
theorem intsV_length (k : IntKind) (l : List Int) : (intsV k l).length = l.length := by simp [intsV]

/-- A slice that is owned, and new since a state. -/
def NewS (σ σ' : St) (v : V) (s : Nat) (es : List (List V)) : Prop := ∃ r, v = .sl false (.own r) s es ∧ σ'.live[r]? = some true ∧ σ.live.length ≤ r

theorem NewS.rd {σ σ' : St} {v : V} {s : Nat} {es : List (List V)} (h : NewS σ σ' v s es) : RdS σ' v s es := by
  obtain ⟨r, rfl, h1, _⟩ := h
  exact ⟨false, .own r, s, rfl, by simp, .inr ⟨h1, rfl⟩⟩
theorem NewS.ext {σ σ' τ : St} {v : V} {s : Nat} {es : List (List V)} (h : NewS σ σ' v s es) (he : Ext σ' τ) : NewS σ τ v s es := by
  obtain ⟨r, h0, h1, h2⟩ := h
  exact ⟨r, h0, he.live _ h1, h2⟩

/-- A right that is new has gone, another one has come. -/
theorem ext_kill {σ σ' : St} (h : Ext σ σ') {r : Nat} (hr : σ.live.length ≤ r) {b : Bool} : Ext σ ⟨σ'.objs, σ'.live.set r false ++ [b]⟩ :=
  ⟨h.objs, fun i hi => by
    have h1 := (List.getElem?_eq_some_iff.1 hi).1
    have h2 := h.live i hi
    have h3 := (List.getElem?_eq_some_iff.1 h2).1
    rw [List.getElem?_append_left (by simpa using h3), List.getElem?_set_ne (by omega)]
    exact h2, h.olen, by simp; have := h.llen; omega⟩
theorem ext_push {σ σ' : St} (h : Ext σ σ') {b : Bool} : Ext σ ⟨σ'.objs, σ'.live ++ [b]⟩ := h.trans (ext_live _ _)
/-- What is older than a right is not renamed with it. -/
theorem renS_old {σ : St} {b : Bool} {R : R} {z n r r' s : Nat} {es l : List (List V)} (h : RdS σ (.sl b R z l) n l) (hr : σ.live.length ≤ r) : renS r r' s es (.v (.sl b R z l)) = .v (.sl b R z l) := by
  obtain ⟨_, _, _, e, _, h2⟩ := h
  cases e
  rcases h2 with rfl | h2
  · exact renS_nil _ _ _
  · cases R with
    | pub => exact renS_pub _ _ _
    | view q => exact renS_view _ _ _ _
    | own q =>
      cases b with
      | true => exact renS_nil _ _ _
      | false =>
        have h3 : σ.live[q]? = some true := h2.1
        have := (List.getElem?_eq_some_iff.1 h3).1
        have h4 : Nat.beq q r = false := by
          rw [beq_nat]
          simp
          omega
        simp [renS_own, h4]
theorem live_last (l : List Bool) (b : Bool) : (l ++ [b])[l.length]? = some b := by simp
theorem live_last' (l : List Bool) (r : Nat) (b : Bool) : (l.set r false ++ [b])[l.length]? = some b := by
  rw [List.getElem?_append_right (by simp)]; simp

theorem byte1 (n : Int) (h : 0 ≤ n ∧ n ≤ 255) : [[V.int .u8 n]] = bytesV [UInt8.ofNat n.toNat] := by
  have : ((UInt8.ofNat n.toNat).toNat : Int) = n := by
    rw [UInt8.toNat_ofNat']; omega
  simp only [bytesV, List.map_cons, List.map_nil, this]

end Go.VL

namespace Go.VL
open Go

theorem RdS.setC {σ : St} {v : V} {s i : Nat} {es : List (List V)} {cs : List V} (h : RdS σ v s es) : RdS (σ.setC i cs) v s es := by
  obtain ⟨b, r, s', h1, h2, h3⟩ := h
  refine ⟨b, r, s', h1, h2, h3.imp_right fun x => ⟨?_, x.2⟩⟩
  have := x.1
  cases r <;> exact this
theorem ext_set {σ σ' : St} (h : Ext σ σ') {i : Nat} (hi : σ.objs.length ≤ i) {cs : List V} : Ext σ (σ'.setC i cs) :=
  ⟨fun j o hj => by
    have h1 := (List.getElem?_eq_some_iff.1 hj).1
    show (σ'.objs.set i _)[j]? = some o
    rw [List.getElem?_set_ne (by omega)]
    exact h.objs _ _ hj, h.live, by
    show σ.objs.length ≤ (σ'.objs.set i _).length
    rw [List.length_set]; exact h.olen, h.llen⟩
theorem rdl {τ : St} {b : Bool} {r : R} {s n : Nat} {es : List (List V)} (h : RdS τ (.sl b r s es) n es) (hne : es ≠ []) : rd τ.live r ∧ s = n := by
  obtain ⟨b', r', s', e, h1, h2⟩ := h
  cases e
  exact h2.resolve_left fun hb => hne (h1 hb)
theorem rd_src {τ : St} {b : Bool} {r : R} {s n : Nat} {es : List (List V)} (h : RdS τ (.sl b r s es) n es) : (b = true ∨ rd τ.live r) ∧ (s = n ∨ es = []) := by
  obtain ⟨b', r', s', e, h1, h2⟩ := h
  cases e
  rcases h2 with h2 | h2
  · exact ⟨.inl h2, .inr (h1 h2)⟩
  · exact ⟨.inr h2.1, .inl h2.2⟩

namespace Go.VL.st
open Go Go.VL

structure Sp where
  c : Int
  r : Int
  deriving DecidableEq
def zs : Sp := ⟨0, 0⟩
theorem sp_iff {a b : Sp} : a = b ↔ a.c = b.c ∧ a.r = b.r := by
  cases a; cases b; simp
theorem sp_dec (a b : Sp) : decide (a = b) = (decide (a.c = b.c) && decide (a.r = b.r)) := by
  rw [Bool.eq_iff_iff]; simp [sp_iff]
def spC (s : Sp) : List V := [.int .i64 s.c, .int .i64 s.r]
def spV (s : Sp) : V := .agg (spC s)
theorem sp_eqs (a b : Sp) : V.eqs [.int .i64 a.c, .int .i64 a.r] [.int .i64 b.c, .int .i64 b.r] = decide (a = b) := by
  simp [V.eqs, V.eq, sp_dec]
def right (s : Sp) : Bool := decide (1 ≤ s.c) && (decide (s.c ≤ 1099511627776) && (decide (0 ≤ s.r) && decide (s.r < 64)))
def less (a b : Sp) : Bool := decide (a.c < b.c) || (decide (a.c = b.c) && decide (a.r < b.r))
def cmp (a b : Sp) : Int := bif decide (a = b) then 0 else bif less a b then -1 else 1
theorem less_irr (a : Sp) : less a a = false := by simp [less]
theorem less_trans {a b c : Sp} (h : less a b = true) (k : less b c = true) : less a c = true := by
  simp only [less, Bool.or_eq_true, Bool.and_eq_true, decide_eq_true_eq] at *
  omega
theorem less_asymm {a b : Sp} (h : less a b = true) : less b a = false := by
  cases k : less b a with
  | false => rfl
  | true => have := less_trans h k; rw [less_irr] at this; cases this
theorem less_total {a b : Sp} (h : less a b = false) (k : less b a = false) : a = b := by
  simp only [less, Bool.or_eq_false_iff, Bool.and_eq_false_iff, decide_eq_false_iff_not] at h k
  exact sp_iff.2 (by omega)
theorem less_of {a b : Sp} (h : less a b = false) (hne : a ≠ b) : less b a = true := by
  cases k : less b a with
  | true => rfl
  | false => exact absurd (less_total h k) hne
theorem cmp_neg (a b : Sp) : decide (cmp a b < 0) = less a b := by
  unfold cmp
  by_cases h : a = b
  · subst h; simp [less_irr]
  · simp only [h, decide_false, cond_false]
    cases less a b <;> simp
def spsV (l : List Sp) : List (List V) := l.map spC
theorem spsV_get {l : List Sp} {i : Nat} (h : i < l.length) : (spsV l)[((i : Nat) : Int).toNat]?.getD [] = spC l[i] := by simp [spsV, h]
end Go.VL.st

namespace Go.Proofs
open Go.Shelf Go.RowKit Go.Lib Go.Sort Go.VL Go.VL.st

set_option maxHeartbeats 1000000 in
theorem cpt_short (base : Option Addr) (n cap : Nat) (w : World) (hn : n < 2) :
    Calls Try.prog 90 #[.slice base n cap] w fun e w' => e = .returned (.slice base n cap) ∧ w' = w := by
  have mixed : Try.prog.follows .mixedOrders = true := by kernel_rfl
  have h2 : (n : Int) < 2 := by omega
  go_enter Try.func90, Try.ntmps90
  go_wp2
  go_ret
  exact ⟨rfl, rfl⟩

theorem eq35 (x y : Sp) (W : World) : (Op.equalIn 10000 35 (.agg #[.int .i64 x.c, .int .i64 x.r]) (.agg #[.int .i64 y.c, .int .i64 y.r])).run Try.prog W = .ok (decide (x = y)) W := by
  rw [run_equalIn_agg W 9999 35 _ _ (by kernel_rfl) (by kernel_rfl)]
  have hf : (Try.prog.fieldsOf 35).toList = [(Try.prog.fieldsOf 35)[0]!, (Try.prog.fieldsOf 35)[1]!] := by kernel_rfl
  have n0 : ((Try.prog.fieldsOf 35)[0]!).name ≠ "_" := by decide +kernel
  have n1 : ((Try.prog.fieldsOf 35)[1]!).name ≠ "_" := by decide +kernel
  have t0 : ((Try.prog.fieldsOf 35)[0]!).type = 3 := by kernel_rfl
  have t1 : ((Try.prog.fieldsOf 35)[1]!).type = 3 := by kernel_rfl
  have o0 : ((Try.prog.fieldsOf 35)[0]!).offset = 0 := by kernel_rfl
  have o1 : ((Try.prog.fieldsOf 35)[1]!).offset = 1 := by kernel_rfl
  rw [hf]
  generalize (Try.prog.fieldsOf 35)[0]! = f0 at *
  generalize (Try.prog.fieldsOf 35)[1]! = f1 at *
  have p0 : ∀ (a b : Value) W, (part 3 #[a, b] 0).run Try.prog W = .ok a W := fun a b W => run_part_plain W (e := 3) (by kernel_rfl) rfl
  have p1 : ∀ (a b : Value) W, (part 3 #[a, b] 1).run Try.prog W = .ok b W := fun a b W => run_part_plain W (e := 3) (by kernel_rfl) rfl
  simp only [Op.eqFields, n0, n1, t0, t1, o0, o1, ne_eq, not_false_eq_true, if_true, Sem.run_bind, p0, p1, Result.andThen_ok, run_equalIn_int W 9998 3 .i64 .i64 _ _ Try.underlying3]
  by_cases h0 : x.c = y.c
  · by_cases h1 : x.r = y.r
    · have : x = y := sp_iff.2 ⟨h0, h1⟩
      simp [h0, h1, this, p1, run_equalIn_int _ 9998 3 .i64 .i64 _ _ Try.underlying3]
    · have : ¬ x = y := fun e => h1 (congrArg Sp.r e)
      simp [h0, h1, this, p1, run_equalIn_int _ 9998 3 .i64 .i64 _ _ Try.underlying3]
  · have : ¬ x = y := fun e => h0 (congrArg Sp.c e)
    simp [h0, this]
/-- Stamps lie in memory. -/
def Lies (w : World) (blk off : Nat) (l : List Sp) : Prop :=
  ∀ (j : Nat) (h : j < l.length), w.cell? ⟨blk, off + j * 2, none⟩ = some (.int .i64 l[j].c) ∧ w.cell? ⟨blk, off + j * 2 + 1, none⟩ = some (.int .i64 l[j].r) ∧ w.frozen? ⟨blk, off + j * 2, none⟩ = false ∧ w.frozen? ⟨blk, off + j * 2 + 1, none⟩ = false
/-- clear of stamps. -/
theorem run_clear2 (w : World) (ty : TypeId) (b o n c : Nat) (hn : 0 < n) (h3 : n ≤ 3)
    (hc : ∀ j, j < n * 2 → (w.cell? ⟨b, o + j, none⟩).isSome = true) (hf : ∀ j, j < n * 2 → w.frozen? ⟨b, o + j, none⟩ = false) :
    (Builtin.clear_ #[60] ty #[.slice (some ⟨b, o, none⟩) n c]).run Try.prog w = .ok (.tuple #[]) (w.setCells b o (List.replicate (n * 2) (.int .i64 0))) := by
  obtain ⟨zv, hzv⟩ : ∃ zv, Try.t35.zero = some zv := Option.isSome_iff_exists.1 (by kernel_rfl)
  have hzc : zv.cells = #[.int .i64 0, .int .i64 0] := by
    have h2 : (Try.t35.zero.map fun z => z.cells) = some #[.int .i64 0, .int .i64 0] := by kernel_rfl
    rw [hzv] at h2
    simpa using h2
  have hzl : (Builtin.zeroCells zv.cells n).toList = List.replicate (n * 2) (.int .i64 0) := by
    rw [hzc]
    obtain rfl | rfl | rfl : n = 1 ∨ n = 2 ∨ n = 3 := by omega
    all_goals kernel_rfl
  have hv : ∀ w, (zeroValue 35).run Try.prog w = .ok zv w := fun w => Go.VL.run_zeroValue (P := Try.prog) (by kernel_rfl) hzv
  have hst := run_storeCells_cells (P := Try.prog) b o (List.replicate (n * 2) (.int .i64 0)) 0 w (by simpa using hc) (by simpa using hf) (by intro v hv'; rw [List.eq_of_mem_replicate hv']; rfl)
  simp only [Nat.add_zero] at hst
  obtain ⟨m, rfl⟩ : ∃ m, n = m + 1 := ⟨n - 1, by omega⟩
  simp [Builtin.clear_, run_underlying Try.underlying60, hv, hzl, hst]
/-- What is left, and what is written. -/
inductive Left (l : List Sp) : Nat → List Value → Nat → List Value → Nat → Prop
  | all : (∀ j (h : j + 1 < l.length), l[j + 1] ≠ l[j]) → Left l l.length [] 0 [] 0
  | last (n : Nat) : l.length = n + 2 → (∀ h : n + 1 < l.length, l[n + 1] = l[n]) → (∀ j (h : j + 1 < n + 1) (h' : j + 1 < l.length), l[j + 1] ≠ l[j]) → Left l (n + 1) [] 0 [.int .i64 0, .int .i64 0] ((n + 1) * 2)
  | mid : (h : l.length = 3) → l[1] = l[0] → l[2] ≠ l[1] → Left l 2 [.int .i64 l[2].c, .int .i64 l[2].r] 2 [.int .i64 0, .int .i64 0] 4
  | one : (h : l.length = 3) → l[1] = l[0] → l[2] = l[1] → Left l 1 [] 0 [.int .i64 0, .int .i64 0, .int .i64 0, .int .i64 0] 2
set_option maxHeartbeats 4000000 in
set_option maxRecDepth 1000000 in
theorem cpt_three (blk off cap : Nat) (l : List Sp) (w : World) (hl : Lies w blk off l) (h2 : 2 ≤ l.length) (h3 : l.length ≤ 3) (hcap : l.length ≤ cap) :
    Calls Try.prog 90 #[.slice (some ⟨blk, off, none⟩) l.length cap] w fun e w' =>
      ∃ (n : Nat) (A B : List Value) (oa ob q0 q1 q2 : Nat), Left l n A oa B ob ∧ e = .returned (.slice (some ⟨blk, off, none⟩) n cap) ∧ w' = ((((w.drewN q0).setCells blk (off + oa) A).drewN q1).setCells blk (off + ob) B).drewN q2 := by
  have mixed : Try.prog.follows .mixedOrders = true := by kernel_rfl
  have h2' : ¬ (l.length : Int) < 2 := by omega
  have g35 : Try.prog.eqGuardType Try.prog.depth 35 = false := by kernel_rfl
  have L : Aside (Lies w blk off l ∧ 2 ≤ l.length ∧ l.length ≤ 3) := ⟨hl, h2, h3⟩
  generalize hn : l.length = n at *
  go_enter Try.func90, Try.ntmps90
  go_wp2
  go_loopg [3] n (fun g s3 wr => ∃ k q : Nat, 1 ≤ k ∧ k ≤ n ∧ n - k ≤ g ∧ s3 = .int .i64 k ∧ wr = w.drewN q ∧ ∀ j (h : j + 1 < k) (h' : j + 1 < l.length), l[j + 1] ≠ l[j])
  case atStart => exact ⟨1, 0, Nat.le_refl _, by omega, by omega, rfl, rfl, fun j h => by omega⟩
  case round =>
    obtain ⟨k, q, hk1, hk, hg, rfl, rfl, hall⟩ := hrel
    have A : Aside (∀ j (h : j + 1 < k) (h' : j + 1 < l.length), l[j + 1] ≠ l[j]) := hall
    clear hall
    by_cases hlt : k < n
    · obtain ⟨c1, c1', f1, f1'⟩ := hl k (by omega)
      obtain ⟨c0, c0', f0, f0'⟩ := hl (k - 1) (by omega)
      obtain ⟨x, hx⟩ : ∃ x, x = l[k] := ⟨_, rfl⟩
      obtain ⟨y, hy⟩ : ∃ y, y = l[k - 1] := ⟨_, rfl⟩
      rw [← hx] at c1 c1'
      rw [← hy] at c0 c0'
      have B : Aside (x = l[k] ∧ y = l[k - 1]) := ⟨hx, hy⟩
      clear hl hx hy
      by_cases hdup : x = y
      · have he : ∀ W, (Op.equalIn 10000 35 (.agg #[.int .i64 x.c, .int .i64 x.r]) (.agg #[.int .i64 y.c, .int .i64 y.r])).run Try.prog W = .ok true W := fun W => by rw [eq35]; simp [hdup]
        have D : Aside (x = y) := hdup
        clear hdup
        go_wp2_with fail
        go_region_o
        go_wp2
        clear c0 c0' c1 c1' f0 f0' f1 f1' he
        go_loopg [3, 5] n (fun g s3 s5 wr => ∃ (kk k2 q2 q3 oa : Nat) (S : List Value), s3 = .int .i64 kk ∧ s5 = .int .i64 k2 ∧ n - (k + k2) ≤ g ∧ wr = (((w.drewN q2).setCells blk (off + oa) S).drewN q3) ∧
          ((k2 = 1 ∧ kk = k ∧ S = [] ∧ oa = 0 ∧ q3 = 0) ∨ ∃ h : l.length = 3, k2 = 2 ∧ k = 1 ∧ ((l[2] = l[1] ∧ kk = 1 ∧ S = [] ∧ oa = 0) ∨ (l[2] ≠ l[1] ∧ kk = 2 ∧ S = [.int .i64 l[2].c, .int .i64 l[2].r] ∧ oa = 2))))
        case atStart => exact ⟨k, 1, q + 1, 0, 0, [], rfl, rfl, by omega, rfl, .inl ⟨rfl, rfl, rfl, rfl, rfl⟩⟩
        case round =>
          obtain ⟨kk, k2, q2, q3, oa, S, rfl, rfl, hg2, hwr, hcase⟩ := hrel
          rcases hcase with ⟨hk2, hkk, rfl, rfl, rfl⟩ | ⟨h, hk2, hk1', hcase⟩
          · have hwr' : wr = w.drewN q2 := hwr
            clear hwr
            subst hwr'
            have h1k : 1 ≤ k2 := by omega
            have hkkn : kk < n := by omega
            by_cases hlt2 : k + k2 < n
            · have hk1' : k = 1 := by omega
              have hn3 : n = 3 := by omega
              obtain ⟨c2, c2', f2, f2'⟩ := L.out.1 2 (by omega)
              obtain ⟨c1, c1', f1, f1'⟩ := L.out.1 1 (by omega)
              obtain ⟨u, hu⟩ : ∃ u, u = l[2] := ⟨_, rfl⟩
              obtain ⟨v, hv⟩ : ∃ v, v = l[1] := ⟨_, rfl⟩
              rw [← hu] at c2 c2'
              rw [← hv] at c1 c1'
              have E : Aside (l[2]? = some u ∧ l[1]? = some v) := ⟨by rw [hu]; exact List.getElem?_eq_getElem _, by rw [hv]; exact List.getElem?_eq_getElem _⟩
              clear hu hv
              have ck := c1
              have ck' := c1'
              have fk := f1
              have fk' := f1'
              rw [show off + 2 * 2 = off + k * 2 + k2 * 2 by omega] at c2 c2' f2 f2'
              rw [show off + 1 * 2 = off + k * 2 + (k2 - 1) * 2 by omega] at c1 c1' f1 f1'
              rw [show off + 1 * 2 = off + kk * 2 by omega] at ck ck' fk fk'
              have F : Aside (k2 = 1 ∧ kk = k ∧ k = 1 ∧ n = 3) := ⟨hk2, hkk, hk1', hn3⟩
              clear hk2 hkk hk1' hn3
              by_cases huv : u = v
              · have he : ∀ W, (Op.equalIn 10000 35 (.agg #[.int .i64 u.c, .int .i64 u.r]) (.agg #[.int .i64 v.c, .int .i64 v.r])).run Try.prog W = .ok true W := fun W => by rw [eq35]; simp [huv]
                go_wp2_with fail
                go_region_o
                go_wp2
                go_roundg (n - (k + (k2 + 1)))
                case measure => omega
                case rel =>
                  obtain ⟨g1, g2, g3, g4⟩ := F.out
                  obtain ⟨i2, i3⟩ := E.out
                  have i1 : l.length = 3 := by omega
                  have j2 := (List.getElem?_eq_some_iff.1 i2).2
                  have j3 := (List.getElem?_eq_some_iff.1 i3).2
                  exact ⟨kk, k2 + 1, q2 + 1, 0, 0, [], by go_num, by go_num, by omega, rfl, .inr ⟨i1, by omega, g3, .inl ⟨by rw [j2, j3]; exact huv, by omega, rfl, rfl⟩⟩⟩
              · have he : ∀ W, (Op.equalIn 10000 35 (.agg #[.int .i64 u.c, .int .i64 u.r]) (.agg #[.int .i64 v.c, .int .i64 v.r])).run Try.prog W = .ok false W := fun W => by rw [eq35]; simp [huv]
                go_wp2_with fail
                go_region_o
                go_wp2
                go_roundg (n - (k + (k2 + 1)))
                case measure => omega
                case rel =>
                  obtain ⟨g1, g2, g3, g4⟩ := F.out
                  obtain ⟨i2, i3⟩ := E.out
                  have i1 : l.length = 3 := by omega
                  have j2 := (List.getElem?_eq_some_iff.1 i2).2
                  have j3 := (List.getElem?_eq_some_iff.1 i3).2
                  have hkk1 : kk = 1 := by omega
                  refine ⟨kk + 1, k2 + 1, q2 + 1, 0, 2, [.int .i64 u.c, .int .i64 u.r], by go_num, by go_num, by omega, ?_, .inr ⟨i1, by omega, g3, .inr ⟨by rw [j2, j3]; exact huv, by omega, by rw [j2], rfl⟩⟩⟩
                  rw [hkk1]; rfl
            · have hnk : n = k + 1 := by omega
              have hcl : ∀ ty, (Builtin.clear_ #[60] ty #[.slice (some ⟨blk, off + kk * 2, none⟩) (n - kk) (cap - kk)]).run Try.prog (w.drewN q2) = .ok (.tuple #[]) ((w.drewN q2).setCells blk (off + kk * 2) (List.replicate ((n - kk) * 2) (.int .i64 0))) := fun ty => by
                obtain ⟨d1, d2, d3, d4⟩ := L.out.1 k (by omega)
                refine run_clear2 (w.drewN q2) ty blk (off + kk * 2) (n - kk) (cap - kk) (by omega) (by omega) (fun j hj => ?_) (fun j hj => ?_)
                all_goals
                  obtain rfl | rfl : j = 0 ∨ j = 1 := by omega
                · show (w.cell? ⟨blk, off + kk * 2, none⟩).isSome = true
                  rw [hkk, d1]; rfl
                · show (w.cell? ⟨blk, off + kk * 2 + 1, none⟩).isSome = true
                  rw [hkk, d2]; rfl
                · show w.frozen? ⟨blk, off + kk * 2, none⟩ = false
                  rw [hkk, d3]
                · show w.frozen? ⟨blk, off + kk * 2 + 1, none⟩ = false
                  rw [hkk, d4]
              have F : Aside (k2 = 1 ∧ kk = k ∧ n = k + 1) := ⟨hk2, hkk, hnk⟩
              clear hk2 hkk hnk
              go_wp2
              go_ret
              obtain ⟨g1, g2, g3⟩ := F.out
              obtain ⟨k', rfl⟩ : ∃ k', k = k' + 1 := ⟨k - 1, by omega⟩
              refine ⟨kk, [], List.replicate ((n - kk) * 2) (.int .i64 0), 0, kk * 2, ?_, rfl, q2, 0, 0, rfl⟩
              rw [show (n - kk) * 2 = 2 by omega, g2]
              refine .last k' (by omega) (fun h => ?_) fun j h h' => A.out j (by omega) h'
              have h1 := B.out.1
              have h2 := B.out.2
              have h3 := D.out
              rw [h1, h2] at h3
              exact h3
          · have hnk : n = 3 := by omega
            have hx01 : l[1]? = l[0]? := by
              have h1 := B.out.1
              have h2 := B.out.2
              have h3 := D.out
              rw [h1, h2] at h3
              subst hk1'
              rw [List.getElem?_eq_getElem (by omega), List.getElem?_eq_getElem (by omega)]
              exact congrArg some h3
            have hS : S.length ≤ 2 ∧ (S = [] ∨ oa = 2) := by
              rcases hcase with ⟨-, -, rfl, -⟩ | ⟨-, -, rfl, e⟩
              · exact ⟨by simp, .inl rfl⟩
              · exact ⟨by simp, .inr e⟩
            have hsome0 : ∀ j, j < 6 → (w.cell? ⟨blk, off + j, none⟩).isSome = true ∧ w.frozen? ⟨blk, off + j, none⟩ = false := fun j hj => by
              obtain ⟨d1, d2, d3, d4⟩ := L.out.1 (j / 2) (by omega)
              rcases Nat.mod_two_eq_zero_or_one j with e | e
              · rw [show off + j / 2 * 2 = off + j by omega] at d1 d3
                exact ⟨by rw [d1]; rfl, d3⟩
              · rw [show off + j / 2 * 2 + 1 = off + j by omega] at d2 d4
                exact ⟨by rw [d2]; rfl, d4⟩
            have hsome : ∀ j, j < 6 → (wr.cell? ⟨blk, off + j, none⟩).isSome = true ∧ wr.frozen? ⟨blk, off + j, none⟩ = false := fun j hj => by
              have hc : ∀ x, wr.cell? x = ((w.drewN q2).setCells blk (off + oa) S).cell? x := fun x => by rw [hwr]; rfl
              have hf : ∀ x, wr.frozen? x = ((w.drewN q2).setCells blk (off + oa) S).frozen? x := fun x => by rw [hwr]; rfl
              rw [hc, hf, World.frozen?_setCells]
              refine ⟨Go.Proofs.isSome_setCells blk S (off + oa) (w.drewN q2) (fun i hi => ?_) (off + j) (hsome0 j hj).1, (hsome0 j hj).2⟩
              rcases hS.2 with rfl | rfl
              · simp at hi
              · rw [Nat.add_assoc]; exact (hsome0 (2 + i) (by omega)).1
            have hkk3 : kk < 3 ∧ 1 ≤ kk := by rcases hcase with ⟨-, e, -⟩ | ⟨-, e, -⟩ <;> omega
            have hcl : ∀ ty, (Builtin.clear_ #[60] ty #[.slice (some ⟨blk, off + kk * 2, none⟩) (n - kk) (cap - kk)]).run Try.prog wr = .ok (.tuple #[]) (wr.setCells blk (off + kk * 2) (List.replicate ((n - kk) * 2) (.int .i64 0))) := fun ty =>
              run_clear2 wr ty blk (off + kk * 2) (n - kk) (cap - kk) (by omega) (by omega) (fun j hj => by rw [Nat.add_assoc]; exact (hsome (kk * 2 + j) (by omega)).1) (fun j hj => by rw [Nat.add_assoc]; exact (hsome (kk * 2 + j) (by omega)).2)
            have hnlt : ¬ k + k2 < n := by omega
            have hkkn : kk < n := by omega
            have hkkc : kk ≤ cap := by omega
            have F : Aside (k = 1 ∧ n = 3 ∧ l[1]? = l[0]? ∧ wr = ((w.drewN q2).setCells blk (off + oa) S).drewN q3 ∧ ∃ h : l.length = 3, ((l[2] = l[1] ∧ kk = 1 ∧ S = [] ∧ oa = 0) ∨ (l[2] ≠ l[1] ∧ kk = 2 ∧ S = [.int .i64 l[2].c, .int .i64 l[2].r] ∧ oa = 2))) := ⟨hk1', hnk, hx01, hwr, h, hcase⟩
            clear hwr hcase hsome hsome0 hS hx01 hk1' hnk hkk3
            go_wp2
            go_ret
            obtain ⟨g1, g2, g3, g4, h, g5⟩ := F.out
            have e10 : l[1] = l[0] := by
              rw [List.getElem?_eq_getElem (by omega), List.getElem?_eq_getElem (by omega)] at g3
              exact Option.some.inj g3
            rcases g5 with ⟨i1, i2, i3, i4⟩ | ⟨i1, i2, i3, i4⟩
            · refine ⟨kk, S, List.replicate ((n - kk) * 2) (.int .i64 0), oa, kk * 2, ?_, rfl, q2, q3, 0, by rw [g4]; rfl⟩
              rw [g2, i2, i3, i4]
              exact .one h e10 i1
            · refine ⟨kk, S, List.replicate ((n - kk) * 2) (.int .i64 0), oa, kk * 2, ?_, rfl, q2, q3, 0, by rw [g4]; rfl⟩
              rw [g2, i2, i3, i4]
              exact .mid h e10 i1
      · have he : ∀ W, (Op.equalIn 10000 35 (.agg #[.int .i64 x.c, .int .i64 x.r]) (.agg #[.int .i64 y.c, .int .i64 y.r])).run Try.prog W = .ok false W := fun W => by rw [eq35]; simp [hdup]
        go_wp2_with fail
        go_region_o
        go_wp2
        go_roundg (n - (k + 1))
        case measure => omega
        case rel =>
          refine ⟨k + 1, q + 1, by omega, by omega, Nat.le_refl _, by go_num, rfl, fun j h h' => ?_⟩
          by_cases e : j + 1 = k
          · subst e
            rw [← B.out.1]
            exact fun e => hdup (e.trans B.out.2.symm)
          · exact A.out j (by omega) h'
    · have : k = n := by omega
      subst this
      go_wp2
      go_ret
      exact ⟨_, [], [], 0, 0, q, 0, 0, by rw [← hn]; exact .all fun j h => A.out j (by omega) h, rfl, rfl⟩
end Go.Proofs

namespace Go.VL
open Go

theorem repL_set {γ : G} {x x' : V} : ∀ {cs : List V} {vs : List Value} {o : Nat}, RepL γ cs vs → cs[o]? = some x → (∀ v, Rep γ x v → Rep γ x' v) → RepL γ (cs.set o x') vs
  | [], _, _, _, h, _ => by cases h
  | y :: cs, vs, 0, hr, h, hx => by
    simp only [List.getElem?_cons_zero, Option.some.injEq] at h
    subst h
    simp only [RepL, List.set_cons_zero] at hr ⊢
    obtain ⟨v, ws, h1, h2, h3⟩ := hr
    exact ⟨v, ws, h1, hx v h2, h3⟩
  | y :: cs, vs, o + 1, hr, h, hx => by
    simp only [List.getElem?_cons_succ] at h
    simp only [RepL, List.set_cons_succ] at hr ⊢
    obtain ⟨v, ws, h1, h2, h3⟩ := hr
    exact ⟨v, ws, h1, h2, repL_set h3 h hx⟩
theorem INV.recell {γ : G} {σ : St} {w : World} (hi : INV γ σ w) {j : Nat} {cs cs' : List V} (ho : σ.objs[j]? = some (.cells cs)) (hc : ∀ vs, RepL γ cs vs → RepL γ cs' vs) : INV γ (σ.setC j cs') w := by
  refine ⟨hi.os, hi.tape, hi.out, hi.phi, hi.pub, ?_, ?_, hi.inj, hi.rholen, hi.own, hi.snapb, hi.apart, hi.drn⟩
  · show _ = (σ.objs.set j _).length
    rw [List.length_set]; exact hi.mulen
  · intro i b o hb hx
    have hx : (σ.objs.set j (.cells cs'))[i]? = some o := hx
    by_cases e : i = j
    · subst e
      rw [List.getElem?_set_self (List.getElem?_eq_some_iff.1 ho).1] at hx
      cases hx
      obtain ⟨h1, h2, vs, e, h3, h4⟩ := hi.objs _ _ _ hb ho
      exact ⟨h1, h2, vs, e, h3, hc vs h4⟩
    · rw [List.getElem?_set_ne (Ne.symm e)] at hx
      exact hi.objs _ _ _ hb hx
/-- The cell that has the slice has it under its new right. -/
theorem CallM.recell {P : Program} {f : FuncId} {args : List V} {r s : Nat} {es : List (List V)} {σ : St} {K : V → Nat → List (List V) → St → Prop} {j o : Nat} {cs : List V} (h : CallM P f args r s es σ K)
    (hK : ∀ v r' es' σ', K v r' es' σ' → σ'.objs[j]? = some (.cells cs)) (ho : cs[o]? = some (.sl false (.own r) s es)) :
    CallM P f args r s es σ fun v r' es' σ'' => ∃ σ', K v r' es' σ' ∧ σ'' = σ'.setC j (cs.set o (.sl false (.own r') s es')) := by
  refine ⟨h.1, fun γ w vs hi hr => (h.2 γ w vs hi hr).mono ?_⟩
  rintro e w' ⟨v, x, σ', γ', r', es', h1, h2, h3, h4, ⟨vr, h5, h6⟩, h7, h8⟩
  refine ⟨v, x, _, γ', r', es', h1, h2, h3.recell (hK _ _ _ _ h8) fun us hu => repL_set hu ho fun u hu => ?_, h4, ⟨vr, h5, h6⟩, h7, σ', h8, rfl⟩
  simp only [Rep] at hu ⊢
  obtain ⟨a, cap, e1, e2, e3, e4⟩ := hu
  have := h2.rho _ _ h5
  rw [e4] at this
  cases this
  exact ⟨a, cap, by rw [h7]; exact e1, e2, by rw [h7]; exact e3, h6⟩
end Go.VL

namespace Go.VL
open Go Go.ChangeShapes Go.WideShapes Go.ChangeAt Go.RowKit

/-- What was there is as it was. -/
structure OldKept (W w' : World) : Prop where
  os : w'.os = W.os
  out : w'.output = W.output
  heap : ∀ (b : Nat) (o : Obj), W.heap[b]? = some o → w'.heap[b]? = some o

def pubOf (W : World) (b : Nat) : List Value := match W.heap[b]? with
  | some (.cells c _ _) => c.toList
  | _ => []
/-- The ghost at a claim's start: all that is there is laid aside, and may be read. -/
def g0 (W : World) : G := { mu := [], rho := [], pub := pubOf W, phi := fun b => W.heap[b]?, snap := fun _ _ => none, os := W.os, tape := W.tape, out := W.output, drn := W.drawn }

theorem inv0 (W : World) : INV (g0 W) ⟨[], []⟩ W where
  os := rfl
  tape := rfl
  out := rfl
  phi := fun _ _ h => h
  pub := fun b i v h => by
    simp only [g0, pubOf] at h
    split at h
    · rename_i c e z hx
      exact ⟨c, e, z, hx, by simpa using h⟩
    · simp at h
  mulen := rfl
  objs := fun i b o h => by simp [g0] at h
  inj := fun i j b h => by simp [g0] at h
  rholen := rfl
  own := fun r v s es h => by simp at h
  snapb := fun b n x h => by simp [g0] at h
  apart := fun r r' v s es v' s' es' b h => by simp at h
  drn := Nat.le_refl _

theorem entry {P : Program} {f : FuncId} {xs : List V} {W : World} {vs : List Value} {K : V → St → Prop} (h : CallA P f xs ⟨[], []⟩ K) (hr : RepL (g0 W) xs vs) :
    Calls P f vs.toArray W fun e w' => ∃ v x σ γ, e = .returned v ∧ OldKept W w' ∧ INV γ σ w' ∧ Rep γ x v ∧ K x σ := by
  refine (h.2 (g0 W) W vs (inv0 W) hr).mono ?_
  rintro e w' ⟨v, x, σ, γ, rfl, hle, hi, hx, hk⟩
  refine ⟨v, x, σ, γ, rfl, ⟨hi.os.trans hle.os, hi.out.trans hle.out, fun b o hb => hi.phi b o ?_⟩, hi, hx, hk⟩
  rw [hle.phi]; exact hb

theorem OldKept.frame {W w' : World} (h : OldKept W w') (may : MemPlace → Prop) : W.keptBut w' may := by
  refine ⟨h.os, h.out, fun i hi => ?_⟩
  have h1 : W.heap[i]? = some W.heap[i] := Array.getElem?_eq_getElem hi
  rw [h1, h.heap _ _ h1]
  cases W.heap[i] <;> simp

theorem OldKept.frozen {W w' : World} (h : OldKept W w') {a : Addr} (ha : a.block < W.heap.size) : w'.frozen? a = W.frozen? a := by
  have h1 : W.heap[a.block]? = some W.heap[a.block] := Array.getElem?_eq_getElem ha
  simp only [World.frozen?, h1, h.heap _ _ h1]

/-- A claim's postcondition where nothing that was there has changed. -/
theorem post_of_old {H : Type} {enc : TypeId × Value → H} {P : Program} {f : Func} {s : ChangeSpec} {apart fresh handsOn again : Bool} {W W' : World} {args : Array Value} {v : Value} {ds gs : List (DataW H)} {before pa pv : List MemPlace}
    (hW : DataW.Whole enc P f.params.toList s.vars apart W args.toList ds gs before)
    (hres : ∀ (b : Nat) (sp : Nat → Bool) (hd : Bool), DataW.TrodAll enc P W' b sp hd f.resultTypes.toList (v.resultList f.resultTypes.size) (s.fn H (ds ++ gs)).results [])
    (hargs : ∀ sp : Nat → Bool, (∀ p ∈ before, sp p.block = true) → DataW.TrodAll enc P W' 0 sp true f.params.toList args.toList (s.fn H (ds ++ gs)).args pa)
    (hvars : ∀ sp : Nat → Bool, (∀ p ∈ before, sp p.block = true) → DataW.TrodVars enc P W' sp s.vars (s.fn H (ds ++ gs)).vars pv)
    (hps : before = pa ++ pv) (hk : OldKept W W')
    (hok : ∀ (j : Nat) (t : TypeId) (r : Value), f.resultTypes[j]? = some t → (v.resultList f.resultTypes.size)[j]? = some r → Value.okWide P W' .any 0 t r) :
    s.post enc P f apart fresh handsOn again W args v W' := by
  have hold : ∀ p ∈ before, (fun b => decide (b < W.heap.size)) p.block = true := fun p hp => by simpa using hW.lt p hp
  have hlt := hW.lt
  refine ⟨ds, gs, before, [], pa, pv, hW, hres _ _ _, hargs _ hold, hvars _ hold, World.keptBut_mono (fun p hp => ⟨hp, ?_⟩) (hk.frame (· ∈ before)), fun _ => ?_⟩
  · rw [hps, List.mem_append] at hp
    exact Or.inr hp
  · obtain ⟨_, _, _, _, _, hz, hn⟩ := hW
    refine ⟨hok, _, _, ([] ++ pa) ++ pv, ⟨[] ++ pa, pv, trodAll_append (hargs _ (fun _ _ => rfl)) (hres _ _ _), hvars _ (fun _ _ => rfl), rfl, ?_, ?_⟩, ?_⟩
    · intro b off hp
      have hp' : MemPlace.cell b off ∈ before := by rw [hps]; simpa using hp
      rw [hk.frozen (by have := hlt _ hp'; exact this)]
      exact hz b off hp'
    · intro ha
      have := hn ha
      rw [hps] at this
      simpa using this
    · intro p hp _
      rw [hps]
      simpa using hp
end Go.VL

namespace Go.VL.row
open Go Go.VL

theorem setCells_ok : ∀ (vs : List Value) (w : World) (b o : Nat) (c : Array Value) (e : TypeId) (z : Nat × Nat), w.heap[b]? = some (.cells c e z) → o + vs.length ≤ c.size →
    But (some b) w (w.setCells b o vs) ∧ ∃ c' : Array Value, (w.setCells b o vs).heap[b]? = some (.cells c' e z) ∧ c'.toList = c.toList.take o ++ vs ++ c.toList.drop (o + vs.length)
  | [], w, b, o, c, e, z, h, _ => ⟨.refl _ _, c, h, by simp⟩
  | v :: vs, w, b, o, c, e, z, h, hs => by
    simp only [List.length_cons] at hs
    have hlt : o < c.size := by omega
    obtain ⟨h1, c', h2, h3⟩ := setCells_ok vs (w.setCell ⟨b, o, none⟩ v) b (o + 1) _ e z (setCell_heap h v) (by simp; omega)
    refine ⟨(setCell_but w b o v).trans h1, c', h2, ?_⟩
    rw [h3, Array.toList_setIfInBounds, List.take_succ_eq_append_getElem (by simpa using hlt), List.take_set_of_le (Nat.le_refl _), List.drop_set_of_lt (by omega)]
    simp only [List.getElem_set_self, List.append_assoc, List.cons_append, List.nil_append, List.length_cons]
    rw [show o + 1 + vs.length = o + (vs.length + 1) from by omega]

theorem frep_nil {γ : G} {σ : St} {w : World} : FRep γ σ ⟨[], []⟩ ⟨#[], []⟩ w (fun _ => 0) := by
  refine ⟨fun t => ?_, fun k cs hk => ?_, fun a b c d h => ?_⟩
  · simp [sget, SRep, Rep]
  · simp [lget] at hk
  · simp [lget] at h

/-- A slice whose block is an object, or a nil one. -/
def RowOf (σ : St) (s : V) (z : Nat) (es : List (List V)) : Prop :=
  (∃ R q, s = .sl true R q [] ∧ es = []) ∨ ∃ j cap, s = .osl j es.length cap z ∧ σ.objs[j]? = some (.row cap z es.flatten) ∧ (∀ x ∈ es, x.length = z) ∧ es.length ≤ cap
/-- What is done to the objects. -/
def RowTo (σ : St) (s : V) (σ' : St) : Prop :=
  σ'.live = σ.live ∧ σ.objs.length ≤ σ'.objs.length ∧ ∀ (k : Nat) (o : AObj), (∀ n cap z, s ≠ .osl k n cap z) → σ.objs[k]? = some o → σ'.objs[k]? = some o

section
variable {γ : G} {σ : St} {w w' : World}
/-- A new row. -/
theorem row_new (hi : INV γ σ w) (hb : But none w w') {c : Array Value} {e : TypeId} {s : V} {z n cap : Nat} {es : List (List V)} {vs : List Value} (hw : w'.heap[w.heap.size]? = some (.cells c e (0, 0)))
    (hvs : ∀ (j : Nat) (v : Value), vs[j]? = some v → c[j]? = some v) (hr : RepL γ es.flatten vs) (h1 : ∀ v ∈ vs, v.oneCell' = true) (hc : cap * z ≤ c.size ∧ cap ≤ 9223372036854775807) (hz : ∀ x ∈ es, x.length = z) (hn : es.length = n) (hcap : n ≤ cap) (hfl : es.flatten.length ≤ cap * z) :
    ∃ v x σ' γ', Ending.returned (.slice (some ⟨w.heap.size, 0, none⟩) n cap) = .returned v ∧ Le γ γ' ∧ INV γ' σ' w' ∧ Rep γ' x v ∧ (RowOf σ' x z es ∧ RowTo σ s σ' ∧ ∃ j cap, x = .osl j n cap z ∧ ((∃ n' cap', s = .osl j n' cap' z) ∨ σ.objs.length ≤ j)) := by
  subst hn
  have hle : LeR γ { γ with mu := γ.mu ++ [w.heap.size] } := ⟨fun i c hi => by
    show (γ.mu ++ [_])[i]? = some c
    rw [List.getElem?_append_left (List.getElem?_eq_some_iff.1 hi).1]; exact hi, fun _ _ x => x, fun _ _ _ x => x⟩
  obtain ⟨h2, h3⟩ := hi.newObj hb (Nat.le_refl _) (sn := γ.snap) (fun _ _ _ x => x) (fun _ _ _ => rfl) (ob := .row cap z es.flatten)
    ⟨vs, c, e, (0, 0), hw, hvs, RepL.mono hle _ _ hr, hc, hfl, fun j _ => by omega, h1⟩
  refine ⟨_, .osl σ.objs.length es.length cap z, _, _, rfl, h3, h2, ?_, .inr ⟨_, cap, rfl, by simp, hz, hcap⟩, ⟨rfl, by simp, fun k o _ hk => ?_⟩, _, _, rfl, .inr (Nat.le_refl _)⟩
  · simp only [Rep]
    exact ⟨w.heap.size, by rw [← hi.mulen]; simp, rfl⟩
  · show (σ.objs ++ [_])[k]? = some o
    rw [List.getElem?_append_left (List.getElem?_eq_some_iff.1 hk).1]; exact hk
/-- A row in its place. -/
theorem row_set (hi : INV γ σ w) {j b : Nat} (hmu : γ.mu[j]? = some b) (hj : j < σ.objs.length) (hb : But (some b) w w') {c : Array Value} {e : TypeId} {q : Nat × Nat} {z n n0 cap : Nat} {es : List (List V)} {vs : List Value} (hw : w'.heap[b]? = some (.cells c e q))
    (hvs : ∀ (j : Nat) (v : Value), vs[j]? = some v → c[j]? = some v) (hr : RepL γ es.flatten vs) (h1 : ∀ v ∈ vs, v.oneCell' = true) (hc : cap * z ≤ c.size ∧ cap ≤ 9223372036854775807) (hq : ∀ j, j < cap * z → ¬ (q.1 ≤ j ∧ j < q.2)) (hz : ∀ x ∈ es, x.length = z) (hn : es.length = n) (hcap : n ≤ cap) (hfl : es.flatten.length ≤ cap * z) :
    ∃ v x σ' γ', Ending.returned (.slice (some ⟨b, 0, none⟩) n cap) = .returned v ∧ Le γ γ' ∧ INV γ' σ' w' ∧ Rep γ' x v ∧ (RowOf σ' x z es ∧ RowTo σ (.osl j n0 cap z) σ' ∧ ∃ j' cap', x = .osl j' n cap' z ∧ ((∃ n' cap'', V.osl j n0 cap z = .osl j' n' cap'' z) ∨ σ.objs.length ≤ j')) := by
  subst hn
  obtain ⟨h2, -⟩ := setObj_ok hi (frep_nil) hmu hb (ob := .row cap z es.flatten) (sn := γ.snap) (fun _ _ _ x => x) (fun _ _ _ => rfl) (fun c n x hx => Nat.lt_of_lt_of_le (hi.snapb c n x hx) hb.size) ⟨vs, c, e, q, hw, hvs, hr, hc, hfl, hq, h1⟩
  refine ⟨_, .osl j es.length cap z, _, γ, rfl, .refl γ, h2, ?_, .inr ⟨j, cap, rfl, by simp [hj], hz, hcap⟩, ⟨rfl, by simp, fun k o hk ho => ?_⟩, _, _, rfl, .inl ⟨_, _, rfl⟩⟩
  · simp only [Rep]
    exact ⟨b, hmu, rfl⟩
  · show (σ.objs.set j _)[k]? = some o
    rw [List.getElem?_set_ne (fun e => hk n0 cap z (by rw [e]))]; exact ho
end
theorem flat_take {z : Nat} : ∀ {es : List (List V)} (i : Nat), (∀ x ∈ es, x.length = z) → (es.take i).flatten = es.flatten.take (i * z)
  | [], i, _ => by simp
  | x :: es, 0, _ => by simp
  | x :: es, i + 1, h => by
    have hx := h x (by simp)
    have e : (i + 1) * z = z + i * z := by rw [Nat.succ_mul, Nat.add_comm]
    rw [List.take_succ_cons, List.flatten_cons, List.flatten_cons, flat_take i fun y hy => h y (by simp [hy]), e, List.take_append, hx, List.take_of_length_le (l := x) (by omega), show z + i * z - z = i * z by omega]
theorem flat_drop {z : Nat} : ∀ {es : List (List V)} (i : Nat), (∀ x ∈ es, x.length = z) → (es.drop i).flatten = es.flatten.drop (i * z)
  | [], i, _ => by simp
  | x :: es, 0, _ => by simp
  | x :: es, i + 1, h => by
    have hx := h x (by simp)
    have e : (i + 1) * z = z + i * z := by rw [Nat.succ_mul, Nat.add_comm]
    rw [List.drop_succ_cons, List.flatten_cons, flat_drop i fun y hy => h y (by simp [hy]), e, List.drop_append, hx, List.drop_of_length_le (l := x) (by omega), List.nil_append, show z + i * z - z = i * z by omega]
theorem flat_len' {z : Nat} : ∀ {es : List (List V)}, (∀ x ∈ es, x.length = z) → es.flatten.length = es.length * z
  | [], _ => by simp
  | x :: es, h => by
    rw [List.flatten_cons, List.length_append, h x (by simp), flat_len' fun y hy => h y (by simp [hy]), List.length_cons, Nat.succ_mul, Nat.add_comm]
theorem prefix_eq {c : Array Value} {vs : List Value} (h : ∀ (j : Nat) (v : Value), vs[j]? = some v → c[j]? = some v) : c.toList = vs ++ c.toList.drop vs.length := by
  have : c.toList.take vs.length = vs := by
    apply List.ext_getElem?
    intro j
    rw [List.getElem?_take]
    split
    · rename_i hj
      rw [List.getElem?_eq_getElem hj]
      simpa using h j _ (List.getElem?_eq_getElem hj)
    · rename_i hj
      rw [List.getElem?_eq_none (by omega)]
  conv => lhs; rw [← List.take_append_drop vs.length c.toList, this]
theorem eq_prefix {c : Array Value} {vs r : List Value} (h : c.toList = vs ++ r) (j : Nat) (v : Value) (hj : vs[j]? = some v) : c[j]? = some v := by
  have h1 := (List.getElem?_eq_some_iff.1 hj).1
  have : c.toList[j]? = some v := by rw [h, List.getElem?_append_left h1]; exact hj
  simpa using this
theorem but_new {w w' : World} (h : But (some w.heap.size) w w') : But none w w' :=
  ⟨h.os, h.tape, h.out, h.size, fun k o _ hk => h.heap k o (fun e => by cases e; exact absurd (Array.getElem?_eq_some_iff.1 hk).1 (Nat.lt_irrefl _)) hk, h.drn⟩
theorem mid_eq {l vs x : List Value} (h : l = vs ++ l.drop vs.length) (a b : Nat) {z : Nat} (hab : b = a + z) (ha : a ≤ vs.length) (hl : vs.length + z ≤ l.length) :
    List.take a (l.take b ++ vs.drop a ++ l.drop (b + (vs.drop a).length)) ++ x ++ List.drop b (l.take b ++ vs.drop a ++ l.drop (b + (vs.drop a).length)) = vs.take a ++ x ++ vs.drop a ++ l.drop (b + (vs.drop a).length) := by
  have hb : b ≤ l.length := by omega
  have e1 : List.take a (l.take b ++ vs.drop a ++ l.drop (b + (vs.drop a).length)) = vs.take a := by
    rw [List.append_assoc, List.take_append_of_le_length (by simp; omega), List.take_take, Nat.min_eq_left (by omega)]
    conv => lhs; rw [h]
    rw [List.take_append_of_le_length ha]
  have e2 : List.drop b (l.take b ++ vs.drop a ++ l.drop (b + (vs.drop a).length)) = vs.drop a ++ l.drop (b + (vs.drop a).length) := by
    rw [List.append_assoc, List.drop_append_of_le_length (by simp; omega), List.drop_of_length_le (by rw [List.length_take]; omega), List.nil_append]
  rw [e1, e2]
  simp [List.append_assoc]

/-- What is not of some objects stays. -/
structure UpdS (S : Nat → Prop) (σ τ : St) : Prop where
  objs : ∀ (j : Nat) (o : AObj), ¬ S j → σ.objs[j]? = some o → τ.objs[j]? = some o
  live : ∀ r : Nat, σ.live[r]? = some true → τ.live[r]? = some true
  olen : σ.objs.length ≤ τ.objs.length
  llen : σ.live.length ≤ τ.live.length
theorem UpdS.refl (S : Nat → Prop) (σ : St) : UpdS S σ σ := ⟨fun _ _ _ h => h, fun _ h => h, Nat.le_refl _, Nat.le_refl _⟩
theorem UpdS.trans {S S' : Nat → Prop} {a b c : St} (h : UpdS S a b) (k : UpdS S' b c) (hs : ∀ j, S' j → S j ∨ a.objs.length ≤ j) : UpdS S a c :=
  ⟨fun j o hj x => k.objs j o (fun h' => (hs j h').elim hj fun hl => by have := (List.getElem?_eq_some_iff.1 x).1; omega) (h.objs j o hj x), fun r x => k.live r (h.live r x), Nat.le_trans h.olen k.olen, Nat.le_trans h.llen k.llen⟩
theorem UpdS.of {S : Nat → Prop} {a b : St} (h : Ext a b) : UpdS S a b := ⟨fun j o _ x => h.objs j o x, h.live, h.olen, h.llen⟩
theorem UpdS.ext {a b : St} (h : UpdS (fun _ => False) a b) : Ext a b := ⟨fun j o x => h.objs j o (fun h => h) x, h.live, h.olen, h.llen⟩
theorem rowOf_up {S : Nat → Prop} {σ τ : St} {s : V} {z : Nat} {es : List (List V)} (h : RowOf σ s z es) (hu : UpdS S σ τ) (hs : ∀ k n cap z, s = .osl k n cap z → ¬ S k) : RowOf τ s z es := by
  rcases h with h | ⟨j, cap, rfl, h1, h2, h3⟩
  · exact .inl h
  · exact .inr ⟨j, cap, rfl, hu.objs _ _ (hs j _ _ _ rfl) h1, h2, h3⟩
theorem flat_split {z : Nat} {D : List (List V)} (hz : ∀ x ∈ D, x.length = z) {i : Nat} (hi : i < D.length) :
    D.flatten = (D.take i).flatten ++ (D[i] ++ (D.drop (i + 1)).flatten) ∧ (D.take i).flatten.length = i * z := by
  constructor
  · rw [← List.flatten_cons, ← List.flatten_append, ← List.drop_eq_getElem_cons hi, List.take_append_drop]
  · rw [flat_len' fun x hx => hz x (List.mem_of_mem_take hx), List.length_take, Nat.min_eq_left (by omega)]
theorem over_mid (A e B xs : List V) (o : Nat) (h : o + xs.length ≤ e.length) : over (A ++ (e ++ B)) (A.length + o) xs = A ++ (over e o xs ++ B) := by
  simp only [over]
  rw [List.take_length_add_append, Nat.add_assoc, List.drop_length_add_append, List.take_append_of_le_length (by omega), List.drop_append_of_le_length h]
  simp only [List.append_assoc]
section
variable {σ : St}
theorem updS_setM {m : Nat} {lv : List LK} {es : List (V × V)} {v : Nat} : UpdS (fun k => k = m) σ (σ.setM m lv es v) := by
  refine ⟨fun j o hj hx => ?_, fun _ h => h, ?_, Nat.le_refl _⟩
  · show (σ.objs.set m _)[j]? = some o
    rw [List.getElem?_set_ne (fun e => hj e.symm)]; exact hx
  · show _ ≤ (σ.objs.set m _).length
    rw [List.length_set]; exact Nat.le_refl _
theorem updS_setR {j cap z : Nat} {cs : List V} : UpdS (fun k => k = j) σ (σ.setR j cap z cs) := by
  refine ⟨fun j o hj hx => ?_, fun _ h => h, ?_, Nat.le_refl _⟩
  · show (σ.objs.set _ _)[j]? = some o
    rw [List.getElem?_set_ne (fun e => hj e.symm)]; exact hx
  · show _ ≤ (σ.objs.set _ _).length
    rw [List.length_set]; exact Nat.le_refl _
theorem updS_setC {j : Nat} {cs : List V} : UpdS (fun k => k = j) σ (σ.setC j cs) := by
  refine ⟨fun j o hj hx => ?_, fun _ h => h, ?_, Nat.le_refl _⟩
  · show (σ.objs.set _ _)[j]? = some o
    rw [List.getElem?_set_ne (fun e => hj e.symm)]; exact hx
  · show _ ≤ (σ.objs.set _ _).length
    rw [List.length_set]; exact Nat.le_refl _
end
theorem rdS_up {S : Nat → Prop} {σ τ : St} {v : V} {s : Nat} {es : List (List V)} (h : RdS σ v s es) (hu : UpdS S σ τ) : RdS τ v s es := by
  obtain ⟨b', r', s', h1, h2, h3⟩ := h
  refine ⟨b', r', s', h1, h2, h3.imp_right fun y => ⟨?_, y.2⟩⟩
  have := y.1
  cases r' with
  | pub => trivial
  | own q => exact hu.live q this
  | view q => exact hu.live q this
theorem UpdS.toExt {S : Nat → Prop} {σ a b : St} (h : UpdS S a b) (k : Ext σ a) (hs : ∀ j, S j → σ.objs.length ≤ j) : Ext σ b :=
  ⟨fun j o x => h.objs j o (fun hj => by have := hs j hj; have := (List.getElem?_eq_some_iff.1 x).1; omega) (k.objs j o x), fun r x => h.live r (k.live r x), Nat.le_trans k.olen h.olen, Nat.le_trans k.llen h.llen⟩
theorem kept_upd {S : Nat → Prop} {σ τ : St} (h : UpdS S σ τ) : Kept (some []) σ τ := by
  intro L hL
  cases hL
  exact ⟨fun j hj => (by cases hj), fun r hr => h.live r hr⟩
/-- A slice that was begun as nil. -/
def Acc (n : Nat) (τ : St) (w : V) (z : Nat) (l : List (List V)) : Prop := (l = [] ∧ w = .sl true .pub z []) ∨ ∃ q, w = .sl false (.own q) z l ∧ τ.live[q]? = some true ∧ n ≤ q
theorem Acc.rd {n z : Nat} {τ : St} {w : V} {l : List (List V)} (h : Acc n τ w z l) : RdS τ w z l := by
  rcases h with ⟨rfl, rfl⟩ | ⟨q, rfl, h1, h2⟩
  · exact ⟨true, .pub, z, rfl, by simp, .inl rfl⟩
  · exact ⟨false, .own q, z, rfl, by simp, .inr ⟨h1, rfl⟩⟩
theorem setA_ne {τ : St} {i j : Nat} {o : AObj} (h : j ≠ i) : (τ.setA i o).objs[j]? = τ.objs[j]? := by
  show (τ.objs.set i o)[j]? = _
  rw [List.getElem?_set_ne (Ne.symm h)]
theorem setA_at {τ : St} {i : Nat} {o o' : AObj} (h : τ.objs[i]? = some o') : (τ.setA i o).objs[i]? = some o := by
  show (τ.objs.set i o)[i]? = _
  rw [List.getElem?_set_self (List.getElem?_eq_some_iff.1 h).1]
theorem ext_setA {σ τ : St} (h : Ext σ τ) {i : Nat} (hi : σ.objs.length ≤ i) {o : AObj} : Ext σ (τ.setA i o) :=
  ⟨fun j x hj => by
    have h1 := (List.getElem?_eq_some_iff.1 hj).1
    rw [setA_ne (by omega)]
    exact h.objs _ _ hj, h.live, by
    show σ.objs.length ≤ (τ.objs.set i _).length
    rw [List.length_set]; exact h.olen, h.llen⟩

end Go.VL.row

namespace Go.VL.opl
open Go Go.VL Go.Proofs Go.VL.st Go.VL.row

/-- Neighbours that are the same, once. -/
def cpl : List Sp → List Sp
  | a :: b :: r => bif decide (a = b) then cpl (b :: r) else a :: cpl (b :: r)
  | l => l
theorem cpl_mem : ∀ (l : List Sp) (x : Sp), x ∈ cpl l ↔ x ∈ l
  | [], _ => Iff.rfl
  | [_], _ => Iff.rfl
  | a :: b :: r, x => by
    have ih := cpl_mem (b :: r) x
    simp only [cpl]
    cases h : decide (a = b)
    · simp only [cond_false, List.mem_cons] at ih ⊢
      rw [ih]
    · have := of_decide_eq_true h
      subst this
      simp only [cond_true, List.mem_cons] at ih ⊢
      rw [ih]
      constructor
      · exact fun h => .inr h
      · rintro (h | h)
        · exact .inl h
        · exact h
theorem cpl_srt : ∀ (l : List Sp), (l.Pairwise fun a b => less b a = false) → (cpl l).Pairwise fun a b => less a b = true
  | [], _ => .nil
  | [_], _ => by simp [cpl]
  | a :: b :: r, h => by
    have ih := cpl_srt (b :: r) (List.pairwise_cons.1 h).2
    simp only [cpl]
    cases hd : decide (a = b)
    · have hne := of_decide_eq_false hd
      simp only [cond_false, List.pairwise_cons]
      refine ⟨fun x hx => ?_, ih⟩
      rw [cpl_mem] at hx
      have hab : less a b = true := less_of ((List.pairwise_cons.1 h).1 b (by simp)) (Ne.symm hne)
      rcases List.mem_cons.1 hx with rfl | hx
      · exact hab
      · have h1 := (List.pairwise_cons.1 h).1 x (by simp [hx])
        by_cases e : a = x
        · subst e
          have := (List.pairwise_cons.1 (List.pairwise_cons.1 h).2).1 a hx
          rw [hab] at this; cases this
        · exact less_of h1 (Ne.symm e)
    · exact ih
theorem cpl_len : ∀ (l : List Sp), (cpl l).length ≤ l.length
  | [] => Nat.le_refl _
  | [_] => Nat.le_refl _
  | a :: b :: r => by
    have ih := cpl_len (b :: r)
    simp only [cpl]
    cases decide (a = b) <;> simp only [cond_true, cond_false, List.length_cons] at ih ⊢ <;> omega
/-- Stamps' cells. -/
def stW (l : List Sp) : List Value := l.flatMap fun s => [.int .i64 s.c, .int .i64 s.r]
theorem stW_len (l : List Sp) : (stW l).length = l.length * 2 := by
  induction l with
  | nil => rfl
  | cons a l ih =>
    simp only [stW, List.flatMap_cons, List.length_append, List.length_cons, List.length_nil] at ih ⊢
    omega
def splice (X : List Value) (o : Nat) (A : List Value) : List Value := X.take o ++ A ++ X.drop (o + A.length)
theorem splice_in {P X Q A : List Value} {o : Nat} (h : o + A.length ≤ X.length) :
    (P ++ X ++ Q).take (P.length + o) ++ A ++ (P ++ X ++ Q).drop (P.length + o + A.length) = P ++ splice X o A ++ Q := by
  unfold splice
  rw [List.append_assoc P X Q, List.take_append, List.take_of_length_le (by omega), Nat.add_sub_cancel_left, List.take_append_of_le_length (by omega),
    Nat.add_assoc, List.drop_append, List.drop_of_length_le (by omega), Nat.add_sub_cancel_left, List.nil_append, List.drop_append_of_le_length h]
  simp only [List.append_assoc]
theorem left_ok {l : List Sp} {n oa ob : Nat} {A B : List Value} (h : Go.Proofs.Left l n A oa B ob) (h2 : 2 ≤ l.length) (h3 : l.length ≤ 3) :
    oa + A.length ≤ (stW l).length ∧ ob + B.length ≤ (stW l).length ∧ ∃ l2 : List Sp, l2.length = l.length ∧ splice (splice (stW l) oa A) ob B = stW l2 ∧ l2.take n = cpl l ∧ n ≤ l.length := by
  have hz : (stW [zs]) = [.int .i64 0, .int .i64 0] := rfl
  match l, h2, h3 with
  | [a, b], _, _ =>
    cases h with
    | all hd =>
      have h0 : b ≠ a := hd 0 (by simp)
      exact ⟨by simp [stW], by simp [stW], [a, b], rfl, by simp [splice, stW], by simp [cpl, Ne.symm h0], by simp⟩
    | last n e h0 hd =>
      simp only [List.length_cons, List.length_nil] at e
      obtain rfl : n = 0 := by omega
      have h0 : b = a := h0 (by simp)
      exact ⟨by simp [stW], by simp [stW], [a, zs], rfl, by simp [splice, stW, zs], by simp [cpl, h0], by simp⟩
    | mid e => simp at e
    | one e => simp at e
  | [a, b, c], _, _ =>
    cases h with
    | all hd =>
      have h0 : b ≠ a := hd 0 (by simp)
      have h1 : c ≠ b := hd 1 (by simp)
      exact ⟨by simp [stW], by simp [stW], [a, b, c], rfl, by simp [splice, stW], by simp [cpl, Ne.symm h0, Ne.symm h1], by simp⟩
    | last n e h0 hd =>
      simp only [List.length_cons, List.length_nil] at e
      obtain rfl : n = 1 := by omega
      have h0 : c = b := h0 (by simp)
      have h1 : b ≠ a := hd 0 (by omega) (by simp)
      exact ⟨by simp [stW], by simp [stW], [a, b, zs], rfl, by simp [splice, stW, zs], by simp [cpl, h0, Ne.symm h1], by simp⟩
    | mid e h1 h2 =>
      have h1 : b = a := h1
      have h2 : c ≠ b := h2
      exact ⟨by simp [stW], by simp [stW], [a, c, zs], rfl, by simp [splice, stW, zs], by rw [h1] at h2; simp [cpl, h1, Ne.symm h2], by simp⟩
    | one e h1 h2 =>
      have h1 : b = a := h1
      have h2 : c = b := h2
      exact ⟨by simp [stW], by simp [stW], [a, zs, zs], rfl, by simp [splice, stW, zs], by simp [cpl, h1, h2], by simp⟩
end Go.VL.opl

namespace Go.VL.opl
open Go Go.VL Go.Proofs Go.VL.st Go.VL.row

def spsV (l : List Sp) : List (List V) := l.map spC
theorem spsV_len (l : List Sp) : (spsV l).length = l.length := by simp [spsV]
theorem stW_get : ∀ {l : List Sp} {j : Nat} (h : j < l.length), (stW l)[j * 2]? = some (.int .i64 l[j].c) ∧ (stW l)[j * 2 + 1]? = some (.int .i64 l[j].r)
  | a :: l, 0, _ => ⟨rfl, rfl⟩
  | a :: l, j + 1, h => by
    have ih := stW_get (l := l) (j := j) (by simpa using h)
    have e : stW (a :: l) = .int .i64 a.c :: .int .i64 a.r :: stW l := rfl
    rw [e, show (j + 1) * 2 = j * 2 + 1 + 1 by omega, show j * 2 + 1 + 1 + 1 = (j * 2 + 1) + 1 + 1 by omega]
    simp only [List.getElem?_cons_succ, List.getElem_cons_succ]
    exact ih
theorem repE_sp {γ : G} : ∀ (l : List Sp) (vs : List Value), RepE γ 2 (spsV l) vs → vs = stW l
  | [], vs, h => by simpa [spsV, RepE, stW] using h
  | a :: l, vs, h => by
    simp only [spsV, List.map_cons, RepE] at h
    obtain ⟨ws, us, rfl, -, h1, h2, -⟩ := h
    have := repE_sp l us h2
    simp only [spC, RepL, Rep] at h1
    obtain ⟨v1, _, rfl, rfl, v2, _, rfl, rfl, rfl⟩ := h1
    rw [this]; rfl
theorem sp_repE {γ : G} : ∀ (l : List Sp), RepE γ 2 (spsV l) (stW l)
  | [] => by simp [spsV, RepE, stW]
  | a :: l => by
    have ih := sp_repE (γ := γ) l
    simp only [spsV, List.map_cons, RepE] at ih ⊢
    refine ⟨[.int .i64 a.c, .int .i64 a.r], stW l, rfl, rfl, ?_, ih, ?_⟩
    · simp only [spC, RepL, Rep]
      exact ⟨_, _, rfl, rfl, _, _, rfl, rfl, rfl⟩
    · simp only [List.mem_cons, List.not_mem_nil, or_false]
      rintro v (rfl | rfl) <;> rfl
theorem toList_parts {c : Array Value} {off : Nat} {X : List Value} (h : ∀ i x, X[i]? = some x → c[off + i]? = some x) (hl : off + X.length ≤ c.size) : c.toList = c.toList.take off ++ X ++ c.toList.drop (off + X.length) := by
  have e : (c.toList.drop off).take X.length = X := by
    apply List.ext_getElem?
    intro i
    rw [List.getElem?_take]
    split
    · rename_i hi
      rw [List.getElem?_drop, Array.getElem?_toList, h i X[i] (List.getElem?_eq_getElem hi), List.getElem?_eq_getElem hi]
    · rename_i hi
      rw [List.getElem?_eq_none (by omega)]
  conv => lhs; rw [← List.take_append_drop off c.toList, ← List.take_append_drop X.length (c.toList.drop off), e, List.drop_drop]
  rw [List.append_assoc]
theorem parts_get {c : Array Value} {P X Q : List Value} (h : c.toList = P ++ X ++ Q) (i : Nat) (x : Value) (hx : X[i]? = some x) : c[P.length + i]? = some x := by
  rw [← Array.getElem?_toList, h, List.append_assoc, List.getElem?_append_right (by omega), Nat.add_sub_cancel_left, List.getElem?_append_left (List.getElem?_eq_some_iff.1 hx).1]
  exact hx
theorem but_drewN (w : World) (n : Nat) : But none w (w.drewN n) := .drawn w _ (Nat.le_add_right _ _)
section
variable {σ : St} {r : Nat} {l : List Sp}
set_option maxHeartbeats 1000000 in
theorem cpt_cm (hlive : σ.live[r]? = some true) (hl : l.length ≤ 3) :
    CallM Try.prog 90 [.sl false (.own r) 2 (spsV l)] r 2 (spsV l) σ fun v r' es' σ' => ∃ (l2 : List Sp) (n : Nat), l2.length = l.length ∧ es' = spsV l2 ∧ v = .sl false (.view r') 2 (spsV (l2.take n)) ∧ l2.take n = cpl l ∧ n ≤ l.length ∧
      r' = σ.live.length ∧ σ' = ⟨σ.objs, σ.live.set r false ++ [true]⟩ := by
  refine ⟨⟨Try.f90, Try.func90, rfl, by kernel_rfl⟩, fun γ w vs hi hr => ?_⟩
  simp only [RepL, Rep] at hr
  obtain ⟨v1, _, rfl, ⟨a, cap, rfl, hsp, hcap, hrho⟩, rfl⟩ := hr
  obtain ⟨blk, off, sp⟩ := a
  simp only at hsp
  subst hsp
  obtain ⟨a', cap', e0, -, h3, h4, h5, h6, c, e, z, vs0, h7, h8, h9, ⟨h10, h12⟩, h11⟩ := hi.own _ _ _ _ hlive hrho
  cases e0
  simp only at h4 h5 h6 h7 h8 h10 h11
  have hv0 := repE_sp l vs0 h9
  subst hv0
  rw [spsV_len] at h3 hcap ⊢
  have hwl := stW_len l
  have hll : (σ.live.set r false).length = σ.live.length := by simp
  have key : ∀ (n : Nat) (l2 : List Sp) (w' : World) (c' : Array Value), l2.length = l.length → l2.take n = cpl l → n ≤ l.length → But (some blk) w w' → w'.heap[blk]? = some (.cells c' e z) → c'.size = c.size → (∀ i x, (stW l2)[i]? = some x → c'[off + i]? = some x) →
      ∃ v x σ' γ' r' es', Ending.returned (.slice (some ⟨blk, off, none⟩) n cap) = .returned v ∧ Le γ γ' ∧ INV γ' σ' w' ∧ Rep γ' x v ∧ (∃ vr, γ.rho[r]? = some (vr, 2, spsV l) ∧ γ'.rho[r']? = some (vr, 2, es')) ∧ es'.length = l.length ∧
        ∃ (l2 : List Sp) (n : Nat), l2.length = l.length ∧ es' = spsV l2 ∧ x = .sl false (.view r') 2 (spsV (l2.take n)) ∧ l2.take n = cpl l ∧ n ≤ l.length ∧ r' = σ.live.length ∧ σ' = ⟨σ.objs, σ.live.set r false ++ [true]⟩ := by
    intro n l2 w' c' k1 k2 k3 hbut hnew hsz hget
    obtain ⟨q1, q2⟩ := hi.right hbut (live := σ.live.set r false) hll (fun j hj => by
        by_cases e : r = j
        · subst e
          rw [List.getElem?_set_self (List.getElem?_eq_some_iff.1 hlive).1] at hj
          cases hj
        · rwa [List.getElem?_set_ne e] at hj)
      (k := blk) ⟨h4, h5, h6, fun j v s es hj hrj hb => by
        by_cases e : r = j
        · subst e
          rw [List.getElem?_set_self (List.getElem?_eq_some_iff.1 hlive).1] at hj
          cases hj
        · rw [List.getElem?_set_ne e] at hj
          exact e (hi.apart r j _ _ _ _ _ _ blk hlive hj hrho hrj rfl hb)⟩
      (v := .slice (some ⟨blk, off, none⟩) (spsV l).length cap) (s := 2) (es := spsV l2) (f := true) (fun _ => ⟨rfl, by
        refine ⟨⟨blk, off, none⟩, cap, by rw [spsV_len, spsV_len, k1], rfl, by rw [spsV_len, k1]; exact h3, h4, h5, h6, c', e, z, stW l2, hnew, hget, sp_repE l2, ⟨by rw [hsz]; exact h10, by rw [hsz]; exact h12⟩, h11⟩⟩)
    have hrl : (γ.rho ++ [((.slice (some ⟨blk, off, none⟩) (spsV l).length cap : Value), 2, spsV l2)])[σ.live.length]? = some (.slice (some ⟨blk, off, none⟩) (spsV l).length cap, 2, spsV l2) := by
      rw [← hi.rholen]; simp
    have hn : (spsV (l2.take n)).length = n := by rw [spsV_len, List.length_take]; omega
    refine ⟨_, .sl false (.view σ.live.length) 2 (spsV (l2.take n)), _, _, σ.live.length, spsV l2, rfl, q2, q1, ?_, ⟨.slice (some ⟨blk, off, none⟩) (spsV l).length cap, by rw [spsV_len]; rw [spsV_len] at hrho; exact hrho, hrl⟩, by rw [spsV_len, k1], l2, n, k1, rfl, rfl, k2, k3, rfl, rfl⟩
    simp only [Rep]
    refine ⟨⟨blk, off, none⟩, cap, by rw [hn], rfl, by rw [hn]; omega, .inr ⟨⟨blk, off, none⟩, (spsV l).length, cap, spsV l2, 0, hrl, by rw [hn, spsV_len]; omega, ?_, rfl, by simp, rfl⟩⟩
    rw [hn, List.drop_zero]
    simp [spsV, List.map_take]
  rcases Nat.lt_or_ge l.length 2 with h2 | h2
  · refine (cpt_short (some ⟨blk, off, none⟩) l.length cap w h2).mono ?_
    rintro e' w' ⟨rfl, rfl⟩
    refine key l.length l w' c rfl ?_ (Nat.le_refl _) (.refl _ _) h7 rfl h8
    rw [List.take_length]
    match l, h2 with
    | [], _ => rfl
    | [_], _ => rfl
  · have hbd : off + (stW l).length ≤ c.size := by rw [hwl]; omega
    have hlies : Lies w blk off l := fun j hj => by
      obtain ⟨g1, g2⟩ := stW_get hj
      refine ⟨?_, ?_, ?_, ?_⟩
      · simp only [World.cell?, h7]; exact h8 _ _ g1
      · simp only [World.cell?, h7, Nat.add_assoc]; exact h8 _ _ g2
      · have := h11 (off + j * 2) (by omega) (by omega)
        simp only [World.frozen?, h7, Bool.and_eq_false_iff, decide_eq_false_iff_not]; omega
      · have := h11 (off + j * 2 + 1) (by omega) (by omega)
        simp only [World.frozen?, h7, Bool.and_eq_false_iff, decide_eq_false_iff_not]; omega
    refine (cpt_three blk off cap l w hlies h2 hl h3).mono ?_
    rintro e' w' ⟨n, A, B, oa, ob, q0, q1, q2, hL, rfl, rfl⟩
    obtain ⟨m1, m2, l2, m3, m4, m5, m6⟩ := left_ok hL h2 hl
    have hparts := toList_parts h8 hbd
    have hPl : (c.toList.take off).length = off := by rw [List.length_take, Array.length_toList]; omega
    obtain ⟨b1, c1, r1, r2⟩ := setCells_ok A (w.drewN q0) blk (off + oa) c e z h7 (by omega)
    have hs1 : c1.size = c.size := by
      have := congrArg List.length r2
      simp only [Array.length_toList, List.length_append, List.length_take, List.length_drop] at this
      omega
    have hr2 : c1.toList = c.toList.take off ++ splice (stW l) oa A ++ c.toList.drop (off + (stW l).length) := by
      rw [r2]
      have := splice_in (P := c.toList.take off) (X := stW l) (Q := c.toList.drop (off + (stW l).length)) m1
      rw [hPl, ← hparts] at this
      exact this
    have hXl : (splice (stW l) oa A).length = (stW l).length := by
      unfold splice
      simp only [List.length_append, List.length_take, List.length_drop]
      omega
    obtain ⟨b2, c2, r3, r4⟩ := setCells_ok B (((w.drewN q0).setCells blk (off + oa) A).drewN q1) blk (off + ob) c1 e z r1 (by omega)
    have hs2 : c2.size = c1.size := by
      have := congrArg List.length r4
      simp only [Array.length_toList, List.length_append, List.length_take, List.length_drop] at this
      omega
    have hr4 : c2.toList = c.toList.take off ++ stW l2 ++ c.toList.drop (off + (stW l).length) := by
      rw [r4, ← m4]
      have := splice_in (P := c.toList.take off) (X := splice (stW l) oa A) (Q := c.toList.drop (off + (stW l).length)) (A := B) (o := ob) (by rw [hXl]; exact m2)
      rw [hPl, ← hr2] at this
      exact this
    have hbut : But (some blk) w ((((((w.drewN q0).setCells blk (off + oa) A).drewN q1).setCells blk (off + ob) B).drewN q2)) :=
      ((but_drewN w q0).some _).trans (b1.trans (((but_drewN _ q1).some _).trans (b2.trans ((but_drewN _ q2).some _))))
    refine key n l2 _ c2 m3 m5 m6 hbut r3 (by rw [hs2, hs1]) fun i x hx => ?_
    have := parts_get hr4 i x hx
    rw [hPl] at this
    exact this
end
end Go.VL.opl

namespace Go.VL.opl
open Go Go.VL Go.Proofs
def c13 : C :=
  .seq (.ops [⟨none, .mv 4 (.c (.nilf))⟩])
  (.seq (.ops [⟨none, .alH 5 [.sl true .pub 0 []]⟩])
  (.cut (.seq (.ops [⟨none, .mv 8 (.t 0)⟩,
    ⟨none, .bq 9 true .ptr (.t 8) (.c (.ptr none))⟩,
    ⟨none, .mv 10 (.t 9)⟩,
    ⟨some (10, true), .mv 11 (.t 1)⟩,
    ⟨some (10, true), .ca (some 12) 43 [(.t 11)]⟩,
    ⟨some (10, true), .bi 13 .eql (.t 12) (.c (.int .i64 0))⟩,
    ⟨none, .pk 14 (.t 10) (.t 13) (.c (.bool false))⟩])
  (.cond (.t 14) (.seq (.ops [⟨none, .mv 15 (.t 0)⟩,
      ⟨none, .nc 16 (.t 15)⟩,
      ⟨none, .fa 17 (.t 16) 1⟩,
      ⟨none, .ld 18 (.t 17) 1 false⟩,
      ⟨none, .ln 19 .sl (.t 18)⟩,
      ⟨none, .mv 20 (.c (.int .i64 0))⟩])
    (.block 0 (.loop (.seq (.ops [⟨none, .bi 21 .lss (.t 20) (.t 19)⟩])
    (.seq (.cond (.t 21) (.skip)
      (.exit 0))
    (.cut (.block 1 (.seq (.ops [⟨none, .ia 22 (.t 18) (.t 20) 13⟩,
      ⟨none, .ld 23 (.t 22) 13 true⟩,
      ⟨none, .alL 7 [.int .i64 0, .int .i64 0, .int .i64 0, .sl true .pub 0 [], .int .i64 0, .int .i64 0, .int .i64 0, .int .i64 0, .int .i64 0, .int .i64 0, .int .i64 0, .str [], .str []]⟩,
      ⟨none, .st (.t 7) (.t 23) 13⟩])
    (.seq (.opsD [⟨none, .fa 24 (.t 7) 2⟩,
      ⟨none, .ld 25 (.t 24) 1 false⟩,
      ⟨none, .mv 26 (.t 1)⟩,
      ⟨none, .fa 27 (.t 7) 0⟩,
      ⟨none, .fa 28 (.t 27) 1⟩,
      ⟨none, .ld 29 (.t 28) 1 false⟩,
      ⟨none, .ca (some 30) 44 [(.t 26), (.t 29)]⟩,
      ⟨none, .bi 31 .gtr (.t 25) (.t 30)⟩])
    (.cond (.t 31) (.opsD [⟨none, .ld 32 (.t 5) 1 false⟩,
        ⟨none, .ld 33 (.t 7) 13 true⟩,
        ⟨none, .ca (some 34) 45 [(.t 33)]⟩,
        ⟨none, .lit 35 13 [(.t 34)]⟩,
        ⟨none, .ap 36 13 (.t 32) (.t 35)⟩,
        ⟨none, .st (.t 5) (.t 36) 1⟩])
      (.skip)))))
    (.ops [⟨none, .bi 37 .add (.t 20) (.c (.int .i64 1))⟩,
      ⟨none, .mv 20 (.t 37)⟩])))))))
    (.skip)))
  (.seq (.ops [⟨none, .mf 38 46 [(.t 5)]⟩,
    ⟨none, .mv 4 (.t 38)⟩])
  (.ret))))
theorem comp13 : compFn Try.prog [7] Try.f13 = some ([.t 4], c13) := by kernel_rfl
def c15 : C :=
  .seq (.ops [⟨none, .alL 0 [.int .i64 0, .int .i64 0, .int .i64 0, .sl true .pub 0 [], .int .i64 0, .int .i64 0, .int .i64 0, .int .i64 0, .int .i64 0, .int .i64 0, .int .i64 0, .str [], .str []]⟩])
  (.seq (.ops [⟨none, .bld 2 [.int .i64 0, .int .i64 0] [(0, 1, (.c (.int .i64 1)))]⟩,
    ⟨none, .alL 1 [.int .i64 0, .int .i64 0]⟩,
    ⟨none, .st (.t 1) (.t 2) 2⟩])
  (.seq (.ops [⟨none, .ld 3 (.t 1) 2 true⟩,
    ⟨none, .ld 4 (.t 1) 2 true⟩,
    ⟨none, .bld 5 [.int .i64 0, .int .i64 0, .int .i64 0, .sl true .pub 0 [], .int .i64 0, .int .i64 0, .int .i64 0, .int .i64 0, .int .i64 0, .int .i64 0, .int .i64 0, .str [], .str []] [(0, 2, (.t 3)), (2, 1, (.c (.int .i64 1))), (4, 1, (.c (.int .i64 1))), (5, 2, (.t 4)), (11, 1, (.c (.str [112])))]⟩,
    ⟨none, .st (.t 0) (.t 5) 13⟩])
  (.ret)))
theorem comp15 : compFn Try.prog [0, 1] Try.f15 = some ([.c 0 13 true], c15) := by kernel_rfl
/-- topiary/topiaryref02.Check: 1 parameters, 25 slots. -/
def c16 : C :=
  .seq (.ops [⟨none, .mv 2 (.c (.int .i64 0))⟩])
  (.seq (.seq (.ops [⟨none, .mv 4 (.t 0)⟩,
    ⟨none, .ln 5 .sl (.t 4)⟩,
    ⟨none, .bi 6 .gtr (.t 5) (.c (.int .i64 64))⟩])
  (.cond (.t 6) (.seq (.ops [⟨none, .mv 2 (.c (.int .i64 3))⟩])
    (.ret))
    (.skip)))
  (.seq (.seq (.ops [⟨none, .mv 3 (.c (.int .i64 0))⟩])
  (.block 0 (.loop (.seq (.seq (.ops [⟨none, .mv 7 (.t 3)⟩,
    ⟨none, .mv 8 (.t 0)⟩,
    ⟨none, .ln 9 .sl (.t 8)⟩,
    ⟨none, .bi 10 .lss (.t 7) (.t 9)⟩])
  (.cond (.t 10) (.skip)
    (.exit 0)))
  (.seq (.block 1 (.seq (.ops [⟨none, .mv 13 (.t 0)⟩,
    ⟨none, .mv 14 (.t 3)⟩,
    ⟨none, .ia 15 (.t 13) (.t 14) 1⟩,
    ⟨none, .ld 16 (.t 15) 1 false⟩,
    ⟨none, .bi 17 .lss (.t 16) (.c (.int .i64 0))⟩,
    ⟨none, .mv 18 (.t 17)⟩,
    ⟨some (18, false), .mv 19 (.t 0)⟩,
    ⟨some (18, false), .mv 20 (.t 3)⟩,
    ⟨some (18, false), .ia 21 (.t 19) (.t 20) 1⟩,
    ⟨some (18, false), .ld 22 (.t 21) 1 false⟩,
    ⟨some (18, false), .bi 23 .gtr (.t 22) (.c (.int .i64 1099511627776))⟩,
    ⟨none, .pk 24 (.t 18) (.c (.bool true)) (.t 23)⟩])
  (.cond (.t 24) (.seq (.ops [⟨none, .mv 2 (.c (.int .i64 1))⟩])
    (.ret))
    (.skip))))
  (.ops [⟨none, .mv 11 (.t 3)⟩,
    ⟨none, .bi 12 .add (.t 11) (.c (.int .i64 1))⟩,
    ⟨none, .mv 3 (.t 12)⟩]))))))
  (.seq (.ops [⟨none, .mv 2 (.c (.int .i64 0))⟩])
  (.ret))))
theorem comp16 : compFn Try.prog [] Try.f16 = some ([.t 2], c16) := by kernel_rfl
/-- topiary/topiaryref07.All: 2 parameters, 29 slots. -/
def c17 : C :=
  .seq (.ops [⟨none, .mv 4 (.c (.sl true .pub 13 []))⟩])
  (.seq (.ops [⟨none, .lit 7 13 []⟩,
    ⟨none, .mv 5 (.t 7)⟩])
  (.seq (.seq (.ops [⟨none, .mv 6 (.c (.int .i64 0))⟩])
  (.block 0 (.loop (.seq (.seq (.ops [⟨none, .mv 8 (.t 6)⟩,
    ⟨none, .mv 9 (.t 0)⟩,
    ⟨none, .ln 10 .sl (.t 9)⟩,
    ⟨none, .bi 11 .lss (.t 8) (.t 10)⟩])
  (.cond (.t 11) (.skip)
    (.exit 0)))
  (.cut (.block 1 (.seq (.ops [⟨none, .mv 14 (.t 0)⟩,
    ⟨none, .mv 15 (.t 6)⟩,
    ⟨none, .ia 16 (.t 14) (.t 15) 13⟩,
    ⟨none, .ld 17 (.t 16) 13 true⟩,
    ⟨none, .mv 18 (.t 1)⟩,
    ⟨none, .ca (some 19) 52 [(.t 17), (.t 18)]⟩,
    ⟨none, .un 20 .not (.t 19)⟩])
  (.cond (.t 20) (.ops [⟨none, .mv 21 (.t 5)⟩,
      ⟨none, .mv 22 (.t 0)⟩,
      ⟨none, .mv 23 (.t 6)⟩,
      ⟨none, .ia 24 (.t 22) (.t 23) 13⟩,
      ⟨none, .ld 25 (.t 24) 13 true⟩,
      ⟨none, .lit 26 13 [(.t 25)]⟩,
      ⟨none, .ap 27 13 (.t 21) (.t 26)⟩,
      ⟨none, .mv 5 (.t 27)⟩])
    (.skip))))
  (.ops [⟨none, .mv 12 (.t 6)⟩,
    ⟨none, .bi 13 .add (.t 12) (.c (.int .i64 1))⟩,
    ⟨none, .mv 6 (.t 13)⟩]))))))
  (.seq (.ops [⟨none, .mv 28 (.t 5)⟩,
    ⟨none, .mv 4 (.t 28)⟩])
  (.ret))))
theorem comp17 : compFn Try.prog [] Try.f17 = some ([.t 4], c17) := by kernel_rfl
/-- topiary/topiaryref05.Same: 2 parameters, 66 slots. -/
def c18 : C :=
  .seq (.ops [⟨none, .bxL 2 (.t 0)⟩,
    ⟨none, .bxL 3 (.t 1)⟩,
    ⟨none, .mv 4 (.c (.bool false))⟩])
  (.seq (.ops [⟨none, .fa 5 (.t 2) 0⟩,
    ⟨none, .ld 6 (.t 5) 2 true⟩,
    ⟨none, .fa 7 (.t 3) 0⟩,
    ⟨none, .ld 8 (.t 7) 2 true⟩,
    ⟨none, .be 9 false [.int .i64, .int .i64] (.t 6) (.t 8)⟩,
    ⟨none, .mv 10 (.t 9)⟩,
    ⟨some (10, true), .fa 11 (.t 2) 2⟩,
    ⟨some (10, true), .ld 12 (.t 11) 1 false⟩,
    ⟨some (10, true), .fa 13 (.t 3) 2⟩,
    ⟨some (10, true), .ld 14 (.t 13) 1 false⟩,
    ⟨some (10, true), .bi 15 .eql (.t 12) (.t 14)⟩,
    ⟨none, .pk 16 (.t 10) (.t 15) (.c (.bool false))⟩,
    ⟨none, .mv 17 (.t 16)⟩,
    ⟨some (17, true), .fa 18 (.t 2) 3⟩,
    ⟨some (17, true), .ld 19 (.t 18) 1 false⟩,
    ⟨some (17, true), .fa 20 (.t 3) 3⟩,
    ⟨some (17, true), .ld 21 (.t 20) 1 false⟩,
    ⟨some (17, true), .ca (some 22) 40 [(.t 19), (.t 21)]⟩,
    ⟨none, .pk 23 (.t 17) (.t 22) (.c (.bool false))⟩,
    ⟨none, .mv 24 (.t 23)⟩,
    ⟨some (24, true), .fa 25 (.t 2) 4⟩,
    ⟨some (24, true), .ld 26 (.t 25) 1 false⟩,
    ⟨some (24, true), .fa 27 (.t 3) 4⟩,
    ⟨some (24, true), .ld 28 (.t 27) 1 false⟩,
    ⟨some (24, true), .bi 29 .eql (.t 26) (.t 28)⟩,
    ⟨none, .pk 30 (.t 24) (.t 29) (.c (.bool false))⟩,
    ⟨none, .mv 31 (.t 30)⟩,
    ⟨some (31, true), .fa 32 (.t 2) 5⟩,
    ⟨some (31, true), .ld 33 (.t 32) 2 true⟩,
    ⟨some (31, true), .fa 34 (.t 3) 5⟩,
    ⟨some (31, true), .ld 35 (.t 34) 2 true⟩,
    ⟨some (31, true), .be 36 false [.int .i64, .int .i64] (.t 33) (.t 35)⟩,
    ⟨none, .pk 37 (.t 31) (.t 36) (.c (.bool false))⟩,
    ⟨none, .mv 38 (.t 37)⟩,
    ⟨some (38, true), .fa 39 (.t 2) 7⟩,
    ⟨some (38, true), .ld 40 (.t 39) 2 true⟩,
    ⟨some (38, true), .fa 41 (.t 3) 7⟩,
    ⟨some (38, true), .ld 42 (.t 41) 2 true⟩,
    ⟨some (38, true), .be 43 false [.int .i64, .int .i64] (.t 40) (.t 42)⟩,
    ⟨none, .pk 44 (.t 38) (.t 43) (.c (.bool false))⟩,
    ⟨none, .mv 45 (.t 44)⟩,
    ⟨some (45, true), .fa 46 (.t 2) 9⟩,
    ⟨some (45, true), .ld 47 (.t 46) 2 true⟩,
    ⟨some (45, true), .fa 48 (.t 3) 9⟩,
    ⟨some (45, true), .ld 49 (.t 48) 2 true⟩,
    ⟨some (45, true), .be 50 false [.int .i64, .int .i64] (.t 47) (.t 49)⟩,
    ⟨none, .pk 51 (.t 45) (.t 50) (.c (.bool false))⟩,
    ⟨none, .mv 52 (.t 51)⟩,
    ⟨some (52, true), .fa 53 (.t 2) 11⟩,
    ⟨some (52, true), .ld 54 (.t 53) 1 false⟩,
    ⟨some (52, true), .fa 55 (.t 3) 11⟩,
    ⟨some (52, true), .ld 56 (.t 55) 1 false⟩,
    ⟨some (52, true), .bi 57 .eql (.t 54) (.t 56)⟩,
    ⟨none, .pk 58 (.t 52) (.t 57) (.c (.bool false))⟩,
    ⟨none, .mv 59 (.t 58)⟩,
    ⟨some (59, true), .fa 60 (.t 2) 12⟩,
    ⟨some (59, true), .ld 61 (.t 60) 1 false⟩,
    ⟨some (59, true), .fa 62 (.t 3) 12⟩,
    ⟨some (59, true), .ld 63 (.t 62) 1 false⟩,
    ⟨some (59, true), .bi 64 .eql (.t 61) (.t 63)⟩,
    ⟨none, .pk 65 (.t 59) (.t 64) (.c (.bool false))⟩,
    ⟨none, .mv 4 (.t 65)⟩])
  (.ret))
theorem comp18 : compFn Try.prog [2, 3] Try.f18 = some ([.t 4], c18) := by kernel_rfl
/-- topiary/topiarylaw07.awake: 0 parameters, 35 slots. -/
def c19 : C :=
  .seq (.ops [⟨none, .mv 0 (.c (.bool false))⟩])
  (.seq (.ops [⟨none, .ca (some 4) 24 [(.c (.int .i64 3))]⟩,
    ⟨none, .mv 3 (.t 4)⟩,
    ⟨none, .ex 5 (.t 3) 0⟩,
    ⟨none, .ex 6 (.t 3) 1⟩,
    ⟨none, .mv 1 (.t 5)⟩,
    ⟨none, .mv 2 (.t 6)⟩])
  (.seq (.ops [⟨none, .mv 7 (.t 2)⟩,
    ⟨none, .bi 8 .eql (.t 7) (.c (.int .i64 0))⟩,
    ⟨none, .mv 9 (.t 8)⟩,
    ⟨some (9, true), .mv 10 (.t 1)⟩,
    ⟨some (9, true), .bq 11 true .ptr (.t 10) (.c (.ptr none))⟩,
    ⟨none, .pk 12 (.t 9) (.t 11) (.c (.bool false))⟩,
    ⟨none, .mv 13 (.t 12)⟩,
    ⟨some (13, true), .mv 14 (.t 1)⟩,
    ⟨some (13, true), .ca (some 15) 15 []⟩,
    ⟨some (13, true), .ca (some 16) 14 [(.t 14), (.t 15)]⟩,
    ⟨some (13, true), .bi 17 .eql (.t 16) (.c (.int .i64 0))⟩,
    ⟨none, .pk 18 (.t 13) (.t 17) (.c (.bool false))⟩,
    ⟨none, .mv 19 (.t 18)⟩,
    ⟨some (19, true), .mv 20 (.t 1)⟩,
    ⟨some (19, true), .ca (some 21) 15 []⟩,
    ⟨some (19, true), .ca (some 22) 14 [(.t 20), (.t 21)]⟩,
    ⟨some (19, true), .bi 23 .eql (.t 22) (.c (.int .i64 5))⟩,
    ⟨none, .pk 24 (.t 19) (.t 23) (.c (.bool false))⟩,
    ⟨none, .mv 25 (.t 24)⟩,
    ⟨some (25, true), .mv 26 (.t 1)⟩,
    ⟨some (25, true), .ca (some 27) 53 [(.t 26)]⟩,
    ⟨some (25, true), .bi 28 .eql (.t 27) (.c (.int .i64 1))⟩,
    ⟨none, .pk 29 (.t 25) (.t 28) (.c (.bool false))⟩,
    ⟨none, .mv 30 (.t 29)⟩,
    ⟨some (30, true), .mv 31 (.t 1)⟩,
    ⟨some (30, true), .ca (some 32) 54 [(.t 31)]⟩,
    ⟨some (30, true), .bi 33 .eql (.t 32) (.c (.int .i64 1))⟩,
    ⟨none, .pk 34 (.t 30) (.t 33) (.c (.bool false))⟩,
    ⟨none, .mv 0 (.t 34)⟩])
  (.ret)))
theorem comp19 : compFn Try.prog [] Try.f19 = some ([.t 0], c19) := by kernel_rfl
/-- topiary/oplog.New: 1 parameters, 14 slots. -/
def c24 : C :=
  .seq (.ops [⟨none, .mv 2 (.c (.ptr none))⟩,
    ⟨none, .mv 3 (.c (.int .i64 0))⟩])
  (.seq (.seq (.ops [⟨none, .mv 4 (.t 0)⟩,
    ⟨none, .bi 5 .lss (.t 4) (.c (.int .i64 1))⟩,
    ⟨none, .mv 6 (.t 5)⟩,
    ⟨some (6, false), .mv 7 (.t 0)⟩,
    ⟨some (6, false), .bi 8 .gtr (.t 7) (.c (.int .i64 4096))⟩,
    ⟨none, .pk 9 (.t 6) (.c (.bool true)) (.t 8)⟩])
  (.cond (.t 9) (.seq (.ops [⟨none, .mv 2 (.c (.ptr none))⟩,
      ⟨none, .mv 3 (.c (.int .i64 1))⟩])
    (.ret))
    (.skip)))
  (.seq (.ops [⟨none, .mv 10 (.t 0)⟩,
    ⟨none, .mm 11 [.agg, .int .i64, .int .i64]⟩,
    ⟨none, .bld 12 [.int .i64 0, .sl true .pub 0 [], .map none, .sl true .pub 0 [], .sl true .pub 0 [], .sl true .pub 0 [], .sl true .pub 0 [], .sl true .pub 0 [], .sl true .pub 0 [], .sl true .pub 0 [], .sl true .pub 0 [], .sl true .pub 0 [], .sl true .pub 0 [], .sl true .pub 0 [], .sl true .pub 0 [], .sl true .pub 0 [], .sl true .pub 0 [], .sl true .pub 0 [], .sl true .pub 0 [], .sl true .pub 0 [], .sl true .pub 0 [], .sl true .pub 0 [], .sl true .pub 0 [], .sl true .pub 0 [], .sl true .pub 0 [], .sl true .pub 0 [], .sl true .pub 0 [], .sl true .pub 0 [], .sl true .pub 0 [], .sl true .pub 0 [], .sl true .pub 0 [], .sl true .pub 0 [], .sl true .pub 0 [], .sl true .pub 0 [], .sl true .pub 0 [], .sl true .pub 0 [], .sl true .pub 0 [], .sl true .pub 0 [], .sl true .pub 0 [], .sl true .pub 0 [], .sl true .pub 0 [], .sl true .pub 0 [], .sl true .pub 0 [], .sl true .pub 0 [], .sl true .pub 0 [], .sl true .pub 0 [], .sl true .pub 0 [], .sl true .pub 0 [], .sl true .pub 0 [], .sl true .pub 0 [], .sl true .pub 0 [], .sl true .pub 0 [], .sl true .pub 0 [], .sl true .pub 0 [], .sl true .pub 0 [], .sl true .pub 0 [], .sl true .pub 0 [], .sl true .pub 0 [], .sl true .pub 0 [], .sl true .pub 0 [], .sl true .pub 0 [], .sl true .pub 0 [], .sl true .pub 0 [], .sl true .pub 0 [], .sl true .pub 0 [], .sl true .pub 0 [], .sl true .pub 0 []] [(0, 1, (.t 10)), (2, 1, (.t 11))]⟩,
    ⟨none, .bxH 13 (.t 12)⟩,
    ⟨none, .mv 2 (.t 13)⟩,
    ⟨none, .mv 3 (.c (.int .i64 0))⟩])
  (.ret)))
theorem comp24 : compFn Try.prog [] Try.f24 = some ([.t 2, .t 3], c24) := by kernel_rfl
/-- (*topiary/oplog.Log).All: 1 parameters, 6 slots. -/
def c25 : C :=
  .seq (.ops [⟨none, .mv 2 (.c (.sl true .pub 13 []))⟩])
  (.seq (.ops [⟨none, .mv 3 (.t 0)⟩,
    ⟨none, .ca (some 4) 13 [(.t 3), (.c (.sl true .pub 0 []))]⟩,
    ⟨none, .ca (some 5) 55 [(.t 4)]⟩,
    ⟨none, .mv 2 (.t 5)⟩])
  (.ret))
theorem comp25 : compFn Try.prog [] Try.f25 = some ([.t 2], c25) := by kernel_rfl
/-- topiary/topiaryref01.Less: 2 parameters, 24 slots. -/
def c26 : C :=
  .seq (.ops [⟨none, .bxL 2 (.t 0)⟩,
    ⟨none, .bxL 3 (.t 1)⟩,
    ⟨none, .mv 4 (.c (.bool false))⟩])
  (.seq (.ops [⟨none, .fa 5 (.t 2) 0⟩,
    ⟨none, .ld 6 (.t 5) 1 false⟩,
    ⟨none, .fa 7 (.t 3) 0⟩,
    ⟨none, .ld 8 (.t 7) 1 false⟩,
    ⟨none, .bi 9 .lss (.t 6) (.t 8)⟩,
    ⟨none, .mv 10 (.t 9)⟩,
    ⟨some (10, false), .fa 11 (.t 2) 0⟩,
    ⟨some (10, false), .ld 12 (.t 11) 1 false⟩,
    ⟨some (10, false), .fa 13 (.t 3) 0⟩,
    ⟨some (10, false), .ld 14 (.t 13) 1 false⟩,
    ⟨some (10, false), .bi 15 .eql (.t 12) (.t 14)⟩,
    ⟨some (10, false), .mv 16 (.t 15)⟩,
    ⟨some (16, true), .fa 17 (.t 2) 1⟩,
    ⟨some (16, true), .ld 18 (.t 17) 1 false⟩,
    ⟨some (16, true), .fa 19 (.t 3) 1⟩,
    ⟨some (16, true), .ld 20 (.t 19) 1 false⟩,
    ⟨some (16, true), .bi 21 .lss (.t 18) (.t 20)⟩,
    ⟨some (10, false), .pk 22 (.t 16) (.t 21) (.c (.bool false))⟩,
    ⟨none, .pk 23 (.t 10) (.c (.bool true)) (.t 22)⟩,
    ⟨none, .mv 4 (.t 23)⟩])
  (.ret))
theorem comp26 : compFn Try.prog [2, 3] Try.f26 = some ([.t 4], c26) := by kernel_rfl
/-- topiary/topiaryref07.Clock: 1 parameters, 37 slots. -/
def c27 : C :=
  .seq (.ops [⟨none, .mv 2 (.c (.sl true .pub 1 []))⟩])
  (.seq (.ops [⟨none, .ms 6 [.int .i64 0] (.c (.int .i64 64)) (.c (.int .i64 64))⟩,
    ⟨none, .mv 3 (.t 6)⟩])
  (.seq (.seq (.ops [⟨none, .mv 4 (.c (.int .i64 0))⟩])
  (.block 0 (.loop (.seq (.seq (.ops [⟨none, .mv 7 (.t 4)⟩,
    ⟨none, .mv 8 (.t 0)⟩,
    ⟨none, .ln 9 .sl (.t 8)⟩,
    ⟨none, .bi 10 .lss (.t 7) (.t 9)⟩])
  (.cond (.t 10) (.skip)
    (.exit 0)))
  (.cut (.block 1 (.seq (.ops [⟨none, .mv 13 (.t 0)⟩,
    ⟨none, .mv 14 (.t 4)⟩,
    ⟨none, .ia 15 (.t 13) (.t 14) 13⟩,
    ⟨none, .fa 16 (.t 15) 0⟩,
    ⟨none, .fa 17 (.t 16) 1⟩,
    ⟨none, .ld 18 (.t 17) 1 false⟩,
    ⟨none, .mv 5 (.t 18)⟩])
  (.seq (.ops [⟨none, .mv 19 (.t 5)⟩,
    ⟨none, .bi 20 .geq (.t 19) (.c (.int .i64 0))⟩,
    ⟨none, .mv 21 (.t 20)⟩,
    ⟨some (21, true), .mv 22 (.t 5)⟩,
    ⟨some (21, true), .mv 23 (.t 3)⟩,
    ⟨some (21, true), .ln 24 .sl (.t 23)⟩,
    ⟨some (21, true), .bi 25 .lss (.t 22) (.t 24)⟩,
    ⟨none, .pk 26 (.t 21) (.t 25) (.c (.bool false))⟩])
  (.cond (.t 26) (.ops [⟨none, .mv 27 (.t 3)⟩,
      ⟨none, .mv 28 (.t 5)⟩,
      ⟨none, .mv 29 (.t 3)⟩,
      ⟨none, .mv 30 (.t 5)⟩,
      ⟨none, .ia 31 (.t 29) (.t 30) 1⟩,
      ⟨none, .ld 32 (.t 31) 1 false⟩,
      ⟨none, .bi 33 .add (.t 32) (.c (.int .i64 1))⟩,
      ⟨none, .ia 34 (.t 27) (.t 28) 1⟩,
      ⟨none, .se (.t 34) (.t 33) 1⟩])
    (.skip)))))
  (.ops [⟨none, .mv 11 (.t 4)⟩,
    ⟨none, .bi 12 .add (.t 11) (.c (.int .i64 1))⟩,
    ⟨none, .mv 4 (.t 12)⟩]))))))
  (.seq (.ops [⟨none, .mv 35 (.t 3)⟩,
    ⟨none, .ca (some 36) 56 [(.t 35)]⟩,
    ⟨none, .mv 2 (.t 36)⟩])
  (.ret))))
theorem comp27 : compFn Try.prog [1000034] Try.f27 = some ([.t 2], c27) := by kernel_rfl
/-- topiary/topiaryref02.Under: 2 parameters, 20 slots. -/
def c28 : C :=
  .seq (.ops [⟨none, .mv 4 (.c (.bool false))⟩])
  (.seq (.seq (.ops [⟨none, .mv 5 (.c (.int .i64 0))⟩])
  (.block 0 (.loop (.seq (.seq (.ops [⟨none, .mv 6 (.t 5)⟩,
    ⟨none, .mv 7 (.t 0)⟩,
    ⟨none, .ln 8 .sl (.t 7)⟩,
    ⟨none, .bi 9 .lss (.t 6) (.t 8)⟩])
  (.cond (.t 9) (.skip)
    (.exit 0)))
  (.seq (.block 1 (.seq (.opsD [⟨none, .mv 12 (.t 0)⟩,
    ⟨none, .mv 13 (.t 5)⟩,
    ⟨none, .ia 14 (.t 12) (.t 13) 1⟩,
    ⟨none, .ld 15 (.t 14) 1 false⟩,
    ⟨none, .mv 16 (.t 1)⟩,
    ⟨none, .mv 17 (.t 5)⟩,
    ⟨none, .ca (some 18) 29 [(.t 16), (.t 17)]⟩,
    ⟨none, .bi 19 .gtr (.t 15) (.t 18)⟩])
  (.cond (.t 19) (.seq (.ops [⟨none, .mv 4 (.c (.bool false))⟩])
    (.ret))
    (.skip))))
  (.ops [⟨none, .mv 10 (.t 5)⟩,
    ⟨none, .bi 11 .add (.t 10) (.c (.int .i64 1))⟩,
    ⟨none, .mv 5 (.t 11)⟩]))))))
  (.seq (.ops [⟨none, .mv 4 (.c (.bool true))⟩])
  (.ret)))
theorem comp28 : compFn Try.prog [] Try.f28 = some ([.t 4], c28) := by kernel_rfl
/-- topiary/topiaryref02.At: 2 parameters, 17 slots. -/
def c29 : C :=
  .seq (.ops [⟨none, .mv 4 (.c (.int .i64 0))⟩])
  (.seq (.seq (.ops [⟨none, .mv 5 (.t 1)⟩,
    ⟨none, .bi 6 .geq (.t 5) (.c (.int .i64 0))⟩,
    ⟨none, .mv 7 (.t 6)⟩,
    ⟨some (7, true), .mv 8 (.t 1)⟩,
    ⟨some (7, true), .mv 9 (.t 0)⟩,
    ⟨some (7, true), .ln 10 .sl (.t 9)⟩,
    ⟨some (7, true), .bi 11 .lss (.t 8) (.t 10)⟩,
    ⟨none, .pk 12 (.t 7) (.t 11) (.c (.bool false))⟩])
  (.cond (.t 12) (.seq (.ops [⟨none, .mv 13 (.t 0)⟩,
      ⟨none, .mv 14 (.t 1)⟩,
      ⟨none, .ia 15 (.t 13) (.t 14) 1⟩,
      ⟨none, .ld 16 (.t 15) 1 false⟩,
      ⟨none, .mv 4 (.t 16)⟩])
    (.ret))
    (.skip)))
  (.seq (.ops [⟨none, .mv 4 (.c (.int .i64 0))⟩])
  (.ret)))
theorem comp29 : compFn Try.prog [] Try.f29 = some ([.t 4], c29) := by kernel_rfl
def c31 : C :=
  .seq (.ops [⟨none, .bxH 5 (.t 2)⟩,
    ⟨none, .alH 6 [.sl true .pub 0 []]⟩,
    ⟨none, .alH 7 [.bool false]⟩,
    ⟨none, .alH 8 [.int .i64 0]⟩])
  (.seq (.seq (.ops [⟨none, .mv 12 (.t 1)⟩,
    ⟨none, .ca (some 13) 43 [(.t 12)]⟩,
    ⟨none, .mv 9 (.t 13)⟩])
  (.seq (.ops [⟨none, .mv 14 (.t 9)⟩,
    ⟨none, .bi 15 .neq (.t 14) (.c (.int .i64 0))⟩])
  (.cond (.t 15) (.seq (.ops [⟨none, .mv 16 (.t 9)⟩,
      ⟨none, .st (.t 6) (.c (.sl true .pub 0 [])) 1⟩,
      ⟨none, .st (.t 7) (.c (.bool false)) 1⟩,
      ⟨none, .st (.t 8) (.t 16) 1⟩])
    (.ret))
    (.skip))))
  (.seq (.seq (.ops [⟨none, .ld 17 (.t 5) 1 false⟩,
    ⟨none, .bi 18 .lss (.t 17) (.c (.int .i64 1))⟩])
  (.cond (.t 18) (.seq (.ops [⟨none, .st (.t 6) (.c (.sl true .pub 0 [])) 1⟩,
      ⟨none, .st (.t 7) (.c (.bool false)) 1⟩,
      ⟨none, .st (.t 8) (.c (.int .i64 1)) 1⟩])
    (.ret))
    (.skip)))
  (.seq (.ops [⟨none, .alH 10 [.sl true .pub 0 []]⟩])
  (.seq (.seq (.ops [⟨none, .mv 19 (.t 0)⟩,
    ⟨none, .mv 20 (.t 1)⟩,
    ⟨none, .ca (some 21) 13 [(.t 19), (.t 20)]⟩])
  (.block 0 (.range (.t 21) [22] (.ops [⟨none, .alL 11 [.int .i64 0, .int .i64 0, .int .i64 0, .sl true .pub 0 [], .int .i64 0, .int .i64 0, .int .i64 0, .int .i64 0, .int .i64 0, .int .i64 0, .int .i64 0, .str [], .str []]⟩,
    ⟨none, .st (.t 11) (.t 22) 13⟩])
  (.block 1 (.seq (.seq (.ops [⟨none, .ld 23 (.t 10) 1 false⟩,
    ⟨none, .ln 24 .sl (.t 23)⟩,
    ⟨none, .ld 25 (.t 5) 1 false⟩,
    ⟨none, .bi 26 .eql (.t 24) (.t 25)⟩])
  (.cond (.t 26) (.seq (.ops [⟨none, .ld 27 (.t 10) 1 false⟩,
      ⟨none, .st (.t 6) (.t 27) 1⟩,
      ⟨none, .st (.t 7) (.c (.bool true)) 1⟩,
      ⟨none, .st (.t 8) (.c (.int .i64 0)) 1⟩])
    (.ret))
    (.skip)))
  (.ops [⟨none, .ld 28 (.t 10) 1 false⟩,
    ⟨none, .ld 29 (.t 11) 13 true⟩,
    ⟨none, .lit 30 13 [(.t 29)]⟩,
    ⟨none, .ap 31 13 (.t 28) (.t 30)⟩,
    ⟨none, .st (.t 10) (.t 31) 1⟩]))))))
  (.seq (.ops [⟨none, .ld 32 (.t 10) 1 false⟩,
    ⟨none, .st (.t 6) (.t 32) 1⟩,
    ⟨none, .st (.t 7) (.c (.bool false)) 1⟩,
    ⟨none, .st (.t 8) (.c (.int .i64 0)) 1⟩])
  (.ret))))))
theorem comp31 : compFn Try.prog [11] Try.f31 = some ([.c 6 1 false, .c 7 1 false, .c 8 1 false], c31) := by kernel_rfl
/-- topiary/topiaryref07.Since: 3 parameters, 28 slots. -/
def c32 : C :=
  .seq (.ops [⟨none, .mv 6 (.c (.sl true .pub 13 []))⟩,
    ⟨none, .mv 7 (.c (.bool false))⟩,
    ⟨none, .mv 8 (.c (.int .i64 0))⟩])
  (.seq (.seq (.ops [⟨none, .mv 10 (.t 1)⟩,
    ⟨none, .ca (some 11) 16 [(.t 10)]⟩,
    ⟨none, .bi 12 .neq (.t 11) (.c (.int .i64 0))⟩])
  (.cond (.t 12) (.seq (.ops [⟨none, .mv 13 (.t 1)⟩,
      ⟨none, .ca (some 14) 16 [(.t 13)]⟩,
      ⟨none, .mv 6 (.c (.sl true .pub 13 []))⟩,
      ⟨none, .mv 7 (.c (.bool false))⟩,
      ⟨none, .mv 8 (.t 14)⟩])
    (.ret))
    (.skip)))
  (.seq (.seq (.ops [⟨none, .mv 15 (.t 2)⟩,
    ⟨none, .bi 16 .lss (.t 15) (.c (.int .i64 1))⟩])
  (.cond (.t 16) (.seq (.ops [⟨none, .mv 6 (.c (.sl true .pub 13 []))⟩,
      ⟨none, .mv 7 (.c (.bool false))⟩,
      ⟨none, .mv 8 (.c (.int .i64 1))⟩])
    (.ret))
    (.skip)))
  (.seq (.ops [⟨none, .mv 17 (.t 0)⟩,
    ⟨none, .mv 18 (.t 1)⟩,
    ⟨none, .ca (some 19) 17 [(.t 17), (.t 18)]⟩,
    ⟨none, .mv 9 (.t 19)⟩])
  (.seq (.seq (.ops [⟨none, .mv 20 (.t 9)⟩,
    ⟨none, .ln 21 .sl (.t 20)⟩,
    ⟨none, .mv 22 (.t 2)⟩,
    ⟨none, .bi 23 .gtr (.t 21) (.t 22)⟩])
  (.cond (.t 23) (.seq (.ops [⟨none, .mv 24 (.t 9)⟩,
      ⟨none, .mv 25 (.t 2)⟩,
      ⟨none, .sl 26 13 (.t 24) none (some (.t 25))⟩,
      ⟨none, .mv 6 (.t 26)⟩,
      ⟨none, .mv 7 (.c (.bool true))⟩,
      ⟨none, .mv 8 (.c (.int .i64 0))⟩])
    (.ret))
    (.skip)))
  (.seq (.ops [⟨none, .mv 27 (.t 9)⟩,
    ⟨none, .mv 6 (.t 27)⟩,
    ⟨none, .mv 7 (.c (.bool false))⟩,
    ⟨none, .mv 8 (.c (.int .i64 0))⟩])
  (.ret))))))
theorem comp32 : compFn Try.prog [] Try.f32 = some ([.t 6, .t 7, .t 8], c32) := by kernel_rfl
/-- topiary/topiaryref05.SameAll: 2 parameters, 27 slots. -/
def c33 : C :=
  .seq (.ops [⟨none, .mv 4 (.c (.bool false))⟩])
  (.seq (.seq (.ops [⟨none, .mv 6 (.t 0)⟩,
    ⟨none, .ln 7 .sl (.t 6)⟩,
    ⟨none, .mv 8 (.t 1)⟩,
    ⟨none, .ln 9 .sl (.t 8)⟩,
    ⟨none, .bi 10 .neq (.t 7) (.t 9)⟩])
  (.cond (.t 10) (.seq (.ops [⟨none, .mv 4 (.c (.bool false))⟩])
    (.ret))
    (.skip)))
  (.seq (.seq (.ops [⟨none, .mv 5 (.c (.int .i64 0))⟩])
  (.block 0 (.loop (.seq (.seq (.ops [⟨none, .mv 11 (.t 5)⟩,
    ⟨none, .mv 12 (.t 0)⟩,
    ⟨none, .ln 13 .sl (.t 12)⟩,
    ⟨none, .bi 14 .lss (.t 11) (.t 13)⟩])
  (.cond (.t 14) (.skip)
    (.exit 0)))
  (.seq (.block 1 (.seq (.opsD [⟨none, .mv 17 (.t 0)⟩,
    ⟨none, .mv 18 (.t 5)⟩,
    ⟨none, .ia 19 (.t 17) (.t 18) 13⟩,
    ⟨none, .ld 20 (.t 19) 13 true⟩,
    ⟨none, .mv 21 (.t 1)⟩,
    ⟨none, .mv 22 (.t 5)⟩,
    ⟨none, .ia 23 (.t 21) (.t 22) 13⟩,
    ⟨none, .ld 24 (.t 23) 13 true⟩,
    ⟨none, .ca (some 25) 18 [(.t 20), (.t 24)]⟩,
    ⟨none, .un 26 .not (.t 25)⟩])
  (.cond (.t 26) (.seq (.ops [⟨none, .mv 4 (.c (.bool false))⟩])
    (.ret))
    (.skip))))
  (.ops [⟨none, .mv 15 (.t 5)⟩,
    ⟨none, .bi 16 .add (.t 15) (.c (.int .i64 1))⟩,
    ⟨none, .mv 5 (.t 16)⟩]))))))
  (.seq (.ops [⟨none, .mv 4 (.c (.bool true))⟩])
  (.ret))))
theorem comp33 : compFn Try.prog [] Try.f33 = some ([.t 4], c33) := by kernel_rfl
def c35 : C :=
  .seq (.ops [⟨none, .bxL 2 (.t 0)⟩,
    ⟨none, .bxL 3 (.t 1)⟩,
    ⟨none, .alL 4 [.int .i64 0, .sl true .pub 0 []]⟩,
    ⟨none, .mv 5 (.c (.int .i64 0))⟩])
  (.seq (.ops [⟨none, .fa 7 (.t 2) 1⟩,
    ⟨none, .ld 8 (.t 7) 1 false⟩,
    ⟨none, .fa 9 (.t 2) 0⟩,
    ⟨none, .ld 10 (.t 9) 1 false⟩,
    ⟨none, .ld 11 (.t 3) 13 true⟩,
    ⟨none, .ca (some 12) 42 [(.t 8), (.t 10), (.t 11)]⟩,
    ⟨none, .mv 6 (.t 12)⟩])
  (.seq (.seq (.ops [⟨none, .mv 13 (.t 6)⟩,
    ⟨none, .bi 14 .neq (.t 13) (.c (.int .i64 0))⟩])
  (.cond (.t 14) (.seq (.ops [⟨none, .ld 15 (.t 2) 2 true⟩,
      ⟨none, .mv 16 (.t 6)⟩,
      ⟨none, .st (.t 4) (.t 15) 2⟩,
      ⟨none, .mv 5 (.t 16)⟩])
    (.ret))
    (.skip)))
  (.seq (.opsD [⟨none, .fa 17 (.t 2) 0⟩,
    ⟨none, .ld 18 (.t 17) 1 false⟩,
    ⟨none, .fa 19 (.t 2) 1⟩,
    ⟨none, .ld 20 (.t 19) 1 false⟩,
    ⟨none, .ld 21 (.t 3) 13 true⟩,
    ⟨none, .ca (some 22) 59 [(.t 20), (.t 21)]⟩,
    ⟨none, .bld 23 [.int .i64 0, .sl true .pub 0 []] [(0, 1, (.t 18)), (1, 1, (.t 22))]⟩,
    ⟨none, .st (.t 4) (.t 23) 2⟩,
    ⟨none, .mv 5 (.c (.int .i64 0))⟩])
  (.ret))))
theorem comp35 : compFn Try.prog [2, 3, 4] Try.f35 = some ([.c 4 2 true, .t 5], c35) := by kernel_rfl
/-- topiary/topiaryref02.Merge: 2 parameters, 32 slots. -/
def c38 : C :=
  .seq (.ops [⟨none, .mv 4 (.c (.sl true .pub 1 []))⟩,
    ⟨none, .mv 5 (.c (.int .i64 0))⟩])
  (.seq (.seq (.ops [⟨none, .mv 8 (.t 0)⟩,
    ⟨none, .mv 9 (.t 1)⟩,
    ⟨none, .ca (some 10) 62 [(.t 8), (.t 9)]⟩,
    ⟨none, .bi 11 .neq (.t 10) (.c (.int .i64 0))⟩])
  (.cond (.t 11) (.seq (.ops [⟨none, .mv 12 (.t 0)⟩,
      ⟨none, .mv 13 (.t 1)⟩,
      ⟨none, .ca (some 14) 62 [(.t 12), (.t 13)]⟩,
      ⟨none, .mv 4 (.c (.sl true .pub 1 []))⟩,
      ⟨none, .mv 5 (.t 14)⟩])
    (.ret))
    (.skip)))
  (.seq (.ops [⟨none, .lit 15 1 []⟩,
    ⟨none, .mv 6 (.t 15)⟩])
  (.seq (.seq (.ops [⟨none, .mv 7 (.c (.int .i64 0))⟩])
  (.block 0 (.loop (.seq (.seq (.ops [⟨none, .mv 16 (.t 7)⟩,
    ⟨none, .bi 17 .lss (.t 16) (.c (.int .i64 64))⟩])
  (.cond (.t 17) (.skip)
    (.exit 0)))
  (.seq (.block 1 (.ops [⟨none, .mv 20 (.t 6)⟩,
    ⟨none, .mv 21 (.t 0)⟩,
    ⟨none, .mv 22 (.t 7)⟩,
    ⟨none, .ca (some 23) 29 [(.t 21), (.t 22)]⟩,
    ⟨none, .mv 24 (.t 1)⟩,
    ⟨none, .mv 25 (.t 7)⟩,
    ⟨none, .ca (some 26) 29 [(.t 24), (.t 25)]⟩,
    ⟨none, .mx 27 (.t 23) (.t 26)⟩,
    ⟨none, .lit 28 1 [(.t 27)]⟩,
    ⟨none, .ap 29 1 (.t 20) (.t 28)⟩,
    ⟨none, .mv 6 (.t 29)⟩]))
  (.ops [⟨none, .mv 18 (.t 7)⟩,
    ⟨none, .bi 19 .add (.t 18) (.c (.int .i64 1))⟩,
    ⟨none, .mv 7 (.t 19)⟩]))))))
  (.seq (.ops [⟨none, .mv 30 (.t 6)⟩,
    ⟨none, .ca (some 31) 56 [(.t 30)]⟩,
    ⟨none, .mv 4 (.t 31)⟩,
    ⟨none, .mv 5 (.c (.int .i64 0))⟩])
  (.ret)))))
theorem comp38 : compFn Try.prog [] Try.f38 = some ([.t 4, .t 5], c38) := by kernel_rfl
/-- (*topiary/oplog.Log).Clock: 1 parameters, 23 slots. -/
def c39 : C :=
  .seq (.ops [⟨none, .mv 2 (.c (.sl true .pub 1 []))⟩])
  (.seq (.seq (.ops [⟨none, .mv 5 (.t 0)⟩,
    ⟨none, .bq 6 false .ptr (.t 5) (.c (.ptr none))⟩])
  (.cond (.t 6) (.seq (.ops [⟨none, .mv 2 (.c (.sl true .pub 1 []))⟩])
    (.ret))
    (.skip)))
  (.seq (.ops [⟨none, .mv 3 (.c (.sl true .pub 1 []))⟩])
  (.seq (.seq (.ops [⟨none, .mv 7 (.c (.int .i64 0))⟩])
  (.block 0 (.loop (.seq (.ops [⟨none, .bi 8 .lss (.t 7) (.c (.int .i64 64))⟩])
  (.seq (.cond (.t 8) (.skip)
    (.exit 0))
  (.seq (.block 1 (.seq (.ops [⟨none, .mv 9 (.t 7)⟩,
    ⟨none, .mv 4 (.t 9)⟩])
  (.ops [⟨none, .mv 10 (.t 3)⟩,
    ⟨none, .mv 11 (.t 0)⟩,
    ⟨none, .mv 12 (.t 4)⟩,
    ⟨none, .nc 13 (.t 11)⟩,
    ⟨none, .fa 14 (.t 13) 3⟩,
    ⟨none, .iA 15 (.t 14) (.t 12) 1 64⟩,
    ⟨none, .ld 16 (.t 15) 1 false⟩,
    ⟨none, .ln 17 .sl (.t 16)⟩,
    ⟨none, .lit 18 1 [(.t 17)]⟩,
    ⟨none, .ap 19 1 (.t 10) (.t 18)⟩,
    ⟨none, .mv 3 (.t 19)⟩])))
  (.ops [⟨none, .bi 20 .add (.t 7) (.c (.int .i64 1))⟩,
    ⟨none, .mv 7 (.t 20)⟩])))))))
  (.seq (.ops [⟨none, .mv 21 (.t 3)⟩,
    ⟨none, .ca (some 22) 63 [(.t 21)]⟩,
    ⟨none, .mv 2 (.t 22)⟩])
  (.ret)))))
theorem comp39 : compFn Try.prog [] Try.f39 = some ([.t 2], c39) := by kernel_rfl
/-- topiary/topiaryref02.Same: 2 parameters, 26 slots. -/
def c40 : C :=
  .seq (.ops [⟨none, .mv 4 (.c (.bool false))⟩])
  (.seq (.seq (.ops [⟨none, .mv 6 (.t 0)⟩,
    ⟨none, .ln 7 .sl (.t 6)⟩,
    ⟨none, .mv 8 (.t 1)⟩,
    ⟨none, .ln 9 .sl (.t 8)⟩,
    ⟨none, .bi 10 .neq (.t 7) (.t 9)⟩])
  (.cond (.t 10) (.seq (.ops [⟨none, .mv 4 (.c (.bool false))⟩])
    (.ret))
    (.skip)))
  (.seq (.seq (.ops [⟨none, .mv 5 (.c (.int .i64 0))⟩])
  (.block 0 (.loop (.seq (.seq (.ops [⟨none, .mv 11 (.t 5)⟩,
    ⟨none, .mv 12 (.t 0)⟩,
    ⟨none, .ln 13 .sl (.t 12)⟩,
    ⟨none, .bi 14 .lss (.t 11) (.t 13)⟩])
  (.cond (.t 14) (.skip)
    (.exit 0)))
  (.seq (.block 1 (.seq (.opsD [⟨none, .mv 17 (.t 0)⟩,
    ⟨none, .mv 18 (.t 5)⟩,
    ⟨none, .ia 19 (.t 17) (.t 18) 1⟩,
    ⟨none, .ld 20 (.t 19) 1 false⟩,
    ⟨none, .mv 21 (.t 1)⟩,
    ⟨none, .mv 22 (.t 5)⟩,
    ⟨none, .ia 23 (.t 21) (.t 22) 1⟩,
    ⟨none, .ld 24 (.t 23) 1 false⟩,
    ⟨none, .bi 25 .neq (.t 20) (.t 24)⟩])
  (.cond (.t 25) (.seq (.ops [⟨none, .mv 4 (.c (.bool false))⟩])
    (.ret))
    (.skip))))
  (.ops [⟨none, .mv 15 (.t 5)⟩,
    ⟨none, .bi 16 .add (.t 15) (.c (.int .i64 1))⟩,
    ⟨none, .mv 5 (.t 16)⟩]))))))
  (.seq (.ops [⟨none, .mv 4 (.c (.bool true))⟩])
  (.ret))))
theorem comp40 : compFn Try.prog [] Try.f40 = some ([.t 4], c40) := by kernel_rfl
/-- (*topiary/oplog.Log).Clone: 1 parameters, 71 slots. -/
def c43 : C :=
  .seq (.ops [⟨none, .mv 2 (.c (.int .i64 0))⟩])
  (.seq (.seq (.ops [⟨none, .mv 5 (.t 0)⟩,
    ⟨none, .ln 6 .sl (.t 5)⟩,
    ⟨none, .bi 7 .gtr (.t 6) (.c (.int .i64 64))⟩])
  (.cond (.t 7) (.seq (.ops [⟨none, .mv 2 (.c (.int .i64 3))⟩])
    (.ret))
    (.skip)))
  (.seq (.seq (.ops [⟨none, .mv 8 (.t 0)⟩,
    ⟨none, .ln 9 .sl (.t 8)⟩,
    ⟨none, .mv 10 (.c (.int .i64 0))⟩])
  (.block 0 (.loop (.seq (.ops [⟨none, .bi 11 .lss (.t 10) (.t 9)⟩])
  (.seq (.cond (.t 11) (.skip)
    (.exit 0))
  (.seq (.block 1 (.seq (.ops [⟨none, .ia 12 (.t 8) (.t 10) 1⟩,
    ⟨none, .ld 13 (.t 12) 1 false⟩,
    ⟨none, .mv 4 (.t 13)⟩])
  (.seq (.ops [⟨none, .mv 14 (.t 4)⟩,
    ⟨none, .bi 15 .lss (.t 14) (.c (.int .i64 0))⟩,
    ⟨none, .mv 16 (.t 15)⟩,
    ⟨some (16, false), .mv 17 (.t 4)⟩,
    ⟨some (16, false), .bi 18 .gtr (.t 17) (.c (.int .i64 1099511627776))⟩,
    ⟨none, .pk 19 (.t 16) (.c (.bool true)) (.t 18)⟩])
  (.cond (.t 19) (.seq (.ops [⟨none, .mv 2 (.c (.int .i64 1))⟩])
    (.ret))
    (.skip)))))
  (.ops [⟨none, .bi 20 .add (.t 10) (.c (.int .i64 1))⟩,
    ⟨none, .mv 10 (.t 20)⟩])))))))
  (.seq (.ops [⟨none, .mv 2 (.c (.int .i64 0))⟩])
  (.ret))))
theorem comp43 : compFn Try.prog [] Try.f43 = some ([.t 2], c43) := by kernel_rfl
/-- topiary/clock.At: 2 parameters, 17 slots. -/
def c44 : C :=
  .seq (.ops [⟨none, .mv 4 (.c (.int .i64 0))⟩])
  (.seq (.seq (.ops [⟨none, .mv 5 (.t 1)⟩,
    ⟨none, .bi 6 .lss (.t 5) (.c (.int .i64 0))⟩,
    ⟨none, .mv 7 (.t 6)⟩,
    ⟨some (7, false), .mv 8 (.t 1)⟩,
    ⟨some (7, false), .mv 9 (.t 0)⟩,
    ⟨some (7, false), .ln 10 .sl (.t 9)⟩,
    ⟨some (7, false), .bi 11 .geq (.t 8) (.t 10)⟩,
    ⟨none, .pk 12 (.t 7) (.c (.bool true)) (.t 11)⟩])
  (.cond (.t 12) (.seq (.ops [⟨none, .mv 4 (.c (.int .i64 0))⟩])
    (.ret))
    (.skip)))
  (.seq (.ops [⟨none, .mv 13 (.t 0)⟩,
    ⟨none, .mv 14 (.t 1)⟩,
    ⟨none, .ia 15 (.t 13) (.t 14) 1⟩,
    ⟨none, .ld 16 (.t 15) 1 false⟩,
    ⟨none, .mv 4 (.t 16)⟩])
  (.ret)))
theorem comp44 : compFn Try.prog [] Try.f44 = some ([.t 4], c44) := by kernel_rfl
/-- topiary/change.Copy: 1 parameters, 9 slots. -/
def c45 : C :=
  .seq (.ops [⟨none, .bxL 1 (.t 0)⟩,
    ⟨none, .alL 2 [.int .i64 0, .int .i64 0, .int .i64 0, .sl true .pub 0 [], .int .i64 0, .int .i64 0, .int .i64 0, .int .i64 0, .int .i64 0, .int .i64 0, .int .i64 0, .str [], .str []]⟩])
  (.seq (.ops [⟨none, .lit 3 1 []⟩,
    ⟨none, .fa 4 (.t 1) 3⟩,
    ⟨none, .ld 5 (.t 4) 1 false⟩,
    ⟨none, .ap 6 1 (.t 3) (.t 5)⟩,
    ⟨none, .fa 7 (.t 1) 3⟩,
    ⟨none, .st (.t 7) (.t 6) 1⟩])
  (.seq (.ops [⟨none, .ld 8 (.t 1) 13 true⟩,
    ⟨none, .st (.t 2) (.t 8) 13⟩])
  (.ret)))
theorem comp45 : compFn Try.prog [1, 2] Try.f45 = some ([.c 2 13 true], c45) := by kernel_rfl
/-- (*topiary/oplog.Log).Each$1: 1 parameters, 17 slots. -/
def c46 : C :=
  .seq (.ops [⟨none, .ld 5 (.t 1) 1 false⟩,
    ⟨none, .ln 6 .sl (.t 5)⟩,
    ⟨none, .mv 7 (.c (.int .i64 0))⟩])
  (.block 0 (.loop (.seq (.ops [⟨none, .bi 8 .lss (.t 7) (.t 6)⟩])
  (.seq (.cond (.t 8) (.skip)
    (.exit 0))
  (.seq (.block 1 (.seq (.ops [⟨none, .ia 9 (.t 5) (.t 7) 13⟩,
    ⟨none, .ld 10 (.t 9) 13 true⟩,
    ⟨none, .alL 4 [.int .i64 0, .int .i64 0, .int .i64 0, .sl true .pub 0 [], .int .i64 0, .int .i64 0, .int .i64 0, .int .i64 0, .int .i64 0, .int .i64 0, .int .i64 0, .str [], .str []]⟩,
    ⟨none, .st (.t 4) (.t 10) 13⟩])
  (.seq (.ops [⟨none, .mv 11 (.t 0)⟩,
    ⟨none, .ld 12 (.t 4) 13 true⟩,
    ⟨none, .ca (some 13) 45 [(.t 12)]⟩,
    ⟨none, .cv (some 14) (.t 11) [(.t 13)]⟩,
    ⟨none, .un 15 .not (.t 14)⟩])
  (.cond (.t 15) (.ret)
    (.skip)))))
  (.ops [⟨none, .bi 16 .add (.t 7) (.c (.int .i64 1))⟩,
    ⟨none, .mv 7 (.t 16)⟩]))))))
theorem comp46 : compFn Try.prog [4] Try.f46 = some ([], c46) := by kernel_rfl
/-- topiary/change.Check: 1 parameters, 45 slots. -/
def c47 : C :=
  .seq (.ops [⟨none, .bxL 1 (.t 0)⟩,
    ⟨none, .mv 2 (.c (.int .i64 0))⟩])
  (.seq (.block 0 (.seq (.ops [⟨none, .fa 5 (.t 1) 4⟩,
    ⟨none, .ld 6 (.t 5) 1 false⟩,
    ⟨none, .bi 7 .lss (.t 6) (.c (.int .i64 1))⟩,
    ⟨none, .mv 8 (.t 7)⟩,
    ⟨some (8, false), .fa 9 (.t 1) 4⟩,
    ⟨some (8, false), .ld 10 (.t 9) 1 false⟩,
    ⟨some (8, false), .bi 11 .gtr (.t 10) (.c (.int .i64 5))⟩,
    ⟨none, .pk 12 (.t 8) (.c (.bool true)) (.t 11)⟩,
    ⟨none, .mv 4 (.t 12)⟩])
  (.cond (.t 4) (.seq (.ops [⟨none, .mv 2 (.c (.int .i64 1))⟩])
    (.ret))
    (.seq (.ops [⟨none, .fa 14 (.t 1) 0⟩,
      ⟨none, .ld 15 (.t 14) 2 true⟩,
      ⟨none, .ca (some 16) 66 [(.t 15)]⟩,
      ⟨none, .un 17 .not (.t 16)⟩,
      ⟨none, .mv 13 (.t 17)⟩])
    (.cond (.t 13) (.seq (.ops [⟨none, .mv 2 (.c (.int .i64 2))⟩])
      (.ret))
      (.seq (.ops [⟨none, .fa 19 (.t 1) 2⟩,
        ⟨none, .ld 20 (.t 19) 1 false⟩,
        ⟨none, .bi 21 .lss (.t 20) (.c (.int .i64 1))⟩,
        ⟨none, .mv 22 (.t 21)⟩,
        ⟨some (22, false), .fa 23 (.t 1) 2⟩,
        ⟨some (22, false), .ld 24 (.t 23) 1 false⟩,
        ⟨some (22, false), .fa 25 (.t 1) 0⟩,
        ⟨some (22, false), .fa 26 (.t 25) 0⟩,
        ⟨some (22, false), .ld 27 (.t 26) 1 false⟩,
        ⟨some (22, false), .bi 28 .gtr (.t 24) (.t 27)⟩,
        ⟨none, .pk 29 (.t 22) (.c (.bool true)) (.t 28)⟩,
        ⟨none, .mv 18 (.t 29)⟩])
      (.cond (.t 18) (.seq (.ops [⟨none, .mv 2 (.c (.int .i64 1))⟩])
        (.ret))
        (.skip))))))))
  (.seq (.seq (.ops [⟨none, .ld 30 (.t 1) 13 true⟩,
    ⟨none, .ca (some 31) 67 [(.t 30)]⟩,
    ⟨none, .mv 3 (.t 31)⟩])
  (.seq (.ops [⟨none, .mv 32 (.t 3)⟩,
    ⟨none, .bi 33 .neq (.t 32) (.c (.int .i64 0))⟩])
  (.cond (.t 33) (.seq (.ops [⟨none, .mv 34 (.t 3)⟩,
      ⟨none, .mv 2 (.t 34)⟩])
    (.ret))
    (.skip))))
  (.seq (.seq (.ops [⟨none, .ld 35 (.t 1) 13 true⟩,
    ⟨none, .ca (some 36) 68 [(.t 35)]⟩,
    ⟨none, .un 37 .not (.t 36)⟩,
    ⟨none, .mv 38 (.t 37)⟩,
    ⟨some (38, false), .ld 39 (.t 1) 13 true⟩,
    ⟨some (38, false), .ca (some 40) 69 [(.t 39)]⟩,
    ⟨some (38, false), .un 41 .not (.t 40)⟩,
    ⟨none, .pk 42 (.t 38) (.c (.bool true)) (.t 41)⟩])
  (.cond (.t 42) (.seq (.ops [⟨none, .mv 2 (.c (.int .i64 2))⟩])
    (.ret))
    (.skip)))
  (.seq (.ops [⟨none, .ld 43 (.t 1) 13 true⟩,
    ⟨none, .ca (some 44) 70 [(.t 43)]⟩,
    ⟨none, .mv 2 (.t 44)⟩])
  (.ret)))))
theorem comp47 : compFn Try.prog [1] Try.f47 = some ([.t 2], c47) := by kernel_rfl
/-- (*topiary/oplog.Log).known: 2 parameters, 36 slots. -/
def c48 : C :=
  .seq (.ops [⟨none, .bxL 3 (.t 1)⟩,
    ⟨none, .mv 4 (.c (.int .i64 0))⟩])
  (.seq (.seq (.ops [⟨none, .mv 8 (.t 0)⟩,
    ⟨none, .fa 9 (.t 3) 0⟩,
    ⟨none, .ld 10 (.t 9) 2 true⟩,
    ⟨none, .ca (some 11) 50 [(.t 8), (.t 10)]⟩,
    ⟨none, .mv 7 (.t 11)⟩,
    ⟨none, .ex 12 (.t 7) 0⟩,
    ⟨none, .ex 13 (.t 7) 1⟩,
    ⟨none, .mv 5 (.t 12)⟩,
    ⟨none, .mv 6 (.t 13)⟩])
  (.seq (.ops [⟨none, .mv 14 (.t 6)⟩])
  (.cond (.t 14) (.seq (.seq (.opsD [⟨none, .mv 15 (.t 0)⟩,
      ⟨none, .nc 16 (.t 15)⟩,
      ⟨none, .fa 17 (.t 16) 1⟩,
      ⟨none, .ld 18 (.t 17) 1 false⟩,
      ⟨none, .mv 19 (.t 5)⟩,
      ⟨none, .ia 20 (.t 18) (.t 19) 13⟩,
      ⟨none, .ld 21 (.t 20) 13 true⟩,
      ⟨none, .ld 22 (.t 3) 13 true⟩,
      ⟨none, .ca (some 23) 71 [(.t 21), (.t 22)]⟩])
    (.cond (.t 23) (.seq (.ops [⟨none, .mv 4 (.c (.int .i64 5))⟩])
      (.ret))
      (.skip)))
    (.seq (.ops [⟨none, .mv 4 (.c (.int .i64 7))⟩])
    (.ret)))
    (.skip))))
  (.seq (.seq (.opsD [⟨none, .fa 24 (.t 3) 2⟩,
    ⟨none, .ld 25 (.t 24) 1 false⟩,
    ⟨none, .mv 26 (.t 0)⟩,
    ⟨none, .fa 27 (.t 3) 0⟩,
    ⟨none, .fa 28 (.t 27) 1⟩,
    ⟨none, .ld 29 (.t 28) 1 false⟩,
    ⟨none, .nc 30 (.t 26)⟩,
    ⟨none, .fa 31 (.t 30) 3⟩,
    ⟨none, .iA 32 (.t 31) (.t 29) 1 64⟩,
    ⟨none, .ld 33 (.t 32) 1 false⟩,
    ⟨none, .ln 34 .sl (.t 33)⟩,
    ⟨none, .bi 35 .leq (.t 25) (.t 34)⟩])
  (.cond (.t 35) (.seq (.ops [⟨none, .mv 4 (.c (.int .i64 7))⟩])
    (.ret))
    (.skip)))
  (.seq (.ops [⟨none, .mv 4 (.c (.int .i64 0))⟩])
  (.ret))))
theorem comp48 : compFn Try.prog [3] Try.f48 = some ([.t 4], c48) := by kernel_rfl
/-- (*topiary/oplog.Log).ready: 2 parameters, 95 slots. -/
def c49 : C :=
  .seq (.ops [⟨none, .bxH 2 (.t 0)⟩,
    ⟨none, .bxH 3 (.t 1)⟩,
    ⟨none, .alH 4 [.int .i64 0]⟩])
  (.seq (.seq (.opsD [⟨none, .fa 12 (.t 3) 2⟩,
    ⟨none, .ld 13 (.t 12) 1 false⟩,
    ⟨none, .ld 14 (.t 2) 1 false⟩,
    ⟨none, .fa 15 (.t 3) 0⟩,
    ⟨none, .fa 16 (.t 15) 1⟩,
    ⟨none, .ld 17 (.t 16) 1 false⟩,
    ⟨none, .nc 18 (.t 14)⟩,
    ⟨none, .fa 19 (.t 18) 3⟩,
    ⟨none, .iA 20 (.t 19) (.t 17) 1 64⟩,
    ⟨none, .ld 21 (.t 20) 1 false⟩,
    ⟨none, .ln 22 .sl (.t 21)⟩,
    ⟨none, .bi 23 .add (.t 22) (.c (.int .i64 1))⟩,
    ⟨none, .bi 24 .neq (.t 13) (.t 23)⟩])
  (.cond (.t 24) (.seq (.ops [⟨none, .st (.t 4) (.c (.int .i64 4)) 1⟩])
    (.ret))
    (.skip)))
  (.seq (.seq (.ops [⟨none, .fa 25 (.t 3) 3⟩,
    ⟨none, .ld 26 (.t 25) 1 false⟩,
    ⟨none, .ln 27 .sl (.t 26)⟩,
    ⟨none, .mv 28 (.c (.int .i64 0))⟩])
  (.block 0 (.loop (.seq (.ops [⟨none, .bi 29 .lss (.t 28) (.t 27)⟩])
  (.seq (.cond (.t 29) (.skip)
    (.exit 0))
  (.seq (.block 1 (.seq (.ops [⟨none, .mv 30 (.t 28)⟩,
    ⟨none, .ia 31 (.t 26) (.t 28) 1⟩,
    ⟨none, .ld 32 (.t 31) 1 false⟩,
    ⟨none, .mv 5 (.t 30)⟩,
    ⟨none, .mv 6 (.t 32)⟩])
  (.seq (.ops [⟨none, .mv 33 (.t 6)⟩,
    ⟨none, .ld 34 (.t 2) 1 false⟩,
    ⟨none, .mv 35 (.t 5)⟩,
    ⟨none, .nc 36 (.t 34)⟩,
    ⟨none, .fa 37 (.t 36) 3⟩,
    ⟨none, .iA 38 (.t 37) (.t 35) 1 64⟩,
    ⟨none, .ld 39 (.t 38) 1 false⟩,
    ⟨none, .ln 40 .sl (.t 39)⟩,
    ⟨none, .bi 41 .gtr (.t 33) (.t 40)⟩])
  (.cond (.t 41) (.seq (.ops [⟨none, .st (.t 4) (.c (.int .i64 4)) 1⟩])
    (.ret))
    (.skip)))))
  (.ops [⟨none, .bi 42 .add (.t 28) (.c (.int .i64 1))⟩,
    ⟨none, .mv 28 (.t 42)⟩])))))))
  (.seq (.seq (.ops [⟨none, .fa 43 (.t 3) 3⟩,
    ⟨none, .ld 44 (.t 43) 1 false⟩,
    ⟨none, .ln 45 .sl (.t 44)⟩,
    ⟨none, .mv 46 (.c (.int .i64 0))⟩])
  (.block 2 (.loop (.seq (.ops [⟨none, .bi 47 .lss (.t 46) (.t 45)⟩])
  (.seq (.cond (.t 47) (.skip)
    (.exit 2))
  (.seq (.block 3 (.seq (.ops [⟨none, .mv 48 (.t 46)⟩,
    ⟨none, .ia 49 (.t 44) (.t 46) 1⟩,
    ⟨none, .ld 50 (.t 49) 1 false⟩,
    ⟨none, .mv 7 (.t 48)⟩,
    ⟨none, .mv 8 (.t 50)⟩])
  (.seq (.opsD [⟨none, .mv 51 (.t 8)⟩,
    ⟨none, .bi 52 .gtr (.t 51) (.c (.int .i64 0))⟩,
    ⟨none, .mv 53 (.t 52)⟩,
    ⟨some (53, true), .ld 54 (.t 2) 1 false⟩,
    ⟨some (53, true), .mv 55 (.t 7)⟩,
    ⟨some (53, true), .nc 56 (.t 54)⟩,
    ⟨some (53, true), .fa 57 (.t 56) 3⟩,
    ⟨some (53, true), .iA 58 (.t 57) (.t 55) 1 64⟩,
    ⟨some (53, true), .ld 59 (.t 58) 1 false⟩,
    ⟨some (53, true), .mv 60 (.t 8)⟩,
    ⟨some (53, true), .bi 61 .sub (.t 60) (.c (.int .i64 1))⟩,
    ⟨some (53, true), .ia 62 (.t 59) (.t 61) 2⟩,
    ⟨some (53, true), .ld 63 (.t 62) 2 true⟩,
    ⟨some (53, true), .fa 64 (.t 3) 0⟩,
    ⟨some (53, true), .ld 65 (.t 64) 2 true⟩,
    ⟨some (53, true), .ca (some 66) 72 [(.t 63), (.t 65)]⟩,
    ⟨some (53, true), .un 67 .not (.t 66)⟩,
    ⟨none, .pk 68 (.t 53) (.t 67) (.c (.bool false))⟩])
  (.cond (.t 68) (.seq (.ops [⟨none, .st (.t 4) (.c (.int .i64 2)) 1⟩])
    (.ret))
    (.skip)))))
  (.ops [⟨none, .bi 69 .add (.t 46) (.c (.int .i64 1))⟩,
    ⟨none, .mv 46 (.t 69)⟩])))))))
  (.seq (.seq (.ops [⟨none, .ld 70 (.t 3) 13 true⟩,
    ⟨none, .ca (some 71) 74 [(.t 70)]⟩,
    ⟨none, .ca (some 72) 73 [(.t 71)]⟩])
  (.block 4 (.range (.t 72) [73] (.ops [⟨none, .alL 9 [.int .i64 0, .int .i64 0]⟩,
    ⟨none, .st (.t 9) (.t 73) 2⟩])
  (.block 5 (.seq (.opsD [⟨none, .ld 75 (.t 2) 1 false⟩,
    ⟨none, .nc 76 (.t 75)⟩,
    ⟨none, .fa 77 (.t 76) 2⟩,
    ⟨none, .ld 78 (.t 77) 1 false⟩,
    ⟨none, .ld 79 (.t 9) 2 true⟩,
    ⟨none, .lk 80 [.agg, .int .i64, .int .i64] (.t 78) (.t 79) true (.agg [.int .i64 0])⟩,
    ⟨none, .mv 74 (.t 80)⟩,
    ⟨none, .ex 81 (.t 74) 0⟩,
    ⟨none, .ex 82 (.t 74) 1⟩,
    ⟨none, .alH 10 [.int .i64 0]⟩,
    ⟨none, .st (.t 10) (.t 81) 1⟩,
    ⟨none, .mv 11 (.t 82)⟩])
  (.seq (.opsD [⟨none, .mv 83 (.t 11)⟩,
    ⟨none, .un 84 .not (.t 83)⟩,
    ⟨none, .mv 85 (.t 84)⟩,
    ⟨some (85, false), .fa 86 (.t 10) 0⟩,
    ⟨some (85, false), .ld 87 (.t 86) 1 false⟩,
    ⟨some (85, false), .fa 88 (.t 3) 3⟩,
    ⟨some (85, false), .ld 89 (.t 88) 1 false⟩,
    ⟨some (85, false), .fa 90 (.t 9) 1⟩,
    ⟨some (85, false), .ld 91 (.t 90) 1 false⟩,
    ⟨some (85, false), .ca (some 92) 44 [(.t 89), (.t 91)]⟩,
    ⟨some (85, false), .bi 93 .gtr (.t 87) (.t 92)⟩,
    ⟨none, .pk 94 (.t 85) (.c (.bool true)) (.t 93)⟩])
  (.cond (.t 94) (.seq (.ops [⟨none, .st (.t 4) (.c (.int .i64 2)) 1⟩])
    (.ret))
    (.skip))))))))
  (.seq (.ops [⟨none, .st (.t 4) (.c (.int .i64 0)) 1⟩])
  (.ret))))))
theorem comp49 : compFn Try.prog [9] Try.f49 = some ([.c 4 1 false], c49) := by kernel_rfl
/-- (*topiary/oplog.Log).place: 2 parameters, 14 slots. -/
def c50 : C :=
  .seq (.ops [⟨none, .bxL 3 (.t 1)⟩,
    ⟨none, .mv 4 (.c (.int .i64 0))⟩,
    ⟨none, .mv 5 (.c (.bool false))⟩])
  (.seq (.opsD [⟨none, .mv 6 (.t 0)⟩,
    ⟨none, .nc 7 (.t 6)⟩,
    ⟨none, .fa 8 (.t 7) 1⟩,
    ⟨none, .ld 9 (.t 8) 1 false⟩,
    ⟨none, .ld 10 (.t 3) 2 true⟩,
    ⟨none, .ca (some 11) 75 [(.t 9), (.t 10), (.c (.fn 76 []))]⟩,
    ⟨none, .ex 12 (.t 11) 0⟩,
    ⟨none, .ex 13 (.t 11) 1⟩,
    ⟨none, .mv 4 (.t 12)⟩,
    ⟨none, .mv 5 (.t 13)⟩])
  (.ret))
theorem comp50 : compFn Try.prog [3] Try.f50 = some ([.t 4, .t 5], c50) := by kernel_rfl
end Go.VL.opl

namespace Go.VL.opl
open Go Go.VL Go.Proofs
/-- topiary/topiaryref07.Within: 2 parameters, 13 slots. -/
def c52 : C :=
  .seq (.ops [⟨none, .bxL 2 (.t 0)⟩,
    ⟨none, .mv 4 (.c (.bool false))⟩])
  (.seq (.opsD [⟨none, .fa 5 (.t 2) 2⟩,
    ⟨none, .ld 6 (.t 5) 1 false⟩,
    ⟨none, .mv 7 (.t 1)⟩,
    ⟨none, .fa 8 (.t 2) 0⟩,
    ⟨none, .fa 9 (.t 8) 1⟩,
    ⟨none, .ld 10 (.t 9) 1 false⟩,
    ⟨none, .ca (some 11) 29 [(.t 7), (.t 10)]⟩,
    ⟨none, .bi 12 .leq (.t 6) (.t 11)⟩,
    ⟨none, .mv 4 (.t 12)⟩])
  (.ret))
theorem comp52 : compFn Try.prog [2] Try.f52 = some ([.t 4], c52) := by kernel_rfl
/-- (*topiary/oplog.Log).Len: 1 parameters, 10 slots. -/
def c53 : C :=
  .seq (.ops [⟨none, .mv 2 (.c (.int .i64 0))⟩])
  (.seq (.seq (.ops [⟨none, .mv 3 (.t 0)⟩,
    ⟨none, .bq 4 false .ptr (.t 3) (.c (.ptr none))⟩])
  (.cond (.t 4) (.seq (.ops [⟨none, .mv 2 (.c (.int .i64 0))⟩])
    (.ret))
    (.skip)))
  (.seq (.ops [⟨none, .mv 5 (.t 0)⟩,
    ⟨none, .nc 6 (.t 5)⟩,
    ⟨none, .fa 7 (.t 6) 1⟩,
    ⟨none, .ld 8 (.t 7) 1 false⟩,
    ⟨none, .ln 9 .sl (.t 8)⟩,
    ⟨none, .mv 2 (.t 9)⟩])
  (.ret)))
theorem comp53 : compFn Try.prog [] Try.f53 = some ([.t 2], c53) := by kernel_rfl
/-- (*topiary/oplog.Log).Last: 1 parameters, 20 slots. -/
def c54 : C :=
  .seq (.ops [⟨none, .mv 2 (.c (.int .i64 0))⟩])
  (.seq (.seq (.ops [⟨none, .mv 3 (.t 0)⟩,
    ⟨none, .ca (some 4) 53 [(.t 3)]⟩,
    ⟨none, .bi 5 .eql (.t 4) (.c (.int .i64 0))⟩])
  (.cond (.t 5) (.seq (.ops [⟨none, .mv 2 (.c (.int .i64 0))⟩])
    (.ret))
    (.skip)))
  (.seq (.opsD [⟨none, .mv 6 (.t 0)⟩,
    ⟨none, .nc 7 (.t 6)⟩,
    ⟨none, .fa 8 (.t 7) 1⟩,
    ⟨none, .ld 9 (.t 8) 1 false⟩,
    ⟨none, .mv 10 (.t 0)⟩,
    ⟨none, .nc 11 (.t 10)⟩,
    ⟨none, .fa 12 (.t 11) 1⟩,
    ⟨none, .ld 13 (.t 12) 1 false⟩,
    ⟨none, .ln 14 .sl (.t 13)⟩,
    ⟨none, .bi 15 .sub (.t 14) (.c (.int .i64 1))⟩,
    ⟨none, .ia 16 (.t 9) (.t 15) 13⟩,
    ⟨none, .fa 17 (.t 16) 0⟩,
    ⟨none, .fa 18 (.t 17) 0⟩,
    ⟨none, .ld 19 (.t 18) 1 false⟩,
    ⟨none, .mv 2 (.t 19)⟩])
  (.ret)))
theorem comp54 : compFn Try.prog [] Try.f54 = some ([.t 2], c54) := by kernel_rfl
/-- slices.Collect[topiary/api.Change]: 1 parameters, 5 slots. -/
def c55 : C :=
  .seq (.ops [⟨none, .mv 2 (.c (.sl true .pub 13 []))⟩])
  (.seq (.ops [⟨none, .mv 3 (.t 0)⟩,
    ⟨none, .ca (some 4) 80 [(.c (.sl true .pub 0 [])), (.t 3)]⟩,
    ⟨none, .mv 2 (.t 4)⟩])
  (.ret))
theorem comp55 : compFn Try.prog [] Try.f55 = some ([.t 2], c55) := by kernel_rfl
/-- topiary/topiaryref02.Trim: 1 parameters, 35 slots. -/
def c56 : C :=
  .seq (.ops [⟨none, .mv 2 (.c (.sl true .pub 1 []))⟩])
  (.seq (.ops [⟨none, .lit 6 1 []⟩,
    ⟨none, .mv 3 (.t 6)⟩])
  (.seq (.ops [⟨none, .mv 4 (.c (.int .i64 0))⟩])
  (.seq (.seq (.ops [⟨none, .mv 5 (.c (.int .i64 0))⟩])
  (.block 0 (.loop (.seq (.seq (.ops [⟨none, .mv 7 (.t 5)⟩,
    ⟨none, .mv 8 (.t 0)⟩,
    ⟨none, .ln 9 .sl (.t 8)⟩,
    ⟨none, .bi 10 .lss (.t 7) (.t 9)⟩])
  (.cond (.t 10) (.skip)
    (.exit 0)))
  (.cut (.block 1 (.seq (.seq (.ops [⟨none, .mv 13 (.t 0)⟩,
    ⟨none, .mv 14 (.t 5)⟩,
    ⟨none, .ia 15 (.t 13) (.t 14) 1⟩,
    ⟨none, .ld 16 (.t 15) 1 false⟩,
    ⟨none, .bi 17 .eql (.t 16) (.c (.int .i64 0))⟩])
  (.cond (.t 17) (.seq (.ops [⟨none, .mv 18 (.t 4)⟩,
      ⟨none, .bi 19 .add (.t 18) (.c (.int .i64 1))⟩,
      ⟨none, .mv 4 (.t 19)⟩])
    (.exit 1))
    (.skip)))
  (.seq (.block 2 (.loop (.seq (.seq (.ops [⟨none, .mv 20 (.t 4)⟩,
    ⟨none, .bi 21 .gtr (.t 20) (.c (.int .i64 0))⟩])
  (.cond (.t 21) (.skip)
    (.exit 2)))
  (.block 3 (.seq (.ops [⟨none, .mv 22 (.t 3)⟩,
    ⟨none, .lit 23 1 [(.c (.int .i64 0))]⟩,
    ⟨none, .ap 24 1 (.t 22) (.t 23)⟩,
    ⟨none, .mv 3 (.t 24)⟩])
  (.ops [⟨none, .mv 25 (.t 4)⟩,
    ⟨none, .bi 26 .sub (.t 25) (.c (.int .i64 1))⟩,
    ⟨none, .mv 4 (.t 26)⟩]))))))
  (.ops [⟨none, .mv 27 (.t 3)⟩,
    ⟨none, .mv 28 (.t 0)⟩,
    ⟨none, .mv 29 (.t 5)⟩,
    ⟨none, .ia 30 (.t 28) (.t 29) 1⟩,
    ⟨none, .ld 31 (.t 30) 1 false⟩,
    ⟨none, .lit 32 1 [(.t 31)]⟩,
    ⟨none, .ap 33 1 (.t 27) (.t 32)⟩,
    ⟨none, .mv 3 (.t 33)⟩]))))
  (.ops [⟨none, .mv 11 (.t 5)⟩,
    ⟨none, .bi 12 .add (.t 11) (.c (.int .i64 1))⟩,
    ⟨none, .mv 5 (.t 12)⟩]))))))
  (.seq (.ops [⟨none, .mv 34 (.t 3)⟩,
    ⟨none, .mv 2 (.t 34)⟩])
  (.ret)))))
theorem comp56 : compFn Try.prog [] Try.f56 = some ([.t 2], c56) := by kernel_rfl
/-- topiary/topiaryref01.Right: 1 parameters, 21 slots. -/
def c57 : C :=
  .seq (.ops [⟨none, .bxL 1 (.t 0)⟩,
    ⟨none, .mv 2 (.c (.bool false))⟩])
  (.seq (.ops [⟨none, .fa 3 (.t 1) 0⟩,
    ⟨none, .ld 4 (.t 3) 1 false⟩,
    ⟨none, .bi 5 .geq (.t 4) (.c (.int .i64 1))⟩,
    ⟨none, .mv 6 (.t 5)⟩,
    ⟨some (6, true), .fa 7 (.t 1) 0⟩,
    ⟨some (6, true), .ld 8 (.t 7) 1 false⟩,
    ⟨some (6, true), .bi 9 .leq (.t 8) (.c (.int .i64 1099511627776))⟩,
    ⟨none, .pk 10 (.t 6) (.t 9) (.c (.bool false))⟩,
    ⟨none, .mv 11 (.t 10)⟩,
    ⟨some (11, true), .fa 12 (.t 1) 1⟩,
    ⟨some (11, true), .ld 13 (.t 12) 1 false⟩,
    ⟨some (11, true), .bi 14 .geq (.t 13) (.c (.int .i64 0))⟩,
    ⟨none, .pk 15 (.t 11) (.t 14) (.c (.bool false))⟩,
    ⟨none, .mv 16 (.t 15)⟩,
    ⟨some (16, true), .fa 17 (.t 1) 1⟩,
    ⟨some (16, true), .ld 18 (.t 17) 1 false⟩,
    ⟨some (16, true), .bi 19 .lss (.t 18) (.c (.int .i64 64))⟩,
    ⟨none, .pk 20 (.t 16) (.t 19) (.c (.bool false))⟩,
    ⟨none, .mv 2 (.t 20)⟩])
  (.ret))
theorem comp57 : compFn Try.prog [1] Try.f57 = some ([.t 2], c57) := by kernel_rfl
def c61 : C :=
  .seq (.ops [⟨none, .mv 2 (.c (.int .i64 0))⟩])
  (.seq (.ops [⟨none, .mv 3 (.c (.int .i64 0))⟩])
  (.seq (.seq (.ops [⟨none, .mv 4 (.c (.int .i64 0))⟩])
  (.block 0 (.loop (.seq (.seq (.ops [⟨none, .mv 5 (.t 4)⟩,
    ⟨none, .mv 6 (.t 0)⟩,
    ⟨none, .ln 7 .sl (.t 6)⟩,
    ⟨none, .bi 8 .lss (.t 5) (.t 7)⟩])
  (.cond (.t 8) (.skip)
    (.exit 0)))
  (.seq (.block 1 (.ops [⟨none, .mv 11 (.t 3)⟩,
    ⟨none, .mv 12 (.t 0)⟩,
    ⟨none, .mv 13 (.t 4)⟩,
    ⟨none, .ia 14 (.t 12) (.t 13) 13⟩,
    ⟨none, .fa 15 (.t 14) 0⟩,
    ⟨none, .fa 16 (.t 15) 0⟩,
    ⟨none, .ld 17 (.t 16) 1 false⟩,
    ⟨none, .mx 18 (.t 11) (.t 17)⟩,
    ⟨none, .mv 3 (.t 18)⟩]))
  (.ops [⟨none, .mv 9 (.t 4)⟩,
    ⟨none, .bi 10 .add (.t 9) (.c (.int .i64 1))⟩,
    ⟨none, .mv 4 (.t 10)⟩]))))))
  (.seq (.ops [⟨none, .mv 19 (.t 3)⟩,
    ⟨none, .mv 2 (.t 19)⟩])
  (.ret))))
theorem comp61 : compFn Try.prog [] Try.f61 = some ([.t 2], c61) := by kernel_rfl
/-- topiary/topiaryref02.Two: 2 parameters, 12 slots. -/
def c62 : C :=
  .seq (.ops [⟨none, .mv 4 (.c (.int .i64 0))⟩])
  (.seq (.seq (.ops [⟨none, .mv 5 (.t 0)⟩,
    ⟨none, .ca (some 6) 16 [(.t 5)]⟩,
    ⟨none, .bi 7 .neq (.t 6) (.c (.int .i64 0))⟩])
  (.cond (.t 7) (.seq (.ops [⟨none, .mv 8 (.t 0)⟩,
      ⟨none, .ca (some 9) 16 [(.t 8)]⟩,
      ⟨none, .mv 4 (.t 9)⟩])
    (.ret))
    (.skip)))
  (.seq (.ops [⟨none, .mv 10 (.t 1)⟩,
    ⟨none, .ca (some 11) 16 [(.t 10)]⟩,
    ⟨none, .mv 4 (.t 11)⟩])
  (.ret)))
theorem comp62 : compFn Try.prog [] Try.f62 = some ([.t 4], c62) := by kernel_rfl
/-- topiary/clock.Trim: 1 parameters, 23 slots. -/
def c63 : C :=
  .seq (.ops [⟨none, .mv 2 (.c (.sl true .pub 1 []))⟩])
  (.seq (.ops [⟨none, .mv 4 (.t 0)⟩,
    ⟨none, .ln 5 .sl (.t 4)⟩,
    ⟨none, .mv 3 (.t 5)⟩])
  (.seq (.block 0 (.loop (.seq (.seq (.ops [⟨none, .mv 6 (.t 3)⟩,
    ⟨none, .bi 7 .gtr (.t 6) (.c (.int .i64 0))⟩,
    ⟨none, .mv 8 (.t 7)⟩,
    ⟨some (8, true), .mv 9 (.t 0)⟩,
    ⟨some (8, true), .mv 10 (.t 3)⟩,
    ⟨some (8, true), .bi 11 .sub (.t 10) (.c (.int .i64 1))⟩,
    ⟨some (8, true), .ia 12 (.t 9) (.t 11) 1⟩,
    ⟨some (8, true), .ld 13 (.t 12) 1 false⟩,
    ⟨some (8, true), .bi 14 .eql (.t 13) (.c (.int .i64 0))⟩,
    ⟨none, .pk 15 (.t 8) (.t 14) (.c (.bool false))⟩])
  (.cond (.t 15) (.skip)
    (.exit 0)))
  (.block 1 (.ops [⟨none, .mv 16 (.t 3)⟩,
    ⟨none, .bi 17 .sub (.t 16) (.c (.int .i64 1))⟩,
    ⟨none, .mv 3 (.t 17)⟩])))))
  (.seq (.ops [⟨none, .lit 18 1 []⟩,
    ⟨none, .mv 19 (.t 0)⟩,
    ⟨none, .mv 20 (.t 3)⟩,
    ⟨none, .sl 21 1 (.t 19) none (some (.t 20))⟩,
    ⟨none, .ap 22 1 (.t 18) (.t 21)⟩,
    ⟨none, .mv 2 (.t 22)⟩])
  (.ret))))
theorem comp63 : compFn Try.prog [] Try.f63 = some ([.t 2], c63) := by kernel_rfl
/-- topiary/ident.Right: 1 parameters, 16 slots. -/
def c66 : C :=
  .seq (.ops [⟨none, .bxL 1 (.t 0)⟩,
    ⟨none, .mv 2 (.c (.bool false))⟩])
  (.seq (.ops [⟨none, .fa 3 (.t 1) 0⟩,
    ⟨none, .ld 4 (.t 3) 1 false⟩,
    ⟨none, .bi 5 .geq (.t 4) (.c (.int .i64 1))⟩,
    ⟨none, .mv 6 (.t 5)⟩,
    ⟨some (6, true), .fa 7 (.t 1) 0⟩,
    ⟨some (6, true), .ld 8 (.t 7) 1 false⟩,
    ⟨some (6, true), .bi 9 .leq (.t 8) (.c (.int .i64 1099511627776))⟩,
    ⟨none, .pk 10 (.t 6) (.t 9) (.c (.bool false))⟩,
    ⟨none, .mv 11 (.t 10)⟩,
    ⟨some (11, true), .fa 12 (.t 1) 1⟩,
    ⟨some (11, true), .ld 13 (.t 12) 1 false⟩,
    ⟨some (11, true), .ca (some 14) 84 [(.t 13)]⟩,
    ⟨none, .pk 15 (.t 11) (.t 14) (.c (.bool false))⟩,
    ⟨none, .mv 2 (.t 15)⟩])
  (.ret))
theorem comp66 : compFn Try.prog [1] Try.f66 = some ([.t 2], c66) := by kernel_rfl
/-- topiary/change.deps: 1 parameters, 37 slots. -/
def c67 : C :=
  .seq (.ops [⟨none, .bxL 1 (.t 0)⟩,
    ⟨none, .mv 2 (.c (.int .i64 0))⟩])
  (.seq (.seq (.ops [⟨none, .fa 5 (.t 1) 3⟩,
    ⟨none, .ld 6 (.t 5) 1 false⟩,
    ⟨none, .ca (some 7) 43 [(.t 6)]⟩,
    ⟨none, .mv 3 (.t 7)⟩])
  (.seq (.ops [⟨none, .mv 8 (.t 3)⟩,
    ⟨none, .bi 9 .neq (.t 8) (.c (.int .i64 0))⟩])
  (.cond (.t 9) (.seq (.ops [⟨none, .mv 10 (.t 3)⟩,
      ⟨none, .mv 2 (.t 10)⟩])
    (.ret))
    (.skip))))
  (.seq (.seq (.ops [⟨none, .fa 11 (.t 1) 3⟩,
    ⟨none, .ld 12 (.t 11) 1 false⟩,
    ⟨none, .ln 13 .sl (.t 12)⟩,
    ⟨none, .mv 4 (.t 13)⟩])
  (.seq (.opsD [⟨none, .mv 14 (.t 4)⟩,
    ⟨none, .bi 15 .gtr (.t 14) (.c (.int .i64 0))⟩,
    ⟨none, .mv 16 (.t 15)⟩,
    ⟨some (16, true), .fa 17 (.t 1) 3⟩,
    ⟨some (16, true), .ld 18 (.t 17) 1 false⟩,
    ⟨some (16, true), .mv 19 (.t 4)⟩,
    ⟨some (16, true), .bi 20 .sub (.t 19) (.c (.int .i64 1))⟩,
    ⟨some (16, true), .ia 21 (.t 18) (.t 20) 1⟩,
    ⟨some (16, true), .ld 22 (.t 21) 1 false⟩,
    ⟨some (16, true), .bi 23 .eql (.t 22) (.c (.int .i64 0))⟩,
    ⟨none, .pk 24 (.t 16) (.t 23) (.c (.bool false))⟩,
    ⟨none, .mv 25 (.t 24)⟩,
    ⟨some (25, false), .fa 26 (.t 1) 3⟩,
    ⟨some (25, false), .ld 27 (.t 26) 1 false⟩,
    ⟨some (25, false), .fa 28 (.t 1) 0⟩,
    ⟨some (25, false), .fa 29 (.t 28) 1⟩,
    ⟨some (25, false), .ld 30 (.t 29) 1 false⟩,
    ⟨some (25, false), .fa 32 (.t 1) 2⟩,
    ⟨some (25, false), .ld 33 (.t 32) 1 false⟩,
    ⟨some (25, false), .bi 34 .sub (.t 33) (.c (.int .i64 1))⟩,
    ⟨some (25, false), .ca (some 31) 44 [(.t 27), (.t 30)]⟩,
    ⟨some (25, false), .bi 35 .neq (.t 31) (.t 34)⟩,
    ⟨none, .pk 36 (.t 25) (.c (.bool true)) (.t 35)⟩])
  (.cond (.t 36) (.seq (.ops [⟨none, .mv 2 (.c (.int .i64 2))⟩])
    (.ret))
    (.skip))))
  (.seq (.ops [⟨none, .mv 2 (.c (.int .i64 0))⟩])
  (.ret))))
theorem comp67 : compFn Try.prog [1] Try.f67 = some ([.t 2], c67) := by kernel_rfl
/-- topiary/change.node: 1 parameters, 40 slots. -/
def c68 : C :=
  .seq (.ops [⟨none, .bxL 1 (.t 0)⟩,
    ⟨none, .mv 2 (.c (.bool false))⟩])
  (.seq (.seq (.ops [⟨none, .fa 3 (.t 1) 4⟩,
    ⟨none, .ld 4 (.t 3) 1 false⟩])
  (.block 0 (.seq (.ops [⟨none, .bi 6 .eql (.t 4) (.c (.int .i64 1))⟩,
    ⟨none, .mv 5 (.t 6)⟩])
  (.cond (.t 5) (.seq (.ops [⟨none, .fa 7 (.t 1) 5⟩,
      ⟨none, .ld 8 (.t 7) 2 true⟩,
      ⟨none, .fa 9 (.t 1) 0⟩,
      ⟨none, .ld 10 (.t 9) 2 true⟩,
      ⟨none, .be 11 false [.int .i64, .int .i64] (.t 8) (.t 10)⟩,
      ⟨none, .mv 2 (.t 11)⟩])
    (.ret))
    (.seq (.ops [⟨none, .bi 13 .eql (.t 4) (.c (.int .i64 2))⟩,
      ⟨none, .mv 12 (.t 13)⟩])
    (.cond (.t 12) (.seq (.ops [⟨none, .fa 14 (.t 1) 5⟩,
        ⟨none, .ld 15 (.t 14) 2 true⟩,
        ⟨none, .ca (some 16) 66 [(.t 15)]⟩,
        ⟨none, .mv 17 (.t 16)⟩,
        ⟨some (17, true), .fa 18 (.t 1) 5⟩,
        ⟨some (17, true), .ld 19 (.t 18) 2 true⟩,
        ⟨some (17, true), .fa 20 (.t 1) 0⟩,
        ⟨some (17, true), .ld 21 (.t 20) 2 true⟩,
        ⟨some (17, true), .ca (some 22) 72 [(.t 19), (.t 21)]⟩,
        ⟨none, .pk 23 (.t 17) (.t 22) (.c (.bool false))⟩,
        ⟨none, .mv 2 (.t 23)⟩])
      (.ret))
      (.skip)))))))
  (.seq (.ops [⟨none, .fa 24 (.t 1) 5⟩,
    ⟨none, .ld 25 (.t 24) 2 true⟩,
    ⟨none, .bld 26 [.int .i64 0, .int .i64 0] []⟩,
    ⟨none, .be 27 false [.int .i64, .int .i64] (.t 25) (.t 26)⟩,
    ⟨none, .mv 28 (.t 27)⟩,
    ⟨some (28, false), .fa 29 (.t 1) 5⟩,
    ⟨some (28, false), .ld 30 (.t 29) 2 true⟩,
    ⟨some (28, false), .ca (some 31) 66 [(.t 30)]⟩,
    ⟨some (28, false), .mv 32 (.t 31)⟩,
    ⟨some (32, true), .fa 33 (.t 1) 5⟩,
    ⟨some (32, true), .ld 34 (.t 33) 2 true⟩,
    ⟨some (32, true), .fa 35 (.t 1) 0⟩,
    ⟨some (32, true), .ld 36 (.t 35) 2 true⟩,
    ⟨some (32, true), .ca (some 37) 72 [(.t 34), (.t 36)]⟩,
    ⟨some (28, false), .pk 38 (.t 32) (.t 37) (.c (.bool false))⟩,
    ⟨none, .pk 39 (.t 28) (.c (.bool true)) (.t 38)⟩,
    ⟨none, .mv 2 (.t 39)⟩])
  (.ret)))
theorem comp68 : compFn Try.prog [1] Try.f68 = some ([.t 2], c68) := by kernel_rfl
/-- topiary/change.place: 1 parameters, 56 slots. -/
def c69 : C :=
  .seq (.ops [⟨none, .bxL 1 (.t 0)⟩,
    ⟨none, .mv 2 (.c (.bool false))⟩])
  (.seq (.seq (.ops [⟨none, .fa 3 (.t 1) 4⟩,
    ⟨none, .ld 4 (.t 3) 1 false⟩,
    ⟨none, .bi 5 .neq (.t 4) (.c (.int .i64 1))⟩,
    ⟨none, .mv 6 (.t 5)⟩,
    ⟨some (6, true), .fa 7 (.t 1) 4⟩,
    ⟨some (6, true), .ld 8 (.t 7) 1 false⟩,
    ⟨some (6, true), .bi 9 .neq (.t 8) (.c (.int .i64 2))⟩,
    ⟨none, .pk 10 (.t 6) (.t 9) (.c (.bool false))⟩])
  (.cond (.t 10) (.seq (.ops [⟨none, .fa 11 (.t 1) 7⟩,
      ⟨none, .ld 12 (.t 11) 2 true⟩,
      ⟨none, .bld 13 [.int .i64 0, .int .i64 0] []⟩,
      ⟨none, .be 14 false [.int .i64, .int .i64] (.t 12) (.t 13)⟩,
      ⟨none, .mv 15 (.t 14)⟩,
      ⟨some (15, true), .fa 16 (.t 1) 9⟩,
      ⟨some (15, true), .ld 17 (.t 16) 2 true⟩,
      ⟨some (15, true), .bld 18 [.int .i64 0, .int .i64 0] []⟩,
      ⟨some (15, true), .be 19 false [.int .i64, .int .i64] (.t 17) (.t 18)⟩,
      ⟨none, .pk 20 (.t 15) (.t 19) (.c (.bool false))⟩,
      ⟨none, .mv 2 (.t 20)⟩])
    (.ret))
    (.skip)))
  (.seq (.seq (.ops [⟨none, .fa 21 (.t 1) 7⟩,
    ⟨none, .ld 22 (.t 21) 2 true⟩,
    ⟨none, .ca (some 23) 85 [(.t 22)]⟩,
    ⟨none, .un 24 .not (.t 23)⟩,
    ⟨none, .mv 25 (.t 24)⟩,
    ⟨some (25, false), .fa 26 (.t 1) 7⟩,
    ⟨some (25, false), .ld 27 (.t 26) 2 true⟩,
    ⟨some (25, false), .fa 28 (.t 1) 0⟩,
    ⟨some (25, false), .ld 29 (.t 28) 2 true⟩,
    ⟨some (25, false), .ca (some 30) 72 [(.t 27), (.t 29)]⟩,
    ⟨some (25, false), .un 31 .not (.t 30)⟩,
    ⟨none, .pk 32 (.t 25) (.c (.bool true)) (.t 31)⟩,
    ⟨none, .mv 33 (.t 32)⟩,
    ⟨some (33, false), .fa 34 (.t 1) 7⟩,
    ⟨some (33, false), .ld 35 (.t 34) 2 true⟩,
    ⟨some (33, false), .fa 36 (.t 1) 5⟩,
    ⟨some (33, false), .ld 37 (.t 36) 2 true⟩,
    ⟨some (33, false), .be 38 false [.int .i64, .int .i64] (.t 35) (.t 37)⟩,
    ⟨none, .pk 39 (.t 33) (.c (.bool true)) (.t 38)⟩])
  (.cond (.t 39) (.seq (.ops [⟨none, .mv 2 (.c (.bool false))⟩])
    (.ret))
    (.skip)))
  (.seq (.ops [⟨none, .fa 40 (.t 1) 9⟩,
    ⟨none, .ld 41 (.t 40) 2 true⟩,
    ⟨none, .bld 42 [.int .i64 0, .int .i64 0] []⟩,
    ⟨none, .be 43 false [.int .i64, .int .i64] (.t 41) (.t 42)⟩,
    ⟨none, .mv 44 (.t 43)⟩,
    ⟨some (44, false), .fa 45 (.t 1) 9⟩,
    ⟨some (44, false), .ld 46 (.t 45) 2 true⟩,
    ⟨some (44, false), .ca (some 47) 66 [(.t 46)]⟩,
    ⟨some (44, false), .mv 48 (.t 47)⟩,
    ⟨some (48, true), .fa 49 (.t 1) 9⟩,
    ⟨some (48, true), .ld 50 (.t 49) 2 true⟩,
    ⟨some (48, true), .fa 51 (.t 1) 0⟩,
    ⟨some (48, true), .ld 52 (.t 51) 2 true⟩,
    ⟨some (48, true), .ca (some 53) 72 [(.t 50), (.t 52)]⟩,
    ⟨some (44, false), .pk 54 (.t 48) (.t 53) (.c (.bool false))⟩,
    ⟨none, .pk 55 (.t 44) (.c (.bool true)) (.t 54)⟩,
    ⟨none, .mv 2 (.t 55)⟩])
  (.ret))))
theorem comp69 : compFn Try.prog [1] Try.f69 = some ([.t 2], c69) := by kernel_rfl
/-- topiary/change.words: 1 parameters, 42 slots. -/
def c70 : C :=
  .seq (.ops [⟨none, .bxL 1 (.t 0)⟩,
    ⟨none, .mv 2 (.c (.int .i64 0))⟩])
  (.seq (.ops [⟨none, .mv 3 (.c (.bool false))⟩,
    ⟨none, .mv 4 (.c (.bool false))⟩])
  (.cut (.seq (.ops [⟨none, .fa 5 (.t 1) 4⟩,
    ⟨none, .ld 6 (.t 5) 1 false⟩])
  (.block 0 (.seq (.block 3 (.cut (.block 2 (.seq (.block 1 (.seq (.seq (.seq (.ops [⟨none, .bi 8 .eql (.t 6) (.c (.int .i64 3))⟩,
    ⟨none, .mv 7 (.t 8)⟩])
  (.cond (.t 7) (.exit 1)
    (.skip)))
  (.seq (.cut (.seq (.ops [⟨none, .bi 10 .eql (.t 6) (.c (.int .i64 1))⟩,
    ⟨none, .mv 9 (.t 10)⟩])
  (.cond (.t 9) (.skip)
    (.ops [⟨none, .bi 11 .eql (.t 6) (.c (.int .i64 4))⟩,
      ⟨none, .mv 9 (.t 11)⟩])))
  (.cond (.t 9) (.exit 2)
    (.skip)))
  (.seq (.ops [⟨none, .bi 13 .eql (.t 6) (.c (.int .i64 5))⟩,
    ⟨none, .mv 12 (.t 13)⟩])
  (.cond (.t 12) (.exit 3)
    (.skip)))))
  (.exit 0)))
  (.ops [⟨none, .mv 4 (.c (.bool true))⟩])))
  (.seq (.ops [⟨none, .mv 3 (.c (.bool true))⟩])
  (.exit 0))))
  (.seq (.ops [⟨none, .mv 4 (.c (.bool true))⟩])
  (.exit 0)))))
  (.seq (.block 4 (.cut (.seq (.ops [⟨none, .mv 15 (.t 3)⟩,
    ⟨none, .mv 16 (.t 15)⟩,
    ⟨some (16, true), .fa 17 (.t 1) 11⟩,
    ⟨some (16, true), .ld 18 (.t 17) 1 false⟩,
    ⟨some (16, true), .ca (some 19) 86 [(.t 18)]⟩,
    ⟨some (16, true), .un 20 .not (.t 19)⟩,
    ⟨none, .pk 21 (.t 16) (.t 20) (.c (.bool false))⟩,
    ⟨none, .mv 14 (.t 21)⟩])
  (.cond (.t 14) (.skip)
    (.ops [⟨none, .mv 22 (.t 3)⟩,
      ⟨none, .un 23 .not (.t 22)⟩,
      ⟨none, .mv 24 (.t 23)⟩,
      ⟨some (24, true), .fa 25 (.t 1) 11⟩,
      ⟨some (24, true), .ld 26 (.t 25) 1 false⟩,
      ⟨some (24, true), .bi 27 .neq (.t 26) (.c (.str []))⟩,
      ⟨none, .pk 28 (.t 24) (.t 27) (.c (.bool false))⟩,
      ⟨none, .mv 14 (.t 28)⟩])))
  (.cond (.t 14) (.seq (.ops [⟨none, .mv 2 (.c (.int .i64 8))⟩])
    (.ret))
    (.seq (.ops [⟨none, .fa 30 (.t 1) 12⟩,
      ⟨none, .ld 31 (.t 30) 1 false⟩,
      ⟨none, .ln 32 .fn (.t 31)⟩,
      ⟨none, .bi 33 .gtr (.t 32) (.c (.int .i64 256))⟩,
      ⟨none, .mv 29 (.t 33)⟩])
    (.cond (.t 29) (.seq (.ops [⟨none, .mv 2 (.c (.int .i64 3))⟩])
      (.ret))
      (.seq (.ops [⟨none, .mv 35 (.t 4)⟩,
        ⟨none, .un 36 .not (.t 35)⟩,
        ⟨none, .mv 37 (.t 36)⟩,
        ⟨some (37, true), .fa 38 (.t 1) 12⟩,
        ⟨some (37, true), .ld 39 (.t 38) 1 false⟩,
        ⟨some (37, true), .bi 40 .neq (.t 39) (.c (.str []))⟩,
        ⟨none, .pk 41 (.t 37) (.t 40) (.c (.bool false))⟩,
        ⟨none, .mv 34 (.t 41)⟩])
      (.cond (.t 34) (.seq (.ops [⟨none, .mv 2 (.c (.int .i64 2))⟩])
        (.ret))
        (.skip))))))))
  (.seq (.ops [⟨none, .mv 2 (.c (.int .i64 0))⟩])
  (.ret)))))
theorem comp70 : compFn Try.prog [1] Try.f70 = some ([.t 2], c70) := by kernel_rfl
/-- topiary/change.Same: 2 parameters, 66 slots. -/
def c71 : C :=
  .seq (.ops [⟨none, .bxL 2 (.t 0)⟩,
    ⟨none, .bxL 3 (.t 1)⟩,
    ⟨none, .mv 4 (.c (.bool false))⟩])
  (.seq (.ops [⟨none, .fa 5 (.t 2) 0⟩,
    ⟨none, .ld 6 (.t 5) 2 true⟩,
    ⟨none, .fa 7 (.t 3) 0⟩,
    ⟨none, .ld 8 (.t 7) 2 true⟩,
    ⟨none, .be 9 false [.int .i64, .int .i64] (.t 6) (.t 8)⟩,
    ⟨none, .mv 10 (.t 9)⟩,
    ⟨some (10, true), .fa 11 (.t 2) 2⟩,
    ⟨some (10, true), .ld 12 (.t 11) 1 false⟩,
    ⟨some (10, true), .fa 13 (.t 3) 2⟩,
    ⟨some (10, true), .ld 14 (.t 13) 1 false⟩,
    ⟨some (10, true), .bi 15 .eql (.t 12) (.t 14)⟩,
    ⟨none, .pk 16 (.t 10) (.t 15) (.c (.bool false))⟩,
    ⟨none, .mv 17 (.t 16)⟩,
    ⟨some (17, true), .fa 18 (.t 2) 3⟩,
    ⟨some (17, true), .ld 19 (.t 18) 1 false⟩,
    ⟨some (17, true), .fa 20 (.t 3) 3⟩,
    ⟨some (17, true), .ld 21 (.t 20) 1 false⟩,
    ⟨some (17, true), .ca (some 22) 87 [(.t 19), (.t 21)]⟩,
    ⟨none, .pk 23 (.t 17) (.t 22) (.c (.bool false))⟩,
    ⟨none, .mv 24 (.t 23)⟩,
    ⟨some (24, true), .fa 25 (.t 2) 4⟩,
    ⟨some (24, true), .ld 26 (.t 25) 1 false⟩,
    ⟨some (24, true), .fa 27 (.t 3) 4⟩,
    ⟨some (24, true), .ld 28 (.t 27) 1 false⟩,
    ⟨some (24, true), .bi 29 .eql (.t 26) (.t 28)⟩,
    ⟨none, .pk 30 (.t 24) (.t 29) (.c (.bool false))⟩,
    ⟨none, .mv 31 (.t 30)⟩,
    ⟨some (31, true), .fa 32 (.t 2) 5⟩,
    ⟨some (31, true), .ld 33 (.t 32) 2 true⟩,
    ⟨some (31, true), .fa 34 (.t 3) 5⟩,
    ⟨some (31, true), .ld 35 (.t 34) 2 true⟩,
    ⟨some (31, true), .be 36 false [.int .i64, .int .i64] (.t 33) (.t 35)⟩,
    ⟨none, .pk 37 (.t 31) (.t 36) (.c (.bool false))⟩,
    ⟨none, .mv 38 (.t 37)⟩,
    ⟨some (38, true), .fa 39 (.t 2) 7⟩,
    ⟨some (38, true), .ld 40 (.t 39) 2 true⟩,
    ⟨some (38, true), .fa 41 (.t 3) 7⟩,
    ⟨some (38, true), .ld 42 (.t 41) 2 true⟩,
    ⟨some (38, true), .be 43 false [.int .i64, .int .i64] (.t 40) (.t 42)⟩,
    ⟨none, .pk 44 (.t 38) (.t 43) (.c (.bool false))⟩,
    ⟨none, .mv 45 (.t 44)⟩,
    ⟨some (45, true), .fa 46 (.t 2) 9⟩,
    ⟨some (45, true), .ld 47 (.t 46) 2 true⟩,
    ⟨some (45, true), .fa 48 (.t 3) 9⟩,
    ⟨some (45, true), .ld 49 (.t 48) 2 true⟩,
    ⟨some (45, true), .be 50 false [.int .i64, .int .i64] (.t 47) (.t 49)⟩,
    ⟨none, .pk 51 (.t 45) (.t 50) (.c (.bool false))⟩,
    ⟨none, .mv 52 (.t 51)⟩,
    ⟨some (52, true), .fa 53 (.t 2) 11⟩,
    ⟨some (52, true), .ld 54 (.t 53) 1 false⟩,
    ⟨some (52, true), .fa 55 (.t 3) 11⟩,
    ⟨some (52, true), .ld 56 (.t 55) 1 false⟩,
    ⟨some (52, true), .bi 57 .eql (.t 54) (.t 56)⟩,
    ⟨none, .pk 58 (.t 52) (.t 57) (.c (.bool false))⟩,
    ⟨none, .mv 59 (.t 58)⟩,
    ⟨some (59, true), .fa 60 (.t 2) 12⟩,
    ⟨some (59, true), .ld 61 (.t 60) 1 false⟩,
    ⟨some (59, true), .fa 62 (.t 3) 12⟩,
    ⟨some (59, true), .ld 63 (.t 62) 1 false⟩,
    ⟨some (59, true), .bi 64 .eql (.t 61) (.t 63)⟩,
    ⟨none, .pk 65 (.t 59) (.t 64) (.c (.bool false))⟩,
    ⟨none, .mv 4 (.t 65)⟩])
  (.ret))
theorem comp71 : compFn Try.prog [2, 3] Try.f71 = some ([.t 4], c71) := by kernel_rfl
/-- topiary/ident.Less: 2 parameters, 9 slots. -/
def c72 : C :=
  .seq (.ops [⟨none, .bxL 2 (.t 0)⟩,
    ⟨none, .bxL 3 (.t 1)⟩,
    ⟨none, .mv 4 (.c (.bool false))⟩])
  (.seq (.ops [⟨none, .ld 5 (.t 2) 2 true⟩,
    ⟨none, .ld 6 (.t 3) 2 true⟩,
    ⟨none, .ca (some 7) 77 [(.t 5), (.t 6)]⟩,
    ⟨none, .bi 8 .lss (.t 7) (.c (.int .i64 0))⟩,
    ⟨none, .mv 4 (.t 8)⟩])
  (.ret))
theorem comp72 : compFn Try.prog [2, 3] Try.f72 = some ([.t 4], c72) := by kernel_rfl
/-- topiary/ident.Rising: 1 parameters, 12 slots. -/
def c73 : C :=
  .seq (.ops [⟨none, .mv 2 (.c (.nilf))⟩])
  (.seq (.ops [⟨none, .lit 4 2 []⟩,
    ⟨none, .mv 5 (.t 0)⟩,
    ⟨none, .ap 6 2 (.t 4) (.t 5)⟩,
    ⟨none, .alH 3 [.sl true .pub 0 []]⟩,
    ⟨none, .st (.t 3) (.t 6) 1⟩])
  (.seq (.ops [⟨none, .ld 7 (.t 3) 1 false⟩,
    ⟨none, .cm (some 8) 88 [(.t 7), (.c (.fn 89 []))]⟩])
  (.seq (.ops [⟨none, .ld 9 (.t 3) 1 false⟩,
    ⟨none, .cm (some 10) 90 [(.t 9)]⟩,
    ⟨none, .st (.t 3) (.t 10) 1⟩])
  (.seq (.ops [⟨none, .mf 11 91 [(.t 3)]⟩,
    ⟨none, .mv 2 (.t 11)⟩])
  (.ret)))))
theorem comp73 : compFn Try.prog [3000088, 3000090] Try.f73 = some ([.t 2], c73) := by kernel_rfl
/-- topiary/change.Names: 1 parameters, 33 slots. -/
def c74 : C :=
  .seq (.ops [⟨none, .bxL 1 (.t 0)⟩,
    ⟨none, .mv 2 (.c (.sl true .pub 2 []))⟩])
  (.seq (.ops [⟨none, .mv 3 (.c (.sl true .pub 2 []))⟩])
  (.seq (.seq (.ops [⟨none, .fa 6 (.t 1) 5⟩,
    ⟨none, .ld 7 (.t 6) 2 true⟩,
    ⟨none, .fa 8 (.t 1) 7⟩,
    ⟨none, .ld 9 (.t 8) 2 true⟩,
    ⟨none, .fa 10 (.t 1) 9⟩,
    ⟨none, .ld 11 (.t 10) 2 true⟩,
    ⟨none, .lit 12 2 [(.t 7), (.t 9), (.t 11)]⟩,
    ⟨none, .ln 13 .sl (.t 12)⟩,
    ⟨none, .mv 14 (.c (.int .i64 0))⟩])
  (.block 0 (.loop (.seq (.ops [⟨none, .bi 15 .lss (.t 14) (.t 13)⟩])
  (.seq (.cond (.t 15) (.skip)
    (.exit 0))
  (.cut (.block 1 (.seq (.ops [⟨none, .ia 16 (.t 12) (.t 14) 2⟩,
    ⟨none, .ld 17 (.t 16) 2 true⟩,
    ⟨none, .alL 5 [.int .i64 0, .int .i64 0]⟩,
    ⟨none, .st (.t 5) (.t 17) 2⟩])
  (.seq (.ops [⟨none, .ld 18 (.t 5) 2 true⟩,
    ⟨none, .ca (some 19) 66 [(.t 18)]⟩,
    ⟨none, .mv 20 (.t 19)⟩,
    ⟨some (20, true), .ld 21 (.t 5) 2 true⟩,
    ⟨some (20, true), .fa 22 (.t 1) 0⟩,
    ⟨some (20, true), .ld 23 (.t 22) 2 true⟩,
    ⟨some (20, true), .be 24 true [.int .i64, .int .i64] (.t 21) (.t 23)⟩,
    ⟨none, .pk 25 (.t 20) (.t 24) (.c (.bool false))⟩])
  (.cond (.t 25) (.ops [⟨none, .mv 26 (.t 3)⟩,
      ⟨none, .ld 27 (.t 5) 2 true⟩,
      ⟨none, .lit 28 2 [(.t 27)]⟩,
      ⟨none, .ap 29 2 (.t 26) (.t 28)⟩,
      ⟨none, .mv 3 (.t 29)⟩])
    (.skip)))))
  (.ops [⟨none, .bi 30 .add (.t 14) (.c (.int .i64 1))⟩,
    ⟨none, .mv 14 (.t 30)⟩])))))))
  (.seq (.ops [⟨none, .mv 31 (.t 3)⟩,
    ⟨none, .ca (some 32) 92 [(.t 31)]⟩,
    ⟨none, .mv 2 (.t 32)⟩])
  (.ret))))
theorem comp74 : compFn Try.prog [1, 5] Try.f74 = some ([.t 2], c74) := by kernel_rfl
/-- slices.BinarySearchFunc[[]topiary/api.Change,topiary/api.Change,topiary/api.Stamp]: 3 parameters, 49 slots. -/
def c75 : C :=
  .seq (.ops [⟨none, .bxL 4 (.t 1)⟩,
    ⟨none, .mv 6 (.c (.int .i64 0))⟩,
    ⟨none, .mv 7 (.c (.bool false))⟩])
  (.seq (.ops [⟨none, .mv 12 (.t 0)⟩,
    ⟨none, .ln 13 .sl (.t 12)⟩,
    ⟨none, .mv 8 (.t 13)⟩])
  (.seq (.ops [⟨none, .mv 14 (.t 8)⟩,
    ⟨none, .mv 9 (.c (.int .i64 0))⟩,
    ⟨none, .mv 10 (.t 14)⟩])
  (.seq (.block 0 (.loop (.seq (.seq (.ops [⟨none, .mv 15 (.t 9)⟩,
    ⟨none, .mv 16 (.t 10)⟩,
    ⟨none, .bi 17 .lss (.t 15) (.t 16)⟩])
  (.cond (.t 17) (.skip)
    (.exit 0)))
  (.block 1 (.seq (.ops [⟨none, .mv 18 (.t 9)⟩,
    ⟨none, .mv 19 (.t 10)⟩,
    ⟨none, .bi 20 .add (.t 18) (.t 19)⟩,
    ⟨none, .cI 21 .u64 (.t 20)⟩,
    ⟨none, .bi 22 .shr (.t 21) (.c (.int .u64 1))⟩,
    ⟨none, .cI 23 .i64 (.t 22)⟩,
    ⟨none, .mv 11 (.t 23)⟩])
  (.seq (.opsD [⟨none, .mv 24 (.t 2)⟩,
    ⟨none, .mv 25 (.t 0)⟩,
    ⟨none, .mv 26 (.t 11)⟩,
    ⟨none, .ia 27 (.t 25) (.t 26) 13⟩,
    ⟨none, .ld 28 (.t 27) 13 true⟩,
    ⟨none, .ld 29 (.t 4) 2 true⟩,
    ⟨none, .cv (some 30) (.t 24) [(.t 28), (.t 29)]⟩,
    ⟨none, .bi 31 .lss (.t 30) (.c (.int .i64 0))⟩])
  (.cond (.t 31) (.ops [⟨none, .mv 32 (.t 11)⟩,
      ⟨none, .bi 33 .add (.t 32) (.c (.int .i64 1))⟩,
      ⟨none, .mv 9 (.t 33)⟩])
    (.ops [⟨none, .mv 34 (.t 11)⟩,
      ⟨none, .mv 10 (.t 34)⟩]))))))))
  (.seq (.opsD [⟨none, .mv 35 (.t 9)⟩,
    ⟨none, .mv 36 (.t 9)⟩,
    ⟨none, .mv 37 (.t 8)⟩,
    ⟨none, .bi 38 .lss (.t 36) (.t 37)⟩,
    ⟨none, .mv 39 (.t 38)⟩,
    ⟨some (39, true), .mv 40 (.t 2)⟩,
    ⟨some (39, true), .mv 41 (.t 0)⟩,
    ⟨some (39, true), .mv 42 (.t 9)⟩,
    ⟨some (39, true), .ia 43 (.t 41) (.t 42) 13⟩,
    ⟨some (39, true), .ld 44 (.t 43) 13 true⟩,
    ⟨some (39, true), .ld 45 (.t 4) 2 true⟩,
    ⟨some (39, true), .cv (some 46) (.t 40) [(.t 44), (.t 45)]⟩,
    ⟨some (39, true), .bi 47 .eql (.t 46) (.c (.int .i64 0))⟩,
    ⟨none, .pk 48 (.t 39) (.t 47) (.c (.bool false))⟩,
    ⟨none, .mv 6 (.t 35)⟩,
    ⟨none, .mv 7 (.t 48)⟩])
  (.ret)))))
theorem comp75 : compFn Try.prog [4] Try.f75 = some ([.t 6, .t 7], c75) := by kernel_rfl
/-- (*topiary/oplog.Log).place$1: 2 parameters, 9 slots. -/
def c76 : C :=
  .seq (.ops [⟨none, .bxL 2 (.t 0)⟩,
    ⟨none, .bxL 3 (.t 1)⟩,
    ⟨none, .mv 4 (.c (.int .i64 0))⟩])
  (.seq (.ops [⟨none, .fa 5 (.t 2) 0⟩,
    ⟨none, .ld 6 (.t 5) 2 true⟩,
    ⟨none, .ld 7 (.t 3) 2 true⟩,
    ⟨none, .ca (some 8) 77 [(.t 6), (.t 7)]⟩,
    ⟨none, .mv 4 (.t 8)⟩])
  (.ret))
theorem comp76 : compFn Try.prog [2, 3] Try.f76 = some ([.t 4], c76) := by kernel_rfl
/-- topiary/ident.Compare: 2 parameters, 29 slots. -/
def c77 : C :=
  .seq (.ops [⟨none, .bxL 2 (.t 0)⟩,
    ⟨none, .bxL 3 (.t 1)⟩,
    ⟨none, .mv 4 (.c (.int .i64 0))⟩])
  (.seq (.block 0 (.seq (.ops [⟨none, .ld 6 (.t 2) 2 true⟩,
    ⟨none, .ld 7 (.t 3) 2 true⟩,
    ⟨none, .be 8 false [.int .i64, .int .i64] (.t 6) (.t 7)⟩,
    ⟨none, .mv 5 (.t 8)⟩])
  (.cond (.t 5) (.seq (.ops [⟨none, .mv 4 (.c (.int .i64 0))⟩])
    (.ret))
    (.seq (.ops [⟨none, .fa 10 (.t 2) 0⟩,
      ⟨none, .ld 11 (.t 10) 1 false⟩,
      ⟨none, .fa 12 (.t 3) 0⟩,
      ⟨none, .ld 13 (.t 12) 1 false⟩,
      ⟨none, .bi 14 .lss (.t 11) (.t 13)⟩,
      ⟨none, .mv 15 (.t 14)⟩,
      ⟨some (15, false), .fa 16 (.t 2) 0⟩,
      ⟨some (15, false), .ld 17 (.t 16) 1 false⟩,
      ⟨some (15, false), .fa 18 (.t 3) 0⟩,
      ⟨some (15, false), .ld 19 (.t 18) 1 false⟩,
      ⟨some (15, false), .bi 20 .eql (.t 17) (.t 19)⟩,
      ⟨some (15, false), .mv 21 (.t 20)⟩,
      ⟨some (21, true), .fa 22 (.t 2) 1⟩,
      ⟨some (21, true), .ld 23 (.t 22) 1 false⟩,
      ⟨some (21, true), .fa 24 (.t 3) 1⟩,
      ⟨some (21, true), .ld 25 (.t 24) 1 false⟩,
      ⟨some (21, true), .bi 26 .lss (.t 23) (.t 25)⟩,
      ⟨some (15, false), .pk 27 (.t 21) (.t 26) (.c (.bool false))⟩,
      ⟨none, .pk 28 (.t 15) (.c (.bool true)) (.t 27)⟩,
      ⟨none, .mv 9 (.t 28)⟩])
    (.cond (.t 9) (.seq (.ops [⟨none, .mv 4 (.c (.int .i64 (-1)))⟩])
      (.ret))
      (.skip))))))
  (.seq (.ops [⟨none, .mv 4 (.c (.int .i64 1))⟩])
  (.ret)))
theorem comp77 : compFn Try.prog [2, 3] Try.f77 = some ([.t 4], c77) := by kernel_rfl
/-- slices.AppendSeq[[]topiary/api.Change,topiary/api.Change]: 2 parameters, 13 slots. -/
def c80 : C :=
  .seq (.ops [⟨none, .bxH 2 (.t 0)⟩,
    ⟨none, .mv 4 (.c (.sl true .pub 13 []))⟩])
  (.seq (.seq (.ops [⟨none, .mv 6 (.t 1)⟩])
  (.block 0 (.range (.t 6) [7] (.ops [⟨none, .alL 5 [.int .i64 0, .int .i64 0, .int .i64 0, .sl true .pub 0 [], .int .i64 0, .int .i64 0, .int .i64 0, .int .i64 0, .int .i64 0, .int .i64 0, .int .i64 0, .str [], .str []]⟩,
    ⟨none, .st (.t 5) (.t 7) 13⟩])
  (.block 1 (.ops [⟨none, .ld 8 (.t 2) 1 false⟩,
    ⟨none, .ld 9 (.t 5) 13 true⟩,
    ⟨none, .lit 10 13 [(.t 9)]⟩,
    ⟨none, .ap 11 13 (.t 8) (.t 10)⟩,
    ⟨none, .st (.t 2) (.t 11) 1⟩])))))
  (.seq (.ops [⟨none, .ld 12 (.t 2) 1 false⟩,
    ⟨none, .mv 4 (.t 12)⟩])
  (.ret)))
theorem comp80 : compFn Try.prog [5] Try.f80 = some ([.t 4], c80) := by kernel_rfl
/-- topiary/topiaryref01.Has: 2 parameters, 18 slots. -/
/-- topiary/ident.replica: 1 parameters, 9 slots. -/
def c84 : C :=
  .seq (.ops [⟨none, .mv 2 (.c (.bool false))⟩])
  (.seq (.ops [⟨none, .mv 3 (.t 0)⟩,
    ⟨none, .bi 4 .geq (.t 3) (.c (.int .i64 0))⟩,
    ⟨none, .mv 5 (.t 4)⟩,
    ⟨some (5, true), .mv 6 (.t 0)⟩,
    ⟨some (5, true), .bi 7 .lss (.t 6) (.c (.int .i64 64))⟩,
    ⟨none, .pk 8 (.t 5) (.t 7) (.c (.bool false))⟩,
    ⟨none, .mv 2 (.t 8)⟩])
  (.ret))
theorem comp84 : compFn Try.prog [] Try.f84 = some ([.t 2], c84) := by kernel_rfl
/-- topiary/ident.Node: 1 parameters, 15 slots. -/
def c85 : C :=
  .seq (.ops [⟨none, .bxL 1 (.t 0)⟩,
    ⟨none, .mv 2 (.c (.bool false))⟩])
  (.seq (.ops [⟨none, .ld 3 (.t 1) 2 true⟩,
    ⟨none, .ca (some 4) 66 [(.t 3)]⟩,
    ⟨none, .mv 5 (.t 4)⟩,
    ⟨some (5, false), .ld 6 (.t 1) 2 true⟩,
    ⟨some (5, false), .bld 7 [.int .i64 0, .int .i64 0] []⟩,
    ⟨some (5, false), .be 8 false [.int .i64, .int .i64] (.t 6) (.t 7)⟩,
    ⟨none, .pk 9 (.t 5) (.c (.bool true)) (.t 8)⟩,
    ⟨none, .mv 10 (.t 9)⟩,
    ⟨some (10, false), .ld 11 (.t 1) 2 true⟩,
    ⟨some (10, false), .bld 12 [.int .i64 0, .int .i64 0] [(1, 1, (.c (.int .i64 1)))]⟩,
    ⟨some (10, false), .be 13 false [.int .i64, .int .i64] (.t 11) (.t 12)⟩,
    ⟨none, .pk 14 (.t 10) (.c (.bool true)) (.t 13)⟩,
    ⟨none, .mv 2 (.t 14)⟩])
  (.ret))
theorem comp85 : compFn Try.prog [1] Try.f85 = some ([.t 2], c85) := by kernel_rfl
/-- topiary/change.Name: 1 parameters, 50 slots. -/
def c86 : C :=
  .seq (.ops [⟨none, .mv 2 (.c (.bool false))⟩])
  (.seq (.seq (.ops [⟨none, .mv 5 (.t 0)⟩,
    ⟨none, .ln 6 .fn (.t 5)⟩,
    ⟨none, .bi 7 .eql (.t 6) (.c (.int .i64 0))⟩,
    ⟨none, .mv 8 (.t 7)⟩,
    ⟨some (8, false), .mv 9 (.t 0)⟩,
    ⟨some (8, false), .ln 10 .fn (.t 9)⟩,
    ⟨some (8, false), .bi 11 .gtr (.t 10) (.c (.int .i64 32))⟩,
    ⟨none, .pk 12 (.t 8) (.c (.bool true)) (.t 11)⟩,
    ⟨none, .mv 13 (.t 12)⟩,
    ⟨some (13, false), .mv 14 (.t 0)⟩,
    ⟨some (13, false), .ix 15 (.t 14) (.c (.int .i64 0))⟩,
    ⟨some (13, false), .bi 16 .lss (.t 15) (.c (.int .u8 97))⟩,
    ⟨none, .pk 17 (.t 13) (.c (.bool true)) (.t 16)⟩,
    ⟨none, .mv 18 (.t 17)⟩,
    ⟨some (18, false), .mv 19 (.t 0)⟩,
    ⟨some (18, false), .ix 20 (.t 19) (.c (.int .i64 0))⟩,
    ⟨some (18, false), .bi 21 .gtr (.t 20) (.c (.int .u8 122))⟩,
    ⟨none, .pk 22 (.t 18) (.c (.bool true)) (.t 21)⟩])
  (.cond (.t 22) (.seq (.ops [⟨none, .mv 2 (.c (.bool false))⟩])
    (.ret))
    (.skip)))
  (.seq (.seq (.ops [⟨none, .mv 23 (.t 0)⟩,
    ⟨none, .ln 24 .fn (.t 23)⟩,
    ⟨none, .mv 25 (.c (.int .i64 0))⟩])
  (.block 0 (.loop (.seq (.ops [⟨none, .bi 26 .lss (.t 25) (.t 24)⟩])
  (.seq (.cond (.t 26) (.skip)
    (.exit 0))
  (.seq (.block 1 (.seq (.ops [⟨none, .mv 27 (.t 25)⟩,
    ⟨none, .mv 3 (.t 27)⟩])
  (.seq (.ops [⟨none, .mv 28 (.t 0)⟩,
    ⟨none, .mv 29 (.t 3)⟩,
    ⟨none, .ix 30 (.t 28) (.t 29)⟩,
    ⟨none, .mv 4 (.t 30)⟩])
  (.seq (.ops [⟨none, .mv 31 (.t 4)⟩,
    ⟨none, .bi 32 .lss (.t 31) (.c (.int .u8 97))⟩,
    ⟨none, .mv 33 (.t 32)⟩,
    ⟨some (33, false), .mv 34 (.t 4)⟩,
    ⟨some (33, false), .bi 35 .gtr (.t 34) (.c (.int .u8 122))⟩,
    ⟨none, .pk 36 (.t 33) (.c (.bool true)) (.t 35)⟩,
    ⟨none, .mv 37 (.t 36)⟩,
    ⟨some (37, true), .mv 38 (.t 4)⟩,
    ⟨some (37, true), .bi 39 .lss (.t 38) (.c (.int .u8 48))⟩,
    ⟨some (37, true), .mv 40 (.t 39)⟩,
    ⟨some (40, false), .mv 41 (.t 4)⟩,
    ⟨some (40, false), .bi 42 .gtr (.t 41) (.c (.int .u8 57))⟩,
    ⟨some (37, true), .pk 43 (.t 40) (.c (.bool true)) (.t 42)⟩,
    ⟨none, .pk 44 (.t 37) (.t 43) (.c (.bool false))⟩,
    ⟨none, .mv 45 (.t 44)⟩,
    ⟨some (45, true), .mv 46 (.t 4)⟩,
    ⟨some (45, true), .bi 47 .neq (.t 46) (.c (.int .u8 45))⟩,
    ⟨none, .pk 48 (.t 45) (.t 47) (.c (.bool false))⟩])
  (.cond (.t 48) (.seq (.ops [⟨none, .mv 2 (.c (.bool false))⟩])
    (.ret))
    (.skip))))))
  (.ops [⟨none, .bi 49 .add (.t 25) (.c (.int .i64 1))⟩,
    ⟨none, .mv 25 (.t 49)⟩])))))))
  (.seq (.ops [⟨none, .mv 2 (.c (.bool true))⟩])
  (.ret))))
theorem comp86 : compFn Try.prog [] Try.f86 = some ([.t 2], c86) := by kernel_rfl
/-- slices.Equal[[]int,int]: 2 parameters, 26 slots. -/
def c87 : C :=
  .seq (.ops [⟨none, .mv 4 (.c (.bool false))⟩])
  (.seq (.seq (.ops [⟨none, .mv 6 (.t 0)⟩,
    ⟨none, .ln 7 .sl (.t 6)⟩,
    ⟨none, .mv 8 (.t 1)⟩,
    ⟨none, .ln 9 .sl (.t 8)⟩,
    ⟨none, .bi 10 .neq (.t 7) (.t 9)⟩])
  (.cond (.t 10) (.seq (.ops [⟨none, .mv 4 (.c (.bool false))⟩])
    (.ret))
    (.skip)))
  (.seq (.seq (.ops [⟨none, .mv 11 (.t 0)⟩,
    ⟨none, .ln 12 .sl (.t 11)⟩,
    ⟨none, .mv 13 (.c (.int .i64 0))⟩])
  (.block 0 (.loop (.seq (.ops [⟨none, .bi 14 .lss (.t 13) (.t 12)⟩])
  (.seq (.cond (.t 14) (.skip)
    (.exit 0))
  (.seq (.block 1 (.seq (.ops [⟨none, .mv 15 (.t 13)⟩,
    ⟨none, .mv 5 (.t 15)⟩])
  (.seq (.opsD [⟨none, .mv 16 (.t 0)⟩,
    ⟨none, .mv 17 (.t 5)⟩,
    ⟨none, .ia 18 (.t 16) (.t 17) 1⟩,
    ⟨none, .ld 19 (.t 18) 1 false⟩,
    ⟨none, .mv 20 (.t 1)⟩,
    ⟨none, .mv 21 (.t 5)⟩,
    ⟨none, .ia 22 (.t 20) (.t 21) 1⟩,
    ⟨none, .ld 23 (.t 22) 1 false⟩,
    ⟨none, .bi 24 .neq (.t 19) (.t 23)⟩])
  (.cond (.t 24) (.seq (.ops [⟨none, .mv 4 (.c (.bool false))⟩])
    (.ret))
    (.skip)))))
  (.ops [⟨none, .bi 25 .add (.t 13) (.c (.int .i64 1))⟩,
    ⟨none, .mv 13 (.t 25)⟩])))))))
  (.seq (.ops [⟨none, .mv 4 (.c (.bool true))⟩])
  (.ret))))
theorem comp87 : compFn Try.prog [] Try.f87 = some ([.t 4], c87) := by kernel_rfl
/-- topiary/ident.Rising$1: 2 parameters, 8 slots. -/
def c89 : C :=
  .seq (.ops [⟨none, .bxL 2 (.t 0)⟩,
    ⟨none, .bxL 3 (.t 1)⟩,
    ⟨none, .mv 4 (.c (.int .i64 0))⟩])
  (.seq (.ops [⟨none, .ld 5 (.t 2) 2 true⟩,
    ⟨none, .ld 6 (.t 3) 2 true⟩,
    ⟨none, .ca (some 7) 77 [(.t 5), (.t 6)]⟩,
    ⟨none, .mv 4 (.t 7)⟩])
  (.ret))
theorem comp89 : compFn Try.prog [2, 3] Try.f89 = some ([.t 4], c89) := by kernel_rfl
/-- topiary/ident.Rising$2: 1 parameters, 16 slots. -/
def c91 : C :=
  .seq (.ops [⟨none, .ld 5 (.t 1) 1 false⟩,
    ⟨none, .ln 6 .sl (.t 5)⟩,
    ⟨none, .mv 7 (.c (.int .i64 0))⟩])
  (.block 0 (.loop (.seq (.ops [⟨none, .bi 8 .lss (.t 7) (.t 6)⟩])
  (.seq (.cond (.t 8) (.skip)
    (.exit 0))
  (.seq (.block 1 (.seq (.ops [⟨none, .ia 9 (.t 5) (.t 7) 2⟩,
    ⟨none, .ld 10 (.t 9) 2 true⟩,
    ⟨none, .alL 4 [.int .i64 0, .int .i64 0]⟩,
    ⟨none, .st (.t 4) (.t 10) 2⟩])
  (.seq (.ops [⟨none, .mv 11 (.t 0)⟩,
    ⟨none, .ld 12 (.t 4) 2 true⟩,
    ⟨none, .cv (some 13) (.t 11) [(.t 12)]⟩,
    ⟨none, .un 14 .not (.t 13)⟩])
  (.cond (.t 14) (.ret)
    (.skip)))))
  (.ops [⟨none, .bi 15 .add (.t 7) (.c (.int .i64 1))⟩,
    ⟨none, .mv 7 (.t 15)⟩]))))))
theorem comp91 : compFn Try.prog [4] Try.f91 = some ([], c91) := by kernel_rfl
/-- topiary/ident.Sort: 1 parameters, 14 slots. -/
def c92 : C :=
  .seq (.ops [⟨none, .mv 2 (.c (.sl true .pub 2 []))⟩])
  (.seq (.ops [⟨none, .lit 5 2 []⟩,
    ⟨none, .alH 3 [.sl true .pub 0 []]⟩,
    ⟨none, .st (.t 3) (.t 5) 1⟩])
  (.seq (.seq (.ops [⟨none, .mv 6 (.t 0)⟩,
    ⟨none, .ca (some 7) 73 [(.t 6)]⟩])
  (.block 0 (.range (.t 7) [8] (.ops [⟨none, .alL 4 [.int .i64 0, .int .i64 0]⟩,
    ⟨none, .st (.t 4) (.t 8) 2⟩])
  (.block 1 (.ops [⟨none, .ld 9 (.t 3) 1 false⟩,
    ⟨none, .ld 10 (.t 4) 2 true⟩,
    ⟨none, .lit 11 2 [(.t 10)]⟩,
    ⟨none, .ap 12 2 (.t 9) (.t 11)⟩,
    ⟨none, .st (.t 3) (.t 12) 1⟩])))))
  (.seq (.ops [⟨none, .ld 13 (.t 3) 1 false⟩,
    ⟨none, .mv 2 (.t 13)⟩])
  (.ret))))
theorem comp92 : compFn Try.prog [4] Try.f92 = some ([.t 2], c92) := by kernel_rfl
/-- topiary/topiaryref05.ahead: 2 parameters, 12 slots. -/
def c94 : C :=
  .seq (.ops [⟨none, .bxL 2 (.t 0)⟩,
    ⟨none, .bxL 3 (.t 1)⟩,
    ⟨none, .mv 4 (.c (.bool false))⟩])
  (.seq (.ops [⟨none, .ld 5 (.t 2) 2 true⟩,
    ⟨none, .ca (some 6) 57 [(.t 5)]⟩,
    ⟨none, .mv 7 (.t 6)⟩,
    ⟨some (7, true), .ld 8 (.t 2) 2 true⟩,
    ⟨some (7, true), .ld 9 (.t 3) 2 true⟩,
    ⟨some (7, true), .ca (some 10) 26 [(.t 8), (.t 9)]⟩,
    ⟨none, .pk 11 (.t 7) (.t 10) (.c (.bool false))⟩,
    ⟨none, .mv 4 (.t 11)⟩])
  (.ret))
theorem comp94 : compFn Try.prog [2, 3] Try.f94 = some ([.t 4], c94) := by kernel_rfl
/-- topiary/topiaryref01.Node: 1 parameters, 20 slots. -/
def c95 : C :=
  .seq (.ops [⟨none, .bxL 1 (.t 0)⟩,
    ⟨none, .mv 2 (.c (.bool false))⟩])
  (.seq (.ops [⟨none, .ld 3 (.t 1) 2 true⟩,
    ⟨none, .ca (some 4) 57 [(.t 3)]⟩,
    ⟨none, .mv 5 (.t 4)⟩,
    ⟨some (5, false), .fa 6 (.t 1) 0⟩,
    ⟨some (5, false), .ld 7 (.t 6) 1 false⟩,
    ⟨some (5, false), .bi 8 .eql (.t 7) (.c (.int .i64 0))⟩,
    ⟨some (5, false), .mv 9 (.t 8)⟩,
    ⟨some (9, true), .fa 10 (.t 1) 1⟩,
    ⟨some (9, true), .ld 11 (.t 10) 1 false⟩,
    ⟨some (9, true), .bi 12 .eql (.t 11) (.c (.int .i64 0))⟩,
    ⟨some (9, true), .mv 13 (.t 12)⟩,
    ⟨some (13, false), .fa 14 (.t 1) 1⟩,
    ⟨some (13, false), .ld 15 (.t 14) 1 false⟩,
    ⟨some (13, false), .bi 16 .eql (.t 15) (.c (.int .i64 1))⟩,
    ⟨some (9, true), .pk 17 (.t 13) (.c (.bool true)) (.t 16)⟩,
    ⟨some (5, false), .pk 18 (.t 9) (.t 17) (.c (.bool false))⟩,
    ⟨none, .pk 19 (.t 5) (.c (.bool true)) (.t 18)⟩,
    ⟨none, .mv 2 (.t 19)⟩])
  (.ret))
theorem comp95 : compFn Try.prog [1] Try.f95 = some ([.t 2], c95) := by kernel_rfl
end Go.VL.opl

/- The V-logic, part 18: code. -/
import Derived.Test.YtefbofjonjdebaaVq
import Derived.Sort.LoopGhostIn
set_option linter.unusedVariables false
set_option linter.unusedSimpArgs false
namespace Go.VL
open Go

def Fw (ro : Option Nat) : Fence := { Fence.wide with round := ro }

theorem callsIn_Fw {ro : Option Nat} {n : Nat} {P : Program} {f : FuncId} {args : Array Value} {w : World} {R : Ending → World → Prop} (h : Calls P f args w R) : CallsIn (Fw ro) n P f args w R :=
  (callsIn_wide (n := n)).2 h

def mark (r : Nat) : Deferred := { target := .collected r, args := #[] }

/-- The marks of the loops over functions. -/
def Marks (γ0 γ : G) (ds : List Deferred) : Prop := ∃ rs : List Nat, ds = rs.map mark ∧ rs.Nodup ∧ ∀ r ∈ rs, γ.phi r = some (.deferred (some [])) ∧ γ0.phi r = none

def exitX : Exit → X → Prop
  | .normal, .normal => True
  | .exit i, .exit j => i = j
  | .ret, .ret => True
  | _, _ => False

def Post (γ0 : G) (N : Nat) (Q : X → Fr → St → Prop) : Exit → Act → World → Prop := fun e a w =>
  ∃ x F σ γ lam, exitX e x ∧ LeB γ0 γ ∧ INV γ σ w ∧ FRep γ σ F a w lam ∧ a.tmps.size = N ∧ Marks γ0 γ a.defers ∧ Q x F σ

theorem Marks.mono {γ0 γ γ' : G} {ds : List Deferred} (h : Marks γ0 γ ds) (hl : LeB γ γ') : Marks γ0 γ' ds := by
  obtain ⟨rs, h1, h2, h3⟩ := h
  exact ⟨rs, h1, h2, fun r hr => ⟨hl.phi _ _ (h3 r hr).1, (h3 r hr).2⟩⟩

section
variable {P : Program} {γ0 γ : G} {σ : St} {F : Fr} {a : Act} {w : World} {lam : Nat → Nat} {o : Oper} {N : Nat} {ro : Option Nat} {n : Nat} {Q : X → Fr → St → Prop}

/-- Laying aside other blocks. -/
theorem INV.rephi (h : INV γ σ w) {p : Nat → Option Obj} (h1 : ∀ (b : Nat) (o : Obj), p b = some o → w.heap[b]? = some o) (h2 : ∀ b ∈ γ.mu, p b = none)
    (h3 : ∀ (r : Nat) v s es b, σ.live[r]? = some true → γ.rho[r]? = some (v, s, es) → blockOf v = some b → p b = none) : INV { γ with phi := p } σ w := by
  have hle : LeR γ { γ with phi := p } := ⟨fun _ _ x => x, fun _ _ x => x, fun _ _ _ x => x⟩
  refine ⟨h.os, h.tape, h.out, h1, h.pub, h.mulen, fun i b o e1 e2 => ?_, h.inj, h.rholen, fun r v s es e1 e2 => ?_, h.snapb, h.apart⟩
  · obtain ⟨p1, p2, p3⟩ := h.objs _ _ _ e1 e2
    exact ⟨h2 b (mem_of_get e1), p2, p3.but (k := w.heap.size) (.refl _ _) (by obtain ⟨x, hx⟩ := p3.heap; have := lt_of_heap hx; omega) hle (fun _ => rfl) (fun _ _ _ x => x)⟩
  · have ho := h.own _ _ _ _ e1 e2
    refine ho.but (k := w.heap.size) (.refl _ _) ?_ hle ?_
    · obtain ⟨a, cap, rfl, _, _, _, _, _, c, _, _, _, h7, _⟩ := ho
      simp only [blockOf, ne_eq, Option.some.injEq]
      have := lt_of_heap h7
      omega
    · intro b hb
      refine ⟨h3 _ _ _ _ _ e1 e2 hb, ?_⟩
      obtain ⟨a, cap, rfl, _, _, _, h5, h6, _⟩ := ho
      cases hb
      exact ⟨h5, h6⟩

theorem blk_of_own (h : INV γ σ w) {r : Nat} {v : Value} {s : Nat} {es : List (List V)} (h1 : σ.live[r]? = some true) (h2 : γ.rho[r]? = some (v, s, es)) {b : Nat} (hb : blockOf v = some b) :
    γ.phi b = none ∧ ∃ x, w.heap[b]? = some x := by
  obtain ⟨a, cap, rfl, _, _, h4, _, _, c, _, _, _, h7, _⟩ := h.own _ _ _ _ h1 h2
  cases hb
  exact ⟨h4, _, h7⟩

open Classical in
/-- What a call leaves alone: the caller's own variables too. -/
noncomputable def aside (γ : G) (F : Fr) (lam : Nat → Nat) (w : World) (b : Nat) : Option Obj := if (∃ k cs, lget k F.l = some cs ∧ lam k = b) then w.heap[b]? else γ.phi b

/-- A call. -/
theorem call_ok {f : FuncId} {xs : List V} {vs : List Value} {K : V → St → Prop} (hi : INV γ σ w) (hf : FRep γ σ F a w lam) (hr : RepL γ xs vs) (h : CallA P f xs σ K) :
    Calls P f vs.toArray w fun e w' => ∃ v x σ' γ', e = .returned v ∧ Le γ γ' ∧ INV γ' σ' w' ∧ Rep γ' x v ∧ FRep γ' σ' F a w' lam ∧ K x σ' := by
  have hmu : ∀ b ∈ γ.mu, aside γ F lam w b = none := by
    intro b hb
    have : ¬ (∃ k cs, lget k F.l = some cs ∧ lam k = b) := by
      rintro ⟨k, cs, h1, rfl⟩
      exact (hf.l k cs h1).mu hb
    simp only [aside, if_neg this]
    obtain ⟨i, hi', he⟩ := List.getElem_of_mem hb
    have hlt : i < σ.objs.length := hi.mulen ▸ hi'
    exact (hi.objs i b σ.objs[i] (by rw [List.getElem?_eq_getElem hi', he]) (List.getElem?_eq_getElem hlt)).1
  have hi1 : INV { γ with phi := aside γ F lam w } σ w := by
    refine hi.rephi ?_ hmu ?_
    · intro b o hb
      simp only [aside] at hb
      split at hb
      · exact hb
      · exact hi.phi _ _ hb
    · intro r v s es b h1 h2 h3
      have : ¬ (∃ k cs, lget k F.l = some cs ∧ lam k = b) := by
        rintro ⟨k, cs, e1, rfl⟩
        exact (hf.l k cs e1).own r _ _ _ h1 h2 h3
      simp only [aside, if_neg this]
      exact (blk_of_own hi h1 h2 h3).1
  have hr1 : RepL { γ with phi := aside γ F lam w } xs vs := RepL.mono (γ := γ) (γ' := { γ with phi := aside γ F lam w }) ⟨fun _ _ x => x, fun _ _ x => x, fun _ _ _ x => x⟩ _ _ hr
  refine (h.2 _ w vs hi1 hr1).mono ?_
  rintro e w' ⟨v, x, σ', γ', rfl, hle, hi2, hx, hk⟩
  have hphi : γ'.phi = aside γ F lam w := hle.phi
  have sub : ∀ b o, γ.phi b = some o → aside γ F lam w b = some o := by
    intro b o hb
    simp only [aside]
    split
    · exact hi.phi _ _ hb
    · exact hb
  have hloc : ∀ k cs, lget k F.l = some cs → aside γ F lam w (lam k) = w.heap[lam k]? := by
    intro k cs hk
    simp only [aside]
    rw [if_pos ⟨k, cs, hk, rfl⟩]
  have none_of : ∀ b, γ'.phi b = none → γ.phi b = none := by
    intro b hb
    cases hx : γ.phi b with
    | none => rfl
    | some o => rw [hphi, sub b o hx] at hb; cases hb
  have hi3 : INV { γ' with phi := γ.phi } σ' w' := by
    refine hi2.rephi (fun b o hb => hi2.phi b o (by rw [hphi]; exact sub b o hb)) ?_ ?_
    · intro b hb
      obtain ⟨i, hi', he⟩ := List.getElem_of_mem hb
      have hlt : i < σ'.objs.length := hi2.mulen ▸ hi'
      exact none_of b (hi2.objs i b σ'.objs[i] (by rw [List.getElem?_eq_getElem hi', he]) (List.getElem?_eq_getElem hlt)).1
    · intro r v s es b h1 h2 h3
      exact none_of b (blk_of_own hi2 h1 h2 h3).1
  have hler : LeR γ { γ' with phi := γ.phi } := ⟨hle.mu, hle.rho, hle.pub⟩
  refine ⟨v, x, σ', { γ' with phi := γ.phi }, rfl, ⟨hler, ?_, rfl, hle.snap, hle.os, hle.tape, hle.out⟩, hi3, Rep.mono (γ := γ') (γ' := { γ' with phi := γ.phi }) ⟨fun _ _ x => x, fun _ _ x => x, fun _ _ _ x => x⟩ _ _ hx, ?_, hk⟩
  · intro b hb
    refine hle.pubp b ?_
    cases hx : γ.phi b with
    | none => exact absurd hx hb
    | some o => rw [show ({ γ with phi := aside γ F lam w } : G).phi b = aside γ F lam w b from rfl, sub b o hx]; simp
  · refine ⟨fun t => (hf.s t).mono hler, fun k cs hk' => ?_, hf.inj⟩
    have hl := hf.l k cs hk'
    obtain ⟨vs', e', h1, h2⟩ := hl.cells
    have hph : γ'.phi (lam k) = some (.cells vs'.toArray e' (0, 0)) := by rw [hphi, hloc k cs hk', h1]
    refine ⟨⟨vs', e', hi2.phi _ _ hph, RepL.mono hler _ _ h2⟩, hl.phi, ?_, ?_, ?_⟩
    · have := hle.pubp (lam k) (by
        show aside γ F lam w (lam k) ≠ none
        rw [hloc k cs hk', h1]; simp)
      exact this.trans hl.pub
    · intro hm
      obtain ⟨i, hi', he⟩ := List.getElem_of_mem hm
      have hlt : i < σ'.objs.length := hi2.mulen ▸ hi'
      have := (hi2.objs i (lam k) σ'.objs[i] (by rw [List.getElem?_eq_getElem hi', he]) (List.getElem?_eq_getElem hlt)).1
      rw [hph] at this
      cases this
    · intro r v s es h1 h2 h3
      have := (blk_of_own hi2 h1 h2 h3).1
      rw [hph] at this
      cases this

theorem compO_noDefer {loc : List Nat} {c : O} (hc : compO P loc o = some c) : ∀ c', o.op ≠ .defer c' := by
  intro c' h
  simp [compO, h] at hc

theorem compO_call {loc : List Nat} {c : O} (hc : compO P loc o = some c) (hcall : c.isCall = true) : ∃ cl, o.op = .call cl ∧ compCall P o.dst cl = some c := by
  unfold compO at hc
  split at hc
  · rename_i cl hop
    exact ⟨cl, hop, hc⟩
  · simp at hc
  · split at hc
    · split at hc
      · simp at hc
      · rename_i h1
        cases hc
        rw [hcall] at h1
        exact absurd rfl h1
    · simp at hc

/-- What goes on behind an operation. -/
def Nxt (γ : G) (a : Act) (next : Act → World → Prop) (K : Fr → St → Prop) : Prop :=
  ∀ a' w' γ' σ' F' lam', LeB γ γ' → INV γ' σ' w' → FRep γ' σ' F' a' w' lam' → a'.tmps.size = a.tmps.size → a'.defers = a.defers → K F' σ' → next a' w'

theorem put_size (a : Act) (d : Option Nat) (v : Value) : (a.put d v).tmps.size = a.tmps.size ∧ (a.put d v).defers = a.defers := by cases d <;> simp [Act.put]

theorem enter_ok {f : FuncId} {args : Array Value} {w : World} (h : ∃ fn, P.funcs[f]? = some fn ∧ fn.body.isSome = true ∧ (fn.name == "runtime.NumGoroutine") = false) :
    (callFunc f args).run P w = .ok (.enter f args) w := by
  obtain ⟨fn, h1, h2, h3⟩ := h
  have hb : fn.body.isNone = false := by cases hx : fn.body <;> simp_all
  unfold callFunc
  simp only [Sem.run_bind, run_program, Result.andThen_ok, h1, h3, hb, Bool.false_eq_true, if_false, Sem.run_pure, Bool.false_and, Bool.and_false]

theorem op_wp {e : Option (List Nat)} {loc : List Nat} {c : O} {K : Fr → St → Prop} {next : Act → World → Prop} {QQ : Exit → Act → World → Prop} (hc : compO P loc o = some c) (h : c.W P e F σ fun _ => K) (hi : INV γ σ w) (hf : FRep γ σ F a w lam)
    (hN : ∀ d, o.dst = some d → d < a.tmps.size) (hn : Nxt γ a next K) : o.wpIn (Fw ro) n P a w next QQ := by
  refine ⟨fun _ _ => trivial, ?_⟩
  rw [Oper.semAt_eq _ _ _ (compO_noDefer hc)]
  have after : ∀ {d : Option Nat} {f : FuncId} {xs : List V} {vs : List Value}, o.dst = d → RepL γ xs vs → (execOp a.eval o).run P w = .ok (.enter f vs.toArray) w →
      CallA P f xs σ (fun v σ' => Kept e σ σ' ∧ K (setO F d v) σ') → o.uponIn (Fw ro) n P a next QQ ((execOp a.eval o).run P w) := by
    intro d f xs vs hd hr hrun hcall
    rw [hrun]
    simp only [Oper.uponIn]
    refine ⟨fun h => by simp [Fw, Fence.wide] at h, (callsIn_Fw (call_ok hi hf hr hcall)).mono ?_⟩
    rintro e' w' ⟨v, x, σ', γ', rfl, hle, hi2, hx, hf2, _, hk⟩
    refine hn _ w' γ' σ' (setO F d x) lam hle.b hi2 ?_ (put_size a o.dst v).1 (put_size a o.dst v).2 hk
    rw [hd]
    cases d with
    | none => exact hf2
    | some d => exact hf2.set (x := .v x) hx (hN d hd)
  cases hcl : c.isCall with
  | false =>
    have h' : resK K (c.run F σ) := by cases c <;> first | exact h | (simp [O.isCall] at hcl)
    obtain ⟨r, w', γ', σ', F', lam', v, h1, h2, h3, h4, h5, h6⟩ := compO_good hc hcl hi hf hN h'
    rw [h1]
    rcases h2 with rfl | ⟨rfl, rfl⟩
    · exact hn _ _ _ _ _ _ h3.b h4 h5 (put_size a o.dst v).1 (put_size a o.dst v).2 h6
    · exact hn _ _ _ _ _ _ h3.b h4 h5 (put_size a o.dst undef).1 (put_size a o.dst undef).2 h6
  | true =>
    obtain ⟨cl, hop, hcc⟩ := compO_call hc hcl
    unfold compCall at hcc
    split at hcc
    · rename_i f hcal
      simp only [Option.map_eq_some_iff] at hcc; obtain ⟨es, h1, rfl⟩ := hcc
      refine after rfl (vas_rep hf h1) ?_ h
      have := enter_ok (P := P) (f := f) (args := cl.args.map a.eval) (w := w) h.1
      simp [execOp, hop, resolve, hcal, Act.eval, Deferred.ofValue, invoke, this]
      apply Array.ext'; simp
    · rename_i k hcal
      simp only [Option.map_eq_some_iff] at hcc; obtain ⟨es, h1, rfl⟩ := hcc
      obtain ⟨g, caps, hv, hcall⟩ := h
      have hr := va_rep hf (s := 0) (x := .tmp k) (e := .t k) rfl
      rw [hv] at hr
      simp only [Rep] at hr
      obtain ⟨cs, hr1, hr2⟩ := hr
      refine after rfl ((vas_rep hf h1).append hr2) ?_ hcall
      have := enter_ok (P := P) (f := g) (args := cl.args.map a.eval ++ cs.toArray) (w := w) hcall.1
      simp only [execOp, hop, resolve, hcal, hr1, Deferred.ofValue, invoke, Sem.run_bind, Sem.run_pure, Result.andThen_ok]
      rw [show #[] ++ cl.args.map a.eval ++ cs.toArray = cl.args.map a.eval ++ cs.toArray from by simp, this]
      congr 2
      apply Array.ext'; simp
    · split at hcc <;> (try split at hcc) <;> (try split at hcc) <;> (try split at hcc) <;> (try simp at hcc) <;> (try (obtain ⟨_, _, rfl⟩ := hcc; simp [O.isCall] at hcl)) <;> (try (cases hcc; simp [O.isCall] at hcl))
    · simp at hcc
end
end Go.VL

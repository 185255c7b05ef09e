/- The V-logic, part 20: a function's contract from its compiled body. -/
import Derived.Test.YtefbofjonjdebaaVw
import Derived.RangeFuncLeaves
import Derived.RangeFuncRecord
set_option linter.unusedVariables false
set_option linter.unusedSimpArgs false
namespace Go.VL
open Go

def numbered : Nat → List V → List (Nat × S)
  | _, [] => []
  | k, x :: r => (k, .v x) :: numbered (k + 1) r
/-- The frame a function begins with. -/
def inFr (xs : List V) : Fr := ⟨numbered 0 xs, []⟩

/-- A result: a slot; a variable. -/
inductive RV where
  | t (k : Nat)
  | c (k n : Nat) (g : Bool)

def compR (P : Program) : List ResultVar → Option (List RV)
  | [] => some []
  | .tmp t :: r => (compR P r).map (.t t :: ·)
  | .cell b t :: r => match szOf P t, aggOf P t, compR P r with
    | some n, some g, some l => some (.c b n g :: l)
    | _, _, _ => none

def retV : List V → V
  | [x] => x
  | vs => .tup vs
def retW (F : Fr) (σ : St) (k : V → Prop) : List RV → List V → Prop
  | [], acc => k (retV acc)
  | .t t :: r, acc => retW F σ k r (acc ++ [F.va (.t t)])
  | .c b n g :: r, acc => resK (fun F' _ => retW F σ k r (acc ++ [F'.va (.t 0)])) (ldW 0 F σ n g (F.ev (.t b)))

def compFn (P : Program) (loc : List Nat) (fn : Func) : Option (List RV × C) :=
  match fn.body, compR P fn.results.toList with
  | some b, some ts => (compC P fn.ntmps loc b).map (ts, ·)
  | _, _ => none

section
variable {P : Program} {γ0 γ : G} {σ : St} {F : Fr} {a : Act} {w : World} {lam : Nat → Nat} {o : Oper} {N : Nat} {ro : Option Nat} {n : Nat} {Q : X → Fr → St → Prop} {loc : List Nat}

theorem numbered_rep : ∀ (xs : List V) (vs : List Value) (k t : Nat), RepL γ xs vs → k ≤ t → SRep γ lam (sget t (numbered k xs)) (vs.getD (t - k) undef)
  | [], vs, k, t, _, _ => by simp [numbered, sget, SRep, Rep]
  | x :: r, vs, k, t, h, hk => by
    simp only [RepL] at h
    obtain ⟨v, us, rfl, h1, h2⟩ := h
    simp only [numbered, sget]
    by_cases e : t = k
    · subst e
      simp [SRep, h1]
    · have : Nat.beq k t = false := by
        cases hb : Nat.beq k t with
        | false => rfl
        | true => exact absurd (Nat.eq_of_beq_eq_true hb).symm e
      rw [this, cond_false]
      have h2 := numbered_rep r us (k + 1) t h2 (by omega)
      have : t - k = (t - (k + 1)) + 1 := by omega
      rw [this]
      simpa using h2

theorem FRep.start {xs : List V} {vs : List Value} (h : RepL γ xs vs) {m : Nat} : FRep γ σ (inFr xs) { tmps := vs.toArray ++ Array.replicate m undef, defers := [] } w lam := by
  refine ⟨fun t => ?_, fun k cs hk => by simp [inFr, lget] at hk, fun k k' cs cs' h1 => by simp [inFr, lget] at h1⟩
  have := numbered_rep (lam := lam) xs vs 0 t h (by omega)
  simp only [inFr]
  have e : (vs.toArray ++ Array.replicate m undef).getD t undef = vs.getD t undef := by
    rw [Array.getD_eq_getD_getElem?, Array.getElem?_append]
    split
    · rename_i hlt
      simp [List.getD_eq_getElem?_getD]
    · rename_i hlt
      simp only [List.size_toArray, Nat.not_lt] at hlt
      rw [List.getD_eq_getElem?_getD, List.getElem?_eq_none hlt, Array.getElem?_replicate]
      split <;> simp
  rw [e]
  simpa using this

theorem RepL.snoc {xs : List V} {vs : List Value} {x : V} {v : Value} (h : RepL γ xs vs) (hx : Rep γ x v) : RepL γ (xs ++ [x]) (vs ++ [v]) :=
  h.append (by simp only [RepL]; exact ⟨v, [], rfl, hx, rfl⟩)

theorem retW_run {k : V → Prop} (hi : INV γ σ w) (hf : FRep γ σ F a w lam) : ∀ (rs : List ResultVar) (ts : List RV) (acc : List V) (vs : List Value), compR P rs = some ts → RepL γ acc vs → retW F σ k ts acc →
    ∃ us xs, (rs.mapM (m := Sem) fun | .tmp t => pure (a.tmps.getD t undef) | .cell b t => do loadVar t (← asAddr (a.tmps.getD b undef))).run P w = .ok us w ∧ RepL γ xs (vs ++ us) ∧ k (retV xs)
  | [], ts, acc, vs, hc, hr, h => by
    simp only [compR, Option.some.injEq] at hc
    subst hc
    exact ⟨[], acc, rfl, by simpa using hr, h⟩
  | .tmp t :: rs, ts, acc, vs, hc, hr, h => by
    simp only [compR, Option.map_eq_some_iff] at hc
    obtain ⟨ts', h1, rfl⟩ := hc
    have hrep : Rep γ (F.va (.t t)) (a.tmps.getD t undef) := va_rep hf (s := 0) (x := .tmp t) (e := .t t) rfl
    obtain ⟨us, xs, r1, r2, r3⟩ := retW_run hi hf rs ts' _ _ h1 (hr.snoc hrep) h
    exact ⟨a.tmps.getD t undef :: us, xs, by simp only [List.mapM_cons, Sem.run_bind, r1, Sem.run_pure, Result.andThen_ok], by simpa using r2, r3⟩
  | .cell b t :: rs, ts, acc, vs, hc, hr, h => by
    simp only [compR] at hc
    split at hc
    · rename_i n g l h1 h2 h3
      cases hc
      obtain ⟨ad, v, y, e1, e2, e3, e4⟩ := ld_ok (P := P) (x := .tmp b) (e := .t b) hi hf h1 h2 rfl h
      have hy : (F.set 0 (.v y)).va (.t 0) = y := by simp [Fr.va, Fr.ev, Fr.set, sget_sset, S.val]
      rw [hy] at e4
      obtain ⟨us, xs, r1, r2, r3⟩ := retW_run hi hf rs l _ _ h3 (hr.snoc e3) e4
      simp only [Act.eval] at e1
      refine ⟨v :: us, xs, ?_, by simpa using r2, r3⟩
      have ha : (asAddr (.pointer (some ad))).run P w = .ok ad w := rfl
      simp only [List.mapM_cons, Sem.run_bind, e1, ha, Sem.run_pure, Result.andThen_ok, e2, r1]
    · cases hc

theorem results_run {fn : Func} {ts : List RV} {k : V → Prop} (hi : INV γ σ w) (hf : FRep γ σ F a w lam) (hc : compR P fn.results.toList = some ts) (h : retW F σ k ts []) :
    ∃ v x, (results fn a.tmps).run P w = .ok v w ∧ Rep γ x v ∧ k x := by
  obtain ⟨us, xs, r1, r2, r3⟩ := retW_run hi hf _ _ [] [] hc (by simp [RepL]) h
  simp only [List.nil_append] at r2
  refine ⟨if h : us.toArray.size = 1 then us.toArray[0] else .tuple us.toArray, retV xs, ?_, ?_, r3⟩
  · unfold results
    have e : fn.results = fn.results.toList.toArray := by simp
    rw [e, List.mapM_toArray]
    simp only [Sem.run_bind, map_eq_pure_bind, Sem.run_pure]
    erw [r1]
    rfl
  · have hl := r2.length
    match xs, us, hl, r2 with
    | [], [], _, _ => simp [retV, Rep, RepL]
    | [x], [u], _, r2 =>
      simp only [RepL] at r2
      obtain ⟨v, ws, e, h1, _⟩ := r2
      simp only [List.cons.injEq] at e
      simpa [retV, e.1] using h1
    | x :: y :: r, u :: u' :: r', _, r2 =>
      simp only [retV, Rep]
      exact ⟨_, by simp, r2⟩

/-- A frame that leaves: its marks are taken off. -/
theorem leavesM {fn : Func} {R : Ending → World → Prop} :
    ∀ (rs : List Nat) (γ : G) (w : World), INV γ σ w → FRep γ σ F a w lam → (∀ r ∈ rs, γ.phi r = some (.deferred (some []))) → rs.Nodup →
      (∀ p w', INV { γ with phi := p } σ w' → FRep { γ with phi := p } σ F a w' lam → (∀ b o, γ.phi b = some o → b ∉ rs → p b = some o) → ∃ v, (results fn a.tmps).run P w' = .ok v w' ∧ R (.returned v) w') →
      LeavesInM (Fw none) n P fn a.tmps R (rs.map mark) .returning w
  | [], γ, w, hi, hf, _, _, h => by
    simp only [List.map_nil, LeavesInM, LeavesIn]
    exact h γ.phi w hi hf (fun _ _ x _ => x)
  | r :: rs, γ, w, hi, hf, hr, hn, h => by
    have hr0 := hr r (by simp)
    have hw0 := hi.phi _ _ hr0
    simp only [List.map_cons, LeavesInM]
    refine ⟨by simp, .inl ⟨r, w.putObj r (.deferred none), rfl, run_takeDeferred hw0, ?_⟩⟩
    have hmu : r ∉ γ.mu := by
      intro hm
      obtain ⟨i, hi', he⟩ := List.getElem_of_mem hm
      have hlt : i < σ.objs.length := hi.mulen ▸ hi'
      have := (hi.objs i r σ.objs[i] (by rw [List.getElem?_eq_getElem hi', he]) (List.getElem?_eq_getElem hlt)).1
      rw [hr0] at this; cases this
    have hown : ∀ (k : Nat) v s es, σ.live[k]? = some true → γ.rho[k]? = some (v, s, es) → blockOf v ≠ some r := by
      intro k v s es h1 h2 h3
      have := (blk_of_own hi h1 h2 h3).1
      rw [hr0] at this; cases this
    have hpub : γ.pub r = [] := by
      cases hx : γ.pub r with
      | nil => rfl
      | cons v vs =>
        obtain ⟨c, e, z, h1, _⟩ := hi.pub r 0 v (by rw [hx]; rfl)
        rw [hw0] at h1; cases h1
    have hi1 : INV { γ with phi := fun b => if b = r then none else γ.phi b } σ w := by
      refine hi.rephi (fun b o hb => ?_) (fun b hb => ?_) (fun k v s es b h1 h2 h3 => ?_)
      · split at hb
        · cases hb
        · exact hi.phi _ _ hb
      · split
        · rfl
        · obtain ⟨i, hi', he⟩ := List.getElem_of_mem hb
          have hlt : i < σ.objs.length := hi.mulen ▸ hi'
          exact (hi.objs i b σ.objs[i] (by rw [List.getElem?_eq_getElem hi', he]) (List.getElem?_eq_getElem hlt)).1
      · split
        · rfl
        · exact (blk_of_own hi h1 h2 h3).1
    have hfree : Free { γ with phi := fun b => if b = r then none else γ.phi b } σ r := ⟨by simp, hpub, hmu, hown⟩
    have hb : But (some r) w (w.putObj r (.deferred none)) := by
      refine ⟨rfl, rfl, rfl, by simp [World.putObj], fun k o hk hx => ?_⟩
      exact (World.putObj_heap_other (fun e => hk (by rw [e]))).trans hx
    have hi2 := hi1.but hb hfree
    have hnl : ∀ k cs, lget k F.l = some cs → lam k ≠ r := by
      rintro k cs hk rfl
      rw [(hf.l k cs hk).phi] at hr0
      cases hr0
    have hf2 : FRep { γ with phi := fun b => if b = r then none else γ.phi b } σ F a (w.putObj r (.deferred none)) lam := by
      refine ⟨fun t => SRep.mono (γ := γ) (γ' := { γ with phi := fun b => if b = r then none else γ.phi b }) ⟨fun _ _ x => x, fun _ _ x => x, fun _ _ _ x => x⟩ (hf.s t), fun k cs hk => ?_, hf.inj⟩
      have hl := hf.l k cs hk
      refine LocAt.but ⟨?_, ?_, hl.pub, hl.mu, hl.own⟩ hb (hnl k cs hk)
      · obtain ⟨vs, e, x1, x2⟩ := hl.cells
        exact ⟨vs, e, x1, RepL.mono (γ := γ) (γ' := { γ with phi := fun b => if b = r then none else γ.phi b }) ⟨fun _ _ x => x, fun _ _ x => x, fun _ _ _ x => x⟩ _ _ x2⟩
      · show (if lam k = r then none else γ.phi (lam k)) = none
        rw [if_neg (hnl k cs hk)]; exact hl.phi
    rw [List.nodup_cons] at hn
    refine leavesM rs _ _ hi2 hf2 (fun k hk => ?_) hn.2 (fun p w' hp hfp hq => h p w' hp hfp (fun b o hb hnb => ?_))
    · have hne : k ≠ r := fun e => hn.1 (e ▸ hk)
      simp only [if_neg hne]
      exact hr k (by simp [hk])
    · rw [List.mem_cons, not_or] at hnb
      exact hq b o (by simp only [if_neg hnb.1]; exact hb) hnb.2

theorem fn_call {f : FuncId} {fn : Func} {xs : List V} {ts : List RV} {c : C} {K : V → St → Prop} (hf : P.funcs[f]? = some fn) (hnm : (fn.name == "runtime.NumGoroutine") = false)
    (hc : compFn P loc fn = some (ts, c)) (hx : xs.length ≤ fn.ntmps)
    (h : c.W P (inFr xs) σ fun x F σ' => match x with
      | .exit _ => False
      | _ => retW F σ' (fun v => K v σ') ts []) : CallA P f xs σ K := by
  unfold compFn at hc
  split at hc
  · rename_i body ts' hb hts
    simp only [Option.map_eq_some_iff, Prod.mk.injEq] at hc
    obtain ⟨c', hcc, rfl, rfl⟩ := hc
    refine ⟨⟨fn, hf, by simp [hb], hnm⟩, fun γ w vs hi hr => callsIn_wide (n := 0).1 ?_⟩
    have hfw : Fw none = Fence.wide := rfl
    rw [← hfw]
    refine callsIn_of_wp_marks hf hb trivial ?_
    have hlen : vs.length ≤ fn.ntmps := by rw [← hr.length]; exact hx
    refine Go.wpIn_mono (code_wp (γ0 := γ) (N := fn.ntmps) (lam := id) hcc h (LeB.refl γ) hi (FRep.start hr) (by simp; omega) ⟨[], rfl, List.nodup_nil, by simp⟩) ?_
    rintro e a w' ⟨x, F, σ', γ', lam, he, hle, hi', hf', _, ⟨rs, hd, hnd, hrs⟩, hq⟩
    have fin : retW F σ' (fun v => K v σ') ts' [] → LeavesInM (Fw none) 0 P fn a.tmps (fun e w' => ∃ v x σ' γ', e = .returned v ∧ Le γ γ' ∧ INV γ' σ' w' ∧ Rep γ' x v ∧ K x σ') a.defers .returning w' := by
      intro hk
      rw [hd]
      refine leavesM rs γ' w' hi' hf' (fun r hr => (hrs r hr).1) hnd ?_
      intro p w2 hp hfp hq
      obtain ⟨v, x, hv, hrv, hkx⟩ := results_run (P := P) hp hfp hts hk
      refine ⟨v, hv, ?_⟩
      have hpp : ∀ b o, γ.phi b = some o → p b = some o := fun b o hb => hq b o (hle.phi b o hb) (fun hm => by rw [(hrs b hm).2] at hb; cases hb)
      have hnone : ∀ b, p b = none → γ.phi b = none := by
        intro b hb
        cases hx : γ.phi b with
        | none => rfl
        | some o => rw [hpp b o hx] at hb; cases hb
      have hi3 : INV { γ' with phi := γ.phi } σ' w2 := by
        refine hp.rephi (fun b o hb => hp.phi b o (hpp b o hb)) (fun b hb => ?_) (fun r v s es b h1 h2 h3 => hnone b (blk_of_own hp h1 h2 h3).1)
        obtain ⟨i, hi', he⟩ := List.getElem_of_mem hb
        have hlt : i < σ'.objs.length := hp.mulen ▸ hi'
        exact hnone b (hp.objs i b σ'.objs[i] (by rw [List.getElem?_eq_getElem hi', he]) (List.getElem?_eq_getElem hlt)).1
      refine ⟨v, x, σ', { γ' with phi := γ.phi }, rfl, ⟨⟨hle.mu, hle.rho, hle.pub⟩, hle.pubp, rfl, hle.snap, hle.os, hle.tape, hle.out⟩, hi3, ?_, hkx⟩
      exact Rep.mono (γ := { γ' with phi := p }) (γ' := { γ' with phi := γ.phi }) ⟨fun _ _ x => x, fun _ _ x => x, fun _ _ _ x => x⟩ _ _ hrv
    cases x with
    | normal => cases e <;> simp only [exitX] at he; exact fin hq
    | ret => cases e <;> simp only [exitX] at he; exact fin hq
    | exit i => exact hq.elim
  · cases hc
end
end Go.VL

/- The V-logic, part 5: what a step of the world leaves as it was. -/
import Derived.Test.YtefbofjonjdebaaVd
set_option linter.unusedVariables false
set_option linter.unusedSimpArgs false
namespace Go.VL
open Go

/-- All blocks but one lie as they lay; the streams are as they were. -/
structure But (b : Option Nat) (w w' : World) : Prop where
  os : w'.os = w.os
  tape : w'.tape = w.tape
  out : w'.output = w.output
  size : w.heap.size ≤ w'.heap.size
  heap : ∀ (k : Nat) (o : Obj), b ≠ some k → w.heap[k]? = some o → w'.heap[k]? = some o

theorem But.refl (b : Option Nat) (w : World) : But b w w := ⟨rfl, rfl, rfl, Nat.le_refl _, fun _ _ _ h => h⟩
theorem But.trans {b : Option Nat} {w w' w'' : World} (h : But b w w') (k : But b w' w'') : But b w w'' :=
  ⟨k.os.trans h.os, k.tape.trans h.tape, k.out.trans h.out, Nat.le_trans h.size k.size, fun i o hi hx => k.heap i o hi (h.heap i o hi hx)⟩
theorem But.push (w : World) (o : Obj) : But none w { w with heap := w.heap.push o } :=
  ⟨rfl, rfl, rfl, by simp, fun k x _ h => by
    rw [Array.getElem?_push]
    have : k ≠ w.heap.size := fun e => by rw [e] at h; simp at h
    simp [this, h]⟩
theorem But.drawn (w : World) (n : Nat) : But none w { w with drawn := n } := ⟨rfl, rfl, rfl, Nat.le_refl _, fun _ _ _ h => h⟩
theorem But.some {w w' : World} (h : But none w w') (b : Option Nat) : But b w w' := ⟨h.os, h.tape, h.out, h.size, fun k o _ x => h.heap k o (by simp) x⟩

theorem lt_of_heap {w : World} {b : Nat} {o : Obj} (h : w.heap[b]? = some o) : b < w.heap.size := (Array.getElem?_eq_some_iff.1 h).1

/-- What an object's block is asked. -/
theorem ORep.heap {γ : G} {w : World} {b : Nat} {o : AObj} (h : ORep γ w b o) : ∃ x, w.heap[b]? = some x := by
  cases o with
  | cells cs => obtain ⟨vs, e, h, _⟩ := h; exact ⟨_, h⟩
  | mp lv es ver => obtain ⟨ents, clock, h, _⟩ := h; exact ⟨_, h⟩
  | it m left =>
    cases m with
    | none => obtain ⟨_, _, _, _, h⟩ := h; exact ⟨_, h⟩
    | some p => obtain ⟨_, _, _, _, _, _, _, h, _⟩ := h; exact ⟨_, h⟩


/-- What the world's one changed block must not be. -/
structure Free (γ : G) (σ : St) (b : Nat) : Prop where
  phi : γ.phi b = none
  pub : γ.pub b = []
  mu : b ∉ γ.mu
  own : ∀ (r : Nat) v s es, σ.live[r]? = some true → γ.rho[r]? = some (v, s, es) → blockOf v ≠ some b

theorem ORep.but {γ γ' : G} {w w' : World} {b k : Nat} {o : AObj} (h : ORep γ w b o) (hb : But (some k) w w') (hk : b ≠ k) (hl : LeR γ γ') (hs : ∀ n, γ'.snap b n = γ.snap b n)
    (hs' : ∀ (c n : Nat) x, γ.snap c n = some x → γ'.snap c n = some x) : ORep γ' w' b o := by
  have hne : (some k : Option Nat) ≠ some b := fun e => hk (by cases e; rfl)
  cases o with
  | cells cs =>
    obtain ⟨vs, e, h1, h2⟩ := h
    exact ⟨vs, e, hb.heap _ _ hne h1, RepL.mono hl _ _ h2⟩
  | mp lv es ver =>
    obtain ⟨ents, clock, h1, h2, h3, h4, h5⟩ := h
    exact ⟨ents, clock, hb.heap _ _ hne h1, (hs _).trans h2, fun n hn => (hs n).trans (h3 n hn), RepM.mono hl lv _ _ h4, h5⟩
  | it m left =>
    cases m with
    | none =>
      obtain ⟨h0, s1, s2, s3, h1⟩ := h
      exact ⟨h0, s1, s2, s3, hb.heap _ _ hne h1⟩
    | some p =>
      obtain ⟨c, ents, clock, seen, lv, h1, h2, h3, h4⟩ := h
      exact ⟨c, ents, clock, seen, lv, hl.mu _ _ h1, hs' _ _ _ h2, hb.heap _ _ hne h3, RepM.mono hl lv _ _ h4⟩

theorem mem_of_get {l : List Nat} {i b : Nat} (h : l[i]? = some b) : b ∈ l := by
  obtain ⟨hlt, he⟩ := List.getElem?_eq_some_iff.1 h
  exact he ▸ List.getElem_mem hlt

theorem OwnAt.but {γ γ' : G} {w w' : World} {k : Nat} {v : Value} {s : Nat} {es : List (List V)} (h : OwnAt γ w v s es) (hb : But (some k) w w') (hk : blockOf v ≠ some k) (hl : LeR γ γ')
    (hp : ∀ b, blockOf v = some b → γ'.phi b = none ∧ γ'.pub b = [] ∧ b ∉ γ'.mu) : OwnAt γ' w' v s es := by
  obtain ⟨a, cap, rfl, h2, h3, h4, h5, h6, c, e, z, vs, h7, h8, h9, h10⟩ := h
  obtain ⟨p1, p2, p3⟩ := hp a.block rfl
  exact ⟨a, cap, rfl, h2, h3, p1, p2, p3, c, e, z, vs, hb.heap _ _ (fun e => hk (by simp [blockOf, e])) h7, h8, RepE.mono hl _ _ _ h9, h10⟩

/-- One block that nobody knows has changed; or none. -/
theorem INV.but {γ : G} {σ : St} {w w' : World} {k : Nat} (h : INV γ σ w) (hb : But (some k) w w') (hf : Free γ σ k) : INV γ σ w' where
  os := hb.os.trans h.os
  tape := hb.tape.trans h.tape
  out := hb.out.trans h.out
  phi := fun b o hx => hb.heap _ _ (fun e => by cases e; rw [hf.phi] at hx; cases hx) (h.phi _ _ hx)
  pub := fun b i v hx => by
    obtain ⟨c, e, z, h1, h2⟩ := h.pub _ _ _ hx
    exact ⟨c, e, z, hb.heap _ _ (fun e => by cases e; rw [hf.pub] at hx; simp at hx) h1, h2⟩
  mulen := h.mulen
  objs := fun i b o h1 h2 => by
    obtain ⟨p1, p2, p3⟩ := h.objs _ _ _ h1 h2
    exact ⟨p1, p2, p3.but hb (fun e => hf.mu (e ▸ mem_of_get h1)) ⟨fun _ _ x => x, fun _ _ x => x, fun _ _ _ x => x⟩ (fun _ => rfl) (fun _ _ _ x => x)⟩
  inj := h.inj
  rholen := h.rholen
  own := fun r v s es h1 h2 => by
    have ho := h.own _ _ _ _ h1 h2
    refine ho.but hb (hf.own _ _ _ _ h1 h2) ⟨fun _ _ x => x, fun _ _ x => x, fun _ _ _ x => x⟩ ?_
    obtain ⟨a, cap, rfl, h3, h4, h5, h6, h7, _⟩ := ho
    intro b hb'
    cases hb'
    exact ⟨h5, h6, h7⟩
  snapb := fun b n x hx => Nat.lt_of_lt_of_le (h.snapb _ _ _ hx) hb.size
  apart := h.apart

theorem INV.free_new {γ : G} {σ : St} {w : World} (h : INV γ σ w) {b : Nat} (hb : w.heap.size ≤ b) : Free γ σ b where
  phi := by
    cases hx : γ.phi b with
    | none => rfl
    | some o => exact absurd (lt_of_heap (h.phi _ _ hx)) (by omega)
  pub := by
    cases hx : γ.pub b with
    | nil => rfl
    | cons v r =>
      obtain ⟨c, e, z, h1, _⟩ := h.pub b 0 v (by rw [hx]; rfl)
      exact absurd (lt_of_heap h1) (by omega)
  mu := fun hm => by
    obtain ⟨i, hi, he⟩ := List.getElem_of_mem hm
    have h1 : γ.mu[i]? = some b := by rw [List.getElem?_eq_getElem hi, he]
    have hlt : i < σ.objs.length := h.mulen ▸ hi
    obtain ⟨_, _, p3⟩ := h.objs i b σ.objs[i] h1 (List.getElem?_eq_getElem hlt)
    obtain ⟨x, hx⟩ := p3.heap
    exact absurd (lt_of_heap hx) (by omega)
  own := fun r v s es h1 h2 e => by
    obtain ⟨a, cap, rfl, _, _, _, _, _, c, _, _, _, h7, _⟩ := h.own _ _ _ _ h1 h2
    simp [blockOf] at e
    subst e
    exact absurd (lt_of_heap h7) (by omega)

/-- New blocks, draws: nothing has changed. -/
theorem INV.step {γ : G} {σ : St} {w w' : World} (h : INV γ σ w) (hb : But none w w') : INV γ σ w' := by
  have hf := h.free_new (b := w'.heap.size) hb.size
  exact h.but (hb.some (some w'.heap.size)) hf

theorem LocAt.but {γ : G} {σ : St} {w w' : World} {b k : Nat} {cs : List V} (h : LocAt γ σ w b cs) (hb : But (some k) w w') (hk : b ≠ k) : LocAt γ σ w' b cs := by
  obtain ⟨vs, e, h1, h2⟩ := h.cells
  exact ⟨⟨vs, e, hb.heap _ _ (fun x => hk (by cases x; rfl)) h1, h2⟩, h.phi, h.pub, h.mu, h.own⟩

theorem FRep.step {γ : G} {σ : St} {F : Fr} {a : Act} {w w' : World} {lam : Nat → Nat} (h : FRep γ σ F a w lam) (hb : But none w w') : FRep γ σ F a w' lam :=
  ⟨h.s, fun k cs hk => by
    have hl := h.l k cs hk
    refine hl.but (k := w'.heap.size) (hb.some _) ?_
    obtain ⟨vs, e, h1, _⟩ := hl.cells
    have := lt_of_heap h1
    have := hb.size
    omega, h.inj⟩
end Go.VL

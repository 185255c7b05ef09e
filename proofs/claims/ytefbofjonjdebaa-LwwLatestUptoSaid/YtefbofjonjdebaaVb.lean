/- The V-logic, part 2: how values lie in memory; what a call does. -/
import Derived.Test.YtefbofjonjdebaaVa
import Derived.Laws.Sem
set_option linter.unusedVariables false
set_option linter.unusedSimpArgs false
namespace Go.VL
open Go

/-- What is known beside the machine: which block an object has, which slice a right has, what is published, what nobody touches. -/
structure G where
  mu : List Nat
  rho : List (Value × Nat × List (List V))
  pub : Nat → List Value
  phi : Nat → Option Obj
  snap : Nat → Nat → Option (List MapEntry × Nat)
  os : Os
  tape : Nat → Question → Nat
  out : Array (Nat × ByteArray)

def pubAt (γ : G) (b o : Nat) (vs : List Value) : Prop := ∀ (i : Nat) (v : Value), vs[i]? = some v → (γ.pub b)[o + i]? = some v

/-- Elements that a view or an owned slice shows. -/
def viewAt (γ : G) (r s : Nat) (es : List (List V)) (a : Addr) : Prop :=
  ∃ (a0 : Addr) (n cap : Nat) (es0 : List (List V)) (lo : Nat), γ.rho[r]? = some (.slice (some a0) n cap, s, es0) ∧ lo + es.length ≤ es0.length ∧ es = (es0.drop lo).take es.length ∧
    a.block = a0.block ∧ a.off = a0.off + lo * s ∧ a.spot = none

mutual
def Rep (γ : G) : V → Value → Prop
  | .int k n, v => v = .int k n
  | .bool b, v => v = .bool b
  | .str s, v => v = .string ⟨s.toArray⟩
  | .agg cs, v => ∃ vs, v = .agg (List.toArray vs) ∧ RepL γ cs vs
  | .tup cs, v => ∃ vs, v = .tuple (List.toArray vs) ∧ RepL γ cs vs
  | .sl true _ _ es, v => es = [] ∧ v = .slice none 0 0
  | .sl false .pub s es, v => ∃ (a : Addr) (cap : Nat) (vs : List Value), v = .slice (some a) es.length cap ∧ (es = [] ∨ a.spot = none) ∧ es.length ≤ cap ∧ pubAt γ a.block a.off vs ∧ RepE γ s es vs
  | .sl false (.own r) s es, v => ∃ (a : Addr) (cap : Nat), v = .slice (some a) es.length cap ∧ a.spot = none ∧ es.length ≤ cap ∧ γ.rho[r]? = some (v, s, es)
  | .sl false (.view r) s es, v => ∃ (a : Addr) (cap : Nat), v = .slice (some a) es.length cap ∧ a.spot = none ∧ es.length ≤ cap ∧ (es = [] ∨ viewAt γ r s es a)
  | .ptr none, v => v = .pointer none
  | .ptr (some p), v => ∃ b, γ.mu[p.1]? = some b ∧ v = .pointer (some ⟨b, p.2, none⟩)
  | .elt .pub s es i o, v => ∃ (a : Addr) (vs : List Value), v = .pointer (some ⟨a.block, a.off + i * s + o, none⟩) ∧ i < es.length ∧ pubAt γ a.block a.off vs ∧ RepE γ s es vs
  | .elt (.own r) s es i o, v => ∃ (a : Addr) (cap : Nat), v = .pointer (some ⟨a.block, a.off + i * s + o, none⟩) ∧ i < es.length ∧ γ.rho[r]? = some (.slice (some a) es.length cap, s, es) ∧ a.spot = none
  | .elt (.view r) s es i o, v => ∃ (a : Addr), v = .pointer (some ⟨a.block, a.off + i * s + o, none⟩) ∧ i < es.length ∧ viewAt γ r s es a
  | .map none, v => v = .map none
  | .map (some i), v => ∃ b, γ.mu[i]? = some b ∧ v = .map (some b)
  | .fn f caps, v => ∃ vs, v = .func (.func f) #[] (List.toArray vs) ∧ RepL γ caps vs
  | .nilf, v => v = .nilFunc
  | .raw x, v => v = x
  | .bad, _ => True
def RepL (γ : G) : List V → List Value → Prop
  | [], vs => vs = []
  | x :: xs, vs => ∃ v ws, vs = v :: ws ∧ Rep γ x v ∧ RepL γ xs ws
def RepE (γ : G) (s : Nat) : List (List V) → List Value → Prop
  | [], vs => vs = []
  | cs :: es, vs => ∃ ws us, vs = ws ++ us ∧ cs.length = s ∧ RepL γ cs ws ∧ RepE γ s es us ∧ ∀ v ∈ ws, v.oneCell' = true
end

/-- As far as values go. -/
structure LeR (γ γ' : G) : Prop where
  mu : ∀ (i : Nat) (b : Nat), γ.mu[i]? = some b → γ'.mu[i]? = some b
  rho : ∀ (i : Nat) b, γ.rho[i]? = some b → γ'.rho[i]? = some b
  pub : ∀ (b i : Nat) (v : Value), (γ.pub b)[i]? = some v → (γ'.pub b)[i]? = some v
structure Le (γ γ' : G) : Prop extends LeR γ γ' where
  pubp : ∀ b, γ.phi b ≠ none → γ'.pub b = γ.pub b
  phi : γ'.phi = γ.phi
  snap : ∀ (b n : Nat) x, γ.snap b n = some x → γ'.snap b n = some x
  os : γ'.os = γ.os
  tape : γ'.tape = γ.tape
  out : γ'.out = γ.out

/-- As Le, but more may be laid aside. -/
structure LeB (γ γ' : G) : Prop extends LeR γ γ' where
  pubp : ∀ b, γ.phi b ≠ none → γ'.pub b = γ.pub b
  phi : ∀ (b : Nat) (o : Obj), γ.phi b = some o → γ'.phi b = some o
  snap : ∀ (b n : Nat) x, γ.snap b n = some x → γ'.snap b n = some x
  os : γ'.os = γ.os
  tape : γ'.tape = γ.tape
  out : γ'.out = γ.out

theorem LeR.trans {a b c : G} (h : LeR a b) (k : LeR b c) : LeR a c :=
  ⟨fun _ _ x => k.mu _ _ (h.mu _ _ x), fun _ _ x => k.rho _ _ (h.rho _ _ x), fun _ _ _ x => k.pub _ _ _ (h.pub _ _ _ x)⟩
theorem Le.refl (γ : G) : Le γ γ := ⟨⟨fun _ _ h => h, fun _ _ h => h, fun _ _ _ h => h⟩, fun _ _ => rfl, rfl, fun _ _ _ h => h, rfl, rfl, rfl⟩
theorem Le.trans {a b c : G} (h : Le a b) (k : Le b c) : Le a c :=
  ⟨h.toLeR.trans k.toLeR, fun b hb => (k.pubp b (by rw [h.phi]; exact hb)).trans (h.pubp b hb), k.phi.trans h.phi, fun _ _ _ x => k.snap _ _ _ (h.snap _ _ _ x), k.os.trans h.os,
   k.tape.trans h.tape, k.out.trans h.out⟩

theorem LeB.refl (γ : G) : LeB γ γ := ⟨⟨fun _ _ h => h, fun _ _ h => h, fun _ _ _ h => h⟩, fun _ _ => rfl, fun _ _ h => h, fun _ _ _ h => h, rfl, rfl, rfl⟩
theorem LeB.trans {a b c : G} (h : LeB a b) (k : LeB b c) : LeB a c :=
  ⟨h.toLeR.trans k.toLeR, fun b hb => (k.pubp b (by
      cases hx : a.phi b with
      | none => exact absurd hx hb
      | some o => rw [h.phi _ _ hx]; simp)).trans (h.pubp b hb), fun b o x => k.phi _ _ (h.phi _ _ x), fun _ _ _ x => k.snap _ _ _ (h.snap _ _ _ x), k.os.trans h.os, k.tape.trans h.tape, k.out.trans h.out⟩
theorem Le.b {γ γ' : G} (h : Le γ γ') : LeB γ γ' := ⟨h.toLeR, h.pubp, fun b o x => by rw [h.phi]; exact x, h.snap, h.os, h.tape, h.out⟩

theorem pubAt.mono {γ γ' : G} (h : LeR γ γ') {b o : Nat} {vs : List Value} (k : pubAt γ b o vs) : pubAt γ' b o vs := fun i v hv => h.pub _ _ _ (k i v hv)
theorem viewAt.mono {γ γ' : G} (h : LeR γ γ') {r s : Nat} {es : List (List V)} {a : Addr} (k : viewAt γ r s es a) : viewAt γ' r s es a := by
  obtain ⟨a0, n, cap, es0, lo, h1, h2⟩ := k
  exact ⟨a0, n, cap, es0, lo, h.rho _ _ h1, h2⟩

mutual
theorem Rep.mono {γ γ' : G} (h : LeR γ γ') : ∀ (x : V) (v : Value), Rep γ x v → Rep γ' x v
  | .int _ _, _, k => by simpa only [Rep] using k
  | .bool _, _, k => by simpa only [Rep] using k
  | .str _, _, k => by simpa only [Rep] using k
  | .agg cs, _, k => by
    simp only [Rep] at k ⊢
    obtain ⟨vs, h1, h2⟩ := k
    exact ⟨vs, h1, RepL.mono h cs vs h2⟩
  | .tup cs, _, k => by
    simp only [Rep] at k ⊢
    obtain ⟨vs, h1, h2⟩ := k
    exact ⟨vs, h1, RepL.mono h cs vs h2⟩
  | .sl true _ _ _, _, k => by simpa only [Rep] using k
  | .sl false .pub s es, _, k => by
    simp only [Rep] at k ⊢
    obtain ⟨a, cap, vs, h1, h2, h3, h4, h5⟩ := k
    exact ⟨a, cap, vs, h1, h2, h3, h4.mono h, RepE.mono h s es vs h5⟩
  | .sl false (.own _) _ _, _, k => by
    simp only [Rep] at k ⊢
    obtain ⟨a, cap, h1, h2, h3, h4⟩ := k
    exact ⟨a, cap, h1, h2, h3, h.rho _ _ h4⟩
  | .sl false (.view _) _ _, _, k => by
    simp only [Rep] at k ⊢
    obtain ⟨a, cap, h1, h2, h3, h4⟩ := k
    exact ⟨a, cap, h1, h2, h3, h4.imp id (·.mono h)⟩
  | .ptr none, _, k => by simpa only [Rep] using k
  | .ptr (some _), _, k => by
    simp only [Rep] at k ⊢
    obtain ⟨b, h1, h2⟩ := k
    exact ⟨b, h.mu _ _ h1, h2⟩
  | .elt .pub s es _ _, _, k => by
    simp only [Rep] at k ⊢
    obtain ⟨a, vs, h1, h2, h4, h5⟩ := k
    exact ⟨a, vs, h1, h2, h4.mono h, RepE.mono h s es vs h5⟩
  | .elt (.own _) _ _ _ _, _, k => by
    simp only [Rep] at k ⊢
    obtain ⟨a, cap, h1, h2, h4, h5⟩ := k
    exact ⟨a, cap, h1, h2, h.rho _ _ h4, h5⟩
  | .elt (.view _) _ _ _ _, _, k => by
    simp only [Rep] at k ⊢
    obtain ⟨a, h1, h2, h4⟩ := k
    exact ⟨a, h1, h2, h4.mono h⟩
  | .map none, _, k => by simpa only [Rep] using k
  | .map (some _), _, k => by
    simp only [Rep] at k ⊢
    obtain ⟨b, h1, h2⟩ := k
    exact ⟨b, h.mu _ _ h1, h2⟩
  | .fn _ caps, _, k => by
    simp only [Rep] at k ⊢
    obtain ⟨vs, h1, h2⟩ := k
    exact ⟨vs, h1, RepL.mono h caps vs h2⟩
  | .nilf, _, k => by simpa only [Rep] using k
  | .raw _, _, k => by simpa only [Rep] using k
  | .bad, _, _ => by simp only [Rep]
theorem RepL.mono {γ γ' : G} (h : LeR γ γ') : ∀ (xs : List V) (vs : List Value), RepL γ xs vs → RepL γ' xs vs
  | [], _, k => by simpa only [RepL] using k
  | x :: xs, _, k => by
    simp only [RepL] at k ⊢
    obtain ⟨v, ws, h1, h2, h3⟩ := k
    exact ⟨v, ws, h1, Rep.mono h x v h2, RepL.mono h xs ws h3⟩
theorem RepE.mono {γ γ' : G} (h : LeR γ γ') : ∀ (s : Nat) (es : List (List V)) (vs : List Value), RepE γ s es vs → RepE γ' s es vs
  | _, [], _, k => by simpa only [RepE] using k
  | s, cs :: es, _, k => by
    simp only [RepE] at k ⊢
    obtain ⟨ws, us, h1, h2, h3, h4, h5⟩ := k
    exact ⟨ws, us, h1, h2, RepL.mono h cs ws h3, RepE.mono h s es us h4, h5⟩
end

/-- The entries of a map. -/
def RepM (γ : G) (lv : List LK) : List (V × V) → List MapEntry → Prop
  | [], es => es = []
  | p :: r, es => ∃ e t, es = e :: t ∧ keyFits lv p.1 = true ∧ Rep γ p.1 e.key ∧ Rep γ p.2 e.val ∧ RepM γ lv r t

theorem RepM.mono {γ γ' : G} (h : LeR γ γ') (lv : List LK) : ∀ (es : List (V × V)) (ms : List MapEntry), RepM γ lv es ms → RepM γ' lv es ms
  | [], _, k => k
  | _ :: r, _, ⟨e, t, h1, h2, h3, h4, h5⟩ => ⟨e, t, h1, h2, Rep.mono h _ _ h3, Rep.mono h _ _ h4, RepM.mono h lv r t h5⟩

def ORep (γ : G) (w : World) (b : Nat) : AObj → Prop
  | .cells cs => ∃ vs e, w.heap[b]? = some (.cells (List.toArray vs) e (0, 0)) ∧ RepL γ cs vs
  | .mp lv es ver => ∃ ents clock, w.heap[b]? = some (.map (List.toArray ents) clock) ∧ γ.snap b ver = some (ents, clock) ∧ (∀ n, ver < n → γ.snap b n = none) ∧
      RepM γ lv es ents ∧ (ents.map (·.born)).Nodup ∧ ∀ e ∈ ents, e.born < clock
  | .it none left => left = [] ∧ ∃ since seen stepped, w.heap[b]? = some (.mapIter none since seen stepped)
  | .it (some p) left => ∃ c ents clock seen lv, γ.mu[p.1]? = some c ∧ γ.snap c p.2 = some (ents, clock) ∧ w.heap[b]? = some (.mapIter (some c) clock seen clock) ∧
      RepM γ lv left (ents.filter fun e => !seen.contains e.born)

/-- An owned slice lies in memory. -/
def OwnAt (γ : G) (w : World) (v : Value) (s : Nat) (es : List (List V)) : Prop :=
  ∃ (a : Addr) (cap : Nat), v = .slice (some a) es.length cap ∧ a.spot = none ∧ es.length ≤ cap ∧ γ.phi a.block = none ∧ γ.pub a.block = [] ∧ a.block ∉ γ.mu ∧
    ∃ (c : Array Value) (e : TypeId) (z : Nat × Nat) (vs : List Value), w.heap[a.block]? = some (.cells c e z) ∧ (∀ (i : Nat) (x : Value), vs[i]? = some x → c[a.off + i]? = some x) ∧ RepE γ s es vs ∧ a.off + cap * s ≤ c.size ∧
      ∀ o, a.off ≤ o → o < a.off + cap * s → ¬ (z.1 ≤ o ∧ o < z.2)

def blockOf : Value → Option Nat
  | .slice (some a) _ _ => some a.block
  | _ => none

structure INV (γ : G) (σ : St) (w : World) : Prop where
  os : w.os = γ.os
  tape : w.tape = γ.tape
  out : w.output = γ.out
  phi : ∀ (b : Nat) (o : Obj), γ.phi b = some o → w.heap[b]? = some o
  pub : ∀ (b i : Nat) (v : Value), (γ.pub b)[i]? = some v → ∃ (c : Array Value) (e : TypeId) (z : Nat × Nat), w.heap[b]? = some (.cells c e z) ∧ c[i]? = some v
  mulen : γ.mu.length = σ.objs.length
  objs : ∀ (i b : Nat) (o : AObj), γ.mu[i]? = some b → σ.objs[i]? = some o → γ.phi b = none ∧ γ.pub b = [] ∧ ORep γ w b o
  inj : ∀ (i j b : Nat), γ.mu[i]? = some b → γ.mu[j]? = some b → i = j
  rholen : γ.rho.length = σ.live.length
  own : ∀ (r : Nat) v s es, σ.live[r]? = some true → γ.rho[r]? = some (v, s, es) → OwnAt γ w v s es
  snapb : ∀ (b n : Nat) x, γ.snap b n = some x → b < w.heap.size
  apart : ∀ (r r' : Nat) v s es v' s' es' b, σ.live[r]? = some true → σ.live[r']? = some true → γ.rho[r]? = some (v, s, es) → γ.rho[r']? = some (v', s', es') →
    blockOf v = some b → blockOf v' = some b → r = r'

/-- **A call**, whatever the machine's state that is as said. -/
def CallA (P : Program) (f : FuncId) (args : List V) (σ : St) (K : V → St → Prop) : Prop :=
  (∃ fn, P.funcs[f]? = some fn ∧ fn.body.isSome = true ∧ (fn.name == "runtime.NumGoroutine") = false) ∧ ∀ γ w vs, INV γ σ w → RepL γ args vs →
    Calls P f (List.toArray vs) w fun e w' => ∃ v x σ' γ', e = .returned v ∧ Le γ γ' ∧ INV γ' σ' w' ∧ Rep γ' x v ∧ K x σ'

theorem CallA.mono {P : Program} {f : FuncId} {args : List V} {σ : St} {K K' : V → St → Prop} (h : CallA P f args σ K) (hk : ∀ x σ', K x σ' → K' x σ') : CallA P f args σ K' :=
  ⟨h.1, fun γ w vs hi hr => (h.2 γ w vs hi hr).mono fun _ _ ⟨v, x, σ', γ', h1, h2, h3, h4, h5⟩ => ⟨v, x, σ', γ', h1, h2, h3, h4, hk _ _ h5⟩⟩
end Go.VL

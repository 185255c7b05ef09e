/- The V-logic, part 23: regions of more than one order; statements. -/
import Derived.Test.YtefbofjonjdebaaVv
import Derived.OrdersIn
set_option linter.unusedVariables false
set_option linter.unusedSimpArgs false
namespace Go.VL
open Go

theorem FRep.eq {γ : G} {σ : St} {F G : Fr} {a : Act} {w : World} {lam : Nat → Nat} (h : FRep γ σ F a w lam) (he : FrEq F G) : FRep γ σ G a w lam :=
  ⟨fun t => he.2 t ▸ h.s t, fun k cs hk => h.l k cs (by rw [he.1]; exact hk), fun k k' cs cs' h1 h2 => h.inj k k' cs cs' (by rw [he.1]; exact h1) (by rw [he.1]; exact h2)⟩

/-- Nothing waits for what is still to come. -/
def Topo (ops : Array Oper) : (Nat → Prop) → List Nat → Prop
  | _, [] => True
  | D, i :: r => (∀ o, ops[i]? = some o → ∀ e ∈ o.after, Region.binds .any e = true → D e.on) ∧ Topo ops (fun j => D j ∨ j = i) r

theorem Topo.mono {ops : Array Oper} : ∀ {l : List Nat} {D D' : Nat → Prop}, Topo ops D l → (∀ i, D i → D' i) → Topo ops D' l
  | [], _, _, _, _ => trivial
  | i :: r, D, D', h, hd => ⟨fun o ho e he hb => hd _ (h.1 o ho e he hb), Topo.mono h.2 fun j hj => hj.imp_left (hd j)⟩
theorem Topo.take {ops : Array Oper} {i : Nat} {l2 : List Nat} : ∀ {l1 : List Nat} {D : Nat → Prop}, Topo ops D (l1 ++ i :: l2) → Topo ops (fun j => D j ∨ j = i) (l1 ++ l2)
  | [], _, h => h.2
  | x :: r, D, h => ⟨fun o ho e he hb => .inl (h.1 o ho e he hb), Topo.mono (Topo.take h.2) fun j hj => by
      rcases hj with (h | h) | h
      · exact .inl (.inl h)
      · exact .inr h
      · exact .inl (.inr h)⟩

section
variable {P : Program} {γ0 γ : G} {σ : St} {F : Fr} {a : Act} {w : World} {lam : Nat → Nat} {o : Oper} {N : Nat} {ro : Option Nat} {n : Nat} {Q : X → Fr → St → Prop} {loc : List Nat}

theorem mask_bit {rows : List Nat} {x : Nat} : ∀ {es : List Edge}, (mask rows es).testBit x = true → ∃ e ∈ es, Region.binds .any e = true ∧ (x = e.on ∨ (rows[e.on]?.getD 0).testBit x = true)
  | [], h => by simp [mask] at h
  | e :: r, h => by
    simp only [mask] at h
    cases hb : Region.binds .any e with
    | false =>
      simp only [hb, cond_false] at h
      obtain ⟨e', h1, h2⟩ := mask_bit h
      exact ⟨e', by simp [h1], h2⟩
    | true =>
      simp only [hb, cond_true, Nat.testBit_or, Bool.or_eq_true] at h
      rcases h with (h | h) | h
      · rw [Nat.testBit_two_pow] at h
        exact ⟨e, by simp, hb, .inl (by simpa using (of_decide_eq_true h).symm)⟩
      · exact ⟨e, by simp, hb, .inr h⟩
      · obtain ⟨e', h1, h2⟩ := mask_bit h
        exact ⟨e', by simp [h1], h2⟩

def goAt (gs : List GO) (i : Nat) : GO := gs[i]?.getD ⟨none, .mv 0 (.t 0)⟩

theorem compGs_get {ops : Array Oper} : ∀ {l : List Oper} {gs : List GO}, compGs P N loc ops l = some gs → gs.length = l.length ∧ ∀ (i : Nat) o, l[i]? = some o → ∃ g, gs[i]? = some g ∧ compG P N loc ops o = some g
  | [], gs, h => by simp only [compGs, Option.some.injEq] at h; subst h; simp
  | o :: r, gs, h => by
    simp only [compGs] at h
    split at h
    · rename_i g l hg hl
      simp only [Option.some.injEq] at h
      subst h
      obtain ⟨h1, h2⟩ := compGs_get hl
      refine ⟨by simp [h1], fun i o' ho => ?_⟩
      cases i with
      | zero => simp only [List.getElem?_cons_zero, Option.some.injEq] at ho; subst ho; exact ⟨g, rfl, hg⟩
      | succ i => simp only [List.getElem?_cons_succ] at ho; simpa using h2 i o' ho
    · cases h

theorem draw_wp {ops : Array Oper} {gs : List GO} {rows : List Nat} (hgs : compGs P N loc ops ops.toList = some gs) (hrows : ∀ (i : Nat) o, ops[i]? = some o → rows[i]?.getD 0 = mask rows o.after.toList)
    (hno : ∀ g ∈ gs, g.o.kind ≠ .no) (QQ : Exit → Act → World → Prop) (hQ : ClosedQ (Q .normal)) (hQQ : ∀ a w, Post γ0 N Q .normal a w → QQ .normal a w) :
    ∀ (m : Nat) (ord : List Nat) (listed : Array Bool) (L : List Nat) (F : Fr) (σ : St) (γ : G) (a : Act) (w : World) (lam : Nat → Nat), ord.length = m → listed.size = ops.size →
      (∀ i, i ∈ ord ↔ listed.getD i true = false) → ord.Nodup → Topo ops (fun i => listed.getD i false = true) ord → (∀ i j, listed.getD i false = true → (rows[i]?.getD 0).testBit j = true → listed.getD j false = true) →
      ord.Pairwise (fun x y => (rows[y]?.getD 0).testBit x = true ∨ swOK (goAt gs x) (goAt gs y) = true) →
      opsW P (some L) (ord.map (goAt gs)) F σ Q → LeB γ0 γ → INV γ σ w → FRep γ σ F a w lam → a.tmps.size = N → Marks γ0 γ a.defers →
      wpAnyIn (Fw ro) n P .any ops QQ m listed a w := by
  intro m
  induction m with
  | zero =>
    intro ord listed L F σ γ a w lam hm hsz hmem hnd htopo hcl hpair h hle hi hf hN hmk
    have : ord = [] := List.eq_nil_of_length_eq_zero hm
    subst this
    refine ⟨?_, hQQ _ _ ⟨.normal, F, σ, γ, lam, trivial, hle, hi, hf, hN, hmk, h⟩⟩
    rw [List.eq_nil_iff_forall_not_mem]
    intro i hr
    have := (mem_ready.1 hr).1
    rw [← hmem] at this
    simp at this
  | succ m ih =>
    intro ord listed L F σ γ a w lam hm hsz hmem hnd htopo hcl hpair h hle hi hf hN hmk
    refine ⟨fun hr => ?_, fun i hr => ?_⟩
    · exfalso
      cases ord with
      | nil => simp at hm
      | cons i r =>
        have hi0 := (hmem i).1 (by simp)
        have hlt : i < ops.size := by
          rw [← hsz]
          by_cases hx : i < listed.size
          · exact hx
          · simp [Array.getElem?_eq_none (Nat.le_of_not_lt hx)] at hi0
        have : i ∈ Region.ready .any ops listed := mem_ready.2 ⟨hi0, ops[i], Array.getElem?_eq_getElem hlt, fun e he hb => htopo.1 _ (Array.getElem?_eq_getElem hlt) e he hb⟩
        rw [hr] at this
        simp at this
    · obtain ⟨h0, o, ho, hall⟩ := mem_ready.1 hr
      obtain ⟨l1, l2, rfl⟩ := List.append_of_mem ((hmem i).2 h0)
      have hil : i < listed.size := by
        by_cases hx : i < listed.size
        · exact hx
        · simp [Array.getElem?_eq_none (Nat.le_of_not_lt hx)] at h0
      have hbit : ∀ x, (rows[i]?.getD 0).testBit x = true → listed.getD x false = true := by
        intro x hx
        rw [hrows i o ho] at hx
        obtain ⟨e, he, hb, h1⟩ := mask_bit hx
        have hle := hall e (Array.mem_toList_iff.1 he) hb
        rcases h1 with rfl | h1
        · exact hle
        · exact hcl _ _ hle h1
      have notl : ∀ x ∈ l1 ++ i :: l2, listed.getD x false ≠ true := by
        intro x hx hl
        have h1 := (hmem x).1 hx
        by_cases hs : x < listed.size
        · simp [Array.getD, hs] at h1 hl
          rw [h1] at hl; cases hl
        · simp [Array.getElem?_eq_none (Nat.le_of_not_lt hs)] at hl
      have hsw : ∀ x ∈ l1.map (goAt gs), swOK x (goAt gs i) = true := by
        intro x hx
        obtain ⟨k, hk, rfl⟩ := List.mem_map.1 hx
        rw [List.pairwise_append] at hpair
        rcases hpair.2.2 k hk i (by simp) with h1 | h1
        · exact absurd (hbit k h1) (notl k (by simp [hk]))
        · exact h1
      have hgo : ∀ k, goAt gs k ∈ gs ∨ goAt gs k = ⟨none, .mv 0 (.t 0)⟩ := by
        intro k
        unfold goAt
        cases hx : gs[k]? with
        | none => exact .inr rfl
        | some g => exact .inl (List.mem_of_getElem? hx)
      have hno' : ∀ o ∈ l1.map (goAt gs) ++ goAt gs i :: l2.map (goAt gs), o.o.kind ≠ .no := by
        intro o ho
        have : ∃ k, o = goAt gs k := by
          rcases List.mem_append.1 ho with h | h
          · obtain ⟨k, _, rfl⟩ := List.mem_map.1 h; exact ⟨k, rfl⟩
          · rcases List.mem_cons.1 h with h | h
            · exact ⟨i, h⟩
            · obtain ⟨k, _, rfl⟩ := List.mem_map.1 h; exact ⟨k, rfl⟩
        obtain ⟨k, rfl⟩ := this
        rcases hgo k with h | h
        · exact hno _ h
        · rw [h]; simp [O.kind]
      have h := front hQ hsw hno' (by simpa using h)
      have h : (goAt gs i).W P (some L) F σ fun e' F' σ' => opsW P e' ((l1 ++ l2).map (goAt gs)) F' σ' Q := by simpa [opsW] using h
      have h : (goAt gs i).W P (some L) F σ fun _ F' σ' => ∃ L', opsW P (some L') ((l1 ++ l2).map (goAt gs)) F' σ' Q := GO.W_mono (GO.W_some h) fun e' F' σ' ⟨⟨L', hL⟩, h⟩ => by
        subst hL
        exact ⟨L', h⟩
      obtain ⟨g, hg1, hg2⟩ := (compGs_get hgs).2 i o (by simpa using ho)
      have hgi : goAt gs i = g := by simp [goAt, hg1]
      rw [hgi] at h
      unfold wpOpIn
      rw [ho]
      refine go_wp hg2 h hi hf hN ?_
      intro a' w' γ' σ' F' lam' h1 h2 h3 h4 h5 ⟨L', h6⟩
      have hset : ∀ j, j ≠ i → (listed.setIfInBounds i true).getD j false = listed.getD j false := fun j hj => getD_set_ne false (Ne.symm hj)
      have hset2 : ∀ j, j ≠ i → (listed.setIfInBounds i true).getD j true = listed.getD j true := fun j hj => getD_set_ne true (Ne.symm hj)
      have hseti : ∀ d, (listed.setIfInBounds i true).getD i d = true := by
        intro d
        simp [Array.getD, hil]
      have hnd' := hnd
      rw [List.nodup_append, List.nodup_cons] at hnd'
      have hni : i ∉ l1 ++ l2 := by
        intro hx
        rcases List.mem_append.1 hx with hx | hx
        · exact hnd'.2.2 i hx i (by simp) rfl
        · exact hnd'.2.1.1 hx
      refine ih (l1 ++ l2) _ L' F' σ' γ' a' w' lam' (by simp at hm ⊢; omega) (by simp [hsz]) ?_ ?_ ?_ ?_ ?_ h6 (hle.trans h1) h2 h3 (h4.trans hN) (by rw [h5]; exact hmk.mono h1)
      · intro j
        by_cases hj : j = i
        · subst hj
          rw [hseti]
          simp [hni]
        · rw [hset2 j hj, ← hmem j]
          simp [hj]
      · exact (List.nodup_append.2 ⟨hnd'.1, hnd'.2.1.2, fun x hx y hy => hnd'.2.2 x hx y (by simp [hy])⟩)
      · refine (Topo.take htopo).mono fun j hj => ?_
        rcases hj with hj | rfl
        · exact getD_set_true hj
        · exact hseti _
      · intro x y hx hy
        by_cases hxi : x = i
        · subst hxi
          exact getD_set_true (hbit y hy)
        · rw [hset x hxi] at hx
          exact getD_set_true (hcl x y hx hy)
      · refine hpair.sublist ?_
        exact List.Sublist.append (List.Sublist.refl _) (List.sublist_cons_self _ _)

theorem not_mem_split {i : Nat} {l1 l2 : List Nat} (h : (l1 ++ i :: l2).Nodup) : i ∉ l1 ++ l2 := by
  rw [List.nodup_append, List.nodup_cons] at h
  intro hx
  rcases List.mem_append.1 hx with hx | hx
  · exact h.2.2 i hx i (by simp) rfl
  · exact h.2.1.1 hx

theorem ready_some {ops : Array Oper} {listed : Array Bool} {ord : List Nat} (hsz : listed.size = ops.size) (hmem : ∀ i, i ∈ ord ↔ listed.getD i true = false) (htopo : Topo ops (fun i => listed.getD i false = true) ord)
    (hne : ord ≠ []) (hr : Region.ready .any ops listed = []) : False := by
  cases ord with
  | nil => exact hne rfl
  | cons i r =>
    have hi0 := (hmem i).1 (by simp)
    have hlt : i < ops.size := by
      rw [← hsz]
      by_cases hx : i < listed.size
      · exact hx
      · simp [Array.getElem?_eq_none (Nat.le_of_not_lt hx)] at hi0
    have : i ∈ Region.ready .any ops listed := mem_ready.2 ⟨hi0, ops[i], Array.getElem?_eq_getElem hlt, fun e he hb => htopo.1 _ (Array.getElem?_eq_getElem hlt) e he hb⟩
    rw [hr] at this
    simp at this

/-- What is known behind an operation that was ready. -/
structure NextOf (ops : Array Oper) (rows : List Nat) (listed : Array Bool) (i : Nat) (l1 l2 : List Nat) : Prop where
  size : (listed.setIfInBounds i true).size = ops.size
  mem : ∀ j, j ∈ l1 ++ l2 ↔ (listed.setIfInBounds i true).getD j true = false
  nodup : (l1 ++ l2).Nodup
  topo : Topo ops (fun j => (listed.setIfInBounds i true).getD j false = true) (l1 ++ l2)
  closed : ∀ x y, (listed.setIfInBounds i true).getD x false = true → (rows[x]?.getD 0).testBit y = true → (listed.setIfInBounds i true).getD y false = true
  bit : ∀ x, (rows[i]?.getD 0).testBit x = true → listed.getD x false = true
  notl : ∀ x ∈ l1 ++ i :: l2, listed.getD x false ≠ true

theorem next_of {ops : Array Oper} {rows : List Nat} (hrows : ∀ (i : Nat) o, ops[i]? = some o → rows[i]?.getD 0 = mask rows o.after.toList) {listed : Array Bool} {i : Nat} {l1 l2 : List Nat} (hr : i ∈ Region.ready .any ops listed) (hsz : listed.size = ops.size)
    (hmem : ∀ j, j ∈ l1 ++ i :: l2 ↔ listed.getD j true = false) (hnd : (l1 ++ i :: l2).Nodup) (htopo : Topo ops (fun i => listed.getD i false = true) (l1 ++ i :: l2))
    (hcl : ∀ i j, listed.getD i false = true → (rows[i]?.getD 0).testBit j = true → listed.getD j false = true) : NextOf ops rows listed i l1 l2 := by
  obtain ⟨h0, o, ho, hall⟩ := mem_ready.1 hr
  have hil : i < listed.size := by
    by_cases hx : i < listed.size
    · exact hx
    · simp [Array.getElem?_eq_none (Nat.le_of_not_lt hx)] at h0
  have hbit : ∀ x, (rows[i]?.getD 0).testBit x = true → listed.getD x false = true := by
    intro x hx
    rw [hrows i o ho] at hx
    obtain ⟨e, he, hb, h1⟩ := mask_bit hx
    have hle := hall e (Array.mem_toList_iff.1 he) hb
    rcases h1 with rfl | h1
    · exact hle
    · exact hcl _ _ hle h1
  have notl : ∀ x ∈ l1 ++ i :: l2, listed.getD x false ≠ true := by
    intro x hx hl
    have h1 := (hmem x).1 hx
    by_cases hs : x < listed.size
    · simp [Array.getD, hs] at h1 hl
      rw [h1] at hl; cases hl
    · simp [Array.getElem?_eq_none (Nat.le_of_not_lt hs)] at hl
  have hset : ∀ j, j ≠ i → (listed.setIfInBounds i true).getD j false = listed.getD j false := fun j hj => getD_set_ne false (Ne.symm hj)
  have hset2 : ∀ j, j ≠ i → (listed.setIfInBounds i true).getD j true = listed.getD j true := fun j hj => getD_set_ne true (Ne.symm hj)
  have hseti : ∀ d, (listed.setIfInBounds i true).getD i d = true := by
    intro d
    simp [Array.getD, hil]
  have hni := not_mem_split hnd
  have hnd' := hnd
  rw [List.nodup_append, List.nodup_cons] at hnd'
  refine ⟨by simp [hsz], ?_, List.nodup_append.2 ⟨hnd'.1, hnd'.2.1.2, fun x hx y hy => hnd'.2.2 x hx y (by simp [hy])⟩, ?_, ?_, hbit, notl⟩
  · intro j
    by_cases hj : j = i
    · subst hj
      rw [hseti]
      simp [hni]
    · rw [hset2 j hj, ← hmem j]
      simp [hj]
  · refine (Topo.take htopo).mono fun j hj => ?_
    rcases hj with hj | rfl
    · exact getD_set_true hj
    · exact hseti _
  · intro x y hx hy
    by_cases hxi : x = i
    · subst hxi
      exact getD_set_true (hbit y hy)
    · rw [hset x hxi] at hx
      exact getD_set_true (hcl x y hx hy)

theorem goAt_no {gs : List GO} (hno : ∀ g ∈ gs, g.o.kind ≠ .no) (k : Nat) : (goAt gs k).o.kind ≠ .no := by
  unfold goAt
  cases hx : gs[k]? with
  | none => simp [O.kind]
  | some g => exact hno g (List.mem_of_getElem? hx)

/-- An operation comes to the front of an order. -/
theorem front_at {gs : List GO} {rows : List Nat} {listed : Array Bool} {i : Nat} {l1 l2 : List Nat} {L : List Nat} (hno : ∀ g ∈ gs, g.o.kind ≠ .no) (hQ : ClosedQ (Q .normal)) (hbit : ∀ x, (rows[i]?.getD 0).testBit x = true → listed.getD x false = true)
    (notl : ∀ x ∈ l1 ++ i :: l2, listed.getD x false ≠ true) (hb : ∀ x ∈ l1, (rows[i]?.getD 0).testBit x = true ∨ swOK (goAt gs x) (goAt gs i) = true) (h : opsW P (some L) ((l1 ++ i :: l2).map (goAt gs)) F σ Q) :
    (goAt gs i).W P (some L) F σ fun e' F' σ' => opsW P e' ((l1 ++ l2).map (goAt gs)) F' σ' Q := by
  have hsw : ∀ x ∈ l1.map (goAt gs), swOK x (goAt gs i) = true := by
    intro x hx
    obtain ⟨k, hk, rfl⟩ := List.mem_map.1 hx
    rcases hb k hk with h1 | h1
    · exact absurd (hbit k h1) (notl k (by simp [hk]))
    · exact h1
  have hno' : ∀ o ∈ l1.map (goAt gs) ++ goAt gs i :: l2.map (goAt gs), o.o.kind ≠ .no := by
    intro o ho
    have : ∃ k, o = goAt gs k := by
      rcases List.mem_append.1 ho with h | h
      · obtain ⟨k, _, rfl⟩ := List.mem_map.1 h; exact ⟨k, rfl⟩
      · rcases List.mem_cons.1 h with h | h
        · exact ⟨i, h⟩
        · obtain ⟨k, _, rfl⟩ := List.mem_map.1 h; exact ⟨k, rfl⟩
    obtain ⟨k, rfl⟩ := this
    exact goAt_no hno k
  have h := front hQ hsw hno' (by simpa using h)
  simpa [opsW] using h

/-- Two orders of which one will do. -/
theorem draw2_wp {ops : Array Oper} {gs : List GO} {rows : List Nat} (hgs : compGs P N loc ops ops.toList = some gs) (hrows : ∀ (i : Nat) o, ops[i]? = some o → rows[i]?.getD 0 = mask rows o.after.toList)
    (hno : ∀ g ∈ gs, g.o.kind ≠ .no) (QQ : Exit → Act → World → Prop) (hQ : ClosedQ (Q .normal)) (hQQ : ∀ a w, Post γ0 N Q .normal a w → QQ .normal a w) {p q : Nat} (hpq : p ≠ q)
    (hcd : ∀ i, (goAt gs i).o.kind = .call → i = p ∨ i = q ∨ (rows[i]?.getD 0).testBit p = true ∨ (rows[i]?.getD 0).testBit q = true) :
    ∀ (m : Nat) (ord ord' : List Nat) (listed : Array Bool) (L : List Nat) (F : Fr) (σ : St) (γ : G) (a : Act) (w : World) (lam : Nat → Nat), ord.length = m → listed.size = ops.size →
      (∀ i, i ∈ ord ↔ listed.getD i true = false) → ord.Nodup → Topo ops (fun i => listed.getD i false = true) ord → (∀ i, i ∈ ord' ↔ listed.getD i true = false) → ord'.Nodup → Topo ops (fun i => listed.getD i false = true) ord' →
      (∀ i j, listed.getD i false = true → (rows[i]?.getD 0).testBit j = true → listed.getD j false = true) → p ∈ ord → q ∈ ord →
      ord.Pairwise (fun x y => (rows[y]?.getD 0).testBit x = true ∨ swOK (goAt gs x) (goAt gs y) = true ∨ (x = p ∨ (rows[p]?.getD 0).testBit x = true) ∧ (y = q ∨ (rows[y]?.getD 0).testBit q = true)) →
      ord'.Pairwise (fun x y => (rows[y]?.getD 0).testBit x = true ∨ swOK (goAt gs x) (goAt gs y) = true ∨ (x = q ∨ (rows[q]?.getD 0).testBit x = true) ∧ (y = p ∨ (rows[y]?.getD 0).testBit p = true)) →
      opsW P (some L) (ord.map (goAt gs)) F σ Q → opsW P (some L) (ord'.map (goAt gs)) F σ Q → LeB γ0 γ → INV γ σ w → FRep γ σ F a w lam → a.tmps.size = N → Marks γ0 γ a.defers →
      wpAnyIn (Fw ro) n P .any ops QQ m listed a w := by
  intro m
  induction m with
  | zero =>
    intro ord ord' listed L F σ γ a w lam hm _ _ _ _ _ _ _ _ hp
    have : ord = [] := List.eq_nil_of_length_eq_zero hm
    subst this
    simp at hp
  | succ m ih =>
    intro ord ord' listed L F σ γ a w lam hm hsz hmem hnd htopo hmem' hnd' htopo' hcl hp hq hpair hpair' h h' hle hi hf hN hmk
    -- one order alone
    have one : ∀ (i : Nat) (l1 l2 : List Nat), i ∈ Region.ready .any ops listed → (l1 ++ i :: l2).length = m + 1 → (∀ j, j ∈ l1 ++ i :: l2 ↔ listed.getD j true = false) → (l1 ++ i :: l2).Nodup → Topo ops (fun i => listed.getD i false = true) (l1 ++ i :: l2) →
        (∀ x ∈ l1, (rows[i]?.getD 0).testBit x = true ∨ swOK (goAt gs x) (goAt gs i) = true) → (l1 ++ l2).Pairwise (fun x y => (rows[y]?.getD 0).testBit x = true ∨ swOK (goAt gs x) (goAt gs y) = true) →
        opsW P (some L) ((l1 ++ i :: l2).map (goAt gs)) F σ Q → wpOpIn (Fw ro) n P ops QQ i (wpAnyIn (Fw ro) n P .any ops QQ m (listed.setIfInBounds i true)) a w := by
      intro i l1 l2 hr hm hmem hnd htopo hb1 hb2 h
      obtain ⟨h0, o, ho, hall⟩ := mem_ready.1 hr
      have nx := next_of hrows hr hsz hmem hnd htopo hcl
      have w1 := front_at hno hQ nx.bit nx.notl hb1 h
      have w3 : (goAt gs i).W P (some L) F σ fun _ F' σ' => ∃ L', opsW P (some L') ((l1 ++ l2).map (goAt gs)) F' σ' Q :=
        GO.W_mono (GO.W_some w1) fun e' F' σ' ⟨⟨L', hL⟩, h⟩ => by
          subst hL
          exact ⟨L', h⟩
      obtain ⟨g, hg1, hg2⟩ := (compGs_get hgs).2 i o (by simpa using ho)
      have hgi : goAt gs i = g := by simp [goAt, hg1]
      rw [hgi] at w3
      unfold wpOpIn
      rw [ho]
      refine go_wp hg2 w3 hi hf hN ?_
      intro a' w' γ' σ' F' lam' h1 h2 h3 h4 h5 ⟨L', h6⟩
      exact draw_wp hgs hrows hno QQ hQ hQQ m (l1 ++ l2) _ L' F' σ' γ' a' w' lam' (by simp at hm ⊢; omega) nx.size nx.mem nx.nodup nx.topo nx.closed hb2 h6 (hle.trans h1) h2 h3 (h4.trans hN) (by rw [h5]; exact hmk.mono h1)
    refine ⟨fun hr => ?_, fun i hr => ?_⟩
    · exact (ready_some hsz hmem htopo (by intro e; rw [e] at hm; simp at hm) hr).elim
    · obtain ⟨h0, o, ho, hall⟩ := mem_ready.1 hr
      have hm' : ord'.length = m + 1 := by
        have : ord'.Perm ord := by
          rw [List.perm_ext_iff_of_nodup hnd' hnd]
          intro i
          rw [hmem, hmem']
        rw [this.length_eq, hm]
      by_cases hip : i = p
      · subst hip
        obtain ⟨l1, l2, rfl⟩ := List.append_of_mem ((hmem i).2 h0)
        have nx := next_of hrows hr hsz hmem hnd htopo hcl
        have hni : i ∉ l1 ++ l2 := not_mem_split hnd
        have hx0 : ∀ x, x ∈ l1 ++ l2 → ¬ (x = i ∨ (rows[i]?.getD 0).testBit x = true) := by
          intro x hx hh
          rcases hh with e | e
          · exact hni (e ▸ hx)
          · exact nx.notl x (by rcases List.mem_append.1 hx with h | h <;> simp [h]) (nx.bit x e)
        refine one i l1 l2 hr hm hmem hnd htopo ?_ ?_ h
        · intro x hx
          rw [List.pairwise_append] at hpair
          rcases hpair.2.2 x hx i (by simp) with h1 | h1 | h1
          · exact .inl h1
          · exact .inr h1
          · exact absurd h1.1 (hx0 x (List.mem_append_left _ hx))
        · have := (hpair.sublist (List.Sublist.append (List.Sublist.refl _) (List.sublist_cons_self _ _)) : (l1 ++ l2).Pairwise _)
          refine this.imp_of_mem fun hx hy h1 => ?_
          rcases h1 with h1 | h1 | h1
          · exact .inl h1
          · exact .inr h1
          · exact absurd h1.1 (hx0 _ hx)
      by_cases hiq : i = q
      · subst hiq
        obtain ⟨l1, l2, rfl⟩ := List.append_of_mem ((hmem' i).2 h0)
        have nx := next_of hrows hr hsz hmem' hnd' htopo' hcl
        have hni : i ∉ l1 ++ l2 := not_mem_split hnd'
        have hx0 : ∀ x, x ∈ l1 ++ l2 → ¬ (x = i ∨ (rows[i]?.getD 0).testBit x = true) := by
          intro x hx hh
          rcases hh with e | e
          · exact hni (e ▸ hx)
          · exact nx.notl x (by rcases List.mem_append.1 hx with h | h <;> simp [h]) (nx.bit x e)
        refine one i l1 l2 hr hm' hmem' hnd' htopo' ?_ ?_ h'
        · intro x hx
          rw [List.pairwise_append] at hpair'
          rcases hpair'.2.2 x hx i (by simp) with h1 | h1 | h1
          · exact .inl h1
          · exact .inr h1
          · exact absurd h1.1 (hx0 x (List.mem_append_left _ hx))
        · have := (hpair'.sublist (List.Sublist.append (List.Sublist.refl _) (List.sublist_cons_self _ _)) : (l1 ++ l2).Pairwise _)
          refine this.imp_of_mem fun hx hy h1 => ?_
          rcases h1 with h1 | h1 | h1
          · exact .inl h1
          · exact .inr h1
          · exact absurd h1.1 (hx0 _ hx)
      -- neither
      obtain ⟨l1, l2, rfl⟩ := List.append_of_mem ((hmem i).2 h0)
      obtain ⟨l1', l2', rfl⟩ := List.append_of_mem ((hmem' i).2 h0)
      have nx := next_of hrows hr hsz hmem hnd htopo hcl
      have nx' := next_of hrows hr hsz hmem' hnd' htopo' hcl
      have hk : (goAt gs i).o.kind ≠ .call := by
        intro hk
        rcases hcd i hk with e | e | e | e
        · exact hip e
        · exact hiq e
        · exact nx.notl p hp (nx.bit p e)
        · exact nx.notl q hq (nx.bit q e)
      have w1 := front_at hno hQ nx.bit nx.notl (fun x hx => by
        rw [List.pairwise_append] at hpair
        rcases hpair.2.2 x hx i (by simp) with h1 | h1 | h1
        · exact .inl h1
        · exact .inr h1
        · rcases h1.2 with e | e
          · exact absurd e hiq
          · exact absurd (nx.bit q e) (nx.notl q hq)) h
      have w2 := front_at hno hQ nx'.bit nx'.notl (fun x hx => by
        rw [List.pairwise_append] at hpair'
        rcases hpair'.2.2 x hx i (by simp) with h1 | h1 | h1
        · exact .inl h1
        · exact .inr h1
        · rcases h1.2 with e | e
          · exact absurd e hip
          · exact absurd (nx.bit p e) (nx.notl p hp)) h'
      have w3 : (goAt gs i).W P (some L) F σ fun _ F' σ' => ∃ L', opsW P (some L') ((l1 ++ l2).map (goAt gs)) F' σ' Q ∧ opsW P (some L') ((l1' ++ l2').map (goAt gs)) F' σ' Q :=
        GO.W_mono (GO.W_some (GO.W_and hk w1 w2)) fun e' F' σ' ⟨⟨L', hL⟩, h⟩ => by
          subst hL
          exact ⟨L', h⟩
      obtain ⟨g, hg1, hg2⟩ := (compGs_get hgs).2 i o (by simpa using ho)
      have hgi : goAt gs i = g := by simp [goAt, hg1]
      rw [hgi] at w3
      unfold wpOpIn
      rw [ho]
      refine go_wp hg2 w3 hi hf hN ?_
      intro a' w' γ' σ' F' lam' h1 h2 h3 h4 h5 ⟨L', h6, h7⟩
      have hsub : ∀ {l1 l2 : List Nat}, List.Sublist (l1 ++ l2) (l1 ++ i :: l2) := List.Sublist.append (List.Sublist.refl _) (List.sublist_cons_self _ _)
      refine ih (l1 ++ l2) (l1' ++ l2') _ L' F' σ' γ' a' w' lam' (by simp at hm ⊢; omega) nx.size nx.mem nx.nodup nx.topo nx'.mem nx'.nodup nx'.topo nx.closed ?_ ?_ (hpair.sublist hsub) (hpair'.sublist hsub) h6 h7
        (hle.trans h1) h2 h3 (h4.trans hN) (by rw [h5]; exact hmk.mono h1)
      · simp only [List.mem_append, List.mem_cons] at hp ⊢
        rcases hp with hp | hp | hp
        · exact .inl hp
        · exact absurd hp.symm hip
        · exact .inr hp
      · simp only [List.mem_append, List.mem_cons] at hq ⊢
        rcases hq with hq | hq | hq
        · exact .inl hq
        · exact absurd hq.symm hiq
        · exact .inr hq

theorem okRows_spec {rows : List Nat} : ∀ {l : List Oper} {k : Nat}, okRows rows k l = true → ∀ (i : Nat) o, l[i]? = some o → rows[k + i]?.getD 0 = mask rows o.after.toList
  | [], _, _, i, o, ho => by simp at ho
  | x :: r, k, h, i, o, ho => by
    simp only [okRows, Bool.and_eq_true] at h
    cases i with
    | zero =>
      simp only [List.getElem?_cons_zero, Option.some.injEq] at ho
      subst ho
      exact Nat.eq_of_beq_eq_true h.1
    | succ i =>
      simp only [List.getElem?_cons_succ] at ho
      have := okRows_spec h.2 i o ho
      rwa [show k + (i + 1) = k + 1 + i from by omega]

theorem readyB_spec {rows : List Nat} {done i j : Nat} (h : readyB rows done i = true) (hj : (rows[i]?.getD 0).testBit j = true) : done.testBit j = true := by
  have := Nat.eq_of_beq_eq_true h
  rw [← this, Nat.testBit_and, Bool.and_eq_true] at hj
  exact hj.2

theorem bit_mask {rows : List Nat} : ∀ {es : List Edge} {e : Edge}, e ∈ es → Region.binds .any e = true → (mask rows es).testBit e.on = true
  | [], _, h, _ => by simp at h
  | x :: r, e, h, hb => by
    simp only [mask]
    rcases List.mem_cons.1 h with rfl | h
    · simp [hb, Nat.testBit_or, Nat.testBit_two_pow]
    · have := bit_mask (rows := rows) h hb
      cases Region.binds .any x <;> simp [Nat.testBit_or, this]

theorem okOrd_spec {ops : Array Oper} {rows : List Nat} (hrows : ∀ (i : Nat) o, ops[i]? = some o → rows[i]?.getD 0 = mask rows o.after.toList) : ∀ {ord : List Nat} {done : Nat}, okOrd rows ops.size done ord = true →
    (∀ i ∈ ord, i < ops.size ∧ done.testBit i = false) ∧ ord.Nodup ∧ Topo ops (fun i => done.testBit i = true) ord ∧ ∀ i < ops.size, done.testBit i = true ∨ i ∈ ord
  | [], done, h => by
    simp only [okOrd, List.all_eq_true, List.mem_range] at h
    exact ⟨by simp, List.nodup_nil, trivial, fun i hi => .inl (h i hi)⟩
  | i :: r, done, h => by
    simp only [okOrd, Bool.and_eq_true, Nat.ble_eq, Bool.not_eq_true'] at h
    obtain ⟨h1, h2, h3, h4⟩ := h
    obtain ⟨r1, r2, r3, r4⟩ := okOrd_spec hrows h4
    have hb : ∀ j, (done ||| 2 ^ i).testBit j = (done.testBit j || decide (i = j)) := fun j => by rw [Nat.testBit_or, Nat.testBit_two_pow]
    refine ⟨?_, ?_, ⟨?_, ?_⟩, ?_⟩
    · intro j hj
      rcases List.mem_cons.1 hj with rfl | hj
      · exact ⟨by omega, h2⟩
      · have := r1 j hj
        rw [hb, Bool.or_eq_false_iff] at this
        exact ⟨this.1, this.2.1⟩
    · rw [List.nodup_cons]
      refine ⟨fun hm => ?_, r2⟩
      have := (r1 i hm).2
      rw [hb] at this
      simp at this
    · intro o ho e he hb'
      exact readyB_spec h3 (by rw [hrows i o ho]; exact bit_mask (Array.mem_toList_iff.2 he) hb')
    · refine r3.mono fun j hj => ?_
      rw [hb, Bool.or_eq_true, decide_eq_true_eq] at hj
      exact hj.imp_right Eq.symm
    · intro j hj
      rcases r4 j hj with h | h
      · rw [hb, Bool.or_eq_true, decide_eq_true_eq] at h
        rcases h with h | h
        · exact .inl h
        · exact .inr (by simp [h])
      · exact .inr (by simp [h])

theorem okPairs_spec {rows : List Nat} {gs : List GO} : ∀ {ord : List Nat}, okPairs rows gs ord = true → ord.Pairwise (fun x y => (rows[y]?.getD 0).testBit x = true ∨ swOK (goAt gs x) (goAt gs y) = true)
  | [], _ => List.Pairwise.nil
  | x :: r, h => by
    simp only [okPairs, Bool.and_eq_true, List.all_eq_true, Bool.or_eq_true] at h
    refine List.Pairwise.cons (fun y hy => ?_) (okPairs_spec h.2)
    rcases h.1 y hy with h | h
    · exact .inl h
    · refine .inr ?_
      unfold swAt at h
      split at h
      · rename_i a b h1 h2
        simpa [goAt, h1, h2] using h
      · cases h

theorem getAll_spec {gs : List GO} : ∀ {ord : List Nat} {l : List GO}, getAll gs ord = some l → l = ord.map (goAt gs)
  | [], l, h => by simp only [getAll, Option.some.injEq] at h; subst h; rfl
  | i :: r, l, h => by
    simp only [getAll] at h
    split at h
    · rename_i g l' h1 h2
      simp only [Option.some.injEq] at h
      subst h
      simp [goAt, h1, ← getAll_spec h2]
    · cases h

theorem opsW_mono {l : List GO} {Q' : X → Fr → St → Prop} (hq : ∀ F σ, Q .normal F σ → Q' .normal F σ)  : ∀ {e : Option (List Nat)} {F : Fr} {σ : St}, opsW P e l F σ Q → opsW P e l F σ Q' := by
  induction l with
  | nil => intro e F σ h; exact hq _ _ h
  | cons o r ih => intro e F σ h; exact GO.W_mono h fun _ _ _ h => ih h

theorem drawn_wp {ops : Array Oper} {id : Nat} {l : List GO} (hc : compD P N loc ops = some l) (h : opsW P (some []) l F σ Q) (hle : LeB γ0 γ) (hi : INV γ σ w) (hf : FRep γ σ F a w lam) (hN : a.tmps.size = N)
    (hm : Marks γ0 γ a.defers) : (Code.region id ops true).wpIn (Fw ro) n P (Post γ0 N Q) a w := by
  unfold compD at hc
  split at hc
  · rename_i gs hgs
    cases hok : (P.follows .mixedOrders && okD ops.toList gs (rowsF [] ops.toList) (ordOf ops.toList gs)) with
    | false => simp [hok] at hc
    | true =>
      simp only [hok, cond_true] at hc
      generalize rowsF [] ops.toList = rows at hok
      generalize ordOf ops.toList gs = ord at hok hc
      simp only [okD, Bool.and_eq_true, List.all_eq_true] at hok
      obtain ⟨hfo, h1, h2, h3, h4⟩ := hok
      have hrows : ∀ (i : Nat) o, ops[i]? = some o → rows[i]?.getD 0 = mask rows o.after.toList := by
        intro i o ho
        simpa using okRows_spec h1 i o (by simpa using ho)
      obtain ⟨p1, p2, p3, p4⟩ := okOrd_spec (ops := ops) hrows (by simpa using h2)
      have hl := getAll_spec hc
      subst hl
      have hlen : ord.length = ops.size := by
        have : ord.Perm (List.range ops.size) := by
          rw [List.perm_ext_iff_of_nodup p2 List.nodup_range]
          intro i
          rw [List.mem_range]
          refine ⟨fun h => (p1 i h).1, fun h => ?_⟩
          rcases p4 i h with h | h
          · simp at h
          · exact h
        rw [this.length_eq, List.length_range]
      refine wpIn_region_any hfo ?_
      have hbut : But none w { w with drawn := w.drawn + 1 } := But.drew w
      have hfalse : ∀ i, (Array.replicate ops.size false).getD i false = false := by
        intro i
        simp only [Array.getD_eq_getD_getElem?, Array.getElem?_replicate]
        split <;> rfl
      refine draw_wp (Q := fun x F σ => ∃ G, FrEq F G ∧ Q x G σ) hgs hrows (fun g hg e => ?_) _ ?_ ?_ ops.size ord _ [] F σ γ a _ lam hlen (by simp) ?_ p2 ?_ ?_ (okPairs_spec h3)
        (opsW_mono (fun F σ h => ⟨F, .refl F, h⟩) h) hle (hi.step hbut) (hf.step hbut) hN hm
      · have := h4 g hg
        rw [e] at this
        cases this
      · rintro F G σ he ⟨H, h1, h2⟩
        exact ⟨H, he.symm.trans h1, h2⟩
      · rintro a w ⟨x, F, σ, γ, lam, h1, h2, h3, h4, h5, h6, G, h7, h8⟩
        exact ⟨x, G, σ, γ, lam, h1, h2, h3, h4.eq h7, h5, h6, h8⟩
      · intro i
        rw [Array.getD_eq_getD_getElem?, Array.getElem?_replicate]
        refine ⟨fun h => by simp [(p1 i h).1], fun h => ?_⟩
        split at h
        · rename_i hlt
          rcases p4 i hlt with h | h
          · simp at h
          · exact h
        · cases h
      · refine p3.mono fun i hi => ?_
        simp at hi
      · intro i j hi
        rw [hfalse] at hi
        cases hi
  · cases hc

theorem okPairs2_spec {rows : List Nat} {gs : List GO} {p q : Nat} : ∀ {ord : List Nat}, okPairs2 rows gs p q ord = true → ord.Pairwise (fun x y => (rows[y]?.getD 0).testBit x = true ∨ swOK (goAt gs x) (goAt gs y) = true ∨ (x = p ∨ (rows[p]?.getD 0).testBit x = true) ∧ (y = q ∨ (rows[y]?.getD 0).testBit q = true))
  | [], _ => List.Pairwise.nil
  | x :: r, h => by
    simp only [okPairs2, Bool.and_eq_true, List.all_eq_true, Bool.or_eq_true] at h
    refine List.Pairwise.cons (fun y hy => ?_) (okPairs2_spec h.2)
    rcases h.1 y hy with h | h | h
    · exact .inl h
    · refine .inr (.inl ?_)
      unfold swAt at h
      split at h
      · rename_i a b h1 h2
        simpa [goAt, h1, h2] using h
      · cases h
    · exact .inr (.inr ⟨h.1.imp_left Nat.eq_of_beq_eq_true, h.2.imp_left Nat.eq_of_beq_eq_true⟩)

theorem callsDep_spec {rows : List Nat} {p q : Nat} : ∀ {gs : List GO} {k : Nat}, callsDep rows p q k gs = true → ∀ (i : Nat) g, gs[i]? = some g → g.o.kind = .call → k + i = p ∨ k + i = q ∨ (rows[k + i]?.getD 0).testBit p = true ∨ (rows[k + i]?.getD 0).testBit q = true
  | [], _, _, i, g, hg, _ => by simp at hg
  | x :: r, k, h, i, g, hg, hk => by
    simp only [callsDep, Bool.and_eq_true, Bool.or_eq_true] at h
    cases i with
    | zero =>
      simp only [List.getElem?_cons_zero, Option.some.injEq] at hg
      subst hg
      rcases h.1 with h1 | h1 | h1 | h1
      · rw [hk] at h1; simp [Kd.isCall] at h1
      · exact .inl (Nat.eq_of_beq_eq_true h1)
      · exact .inr (.inl (Nat.eq_of_beq_eq_true h1))
      · exact .inr (.inr h1)
    | succ i =>
      simp only [List.getElem?_cons_succ] at hg
      have := callsDep_spec h.2 i g hg hk
      rwa [show k + 1 + i = k + (i + 1) from by omega] at this

theorem drawn2_wp {ops : Array Oper} {id : Nat} {l m : List GO} (hc : compE2 P N loc ops = some (l, m)) (h : opsW P (some []) l F σ Q) (h' : opsW P (some []) m F σ Q) (hle : LeB γ0 γ) (hi : INV γ σ w) (hf : FRep γ σ F a w lam) (hN : a.tmps.size = N)
    (hm : Marks γ0 γ a.defers) : (Code.region id ops true).wpIn (Fw ro) n P (Post γ0 N Q) a w := by
  unfold compE2 at hc
  split at hc
  · rename_i gs hgs
    unfold compE2' at hc
    split at hc
    · rename_i p q _
      cases hok : (P.follows .mixedOrders && okE ops.toList gs (rowsF [] ops.toList) (ordOf ops.toList gs) (ord2Of ops.toList gs p q) p q) with
      | false => simp [hok] at hc
      | true =>
        simp only [hok, cond_true] at hc
        generalize rowsF [] ops.toList = rows at hok
        generalize ordOf ops.toList gs = ord at hok hc
        generalize ord2Of ops.toList gs p q = ord' at hok hc
        simp only [okE, Bool.and_eq_true, List.all_eq_true] at hok
        obtain ⟨hfo, k1, k2, k3, k4, k5, k6, k7, ⟨k9, k10⟩, k8⟩ := hok
        have hrows : ∀ (i : Nat) o, ops[i]? = some o → rows[i]?.getD 0 = mask rows o.after.toList := by
          intro i o ho
          simpa using okRows_spec k1 i o (by simpa using ho)
        split at hc
        · rename_i a1 b1 e1 e2
          simp only [Option.some.injEq, Prod.mk.injEq] at hc
          obtain ⟨rfl, rfl⟩ := hc
          have hl := getAll_spec e1
          have hl' := getAll_spec e2
          subst hl hl'
          obtain ⟨p1, p2, p3, p4⟩ := okOrd_spec (ops := ops) hrows (by simpa using k2)
          obtain ⟨q1, q2, q3, q4⟩ := okOrd_spec (ops := ops) hrows (by simpa using k3)
          have hpq : p ≠ q := by
            intro e
            subst e
            rw [show Nat.beq p p = true from Nat.beq_refl p] at k7
            cases k7
          have hlen : ord.length = ops.size := by
            have : ord.Perm (List.range ops.size) := by
              rw [List.perm_ext_iff_of_nodup p2 List.nodup_range]
              intro i
              rw [List.mem_range]
              refine ⟨fun h => (p1 i h).1, fun h => ?_⟩
              rcases p4 i h with h | h
              · simp at h
              · exact h
            rw [this.length_eq, List.length_range]
          refine wpIn_region_any hfo ?_
          have hbut : But none w { w with drawn := w.drawn + 1 } := But.drew w
          have hfalse : ∀ i, (Array.replicate ops.size false).getD i false = false := by
            intro i
            simp only [Array.getD_eq_getD_getElem?, Array.getElem?_replicate]
            split <;> rfl
          have memof : ∀ {ord : List Nat}, (∀ i ∈ ord, i < ops.size ∧ Nat.testBit 0 i = false) → (∀ i < ops.size, Nat.testBit 0 i = true ∨ i ∈ ord) → ∀ i, i ∈ ord ↔ (Array.replicate ops.size false).getD i true = false := by
            intro ord p1 p4 i
            rw [Array.getD_eq_getD_getElem?, Array.getElem?_replicate]
            refine ⟨fun h => by simp [(p1 i h).1], fun h => ?_⟩
            split at h
            · rename_i hlt
              rcases p4 i hlt with h | h
              · simp at h
              · exact h
            · cases h
          have hcd : ∀ i, (goAt gs i).o.kind = .call → i = p ∨ i = q ∨ (rows[i]?.getD 0).testBit p = true ∨ (rows[i]?.getD 0).testBit q = true := by
            intro i hk
            unfold goAt at hk
            cases hx : gs[i]? with
            | none => rw [hx] at hk; simp [O.kind] at hk
            | some g =>
              rw [hx] at hk
              have := callsDep_spec k6 i g hx hk
              simpa using this
          have hin : ∀ {i : Nat}, (i + 1).ble ops.toList.length = true → i ∈ ord := by
            intro i hi
            have := Nat.le_of_ble_eq_true hi
            rcases p4 i (by rw [Array.length_toList] at this; omega) with h | h
            · simp at h
            · exact h
          refine draw2_wp (Q := fun x F σ => ∃ G, FrEq F G ∧ Q x G σ) hgs hrows (fun g hg e => ?_) _ ?_ ?_ hpq hcd ops.size ord ord' _ [] F σ γ a _ lam hlen (by simp) (memof p1 p4) p2 ?_ (memof q1 q4) q2 ?_ ?_ (hin k9) (hin k10) (okPairs2_spec k4) (okPairs2_spec k5)
            (opsW_mono (fun F σ h => ⟨F, .refl F, h⟩) h) (opsW_mono (fun F σ h => ⟨F, .refl F, h⟩) h') hle (hi.step hbut) (hf.step hbut) hN hm
          · have := k8 g hg
            rw [e] at this
            cases this
          · rintro F G σ he ⟨H, h1, h2⟩
            exact ⟨H, he.symm.trans h1, h2⟩
          · rintro a w ⟨x, F, σ, γ, lam, h1, h2, h3, h4, h5, h6, G, h7, h8⟩
            exact ⟨x, G, σ, γ, lam, h1, h2, h3, h4.eq h7, h5, h6, h8⟩
          · refine p3.mono fun i hi => ?_
            simp at hi
          · refine q3.mono fun i hi => ?_
            simp at hi
          · intro i j hi
            rw [hfalse] at hi
            cases hi
        · cases hc
    · cases hc
  · cases hc

theorem wpIn_scope {FF : Fence} {c : Code} {QQ : Exit → Act → World → Prop} (h : c.wpIn FF n P QQ a w) (hg : ∀ l a w, ¬ QQ (.goto l) a w) : (Code.scope c).wpIn FF n P QQ a w := by
  intro b k cs hro hb hr
  have h0 : (lone (b.atR a (.code (.scope c) :: k)) cs w).fenced P FF := fenced_calm hb hr rfl
  have h1 : step P (lone (b.atR a (.code (.scope c) :: k)) cs w) = .next (lone (b.atR a (.code c :: .inScope c :: k)) cs w) := step_lone_go (by simp [stepG, stepG.exec, Frame.atR])
  have h2 : ∀ a w, step P (lone (b.atR a (.inScope c :: k)) cs w) = .next (lone (b.atR a k) cs w) := fun a w => step_lone_go (by simp [stepG, stepG.exec, Frame.atR])
  obtain ⟨e, a₁, w₁, hq, harr⟩ := h b (.inScope c :: k) cs hro hb hr
  cases e with
  | normal => exact ⟨.normal, a₁, w₁, hq, .head h0 h1 (StepsIn.trans harr (.one (fenced_calm hb hr rfl) (h2 _ _)))⟩
  | exit id =>
    have hx : exitTo id (.inScope c :: k) = exitTo id k := by simp [exitTo]
    exact ⟨.exit id, a₁, w₁, hq, fun k' hk => .head h0 h1 (harr.1 k' (by rw [hx]; exact hk)),
      fun hr' hk => let ⟨k₁, x1, x2⟩ := harr.2 hr' (by rw [hx]; exact hk); ⟨k₁, x1, .head h0 h1 x2⟩⟩
  | goto l => exact absurd hq (hg _ _ _)
  | ret => exact ⟨_, a₁, w₁, hq, .of_steps (.one h0 h1) harr⟩
  | panic ch => exact ⟨_, a₁, w₁, hq, .of_steps (.one h0 h1) harr⟩
  | outgrown => exact ⟨_, a₁, w₁, hq, .of_steps (.one h0 h1) harr⟩

theorem code_wp {c : Code} : ∀ {x : C} {Q : X → Fr → St → Prop} {F : Fr} {σ : St} {γ : G} {a : Act} {w : World} {lam : Nat → Nat}, compC P N loc c = some x → x.W P F σ Q →
      LeB γ0 γ → INV γ σ w → FRep γ σ F a w lam → a.tmps.size = N → Marks γ0 γ a.defers → c.wpIn (Fw ro) n P (Post γ0 N Q) a w := by
  induction c with
  | skip =>
    intro x Q F σ γ a w lam hc h hle hi hf hN hm
    simp only [compC, Option.some.injEq] at hc; subst hc
    exact wpIn_skip ⟨.normal, F, σ, γ, lam, trivial, hle, hi, hf, hN, hm, h⟩
  | label l =>
    intro x Q F σ γ a w lam hc h hle hi hf hN hm
    simp only [compC, Option.some.injEq] at hc; subst hc
    exact wpIn_label ⟨.normal, F, σ, γ, lam, trivial, hle, hi, hf, hN, hm, h⟩
  | exit i =>
    intro x Q F σ γ a w lam hc h hle hi hf hN hm
    simp only [compC, Option.some.injEq] at hc; subst hc
    exact wpIn_exit ⟨.exit i, F, σ, γ, lam, rfl, hle, hi, hf, hN, hm, h⟩
  | ret =>
    intro x Q F σ γ a w lam hc h hle hi hf hN hm
    simp only [compC, Option.some.injEq] at hc; subst hc
    exact wpIn_ret ⟨.ret, F, σ, γ, lam, trivial, hle, hi, hf, hN, hm, h⟩
  | region id ops d =>
    intro x Q F σ γ a w lam hc h hle hi hf hN hm
    cases d with
    | true =>
      simp only [compC, compDE] at hc
      split at hc
      · rename_i gs hg
        simp only [Option.some.injEq] at hc
        subst hc
        exact drawn_wp hg h hle hi hf hN hm
      · simp only [Option.map_eq_some_iff] at hc
        obtain ⟨⟨l, m⟩, hg, rfl⟩ := hc
        exact drawn2_wp hg h.1 h.2 hle hi hf hN hm
    | false =>
      simp only [compC, Option.map_eq_some_iff] at hc
      obtain ⟨gs, hg, rfl⟩ := hc
      exact wpIn_region_list (ops_wp _ (fun _ _ h => h) _ gs none F σ γ a w lam hg h hle hi hf hN hm)
  | seq c d ihc ihd =>
    intro x Q F σ γ a w lam hc h hle hi hf hN hm
    simp only [compC] at hc
    split at hc
    · rename_i y z h1 h2
      simp only [Option.some.injEq] at hc
      cases hj : joins c with
      | true =>
        simp only [hj, cond_true] at hc
        subst hc
        simp only [C.W] at h
        obtain ⟨R, ha, hb⟩ := h
        refine wpIn_seq (Go.wpIn_mono (ihc h1 ha hle hi hf hN hm) ?_)
        rintro e a' w' ⟨x, F', σ', γ', lam', he, hle', hi', hf', hN', hm', hq⟩
        cases x with
        | normal =>
          cases e <;> simp only [exitX] at he
          obtain ⟨G, hG, hR⟩ := hq
          exact ihd h2 (hb G σ' hR) hle' hi' (hf'.weaken hG) hN' hm'
        | exit i =>
          cases e <;> simp only [exitX] at he
          exact ⟨.exit i, F', σ', γ', lam', he, hle', hi', hf', hN', hm', hq⟩
        | ret =>
          cases e <;> simp only [exitX] at he
          exact ⟨.ret, F', σ', γ', lam', trivial, hle', hi', hf', hN', hm', hq⟩
      | false =>
        simp only [hj, cond_false] at hc
        subst hc
        simp only [C.W] at h
        refine wpIn_seq (Go.wpIn_mono (ihc h1 h hle hi hf hN hm) ?_)
        rintro e a' w' ⟨x, F', σ', γ', lam', he, hle', hi', hf', hN', hm', hq⟩
        cases x with
        | normal =>
          cases e <;> simp only [exitX] at he
          exact ihd h2 hq hle' hi' hf' hN' hm'
        | exit i =>
          cases e <;> simp only [exitX] at he
          exact ⟨.exit i, F', σ', γ', lam', he, hle', hi', hf', hN', hm', hq⟩
        | ret =>
          cases e <;> simp only [exitX] at he
          exact ⟨.ret, F', σ', γ', lam', trivial, hle', hi', hf', hN', hm', hq⟩
    · cases hc
  | cond t c d ihc ihd =>
    intro x Q F σ γ a w lam hc h hle hi hf hN hm
    simp only [compC] at hc
    split at hc
    · rename_i y z u h0 h1 h2
      simp only [Option.some.injEq] at hc
      subst hc
      simp only [C.W] at h
      obtain ⟨cb, hcb, ht, hs⟩ := h
      have hr := va_rep hf h0
      rw [hcb] at hr
      simp only [Rep] at hr
      refine wpIn_cond_split hr (fun hb => ihc h1 (ht hb) hle hi hf hN hm) (fun hb => ihd h2 (hs hb) hle hi hf hN hm)
    · cases hc
  | block i c ih =>
    intro x Q F σ γ a w lam hc h hle hi hf hN hm
    simp only [compC, Option.map_eq_some_iff] at hc
    obtain ⟨y, h1, rfl⟩ := hc
    simp only [C.W] at h
    refine wpIn_block (Go.wpIn_mono (ih h1 h hle hi hf hN hm) ?_)
    rintro e a' w' ⟨x, F', σ', γ', lam', he, hle', hi', hf', hN', hm', hq⟩
    cases x with
    | normal =>
      cases e <;> simp only [exitX] at he
      exact ⟨.normal, F', σ', γ', lam', trivial, hle', hi', hf', hN', hm', hq⟩
    | exit j =>
      cases e <;> simp only [exitX] at he
      subst he
      simp only [Exit.inBlock]
      split
      · rename_i hj
        simp only [hj, if_true] at hq
        exact ⟨.normal, F', σ', γ', lam', trivial, hle', hi', hf', hN', hm', hq⟩
      · rename_i hj
        simp only [hj, if_false] at hq
        exact ⟨.exit _, F', σ', γ', lam', rfl, hle', hi', hf', hN', hm', hq⟩
    | ret =>
      cases e <;> simp only [exitX] at he
      exact ⟨.ret, F', σ', γ', lam', trivial, hle', hi', hf', hN', hm', hq⟩
  | loop c ih =>
    intro x Q F σ γ a w lam hc h hle hi hf hN hm
    simp only [compC, Option.map_eq_some_iff] at hc
    obtain ⟨y, h1, rfl⟩ := hc
    simp only [C.W] at h
    obtain ⟨α, fr, inv, m, x0, hF0, hi0, hround⟩ := h
    refine wpIn_loop_ghost (fun k a w => ∃ x σ γ lam, m x = k ∧ inv x σ ∧ LeB γ0 γ ∧ INV γ σ w ∧ FRep γ σ (fr x) a w lam ∧ a.tmps.size = N ∧ Marks γ0 γ a.defers) (m x0)
      ⟨x0, σ, γ, lam, rfl, hi0, hle, hi, hf.weaken hF0, hN, hm⟩ ?_
    rintro k a w ⟨x, σ, γ, lam, rfl, hi0, hle, hi, hf, hN, hm⟩
    refine Go.wpIn_mono (ih h1 (hround x σ hi0) hle hi hf hN hm) ?_
    rintro e a' w' ⟨y, F', σ', γ', lam', he, hle', hi', hf', hN', hm', hq⟩
    cases y with
    | normal =>
      cases e <;> simp only [exitX] at he
      obtain ⟨x', h1, h2, h3⟩ := hq
      exact ⟨m x', h1, x', σ', γ', lam', rfl, h3, hle', hi', hf'.weaken h2, hN', hm'⟩
    | exit j =>
      cases e <;> simp only [exitX] at he
      exact ⟨.exit j, F', σ', γ', lam', he, hle', hi', hf', hN', hm', hq⟩
    | ret =>
      cases e <;> simp only [exitX] at he
      exact ⟨.ret, F', σ', γ', lam', trivial, hle', hi', hf', hN', hm', hq⟩
  | scope c ih =>
    intro x Q F σ γ a w lam hc h hle hi hf hN hm
    refine wpIn_scope (ih hc h hle hi hf hN hm) ?_
    rintro l a w ⟨x, _, _, _, _, he, _⟩
    cases x <;> exact he
  | _ => intro x Q F σ γ a w lam hc; simp [compC] at hc
end
end Go.VL

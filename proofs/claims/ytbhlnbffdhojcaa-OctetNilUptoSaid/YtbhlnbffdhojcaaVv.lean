/- The V-logic, part 22: two operations of a region may change places. -/
import Derived.Test.YtbhlnbffdhojcaaVu
set_option linter.unusedVariables false
set_option linter.unusedSimpArgs false
namespace Go.VL
open Go

/-- The same frame. -/
def FrEq (F G : Fr) : Prop := F.l = G.l ∧ ∀ t, sget t F.s = sget t G.s

theorem FrEq.refl (F : Fr) : FrEq F F := ⟨rfl, fun _ => rfl⟩
theorem FrEq.symm {F G : Fr} (h : FrEq F G) : FrEq G F := ⟨h.1.symm, fun t => (h.2 t).symm⟩
theorem FrEq.trans {F G H : Fr} (h : FrEq F G) (k : FrEq G H) : FrEq F H := ⟨h.1.trans k.1, fun t => (h.2 t).trans (k.2 t)⟩
theorem FrEq.ag {F G : Fr} (h : FrEq F G) (rs : List Nat) : Ag rs F G := fun t _ => h.2 t

theorem sget_wr (t : Nat) (d : Option Nat) (u : S) (s : List (Nat × S)) : sget t (wr d u s) = if d = some t then u else sget t s := by
  cases d with
  | none => simp [wr]
  | some d =>
    simp only [wr, sget_sset, Option.some.injEq]
    by_cases e : t = d
    · subst e; simp
    · have : ¬ d = t := fun h => e h.symm
      simp [e, this]

theorem FrEq.wr {F G : Fr} (h : FrEq F G) (d : Option Nat) (u : S) (l : List (Nat × List V)) : FrEq ⟨VL.wr d u F.s, l⟩ ⟨VL.wr d u G.s, l⟩ :=
  ⟨rfl, fun t => by simp only [sget_wr, h.2]⟩

theorem free_spec {d : Option Nat} {l : List Nat} (h : free d l = true) {F : Fr} {u : S} {l' : List (Nat × List V)} : Ag l F ⟨wr d u F.s, l'⟩ := by
  intro t ht
  rw [sget_wr]
  cases d with
  | none => simp
  | some d =>
    simp only [free, List.all_eq_true, Bool.not_eq_true'] at h
    have h1 := h t ht
    have : ¬ d = t := fun e => by
      subst e
      rw [show Nat.beq d d = true from Nat.beq_refl d] at h1
      cases h1
    simp [this]

theorem Ag.trans {l : List Nat} {F G H : Fr} (h : Ag l F G) (k : Ag l G H) : Ag l F H := fun t ht => (h t ht).trans (k t ht)
theorem Ag.symm {l : List Nat} {F G : Fr} (h : Ag l F G) : Ag l G F := fun t ht => (h t ht).symm

section
variable {P : Program} {F G : Fr} {σ τ : St} {K K' : Fr → St → Prop}

theorem resK.mono {r : Res} (h : resK K r) (hk : ∀ F σ, K F σ → K' F σ) : resK K' r := by
  cases r with
  | bad => exact h
  | ok F σ => exact hk _ _ h
  | need p F σ => exact ⟨h.1, hk _ _ h.2⟩

theorem O.W_call {o : O} (h : o.kind ≠ .call) {e : Bool} : o.W P e F σ K = resK K (o.run F σ) := by
  cases o <;> first | rfl | (simp [O.kind] at h)

theorem O.W_mono {o : O} {e : Bool} (h : o.W P e F σ K) (hk : ∀ F σ, K F σ → K' F σ) : o.W P e F σ K' := by
  by_cases hc : o.kind = .call
  · cases o <;> simp only [O.kind, reduceCtorEq] at hc
    · exact CallA.mono h fun v σ' x => ⟨x.1, hk _ _ x.2⟩
    · obtain ⟨g, caps, h1, h2⟩ := h
      exact ⟨g, caps, h1, CallA.mono h2 fun v σ' x => ⟨x.1, hk _ _ x.2⟩⟩
  · rw [O.W_call hc] at h ⊢
    exact resK.mono h hk

theorem GO.W_mono {o : GO} {e : Bool} (h : o.W P e F σ K) (hk : ∀ F σ, K F σ → K' F σ) : o.W P e F σ K' := by
  unfold GO.W at h ⊢
  cases hg : o.g with
  | none => simp only [hg] at h ⊢; exact O.W_mono h hk
  | some g =>
    simp only [hg] at h ⊢
    obtain ⟨c, h1, h2, h3⟩ := h
    exact ⟨c, h1, fun e => O.W_mono (h2 e) hk, fun e => hk _ _ (h3 e)⟩

theorem setO_wr (F : Fr) (d : Option Nat) (v : V) : setO F d v = ⟨wr d (.v v) F.s, F.l⟩ := by cases d <;> rfl

/-- What an operation comes to hangs on what it reads; it writes its slot; where it does not change memory all is as it was. -/
theorem O.W_ag {o : O} {e : Bool} (hno : o.kind ≠ .no) (hl : F.l = G.l) (hag : Ag o.reads F G) (h : o.W P true F σ K) :
    o.W P true G σ fun G' σ' => ∃ u l, G' = ⟨wr o.dst u G.s, l⟩ ∧ K ⟨wr o.dst u F.s, l⟩ σ' ∧ (o.kind ≠ .change → l = F.l ∧ Ext σ σ') := by
  cases hk : o.kind with
  | call =>
    cases o <;> simp only [O.kind, reduceCtorEq] at hk
    case ca d f xs =>
      simp only [O.reads] at hag
      simp only [O.W, ← hag.vas] at h ⊢
      exact CallA.mono h fun v σ' x => ⟨x.1, .v v, F.l, by rw [setO_wr, hl]; rfl, by rw [setO_wr] at x; exact x.2, fun _ => ⟨rfl, x.1 trivial⟩⟩
    case cv d f xs =>
      simp only [O.reads] at hag
      simp only [O.W, ← hag.r.vas, ← hag.l.va] at h ⊢
      obtain ⟨g, caps, h1, h2⟩ := h
      exact ⟨g, caps, h1, CallA.mono h2 fun v σ' x => ⟨x.1, .v v, F.l, by rw [setO_wr, hl]; rfl, by rw [setO_wr] at x; exact x.2, fun _ => ⟨rfl, x.1 trivial⟩⟩⟩
  | no => exact absurd hk hno
  | change =>
    rw [O.W_call (by rw [hk]; simp)] at h ⊢
    have hr := run_c (σ := σ) hk hl hag
    revert h hr
    cases o.run F σ with
    | bad => intro h; exact h.elim
    | ok F' σ' =>
      rintro h ⟨⟨u, l, rfl, h2⟩, _⟩
      rw [h2]
      exact ⟨u, l, rfl, h, fun x => absurd rfl x⟩
    | need p F' σ' =>
      rintro h ⟨⟨u, l, rfl, h2⟩, _⟩
      rw [h2]
      exact ⟨h.1, u, l, rfl, h.2, fun x => absurd rfl x⟩
  | make =>
    rw [O.W_call (by rw [hk]; simp)] at h ⊢
    have hr := run_a (σ := σ) hk hl hag
    revert h hr
    cases o.run F σ with
    | bad => intro h; exact h.elim
    | ok F' σ' =>
      rintro h ⟨⟨u, l, rfl, h2⟩, h3⟩
      rw [h2]
      exact ⟨u, l, rfl, h, fun _ => ⟨(h3 _ rfl).2, (h3 _ rfl).1⟩⟩
    | need p F' σ' =>
      rintro h ⟨⟨u, l, rfl, h2⟩, h3⟩
      rw [h2]
      exact ⟨h.1, u, l, rfl, h.2, fun _ => ⟨(h3 _ rfl).2, (h3 _ rfl).1⟩⟩
  | val | look =>
    rw [O.W_call (by rw [hk]; simp)] at h ⊢
    obtain ⟨d, hd, hr⟩ := run_p (F := F) (G := G) (σ := σ) (τ := σ) (o := o) (by rw [hk]; simp [hl, Ext.refl]) hag
    rw [hd]
    revert h hr
    cases o.run F σ with
    | bad => intro h; exact h.elim
    | ok F' σ' =>
      rintro h ⟨u, rfl, rfl, h3⟩
      rw [h3]
      exact ⟨u, F.l, by simp [Fr.set, wr, hl], h, fun _ => ⟨rfl, .refl _⟩⟩
    | need p F' σ' =>
      rintro h ⟨u, q, rfl, rfl, h3, h4⟩
      rw [h3]
      exact ⟨h4 h.1, u, F.l, by simp [Fr.set, wr, hl], h.2, fun _ => ⟨rfl, .refl _⟩⟩

theorem GO.W_ag {o : GO} (hno : o.o.kind ≠ .no) (hl : F.l = G.l) (hag : Ag o.reads F G) (h : o.W P true F σ K) :
    o.W P true G σ fun G' σ' => ∃ u l, G' = ⟨wr o.o.dst u G.s, l⟩ ∧ K ⟨wr o.o.dst u F.s, l⟩ σ' ∧ (o.o.kind ≠ .change → l = F.l ∧ Ext σ σ') := by
  unfold GO.W at h ⊢
  unfold GO.reads at hag
  cases hg : o.g with
  | none =>
    simp only [hg] at h hag ⊢
    exact O.W_ag (e := true) hno hl hag h
  | some g =>
    simp only [hg] at h hag ⊢
    obtain ⟨c, h1, h2, h3⟩ := h
    refine ⟨c, ?_, fun e => O.W_ag (e := true) hno hl (fun t ht => hag t (by simp [ht])) (h2 e), fun e => ⟨.v .bad, F.l, by rw [setO_wr, hl], by have := h3 e; rwa [setO_wr] at this, fun _ => ⟨rfl, .refl _⟩⟩⟩
    rw [← h1]
    exact (Ag.va (x := .t g.1) (fun t ht => hag t (by simp only [E.rs, List.mem_singleton] at ht; simp [ht]))).symm

theorem set_inj {F : Fr} {d : Nat} {u v : S} (h : F.set d u = F.set d v) : u = v := by
  have := congrArg (fun G => sget d G.s) h
  simpa [Fr.set, sget_sset] using this

theorem O.W_late {x : O} (hk : x.kind = .val ∨ x.kind = .look) {R : Fr → St → Prop} (h : x.W P true F σ R) :
    ∃ u, R ⟨wr x.dst u F.s, F.l⟩ σ ∧ ∀ (G : Fr) (τ : St) (K : Fr → St → Prop), (x.kind = .val ∨ F.l = G.l ∧ Ext σ τ) → Ag x.reads F G → K ⟨wr x.dst u G.s, G.l⟩ τ → x.W P true G τ K := by
  have hnc : x.kind ≠ .call := by rcases hk with h | h <;> rw [h] <;> simp
  have hr := fun (G : Fr) (τ : St) (hc : x.kind = .val ∨ F.l = G.l ∧ Ext σ τ) (ha : Ag x.reads F G) => run_p (F := F) (G := G) (σ := σ) (τ := τ) (o := x)
    (by rcases hk with e | e
        · exact .inl e
        · rcases hc with e' | e'
          · exact .inl e'
          · exact .inr ⟨e, e'⟩) ha
  obtain ⟨d, hd, hr0⟩ := hr F σ (.inr ⟨rfl, .refl _⟩) (fun _ _ => rfl)
  simp only [O.W_call hnc] at h ⊢
  revert h hr0 hr
  cases x.run F σ with
  | bad => intro _ _ h; exact h.elim
  | ok F' σ' =>
    rintro hr ⟨u, rfl, rfl, _⟩ h
    rw [hd]
    refine ⟨u, h, fun G τ K hc ha hK => ?_⟩
    obtain ⟨d', hd', u', e1, _, e3⟩ := hr G τ hc ha
    rw [hd] at hd'; cases hd'
    rw [e3, ← set_inj e1]
    exact hK
  | need p F' σ' =>
    rintro hr ⟨u, q, rfl, rfl, _, _⟩ h
    rw [hd]
    refine ⟨u, h.2, fun G τ K hc ha hK => ?_⟩
    obtain ⟨d', hd', u', q', e1, _, e3, e4⟩ := hr G τ hc ha
    rw [hd] at hd'; cases hd'
    rw [e3, ← set_inj e1]
    exact ⟨e4 h.1, hK⟩

/-- The first operation, later. -/
theorem GO.W_late {x : GO} (hk : x.o.kind = .val ∨ x.o.kind = .look) {R : Fr → St → Prop} (h : x.W P true F σ R) :
    ∃ u, R ⟨wr x.o.dst u F.s, F.l⟩ σ ∧ ∀ (G : Fr) (τ : St) (K : Fr → St → Prop), (x.o.kind = .val ∨ F.l = G.l ∧ Ext σ τ) → Ag x.reads F G → K ⟨wr x.o.dst u G.s, G.l⟩ τ → x.W P true G τ K := by
  unfold GO.W at h ⊢
  unfold GO.reads
  cases hg : x.g with
  | none => simp only [hg] at h ⊢; exact O.W_late hk h
  | some g =>
    simp only [hg] at h ⊢
    obtain ⟨c, h1, h2, h3⟩ := h
    have h1' : ∀ G, Ag (g.1 :: x.o.reads) F G → G.va (.t g.1) = .bool c := by
      intro G hag
      rw [← h1]
      exact (Ag.va (x := .t g.1) (fun t ht => hag t (by simp only [E.rs, List.mem_singleton] at ht; simp [ht]))).symm
    by_cases e : c = g.2
    · obtain ⟨u, hu, hK⟩ := O.W_late hk (h2 e)
      exact ⟨u, hu, fun G τ K hc ha k => ⟨c, h1' G ha, fun _ => hK G τ K hc (fun t ht => ha t (by simp [ht])) k, fun x => absurd e x⟩⟩
    · refine ⟨.v .bad, ?_, fun G τ K _ ha k => ⟨c, h1' G ha, fun x => absurd x e, fun _ => ?_⟩⟩
      · have := h3 e; rwa [setO_wr] at this
      · rwa [setO_wr]

def Closed (K : Fr → St → Prop) : Prop := ∀ F G σ, FrEq F G → K F σ → K G σ

theorem wr_comm {F : Fr} {d e : Option Nat} (h : unlike d e = true) (u v : S) (l : List (Nat × List V)) : FrEq ⟨wr e v (wr d u F.s), l⟩ ⟨wr d u (wr e v F.s), l⟩ := by
  refine ⟨rfl, fun t => ?_⟩
  simp only [sget_wr]
  cases d with
  | none => simp
  | some d =>
    cases e with
    | none => simp
    | some e =>
      simp only [unlike, Bool.not_eq_true'] at h
      have : d ≠ e := fun x => by
        subst x
        rw [show Nat.beq d d = true from Nat.beq_refl d] at h
        cases h
      by_cases h1 : d = t
      · subst h1
        have : ¬ e = d := fun x => this x.symm
        simp [this]
      · simp [h1]

theorem swap {x y : GO} (hs : swOK x y = true) (hK : Closed K) (h : x.W P true F σ fun F' σ' => y.W P true F' σ' K) :
    y.W P true F σ fun F' σ' => x.W P true F' σ' K := by
  simp only [swOK, Bool.and_eq_true] at hs
  obtain ⟨hk, h1, h2, h3⟩ := hs
  have hny : y.o.kind ≠ .no := by
    intro e
    rw [e] at hk
    cases hx : x.o.kind <;> rw [hx] at hk <;> simp [kinds] at hk
  have hx : x.o.kind = .val ∨ x.o.kind = .look ∧ y.o.kind ≠ .change := by
    revert hk
    cases x.o.kind <;> cases y.o.kind <;> simp [kinds]
  obtain ⟨u, hu, hlate⟩ := GO.W_late (hx.imp_right (·.1)) h
  have hy := GO.W_ag (F := ⟨wr x.o.dst u F.s, F.l⟩) (G := F) hny rfl (free_spec h1).symm hu
  refine GO.W_mono hy ?_
  rintro F' σ' ⟨v, l, rfl, hKv, hn⟩
  refine hlate _ _ _ ?_ (free_spec h2) ?_
  · rcases hx with e | e
    · exact .inl e
    · exact .inr ⟨(hn e.2).1.symm, (hn e.2).2⟩
  · exact hK _ _ _ (wr_comm h3 u v l) hKv

theorem GO.W_congr {o : GO} (hno : o.o.kind ≠ .no) (he : FrEq F G) (hK : Closed K) (h : o.W P true F σ K) : o.W P true G σ K := by
  refine GO.W_mono (GO.W_ag hno he.1 (he.ag _) h) ?_
  rintro F' σ' ⟨u, l, rfl, hk, _⟩
  exact hK _ _ _ (he.wr _ _ _) hk

theorem closed_opsW {l : List GO} {Q : X → Fr → St → Prop} (hQ : Closed (Q .normal)) (hno : ∀ o ∈ l, o.o.kind ≠ .no) : Closed fun F σ => opsW P true l F σ Q := by
  induction l with
  | nil => exact hQ
  | cons o r ih =>
    intro F G σ he h
    exact GO.W_congr (hno o (by simp)) he (ih fun o ho => hno o (by simp [ho])) h

/-- One operation comes to the front. -/
theorem front {y : GO} {l2 : List GO} {Q : X → Fr → St → Prop} (hQ : Closed (Q .normal)) : ∀ {l1 : List GO} {F : Fr} {σ : St}, (∀ x ∈ l1, swOK x y = true) → (∀ o ∈ l1 ++ y :: l2, o.o.kind ≠ .no) →
    opsW P true (l1 ++ y :: l2) F σ Q → opsW P true (y :: (l1 ++ l2)) F σ Q
  | [], F, σ, _, _, h => h
  | x :: r, F, σ, hs, hno, h => by
    have h0 : x.W P true F σ fun F' σ' => opsW P true (r ++ y :: l2) F' σ' Q := h
    have hno1 : ∀ o ∈ r ++ y :: l2, o.o.kind ≠ .no := fun o ho => hno o (List.mem_cons_of_mem _ ho)
    have h1 : x.W P true F σ fun F' σ' => y.W P true F' σ' fun F' σ' => opsW P true (r ++ l2) F' σ' Q :=
      GO.W_mono h0 fun F' σ' h => front hQ (fun x hx => hs x (List.mem_cons_of_mem _ hx)) hno1 h
    have hno2 : ∀ o ∈ r ++ l2, o.o.kind ≠ .no := by
      intro o ho
      refine hno1 o ?_
      rcases List.mem_append.1 ho with h | h
      · exact List.mem_append_left _ h
      · exact List.mem_append_right _ (List.mem_cons_of_mem _ h)
    exact swap (hs x (by simp)) (closed_opsW hQ hno2) h1
end
end Go.VL

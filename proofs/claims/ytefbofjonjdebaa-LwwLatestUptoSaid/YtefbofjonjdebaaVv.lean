/- The V-logic, part 22: two operations of a region may change places. -/
import Derived.Test.YtefbofjonjdebaaVu
set_option linter.unusedVariables false
set_option linter.unusedSimpArgs false
namespace Go.VL
open Go

/-- The same frame. -/
def FrEq (F G : Fr) : Prop := F.l = G.l ∧ ∀ t, sget t F.s = sget t G.s

theorem FrEq.refl (F : Fr) : FrEq F F := ⟨rfl, fun _ => rfl⟩
theorem FrEq.symm {F G : Fr} (h : FrEq F G) : FrEq G F := ⟨h.1.symm, fun t => (h.2 t).symm⟩
theorem FrEq.trans {F G H : Fr} (h : FrEq F G) (k : FrEq G H) : FrEq F H := ⟨h.1.trans k.1, fun t => (h.2 t).trans (k.2 t)⟩
theorem FrEq.ag {F G : Fr} (h : FrEq F G) (rs : List Nat) : Ag rs F G := fun t _ => h.2 t

theorem sget_wr (t : Nat) (d : Option Nat) (u : S) (s : List (Nat × S)) : sget t (wr d u s) = if d = some t then u else sget t s := by
  cases d with
  | none => simp [wr]
  | some d =>
    simp only [wr, sget_sset, Option.some.injEq]
    by_cases e : t = d
    · subst e; simp
    · have : ¬ d = t := fun h => e h.symm
      simp [e, this]

theorem FrEq.wr {F G : Fr} (h : FrEq F G) (d : Option Nat) (u : S) (l : List (Nat × List V)) : FrEq ⟨VL.wr d u F.s, l⟩ ⟨VL.wr d u G.s, l⟩ :=
  ⟨rfl, fun t => by simp only [sget_wr, h.2]⟩

theorem free_spec {d : Option Nat} {l : List Nat} (h : free d l = true) {F : Fr} {u : S} {l' : List (Nat × List V)} : Ag l F ⟨wr d u F.s, l'⟩ := by
  intro t ht
  rw [sget_wr]
  cases d with
  | none => simp
  | some d =>
    simp only [free, List.all_eq_true, Bool.not_eq_true'] at h
    have h1 := h t ht
    have : ¬ d = t := fun e => by
      subst e
      rw [show Nat.beq d d = true from Nat.beq_refl d] at h1
      cases h1
    simp [this]

theorem Ag.trans {l : List Nat} {F G H : Fr} (h : Ag l F G) (k : Ag l G H) : Ag l F H := fun t ht => (h t ht).trans (k t ht)
theorem Ag.symm {l : List Nat} {F G : Fr} (h : Ag l F G) : Ag l G F := fun t ht => (h t ht).symm

section
variable {P : Program} {F G : Fr} {σ τ : St} {K K' : Option (List Nat) → Fr → St → Prop} {e e1 : Option (List Nat)}

theorem resK.mono {K K' : Fr → St → Prop} {r : Res} (h : resK K r) (hk : ∀ F σ, K F σ → K' F σ) : resK K' r := by
  cases r with
  | bad => exact h
  | ok F σ => exact hk _ _ h
  | need p F σ => exact ⟨h.1, hk _ _ h.2⟩

theorem O.W_call {o : O} (h : o.kind ≠ .call) : o.W P e F σ K = resK (K (o.seen e F)) (o.run F σ) := by
  cases o <;> first | rfl | (simp [O.kind] at h)

/-- Less was looked at. -/
def ELe (e' e : Option (List Nat)) : Prop := e'.isSome = e.isSome ∧ ∀ L L', e = some L → e' = some L' → ∀ i ∈ L', i ∈ L

theorem ELe.refl (e : Option (List Nat)) : ELe e e := ⟨rfl, fun L L' h1 h2 i hi => by rw [h1] at h2; cases h2; exact hi⟩
theorem see_nil : see e [] = e := by cases e <;> rfl
theorem ELe.add {e e' : Option (List Nat)} (h : ELe e' e) (l : List Nat) : ELe (see e' l) (see e l) := by
  cases e with
  | none => cases e' with
    | none => exact .refl _
    | some L => simp [ELe] at h
  | some L => cases e' with
    | none => simp [ELe] at h
    | some L' =>
      refine ⟨rfl, fun a b h1 h2 i hi => ?_⟩
      cases h1; cases h2
      rcases List.mem_append.1 hi with hi | hi
      · exact List.mem_append_left _ hi
      · exact List.mem_append_right _ (h.2 _ _ rfl rfl i hi)
theorem ELe.more (l : List Nat) : ELe e (see e l) := by
  cases e with
  | none => exact .refl _
  | some L =>
    refine ⟨rfl, fun a b h1 h2 i hi => ?_⟩
    cases h1; cases h2
    exact List.mem_append_right _ hi
theorem ELe.swap (l l' : List Nat) : ELe (see (see e l) l') (see (see e l') l) := by
  cases e with
  | none => exact .refl _
  | some L =>
    refine ⟨rfl, fun a b h1 h2 i hi => ?_⟩
    cases h1; cases h2
    simp only [List.mem_append] at hi ⊢
    rcases hi with hi | hi | hi
    · exact .inr (.inl hi)
    · exact .inl hi
    · exact .inr (.inr hi)
theorem Kept.less {σ σ' : St} (h : Kept e1 σ σ') (hle : ELe e e1) : Kept e σ σ' := by
  intro L hL
  subst hL
  cases e1 with
  | none => simp [ELe] at hle
  | some L1 => exact ⟨fun i hi => (h _ rfl).objs i (hle.2 _ _ rfl rfl i hi), (h _ rfl).live⟩
theorem seen_eq (o : O) : o.seen e F = see e (o.sees F) := by
  cases o <;> first | rfl | exact see_nil.symm
theorem sees_ag {o : O} (h : Ag o.reads F G) : o.sees F = o.sees G := by
  cases o <;> simp only [O.reads] at h <;> simp only [O.sees]
  case ld => rw [h.ev]
  case lk => rw [h.l.ev]
  case ln => rw [h.ev]

theorem setO_wr (F : Fr) (d : Option Nat) (v : V) : setO F d v = ⟨wr d (.v v) F.s, F.l⟩ := by cases d <;> rfl

/-- What an operation comes to hangs on what it reads; it writes its slot; where it does not change memory all is as it was. -/
theorem O.W_ag {o : O} (hle : ELe e e1) (hno : o.kind ≠ .no) (hl : F.l = G.l) (hag : Ag o.reads F G) (h : o.W P e1 F σ K) :
    o.W P e G σ fun e' G' σ' => ∃ u l t, G' = ⟨wr o.dst u G.s, l⟩ ∧ e' = see e t ∧ K (see e1 t) ⟨wr o.dst u F.s, l⟩ σ' ∧ (o.kind ≠ .change → l = F.l ∧ Kept e1 σ σ') := by
  cases hk : o.kind with
  | call =>
    cases o <;> simp only [O.kind, reduceCtorEq] at hk
    case ca d f xs =>
      simp only [O.reads] at hag
      simp only [O.W, ← hag.vas] at h ⊢
      exact CallA.mono h fun v σ' x => ⟨x.1.less hle, .v v, F.l, [], by rw [setO_wr, hl]; rfl, see_nil.symm, by rw [setO_wr] at x; rw [see_nil]; exact x.2, fun _ => ⟨rfl, x.1⟩⟩
    case cv d f xs =>
      simp only [O.reads] at hag
      simp only [O.W, ← hag.r.vas, ← hag.l.va] at h ⊢
      obtain ⟨g, caps, h1, h2⟩ := h
      exact ⟨g, caps, h1, CallA.mono h2 fun v σ' x => ⟨x.1.less hle, .v v, F.l, [], by rw [setO_wr, hl]; rfl, see_nil.symm, by rw [setO_wr] at x; rw [see_nil]; exact x.2, fun _ => ⟨rfl, x.1⟩⟩⟩
  | no => exact absurd hk hno
  | change =>
    rw [O.W_call (by rw [hk]; simp)] at h ⊢
    rw [seen_eq] at h ⊢
    rw [sees_ag hag] at h
    have hr := run_c (σ := σ) hk hl hag
    revert h hr
    cases o.run F σ with
    | bad => intro h; exact h.elim
    | ok F' σ' =>
      rintro h ⟨⟨u, l, rfl, h2⟩, _⟩
      rw [h2]
      exact ⟨u, l, _, rfl, rfl, h, fun x => absurd rfl x⟩
    | need p F' σ' =>
      rintro h ⟨⟨u, l, rfl, h2⟩, _⟩
      rw [h2]
      exact ⟨h.1, u, l, _, rfl, rfl, h.2, fun x => absurd rfl x⟩
  | make =>
    rw [O.W_call (by rw [hk]; simp)] at h ⊢
    rw [seen_eq] at h ⊢
    rw [sees_ag hag] at h
    have hr := run_a (σ := σ) hk hl hag
    revert h hr
    cases o.run F σ with
    | bad => intro h; exact h.elim
    | ok F' σ' =>
      rintro h ⟨⟨u, l, rfl, h2⟩, h3⟩
      rw [h2]
      exact ⟨u, l, _, rfl, rfl, h, fun _ => ⟨(h3 _ rfl).2, (h3 _ rfl).1.kept⟩⟩
    | need p F' σ' =>
      rintro h ⟨⟨u, l, rfl, h2⟩, h3⟩
      rw [h2]
      exact ⟨h.1, u, l, _, rfl, rfl, h.2, fun _ => ⟨(h3 _ rfl).2, (h3 _ rfl).1.kept⟩⟩
  | val | look =>
    rw [O.W_call (by rw [hk]; simp)] at h ⊢
    rw [seen_eq] at h ⊢
    rw [sees_ag hag] at h
    obtain ⟨d, hd, hr⟩ := run_p (F := F) (G := G) (σ := σ) (τ := σ) (o := o) (by rw [hk]; simp [hl, (Ext.refl σ).on]) hag
    rw [hd]
    revert h hr
    cases o.run F σ with
    | bad => intro h; exact h.elim
    | ok F' σ' =>
      rintro h ⟨u, rfl, rfl, h3⟩
      rw [h3]
      exact ⟨u, F.l, _, by simp [Fr.set, wr, hl], rfl, h, fun _ => ⟨rfl, (Ext.refl _).kept⟩⟩
    | need p F' σ' =>
      rintro h ⟨u, q, rfl, rfl, h3, h4⟩
      rw [h3]
      exact ⟨h4 h.1, u, F.l, _, by simp [Fr.set, wr, hl], rfl, h.2, fun _ => ⟨rfl, (Ext.refl _).kept⟩⟩

theorem GO.W_ag {o : GO} (hle : ELe e e1) (hno : o.o.kind ≠ .no) (hl : F.l = G.l) (hag : Ag o.reads F G) (h : o.W P e1 F σ K) :
    o.W P e G σ fun e' G' σ' => ∃ u l t, G' = ⟨wr o.o.dst u G.s, l⟩ ∧ e' = see e t ∧ K (see e1 t) ⟨wr o.o.dst u F.s, l⟩ σ' ∧ (o.o.kind ≠ .change → l = F.l ∧ Kept e1 σ σ') := by
  unfold GO.W at h ⊢
  unfold GO.reads at hag
  cases hg : o.g with
  | none =>
    simp only [hg] at h hag ⊢
    exact O.W_ag hle hno hl hag h
  | some g =>
    simp only [hg] at h hag ⊢
    have hva : F.va (.t g.1) = G.va (.t g.1) := Ag.va (x := .t g.1) (fun t ht => hag t (by simp only [E.rs, List.mem_singleton] at ht; simp [ht]))
    have skip : K e1 (setO F o.o.dst (.tup [])) σ → ∃ u l t, setO G o.o.dst (.tup []) = ⟨wr o.o.dst u G.s, l⟩ ∧ e = see e t ∧ K (see e1 t) ⟨wr o.o.dst u F.s, l⟩ σ ∧ (o.o.kind ≠ .change → l = F.l ∧ Kept e1 σ σ) := fun h =>
      ⟨.v (.tup []), F.l, [], by rw [setO_wr, hl], see_nil.symm, by rw [see_nil]; rwa [setO_wr] at h, fun _ => ⟨rfl, (Ext.refl _).kept⟩⟩
    rw [← hva]
    rcases h with ⟨h1, h2⟩ | ⟨c, h1, h2, h3⟩
    · exact .inl ⟨h1, skip h2⟩
    · exact .inr ⟨c, h1, fun e => O.W_ag hle hno hl (fun t ht => hag t (by simp [ht])) (h2 e), fun e => skip (h3 e)⟩

theorem set_inj {F : Fr} {d : Nat} {u v : S} (h : F.set d u = F.set d v) : u = v := by
  have := congrArg (fun G => sget d G.s) h
  simpa [Fr.set, sget_sset] using this

theorem O.W_late {x : O} (hk : x.kind = .val ∨ x.kind = .look) {R : Option (List Nat) → Fr → St → Prop} (h : x.W P e F σ R) :
    ∃ u t, R (see e t) ⟨wr x.dst u F.s, F.l⟩ σ ∧ ∀ (e2 : Option (List Nat)) (G : Fr) (τ : St) (K : Option (List Nat) → Fr → St → Prop), (x.kind = .val ∨ F.l = G.l ∧ ExtD t σ τ) → Ag x.reads F G →
      K (see e2 t) ⟨wr x.dst u G.s, G.l⟩ τ → x.W P e2 G τ K := by
  have hnc : x.kind ≠ .call := by rcases hk with h | h <;> rw [h] <;> simp
  have hr := fun (G : Fr) (τ : St) (hc : x.kind = .val ∨ F.l = G.l ∧ ExtD (x.sees F) σ τ) (ha : Ag x.reads F G) => run_p (F := F) (G := G) (σ := σ) (τ := τ) (o := x)
    (by rcases hk with e | e
        · exact .inl e
        · rcases hc with e' | e'
          · exact .inl e'
          · exact .inr ⟨e, e'⟩) ha
  obtain ⟨d, hd, hr0⟩ := hr F σ (.inr ⟨rfl, (Ext.refl _).on⟩) (fun _ _ => rfl)
  simp only [O.W_call hnc, seen_eq] at h ⊢
  revert h hr0 hr
  cases x.run F σ with
  | bad => intro _ _ h; exact h.elim
  | ok F' σ' =>
    rintro hr ⟨u, rfl, rfl, _⟩ h
    rw [hd]
    refine ⟨u, x.sees F, h, fun e2 G τ K hc ha hK => ?_⟩
    obtain ⟨d', hd', u', e1, _, e3⟩ := hr G τ hc ha
    rw [hd] at hd'; cases hd'
    rw [e3, ← set_inj e1, ← sees_ag ha]
    exact hK
  | need p F' σ' =>
    rintro hr ⟨u, q, rfl, rfl, _, _⟩ h
    rw [hd]
    refine ⟨u, x.sees F, h.2, fun e2 G τ K hc ha hK => ?_⟩
    obtain ⟨d', hd', u', q', e1, _, e3, e4⟩ := hr G τ hc ha
    rw [hd] at hd'; cases hd'
    rw [e3, ← set_inj e1, ← sees_ag ha]
    exact ⟨e4 h.1, hK⟩

/-- The first operation, later. -/
theorem GO.W_late {x : GO} (hk : x.o.kind = .val ∨ x.o.kind = .look) {R : Option (List Nat) → Fr → St → Prop} (h : x.W P e F σ R) :
    ∃ u t, R (see e t) ⟨wr x.o.dst u F.s, F.l⟩ σ ∧ ∀ (e2 : Option (List Nat)) (G : Fr) (τ : St) (K : Option (List Nat) → Fr → St → Prop), (x.o.kind = .val ∨ F.l = G.l ∧ ExtD t σ τ) → Ag x.reads F G →
      K (see e2 t) ⟨wr x.o.dst u G.s, G.l⟩ τ → x.W P e2 G τ K := by
  unfold GO.W at h ⊢
  unfold GO.reads
  cases hg : x.g with
  | none => simp only [hg] at h ⊢; exact O.W_late hk h
  | some g =>
    simp only [hg] at h ⊢
    have hva : ∀ G, Ag (g.1 :: x.o.reads) F G → G.va (.t g.1) = F.va (.t g.1) := fun G hag =>
      (Ag.va (x := .t g.1) (fun t ht => hag t (by simp only [E.rs, List.mem_singleton] at ht; simp [ht]))).symm
    rcases h with ⟨h1, h2⟩ | ⟨c, h1, h2, h3⟩
    · refine ⟨.v (.tup []), [], ?_, fun e2 G τ K _ ha k => .inl ⟨by rw [hva G ha, h1], ?_⟩⟩
      · rw [see_nil]; rwa [setO_wr] at h2
      · rw [see_nil] at k; rwa [setO_wr]
    by_cases ec : c = g.2
    · obtain ⟨u, t, hu, hK⟩ := O.W_late hk (h2 ec)
      exact ⟨u, t, hu, fun e2 G τ K hc ha k => .inr ⟨c, by rw [hva G ha, h1], fun _ => hK e2 G τ K hc (fun t ht => ha t (by simp [ht])) k, fun x => absurd ec x⟩⟩
    · refine ⟨.v (.tup []), [], ?_, fun e2 G τ K _ ha k => .inr ⟨c, by rw [hva G ha, h1], fun x => absurd x ec, fun _ => ?_⟩⟩
      · have := h3 ec; rw [see_nil]; rwa [setO_wr] at this
      · rw [see_nil] at k; rwa [setO_wr]

/-- It says nothing of more than the frame's slots, and holds where less was looked at. -/
def Closed (K : Option (List Nat) → Fr → St → Prop) : Prop := ∀ e e1 F G σ, ELe e e1 → FrEq F G → K e1 F σ → K e G σ
def ClosedQ (K : Fr → St → Prop) : Prop := ∀ F G σ, FrEq F G → K F σ → K G σ

theorem wr_comm {F : Fr} {d e : Option Nat} (h : unlike d e = true) (u v : S) (l : List (Nat × List V)) : FrEq ⟨wr e v (wr d u F.s), l⟩ ⟨wr d u (wr e v F.s), l⟩ := by
  refine ⟨rfl, fun t => ?_⟩
  simp only [sget_wr]
  cases d with
  | none => simp
  | some d =>
    cases e with
    | none => simp
    | some e =>
      simp only [unlike, Bool.not_eq_true'] at h
      have : d ≠ e := fun x => by
        subst x
        rw [show Nat.beq d d = true from Nat.beq_refl d] at h
        cases h
      by_cases h1 : d = t
      · subst h1
        have : ¬ e = d := fun x => this x.symm
        simp [this]
      · simp [h1]

theorem swap {L : List Nat} {x y : GO} (hs : swOK x y = true) (hK : Closed K) (h : x.W P (some L) F σ fun e' F' σ' => y.W P e' F' σ' K) :
    y.W P (some L) F σ fun e' F' σ' => x.W P e' F' σ' K := by
  simp only [swOK, Bool.and_eq_true] at hs
  obtain ⟨hk, h1, h2, h3⟩ := hs
  have hny : y.o.kind ≠ .no := by
    intro e
    rw [e] at hk
    cases hx : x.o.kind <;> rw [hx] at hk <;> simp [kinds] at hk
  have hx : x.o.kind = .val ∨ x.o.kind = .look ∧ y.o.kind ≠ .change := by
    revert hk
    cases x.o.kind <;> cases y.o.kind <;> simp [kinds]
  obtain ⟨u, t, hu, hlate⟩ := GO.W_late (hx.imp_right (·.1)) h
  have hy := GO.W_ag (F := ⟨wr x.o.dst u F.s, F.l⟩) (G := F) (ELe.more t) hny rfl (free_spec h1).symm hu
  refine GO.W_mono hy ?_
  rintro e' F' σ' ⟨v, l, t', rfl, rfl, hKv, hn⟩
  refine hlate _ _ _ _ ?_ (free_spec h2) ?_
  · rcases hx with e | e
    · exact .inl e
    · exact .inr ⟨(hn e.2).1.symm, ⟨fun i hi => ((hn e.2).2 _ rfl).objs i (List.mem_append_left _ hi), ((hn e.2).2 _ rfl).live⟩⟩
  · exact hK _ _ _ _ _ (ELe.swap _ _) (wr_comm h3 u v l) hKv

theorem GO.W_congr {o : GO} (hle : ELe e e1) (hno : o.o.kind ≠ .no) (he : FrEq F G) (hK : Closed K) (h : o.W P e1 F σ K) : o.W P e G σ K := by
  refine GO.W_mono (GO.W_ag hle hno he.1 (he.ag _) h) ?_
  rintro e' F' σ' ⟨u, l, t, rfl, rfl, hk, _⟩
  exact hK _ _ _ _ _ (hle.add t) (he.wr _ _ _) hk

theorem closed_opsW {l : List GO} {Q : X → Fr → St → Prop} (hQ : ClosedQ (Q .normal)) (hno : ∀ o ∈ l, o.o.kind ≠ .no) : Closed fun e F σ => opsW P e l F σ Q := by
  induction l with
  | nil => intro e e1 F G σ _ he h; exact hQ _ _ _ he h
  | cons o r ih =>
    intro e e1 F G σ hle he h
    exact GO.W_congr hle (hno o (by simp)) he (ih fun o ho => hno o (by simp [ho])) h

theorem O.W_some {L : List Nat} {o : O} (h : o.W P (some L) F σ K) : o.W P (some L) F σ fun e F σ => (∃ L', e = some L') ∧ K e F σ := by
  by_cases hc : o.kind = .call
  · cases o <;> simp only [O.kind, reduceCtorEq] at hc
    · exact CallA.mono h fun v σ' x => ⟨x.1, ⟨_, rfl⟩, x.2⟩
    · obtain ⟨g, caps, h1, h2⟩ := h
      exact ⟨g, caps, h1, CallA.mono h2 fun v σ' x => ⟨x.1, ⟨_, rfl⟩, x.2⟩⟩
  · rw [O.W_call hc] at h ⊢
    exact resK.mono h fun F σ h => ⟨by rw [seen_eq]; exact ⟨_, rfl⟩, h⟩
theorem GO.W_some {L : List Nat} {o : GO} (h : o.W P (some L) F σ K) : o.W P (some L) F σ fun e F σ => (∃ L', e = some L') ∧ K e F σ := by
  unfold GO.W at h ⊢
  cases hg : o.g with
  | none => simp only [hg] at h ⊢; exact O.W_some h
  | some g =>
    simp only [hg] at h ⊢
    rcases h with ⟨h1, h2⟩ | ⟨c, h1, h2, h3⟩
    · exact .inl ⟨h1, ⟨_, rfl⟩, h2⟩
    · exact .inr ⟨c, h1, fun e => O.W_some (h2 e), fun e => ⟨⟨_, rfl⟩, h3 e⟩⟩

/-- One operation comes to the front. -/
theorem front {y : GO} {l2 : List GO} {Q : X → Fr → St → Prop} (hQ : ClosedQ (Q .normal)) : ∀ {l1 : List GO} {L : List Nat} {F : Fr} {σ : St}, (∀ x ∈ l1, swOK x y = true) → (∀ o ∈ l1 ++ y :: l2, o.o.kind ≠ .no) →
    opsW P (some L) (l1 ++ y :: l2) F σ Q → opsW P (some L) (y :: (l1 ++ l2)) F σ Q
  | [], L, F, σ, _, _, h => h
  | x :: r, L, F, σ, hs, hno, h => by
    have h0 : x.W P (some L) F σ fun e' F' σ' => opsW P e' (r ++ y :: l2) F' σ' Q := h
    have hno1 : ∀ o ∈ r ++ y :: l2, o.o.kind ≠ .no := fun o ho => hno o (List.mem_cons_of_mem _ ho)
    have h1 : x.W P (some L) F σ fun e' F' σ' => y.W P e' F' σ' fun e' F' σ' => opsW P e' (r ++ l2) F' σ' Q :=
      GO.W_mono (GO.W_some h0) fun e' F' σ' ⟨⟨L', hL⟩, h⟩ => by
        subst hL
        exact front hQ (fun x hx => hs x (List.mem_cons_of_mem _ hx)) hno1 h
    have hno2 : ∀ o ∈ r ++ l2, o.o.kind ≠ .no := by
      intro o ho
      refine hno1 o ?_
      rcases List.mem_append.1 ho with h | h
      · exact List.mem_append_left _ h
      · exact List.mem_append_right _ (List.mem_cons_of_mem _ h)
    exact swap (hs x (by simp)) (closed_opsW hQ hno2) h1

theorem resK.and {K K' : Fr → St → Prop} {r : Res} (h : resK K r) (h' : resK K' r) : resK (fun F σ => K F σ ∧ K' F σ) r := by
  cases r with
  | bad => exact h
  | ok F σ => exact ⟨h, h'⟩
  | need p F σ => exact ⟨h.1, h.2, h'.2⟩
theorem O.W_and {o : O} (hk : o.kind ≠ .call) (h : o.W P e F σ K) (h' : o.W P e F σ K') : o.W P e F σ fun e F σ => K e F σ ∧ K' e F σ := by
  rw [O.W_call hk] at h h' ⊢
  exact resK.and h h'
theorem GO.W_and {o : GO} (hk : o.o.kind ≠ .call) (h : o.W P e F σ K) (h' : o.W P e F σ K') : o.W P e F σ fun e F σ => K e F σ ∧ K' e F σ := by
  unfold GO.W at h h' ⊢
  cases hg : o.g with
  | none => simp only [hg] at h h' ⊢; exact O.W_and hk h h'
  | some g =>
    simp only [hg] at h h' ⊢
    rcases h with ⟨h1, h2⟩ | ⟨c, h1, h2, h3⟩ <;> rcases h' with ⟨g1, g2⟩ | ⟨c', g1, g2, g3⟩
    · exact .inl ⟨h1, h2, g2⟩
    · rw [h1] at g1; cases g1
    · rw [h1] at g1; cases g1
    · rw [h1] at g1
      cases g1
      exact .inr ⟨c, h1, fun e => O.W_and hk (h2 e) (g2 e), fun e => ⟨h3 e, g3 e⟩⟩
end
end Go.VL

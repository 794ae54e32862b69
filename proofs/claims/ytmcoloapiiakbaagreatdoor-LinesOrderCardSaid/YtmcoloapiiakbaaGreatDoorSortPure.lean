/-
  The order of triples; a row of triples, each once, rising.
-/
import Derived.Test.YtmcoloapiiakbaaGreatDoorRound
set_option linter.unusedVariables false
set_option linter.unusedSimpArgs false
namespace Go.Proofs.YtmcoloapiiakbaaGreatDoor.SortP
open Go.Lib Go.Proofs.YtmcoloapiiakbaaGreatDoor.B Go.Proofs.YtmcoloapiiakbaaGreatDoor.Utf Go.Proofs.YtmcoloapiiakbaaGreatDoor.TermPure Go.Proofs.YtmcoloapiiakbaaGreatDoor.LinesPure Go.Proofs.YtmcoloapiiakbaaGreatDoor.Round

def cmpL (a b : List UInt8) : Int := if a < b then -1 else if b < a then 1 else 0
theorem cmpL_zero (a b : List UInt8) : cmpL a b = 0 ↔ a = b := by
  unfold cmpL
  constructor
  · intro h
    split at h
    · cases h
    · rename_i h1
      split at h
      · cases h
      · rename_i h2
        exact List.le_antisymm (List.not_lt.1 h2) (List.not_lt.1 h1)
  · rintro rfl
    rw [if_neg (List.lt_irrefl a), if_neg (List.lt_irrefl a)]
theorem cmpL_neg (a b : List UInt8) : cmpL a b < 0 ↔ a < b := by
  unfold cmpL
  split
  · rename_i h; exact ⟨fun _ => h, fun _ => by decide⟩
  · rename_i h
    split
    · exact ⟨fun h' => absurd h' (by decide), fun h' => absurd h' h⟩
    · exact ⟨fun h' => absurd h' (by decide), fun h' => absurd h' h⟩
theorem cmpL_swap (a b : List UInt8) : cmpL b a = - cmpL a b := by
  unfold cmpL
  by_cases h1 : a < b
  · simp [h1, List.lt_asymm h1]
  · by_cases h2 : b < a
    · simp [h1, h2]
    · simp [h1, h2]
theorem cmpL_three (a b : List UInt8) : cmpL a b = -1 ∨ cmpL a b = 0 ∨ cmpL a b = 1 := by
  unfold cmpL
  split
  · exact .inl rfl
  · split
    · exact .inr (.inr rfl)
    · exact .inr (.inl rfl)

def cmpTm (a b : Term) : Int := cmpL (shown a) (shown b)
/-- The first of three that is not nought. -/
def orI (x y z : Int) : Int := if x ≠ 0 then x else if y ≠ 0 then y else z
def cmpT (a b : Triple) : Int := orI (cmpTm a.s b.s) (cmpTm a.p b.p) (cmpTm a.o b.o)
/-- A triple as it is looked at in order. -/
def key (a : Triple) : List UInt8 × List UInt8 × List UInt8 := (shown a.s, shown a.p, shown a.o)
theorem cmpT_zero (a b : Triple) : cmpT a b = 0 ↔ key a = key b := by
  unfold cmpT orI cmpTm key
  have h1 := cmpL_zero (shown a.s) (shown b.s)
  have h2 := cmpL_zero (shown a.p) (shown b.p)
  have h3 := cmpL_zero (shown a.o) (shown b.o)
  simp only [Prod.mk.injEq, ← h1, ← h2, ← h3]
  split
  · omega
  · split <;> omega
theorem cmpT_swap (a b : Triple) : cmpT b a = - cmpT a b := by
  unfold cmpT orI cmpTm
  rw [cmpL_swap (shown a.s), cmpL_swap (shown a.p), cmpL_swap (shown a.o)]
  by_cases h1 : cmpL (shown a.s) (shown b.s) = 0
  · by_cases h2 : cmpL (shown a.p) (shown b.p) = 0
    · simp [h1, h2]
    · simp [h1, h2]
  · simp [h1]
theorem cmpT_three (a b : Triple) : cmpT a b = -1 ∨ cmpT a b = 0 ∨ cmpT a b = 1 := by
  unfold cmpT orI cmpTm
  split
  · exact cmpL_three _ _
  · split
    · exact cmpL_three _ _
    · exact cmpL_three _ _
def ltT (a b : Triple) : Prop := cmpT a b < 0
instance (a b : Triple) : Decidable (ltT a b) := inferInstanceAs (Decidable (cmpT a b < 0))
theorem ltT_iff (a b : Triple) : ltT a b ↔ shown a.s < shown b.s ∨ (shown a.s = shown b.s ∧ (shown a.p < shown b.p ∨ (shown a.p = shown b.p ∧ shown a.o < shown b.o))) := by
  unfold ltT cmpT orI cmpTm
  have a1 := cmpL_zero (shown a.s) (shown b.s)
  have a2 := cmpL_zero (shown a.p) (shown b.p)
  have b1 := cmpL_neg (shown a.s) (shown b.s)
  have b2 := cmpL_neg (shown a.p) (shown b.p)
  have b3 := cmpL_neg (shown a.o) (shown b.o)
  by_cases h1 : shown a.s = shown b.s
  · have h1' : ¬ shown a.s < shown b.s := by rw [h1]; exact List.lt_irrefl _
    rw [if_neg (by simp [a1.2 h1])]
    by_cases h2 : shown a.p = shown b.p
    · have h2' : ¬ shown a.p < shown b.p := by rw [h2]; exact List.lt_irrefl _
      rw [if_neg (by simp [a2.2 h2]), b3]
      simp [h1, h2, List.lt_irrefl]
    · rw [if_pos (fun e => h2 (a2.1 e)), b2]
      simp [h1, h2, List.lt_irrefl]
  · rw [if_pos (fun e => h1 (a1.1 e)), b1]
    simp [h1]
theorem ltT_irrefl (a : Triple) : ¬ ltT a a := by
  unfold ltT
  rw [(cmpT_zero a a).2 rfl]
  decide
theorem ltT_trans {a b c : Triple} (h1 : ltT a b) (h2 : ltT b c) : ltT a c := by
  rw [ltT_iff] at *
  rcases h1 with h1 | ⟨e1, h1⟩
  · rcases h2 with h2 | ⟨e2, _⟩
    · exact .inl (List.lt_trans h1 h2)
    · exact .inl (e2 ▸ h1)
  · rcases h2 with h2 | ⟨e2, h2⟩
    · exact .inl (e1 ▸ h2)
    · refine .inr ⟨e1.trans e2, ?_⟩
      rcases h1 with h1 | ⟨e1, h1⟩
      · rcases h2 with h2 | ⟨e2, _⟩
        · exact .inl (List.lt_trans h1 h2)
        · exact .inl (e2 ▸ h1)
      · rcases h2 with h2 | ⟨e2, h2⟩
        · exact .inl (e1 ▸ h2)
        · exact .inr ⟨e1.trans e2, List.lt_trans h1 h2⟩
theorem ltT_asymm {a b : Triple} (h1 : ltT a b) : ¬ ltT b a := fun h2 => ltT_irrefl a (ltT_trans h1 h2)
theorem ltT_key {a b c : Triple} (h : key a = key b) : (ltT a c ↔ ltT b c) ∧ (ltT c a ↔ ltT c b) := by
  unfold key at h
  simp only [Prod.mk.injEq] at h
  obtain ⟨h1, h2, h3⟩ := h
  constructor <;> rw [ltT_iff, ltT_iff, h1, h2, h3]
theorem ltT_or (a b : Triple) : ltT a b ∨ key a = key b ∨ ltT b a := by
  rcases cmpT_three a b with h | h | h
  · left; unfold ltT; rw [h]; decide
  · right; left; exact (cmpT_zero a b).1 h
  · right; right; unfold ltT; rw [cmpT_swap, h]; decide
/-- Not behind: transitive. -/
theorem le_trans {a b c : Triple} (h1 : ¬ ltT b a) (h2 : ¬ ltT c b) : ¬ ltT c a := by
  intro h
  rcases ltT_or a b with hab | hab | hab
  · exact h2 (ltT_trans h hab)
  · exact h2 ((ltT_key hab).2.1 h)
  · exact h1 hab

/-! ### what is shown tells the term -/
theorem shown_inj {a b : Term} (ha : is a = true) (hb : is b = true) (h : shown a = shown b) : a = b := by
  have h1 := (shown_spells ha).reads 32 [] rfl
  have h2 := (shown_spells hb).reads 32 [] rfl
  rw [h, h2] at h1
  cases h1
  rfl
theorem key_inj {a b : Triple} (ha : isTriple a = true) (hb : isTriple b = true) (h : key a = key b) : a = b := by
  unfold isTriple at ha hb
  simp only [Bool.and_eq_true] at ha hb
  unfold key at h
  simp only [Prod.mk.injEq] at h
  obtain ⟨s, p, o⟩ := a
  obtain ⟨s', p', o'⟩ := b
  rw [Triple.mk.injEq]
  exact ⟨shown_inj ha.1 hb.1 h.1, shown_inj ha.2.1 hb.2.1 h.2.1, shown_inj ha.2.2.1 hb.2.2.1 h.2.2⟩
theorem cmpT_eq {a b : Triple} (ha : isTriple a = true) (hb : isTriple b = true) : cmpT a b = 0 ↔ a = b :=
  ⟨fun h => key_inj ha hb ((cmpT_zero a b).1 h), fun h => (cmpT_zero a b).2 (by rw [h])⟩

/-! ### sorted rows -/
abbrev Rise (l : List Triple) : Prop := l.Pairwise ltT
abbrev Valid (l : List Triple) : Prop := ∀ t ∈ l, isTriple t = true
theorem rise_eq : ∀ {a b : List Triple}, Rise a → Rise b → (∀ x, x ∈ a ↔ x ∈ b) → a = b
  | [], [], _, _, _ => rfl
  | [], y :: b, _, _, h => absurd ((h y).2 (by simp)) (by simp)
  | x :: a, [], _, _, h => absurd ((h x).1 (by simp)) (by simp)
  | x :: a, y :: b, ha, hb, h => by
    obtain ⟨ha1, ha2⟩ := List.pairwise_cons.1 ha
    obtain ⟨hb1, hb2⟩ := List.pairwise_cons.1 hb
    have hxy : x = y := by
      rcases List.mem_cons.1 ((h x).1 (by simp)) with e | e
      · exact e
      · rcases List.mem_cons.1 ((h y).2 (by simp)) with e' | e'
        · exact e'.symm
        · exact absurd (ha1 y e') (ltT_asymm (hb1 x e))
    subst hxy
    congr 1
    refine rise_eq ha2 hb2 fun z => ?_
    constructor
    · intro hz
      rcases List.mem_cons.1 ((h z).1 (by simp [hz])) with e | e
      · subst e; exact absurd (ha1 z hz) (ltT_irrefl z)
      · exact e
    · intro hz
      rcases List.mem_cons.1 ((h z).2 (by simp [hz])) with e | e
      · subst e; exact absurd (hb1 z hz) (ltT_irrefl z)
      · exact e
/-- A triple among sorted ones, once. -/
def putT : List Triple → Triple → List Triple
  | [], t => [t]
  | x :: l, t => if cmpT x t < 0 then x :: putT l t else if cmpT x t = 0 then x :: l else t :: x :: l
def sortT (l : List Triple) : List Triple := l.foldl putT []
theorem putT_mem : ∀ (l : List Triple) (t : Triple), Valid l → isTriple t = true → ∀ x, x ∈ putT l t ↔ x = t ∨ x ∈ l
  | [], t, _, _, x => by simp [putT]
  | y :: l, t, hl, ht, x => by
    have ih := putT_mem l t (fun z hz => hl z (by simp [hz])) ht x
    rw [putT]
    split
    · rw [List.mem_cons, ih, List.mem_cons]
      constructor
      · rintro (h | h | h)
        · exact .inr (.inl h)
        · exact .inl h
        · exact .inr (.inr h)
      · rintro (h | h | h)
        · exact .inr (.inl h)
        · exact .inl h
        · exact .inr (.inr h)
    · split
      · rename_i h0
        have : y = t := (cmpT_eq (hl y (by simp)) ht).1 h0
        subst this
        constructor
        · intro h; exact .inr h
        · rintro (h | h)
          · subst h; simp
          · exact h
      · simp [or_comm, or_left_comm]
theorem putT_rise : ∀ (l : List Triple) (t : Triple), Valid l → isTriple t = true → Rise l → Rise (putT l t)
  | [], t, _, _, _ => by simp [putT]
  | y :: l, t, hl, ht, hr => by
    obtain ⟨h1, h2⟩ := List.pairwise_cons.1 hr
    have ih := putT_rise l t (fun z hz => hl z (by simp [hz])) ht h2
    rw [putT]
    split
    · rename_i h
      refine List.pairwise_cons.2 ⟨fun z hz => ?_, ih⟩
      rcases (putT_mem l t (fun z hz => hl z (by simp [hz])) ht z).1 hz with e | e
      · subst e; exact h
      · exact h1 z e
    · split
      · exact hr
      · rename_i hn h0
        have hty : ltT t y := by
          rcases ltT_or t y with e | e | e
          · exact e
          · exact absurd ((cmpT_zero y t).2 e.symm) h0
          · exact absurd e hn
        refine List.pairwise_cons.2 ⟨fun z hz => ?_, hr⟩
        rcases List.mem_cons.1 hz with e | e
        · subst e; exact hty
        · exact ltT_trans hty (h1 z e)
theorem fold_put : ∀ (l acc : List Triple), Valid l → Valid acc → Rise acc → Rise (l.foldl putT acc) ∧ ∀ x, x ∈ l.foldl putT acc ↔ x ∈ acc ∨ x ∈ l
  | [], acc, _, _, ha => ⟨ha, fun x => by simp⟩
  | t :: l, acc, hl, hv, ha => by
    have ht := hl t (by simp)
    have hv2 : Valid (putT acc t) := fun x hx => by
      rcases (putT_mem acc t hv ht x).1 hx with e | e
      · subst e; exact ht
      · exact hv x e
    obtain ⟨h1, h2⟩ := fold_put l (putT acc t) (fun z hz => hl z (by simp [hz])) hv2 (putT_rise acc t hv ht ha)
    refine ⟨h1, fun x => ?_⟩
    rw [List.foldl_cons, h2, putT_mem acc t hv ht, List.mem_cons]
    constructor
    · rintro ((h | h) | h)
      · exact .inr (.inl h)
      · exact .inl h
      · exact .inr (.inr h)
    · rintro (h | h | h)
      · exact .inl (.inr h)
      · exact .inl (.inl h)
      · exact .inr h
theorem sortT_rise {l : List Triple} (h : Valid l) : Rise (sortT l) := (fold_put l [] h (fun _ hx => by cases hx) List.Pairwise.nil).1
theorem sortT_mem {l : List Triple} (h : Valid l) (x : Triple) : x ∈ sortT l ↔ x ∈ l := by
  unfold sortT
  rw [(fold_put l [] h (fun _ hx => by cases hx) List.Pairwise.nil).2 x]
  simp
theorem sortT_valid {l : List Triple} (h : Valid l) : Valid (sortT l) := fun x hx => h x ((sortT_mem h x).1 hx)
theorem sortT_eq {l a : List Triple} (h : Valid l) (hr : Rise a) (hm : ∀ x, x ∈ a ↔ x ∈ l) : a = sortT l :=
  rise_eq hr (sortT_rise h) fun x => (hm x).trans (sortT_mem h x).symm
/-- Of neighbours that are one the first. -/
def compactT : List Triple → List Triple
  | [] => []
  | x :: l => x :: (go x l)
where go (x : Triple) : List Triple → List Triple
  | [] => []
  | y :: l => if cmpT y x = 0 then go y l else y :: go y l
theorem compact_go : ∀ (l : List Triple) (x : Triple), Valid (x :: l) → (x :: l).Pairwise (fun a b => ¬ ltT b a) →
    (∀ z, z ∈ compactT.go x l → z ∈ l ∧ ltT x z) ∧ (∀ z, z ∈ l → z = x ∨ z ∈ compactT.go x l) ∧ Rise (compactT.go x l)
  | [], x, _, _ => by simp [compactT.go]
  | y :: l, x, hv, hs => by
    obtain ⟨h1, h2⟩ := List.pairwise_cons.1 hs
    have hvx := hv x (by simp)
    have hvy := hv y (by simp)
    obtain ⟨i1, i2, i3⟩ := compact_go l y (fun z hz => hv z (List.mem_cons_of_mem _ hz)) h2
    rw [compactT.go]
    by_cases h0 : cmpT y x = 0
    · have e := (cmpT_eq hvy hvx).1 h0
      subst e
      rw [if_pos h0]
      refine ⟨fun z hz => ⟨List.mem_cons_of_mem _ (i1 z hz).1, (i1 z hz).2⟩, fun z hz => ?_, i3⟩
      rcases List.mem_cons.1 hz with e | e
      · exact .inl e
      · exact i2 z e
    · rw [if_neg h0]
      have hxy : ltT x y := by
        rcases ltT_or x y with e | e | e
        · exact e
        · exact absurd ((cmpT_zero y x).2 e.symm) h0
        · exact absurd e (h1 y (by simp))
      refine ⟨fun z hz => ?_, fun z hz => ?_, List.pairwise_cons.2 ⟨fun z hz => (i1 z hz).2, i3⟩⟩
      · rcases List.mem_cons.1 hz with e | e
        · subst e; exact ⟨by simp, hxy⟩
        · exact ⟨List.mem_cons_of_mem _ (i1 z e).1, ltT_trans hxy (i1 z e).2⟩
      · rcases List.mem_cons.1 hz with e | e
        · subst e; exact .inr (by simp)
        · rcases i2 z e with e | e
          · subst e; exact .inr (by simp)
          · exact .inr (List.mem_cons_of_mem _ e)
theorem compact_sorted {l a : List Triple} (hv : Valid l) (hp : a.Perm l) (hs : a.Pairwise fun x y => ¬ ltT y x) : compactT a = sortT l := by
  refine sortT_eq hv ?_ ?_
  · cases a with
    | nil => exact List.Pairwise.nil
    | cons x t =>
      obtain ⟨i1, i2, i3⟩ := compact_go t x (fun z hz => hv z (hp.mem_iff.1 hz)) hs
      exact List.pairwise_cons.2 ⟨fun z hz => (i1 z hz).2, i3⟩
  · intro z
    rw [← hp.mem_iff]
    cases a with
    | nil => simp [compactT]
    | cons x t =>
      obtain ⟨i1, i2, i3⟩ := compact_go t x (fun z hz => hv z (hp.mem_iff.1 hz)) hs
      rw [compactT, List.mem_cons, List.mem_cons]
      constructor
      · rintro (h | h)
        · exact .inl h
        · exact .inr (i1 z h).1
      · rintro (h | h)
        · exact .inl h
        · exact i2 z h
end Go.Proofs.YtmcoloapiiakbaaGreatDoor.SortP

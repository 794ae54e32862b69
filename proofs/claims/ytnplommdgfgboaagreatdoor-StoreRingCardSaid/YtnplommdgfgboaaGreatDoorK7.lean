/-
  Texts of the claim, one behind the other: PrgB, PrgC, Parse, MadeL, QT2, Made, ParseOk, StoreM, Known11, Long11, RefPrint, SPrint, SPrint2, Known.
-/
import Derived.Test.YtnplommdgfgboaaGreatDoorK6
import Derived.Lib.CutLaws
set_option linter.unusedVariables false
set_option linter.unusedSimpArgs false
namespace Go.Proofs.YtnplommdgfgboaaGreatDoor.Prg
open Go.RowKit Go.Lib Go.Proofs.YtnplommdgfgboaaGreatDoor.B Go.Proofs.YtnplommdgfgboaaGreatDoor.Rd Go.Proofs.YtnplommdgfgboaaGreatDoor.Utf Go.Proofs.YtnplommdgfgboaaGreatDoor.TermPure Go.Proofs.YtnplommdgfgboaaGreatDoor.LinesPure Go.Proofs.YtnplommdgfgboaaGreatDoor.Tx Go.Proofs.YtnplommdgfgboaaGreatDoor.Env Go.Proofs.YtnplommdgfgboaaGreatDoor.Bld Go.Proofs.YtnplommdgfgboaaGreatDoor.Tc
open Go.Proofs.YtnplommdgfgboaaGreatDoor.Ref5 (termV Fits tripleV FitsT isTriple_eq two_zero up_len run_fst_len run_snd_len low_len zeroTr T9 oneV FitsO one_by lineEnd)
set_option maxRecDepth 100000 in
set_option maxHeartbeats 1600000 in
theorem term_bad_calls (rb : Nat) (l : List UInt8) (w : World) (h : At w rb l true) :
    Calls Tryz.prog 131 #[.pointer (some ⟨rb, 0, none⟩)] w fun e w' => (∃ t : Term, e = .returned (termV t)) ∧ Step w w' rb l true := by
  have hlt := h.lt
  have HT := Lib.hid (two_zero (w := w) w rfl)
  have HS0 := Lib.hid (((Step.refl h).alloc (.cells #[.int .i64 0, .string (mkS []), .string (mkS [])] 24)).alloc (.cells #[.int .i64 0, .string (mkS []), .string (mkS [])] 24))
  have hn2 : ¬ w.heap.size = rb := by omega
  have hn3 : ¬ w.heap.size + 1 = rb := by omega
  obtain ⟨a0, a1, b0, b1, _⟩ := h
  go_enter Tryz.func131, Tryz.ntmps131
  go_wp2_with fail
  refine (next_end_calls rb l true (.inl rfl) _ HS0.out.at').mono ?_
  rintro e w2 ⟨rfl, rfl⟩
  go_wp2_with fail
  refine (is_bad_calls rb l [95, 58] _ HS0.out.at').mono ?_
  rintro e w2 ⟨rfl, rfl⟩
  go_wp2_with fail
  refine (is_bad_calls rb l [34] _ HS0.out.at').mono ?_
  rintro e w2 ⟨rfl, rfl⟩
  go_wp2
  refine bodyPost_ret (v := termV zeroT) (by simp [results, Tryz.results131, go_sem, hn2, hn3, termV, mkS_nil, zeroT]) rfl ?_
  refine ⟨⟨zeroT, rfl⟩, ?_⟩
  repeat first | exact HS0.out.set1 true | exact HS0.out | exact ((Step.refl ⟨a0, a1, b0, b1, by assumption⟩).set1 true) | refine Step.alloc ?_ _ | refine Step.other ?_ (by omega) (by omega) _
/-- A reader's state, seen from a world. -/
def PSt (w w' : World) (rb : Nat) (st : Option (List UInt8)) : Prop := match st with
  | none => ∃ s, Step w w' rb s true
  | some l => Step w w' rb l false ∧ validD l = true ∧ l.length ≤ 1000000
theorem PSt.grown {w w' : World} {rb : Nat} {st : Option (List UInt8)} (h : PSt w w' rb st) : w.grownBy w' (some rb) := by
  cases st with
  | none => obtain ⟨s, hs⟩ := h; exact hs.grown
  | some l => exact h.1.grown
theorem PSt.trans {a b c : World} {rb : Nat} {s t : Option (List UInt8)} (h : PSt a b rb s) (k : PSt b c rb t) : PSt a c rb t := by
  cases t with
  | none => obtain ⟨x, hx⟩ := k; exact ⟨x, ⟨h.grown.trans hx.grown, hx.at'⟩⟩
  | some l => exact ⟨⟨h.grown.trans k.1.grown, k.1.at'⟩, k.2⟩
theorem PSt.alloc {a b : World} {rb : Nat} {s : Option (List UInt8)} (h : PSt a b rb s) (o : Obj) : PSt a (b.alloc o) rb s := by
  cases s with
  | none => obtain ⟨x, hx⟩ := h; exact ⟨x, hx.alloc o⟩
  | some l => exact ⟨h.1.alloc o, h.2⟩
theorem PSt.other {a b : World} {rb g j : Nat} {s : Option (List UInt8)} (h : PSt a b rb s) (hg : a.heap.size ≤ g) (hne : g ≠ rb) (u : Value) : PSt a (b.setCell ⟨g, j, none⟩ u) rb s := by
  cases s with
  | none => obtain ⟨x, hx⟩ := h; exact ⟨x, hx.other hg hne u⟩
  | some l => exact ⟨h.1.other hg hne u, h.2⟩
/-- Behind a term, ahead of blanks. -/
def PNext (st : Option (List UInt8)) (t : Term) (st' : Option (List UInt8)) : Prop := match st with
  | none => st' = none
  | some s => match term false s with
    | none => st' = none
    | some (t0, q) => t = t0 ∧ st' = some q
theorem PNext.next {st st' : Option (List UInt8)} {t : Term} (h : PNext st t st') : Ref5.Next false st t (st'.map blanks) := by
  cases st with
  | none => unfold PNext at h; subst h; rfl
  | some s =>
    unfold PNext at h
    unfold Ref5.Next
    dsimp only at h ⊢
    cases ht : term false s with
    | none => rw [ht] at h; dsimp only at h; subst h; rfl
    | some p =>
      obtain ⟨t0, q⟩ := p
      rw [ht] at h
      obtain ⟨rfl, rfl⟩ := h
      exact ⟨rfl, rfl⟩
theorem raw_len (l : List UInt8) (t : Term) (q : List UInt8) (h : rawTerm false l = some (t, q)) : q.length ≤ l.length := by
  unfold rawTerm at h
  split at h
  · cases hu : up 62 false false (l.drop 1) with
    | none => rw [hu] at h; cases h
    | some p =>
      obtain ⟨o, r⟩ := p
      rw [hu] at h
      cases h
      have := up_len 62 false false _ (l.drop 1) (Nat.le_refl _) o _ hu
      dsimp only at this ⊢
      rw [List.length_drop] at this
      omega
  · split at h
    · cases h
      have := run_snd_len false (l.drop 2)
      rw [List.length_drop] at this
      omega
    · split at h
      · have : q.length ≤ (l.drop 1).length := by
          rw [literal] at h
          cases hu : up 34 true true (l.drop 1) with
          | none => rw [hu] at h; cases h
          | some p =>
            obtain ⟨x, r⟩ := p
            have h1 := up_len 34 true true _ (l.drop 1) (Nat.le_refl _) x r hu
            rw [hu] at h
            dsimp only at h
            split at h
            · cases h
              have := run_snd_len true (r.drop 1)
              rw [List.length_drop] at this
              omega
            · split at h
              · split at h
                · cases hv : up 62 false false (r.drop 3) with
                  | none => rw [hv] at h; cases h
                  | some p2 =>
                    obtain ⟨e, y⟩ := p2
                    have h2 := up_len 62 false false _ (r.drop 3) (Nat.le_refl _) e y hv
                    rw [hv] at h
                    cases h
                    rw [List.length_drop] at h2
                    dsimp only
                    omega
                · cases h
              · cases h
                omega
        rw [List.length_drop] at this
        omega
      · cases h
theorem term_len (l : List UInt8) (t : Term) (q : List UInt8) (h : term false l = some (t, q)) : q.length ≤ l.length := by
  rw [term] at h
  cases hr : rawTerm false l with
  | none => rw [hr] at h; cases h
  | some p =>
    obtain ⟨t', q'⟩ := p
    rw [hr] at h
    dsimp only at h
    split at h
    · cases h; exact raw_len l t q hr
    · cases h
/-- A term's parts are small. -/
def FitsX (t : Term) : Prop := Fits t ∧ t.extra.length ≤ 1000000
theorem raw_extra (l : List UInt8) (t : Term) (q : List UInt8) (h : rawTerm false l = some (t, q)) : t.extra.length ≤ l.length := by
  unfold rawTerm at h
  split at h
  · cases hu : up 62 false false (l.drop 1) with
    | none => rw [hu] at h; cases h
    | some p =>
      rw [hu] at h
      cases h
      simp
  · split at h
    · cases h
      simp
    · split at h
      · have := literal_extra (l.drop 1) t q h
        rw [List.length_drop] at this
        omega
      · cases h
theorem term_extra (l : List UInt8) (t : Term) (q : List UInt8) (h : term false l = some (t, q)) : t.extra.length ≤ l.length := by
  rw [term] at h
  cases hr : rawTerm false l with
  | none => rw [hr] at h; cases h
  | some p =>
    obtain ⟨t', q'⟩ := p
    rw [hr] at h
    dsimp only at h
    split at h
    · cases h; exact raw_extra l t q hr
    · cases h
theorem term_any_calls (w0 : World) (rb : Nat) (st : Option (List UInt8)) (w : World) (he : Env w) (hrb : lowB ≤ rb) (h : PSt w0 w rb st) :
    Calls Tryz.prog 131 #[.pointer (some ⟨rb, 0, none⟩)] w fun e w' => ∃ t st', (e = .returned (termV t) ∧ (st' ≠ none → FitsX t)) ∧ (PSt w0 w' rb st' ∧ w.grownBy w' (some rb)) ∧ PNext st t st' := by
  cases st with
  | none =>
    obtain ⟨s, hs⟩ := h
    refine (term_bad_calls rb s w hs.at').mono ?_
    rintro e w' ⟨⟨t, h1⟩, h3⟩
    exact ⟨t, none, ⟨h1, fun h => absurd rfl h⟩, ⟨⟨s, hs.trans h3⟩, h3.grown⟩, rfl⟩
  | some l =>
    obtain ⟨hs, hv, hl⟩ := h
    refine (term_calls rb l hl hv w he hrb hs.at').mono ?_
    intro e w' hp
    unfold PNext
    dsimp only
    cases ht : term false l with
    | none =>
      rw [ht] at hp
      obtain ⟨⟨t, h1⟩, s, h3⟩ := hp
      exact ⟨t, none, ⟨h1, fun h => absurd rfl h⟩, ⟨⟨s, hs.trans h3⟩, h3.grown⟩, rfl⟩
    | some p =>
      obtain ⟨t, q⟩ := p
      rw [ht] at hp
      obtain ⟨⟨h1, h2⟩, h3, h4⟩ := hp
      exact ⟨t, some q, ⟨h1, fun _ => ⟨h2, Nat.le_trans (term_extra l t q ht) hl⟩⟩, ⟨⟨hs.trans h3, h4, Nat.le_trans (term_len l t q ht) hl⟩, h3.grown⟩, rfl, rfl⟩
theorem blanks_any_calls (w0 : World) (rb : Nat) (st : Option (List UInt8)) (w : World) (h : PSt w0 w rb st) :
    Calls Tryz.prog 129 #[.pointer (some ⟨rb, 0, none⟩)] w fun e w' => e = .returned (.tuple #[]) ∧ PSt w0 w' rb (st.map blanks) ∧ w.grownBy w' (some rb) := by
  cases st with
  | none =>
    obtain ⟨s, hs⟩ := h
    refine (pblanks_bad_calls rb s w hs.at').mono ?_
    rintro e w' ⟨h1, rfl⟩
    exact ⟨h1, ⟨s, hs⟩, World.grownBy.refl _ _⟩
  | some l =>
    obtain ⟨hs, hv, hl⟩ := h
    refine (pblanks_calls rb l w hs.at').mono ?_
    rintro e w' ⟨h1, h2⟩
    exact ⟨h1, ⟨hs.trans h2, blanks_valid l hv, Nat.le_trans (List.Sublist.length_le (List.dropWhile_sublist _)) hl⟩, h2.grown⟩
theorem over_any_calls (w0 : World) (rb : Nat) (st : Option (List UInt8)) (w : World) (h : PSt w0 w rb st) :
    Calls Tryz.prog 130 #[.pointer (some ⟨rb, 0, none⟩)] w fun e w' => e = .returned (.bool (st.any over)) ∧ w = w' := by
  cases st with
  | none =>
    obtain ⟨s, hs⟩ := h
    exact (over_calls rb s true w hs.at').mono fun e w' h => h
  | some l => exact (over_calls rb l false w h.1.at').mono fun e w' h => h
/-- Behind a dot. -/
def dot (st : Option (List UInt8)) : Option (List UInt8) := match st with
  | none => none
  | some r => if ([46] : List UInt8).isPrefixOf r = true then some (r.drop 1) else none
theorem dot_any_calls (w0 : World) (rb : Nat) (st : Option (List UInt8)) (w : World) (h : PSt w0 w rb st) :
    Calls Tryz.prog 132 #[.pointer (some ⟨rb, 0, none⟩), .string (mkS [46])] w fun e w' => e = .returned (.tuple #[]) ∧ PSt w0 w' rb (dot st) ∧ w.grownBy w' (some rb) := by
  cases st with
  | none =>
    obtain ⟨s, hs⟩ := h
    refine (must_bad_calls rb s [46] w hs.at').mono ?_
    rintro e w' ⟨h1, h2⟩
    exact ⟨h1, ⟨s, hs.trans h2⟩, h2.grown⟩
  | some l =>
    obtain ⟨hs, hv, hl⟩ := h
    refine (must_calls rb l [46] w hs.at').mono ?_
    rintro e w' ⟨h1, h2⟩
    unfold dot
    dsimp only
    cases hp : ([46] : List UInt8).isPrefixOf l with
    | true =>
      rw [hp] at h2
      exact ⟨h1, ⟨hs.trans h2, valid_drop [46] (by decide) l hp hv, by simp; omega⟩, h2.grown⟩
    | false =>
      rw [hp] at h2
      exact ⟨h1, ⟨_, hs.trans h2⟩, h2.grown⟩
end Go.Proofs.YtnplommdgfgboaaGreatDoor.Prg
set_option linter.unusedVariables false
set_option linter.unusedSimpArgs false
namespace Go.Proofs.YtnplommdgfgboaaGreatDoor.Prg
open Go.RowKit Go.Lib Go.Proofs.YtnplommdgfgboaaGreatDoor.B Go.Proofs.YtnplommdgfgboaaGreatDoor.Rd Go.Proofs.YtnplommdgfgboaaGreatDoor.Utf Go.Proofs.YtnplommdgfgboaaGreatDoor.TermPure Go.Proofs.YtnplommdgfgboaaGreatDoor.LinesPure Go.Proofs.YtnplommdgfgboaaGreatDoor.Tx Go.Proofs.YtnplommdgfgboaaGreatDoor.Env Go.Proofs.YtnplommdgfgboaaGreatDoor.Bld Go.Proofs.YtnplommdgfgboaaGreatDoor.Tc
open Go.Proofs.YtnplommdgfgboaaGreatDoor.Ref5 (termV Fits tripleV FitsT isTriple_eq two_zero zeroTr T9 oneV FitsO one_by lineEnd)
theorem T9.newA (w : World) (t : Triple) : T9 (w.alloc (.cells #[.int .i64 t.s.kind, .string (mkS t.s.text), .string (mkS t.s.extra), .int .i64 t.p.kind, .string (mkS t.p.text), .string (mkS t.p.extra), .int .i64 t.o.kind, .string (mkS t.o.text), .string (mkS t.o.extra)] 171)) w.heap.size t := by
  constructor <;> constructor
  all_goals first | (unfold World.cell?; dsimp only; rw [Kd.heap_new]; rfl) | (unfold World.frozen?; dsimp only; rw [Kd.heap_new]; rfl)
theorem T9.setS {W : World} {g : Nat} {a0 p0 o0 : Term} (h : T9 W g ⟨a0, p0, o0⟩) (a : Term) : T9 (((W.setCell ⟨g, 0, none⟩ (.int .i64 a.kind)).setCell ⟨g, 1, none⟩ (.string (mkS a.text))).setCell ⟨g, 2, none⟩ (.string (mkS a.extra))) g ⟨a, p0, o0⟩ :=
  ⟨h.s.set a, ((h.p.apart (by decide) (by decide) (by decide) _).apart (by decide) (by decide) (by decide) _).apart (by decide) (by decide) (by decide) _,
    ((h.o.apart (by decide) (by decide) (by decide) _).apart (by decide) (by decide) (by decide) _).apart (by decide) (by decide) (by decide) _⟩
theorem bel_seen {w0 w w' : World} {rb : Nat} (h : w.grownBy w' (some rb)) (hb : Below w0.heap.size w0 w) (hr : w0.heap.size ≤ rb) : Below w0.heap.size w0 w' :=
  ⟨h.os.trans hb.os, h.tape.trans hb.tape, h.output.trans hb.output, Nat.le_trans hb.size h.size, fun k hk => (h.block k (Nat.lt_of_lt_of_le hk hb.size) (by simp; omega)).trans (hb.block k hk)⟩
theorem end_no (t : Triple) (st : Option (List UInt8)) (h : ((dot st).map blanks).any over = false) : lineEnd t st = none := by
  cases st with
  | none => rfl
  | some r =>
    unfold lineEnd
    dsimp only
    apply if_neg
    rintro ⟨h1, h2, _⟩
    unfold dot at h
    dsimp only at h
    rw [if_pos h1] at h
    have h' : over (blanks (r.drop 1)) = false := h
    rw [h2] at h'
    cases h'
theorem end_yes (t : Triple) (st : Option (List UInt8)) (h : ((dot st).map blanks).any over = true) : st ≠ none ∧ lineEnd t st = if isTriple t = true then some (some t) else none := by
  cases st with
  | none => cases h
  | some r =>
    refine ⟨by simp, ?_⟩
    unfold dot at h
    dsimp only at h
    split at h
    · rename_i h1
      have h2 : over (blanks (r.drop 1)) = true := h
      unfold lineEnd
      dsimp only
      rw [h1, h2]
      simp
    · cases h
/-- So many terms have been read. -/
def Chain (st0 : Option (List UInt8)) (k : Nat) (a p o : Term) (st : Option (List UInt8)) : Prop :=
  (k = 0 ∧ st = st0) ∨ (k = 1 ∧ Ref5.Next false st0 a st ∧ (st ≠ none → FitsX a)) ∨
  (k = 2 ∧ ∃ s1, Ref5.Next false st0 a s1 ∧ Ref5.Next false s1 p st ∧ (st ≠ none → FitsX a ∧ FitsX p)) ∨
  (k = 3 ∧ ∃ s1 s2, Ref5.Next false st0 a s1 ∧ Ref5.Next false s1 p s2 ∧ Ref5.Next false s2 o st ∧ (st ≠ none → FitsX a ∧ FitsX p ∧ FitsX o))
theorem next_none {t : Term} {st st' : Option (List UInt8)} (h : Ref5.Next false st t st') (hn : st' ≠ none) : st ≠ none := by
  intro e
  subst e
  exact hn h
set_option maxRecDepth 100000 in
set_option maxHeartbeats 12800000 in
theorem one_calls (s : List UInt8) (hs : s.length ≤ 1000000) (w : World) (he : Env w) :
    Calls Tryz.prog 87 #[.string (mkS s)] w fun e w' => (e = .returned (oneV (lineOf false s)) ∧ FitsO (lineOf false s)) ∧ Below w.heap.size w w' := by
  have hlow := he.low
  have HB0 := Lib.hid (bel_alloc (Below.refl w.heap.size w) (.cells #[.int .i64 0, .string (mkS []), .string (mkS []), .int .i64 0, .string (mkS []), .string (mkS []), .int .i64 0, .string (mkS []), .string (mkS [])] 36))
  have HT0 := Lib.hid (T9.new w zeroTr)
  have HE0 := Lib.hid (he.below HB0.out)
  clear he
  go_enter Tryz.func87, Tryz.ntmps87
  go_wp2_with fail
  refine (valid_calls s (by omega) _ HE0.out).mono ?_
  rintro e w1 ⟨rfl, hb1⟩
  have HB1 := Lib.hid (bel_step HB0.out hb1)
  have HT1 := Lib.hid (HT0.out.below hb1)
  have HE1 := Lib.hid (HE0.out.below hb1)
  have hz1 : w.heap.size < w1.heap.size := HT1.out.s.lt
  have hrb : lowB ≤ w1.heap.size := by omega
  have hn2 : ¬ w.heap.size = w1.heap.size := by omega
  clear hb1
  obtain ⟨v, hv⟩ : ∃ v, validD s = v := ⟨_, rfl⟩
  have HV := Lib.hid hv
  rw [hv]
  clear hv
  have HB2 := Lib.hid (bel_alloc HB1.out (.cells #[.string (mkS s), .bool (!v)] 180))
  have HT2 := Lib.hid (HT1.out.alloc (.cells #[.string (mkS s), .bool (!v)] 180))
  have HE2 := Lib.hid (HE1.out.below (bel_alloc (Below.refl _ _) (.cells #[.string (mkS s), .bool (!v)] 180)))
  obtain ⟨st0, HSt0, HP0⟩ : ∃ st0 : Option (List UInt8), Hid (st0 = if v = true then some s else none) ∧ Hid (PSt (w1.alloc (.cells #[.string (mkS s), .bool (!v)] 180)) (w1.alloc (.cells #[.string (mkS s), .bool (!v)] 180)) w1.heap.size st0) := by
    have hA := Ref5.At.new w1 s (!v) 180 (by omega)
    cases v with
    | true => exact ⟨some s, Lib.hid rfl, Lib.hid ⟨Step.refl hA, HV.out, hs⟩⟩
    | false => exact ⟨none, Lib.hid rfl, Lib.hid ⟨s, Step.refl hA⟩⟩
  go_wp2_with fail
  refine (blanks_any_calls _ _ st0 _ HP0.out).mono ?_
  rintro e w2 ⟨rfl, hp2, hg2⟩
  have HP2 := Lib.hid hp2
  have HT3 := Lib.hid (HT2.out.grown hg2 hn2)
  have HE3 := Lib.hid (HE2.out.grown hg2 hrb)
  have hz2 : w1.heap.size < w2.heap.size := by have := hg2.size; simp at this; omega
  clear hp2 hg2
  go_wp2_with fail
  refine (over_any_calls _ _ (st0.map blanks) _ HP2.out).mono ?_
  rintro e w3 ⟨rfl, rfl⟩
  cases ho : (st0.map blanks).any over with
  | true =>
    have HO : Hid (lineOf false s = some none) := Lib.hid (by
      have h0 := HSt0.out
      cases v with
      | false => rw [h0] at ho; cases ho
      | true =>
        rw [h0] at ho
        have ho' : over (blanks s) = true := ho
        rw [lineOf, HV.out, ho']
        rfl)
    clear ho
    obtain ⟨⟨p0, p1, p2, p9, p10, p11⟩, ⟨p3, p4, p5, p12, p13, p14⟩, ⟨p6, p7, p8, p15, p16, p17⟩⟩ := HT3.out
    simp only [Nat.zero_add, Nat.reduceAdd] at p1 p2 p4 p5 p7 p8 p10 p11 p13 p14 p16 p17
    dsimp only [zeroTr, zeroT] at *
    go_wp2
    refine bodyPost_ret (v := oneV (some none)) (by simp [results, Tryz.results87, go_sem, p0, p1, p2, p3, p4, p5, p6, p7, p8, oneV, tripleV, zeroTr, zeroT, mkS_nil]) rfl ?_
    rw [HO.out]
    refine ⟨⟨rfl, fun t ht => by cases ht⟩, ?_⟩
    exact (bel_set (bel_set (bel_set (bel_set (bel_set (bel_set (bel_set (bel_set (bel_set (bel_seen HP2.out.grown HB2.out (by omega)) (Nat.le_refl _) _) (Nat.le_refl _) _) (Nat.le_refl _) _) (Nat.le_refl _) _) (Nat.le_refl _) _) (Nat.le_refl _) _) (Nat.le_refl _) _) (Nat.le_refl _) _) (Nat.le_refl _) _)
  | false =>
    have HO := Lib.hid ho
    clear ho
    have hn6 : ¬ w2.heap.size = w1.heap.size := by omega
    have hn7 : ¬ w2.heap.size = w.heap.size := by omega
    have hn8 : ¬ w.heap.size = w2.heap.size := by omega
    have HU0 := Lib.hid (T9.newA w2 zeroTr)
    have HT4 := Lib.hid (HT3.out.alloc (.cells #[.int .i64 0, .string (mkS []), .string (mkS []), .int .i64 0, .string (mkS []), .string (mkS []), .int .i64 0, .string (mkS []), .string (mkS [])] 171))
    have HP3 := Lib.hid (HP2.out.alloc (.cells #[.int .i64 0, .string (mkS []), .string (mkS []), .int .i64 0, .string (mkS []), .string (mkS []), .int .i64 0, .string (mkS []), .string (mkS [])] 171))
    have HE4 := Lib.hid (HE3.out.below (bel_alloc (Below.refl _ _) (.cells #[.int .i64 0, .string (mkS []), .string (mkS []), .int .i64 0, .string (mkS []), .string (mkS []), .int .i64 0, .string (mkS []), .string (mkS [])] 171)))
    go_wp2
    go_loopw [20] (fun vi wr => ∃ (k : Nat) (a p o : Term) (st : Option (List UInt8)), k ≤ 3 ∧ vi = .int .i64 k ∧ Hid (PSt (w1.alloc (.cells #[.string (mkS s), .bool (!v)] 180)) wr w1.heap.size st) ∧ Hid (T9 wr w2.heap.size ⟨a, p, o⟩) ∧ Hid (T9 wr w.heap.size zeroTr) ∧ Hid (Env wr) ∧ Hid (Chain (st0.map blanks) k a p o st)) (fun vi _ => 3 - (intOf vi).toNat)
    case atStart => exact ⟨0, zeroT, zeroT, zeroT, st0.map blanks, by omega, rfl, HP3, HU0, HT4, HE4, Lib.hid (.inl ⟨rfl, rfl⟩)⟩
    case round =>
      obtain ⟨k, ⟨ak, ax, ay⟩, ⟨bk, bx, bY⟩, ⟨ck, cx, cy⟩, st, hk3, rfl, HP, HU, HT, HE, HC⟩ := hrel
      have hzr : w2.heap.size < wr.heap.size := HU.out.s.lt
      have hk : k = 0 ∨ k = 1 ∨ k = 2 ∨ k = 3 := by omega
      clear hk3 HB0 HT0 HE0 HT1 HE1 HT2 HE2 HP0 HP2 HT3 HE3 HU0 HT4 HP3 HE4
      rcases hk with rfl | rfl | rfl | rfl
      · go_wp2_with fail
        refine (term_any_calls (w1.alloc (.cells #[.string (mkS s), .bool (!v)] 180)) _ st _ HE.out hrb HP.out).mono ?_
        rintro e w4 ⟨⟨tk, tx, te⟩, st', ⟨rfl, hf⟩, ⟨hps, hg⟩, hnx⟩
        unfold termV
        have HP1 := Lib.hid hps
        have HU1 := Lib.hid (HU.out.grown hg hn6)
        have HT5 := Lib.hid (HT.out.grown hg hn2)
        have HE5 := Lib.hid (HE.out.grown hg hrb)
        have HN := Lib.hid hnx.next
        have HF := Lib.hid hf
        have hz4 : w2.heap.size < w4.heap.size := HU1.out.s.lt
        clear hps hg hnx hf
        obtain ⟨⟨u0, u1, u2, u9, u10, u11⟩, ⟨u3, u4, u5, u12, u13, u14⟩, ⟨u6, u7, u8, u15, u16, u17⟩⟩ := HU1.out
        simp only [Nat.zero_add, Nat.reduceAdd] at u1 u2 u4 u5 u7 u8 u10 u11 u13 u14 u16 u17
        dsimp only [zeroTr, zeroT] at *
        have HP6 := Lib.hid ((((HP1.out.other (g := w2.heap.size) (j := 0) (by simp; omega) hn6 (.int .i64 tk)).other (g := w2.heap.size) (j := 1) (by simp; omega) hn6 (.string (mkS tx))).other (g := w2.heap.size) (j := 2) (by simp; omega) hn6 (.string (mkS te))))
        have HT6 := Lib.hid ((((HT5.out.other (g' := w2.heap.size) (j := 0) hn8 (.int .i64 tk)).other (g' := w2.heap.size) (j := 1) hn8 (.string (mkS tx))).other (g' := w2.heap.size) (j := 2) hn8 (.string (mkS te))))
        have HU6 := Lib.hid (T9.setS HU1.out ⟨tk, tx, te⟩)
        have HE6 := Lib.hid ((((HE5.out.set (g := w2.heap.size) (j := 0) (by omega) (.int .i64 tk)).set (g := w2.heap.size) (j := 1) (by omega) (.string (mkS tx))).set (g := w2.heap.size) (j := 2) (by omega) (.string (mkS te))))
        go_wp2_with fail
        refine (blanks_any_calls (w1.alloc (.cells #[.string (mkS s), .bool (!v)] 180)) _ st' _ HP6.out).mono ?_
        rintro e w5 ⟨rfl, hps, hg⟩
        have HP7 := Lib.hid hps
        have HU7 := Lib.hid (HU6.out.grown hg hn6)
        have HT7 := Lib.hid (HT6.out.grown hg hn2)
        have HE7 := Lib.hid (HE6.out.grown hg hrb)
        have HC7 : Hid (Chain (st0.map blanks) 1 ⟨tk, tx, te⟩ ⟨bk, bx, bY⟩ ⟨ck, cx, cy⟩ (st'.map blanks)) := Lib.hid (by
          rcases HC.out with ⟨_, hst⟩ | ⟨h, _⟩ | ⟨h, _⟩ | ⟨h, _⟩
          · subst hst; exact .inr (.inl ⟨rfl, HN.out, fun h => HF.out (fun e => h (by rw [e]; rfl))⟩)
          · omega
          · omega
          · omega)
        clear u0 u1 u2 u3 u4 u5 u6 u7 u8 u9 u10 u11 u12 u13 u14 u15 u16 u17
        clear hps hg
        go_wp2
        go_roundw
        case rel => exact ⟨1, ⟨tk, tx, te⟩, ⟨bk, bx, bY⟩, ⟨ck, cx, cy⟩, st'.map blanks, by omega, by go_num, HP7, HU7, HT7, HE7, HC7⟩
        case measure => simp [intOf]
      · go_wp2_with fail
        refine (term_any_calls (w1.alloc (.cells #[.string (mkS s), .bool (!v)] 180)) _ st _ HE.out hrb HP.out).mono ?_
        rintro e w4 ⟨⟨tk, tx, te⟩, st', ⟨rfl, hf⟩, ⟨hps, hg⟩, hnx⟩
        unfold termV
        have HP1 := Lib.hid hps
        have HU1 := Lib.hid (HU.out.grown hg hn6)
        have HT5 := Lib.hid (HT.out.grown hg hn2)
        have HE5 := Lib.hid (HE.out.grown hg hrb)
        have HN := Lib.hid hnx.next
        have HF := Lib.hid hf
        have hz4 : w2.heap.size < w4.heap.size := HU1.out.s.lt
        clear hps hg hnx hf
        obtain ⟨⟨u0, u1, u2, u9, u10, u11⟩, ⟨u3, u4, u5, u12, u13, u14⟩, ⟨u6, u7, u8, u15, u16, u17⟩⟩ := HU1.out
        simp only [Nat.zero_add, Nat.reduceAdd] at u1 u2 u4 u5 u7 u8 u10 u11 u13 u14 u16 u17
        dsimp only [zeroTr, zeroT] at *
        have HP6 := Lib.hid ((((HP1.out.other (g := w2.heap.size) (j := 3) (by simp; omega) hn6 (.int .i64 tk)).other (g := w2.heap.size) (j := 4) (by simp; omega) hn6 (.string (mkS tx))).other (g := w2.heap.size) (j := 5) (by simp; omega) hn6 (.string (mkS te))))
        have HT6 := Lib.hid ((((HT5.out.other (g' := w2.heap.size) (j := 3) hn8 (.int .i64 tk)).other (g' := w2.heap.size) (j := 4) hn8 (.string (mkS tx))).other (g' := w2.heap.size) (j := 5) hn8 (.string (mkS te))))
        have HU6 := Lib.hid (HU1.out.setP ⟨tk, tx, te⟩)
        have HE6 := Lib.hid ((((HE5.out.set (g := w2.heap.size) (j := 3) (by omega) (.int .i64 tk)).set (g := w2.heap.size) (j := 4) (by omega) (.string (mkS tx))).set (g := w2.heap.size) (j := 5) (by omega) (.string (mkS te))))
        go_wp2_with fail
        refine (blanks_any_calls (w1.alloc (.cells #[.string (mkS s), .bool (!v)] 180)) _ st' _ HP6.out).mono ?_
        rintro e w5 ⟨rfl, hps, hg⟩
        have HP7 := Lib.hid hps
        have HU7 := Lib.hid (HU6.out.grown hg hn6)
        have HT7 := Lib.hid (HT6.out.grown hg hn2)
        have HE7 := Lib.hid (HE6.out.grown hg hrb)
        have HC7 : Hid (Chain (st0.map blanks) 2 ⟨ak, ax, ay⟩ ⟨tk, tx, te⟩ ⟨ck, cx, cy⟩ (st'.map blanks)) := Lib.hid (by
          rcases HC.out with ⟨h, _⟩ | ⟨_, n1, f1⟩ | ⟨h, _⟩ | ⟨h, _⟩
          · omega
          · exact .inr (.inr (.inl ⟨rfl, st, n1, HN.out, fun h => ⟨f1 (next_none HN.out h), HF.out (fun e => h (by rw [e]; rfl))⟩⟩))
          · omega
          · omega)
        clear u0 u1 u2 u3 u4 u5 u6 u7 u8 u9 u10 u11 u12 u13 u14 u15 u16 u17
        clear hps hg
        go_wp2
        go_roundw
        case rel => exact ⟨2, ⟨ak, ax, ay⟩, ⟨tk, tx, te⟩, ⟨ck, cx, cy⟩, st'.map blanks, by omega, by go_num, HP7, HU7, HT7, HE7, HC7⟩
        case measure => simp [intOf]
      · go_wp2_with fail
        refine (term_any_calls (w1.alloc (.cells #[.string (mkS s), .bool (!v)] 180)) _ st _ HE.out hrb HP.out).mono ?_
        rintro e w4 ⟨⟨tk, tx, te⟩, st', ⟨rfl, hf⟩, ⟨hps, hg⟩, hnx⟩
        unfold termV
        have HP1 := Lib.hid hps
        have HU1 := Lib.hid (HU.out.grown hg hn6)
        have HT5 := Lib.hid (HT.out.grown hg hn2)
        have HE5 := Lib.hid (HE.out.grown hg hrb)
        have HN := Lib.hid hnx.next
        have HF := Lib.hid hf
        have hz4 : w2.heap.size < w4.heap.size := HU1.out.s.lt
        clear hps hg hnx hf
        obtain ⟨⟨u0, u1, u2, u9, u10, u11⟩, ⟨u3, u4, u5, u12, u13, u14⟩, ⟨u6, u7, u8, u15, u16, u17⟩⟩ := HU1.out
        simp only [Nat.zero_add, Nat.reduceAdd] at u1 u2 u4 u5 u7 u8 u10 u11 u13 u14 u16 u17
        dsimp only [zeroTr, zeroT] at *
        have HP6 := Lib.hid ((((HP1.out.other (g := w2.heap.size) (j := 6) (by simp; omega) hn6 (.int .i64 tk)).other (g := w2.heap.size) (j := 7) (by simp; omega) hn6 (.string (mkS tx))).other (g := w2.heap.size) (j := 8) (by simp; omega) hn6 (.string (mkS te))))
        have HT6 := Lib.hid ((((HT5.out.other (g' := w2.heap.size) (j := 6) hn8 (.int .i64 tk)).other (g' := w2.heap.size) (j := 7) hn8 (.string (mkS tx))).other (g' := w2.heap.size) (j := 8) hn8 (.string (mkS te))))
        have HU6 := Lib.hid (HU1.out.setO ⟨tk, tx, te⟩)
        have HE6 := Lib.hid ((((HE5.out.set (g := w2.heap.size) (j := 6) (by omega) (.int .i64 tk)).set (g := w2.heap.size) (j := 7) (by omega) (.string (mkS tx))).set (g := w2.heap.size) (j := 8) (by omega) (.string (mkS te))))
        go_wp2_with fail
        refine (blanks_any_calls (w1.alloc (.cells #[.string (mkS s), .bool (!v)] 180)) _ st' _ HP6.out).mono ?_
        rintro e w5 ⟨rfl, hps, hg⟩
        have HP7 := Lib.hid hps
        have HU7 := Lib.hid (HU6.out.grown hg hn6)
        have HT7 := Lib.hid (HT6.out.grown hg hn2)
        have HE7 := Lib.hid (HE6.out.grown hg hrb)
        have HC7 : Hid (Chain (st0.map blanks) 3 ⟨ak, ax, ay⟩ ⟨bk, bx, bY⟩ ⟨tk, tx, te⟩ (st'.map blanks)) := Lib.hid (by
          rcases HC.out with ⟨h, _⟩ | ⟨h, _⟩ | ⟨_, s1, n1, n2, f2⟩ | ⟨h, _⟩
          · omega
          · omega
          · exact .inr (.inr (.inr ⟨rfl, s1, st, n1, n2, HN.out, fun h => ⟨(f2 (next_none HN.out h)).1, (f2 (next_none HN.out h)).2, HF.out (fun e => h (by rw [e]; rfl))⟩⟩))
          · omega)
        clear u0 u1 u2 u3 u4 u5 u6 u7 u8 u9 u10 u11 u12 u13 u14 u15 u16 u17
        clear hps hg
        go_wp2
        go_roundw
        case rel => exact ⟨3, ⟨ak, ax, ay⟩, ⟨bk, bx, bY⟩, ⟨tk, tx, te⟩, st'.map blanks, by omega, by go_num, HP7, HU7, HT7, HE7, HC7⟩
        case measure => simp [intOf]
      · obtain ⟨s1, s2, n1, n2, n3, ff⟩ : ∃ s1 s2, Ref5.Next false (st0.map blanks) ⟨ak, ax, ay⟩ s1 ∧ Ref5.Next false s1 ⟨bk, bx, bY⟩ s2 ∧ Ref5.Next false s2 ⟨ck, cx, cy⟩ st ∧ (st ≠ none → FitsX ⟨ak, ax, ay⟩ ∧ FitsX ⟨bk, bx, bY⟩ ∧ FitsX ⟨ck, cx, cy⟩) := by
          rcases HC.out with ⟨h, _⟩ | ⟨h, _⟩ | ⟨h, _⟩ | ⟨_, s1, s2, n1, n2, n3, ff⟩
          · omega
          · omega
          · omega
          · exact ⟨s1, s2, n1, n2, n3, ff⟩
        have HLn : Hid (lineOf false s = lineEnd ⟨⟨ak, ax, ay⟩, ⟨bk, bx, bY⟩, ⟨ck, cx, cy⟩⟩ st) := Lib.hid (by
          have h0 := HSt0.out
          cases v with
          | true =>
            rw [h0] at n1
            have ho' : over (blanks s) = false := by have := HO.out; rw [h0] at this; exact this
            exact one_by false s HV.out ho' n1 n2 n3
          | false =>
            rw [h0] at n1
            have : s1 = none := n1
            subst this
            have : s2 = none := n2
            subst this
            have : st = none := n3
            subst this
            rw [lineOf, if_pos HV.out]
            rfl)
        have HFF := Lib.hid ff
        clear n1 n2 n3 ff HC
        go_wp2_with fail
        refine (dot_any_calls (w1.alloc (.cells #[.string (mkS s), .bool (!v)] 180)) _ st _ HP.out).mono ?_
        rintro e w4 ⟨rfl, hps, hg⟩
        have HP1 := Lib.hid hps
        have HU1 := Lib.hid (HU.out.grown hg hn6)
        have HT5 := Lib.hid (HT.out.grown hg hn2)
        have HE5 := Lib.hid (HE.out.grown hg hrb)
        clear hps hg
        go_wp2_with fail
        refine (blanks_any_calls (w1.alloc (.cells #[.string (mkS s), .bool (!v)] 180)) _ (dot st) _ HP1.out).mono ?_
        rintro e w5 ⟨rfl, hps, hg⟩
        have HP7 := Lib.hid hps
        have HU7 := Lib.hid (HU1.out.grown hg hn6)
        have HT7 := Lib.hid (HT5.out.grown hg hn2)
        have HE7 := Lib.hid (HE5.out.grown hg hrb)
        have hz5 : w2.heap.size < w5.heap.size := HU7.out.s.lt
        clear hps hg
        obtain ⟨⟨u0, u1, u2, u9, u10, u11⟩, ⟨u3, u4, u5, u12, u13, u14⟩, ⟨u6, u7, u8, u15, u16, u17⟩⟩ := HU7.out
        simp only [Nat.zero_add, Nat.reduceAdd] at u1 u2 u4 u5 u7 u8 u10 u11 u13 u14 u16 u17
        dsimp only [zeroTr, zeroT] at *
        have HP8 := Lib.hid (HP7.out.alloc (.cells #[.int .i64 ak, .string (mkS ax), .string (mkS ay), .int .i64 bk, .string (mkS bx), .string (mkS bY), .int .i64 ck, .string (mkS cx), .string (mkS cy)] 36))
        have HT8 := Lib.hid (HT7.out.alloc (.cells #[.int .i64 ak, .string (mkS ax), .string (mkS ay), .int .i64 bk, .string (mkS bx), .string (mkS bY), .int .i64 ck, .string (mkS cx), .string (mkS cy)] 36))
        have HE8 := Lib.hid (HE7.out.below (bel_alloc (Below.refl _ _) (.cells #[.int .i64 ak, .string (mkS ax), .string (mkS ay), .int .i64 bk, .string (mkS bx), .string (mkS bY), .int .i64 ck, .string (mkS cx), .string (mkS cy)] 36)))
        have HV8 := Lib.hid (T9.new w5 ⟨⟨ak, ax, ay⟩, ⟨bk, bx, bY⟩, ⟨ck, cx, cy⟩⟩)
        have hm1 : ¬ w5.heap.size = w.heap.size := by omega
        have hm2 : ¬ w.heap.size = w5.heap.size := by omega
        have hzw5 : w.heap.size < w5.heap.size := by omega
        go_wp2_with fail
        refine (over_any_calls (w1.alloc (.cells #[.string (mkS s), .bool (!v)] 180)) _ ((dot st).map blanks) _ HP8.out).mono ?_
        rintro e w6 ⟨rfl, rfl⟩
        clear u0 u1 u2 u3 u4 u5 u6 u7 u8 u9 u10 u11 u12 u13 u14 u15 u16 u17
        cases hd : ((dot st).map blanks).any over with
        | false =>
          have HN1 := Lib.hid (HLn.out.trans (end_no _ st hd))
          clear hd
          obtain ⟨⟨p0, p1, p2, p9, p10, p11⟩, ⟨p3, p4, p5, p12, p13, p14⟩, ⟨p6, p7, p8, p15, p16, p17⟩⟩ := HT7.out
          simp only [Nat.zero_add, Nat.reduceAdd] at p1 p2 p4 p5 p7 p8 p10 p11 p13 p14 p16 p17
          dsimp only [zeroTr, zeroT] at *
          go_wp2
          refine bodyPost_ret (v := oneV none) (by simp [results, Tryz.results87, go_sem, hm1, hm2, hzw5, p0, p1, p2, p3, p4, p5, p6, p7, p8, oneV, tripleV, zeroTr, zeroT, mkS_nil]) rfl ?_
          rw [HN1.out]
          refine ⟨⟨rfl, fun t ht => by cases ht⟩, ?_⟩
          clear p0 p1 p2 p3 p4 p5 p6 p7 p8 p9 p10 p11 p12 p13 p14 p15 p16 p17
          exact bel_alloc (bel_set (bel_set (bel_set (bel_set (bel_set (bel_set (bel_set (bel_set (bel_set (bel_seen HP7.out.grown HB2.out (by omega)) (Nat.le_refl _) _) (Nat.le_refl _) _) (Nat.le_refl _) _) (Nat.le_refl _) _) (Nat.le_refl _) _) (Nat.le_refl _) _) (Nat.le_refl _) _) (Nat.le_refl _) _) (Nat.le_refl _) _) _
        | true =>
          obtain ⟨hne, hle⟩ := end_yes ⟨⟨ak, ax, ay⟩, ⟨bk, bx, bY⟩, ⟨ck, cx, cy⟩⟩ st hd
          have HN0 := Lib.hid (HLn.out.trans hle)
          have hfx := HFF.out hne
          have hfit : FitsT ⟨⟨ak, ax, ay⟩, ⟨bk, bx, bY⟩, ⟨ck, cx, cy⟩⟩ := ⟨hfx.1.1, hfx.2.1.1, hfx.2.2.1⟩
          have HFt := Lib.hid hfit
          have HIs := Lib.hid (pist_calls ⟨⟨ak, ax, ay⟩, ⟨bk, bx, bY⟩, ⟨ck, cx, cy⟩⟩ hfit ⟨by have := hfx.1.2; dsimp only at this ⊢; omega, by have := hfx.2.1.2; dsimp only at this ⊢; omega, by have := hfx.2.2.2; dsimp only at this ⊢; omega⟩)
          clear hd hne hle hfit hfx
          go_wp2_with fail
          refine (HIs.out _ HE8.out).mono ?_
          rintro e w6 ⟨rfl, hb6⟩
          have HP9 : Hid ((w1.alloc (.cells #[.string (mkS s), .bool (!v)] 180)).grownBy w6 (some w1.heap.size)) := Lib.hid (HP8.out.grown.trans ⟨hb6.os, hb6.tape, hb6.output, hb6.size, fun k hk _ => hb6.block k hk⟩)
          have HT9 := Lib.hid (HT8.out.below hb6)
          have HV9 := Lib.hid (HV8.out.below hb6)
          have hz6 : w5.heap.size < w6.heap.size := HV9.out.s.lt
          clear hb6
          obtain ⟨⟨p0, p1, p2, p9, p10, p11⟩, ⟨p3, p4, p5, p12, p13, p14⟩, ⟨p6, p7, p8, p15, p16, p17⟩⟩ := HT9.out
          simp only [Nat.zero_add, Nat.reduceAdd] at p1 p2 p4 p5 p7 p8 p10 p11 p13 p14 p16 p17
          dsimp only [zeroTr, zeroT] at *
          obtain ⟨⟨u0, u1, u2, u9, u10, u11⟩, ⟨u3, u4, u5, u12, u13, u14⟩, ⟨u6, u7, u8, u15, u16, u17⟩⟩ := HV9.out
          simp only [Nat.zero_add, Nat.reduceAdd] at u1 u2 u4 u5 u7 u8 u10 u11 u13 u14 u16 u17
          dsimp only [zeroTr, zeroT] at *
          cases hi : isTriple ⟨⟨ak, ax, ay⟩, ⟨bk, bx, bY⟩, ⟨ck, cx, cy⟩⟩ with
          | false =>
            have HN1 : Hid (lineOf false s = none) := Lib.hid (HN0.out.trans (if_neg (by rw [hi]; decide)))
            clear hi HN0
            go_wp2
            refine bodyPost_ret (v := oneV none) (by simp [results, Tryz.results87, go_sem, hm1, hm2, p0, p1, p2, p3, p4, p5, p6, p7, p8, oneV, tripleV, zeroTr, zeroT, mkS_nil]) rfl ?_
            rw [HN1.out]
            refine ⟨⟨rfl, fun t ht => by cases ht⟩, ?_⟩
            clear p0 p1 p2 p3 p4 p5 p6 p7 p8 p9 p10 p11 p12 p13 p14 p15 p16 p17
            clear u0 u1 u2 u3 u4 u5 u6 u7 u8 u9 u10 u11 u12 u13 u14 u15 u16 u17
            exact (bel_set (bel_set (bel_set (bel_set (bel_set (bel_set (bel_set (bel_set (bel_set (bel_seen HP9.out HB2.out (by omega)) (Nat.le_refl _) _) (Nat.le_refl _) _) (Nat.le_refl _) _) (Nat.le_refl _) _) (Nat.le_refl _) _) (Nat.le_refl _) _) (Nat.le_refl _) _) (Nat.le_refl _) _) (Nat.le_refl _) _)
          | true =>
            have HN1 : Hid (lineOf false s = some (some ⟨⟨ak, ax, ay⟩, ⟨bk, bx, bY⟩, ⟨ck, cx, cy⟩⟩)) := Lib.hid (HN0.out.trans (if_pos hi))
            clear hi HN0
            go_wp2
            refine bodyPost_ret (v := oneV (some (some ⟨⟨ak, ax, ay⟩, ⟨bk, bx, bY⟩, ⟨ck, cx, cy⟩⟩))) (by simp [results, Tryz.results87, go_sem, hm1, hm2, p0, p1, p2, p3, p4, p5, p6, p7, p8, oneV, tripleV, zeroTr, zeroT, mkS_nil]) rfl ?_
            rw [HN1.out]
            refine ⟨⟨rfl, fun t ht => by cases ht; exact HFt.out⟩, ?_⟩
            clear p0 p1 p2 p3 p4 p5 p6 p7 p8 p9 p10 p11 p12 p13 p14 p15 p16 p17
            clear u0 u1 u2 u3 u4 u5 u6 u7 u8 u9 u10 u11 u12 u13 u14 u15 u16 u17
            exact (bel_set (bel_set (bel_set (bel_set (bel_set (bel_set (bel_set (bel_set (bel_set (bel_seen HP9.out HB2.out (by omega)) (Nat.le_refl _) _) (Nat.le_refl _) _) (Nat.le_refl _) _) (Nat.le_refl _) _) (Nat.le_refl _) _) (Nat.le_refl _) _) (Nat.le_refl _) _) (Nat.le_refl _) _) (Nat.le_refl _) _)
end Go.Proofs.YtnplommdgfgboaaGreatDoor.Prg
set_option linter.unusedVariables false
set_option linter.unusedSimpArgs false
namespace Go.Proofs.YtnplommdgfgboaaGreatDoor.Parse
open Go.RowKit Go.Lib Go.Proofs.YtnplommdgfgboaaGreatDoor.B Go.Proofs.YtnplommdgfgboaaGreatDoor.Rd Go.Proofs.YtnplommdgfgboaaGreatDoor.Utf Go.Proofs.YtnplommdgfgboaaGreatDoor.TermPure Go.Proofs.YtnplommdgfgboaaGreatDoor.LinesPure Go.Proofs.YtnplommdgfgboaaGreatDoor.Tx Go.Proofs.YtnplommdgfgboaaGreatDoor.Env Go.Proofs.YtnplommdgfgboaaGreatDoor.Tri Go.Proofs.YtnplommdgfgboaaGreatDoor.SortP Go.Proofs.YtnplommdgfgboaaGreatDoor.Print Go.Proofs.YtnplommdgfgboaaGreatDoor.Cmp Go.Proofs.YtnplommdgfgboaaGreatDoor.Long Go.Proofs.YtnplommdgfgboaaGreatDoor.SortW Go.Proofs.YtnplommdgfgboaaGreatDoor.ParseP Go.Proofs.YtnplommdgfgboaaGreatDoor.MapT
theorem cut_calls (s : List UInt8) (hs : s.length ≤ 1000000) (w : World) (he : Env w) :
    Calls Tryz.prog 85 #[.string (mkS s), .string (mkS [10])] w fun e w' => e = .returned (.tuple #[.string (mkS (cutL s).1), .string (mkS (cutL s).2.1), .bool (cutL s).2.2]) ∧ Below w.heap.size w w' := by
  obtain ⟨m, hm⟩ := he.len
  refine (Tryz.strings_Cut (mkS s) (mkS [10]) m w (by rw [mkS_size]; omega) hm).mono ?_
  rintro e w' ⟨rfl, n, rfl⟩
  rw [mkS_data, mkS_data, cutL_eq]
  exact ⟨rfl, bel_drewN (Below.refl _ _) _⟩
theorem trimCr_calls (s : List UInt8) (hs : s.length ≤ 1000000) (w : World) :
    Calls Tryz.prog 86 #[.string (mkS s), .string (mkS [13])] w fun e w' => e = .returned (.string (mkS (Lib.trimSuffix s [13]))) ∧ w = w' :=
  (Tryz.strings_TrimSuffix (mkS s) (mkS [13]) w (by rw [mkS_size]; omega)).mono fun e w' ⟨h1, h2⟩ => ⟨h1, h2.symm⟩
def FF : Nat → Prop := fun _ => False
/-- What a text's Parse answers. -/
def Parsed (w : World) (r : Res) (e : Ending) (w' : World) : Prop :=
  ∃ A c, e = .returned (.tuple #[.slice A r.1.length c, .int .i64 r.2.1, .int .i64 r.2.2]) ∧ triK.sl.M w' (fun k => w.heap.size ≤ k ∧ k < w'.heap.size) r.1 [.slice A r.1.length c] ∧ Below w.heap.size w w'
theorem Parsed.err {w w' : World} (n : Nat) (x : Int) (hb : Below w.heap.size w w') : Parsed w ([], n, x) (.returned (.tuple #[.slice none 0 0, .int .i64 n, .int .i64 x])) w' :=
  ⟨none, 0, rfl, ⟨none, 0, rfl, Nat.le_refl _, ⟨Nat.zero_le _, Nat.zero_le _⟩, fun _ => rfl, Kd.row_nil _ _ _ _⟩, hb⟩
structure St (w wr : World) (v : Value) (T : List Triple) : Prop where
  map : MapT.MapAt wr w.heap.size T
  row : triK.own 36 wr (w.heap.size + 1) FF v T
  valid : Valid T
  bel : Below w.heap.size w wr
theorem St.below {w wr w1 : World} {v : Value} {T : List Triple} (h : St w wr v T) (hb : Below wr.heap.size wr w1) : St w w1 v T := ⟨h.map.below hb, Kd.own_below h.row hb, h.valid, bel_step h.bel hb⟩
theorem valid_small {t : Triple} (h : isTriple t = true) : SmallT t ∧ FitsW3 t := by
  obtain ⟨h1, h2, h3⟩ := isT_parts h
  have k1 := is_small h1
  have k2 := is_small h2
  have k3 := is_small h3
  unfold SmallT FitsW3 FitsW
  omega
theorem new_row {w wr w1 : World} {v v1 : Value} {T : List Triple} {t : Triple} (h : St w wr v T) (hm : MapT.MapAt w1 w.heap.size (T ++ [t])) (hr : triK.own 36 w1 (w.heap.size + 1) FF v1 (T ++ [t])) (ht : isTriple t = true) (hb : Below w.heap.size w w1) : St w w1 v1 (T ++ [t]) :=
  ⟨hm, hr, fun x hx => (List.mem_append.1 hx).elim (h.valid x) (fun hx => by simp at hx; subst hx; exact ht), hb⟩
set_option maxHeartbeats 6400000 in
set_option maxRecDepth 100000 in
theorem parse_calls (s : List UInt8) (hs : s.length ≤ 140737488355328) (w : World) (he : Env w) :
    Calls Tryz.prog 44 #[.string (mkS s)] w (Parsed w (parse s)) := by
  have z := mkS_size s
  by_cases hl : 20000 < s.length
  · have hP : Hid (parse s = ([], 0, 4)) := Lib.hid (by rw [parse, if_pos hl])
    have hd : decide (20000 < s.length) = true := decide_eq_true hl
    clear he
    go_enter Tryz.func44, Tryz.ntmps44
    go_wp2
    go_step3
    go_wp2
    simp (config := { zetaDelta := true }) only [Exit.inBlock, Exit.noGoto_ret, Exit.then]
    go_ret3
    rw [hP.out]
    exact Parsed.err 0 4 (Below.refl _ _)
  · have hle : s.length ≤ 20000 := by omega
    have hd : decide (20000 < s.length) = false := decide_eq_false hl
    have HP : Hid (pg s [] 0 = parse s) := Lib.hid (by rw [parse, if_neg hl])
    have hmm := @run_makeMap Tryz.prog
    have HE := Lib.hid he
    have HM0 := Lib.hid (MapT.MapAt.new w)
    clear he hl
    go_enter Tryz.func44, Tryz.ntmps44
    go_wp2
    go_step3
    go_wp2
    go_step3
    go_wp2
    go_loopg [0, 6, 7] (s.length) (fun k v0 v6 v7 wr => ∃ (r : List UInt8) (T : List Triple) (n : Nat) (u : Value), u = v6 ∧ Hid (r.length = k) ∧ v0 = .string (mkS r) ∧ v7 = .int .i64 n ∧ n ≤ 200 ∧ r.length ≤ 20000 ∧ T.length ≤ 100 ∧ Hid (St w wr u T) ∧ Hid (pg r T n = parse s))
    case atStart => exact ⟨s, [], 0, _, rfl, Lib.hid rfl, rfl, rfl, by omega, hle, by simp, Lib.hid ⟨HM0.out, Kd.own_nil _ _ _ _ _, fun _ h => (by cases h), bel_alloc (Below.refl _ _) _⟩, HP⟩
    case round =>
      obtain ⟨r, T, n, u, rfl, HK, rfl, rfl, hn, hr, hT, HS, HG⟩ := hrel
      clear HM0 HP z hd hle hs
      have z := mkS_size r
      have zl := mkS_toList r
      by_cases hr0 : r = []
      · have HR : Hid (parse s = (sortT T, n, 0)) := Lib.hid (by rw [← HG.out, hr0, pg_nil])
        subst hr0
        obtain ⟨A, c, rfl, _, _⟩ := Kd.own_slice HS.out.row
        have HSort := Lib.hid (sort_calls T A c wr (Kd.M_bound (Kd.own_sl (ok' := TT) HS.out.row (fun _ _ => trivial) (fun _ _ => trivial))) (fun t ht => (valid_small (HS.out.valid t ht)).1) HS.out.valid (by omega))
        go_wp2_with fail
        refine HSort.out.mono ?_
        rintro e w' ⟨A2, c2, rfl, hM, hb⟩
        have HF : Hid (triK.sl.M w' (fun k => w.heap.size ≤ k ∧ k < w'.heap.size) (sortT T) [.slice A2 (sortT T).length c2] ∧ Below w.heap.size w w') := Lib.hid ⟨triK.sl.mono (fun k hk _ => ⟨Nat.le_trans HS.out.bel.size hk.1, hk.2⟩) hM, bel_step HS.out.bel hb⟩
        clear hM hb HSort
        go_wp2
        go_ret3
        rw [HR.out]
        exact ⟨A2, c2, rfl, HF.out.1, HF.out.2⟩
      · have hE : r.isEmpty = false := by
          cases r with
          | nil => exact absurd rfl hr0
          | cons b l => rfl
        have HE1 := Lib.hid (HE.out.below HS.out.bel)
        have HCut := Lib.hid (cut_calls r (by omega) wr HE1.out)
        obtain ⟨b, hb⟩ : ∃ b, b = (cutL r).2.2 := ⟨_, rfl⟩
        obtain ⟨x, hx⟩ : ∃ x, x = (cutL r).1 := ⟨_, rfl⟩
        obtain ⟨q, hq⟩ : ∃ q, q = restS r := ⟨_, rfl⟩
        obtain ⟨y, hy⟩ : ∃ y, y = lineS r := ⟨_, rfl⟩
        have hxl : x.length ≤ 20000 := by have := cutL_len r; rw [hx]; omega
        have hyl : y.length ≤ 20000 := by have := lineS_len r; rw [hy]; omega
        have hql : q.length < r.length := by rw [hq]; exact cutL_rest r hr0
        have HY : Hid (y = if b = true then Lib.trimSuffix x [13] else x) := Lib.hid (by rw [hy, hb, hx]; rfl)
        rw [← hb, ← hx, show (cutL r).2.1 = q from hq.symm] at HCut
        have HTrim := Lib.hid (fun w => trimCr_calls x (by omega) w)
        have HFull : Hid (200 < n + 1 → parse s = ([], n + 1, 3)) := Lib.hid (fun h => by rw [← HG.out, pg_full r T n hr0 h])
        have HBad : Hid (¬ 200 < n + 1 → lineOf false y = none → parse s = ([], n + 1, 2)) := Lib.hid (fun h h1 => by rw [← HG.out, pg_bad r T n hr0 h (by rw [← hy]; exact h1)])
        have HNone : Hid (¬ 200 < n + 1 → lineOf false y = some none → pg q T (n + 1) = parse s) := Lib.hid (fun h h1 => by rw [← HG.out, pg_none r T n hr0 h (by rw [← hy]; exact h1), hq])
        have HOld : Hid (∀ t, ¬ 200 < n + 1 → lineOf false y = some (some t) → t ∈ T → pg q T (n + 1) = parse s) := Lib.hid (fun t h h1 h2 => by rw [← HG.out, pg_old r T n t hr0 h (by rw [← hy]; exact h1) h2, hq])
        have HMany : Hid (∀ t, ¬ 200 < n + 1 → lineOf false y = some (some t) → t ∉ T → 100 < T.length + 1 → parse s = ([], n + 1, 3)) := Lib.hid (fun t h h1 h2 h3 => by rw [← HG.out, pg_many r T n t hr0 h (by rw [← hy]; exact h1) h2 h3])
        have HNew : Hid (∀ t, ¬ 200 < n + 1 → lineOf false y = some (some t) → t ∉ T → ¬ 100 < T.length + 1 → pg q (T ++ [t]) (n + 1) = parse s) := Lib.hid (fun t h h1 h2 h3 => by rw [← HG.out, pg_new r T n t hr0 h (by rw [← hy]; exact h1) h2 h3, hq])
        have HOne := Lib.hid (fun w he => Prg.one_calls y (by omega) w he)
        have HQ : Hid (q.length < gk ∧ q.length ≤ 20000) := Lib.hid (by rw [← HK.out]; omega)
        clear hb hx hq hy HG HK HE1
        go_wp2_with fail
        refine HCut.out.mono ?_
        rintro e w1 ⟨rfl, hb1⟩
        have HS1 := Lib.hid (HS.out.below hb1)
        clear hb1 HCut HS hql z zl hr hr0 hE
        go_upto_if 27 with fail
        go_cut [8] (fun v8 wx => v8 = .string (mkS y) ∧ Hid (St w wx u T))
        case first =>
          cases b
          · have HY2 : Hid (mkS y = mkS x) := Lib.hid (by rw [HY.out]; rfl)
            go_wp2_with fail
            go_meet
            exact ⟨by rw [HY2.out], HS1⟩
          · have HY2 : Hid (mkS y = mkS (Lib.trimSuffix x [13])) := Lib.hid (by rw [HY.out]; rfl)
            generalize hts : mkS (Lib.trimSuffix x [13]) = tx at *
            go_wp2_with fail
            refine (HTrim.out _).mono ?_
            rintro e w2 ⟨rfl, rfl⟩
            clear hts HTrim
            go_wp2_with fail
            go_meet
            exact ⟨by rw [HY2.out], HS1⟩
        case rest =>
          obtain ⟨rfl, HS2⟩ := hcut
          clear HTrim HY HS1 hxl
          by_cases hf : 200 < n + 1
          · have hd : decide ((200 : Int) < (n : Int) + 1) = true := decide_eq_true (by omega)
            have HR := Lib.hid (HFull.out hf)
            go_wp2
            go_ret3
            rw [HR.out]
            exact Parsed.err (n + 1) 3 HS2.out.bel
          · have hd : decide ((200 : Int) < (n : Int) + 1) = false := decide_eq_false (by omega)
            have HO := Lib.hid (HOne.out _ (HE.out.below HS2.out.bel))
            clear HOne
            rcases h : lineOf false y with _ | _ | t
            · have HR := Lib.hid (HBad.out hf h)
              rw [h] at HO
              clear HBad HNone HOld HMany HNew HFull h
              unfold Ref5.oneV at HO
              dsimp only at HO
              go_wp2_with fail
              refine HO.out.mono ?_
              rintro e w3 ⟨⟨rfl, _⟩, hb3⟩
              have HS3 := Lib.hid (HS2.out.below hb3)
              clear hb3 HO
              unfold Ref5.tripleV Ref5.zeroTr Tc.zeroT
              dsimp only
              go_wp2
              go_ret3
              rw [HR.out]
              exact Parsed.err (n + 1) 2 (bel_alloc HS3.out.bel _)
            · have HR := Lib.hid (HNone.out hf h)
              rw [h] at HO
              clear HBad HNone HOld HMany HNew HFull h
              unfold Ref5.oneV at HO
              dsimp only at HO
              go_wp2_with fail
              refine HO.out.mono ?_
              rintro e w3 ⟨⟨rfl, _⟩, hb3⟩
              have HS3 := Lib.hid (HS2.out.below hb3)
              clear hb3 HO
              unfold Ref5.tripleV Ref5.zeroTr Tc.zeroT
              dsimp only
              go_wp2
              go_roundg q.length
              case measure => exact HQ.out.1
              case rel => exact ⟨q, T, n + 1, _, rfl, Lib.hid rfl, rfl, by go_num, by omega, HQ.out.2, hT, Lib.hid (HS3.out.below (bel_alloc (Below.refl _ _) _)), HR⟩
            · have HIs := Lib.hid (lineOf_is h)
              rw [h] at HO
              obtain ⟨hst, hft⟩ := valid_small HIs.out
              have HR1 : Hid (t ∈ T → pg q T (n + 1) = parse s) := Lib.hid (fun ht => HOld.out t hf h ht)
              have HR2 : Hid (t ∉ T → 100 < T.length + 1 → parse s = ([], n + 1, 3)) := Lib.hid (fun ht => HMany.out t hf h ht)
              have HR3 : Hid (t ∉ T → ¬ 100 < T.length + 1 → pg q (T ++ [t]) (n + 1) = parse s) := Lib.hid (fun ht => HNew.out t hf h ht)
              clear HBad HNone HOld HMany HNew HFull h hst
              unfold Ref5.oneV at HO
              dsimp only at HO
              go_wp2_with fail
              refine HO.out.mono ?_
              rintro e w3 ⟨⟨rfl, _⟩, hb3⟩
              have hlt3 : w.heap.size < w3.heap.size := (HS2.out.below hb3).map.lt
              have HS3 := Lib.hid ((HS2.out.below hb3).below (bel_alloc (Below.refl _ _) (.cells (triL t).toArray 36)))
              have HC3 := Lib.hid (C9.new w3 t)
              clear hb3 HO HS2
              by_cases ht : t ∈ T
              · have hlook := run_look HS3.out.map t
                rw [decide_eq_true ht] at hlook
                have HR := Lib.hid (HR1.out ht)
                clear HR1 HR2 HR3 ht
                unfold Ref5.tripleV triL at hlook
                unfold Ref5.tripleV
                go_wp2
                go_roundg q.length
                case measure => exact HQ.out.1
                case rel => exact ⟨q, T, n + 1, _, rfl, Lib.hid rfl, rfl, by go_num, by omega, HQ.out.2, hT, HS3, HR⟩
              · have hlook := run_look HS3.out.map t
                rw [decide_eq_false ht] at hlook
                obtain ⟨w4, hput, hm4, hg4⟩ := run_put HS3.out.map t ht
                have HM4 := Lib.hid hm4
                have hrow4 := Kd.own_grown HS3.out.row hg4 (fun k hk => hk.elim) (fun k hk => by have := Kd.own_lt HS3.out.row k hk; intro e; have e2 : k = w.heap.size := (by simpa using e); omega)
                have HRow4 := Lib.hid hrow4
                have hne : w3.heap.size ≠ w.heap.size := by omega
                have hbase : w.heap.size + 1 ≤ w4.heap.size := by have := hg4.size; simp at this; omega
                have hc4 : C9 w4 w3.heap.size 0 t := HC3.out.moved (hg4.block _ (HC3.out.lt) (by simpa using hne))
                obtain ⟨c0, c1, c2, c3, c4, c5, c6, c7, c8⟩ := hc4
                simp only [Nat.zero_add] at c0 c1 c2 c3 c4 c5 c6 c7 c8
                have HB4 : Hid (Below w.heap.size w w4) := Lib.hid (Below.grown HS3.out.bel hg4 HS3.out.bel.size (fun j hj => by cases hj; exact Nat.le_refl _))
                unfold Ref5.tripleV triL at hlook hput
                unfold Ref5.tripleV
                clear hm4 hrow4 hlt3 hne
                obtain ⟨T1, hT1⟩ : ∃ T1, T1 = T ++ [t] := ⟨_, rfl⟩
                have HT1 := Lib.hid hT1
                have HL1 : Hid (T1.length = T.length + 1) := Lib.hid (by rw [hT1]; simp)
                clear hT1
                by_cases h100 : 100 < T.length + 1
                · have HR := Lib.hid (HR2.out ht h100)
                  have hgt : 100 < T1.length := by rw [HL1.out]; exact h100
                  have hd : decide ((100 : Int) < (T1.length : Int)) = true := decide_eq_true (by omega)
                  have hT2 : T1.length ≤ 101 := by rw [HL1.out]; omega
                  clear HR1 HR2 HR3 ht h100
                  go_wp2_with (at_builtin; go_loud (refine Kd.own_app1 triK (w0 := w4) (w.heap.size + 1) (by rfl) (.tmp 53) (.tmp 55) 22 36 zeroV 120 (by rfl) Tryz.underlying22 info_tri rfl (by decide) u T t (triL t) FF (by rfl) (by rfl) HRow4.out ⟨rfl, hft⟩ (Below.refl _ _) hbase ?hl ?_); go_loud (case hl => omega); go_loud (intro v1 w5 ho5 hb5 hg5 hv5; rw [← HT1.out] at ho5; have HB6 : Hid (Below w.heap.size w w5) := Lib.hid (Below.grown HB4.out hg5 HB4.out.size (fun j hj => by have := (Kd.own_lt HRow4.out j hj).1; omega)); have HO5 := Lib.hid ho5; have HB5 := Lib.hid hb5; obtain ⟨A1, cap1, rfl, _, _⟩ := Kd.own_slice ho5; clear ho5 hb5 hg5 hv5))
                  go_wp2
                  go_ret3
                  rw [HR.out]
                  exact Parsed.err (n + 1) 3 HB6.out
                · have HR := Lib.hid (HR3.out ht h100)
                  have hT2 : T1.length ≤ 100 := by rw [HL1.out]; omega
                  have hd : decide (100 < T1.length) = false := decide_eq_false (by omega)
                  clear HR1 HR2 HR3 ht h100
                  go_wp2_with (at_builtin; go_loud (refine Kd.own_app1 triK (w0 := w4) (w.heap.size + 1) (by rfl) (.tmp 53) (.tmp 55) 22 36 zeroV 120 (by rfl) Tryz.underlying22 info_tri rfl (by decide) u T t (triL t) FF (by rfl) (by rfl) HRow4.out ⟨rfl, hft⟩ (Below.refl _ _) hbase ?hl ?_); go_loud (case hl => omega); go_loud (intro v1 w5 ho5 hb5 hg5 hv5; rw [← HT1.out] at ho5; have HB6 : Hid (Below w.heap.size w w5) := Lib.hid (Below.grown HB4.out hg5 HB4.out.size (fun j hj => by have := (Kd.own_lt HRow4.out j hj).1; omega)); have HO5 := Lib.hid ho5; have HB5 := Lib.hid hb5; obtain ⟨A1, cap1, rfl, _, _⟩ := Kd.own_slice ho5; clear ho5 hb5 hg5 hv5))
                  go_wp2
                  have HS5 : Hid (St w w5 (.slice A1 T1.length cap1) T1) := Lib.hid (by
                    have hb := HB6.out
                    have hm : MapT.MapAt w5 w.heap.size (T ++ [t]) := HM4.out.moved (HB5.out.block _ (Nat.lt_succ_self _))
                    have hr := HO5.out
                    rw [HT1.out] at hr ⊢
                    exact new_row HS3.out hm hr HIs.out hb)
                  go_roundg q.length
                  case measure => exact HQ.out.1
                  case rel => exact ⟨q, T1, n + 1, _, rfl, Lib.hid rfl, rfl, by go_num, by omega, HQ.out.2, hT2, HS5, by rw [HT1.out]; exact HR⟩
end Go.Proofs.YtnplommdgfgboaaGreatDoor.Parse
set_option linter.unusedVariables false
set_option linter.unusedSimpArgs false
namespace Go.Proofs.YtnplommdgfgboaaGreatDoor.Made
open Go.RowKit Go.Lib Go.Proofs.YtnplommdgfgboaaGreatDoor.B Go.Proofs.YtnplommdgfgboaaGreatDoor.Rd Go.Proofs.YtnplommdgfgboaaGreatDoor.TermPure Go.Proofs.YtnplommdgfgboaaGreatDoor.LinesPure Go.Proofs.YtnplommdgfgboaaGreatDoor.Tri Go.Proofs.YtnplommdgfgboaaGreatDoor.SortP Go.Proofs.YtnplommdgfgboaaGreatDoor.OrdG Go.Proofs.YtnplommdgfgboaaGreatDoor.TermW Go.Proofs.YtnplommdgfgboaaGreatDoor.Cmp Go.Proofs.YtnplommdgfgboaaGreatDoor.StoreW Go.Proofs.YtnplommdgfgboaaGreatDoor.IdsCmp Go.Proofs.YtnplommdgfgboaaGreatDoor.Clones Go.Proofs.YtnplommdgfgboaaGreatDoor.RingW Go.Proofs.YtnplommdgfgboaaGreatDoor.SortUse Go.Proofs.YtnplommdgfgboaaGreatDoor.Search Go.Proofs.YtnplommdgfgboaaGreatDoor.Long
def FF : Nat → Prop := fun _ => False
/-- A store's block as it is filled. -/
structure MS (w wr : World) (v0 u v2 : Value) : Prop where
  bel : Below w.heap.size w wr
  lt : w.heap.size < wr.heap.size
  c0 : wr.cell? ⟨w.heap.size, 0, none⟩ = some v0
  c1 : wr.cell? ⟨w.heap.size, 1, none⟩ = some u
  c2 : wr.cell? ⟨w.heap.size, 2, none⟩ = some v2
  free : ∀ j, wr.frozen? ⟨w.heap.size, j, none⟩ = false
theorem MS.below {w wr w1 : World} {v0 u v2 : Value} (h : MS w wr v0 u v2) (hb : Below (w.heap.size + 1) wr w1) : MS w w1 v0 u v2 := by
  have hc : ∀ o, w1.cell? ⟨w.heap.size, o, none⟩ = wr.cell? ⟨w.heap.size, o, none⟩ := fun o => hb.cell (p := ⟨w.heap.size, o, none⟩) (Nat.lt_succ_self _)
  exact ⟨h.bel.trans (hb.mono (Nat.le_succ _)), Nat.lt_of_lt_of_le h.lt hb.size, (hc 0).trans h.c0, (hc 1).trans h.c1, (hc 2).trans h.c2, fun j => (hb.frozen (p := ⟨w.heap.size, j, none⟩) (Nat.lt_succ_self _)).trans (h.free j)⟩
theorem MS.set1 {w wr : World} {v0 u v2 : Value} (h : MS w wr v0 u v2) (v : Value) : MS w (wr.setCell ⟨w.heap.size, 1, none⟩ v) v0 v v2 :=
  ⟨bel_set h.bel (Nat.le_refl _) _, by simpa using h.lt, (World.cell?_setCell_other _ _ _ _ (by simp)).trans h.c0, World.cell?_setCell_same _ _ _ h.c1, (World.cell?_setCell_other _ _ _ _ (by simp)).trans h.c2, fun j => by rw [World.frozen?_setCell]; exact h.free j⟩
theorem MS.set2 {w wr : World} {v0 u v2 : Value} (h : MS w wr v0 u v2) (v : Value) : MS w (wr.setCell ⟨w.heap.size, 2, none⟩ v) v0 u v :=
  ⟨bel_set h.bel (Nat.le_refl _) _, by simpa using h.lt, (World.cell?_setCell_other _ _ _ _ (by simp)).trans h.c0, (World.cell?_setCell_other _ _ _ _ (by simp)).trans h.c1, World.cell?_setCell_same _ _ _ h.c2, fun j => by rw [World.frozen?_setCell]; exact h.free j⟩
theorem MS.new (w : World) (v0 v1 v2 : Value) : MS w (w.alloc (.cells #[v0, v1, v2] 93)) v0 v1 v2 := by
  have hc : ∀ {o : Nat} {u : Value}, #[v0, v1, v2][o]? = some u → (w.alloc (.cells #[v0, v1, v2] 93)).cell? ⟨w.heap.size, o, none⟩ = some u := fun {o u} hu => by
    rw [World.cell?, Kd.heap_new]
    exact hu
  refine ⟨bel_alloc (Below.refl _ _) _, by simp, hc rfl, hc rfl, hc rfl, fun j => ?_⟩
  unfold World.frozen?
  dsimp only
  rw [Kd.heap_new]
  rfl
/-- A row of one's own stays as another block is written. -/
theorem own_set_other {α : Type} {d : Kd α} {e : TypeId} {w : World} {base g o : Nat} {v u : Value} {xs : List α} (h : d.own e w base FF v xs) (hg : g < base) : d.own e (w.setCell ⟨g, o, none⟩ u) base FF v xs :=
  Kd.own_move (fun k hk _ => Below.heap_setCell _ _ _ _ (fun e => by
    rcases hk with hk | hk
    · exact hk
    · have h1 := (Kd.own_lt h k hk).1
      have e2 : k = g := e
      omega)) h
/-- Three terms, just laid. -/
theorem three_row (w : World) (t : Triple) (ht : FitsW3 t) : termK.sl.M (w.alloc (.cells (triL t).toArray 24)) (fun _ => True) [t.s, t.p, t.o] [.slice (some ⟨w.heap.size, 0, none⟩) 3 3] := by
  have hc : ∀ {o : Nat} {u : Value}, (triL t)[o]? = some u → (w.alloc (.cells (triL t).toArray 24)).cell? ⟨w.heap.size, o, none⟩ = some u := fun {o u} hu => by
    rw [World.cell?, Kd.heap_new]
    simpa using hu
  refine ⟨some ⟨w.heap.size, 0, none⟩, 3, rfl, Nat.le_refl _, ⟨by simp, by unfold maxLen; omega⟩, fun h => (by cases h), fun i x hx => ?_⟩
  have hi : i < 3 := (List.getElem?_eq_some_iff.1 hx).1
  match i, hi with
  | 0, _ =>
    cases hx
    refine ⟨_, termL t.s, rfl, trivial, ⟨rfl, ht.1⟩, fun j u hu => ?_⟩
    rw [add_plain]
    apply hc
    rw [triL_eq, List.getElem?_append_left (by have := (List.getElem?_eq_some_iff.1 hu).1; simpa [termK, held] using this)]
    simpa using hu
  | 1, _ =>
    cases hx
    refine ⟨_, termL t.p, rfl, trivial, ⟨rfl, ht.2.1⟩, fun j u hu => ?_⟩
    rw [add_plain]
    apply hc
    have hj : j < 3 := (List.getElem?_eq_some_iff.1 hu).1
    match j, hj with
    | 0, _ => exact hu
    | 1, _ => exact hu
    | 2, _ => exact hu
  | 2, _ =>
    cases hx
    refine ⟨_, termL t.o, rfl, trivial, ⟨rfl, ht.2.2⟩, fun j u hu => ?_⟩
    rw [add_plain]
    apply hc
    have hj : j < 3 := (List.getElem?_eq_some_iff.1 hu).1
    match j, hj with
    | 0, _ => exact hu
    | 1, _ => exact hu
    | 2, _ => exact hu
theorem nine {w : World} {g : Nat} {t : Triple} (h : C9 w g 0 t) : w.cell? ⟨g, 0, none⟩ = some (.int .i64 t.s.kind) ∧ w.cell? ⟨g, 1, none⟩ = some (.string (mkS t.s.text)) ∧ w.cell? ⟨g, 2, none⟩ = some (.string (mkS t.s.extra)) ∧ w.cell? ⟨g, 3, none⟩ = some (.int .i64 t.p.kind) ∧ w.cell? ⟨g, 4, none⟩ = some (.string (mkS t.p.text)) ∧ w.cell? ⟨g, 5, none⟩ = some (.string (mkS t.p.extra)) ∧ w.cell? ⟨g, 6, none⟩ = some (.int .i64 t.o.kind) ∧ w.cell? ⟨g, 7, none⟩ = some (.string (mkS t.o.text)) ∧ w.cell? ⟨g, 8, none⟩ = some (.string (mkS t.o.extra)) := by
  obtain ⟨c0, c1, c2, c3, c4, c5, c6, c7, c8⟩ := h
  simp only [Nat.zero_add] at *
  exact ⟨c0, c1, c2, c3, c4, c5, c6, c7, c8⟩
/-- What lies in a block's second cell. -/
def val1 (g : Nat) (w : World) : Value := (w.cell? ⟨g, 1, none⟩).getD undef
theorem val1_some {g : Nat} {w : World} {u : Value} (h : w.cell? ⟨g, 1, none⟩ = some u) : w.cell? ⟨g, 1, none⟩ = some (val1 g w) := by unfold val1; rw [h]; rfl
theorem val1_of {g : Nat} {w : World} {u : Value} (h : w.cell? ⟨g, 1, none⟩ = some u) : val1 g w = u := by unfold val1; rw [h]; rfl
theorem C9.other {w : World} {g g' o : Nat} {t : Triple} {u : Value} (h : C9 w g 0 t) (hne : g ≠ g') : C9 (w.setCell ⟨g', o, none⟩ u) g 0 t := h.moved (Below.heap_setCell _ _ _ _ hne)
theorem inT_snoc (T : List Triple) (i : Nat) (h : i < T.length) : inTriples (T.take i) ++ [T[i].s, T[i].p, T[i].o] = inTriples (T.take (i + 1)) := by
  unfold inTriples
  rw [List.take_succ_eq_append_getElem h, List.flatMap_append]
  simp
theorem inT_len : ∀ T : List Triple, (inTriples T).length = 3 * T.length
  | [] => rfl
  | t :: T => by
    have := inT_len T
    unfold inTriples at *
    simp at *
    omega
theorem compact_none (A : Option Addr) (c : Nat) (w : World) : Calls Tryz.prog 90 #[.slice A 0 c] w fun e w' => e = .returned (.slice A 0 c) ∧ w = w' := by
  go_enter Tryz.func90, Tryz.ntmps90
  go_wp2
  go_ret
  exact ⟨rfl, rfl⟩
theorem compact_own (l : List Term) (hl : l.length ≤ 1000) (hf : ∀ t ∈ l, FitsW t) (u : Value) (base : Nat) (w : World) (hbw : base ≤ w.heap.size) (ho : termK.own 24 w base FF u l) :
    Calls Tryz.prog 90 #[u] w fun e w' => ∃ A c, e = .returned (.slice A (compactE l).length c) ∧ termK.sl.M w' (fun k => base ≤ k) (compactE l) [.slice A (compactE l).length c] ∧ Below base w w' := by
  rcases Nat.eq_zero_or_pos l.length with h0 | hp
  · obtain rfl : l = [] := List.eq_nil_of_length_eq_zero h0
    have hM := own_from Clones.any_term ho
    obtain ⟨A, c, rfl, _, _⟩ := Kd.own_slice ho
    refine (compact_none A c w).mono ?_
    rintro e w' ⟨rfl, rfl⟩
    exact ⟨A, c, rfl, hM, Below.refl _ _⟩
  · obtain ⟨g, cap, rfl, hg, hlt, hc, hcm, hS⟩ := SR.of_own ho hp
    refine (compact_calls l l.length cap rfl hc (by omega) hcm g w w hS).mono ?_
    rintro e w' ⟨rfl, hS2⟩
    have hlen := compE_len l l.length (Nat.le_refl _)
    rw [List.take_length] at hlen
    exact ⟨_, cap, rfl, hS2.own (fun t ht => hf t ((compactE_mem l t).1 ht)) (by omega) (by omega) hcm _ hg, Below.grown (Below.refl _ _) hS2.grown hbw (fun j hj => by cases hj; exact hg)⟩
/-- The store's block with its terms; all of these lie from g on and below B. -/
structure TS (w wr : World) (B : Nat) (v0 v2 : Value) (R : List Term) (A : Option Addr) (c : Nat) : Prop where
  ms : MS w wr v0 (.slice A R.length c) v2
  hB : B ≤ wr.heap.size
  lt : w.heap.size < B
  row : termK.sl.M wr (fun k => w.heap.size < k ∧ k < B) R [.slice A R.length c]
theorem TS.below {w wr w1 : World} {B : Nat} {v0 v2 : Value} {R : List Term} {A : Option Addr} {c : Nat} (h : TS w wr B v0 v2 R A c) (hb : Below B wr w1) : TS w w1 B v0 v2 R A c :=
  ⟨h.ms.below (hb.mono h.lt), Nat.le_trans h.hB hb.size, h.lt, termK.sl.move (fun k hk _ => hb.block k hk.2) h.row⟩
theorem idsT_snoc (T : List Triple) (i : Nat) (h : i < T.length) : (idsT T).take i ++ [idsOf (termsT T) T[i]] = (idsT T).take (i + 1) := by
  have hi : i < (idsT T).length := by unfold idsT; simpa using h
  rw [List.take_succ_eq_append_getElem hi]
  congr 1
  simp only [idsT, List.getElem_map]
theorem terms_len {T : List Triple} (h : Valid T) : (termsT T).length ≤ (inTriples T).length := by
  have key : ∀ (l acc : List Term), (l.foldl (putE fun a b => decide (ltTm a b)) acc).length ≤ acc.length + l.length := by
    intro l
    induction l with
    | nil => intro acc; simp
    | cons t l ih =>
      intro acc
      have hp : ∀ (a : List Term), (putE (fun a b => decide (ltTm a b)) a t).length ≤ a.length + 1 := by
        intro a
        induction a with
        | nil => simp [putE]
        | cons y a iha =>
          rw [putE]
          split
          · simp only [List.length_cons]; omega
          · split <;> simp
      have := ih (putE (fun a b => decide (ltTm a b)) acc t)
      have := hp acc
      simp only [List.foldl_cons, List.length_cons]
      omega
  have := key (inTriples T) []
  unfold termsT
  simpa using this
theorem idOf_le (l : List Term) (t : Term) : idOf l t ≤ l.length := by
  unfold idOf
  split
  · rename_i h
    exact List.idxOf_lt_length_of_mem h
  · omega
theorem good_ids {T : List Triple} (h : Valid T) (hl : T.length ≤ 100) : ∀ x ∈ idsT T, RingW.Good x := by
  intro x hx
  obtain ⟨t, ht, rfl⟩ := List.mem_map.1 hx
  obtain ⟨h1, h2, h3⟩ := mem_three ht
  have hb : ∀ y, y ∈ inTriples T → 1 ≤ idOf (termsT T) y ∧ idOf (termsT T) y ≤ 1000 := fun y hy => by
    have hm := (termsT_mem h y).2 hy
    have := idOf_le (termsT T) y
    have := terms_len h
    have := inT_len T
    refine ⟨?_, by omega⟩
    unfold idOf
    rw [if_pos hm]
    omega
  exact ⟨hb _ h1, hb _ h2, hb _ h3⟩
theorem finish {w w3 : World} {B0 gr : Nat} {T : List Triple} {A A1 : Option Addr} {c c1 : Nat} {ok : Nat → Prop} (h : TS w w3 B0 (.slice A T.length c) (.pointer none) (termsT T) A1 c1) (hr : RingAt w3 (fun k => B0 ≤ k) gr (idsT T)) (hM : triK.sl.M w ok T [.slice A T.length c]) :
    StoreAt (w3.setCell ⟨w.heap.size, 2, none⟩ (.pointer (some ⟨gr, 0, none⟩))) (fun k => ok k ∨ w.heap.size ≤ k) w.heap.size T ∧ Below w.heap.size w (w3.setCell ⟨w.heap.size, 2, none⟩ (.pointer (some ⟨gr, 0, none⟩))) := by
  have hs := h.ms.set2 (.pointer (some ⟨gr, 0, none⟩))
  have hm : ∀ k, w.heap.size < k → k < w3.heap.size → (w3.setCell ⟨w.heap.size, 2, none⟩ (.pointer (some ⟨gr, 0, none⟩))).heap[k]? = w3.heap[k]? := fun k hk _ => Below.heap_setCell _ _ _ _ (fun e => by have e2 : k = w.heap.size := e; omega)
  have hlt := h.lt
  refine ⟨⟨.inr (Nat.le_refl _), ⟨A, c, hs.c0, triK.sl.mono (fun k hk _ => .inl hk) (Kd.M_below hM hs.bel)⟩, ⟨A1, c1, hs.c1, termK.sl.mono (fun k hk _ => .inr (by have := hk.1; omega)) (termK.sl.move (fun k hk hl => hm k hk.1 hl) h.row)⟩, gr, hs.c2, (hr.move (fun k hk hl => hm k (by have : B0 ≤ k := hk; omega) hl)).mono (fun k hk _ => .inr (by have : B0 ≤ k := hk; omega))⟩, hs.bel⟩
end Go.Proofs.YtnplommdgfgboaaGreatDoor.Made
set_option linter.unusedVariables false
set_option linter.unusedSimpArgs false
namespace Go.Proofs.YtnplommdgfgboaaGreatDoor.QT
open Go.RowKit Go.Proofs.YtnplommdgfgboaaGreatDoor.B
section
variable {P : Program} {ops : Array Oper} {md : Region.Mode} {C : World → Prop}
def sinkF (md : Region.Mode) (ops : Array Oper) (k0 n : Nat) : Bool :=
  (List.range n).all fun i => decide (i < k0) || (List.range (n + 1)).any fun j => decide (i < j) && Region.waitsFor md ops j i
theorem tail_waitsF {k0 n : Nat} {listed : Array Bool} (hs : sinkF md ops k0 n = true) (hc : Region.chainB md ops n = true) (hn : n < ops.size) (inv : HeadInv md ops n listed) :
    ∀ (d i : Nat), n - i = d → k0 ≤ i → i < n → listed.getD i true = false → ∀ t, n ≤ t → t ∉ Region.ready md ops listed := by
  intro d
  induction d using Nat.strongRecOn with
  | _ d ih =>
    intro i hd hk0 hi hun t ht hr
    obtain ⟨_, ot, hot, hall⟩ := mem_ready.1 hr
    have htlt : t < ops.size := (Array.getElem?_eq_some_iff.1 hot).1
    by_cases htn : t = n
    · subst htn
      have h1 := List.all_eq_true.1 hs i (List.mem_range.2 hi)
      simp only [Bool.or_eq_true, decide_eq_true_eq] at h1
      rcases h1 with h1 | h1
      · omega
      obtain ⟨j, hj, hj2⟩ := List.any_eq_true.1 h1
      simp only [Bool.and_eq_true, decide_eq_true_eq] at hj2
      obtain ⟨oj, hoj, e, he, hb, hon⟩ := Region.waitsFor_spec hj2.2
      have hjle : j ≤ t := by have := List.mem_range.1 hj; omega
      by_cases hjt : j = t
      · subst hjt
        have : oj = ot := Option.some.inj (hoj.symm.trans hot)
        subst this
        have h2 := hall e he hb
        rw [hon, getD_both hun] at h2
        cases h2
      · cases hl : listed.getD j false with
        | true =>
          have h2 := inv.closed j oj hoj hl e he hb
          rw [hon, getD_both hun] at h2
          cases h2
        | false =>
          have hjs : j < listed.size := by rw [inv.size]; omega
          exact ih (t - j) (by omega) j rfl (by omega) (by omega) (getD_in hjs hl) t (Nat.le_refl _) hr
    · have h1 := List.all_eq_true.1 hc t (List.mem_range.2 htlt)
      simp only [Bool.or_eq_true, decide_eq_true_eq] at h1
      rcases h1 with h1 | h1
      · omega
      · obtain ⟨o', ho', e, he, hb, hon⟩ := Region.waitsFor_spec h1
        have : o' = ot := Option.some.inj (ho'.symm.trans hot)
        subst this
        have h2 := hall e he hb
        rw [hon, getD_both (inv.tail (t - 1) (by omega) (by omega))] at h2
        cases h2
theorem headF_first {n i : Nat} {oi : Oper} {v : Value} {L : Array Bool → Act → Prop} (hi : ops[i]? = some oi) (hsel : ∀ (j : Nat) (o : Oper) cs b, ops[j]? = some o → o.op ≠ .select cs b)
    {k0 : Nat} (hs : sinkF md ops k0 n = true) (hc : Region.chainB md ops n = true) (hn : n < ops.size) (hk0 : k0 ≤ i) (hin : i < n) (hdone : ∀ listed a, L listed a → ∀ j ∈ Region.ready md ops listed, n ≤ j) :
    ∀ (f : Nat) (listed : Array Bool) (a : Act), HeadInv md ops n listed →
      (∀ j oj, ops[j]? = some oj → j ≠ i → listed.getD j true = false → (∀ e ∈ oj.after, Region.binds md e = true → e.on ≠ i) → oi.apart ops oj = true) →
      i ∈ Region.ready md ops listed → YieldsIn P ops C oi v a → headQ P md ops C n L f (listed.setIfInBounds i true) (a.put oi.dst v) → headQ P md ops C n L (f + 1) listed a := by
  intro f
  induction f with
  | zero =>
    intro listed a inv _ hr hy H
    refine ⟨fun h => (by rw [h] at hr; cases hr), fun j hj => ?_⟩
    have hjn : j < n := Nat.lt_of_not_le fun h => tail_waitsF hs hc hn inv _ i rfl hk0 hin (mem_ready.1 hr).1 j h hj
    refine ⟨hjn, ?_⟩
    by_cases hji : j = i
    · rw [hji]; exact hy.qOp hi H
    · exact absurd (hdone _ _ H j (ready_mono hj hji)) (by omega)
  | succ f ih =>
    intro listed a inv hfree hr hy H
    have hun := (mem_ready.1 hr).1
    refine ⟨fun h => (by rw [h] at hr; cases hr), fun j hj => ?_⟩
    have hjn : j < n := Nat.lt_of_not_le fun h => tail_waitsF hs hc hn inv _ i rfl hk0 hin hun j h hj
    refine ⟨hjn, ?_⟩
    by_cases hji : j = i
    · rw [hji]; exact hy.qOp hi H
    · obtain ⟨hjun, oj, hoj, hall⟩ := mem_ready.1 hj
      have hnot : ∀ e ∈ oj.after, Region.binds md e = true → e.on ≠ i := fun e he hb heq => by
        have h1 := hall e he hb
        rw [heq, getD_both hun] at h1
        cases h1
      have h2 := qOp_put hoj (hfree j oj hoj hji hjun hnot) (fun cs b => hsel i oi cs b hi) (fun cs b => hsel j oj cs b hoj) hy (H.2 j (ready_mono hj hji)).2
      refine qOp_mono (fun a' h3 => ih (listed.setIfInBounds j true) a' (inv.set hj hjn) (fun k ok hk hki hun' hno => ?_) (ready_mono hr (Ne.symm hji)) h3.1 ?_) h2
      · refine hfree k ok hk hki ?_ hno
        by_cases hjk : j = k
        · rw [← hjk]; exact hjun
        · rwa [getD_set_ne true hjk] at hun'
      · rw [Array.setIfInBounds_comm _ _ hji]
        exact h3.2
theorem headF_lex {n g : Nat} {Lq : Act → Prop} (hsel : Region.noSelect ops = true) {k0 : Nat} (hs : sinkF md ops k0 n = true) (hc : Region.chainB md ops n = true) (hn : n < ops.size) :
    ∀ (l : List Oper) (k : Nat) (listed : Array Bool) (a : Act), k0 ≤ k → (∀ j, j < l.length → l[j]? = ops[k + j]?) → k + l.length = n → HeadInv md ops n listed → Region.lexHead md ops g l.length k listed = true →
      wpQuiet P ops C Lq l a → headQ P md ops C n (fun listed' a' => Region.seqB md ops g n listed' = true ∧ Lq a') l.length listed a
  | [], k, listed, a, _, _, hk, _, hB, h => by
    obtain rfl : k = n := by simpa using hk
    exact ⟨by simpa [Region.lexHead] using hB, h⟩
  | o :: l, k, listed, a, hkk, hl, hk, inv, hB, h => by
    have h0 : ops[k]? = some o := by simpa using (hl 0 (by simp)).symm
    simp only [List.length_cons] at hk
    simp only [List.length_cons, Region.lexHead, Bool.and_eq_true] at hB
    have hr : k ∈ Region.ready md ops listed := by simpa using hB.1.1
    have hq : qOp P ops C k (wpQuiet P ops C Lq l) a := by
      unfold qOp
      simp only [h0]
      exact h
    obtain ⟨v, hy, hK⟩ := yieldsIn_of_qOp h0 hq
    refine headF_first h0 (Region.noSelect_spec hsel) hs hc hn hkk (by omega) (fun _ _ hL => seqB_ready hL.1) l.length listed a inv (Region.free_spec h0 hB.1.2) hr hy ?_
    exact headF_lex hsel hs hc hn l (k + 1) _ _ (by omega) (fun j hj => by
      have := hl (j + 1) (by simp; omega)
      simpa [Nat.add_assoc, Nat.add_comm 1 j] using this) (by omega) (inv.set hr (by omega)) hB.2 hK
def lexTailF (md : Region.Mode) (ops : Array Oper) (n : Nat) : Bool :=
  Region.noSelect ops && decide (n < ops.size) && decide (0 < n) && sinkF md ops 1 n && Region.chainB md ops n && Region.free md ops (Array.replicate ops.size false) 0 &&
    (Region.ready md ops (Array.replicate ops.size false)).contains 0 && Region.lexHead md ops (ops.size - n) (n - 1) 1 ((Array.replicate ops.size false).setIfInBounds 0 true)
/-- The move first, the rest of the head quietly; the tail in order. -/
theorem region_move {id : Nat} {Q : Exit → Act → World → Prop} {a : Act} {w : World} {l : List Oper} (n : Nat) (o0 : Oper) (x : Operand) (hm : P.follows .mixedOrders = true) (h0 : l[0]? = some o0) (hop : o0.op = .move x) (hgd : o0.guard = none)
    (hB : lexTailF .any l.toArray n = true) (hQ : ∀ c (a' : Act) w', Q (.panic c) (a'.put o0.dst (a.eval x)) w' → Q (.panic c) a' w')
    (h : wpQuiet P l.toArray (fun w' => ∃ p : Bel w, w' = p.w) (fun a' => ∀ w', (∃ p : Bel w, w' = p.w) → wpList P l.toArray Q (l.drop n) a' w') ((l.take n).drop 1) (a.put o0.dst (a.eval x))) : (Code.region id l.toArray true).wp P Q a w := by
  simp only [lexTailF, Bool.and_eq_true, decide_eq_true_eq] at hB
  obtain ⟨⟨⟨⟨⟨⟨⟨hsel, hn⟩, hn0⟩, hs⟩, hc⟩, hf⟩, hr⟩, hlex⟩ := hB
  have hn' : n < l.length := by simpa using hn
  have htl : ((l.take n).drop 1).length = n - 1 := by simp; omega
  have hdl : (l.drop n).length = l.toArray.size - n := by simp
  have hr' : 0 ∈ Region.ready .any l.toArray (Array.replicate l.toArray.size false) := by simpa using hr
  have inv0 : HeadInv .any l.toArray n (Array.replicate l.toArray.size false) :=
    ⟨by simp, fun j oj _ hl => (by rw [getD_replicate_false] at hl; cases hl), fun t _ ht => getD_in (by simpa using ht) (getD_replicate_false _ _)⟩
  have H := headF_lex (P := P) (C := fun w' => ∃ p : Bel w, w' = p.w) (md := .any) (g := l.toArray.size - n) hsel hs hc hn ((l.take n).drop 1) 1 _ (a.put o0.dst (a.eval x)) (Nat.le_refl _) (fun j hj => by
    rw [htl] at hj
    have h1 : 1 + j < n := by omega
    rw [List.getElem?_drop, List.getElem?_take, if_pos h1, List.getElem?_toArray]) (by rw [htl]; omega) (inv0.set hr' hn0) (by rw [htl]; exact hlex) h
  rw [htl] at H
  refine wp_region_any hm ?_
  have key := any_of_headQ (Q' := Q) (g := l.toArray.size - n) (fun listed a' w' hC' hL => by
    have := wpAny_of_seq (md := .any) (Q' := Q) (l.drop n) n listed a' w' (fun j => by simp [List.getElem?_drop]) (by rw [hdl]; exact hL.1) (hL.2 w' hC')
    rwa [hdl] at this) (n - 1) _ _ { w with drawn := w.drawn + 1 } (⟨⟨_, (Below.refl _ w).drew⟩, rfl⟩) H
  have hy : Yields P l.toArray o0 (a.eval x) a := .inl ⟨by simp [Region.wanted, hgd], fun w => by simp [execOp, hop]⟩
  have := wpAny_take (Q := Q) (by simpa using h0) hsel hf hr hQ hy key
  rwa [show n - 1 + (l.toArray.size - n) + 1 = l.toArray.size by omega] at this
end
end Go.Proofs.YtnplommdgfgboaaGreatDoor.QT
set_option linter.unusedVariables false
set_option linter.unusedSimpArgs false
namespace Go.Proofs.YtnplommdgfgboaaGreatDoor.Made
open Go.RowKit Go.Lib Go.Proofs.YtnplommdgfgboaaGreatDoor.B Go.Proofs.YtnplommdgfgboaaGreatDoor.Rd Go.Proofs.YtnplommdgfgboaaGreatDoor.TermPure Go.Proofs.YtnplommdgfgboaaGreatDoor.LinesPure Go.Proofs.YtnplommdgfgboaaGreatDoor.Tri Go.Proofs.YtnplommdgfgboaaGreatDoor.SortP Go.Proofs.YtnplommdgfgboaaGreatDoor.OrdG Go.Proofs.YtnplommdgfgboaaGreatDoor.TermW Go.Proofs.YtnplommdgfgboaaGreatDoor.Cmp Go.Proofs.YtnplommdgfgboaaGreatDoor.StoreW Go.Proofs.YtnplommdgfgboaaGreatDoor.IdsCmp Go.Proofs.YtnplommdgfgboaaGreatDoor.Clones Go.Proofs.YtnplommdgfgboaaGreatDoor.RingW Go.Proofs.YtnplommdgfgboaaGreatDoor.SortUse Go.Proofs.YtnplommdgfgboaaGreatDoor.Search Go.Proofs.YtnplommdgfgboaaGreatDoor.Long
set_option maxHeartbeats 12800000 in
set_option maxRecDepth 100000 in
theorem made_calls (T : List Triple) (hv : Valid T) (hr : Rise T) (hl : T.length ≤ 100) (A : Option Addr) (c : Nat) (w : World) (ok : Nat → Prop) (HL : triK.sl.M w ok T [.slice A T.length c]) :
    Calls Tryz.prog 45 #[.slice A T.length c] w fun e w' => (∃ g, e = .returned (.pointer (some ⟨g, 0, none⟩)) ∧ StoreAt w' (fun k => ok k ∨ w.heap.size ≤ k) g T) ∧ Below w.heap.size w w' := by
  have HRow := Lib.hid (fun k hk => row_cells (Kd.M_bound HL) k hk)
  have HM := Lib.hid HL
  have HV := Lib.hid hv
  have HR := Lib.hid hr
  have HMS0 := Lib.hid (MS.new w (.slice A T.length c) (.slice none 0 0) (.pointer none))
  have HO0 : Hid (termK.own 24 (w.alloc (.cells #[.slice A T.length c, .slice none 0 0, .pointer none] 93)) (w.heap.size + 1) FF (.slice none 0 0) (inTriples (T.take 0))) := Lib.hid (Kd.own_nil _ _ _ _ _)
  clear HL hv hr
  go_enter Tryz.func45, Tryz.ntmps45
  go_wp2
  go_loopw [14] (fun vi wr => ∃ (i : Nat) (u : Value), vi = .int .i64 i ∧ i ≤ T.length ∧ Hid (MS w wr (.slice A T.length c) u (.pointer none)) ∧ Hid (termK.own 24 wr (w.heap.size + 1) FF u (inTriples (T.take i)))) (fun vi _ => T.length - (intOf vi).toNat)
  case atStart => exact ⟨0, _, rfl, by omega, HMS0, HO0⟩
  case round =>
    obtain ⟨i, u, rfl, hi, HS, HO⟩ := hrel
    clear HMS0 HO0
    by_cases hlt : i < T.length
    · have hd : decide (i < T.length) = true := decide_eq_true hlt
      have ik : (i : Int) < (T.length : Int) := by omega
      obtain ⟨b, off, rfl, hbs, hcells⟩ := HRow.out i hlt
      obtain ⟨t, ht⟩ : ∃ t, t = T[i] := ⟨_, rfl⟩
      have hcx := (hcells i hlt).below HS.out.bel
      rw [← ht] at hcx
      obtain ⟨z0, z1, z2, z3, z4, z5, z6, z7, z8⟩ := hcx
      have hfit : FitsW3 t := (Parse.valid_small (HV.out t (by rw [ht]; exact List.getElem_mem hlt))).2
      have HSn := Lib.hid (inT_snoc T i hlt)
      rw [← ht] at HSn
      have HLn : Hid ((inTriples (T.take i)).length ≤ 300) := Lib.hid (by rw [inT_len, List.length_take]; omega)
      have hbx : Below wr.heap.size wr (wr.alloc (.cells (triL t).toArray 36)) := bel_alloc (Below.refl _ _) _
      have hnx := C9.new wr t
      obtain ⟨w0, hw0⟩ : ∃ w0, w0 = wr.alloc (.cells (triL t).toArray 36) := ⟨_, rfl⟩
      rw [← hw0] at hnx hbx
      have HW : Hid (wr.alloc (.cells (triL t).toArray 36) = w0) := Lib.hid hw0.symm
      have hglt := HS.out.lt
      have HS0 := Lib.hid (HS.out.below (hbx.mono hglt))
      have HO0 := Lib.hid (Kd.own_below HO.out hbx)
      have HK : Hid (∀ w', Below w0.heap.size w0 w' → w'.cell? ⟨w.heap.size, 1, none⟩ = some u ∧ C9 w' wr.heap.size 0 t) := Lib.hid (fun w' hb => ⟨(hb.cell (p := ⟨w.heap.size, 1, none⟩) HS0.out.lt).trans HS0.out.c1, hnx.below hb⟩)
      have HKg : Hid (∀ W w5, Below w0.heap.size w0 W → W.grownBy w5 u.ownBlock → Below (w.heap.size + 1) w0 w5 → w5.cell? ⟨w.heap.size, 1, none⟩ = some u ∧ C9 w5 wr.heap.size 0 t) := Lib.hid (fun W w5 hb hg5 hb5 => ⟨(hb5.cell (p := ⟨w.heap.size, 1, none⟩) (Nat.lt_succ_self _)).trans HS0.out.c1, (hnx.below hb).moved (hg5.block _ (hnx.below hb).lt (fun e => by have := (Kd.own_lt HO.out _ e.symm).2; omega))⟩)
      have HTR : Hid (∀ W : World, termK.sl.M (W.alloc (.cells (triL t).toArray 24)) (fun _ => True) [t.s, t.p, t.o] [.slice (some ⟨W.heap.size, 0, none⟩) 3 3]) := Lib.hid (fun W => three_row W t hfit)
      clear hcells hbx hw0 ht hnx hfit
      obtain ⟨⟨sk, sx, se⟩, ⟨pk, px, pe⟩, ⟨ok', ox, oe⟩⟩ := t
      unfold triL at HW HTR
      dsimp only at z0 z1 z2 z3 z4 z5 z6 z7 z8 HW HTR HSn
      have HK2 : Hid (∀ w', Below w0.heap.size w0 w' → w'.cell? ⟨w.heap.size, 1, none⟩ = some (val1 w.heap.size w') ∧ w'.cell? ⟨wr.heap.size, 0, none⟩ = some (.int .i64 sk) ∧ w'.cell? ⟨wr.heap.size, 1, none⟩ = some (.string (mkS sx)) ∧ w'.cell? ⟨wr.heap.size, 2, none⟩ = some (.string (mkS se)) ∧ w'.cell? ⟨wr.heap.size, 3, none⟩ = some (.int .i64 pk) ∧ w'.cell? ⟨wr.heap.size, 4, none⟩ = some (.string (mkS px)) ∧ w'.cell? ⟨wr.heap.size, 5, none⟩ = some (.string (mkS pe)) ∧ w'.cell? ⟨wr.heap.size, 6, none⟩ = some (.int .i64 ok') ∧ w'.cell? ⟨wr.heap.size, 7, none⟩ = some (.string (mkS ox)) ∧ w'.cell? ⟨wr.heap.size, 8, none⟩ = some (.string (mkS oe))) := Lib.hid (fun w' hb => ⟨val1_some (HK.out w' hb).1, nine (HK.out w' hb).2⟩)
      have HVal : Hid (∀ w', Below w0.heap.size w0 w' → val1 w.heap.size w' = u) := Lib.hid (fun w' hb => val1_of (HK.out w' hb).1)
      have HK3 : Hid (∀ W w', Below w0.heap.size w0 W → W.grownBy w' u.ownBlock → Below (w.heap.size + 1) w0 w' → w'.cell? ⟨w.heap.size, 1, none⟩ = some (val1 w.heap.size w') ∧ w'.cell? ⟨wr.heap.size, 0, none⟩ = some (.int .i64 sk) ∧ w'.cell? ⟨wr.heap.size, 1, none⟩ = some (.string (mkS sx)) ∧ w'.cell? ⟨wr.heap.size, 2, none⟩ = some (.string (mkS se)) ∧ w'.cell? ⟨wr.heap.size, 3, none⟩ = some (.int .i64 pk) ∧ w'.cell? ⟨wr.heap.size, 4, none⟩ = some (.string (mkS px)) ∧ w'.cell? ⟨wr.heap.size, 5, none⟩ = some (.string (mkS pe)) ∧ w'.cell? ⟨wr.heap.size, 6, none⟩ = some (.int .i64 ok') ∧ w'.cell? ⟨wr.heap.size, 7, none⟩ = some (.string (mkS ox)) ∧ w'.cell? ⟨wr.heap.size, 8, none⟩ = some (.string (mkS oe))) := Lib.hid (fun W w' hb h1 h2 => ⟨val1_some (HKg.out W w' hb h1 h2).1, nine (HKg.out W w' hb h1 h2).2⟩)
      have HK4 : Hid (∀ W w5 V, Below w0.heap.size w0 W → W.grownBy w5 u.ownBlock → Below (w.heap.size + 1) w0 w5 → (fun w' => w'.cell? ⟨w.heap.size, 1, none⟩ = some (val1 w.heap.size w') ∧ w'.cell? ⟨wr.heap.size, 0, none⟩ = some (.int .i64 sk) ∧ w'.cell? ⟨wr.heap.size, 1, none⟩ = some (.string (mkS sx)) ∧ w'.cell? ⟨wr.heap.size, 2, none⟩ = some (.string (mkS se)) ∧ w'.cell? ⟨wr.heap.size, 3, none⟩ = some (.int .i64 pk) ∧ w'.cell? ⟨wr.heap.size, 4, none⟩ = some (.string (mkS px)) ∧ w'.cell? ⟨wr.heap.size, 5, none⟩ = some (.string (mkS pe)) ∧ w'.cell? ⟨wr.heap.size, 6, none⟩ = some (.int .i64 ok') ∧ w'.cell? ⟨wr.heap.size, 7, none⟩ = some (.string (mkS ox)) ∧ w'.cell? ⟨wr.heap.size, 8, none⟩ = some (.string (mkS oe))) (w5.setCell ⟨w.heap.size, 1, none⟩ V)) := Lib.hid (fun W w5 V hb h1 h2 => ⟨val1_some (World.cell?_setCell_same _ _ _ (HKg.out W w5 hb h1 h2).1), nine (C9.other (HKg.out W w5 hb h1 h2).2 (by omega))⟩)
      clear HK HKg
      go_upto_region 5 with fail
      rw [HW.out]
      clear z0 z1 z2 z3 z4 z5 z6 z7 z8 HW
      obtain ⟨k1, k2, k3, k4, k5, k6, k7, k8, k9, k10⟩ := HK2.out _ (Below.refl _ _)
      rw [HVal.out _ (Below.refl _ _)] at k1
      have k11 : (w0.alloc (.cells #[.int .i64 sk, .string (mkS sx), .string (mkS se), .int .i64 pk, .string (mkS px), .string (mkS pe), .int .i64 ok', .string (mkS ox), .string (mkS oe)] 24)).cell? ⟨w.heap.size, 1, none⟩ = some u := by
        have hb : Below w0.heap.size w0 (w0.alloc (.cells #[.int .i64 sk, .string (mkS sx), .string (mkS se), .int .i64 pk, .string (mkS px), .string (mkS pe), .int .i64 ok', .string (mkS ox), .string (mkS oe)] 24)) := bel_alloc (Below.refl _ _) _
        rw [(HK2.out _ hb).1, HVal.out _ hb]
      go_region_law ((refine Kd.own_app_step termK (w0 := w0) (w.heap.size + 1) (by rfl) (.tmp 22) (.tmp 29) 31 24 Clones.zero_term 40 (by rfl) Tryz.underlying31 Clones.info_term rfl (by decide) u (inTriples (T.take i)) [⟨sk, sx, se⟩, ⟨pk, px, pe⟩, ⟨ok', ox, oe⟩] (some ⟨w0.heap.size, 0, none⟩) 3 FF (by rfl) (by rfl) ?ho (.inr ⟨?hr, Clones.any_term⟩) ?hb ?hs ?hl ?_; go_loud (case hl => (have := HLn.out; simp; omega)); go_loud (case ho => repeat (first | exact HO0.out | refine Kd.own_drew ?_ | refine Kd.own_alloc ?_ _)); go_loud (case hr => exact HTR.out _); go_loud (case hb => refine Below.mono (B := w0.heap.size) ?_ HS0.out.lt; repeat (first | exact Below.refl _ _ | refine bel_alloc ?_ _ | refine bel_drew ?_)); go_loud (case hs => have := HS0.out.lt; simp; omega); intro v1 w5 ho5 hb5 hg5 hv5; rw [HSn.out] at ho5; obtain ⟨A1, cap1, rfl, _, _⟩ := Kd.own_slice ho5; have HK5 := Lib.hid (HK3.out _ _ (by repeat (first | exact Below.refl _ _ | refine bel_alloc ?_ _ | refine bel_drew ?_)) hg5 hb5); have HK6 := Lib.hid (HK4.out _ _ (.slice A1 (inTriples (T.take (i + 1))).length cap1) (by repeat (first | exact Below.refl _ _ | refine bel_alloc ?_ _ | refine bel_drew ?_)) hg5 hb5); dsimp only at HK6; have HO5 := Lib.hid ho5; have HS5 := Lib.hid (HS0.out.below hb5); have HSt := Lib.hid (HS5.out.set1 (.slice A1 (inTriples (T.take (i + 1))).length cap1)); have HOt := Lib.hid (own_set_other (o := 1) (u := .slice A1 (inTriples (T.take (i + 1))).length cap1) ho5 (Nat.lt_succ_self _)); have f1 := HS5.out.free 1; have e1 := HS5.out.c1; clear ho5 hb5 hg5 hv5))
      all_goals clear HK5 HK6 HS5 HO5 f1 e1
      all_goals go_wp2
      all_goals go_roundw
      all_goals first | exact ⟨i + 1, _, by go_num, by omega, HSt, HOt⟩ | (simp [intOf]; omega)
    · have hd : decide (i < T.length) = false := decide_eq_false hlt
      obtain rfl : i = T.length := by omega
      rw [List.take_length] at HO
      have hLn : (inTriples T).length ≤ 300 := by rw [inT_len]; omega
      have hg1 : w.heap.size + 1 ≤ wr.heap.size := HS.out.lt
      have HSrt := Lib.hid (sort_terms (inTriples T) (fun t ht => by
        have := ParseP.is_small (inTriples_is HV.out t ht)
        unfold SmallM
        omega) u (w.heap.size + 1) FF wr HO.out)
      have hown := fun k hk => (Kd.own_lt HO.out k hk).1
      have c1 := HS.out.c1
      go_wp2_with fail
      refine HSrt.out.mono ?_
      rintro e w2 ⟨rfl, R, hperm, hsrt, hoR, hgr⟩
      have hbg : Below (w.heap.size + 1) wr w2 := Below.grown (Below.refl _ _) hgr hg1 (fun j hj => hown j hj)
      have HS2 := Lib.hid (HS.out.below hbg)
      have HCp := Lib.hid (compact_own R (by rw [hperm.length_eq]; omega) (fun t ht => by
        have := ParseP.is_small (inTriples_is HV.out t (hperm.mem_iff.1 ht))
        unfold FitsW
        omega) u (w.heap.size + 1) w2 HS2.out.lt hoR)
      rw [compact_terms HV.out hperm hsrt] at HCp
      have d1 := HS2.out.c1
      clear c1 HSrt HS HO hgr hoR hperm hsrt hbg hown
      go_wp2_with fail
      refine HCp.out.mono ?_
      rintro e w3 ⟨A1, c1, rfl, hM1, hb3⟩
      have HS3 := Lib.hid (HS2.out.below hb3)
      have HT3 : Hid (TS w (w3.setCell ⟨w.heap.size, 1, none⟩ (.slice A1 (termsT T).length c1)) w3.heap.size (.slice A T.length c) (.pointer none) (termsT T) A1 c1) := Lib.hid (by
        refine ⟨HS3.out.set1 _, by simp, HS3.out.lt, ?_⟩
        have h1 : termK.sl.M w3 (fun k => w.heap.size < k ∧ k < w3.heap.size) (termsT T) [.slice A1 (termsT T).length c1] := termK.sl.mono (fun k hk hlt => ⟨hk, hlt⟩) hM1
        exact termK.sl.move (fun k hk _ => Below.heap_setCell _ _ _ _ (fun e => by have e2 : k = w.heap.size := e; have := hk.1; omega)) h1)
      have f1 := HS3.out.free 1
      have e1 := HS3.out.c1
      obtain ⟨B0, hB0⟩ : ∃ B0, B0 = w3.heap.size := ⟨_, rfl⟩
      rw [← hB0] at HT3
      have HZ0 : Hid (idsK.own 40 (w3.setCell ⟨w.heap.size, 1, none⟩ (.slice A1 (termsT T).length c1)) B0 FF (.slice none 0 0) ((idsT T).take 0)) := Lib.hid (Kd.own_nil _ _ _ _ _)
      clear hM1 hb3 HS3 HCp HS2 d1 hB0
      go_wp2
      go_loopw [6, 49] (fun v6 vi wr => ∃ (i : Nat) (u : Value), u = v6 ∧ vi = .int .i64 i ∧ i ≤ T.length ∧ Hid (TS w wr B0 (.slice A T.length c) (.pointer none) (termsT T) A1 c1) ∧ Hid (idsK.own 40 wr B0 FF u ((idsT T).take i))) (fun _ vi _ => T.length - (intOf vi).toNat)
      case atStart => exact ⟨0, _, rfl, rfl, by omega, HT3, HZ0⟩
      case round =>
        obtain ⟨i, u2, rfl, rfl, hi2, HT, HO⟩ := hrel
        clear HT3 HZ0 f1 e1
        by_cases hlt2 : i < T.length
        · have hd2 : decide (i < T.length) = true := decide_eq_true hlt2
          have ik : (i : Int) < (T.length : Int) := by omega
          obtain ⟨b, off, rfl, hbs, hcells⟩ := HRow.out i hlt2
          obtain ⟨t, ht⟩ : ∃ t, t = T[i] := ⟨_, rfl⟩
          have hcx := (hcells i hlt2).below HT.out.ms.bel
          rw [← ht] at hcx
          obtain ⟨z0, z1, z2, z3, z4, z5, z6, z7, z8⟩ := hcx
          have hti : t ∈ T := by rw [ht]; exact List.getElem_mem hlt2
          have HSn := Lib.hid (idsT_snoc T i hlt2)
          rw [← ht] at HSn
          have HLn : Hid (((idsT T).take i).length ≤ 100) := Lib.hid (by rw [List.length_take]; omega)
          have hbx : Below wr.heap.size wr (wr.alloc (.cells (triL t).toArray 36)) := bel_alloc (Below.refl _ _) _
          have hnx := C9.new wr t
          obtain ⟨w0, hw0⟩ : ∃ w0, w0 = wr.alloc (.cells (triL t).toArray 36) := ⟨_, rfl⟩
          rw [← hw0] at hnx hbx
          have HW : Hid (wr.alloc (.cells (triL t).toArray 36) = w0) := Lib.hid hw0.symm
          have HT0 := Lib.hid (HT.out.below (hbx.mono HT.out.hB))
          have HO0 := Lib.hid (Kd.own_below HO.out hbx)
          have HID : Hid (∀ (p : QT.Bel w0) (y : Term), y ∈ inTriples T → Calls Tryz.prog 18 #[.pointer (some ⟨w.heap.size, 0, none⟩), Ref5.termV y] p.w fun e w' => e = .returned (.int .i64 (idOf (termsT T) y : Nat)) ∧ Below p.w.heap.size p.w w') := Lib.hid (fun p y hy => by
            have hTp := HT0.out.below (p.bel.mono HT0.out.hB)
            have hsm : ∀ x, is x = true → SmallM x := fun x hx => by have := ParseP.is_small hx; unfold SmallM; omega
            exact id_calls (termsT T) y (termsT_rise HV.out) (fun x hx => hsm x (termsT_is HV.out x hx)) (hsm y (inTriples_is HV.out y hy)) w.heap.size A1 c1 p.w hTp.ms.c1 (Kd.M_bound hTp.row) (by have := terms_len HV.out; omega))
          obtain ⟨m1, m2, m3⟩ := mem_three hti
          have HI1 := Lib.hid (fun p => HID.out p _ m1)
          have HI2 := Lib.hid (fun p => HID.out p _ m2)
          have HI3 := Lib.hid (fun p => HID.out p _ m3)
          have HFit : Hid (FitsI (idsOf (termsT T) t)) := Lib.hid (by
            have := good_ids HV.out hl (idsOf (termsT T) t) (List.mem_map.2 ⟨t, hti, rfl⟩)
            obtain ⟨q1, q2, q3⟩ := this
            unfold FitsI
            omega)
          have HIds : Hid (idsOf (termsT T) t = ⟨idOf (termsT T) t.s, idOf (termsT T) t.p, idOf (termsT T) t.o⟩) := Lib.hid rfl
          rw [HIds.out] at HSn HFit
          have y0 := fun p => (hnx.bel p).c0
          have y1 := fun p => (hnx.bel p).c1
          have y2 := fun p => (hnx.bel p).c2
          have y3 := fun p => (hnx.bel p).c3
          have y4 := fun p => (hnx.bel p).c4
          have y5 := fun p => (hnx.bel p).c5
          have y6 := fun p => (hnx.bel p).c6
          have y7 := fun p => (hnx.bel p).c7
          have y8 := fun p => (hnx.bel p).c8
          simp only [Nat.zero_add] at y0 y1 y2 y3 y4 y5 y6 y7 y8
          clear hcells hbx hw0 ht hnx HID HIds m1 m2 m3 hti
          generalize idOf (termsT T) t.s = d1 at *
          generalize idOf (termsT T) t.p = d2 at *
          generalize idOf (termsT T) t.o = d3 at *
          obtain ⟨⟨sk, sx, se⟩, ⟨pk, px, pe⟩, ⟨ok', ox, oe⟩⟩ := t
          unfold triL at HW
          unfold Ref5.termV at HI1 HI2 HI3
          dsimp only at z0 z1 z2 z3 z4 z5 z6 z7 z8 HW HI1 HI2 HI3 y0 y1 y2 y3 y4 y5 y6 y7 y8
          go_upto_region 13 with fail
          rw [HW.out]
          clear z0 z1 z2 z3 z4 z5 z6 z7 z8 HW
          refine QT.region_move 14 _ (.tmp 6) (by kernel_rfl) rfl rfl rfl (by kernel_rfl) (fun _ _ _ h => h) ?_
          simp only [List.take_succ_cons, List.take_zero, List.drop_succ_cons, List.drop_zero, Act.put, Act.eval]
          go_simp
          iterate 3 (go_big_quiet_step (fail))
          go_big_quiet_step (exact QT.Bel.call _ (HI1.out _))
          iterate 3 (go_big_quiet_step (fail))
          go_big_quiet_step (exact QT.Bel.call _ (HI2.out _))
          iterate 3 (go_big_quiet_step (fail))
          go_big_quiet_step (exact QT.Bel.call _ (HI3.out _))
          iterate 1 (go_big_quiet_step (fail))
          refine wpQuiet_nil ?_
          intro pp
          obtain ⟨w2, hb2⟩ := pp
          dsimp only
          have HT2 := Lib.hid (HT0.out.below (hb2.mono HT0.out.hB))
          have HO2 := Lib.hid (Kd.own_below HO0.out hb2)
          have hB2 := HT2.out.hB
          clear hb2 y0 y1 y2 y3 y4 y5 y6 y7 y8 HT0 HO0 HT HO HI1 HI2 HI3
          go_wp2_with (at_builtin; go_loud (refine Kd.own_app1 idsK (w0 := w2) B0 (by rfl) (.tmp 53) (.tmp 67) 48 40 Clones.zero_ids 24 (by rfl) Tryz.underlying48 Clones.info_ids rfl (by decide) u2 ((idsT T).take i) ⟨d1, d2, d3⟩ [.int .i64 (d1 : Nat), .int .i64 (d2 : Nat), .int .i64 (d3 : Nat)] FF (by rfl) (by rfl) HO2.out ⟨rfl, HFit.out⟩ (Below.refl _ _) hB2 ?hl ?_); go_loud (case hl => (have := HLn.out; omega)); go_loud (intro v1 w5 ho5 hb5 _ _; rw [HSn.out] at ho5; have HO5 := Lib.hid ho5; have HT5 := Lib.hid (HT2.out.below hb5); clear ho5 hb5))
          go_wp2
          go_roundw
          case rel => exact ⟨i + 1, v1, rfl, by go_num, by omega, HT5, HO5⟩
          case measure => simp [intOf]; omega
        · have hd2 : decide (i < T.length) = false := decide_eq_false hlt2
          obtain rfl : i = T.length := by omega
          have HLenI : Hid ((idsT T).length = T.length) := Lib.hid (by unfold idsT; simp)
          have hoI : idsK.own 40 wr B0 FF u2 (idsT T) := by
            have := HO.out
            rwa [List.take_of_length_le (by have := HLenI.out; omega)] at this
          have hown := fun k hk => (Kd.own_lt hoI k hk).1
          have HSrt := Lib.hid (sort_ids (idsT T) (idsT_rise HV.out HR.out) u2 B0 FF wr hoI)
          clear hoI HO
          go_wp2_with fail
          refine HSrt.out.mono ?_
          rintro e w2 ⟨rfl, ho2, hg2⟩
          have hb2 : Below B0 wr w2 := Below.grown (Below.refl _ _) hg2 HT.out.hB (fun j hj => hown j hj)
          have HT2 := Lib.hid (HT.out.below hb2)
          have hMI := Kd.M_bound (Kd.own_sl (ok' := fun _ => True) ho2 (fun _ _ => trivial) (fun _ _ => trivial))
          obtain ⟨A5, c5, rfl, _, _⟩ := Kd.own_slice ho2
          have HRg := Lib.hid (ring_calls (idsT T) (by have := HLenI.out; omega) (good_ids HV.out hl) (idsT_rise HV.out HR.out) A5 c5 w2 hMI)
          clear ho2 hg2 hb2 hMI HSrt hown HT
          go_wp2_with fail
          refine HRg.out.mono ?_
          rintro e w3 ⟨⟨gr, rfl, hring⟩, hb3⟩
          have HT3 := Lib.hid (HT2.out.below (hb3.mono HT2.out.hB))
          have HFin := Lib.hid (finish HT3.out (hring.mono (fun k hk _ => Nat.le_trans HT2.out.hB hk)) HM.out)
          have f2 := HT3.out.ms.free 2
          have e2 := HT3.out.ms.c2
          clear hring hb3 HRg HT2
          go_wp2
          go_ret
          exact ⟨⟨_, rfl, HFin.out.1⟩, HFin.out.2⟩
end Go.Proofs.YtnplommdgfgboaaGreatDoor.Made
set_option linter.unusedVariables false
set_option linter.unusedSimpArgs false
namespace Go.Proofs.YtnplommdgfgboaaGreatDoor.ParseOk
open Go.RowKit Go.Lib Go.Proofs.YtnplommdgfgboaaGreatDoor.B Go.Proofs.YtnplommdgfgboaaGreatDoor.Rd Go.Proofs.YtnplommdgfgboaaGreatDoor.TermPure Go.Proofs.YtnplommdgfgboaaGreatDoor.LinesPure Go.Proofs.YtnplommdgfgboaaGreatDoor.Tri Go.Proofs.YtnplommdgfgboaaGreatDoor.SortP Go.Proofs.YtnplommdgfgboaaGreatDoor.Print Go.Proofs.YtnplommdgfgboaaGreatDoor.ParseP
theorem sortT_valid {l : List Triple} (h : Valid l) : Valid (sortT l) := fun x hx => h x ((sortT_mem h x).1 hx)
theorem put_len : ∀ (l : List Triple) (t : Triple), (putT l t).length ≤ l.length + 1
  | [], t => by simp [putT]
  | y :: l, t => by
    have := put_len l t
    rw [putT]
    split
    · simp; omega
    · split <;> simp
theorem fold_len : ∀ (l acc : List Triple), (l.foldl putT acc).length ≤ acc.length + l.length
  | [], acc => by simp
  | t :: l, acc => by
    have h1 := fold_len l (putT acc t)
    have h2 := put_len acc t
    simp only [List.foldl_cons, List.length_cons]
    omega
theorem sortT_len (l : List Triple) : (sortT l).length ≤ l.length := by
  have := fold_len l []
  unfold sortT
  simpa using this
theorem pgo_good : ∀ (f : Nat) (s : List UInt8) (T : List Triple) (n : Nat), Valid T → T.length ≤ 100 → (pgo f s T n).2.2 = 0 → ∃ U, Valid U ∧ U.length ≤ 100 ∧ (pgo f s T n).1 = sortT U
  | 0, s, T, n, hv, hl, h => ⟨T, hv, hl, rfl⟩
  | f + 1, s, T, n, hv, hl, h => by
    rw [pgo] at h ⊢
    by_cases hs : s = []
    · rw [if_pos hs] at h ⊢
      exact ⟨T, hv, hl, rfl⟩
    rw [if_neg hs] at h ⊢
    by_cases hn : 200 < n + 1
    · rw [if_pos hn] at h
      simp at h
    rw [if_neg hn] at h ⊢
    cases hlo : lineOf false (lineS s) with
    | none => rw [hlo] at h; simp at h
    | some o =>
      cases o with
      | none =>
        rw [hlo] at h
        dsimp only at h ⊢
        exact pgo_good f (restS s) T (n + 1) hv hl h
      | some t =>
        rw [hlo] at h
        dsimp only at h ⊢
        by_cases ht : t ∈ T
        · rw [if_pos ht] at h ⊢
          exact pgo_good f (restS s) T (n + 1) hv hl h
        rw [if_neg ht] at h ⊢
        by_cases hm : 100 < T.length + 1
        · rw [if_pos hm] at h
          simp at h
        rw [if_neg hm] at h ⊢
        refine pgo_good f (restS s) (T ++ [t]) (n + 1) (fun x hx => (List.mem_append.1 hx).elim (hv x) (fun hx => ?_)) (by simp; omega) h
        simp at hx
        subst hx
        exact lineOf_is hlo
theorem parse_good {s : List UInt8} (h : (parse s).2.2 = 0) : Valid (parse s).1 ∧ Rise (parse s).1 ∧ (parse s).1.length ≤ 100 := by
  rw [parse] at h ⊢
  by_cases hl : 20000 < s.length
  · rw [if_pos hl] at h
    simp at h
  rw [if_neg hl] at h ⊢
  obtain ⟨U, hv, hn, he⟩ := pgo_good s.length s [] 0 (fun _ h => by cases h) (by simp) h
  rw [show pg s [] 0 = pgo s.length s [] 0 from rfl, he]
  exact ⟨sortT_valid hv, sortT_rise hv, Nat.le_trans (sortT_len U) hn⟩
theorem line_valid {t : Triple} (h : isTriple t = true) : (lineN t).length ≤ 1300 := by
  obtain ⟨h1, h2, h3⟩ := isT_parts h
  have k1 := is_small h1
  have k2 := is_small h2
  have k3 := is_small h3
  have l1 := shown_len t.s
  have l2 := shown_len t.p
  have l3 := shown_len t.o
  unfold lineN
  simp only [List.length_append, List.length_cons, List.length_nil]
  omega
theorem flat_all : ∀ l : List Triple, Valid l → (l.flatMap lineN).length ≤ 1300 * l.length
  | [], _ => by simp
  | t :: l, h => by
    have h1 := line_valid (h t (by simp))
    have h2 := flat_all l (fun x hx => h x (by simp [hx]))
    simp only [List.flatMap_cons, List.length_append, List.length_cons]
    omega
theorem flat_valid {l : List Triple} (h : Valid l) (hl : l.length ≤ 100) : (l.flatMap lineN).length ≤ 130000 := by
  have := flat_all l h
  omega
end Go.Proofs.YtnplommdgfgboaaGreatDoor.ParseOk
set_option linter.unusedVariables false
set_option linter.unusedSimpArgs false
namespace Go.Proofs.YtnplommdgfgboaaGreatDoor.StoreM
open Go.RowKit Go.Lib Go.Proofs.YtnplommdgfgboaaGreatDoor.B Go.Proofs.YtnplommdgfgboaaGreatDoor.Rd Go.Proofs.YtnplommdgfgboaaGreatDoor.TermPure Go.Proofs.YtnplommdgfgboaaGreatDoor.LinesPure Go.Proofs.YtnplommdgfgboaaGreatDoor.Tri Go.Proofs.YtnplommdgfgboaaGreatDoor.SortP Go.Proofs.YtnplommdgfgboaaGreatDoor.OrdG Go.Proofs.YtnplommdgfgboaaGreatDoor.TermW Go.Proofs.YtnplommdgfgboaaGreatDoor.Print Go.Proofs.YtnplommdgfgboaaGreatDoor.Cmp Go.Proofs.YtnplommdgfgboaaGreatDoor.StoreW Go.Proofs.YtnplommdgfgboaaGreatDoor.Clones Go.Proofs.YtnplommdgfgboaaGreatDoor.Env Go.Proofs.YtnplommdgfgboaaGreatDoor.ParseP Go.Proofs.YtnplommdgfgboaaGreatDoor.Parse Go.Proofs.YtnplommdgfgboaaGreatDoor.ParseOk
open Go.Proofs.YtnplommdgfgboaaGreatDoor.Clones (TT)
set_option maxHeartbeats 3200000 in
set_option maxRecDepth 100000 in
theorem load_good (s : List UInt8) (hs : s.length ≤ 140737488355328) (w : World) (he : Env w) (h0 : (parse s).2.2 = 0) :
    Calls Tryz.prog 15 #[.string (mkS s)] w fun e w' => (∃ g, e = .returned (.tuple #[.pointer (some ⟨g, 0, none⟩), .int .i64 (parse s).2.1, .int .i64 0]) ∧ StoreAt w' (fun k => w.heap.size ≤ k) g (parse s).1) ∧ Below w.heap.size w w' := by
  obtain ⟨hv, hr, hl⟩ := parse_good h0
  have HP := Lib.hid (parse_calls s hs w he)
  have HMd := Lib.hid (fun A c w1 HL => Made.made_calls (parse s).1 hv hr hl A c w1 (fun k => w.heap.size ≤ k) HL)
  generalize parse s = r at *
  obtain ⟨T, n, er⟩ := r
  dsimp only at h0
  subst h0
  clear hv hr hl he
  dsimp only at *
  go_enter Tryz.func15, Tryz.ntmps15
  go_wp2_with fail
  refine HP.out.mono ?_
  rintro e w1 ⟨A1, c1, rfl, hM1, hb1⟩
  have HB1 := Lib.hid hb1
  dsimp only at hM1
  have HMd1 := Lib.hid (HMd.out A1 c1 w1 (triK.sl.mono (fun k hk _ => hk.1) hM1))
  clear hM1 hb1 HP HMd
  dsimp only
  go_wp2_with fail
  refine HMd1.out.mono ?_
  rintro e w2 ⟨⟨g, rfl, hS⟩, hb2⟩
  have HS := Lib.hid (hS.mono (ok' := fun k => w.heap.size ≤ k) (fun k hk _ => hk.elim id (fun h => Nat.le_trans HB1.out.size h)))
  have HB2 := Lib.hid (bel_step HB1.out hb2)
  clear hS hb2 HMd1
  go_wp2
  go_ret3
  exact ⟨⟨g, rfl, HS.out⟩, HB2.out⟩
set_option maxHeartbeats 3200000 in
set_option maxRecDepth 100000 in
theorem triples_calls (T : List Triple) (hT : T.length ≤ 100) (g : Nat) (w : World) (ok : Nat → Prop) (h : StoreAt w ok g T) :
    Calls Tryz.prog 34 #[.pointer (some ⟨g, 0, none⟩)] w fun e w' => (∃ v, e = .returned v ∧ triK.own 36 w' w.heap.size TT v T) ∧ Below w.heap.size w w' := by
  obtain ⟨_, ⟨A, c, hc, hM⟩, _⟩ := h
  have HC := Lib.hid (SortW.clone_calls T A c w (triK.sl.mono (fun k _ _ => trivial) hM) (by omega))
  clear hM
  go_enter Tryz.func34, Tryz.ntmps34
  go_wp2_with fail
  refine HC.out.mono ?_
  rintro e w1 ⟨⟨v, rfl, ho⟩, hb⟩
  have HO := Lib.hid ho
  have HB := Lib.hid hb
  clear ho hb HC hc
  go_wp2
  go_ret
  exact ⟨⟨v, rfl, HO.out⟩, HB.out⟩
set_option maxHeartbeats 3200000 in
set_option maxRecDepth 100000 in
theorem len_calls (T : List Triple) (hT : T.length ≤ 100) (g : Nat) (w : World) (ok : Nat → Prop) (h : StoreAt w ok g T) :
    Calls Tryz.prog 24 #[.pointer (some ⟨g, 0, none⟩)] w fun e w' => e = .returned (.int .i64 (T.length : Nat)) ∧ Below w.heap.size w w' := by
  have HC := Lib.hid (triples_calls T hT g w ok h)
  clear h
  go_enter Tryz.func24, Tryz.ntmps24
  go_wp2_with fail
  refine HC.out.mono ?_
  rintro e w1 ⟨⟨v, rfl, ho⟩, hb⟩
  obtain ⟨A1, c1, rfl, _, _⟩ := Kd.own_slice ho
  have HB := Lib.hid hb
  clear ho hb HC
  go_wp2
  go_ret
  exact ⟨rfl, HB.out⟩
set_option maxHeartbeats 3200000 in
set_option maxRecDepth 100000 in
theorem export_calls (T : List Triple) (hv : Valid T) (hT : T.length ≤ 100) (g : Nat) (w : World) (ok : Nat → Prop) (h : StoreAt w ok g T) :
    Calls Tryz.prog 29 #[.pointer (some ⟨g, 0, none⟩)] w fun e w' => e = .returned (.string (mkS (T.flatMap lineN))) ∧ Below w.heap.size w w' := by
  have HC := Lib.hid (triples_calls T hT g w ok h)
  have hsm : ∀ t ∈ T, SmallT t := fun t ht => (valid_small (hv t ht)).1
  have hfl := flat_valid hv hT
  have HPr := Lib.hid (fun A c w1 HL => print_calls T A c w1 HL hsm (by omega))
  clear h hv hsm hfl
  go_enter Tryz.func29, Tryz.ntmps29
  go_wp2_with fail
  refine HC.out.mono ?_
  rintro e w1 ⟨⟨v, rfl, ho⟩, hb⟩
  have HB := Lib.hid hb
  obtain ⟨A1, c1, rfl, _, _⟩ := Kd.own_slice ho
  have HP1 := Lib.hid (HPr.out A1 c1 w1 (Kd.M_bound (Kd.own_sl (ok := fun _ => True) ho (fun k hk => trivial) (fun k hk => trivial))))
  clear ho hb HC HPr
  go_wp2_with fail
  refine HP1.out.mono ?_
  rintro e w2 ⟨rfl, hb⟩
  have HB2 := Lib.hid (bel_step HB.out hb)
  clear hb HP1
  go_wp2
  go_ret
  exact ⟨rfl, HB2.out⟩
end Go.Proofs.YtnplommdgfgboaaGreatDoor.StoreM
set_option linter.unusedVariables false
set_option linter.unusedSimpArgs false
namespace Go.Proofs.YtnplommdgfgboaaGreatDoor.Known11
open Go.RowKit Go.Lib Go.Proofs.YtnplommdgfgboaaGreatDoor.B Go.Proofs.YtnplommdgfgboaaGreatDoor.Rd Go.Proofs.YtnplommdgfgboaaGreatDoor.TermPure Go.Proofs.YtnplommdgfgboaaGreatDoor.LinesPure Go.Proofs.YtnplommdgfgboaaGreatDoor.Tri Go.Proofs.YtnplommdgfgboaaGreatDoor.SortP Go.Proofs.YtnplommdgfgboaaGreatDoor.OrdG Go.Proofs.YtnplommdgfgboaaGreatDoor.Env Go.Proofs.YtnplommdgfgboaaGreatDoor.ParseP Go.Proofs.YtnplommdgfgboaaGreatDoor.StoreW Go.Proofs.YtnplommdgfgboaaGreatDoor.StoreM
def T1 : Triple := ⟨⟨1, [97], []⟩, ⟨1, [98], []⟩, ⟨1, [99], []⟩⟩
theorem parse0 : parse [] = ([], 0, 0) := by decide +kernel
theorem parse1 : parse [60, 97, 62, 32, 60, 98, 62, 32, 60, 99, 62, 32, 46] = ([T1], 1, 0) := by decide +kernel
theorem print1 : [T1].flatMap Print.lineN = [60, 97, 62, 32, 60, 98, 62, 32, 60, 99, 62, 32, 46, 10] := by decide +kernel
theorem valid1 : Valid [T1] := by
  intro t ht
  simp at ht
  subst ht
  decide +kernel
set_option maxHeartbeats 3200000 in
set_option maxRecDepth 100000 in
theorem known_calls (w : World) (he : Env w) : Calls Tryz.prog 19 #[] w fun e w' => e = .returned (.bool true) ∧ Below w.heap.size w w' := by
  have HA := Lib.hid (load_good [] (by decide) w he (by rw [parse0]))
  rw [parse0] at HA
  have HB := Lib.hid (fun w he => load_good [60, 97, 62, 32, 60, 98, 62, 32, 60, 99, 62, 32, 46] (by decide) w he (by rw [parse1]))
  simp only [parse1] at HB
  rw [show mkS [] = ⟨#[]⟩ from rfl] at HA
  rw [show mkS [60, 97, 62, 32, 60, 98, 62, 32, 60, 99, 62, 32, 46] = ⟨#[60, 97, 62, 32, 60, 98, 62, 32, 60, 99, 62, 32, 46]⟩ from rfl] at HB
  have HE := Lib.hid he
  clear he
  go_enter Tryz.func19, Tryz.ntmps19
  go_wp2_with fail
  refine HA.out.mono ?_
  rintro e w1 ⟨⟨g1, rfl, hS1⟩, hb⟩
  have HB1 := Lib.hid hb
  have HS1 := Lib.hid hS1
  have HBw := Lib.hid (HB.out w1 (HE.out.below hb))
  clear hb hS1 HA HB
  dsimp only
  go_wp2_with fail
  refine HBw.out.mono ?_
  rintro e w2 ⟨⟨g2, rfl, hS2⟩, hb⟩
  have HB2 := Lib.hid (bel_step HB1.out hb)
  have HS2 := Lib.hid hS2
  have HL1 := Lib.hid (len_calls [] (by decide) g1 w2 _ (HS1.out.below hb))
  clear hb hS2 HBw
  dsimp only
  go_wp2_with fail
  refine HL1.out.mono ?_
  rintro e w3 ⟨rfl, hb⟩
  have HB3 := Lib.hid (bel_step HB2.out hb)
  have HS3 := Lib.hid (HS2.out.below hb)
  have HL2 := Lib.hid (len_calls [T1] (by decide) g2 w3 _ HS3.out)
  clear hb HL1 HS2
  go_wp2_with fail
  refine HL2.out.mono ?_
  rintro e w4 ⟨rfl, hb⟩
  have HB4 := Lib.hid (bel_step HB3.out hb)
  have HS4 := Lib.hid (HS3.out.below hb)
  have HX := Lib.hid (export_calls [T1] valid1 (by decide) g2 w4 _ HS4.out)
  rw [print1] at HX
  clear hb HL2 HS3
  have m1 := mkS_toList [60, 97, 62, 32, 60, 98, 62, 32, 60, 99, 62, 32, 46, 10]
  have m2 : (⟨#[60, 97, 62, 32, 60, 98, 62, 32, 60, 99, 62, 32, 46, 10]⟩ : ByteArray).toList = [60, 97, 62, 32, 60, 98, 62, 32, 60, 99, 62, 32, 46, 10] := mkS_toList [60, 97, 62, 32, 60, 98, 62, 32, 60, 99, 62, 32, 46, 10]
  go_wp2_with fail
  refine HX.out.mono ?_
  rintro e w5 ⟨rfl, hb⟩
  have HB5 := Lib.hid (bel_step HB4.out hb)
  clear hb HX
  go_wp2
  go_ret
  exact ⟨rfl, HB5.out⟩
end Go.Proofs.YtnplommdgfgboaaGreatDoor.Known11
set_option linter.unusedVariables false
set_option linter.unusedSimpArgs false
namespace Go.Proofs.YtnplommdgfgboaaGreatDoor.Long11
open Go.RowKit Go.Lib Go.Proofs.YtnplommdgfgboaaGreatDoor.B Go.Proofs.YtnplommdgfgboaaGreatDoor.Rd Go.Proofs.YtnplommdgfgboaaGreatDoor.TermPure Go.Proofs.YtnplommdgfgboaaGreatDoor.LinesPure Go.Proofs.YtnplommdgfgboaaGreatDoor.Tri Go.Proofs.YtnplommdgfgboaaGreatDoor.SortP Go.Proofs.YtnplommdgfgboaaGreatDoor.Print Go.Proofs.YtnplommdgfgboaaGreatDoor.Long Go.Proofs.YtnplommdgfgboaaGreatDoor.Env
/-- Triples that are looked at. -/
def looked (l : List Triple) : Bool := decide (total l ≤ 9000) && l.all isTriple
theorem looked_total {l : List Triple} (h : looked l = true) : total l ≤ 9000 := by
  unfold looked at h
  simp only [Bool.and_eq_true, decide_eq_true_eq] at h
  exact h.1
theorem looked_valid {l : List Triple} (h : looked l = true) : ∀ t ∈ l, isTriple t = true := by
  unfold looked at h
  simp only [Bool.and_eq_true, decide_eq_true_eq] at h
  exact List.all_eq_true.1 h.2
theorem looked_big {l : List Triple} {k : Nat} (h : 9000 < total (l.take k)) : looked l = false := by
  have := total_le l k
  unfold looked
  rw [decide_eq_false (by omega)]
  rfl
theorem looked_none {l : List Triple} {t : Triple} (ht : t ∈ l) (h : isTriple t = false) : looked l = false := by
  unfold looked
  have : l.all isTriple = false := by
    rw [← Bool.not_eq_true, List.all_eq_true]
    intro h2
    rw [h2 _ ht] at h
    cases h
  rw [this, Bool.and_false]
set_option maxHeartbeats 3200000 in
set_option maxRecDepth 100000 in
theorem long_calls (l : List Triple) (A : Option Addr) (c : Nat) (w : World) (he : Env w) (HL : triK.sl.M w (fun k => k < w.heap.size) l [.slice A l.length c]) :
    Calls Tryz.prog 13 #[.slice A l.length c] w fun e w' => e = .returned (.bool (!looked l)) ∧ Below w.heap.size w w' := by
  have HF := Lib.hid (row_fits HL)
  have HR := Lib.hid (row_cells HL)
  have h47 := sl_len HL
  have HE := Lib.hid he
  clear HL he
  go_enter Tryz.func13, Tryz.ntmps13
  go_wp2
  go_loopw [3, 4] (fun vn vi wr => ∃ k n : Nat, k ≤ l.length ∧ vi = .int .i64 k ∧ vn = .int .i64 n ∧ n ≤ 2251799813685248 ∧ Hid (n = total (l.take k) ∧ (l.take k).all isTriple = true) ∧ Hid (Below w.heap.size w wr)) (fun _ vi _ => l.length - (intOf vi).toNat)
  case atStart => exact ⟨0, 0, by omega, rfl, rfl, by omega, Lib.hid ⟨rfl, rfl⟩, Lib.hid (Below.refl _ _)⟩
  case round =>
    obtain ⟨k, n, hk, rfl, rfl, hn, HT, HW⟩ := hrel
    by_cases hlt : k < l.length
    · have hd : decide (k < l.length) = true := decide_eq_true hlt
      have ik : (k : Int) < (l.length : Int) := by omega
      by_cases hl : 9000 < n
      · have hd2 : decide (n ≤ 9000) = false := decide_eq_false (by omega)
        have hd3 : decide (9000 < n) = true := decide_eq_true hl
        have HV : Hid (looked l = false) := Lib.hid (looked_big (k := k) (by rw [← HT.out.1]; exact hl))
        go_wp2
        go_ret
        exact ⟨by rw [HV.out]; rfl, HW.out⟩
      · have hd2 : decide (n ≤ 9000) = true := decide_eq_true (by omega)
        obtain ⟨b, off, rfl, hb, hcells⟩ := HR.out k hlt
        obtain ⟨z0, z1, z2, z3, z4, z5, z6, z7, z8⟩ := (hcells k hlt).below HW.out
        have HT2 := Lib.hid (total_take l k hlt)
        have hf := HF.out l[k] (List.getElem_mem hlt)
        have HAll : Hid ((l.take (k + 1)).all isTriple = ((l.take k).all isTriple && isTriple l[k])) := Lib.hid (by rw [List.take_succ_eq_append_getElem hlt, List.all_append]; simp)
        have HNo : Hid (isTriple l[k] = false → looked l = false) := Lib.hid (fun h => looked_none (List.getElem_mem hlt) h)
        clear hcells
        obtain ⟨t, ht⟩ : ∃ t, t = l[k] := ⟨_, rfl⟩
        rw [← ht] at z0 z1 z2 z3 z4 z5 z6 z7 z8 HT2 hf HAll HNo
        clear ht
        have HI := Lib.hid (fun w he => Ref5.is5w_calls t hf w he)
        obtain ⟨r, hr⟩ : ∃ r, r = isTriple t := ⟨_, rfl⟩
        rw [← hr] at HAll HNo HI
        clear hr
        obtain ⟨⟨sk, sx, se⟩, ⟨pk, px, pe⟩, ⟨ok, ox, oe⟩⟩ := t
        obtain ⟨⟨_, a1, a2⟩, ⟨_, a3, a4⟩, ⟨_, a5, a6⟩⟩ := hf
        have HWt : Hid (wt ⟨⟨sk, sx, se⟩, ⟨pk, px, pe⟩, ⟨ok, ox, oe⟩⟩ = 3 + sx.length + se.length + px.length + pe.length + ox.length + oe.length) := Lib.hid rfl
        unfold Ref5.tripleV at HI
        dsimp only at z0 z1 z2 z3 z4 z5 z6 z7 z8 a1 a2 a3 a4 a5 a6 HI
        have y1 := mkS_size sx
        have y2 := mkS_size se
        have y3 := mkS_size px
        have y4 := mkS_size pe
        have y5 := mkS_size ox
        have y6 := mkS_size oe
        have HWd := Lib.hid (fun nq => bel_drewN HW.out nq)
        have HEd := Lib.hid (fun nq => HE.out.below (HWd.out nq))
        go_wp2_with fail
        go_quiet (fail)
        cases r
        · go_wp2_with fail
          refine (HI.out _ (HEd.out _)).mono ?_
          rintro e w2 ⟨rfl, hb2⟩
          have HW2 := Lib.hid (bel_step (HWd.out _) hb2)
          clear hb2
          go_wp2
          go_ret
          exact ⟨by rw [HNo.out (by first | rfl | trivial)]; rfl, HW2.out⟩
        · go_wp2_with fail
          refine (HI.out _ (HEd.out _)).mono ?_
          rintro e w2 ⟨rfl, hb2⟩
          have HW2 := Lib.hid (bel_step (HWd.out _) hb2)
          clear hb2
          go_wp2
          go_roundw
          case rel => exact ⟨k + 1, n + (3 + sx.length + se.length + px.length + pe.length + ox.length + oe.length), by omega, by go_num, by go_num, by omega, Lib.hid ⟨by rw [HT2.out, HT.out.1, HWt.out], by rw [HAll.out, HT.out.2]; rfl⟩, HW2⟩
          case measure => simp [intOf]; omega
    · have hd : decide (k < l.length) = false := decide_eq_false hlt
      obtain rfl : k = l.length := by omega
      have HV : Hid ((!looked l) = decide (9000 < n)) := Lib.hid (by
        obtain ⟨h1, h2⟩ := HT.out
        rw [List.take_length] at h1 h2
        unfold looked
        rw [h2, ← h1, Bool.and_true]
        by_cases h : n ≤ 9000
        · rw [decide_eq_true h, decide_eq_false (by omega)]; rfl
        · rw [decide_eq_false h, decide_eq_true (by omega)]; rfl)
      go_wp2
      go_ret
      exact ⟨by rw [HV.out]; first | rfl | (congr 2; simp; omega) | simp, HW.out⟩
end Go.Proofs.YtnplommdgfgboaaGreatDoor.Long11
set_option linter.unusedVariables false
set_option linter.unusedSimpArgs false
namespace Go.Proofs.YtnplommdgfgboaaGreatDoor.SortW
open Go.RowKit Go.Lib Go.Proofs.YtnplommdgfgboaaGreatDoor.B Go.Proofs.YtnplommdgfgboaaGreatDoor.Rd Go.Proofs.YtnplommdgfgboaaGreatDoor.Utf Go.Proofs.YtnplommdgfgboaaGreatDoor.TermPure Go.Proofs.YtnplommdgfgboaaGreatDoor.LinesPure Go.Proofs.YtnplommdgfgboaaGreatDoor.Tx Go.Proofs.YtnplommdgfgboaaGreatDoor.Env Go.Proofs.YtnplommdgfgboaaGreatDoor.Tri Go.Proofs.YtnplommdgfgboaaGreatDoor.SortP Go.Proofs.YtnplommdgfgboaaGreatDoor.Print Go.Proofs.YtnplommdgfgboaaGreatDoor.Cmp Go.Proofs.YtnplommdgfgboaaGreatDoor.Long
set_option maxHeartbeats 6400000 in
set_option maxRecDepth 100000 in
theorem refprint_calls (l : List Triple) (A : Option Addr) (c : Nat) (w : World) (HL : triK.sl.M w (fun k => k < w.heap.size) l [.slice A l.length c]) (hs : ∀ t ∈ l, SmallT t) (hn : (l.flatMap lineN).length ≤ 140737488355328) :
    Calls Tryz.prog 14 #[.slice A l.length c] w fun e w' => e = .returned (.string (mkS (l.flatMap lineN))) ∧ Below w.heap.size w w' := by
  have HR := Lib.hid (row_cells HL)
  have HS := Lib.hid hs
  have HN := Lib.hid hn
  have h47 := sl_len HL
  clear HL hs hn
  go_enter Tryz.func14, Tryz.ntmps14
  go_wp2
  go_loopw [3, 4] (fun v3 vi wr => ∃ (k : Nat) (S : List UInt8), vi = .int .i64 k ∧ v3 = .string (mkS S) ∧ k ≤ l.length ∧ Hid (S = (l.take k).flatMap lineN ∧ Below w.heap.size w wr)) (fun _ vi _ => l.length - (intOf vi).toNat)
  case atStart => exact ⟨0, [], rfl, rfl, by omega, Lib.hid ⟨rfl, Below.refl _ _⟩⟩
  case round =>
    obtain ⟨k, S, rfl, rfl, hkL, HI⟩ := hrel
    by_cases hlt : k < l.length
    · have hd : decide (k < l.length) = true := decide_eq_true hlt
      have ik : (k : Int) < (l.length : Int) := by omega
      obtain ⟨b, off, rfl, hbs, hcells⟩ := HR.out k hlt
      have hcx := (hcells k hlt).below HI.out.2
      obtain ⟨x, hx⟩ : ∃ x, x = l[k] := ⟨_, rfl⟩
      rw [← hx] at hcx
      have fs := HS.out x (by rw [hx]; exact List.getElem_mem hlt)
      have HT := Lib.hid (flat_take l k hlt)
      rw [← hx, ← HI.out.1] at HT
      have hle := flat_le HN.out k hlt (x := lineN x) (by rw [flat_take l k hlt, ← hx])
      rw [← HI.out.1] at hle
      have HB := Lib.hid HI.out.2
      clear hx hcells HI
      have HS1 := Lib.hid (fun w => RefCmp.show4_calls x.s fs.1 w)
      have HS2 := Lib.hid (fun w => RefCmp.show4_calls x.p fs.2.1 w)
      have HS3 := Lib.hid (fun w => RefCmp.show4_calls x.o fs.2.2 w)
      have HLN : Hid (lineN x = shown x.s ++ (32 :: (shown x.p ++ (32 :: (shown x.o ++ [32, 46, 10]))))) := Lib.hid rfl
      have hlen : (lineN x).length = (shown x.s).length + 1 + (shown x.p).length + 1 + (shown x.o).length + 3 := by rw [HLN.out]; simp; omega
      rw [hlen] at hle
      clear fs hlen
      have x0 := fun p => (hcx.bel p).c0
      have x1 := fun p => (hcx.bel p).c1
      have x2 := fun p => (hcx.bel p).c2
      have x3 := fun p => (hcx.bel p).c3
      have x4 := fun p => (hcx.bel p).c4
      have x5 := fun p => (hcx.bel p).c5
      have x6 := fun p => (hcx.bel p).c6
      have x7 := fun p => (hcx.bel p).c7
      have x8 := fun p => (hcx.bel p).c8
      obtain ⟨⟨sk, sx, se⟩, ⟨pk, px, pe⟩, ⟨ok, ox, oe⟩⟩ := x
      unfold Ref5.termV at HS1 HS2 HS3
      dsimp only at *
      generalize shown ⟨sk, sx, se⟩ = S1 at *
      generalize shown ⟨pk, px, pe⟩ = S2 at *
      generalize shown ⟨ok, ox, oe⟩ = S3 at *
      have y0 := mkS_size S
      have y1 := mkS_size S1
      have y2 := mkS_size S2
      have y3 := mkS_size S3
      have q1 : (⟨#[32]⟩ : ByteArray).size = 1 := rfl
      have q3 : (⟨#[32, 46, 10]⟩ : ByteArray).size = 3 := rfl
      have z0 : (mkS S ++ mkS S1).size = S.length + S1.length := by rw [ByteArray.size_append, y0, y1]
      have z1 : (mkS S ++ mkS S1 ++ (⟨#[32]⟩ : ByteArray)).size = S.length + S1.length + 1 := by rw [ByteArray.size_append, z0, q1]
      have z2 : (mkS S ++ mkS S1 ++ (⟨#[32]⟩ : ByteArray) ++ mkS S2).size = S.length + S1.length + 1 + S2.length := by rw [ByteArray.size_append, z1, y2]
      have z3 : (mkS S ++ mkS S1 ++ (⟨#[32]⟩ : ByteArray) ++ mkS S2 ++ (⟨#[32]⟩ : ByteArray)).size = S.length + S1.length + 1 + S2.length + 1 := by rw [ByteArray.size_append, z2, q1]
      have z4 : (mkS S ++ mkS S1 ++ (⟨#[32]⟩ : ByteArray) ++ mkS S2 ++ (⟨#[32]⟩ : ByteArray) ++ mkS S3).size = S.length + S1.length + 1 + S2.length + 1 + S3.length := by rw [ByteArray.size_append, z3, y3]
      have HCat : Hid (mkS S ++ mkS S1 ++ (⟨#[32]⟩ : ByteArray) ++ mkS S2 ++ (⟨#[32]⟩ : ByteArray) ++ mkS S3 ++ (⟨#[32, 46, 10]⟩ : ByteArray) = mkS (S ++ lineN ⟨⟨sk, sx, se⟩, ⟨pk, px, pe⟩, ⟨ok, ox, oe⟩⟩)) := Lib.hid (by
        rw [HLN.out, mkS_lit, mkS_lit, mkS_append, mkS_append, mkS_append, mkS_append, mkS_append, mkS_append]
        simp)
      go_upto_region 5 with fail
      refine QT.region_all (by kernel_rfl) (by kernel_rfl) ?_
      iterate 6 (go_big_quiet_step (fail))
      go_big_quiet_step (exact QT.Bel.call _ (HS1.out _))
      iterate 7 (go_big_quiet_step (fail))
      go_big_quiet_step (exact QT.Bel.call _ (HS2.out _))
      iterate 7 (go_big_quiet_step (fail))
      go_big_quiet_step (exact QT.Bel.call _ (HS3.out _))
      iterate 3 (go_big_quiet_step (fail))
      refine wpQuiet_nil ?_
      intro w2 hw'
      obtain ⟨⟨_, hb⟩, rfl⟩ := hw'
      have HW2 := Lib.hid (bel_step HB.out hb)
      clear hb x0 x1 x2 x3 x4 x5 x6 x7 x8 hcx HB
      go_wp2
      go_roundw
      case rel => exact ⟨k + 1, _, by go_num, by rw [HCat.out], by omega, Lib.hid ⟨HT.out.symm, HW2.out⟩⟩
      case measure => simp [intOf]; omega
    · have hd : decide (k < l.length) = false := decide_eq_false hlt
      obtain rfl : k = l.length := by omega
      have HV : Hid (S = l.flatMap lineN ∧ Below w.heap.size w wr) := Lib.hid ⟨by rw [HI.out.1, List.take_length], HI.out.2⟩
      clear HI
      go_wp2
      go_ret
      rw [← HV.out.1]
      exact ⟨rfl, HV.out.2⟩
end Go.Proofs.YtnplommdgfgboaaGreatDoor.SortW
set_option linter.unusedVariables false
set_option linter.unusedSimpArgs false
namespace Go.Proofs.YtnplommdgfgboaaGreatDoor.SPrint
open Go.Lib Go.Proofs.YtnplommdgfgboaaGreatDoor.TermPure Go.Proofs.YtnplommdgfgboaaGreatDoor.LinesPure Go.Proofs.YtnplommdgfgboaaGreatDoor.Tri Go.Proofs.YtnplommdgfgboaaGreatDoor.SortP Go.Proofs.YtnplommdgfgboaaGreatDoor.Print Go.Proofs.YtnplommdgfgboaaGreatDoor.ParseP Go.Proofs.YtnplommdgfgboaaGreatDoor.ParseOk
theorem lineN_eq (t : Triple) : lineN t = Round.lineT t ++ [10] := by
  unfold lineN Round.lineT
  simp
theorem stands_print (l : List Triple) (h : Valid l) : Stands (l.flatMap lineN) l l.length :=
  Stands.flat l fun t ht => by rw [lineN_eq]; exact Stands.shown (h t ht)
theorem parse_print {l : List Triple} (h : Valid l) (hl : l.length ≤ 100) (hx : (l.flatMap lineN).length ≤ 20000) : parse (l.flatMap lineN) = (sortT l, l.length, 0) :=
  (stands_print l h).parse h (by omega) hl hx
end Go.Proofs.YtnplommdgfgboaaGreatDoor.SPrint
set_option linter.unusedVariables false
set_option linter.unusedSimpArgs false
namespace Go.Proofs.YtnplommdgfgboaaGreatDoor.SPrint
open Go.Lib Go.Proofs.YtnplommdgfgboaaGreatDoor.TermPure Go.Proofs.YtnplommdgfgboaaGreatDoor.LinesPure Go.Proofs.YtnplommdgfgboaaGreatDoor.Tri Go.Proofs.YtnplommdgfgboaaGreatDoor.SortP Go.Proofs.YtnplommdgfgboaaGreatDoor.Print Go.Proofs.YtnplommdgfgboaaGreatDoor.ParseP Go.Proofs.YtnplommdgfgboaaGreatDoor.ParseOk
theorem putAll_in (l : List Triple) (x : Triple) : x ∈ putAll [] l ↔ x ∈ l := by
  have := putAll_mem l [] x
  unfold putAll
  rw [this]
  simp
/-- Of unlike sets the texts are unlike. -/
theorem print_inj {T U : List Triple} (hT : Valid T) (hU : Valid U) (rT : Rise T) (rU : Rise U) (lT : T.length ≤ 100) (lU : U.length ≤ 100) (h : T.flatMap lineN = U.flatMap lineN) : T = U := by
  have a := stands_print T hT [] [] 0 (by omega) (by simpa using Nat.le_trans (by simp) lT)
  have b := stands_print U hU [] [] 0 (by omega) (by simpa using Nat.le_trans (by simp) lU)
  rw [h] at a
  have e := a.symm.trans b
  rw [pg_nil, pg_nil] at e
  have e1 : sortT (putAll [] T) = sortT (putAll [] U) := congrArg (fun r => r.1) e
  have vT : Valid (putAll [] T) := fun x hx => hT x ((putAll_in T x).1 hx)
  have vU : Valid (putAll [] U) := fun x hx => hU x ((putAll_in U x).1 hx)
  refine rise_eq rT rU fun x => ?_
  rw [← putAll_in T x, ← putAll_in U x, ← sortT_mem vT x, ← sortT_mem vU x, e1]
end Go.Proofs.YtnplommdgfgboaaGreatDoor.SPrint
set_option linter.unusedVariables false
set_option linter.unusedSimpArgs false
namespace Go.Proofs.YtnplommdgfgboaaGreatDoor.Known
open Go.RowKit Go.Lib Go.Proofs.YtnplommdgfgboaaGreatDoor.B Go.Proofs.YtnplommdgfgboaaGreatDoor.Rd Go.Proofs.YtnplommdgfgboaaGreatDoor.Utf Go.Proofs.YtnplommdgfgboaaGreatDoor.TermPure Go.Proofs.YtnplommdgfgboaaGreatDoor.LinesPure Go.Proofs.YtnplommdgfgboaaGreatDoor.Tx Go.Proofs.YtnplommdgfgboaaGreatDoor.Env Go.Proofs.YtnplommdgfgboaaGreatDoor.Tri Go.Proofs.YtnplommdgfgboaaGreatDoor.Ref5
/-- A row of one triple, just laid. -/
theorem one_row (w : World) (t : Triple) (ht : FitsW3 t) : triK.sl.M (w.alloc (.cells (triL t).toArray 36)) (fun k => k < (w.alloc (.cells (triL t).toArray 36)).heap.size) [t] [.slice (some ⟨w.heap.size, 0, none⟩) 1 1] := by
  refine ⟨some ⟨w.heap.size, 0, none⟩, 1, rfl, Nat.le_refl _, ⟨by simp, by unfold maxLen; omega⟩, fun h => (by cases h), fun i x hx => ?_⟩
  cases i with
  | zero =>
    simp at hx
    subst hx
    refine ⟨_, triL t, rfl, by simp, ⟨rfl, ht⟩, fun j u hu => ?_⟩
    rw [Nat.zero_mul, Nat.zero_add, add_plain, World.cell?, Kd.heap_new]
    simpa using hu
  | succ i => simp at hx
end Go.Proofs.YtnplommdgfgboaaGreatDoor.Known

/-
  Which terms and triples may be, the program's way.
-/
import Derived.Test.YtmcoloapiiakbaaGreatDoorPrg8
set_option linter.unusedVariables false
set_option linter.unusedSimpArgs false
namespace Go.Proofs.YtmcoloapiiakbaaGreatDoor.Prg
open Go.RowKit Go.Lib Go.Proofs.YtmcoloapiiakbaaGreatDoor.B Go.Proofs.YtmcoloapiiakbaaGreatDoor.Rd Go.Proofs.YtmcoloapiiakbaaGreatDoor.Utf Go.Proofs.YtmcoloapiiakbaaGreatDoor.TermPure Go.Proofs.YtmcoloapiiakbaaGreatDoor.LinesPure Go.Proofs.YtmcoloapiiakbaaGreatDoor.Tx Go.Proofs.YtmcoloapiiakbaaGreatDoor.Env Go.Proofs.YtmcoloapiiakbaaGreatDoor.Bld Go.Proofs.YtmcoloapiiakbaaGreatDoor.Tc
open Go.Proofs.YtmcoloapiiakbaaGreatDoor.Ref5 (termV Fits tripleV FitsT isTriple_eq)

set_option maxRecDepth 100000 in
set_option maxHeartbeats 3200000 in
theorem pis_calls (t : Term) (ht : Fits t) (hx4 : t.extra.length ≤ 4294967000) (w : World) (he : Env w) :
    Calls Tryz.prog 37 #[termV t] w fun e w' => e = .returned (.bool (is t)) ∧ Below w.heap.size w w' := by
  obtain ⟨kind, x, ex⟩ := t
  obtain ⟨_, hx, hex⟩ := ht
  dsimp only at *
  have zx := mkS_size x
  have ze := mkS_toList ex
  have HE := Lib.hid he
  have HI : Hid (is ⟨kind, x, ex⟩ = if kind = 1 then isIRI x && decide (ex = [])
    else if kind = 2 then isLabel x && decide (ex = [])
    else if kind = 3 then isText x && decide (ex = [])
    else if kind = 4 then isText x && isLang ex
    else if kind = 5 then isText x && isIRI ex
    else false) := Lib.hid rfl
  obtain ⟨xe, hxe⟩ : ∃ xe : Bool, decide (ex = []) = xe := ⟨_, rfl⟩
  have hee : ex.isEmpty = xe := by rw [← hxe]; cases ex <;> rfl
  rw [hxe] at HI
  clear he hxe
  unfold termV
  dsimp only
  go_enter Tryz.func37, Tryz.ntmps37
  go_upto_region 1 with fail
  go_cut [3] (fun v3 wx => v3 = .bool (isText x) ∧ Hid (Below (w.heap.size + 1) (w.alloc (.cells #[.int .i64 kind, .string (mkS x), .string (mkS ex)] 23)) wx))
  case first =>
    clear hee HI
    have HT : Hid (isText x = (decide (x.length ≤ 30) && validD x)) := Lib.hid rfl
    by_cases h30 : x.length ≤ 30
    · have e30 : decide ((x.length : Int) ≤ 30) = true := decide_eq_true (by omega)
      go_wp2_with fail
      refine (valid_calls x (by omega) _ (HE.out.below ((Below.refl _ _).alloc (Nat.le_refl _) _))).mono ?_
      rintro e w1 ⟨rfl, hb1⟩
      have HB1 := Lib.hid hb1
      clear hb1
      have HT2 := Lib.hid (show isText x = validD x by rw [HT.out, decide_eq_true h30]; simp)
      generalize validD x = v at *
      cases v
      all_goals go_wp2
      all_goals go_meet
      all_goals exact ⟨by rw [HT2.out], Lib.hid (by simpa using HB1.out)⟩
    · have e30 : decide ((x.length : Int) ≤ 30) = false := decide_eq_false (by omega)
      have HT2 := Lib.hid (show isText x = false by rw [HT.out, decide_eq_false h30]; rfl)
      go_wp2
      go_meet
      exact ⟨by rw [HT2.out], Lib.hid (Below.refl _ _)⟩
  case rest =>
    obtain ⟨rfl, HB⟩ := hcut
    have hb1 := HB.out
    have hb1' : Below (w.alloc (.cells #[.int .i64 kind, .string (mkS x), .string (mkS ex)] 23)).heap.size (w.alloc (.cells #[.int .i64 kind, .string (mkS x), .string (mkS ex)] 23)) wc := by simpa using hb1
    obtain ⟨hc1, hf1⟩ := bcell hb1'
    have HW := Lib.hid (show Below w.heap.size w wc from ((Below.refl _ _).alloc (Nat.le_refl _) _).trans (hb1.mono (by omega)))
    have HE1 := Lib.hid (HE.out.below HW.out)
    have WC : w.heap.size < wc.heap.size := by have := hb1.size; simp at this; omega
    clear hb1 hb1' HB HE
    generalize isText x = tx at *
    by_cases k1 : kind = 1
    · subst k1
      have HF := Lib.hid (HI.out.trans (if_pos rfl))
      clear HI
      go_wp2_with fail
      refine (isIRI_calls x (by omega) _ HE1.out).mono ?_
      rintro e w2 ⟨rfl, hb2⟩
      obtain ⟨hc2, hf2⟩ := bcell hb2
      have hz2 := hb2.size
      have HW2 := Lib.hid (bel_step HW.out hb2)
      have hz1 : w.heap.size < wc.heap.size := WC
      clear hb2
      generalize isIRI x = r at *
      cases r
      all_goals go_wp2
      all_goals go_ret
      all_goals exact ⟨ret_bool (by rw [HF.out]; simp [*]), HW2.out⟩
    · have e1 : (kind == 1) = false := by rw [beq_eq_false_iff_ne]; exact k1
      by_cases k2 : kind = 2
      · subst k2
        have HF := Lib.hid (HI.out.trans ((if_neg (by decide)).trans (if_pos rfl)))
        clear HI
        go_wp2_with fail
        refine (isLabel_calls x (by omega) _).mono ?_
        rintro e w2 ⟨rfl, hb2⟩
        obtain ⟨hc2, hf2⟩ := bcell hb2
        have hz2 := hb2.size
        have HW2 := Lib.hid (bel_step HW.out hb2)
        have hz1 : w.heap.size < wc.heap.size := WC
        clear hb2
        generalize isLabel x = r at *
        cases r
        all_goals go_wp2
        all_goals go_ret
        all_goals exact ⟨ret_bool (by rw [HF.out]; simp [*]), HW2.out⟩
      · have e2 : (kind == 2) = false := by rw [beq_eq_false_iff_ne]; exact k2
        by_cases k3 : kind = 3
        · subst k3
          have HF := Lib.hid (HI.out.trans ((if_neg (by decide)).trans ((if_neg (by decide)).trans (if_pos rfl))))
          clear HI
          cases tx with
          | false =>
            go_wp2
            all_goals go_ret
            all_goals exact ⟨ret_bool (by rw [HF.out]; simp [*]), HW.out⟩
          | true =>
            go_wp2
            all_goals go_ret
            all_goals exact ⟨ret_bool (by rw [HF.out]; simp [*]), HW.out⟩
        · have e3 : (kind == 3) = false := by rw [beq_eq_false_iff_ne]; exact k3
          by_cases k4 : kind = 4
          · subst k4
            have HF := Lib.hid (HI.out.trans ((if_neg (by decide)).trans ((if_neg (by decide)).trans ((if_neg (by decide)).trans (if_pos rfl)))))
            clear HI
            cases tx with
            | false =>
              go_wp2
              all_goals go_ret
              all_goals exact ⟨ret_bool (by rw [HF.out]; simp [*]), HW.out⟩
            | true =>
              go_wp2_with fail
              refine (isLang_calls ex (by omega) _ HE1.out).mono ?_
              rintro e w2 ⟨rfl, hb2⟩
              obtain ⟨hc2, hf2⟩ := bcell hb2
              have hz2 := hb2.size
              have HW2 := Lib.hid (bel_step HW.out hb2)
              have hz1 : w.heap.size < wc.heap.size := WC
              clear hb2
              generalize isLang ex = r at *
              cases r
              all_goals go_wp2
              all_goals go_ret
              all_goals exact ⟨ret_bool (by rw [HF.out]; simp [*]), HW2.out⟩
          · have e4 : (kind == 4) = false := by rw [beq_eq_false_iff_ne]; exact k4
            by_cases k5 : kind = 5
            · subst k5
              have HF := Lib.hid (HI.out.trans ((if_neg (by decide)).trans ((if_neg (by decide)).trans ((if_neg (by decide)).trans ((if_neg (by decide)).trans (if_pos rfl))))))
              clear HI
              cases tx with
              | false =>
                go_wp2
                all_goals go_ret
                all_goals exact ⟨ret_bool (by rw [HF.out]; simp [*]), HW.out⟩
              | true =>
                go_wp2_with fail
                refine (isIRI_calls ex (by omega) _ HE1.out).mono ?_
                rintro e w2 ⟨rfl, hb2⟩
                obtain ⟨hc2, hf2⟩ := bcell hb2
                have hz2 := hb2.size
                have HW2 := Lib.hid (bel_step HW.out hb2)
                have hz1 : w.heap.size < wc.heap.size := WC
                clear hb2
                generalize isIRI ex = r at *
                cases r
                all_goals go_wp2
                all_goals go_ret
                all_goals exact ⟨ret_bool (by rw [HF.out]; simp [*]), HW2.out⟩
            · have e5 : (kind == 5) = false := by rw [beq_eq_false_iff_ne]; exact k5
              have HF := Lib.hid (HI.out.trans ((if_neg k1).trans ((if_neg k2).trans ((if_neg k3).trans ((if_neg k4).trans (if_neg k5))))))
              clear HI
              go_wp2
              go_ret
              exact ⟨ret_bool HF.out.symm, HW.out⟩
set_option maxRecDepth 100000 in
set_option maxHeartbeats 3200000 in
theorem pist_calls (t : Triple) (ht : FitsT t) (hg : t.s.extra.length ≤ 4294967000 ∧ t.p.extra.length ≤ 4294967000 ∧ t.o.extra.length ≤ 4294967000) (w : World) (he : Env w) :
    Calls Tryz.prog 17 #[tripleV t] w fun e w' => e = .returned (.bool (isTriple t)) ∧ Below w.heap.size w w' := by
  have HI := Lib.hid (isTriple_eq t)
  obtain ⟨⟨k1, x1, y1⟩, ⟨k2, x2, y2⟩, ⟨k3, x3, y3⟩⟩ := t
  obtain ⟨h1, h2, h3⟩ := ht
  obtain ⟨g1, g2, g3⟩ := hg
  dsimp only at *
  have HE := Lib.hid (he.below ((Below.refl w.heap.size w).alloc (Nat.le_refl _) (.cells #[.int .i64 k1, .string (mkS x1), .string (mkS y1), .int .i64 k2, .string (mkS x2), .string (mkS y2), .int .i64 k3, .string (mkS x3), .string (mkS y3)] 25)))
  have HB := Lib.hid ((Below.refl w.heap.size w).alloc (Nat.le_refl _) (.cells #[.int .i64 k1, .string (mkS x1), .string (mkS y1), .int .i64 k2, .string (mkS x2), .string (mkS y2), .int .i64 k3, .string (mkS x3), .string (mkS y3)] 25))
  have H1 := Lib.hid (fun W hW => pis_calls ⟨k1, x1, y1⟩ h1 g1 W hW)
  have H2 := Lib.hid (fun W hW => pis_calls ⟨k2, x2, y2⟩ h2 g2 W hW)
  have H3 := Lib.hid (fun W hW => pis_calls ⟨k3, x3, y3⟩ h3 g3 W hW)
  clear he h1 h2 h3 g1 g2 g3
  have HK := Lib.hid (Ref5.is_kind ⟨k1, x1, y1⟩)
  dsimp only at HK
  unfold termV at H1 H2 H3
  dsimp only at H1 H2 H3
  generalize is ⟨k1, x1, y1⟩ = r1 at *
  generalize is ⟨k2, x2, y2⟩ = r2 at *
  generalize is ⟨k3, x3, y3⟩ = r3 at *
  unfold tripleV
  dsimp only
  go_enter Tryz.func17, Tryz.ntmps17
  go_wp2_with fail
  refine (H1.out _ HE.out).mono ?_
  rintro e w1 ⟨rfl, hb1⟩
  obtain ⟨hc1, hf1⟩ := bcell hb1
  have hz1 : w.heap.size < w1.heap.size := by have := hb1.size; simp at this; omega
  have HB1 := Lib.hid (bel_step HB.out hb1)
  have HE1 := Lib.hid (HE.out.below hb1)
  clear hb1
  cases r1 with
  | false =>
    have HF := Lib.hid HI.out
    go_wp2
    go_ret
    exact ⟨ret_bool (by rw [HI.out]; rfl), HB1.out⟩
  | true =>
    go_wp2_with fail
    refine (H2.out _ HE1.out).mono ?_
    rintro e w2 ⟨rfl, hb2⟩
    obtain ⟨hc2, hf2⟩ := bcell hb2
    have hz2 : w.heap.size < w2.heap.size := by have := hb2.size; omega
    have HB2 := Lib.hid (bel_step HB1.out hb2)
    have HE2 := Lib.hid (HE1.out.below hb2)
    clear hb2
    cases r2 with
    | false =>
      go_wp2
      go_ret
      exact ⟨ret_bool (by rw [HI.out]; rfl), HB2.out⟩
    | true =>
      go_wp2_with fail
      refine (H3.out _ HE2.out).mono ?_
      rintro e w3 ⟨rfl, hb3⟩
      obtain ⟨hc3, hf3⟩ := bcell hb3
      have hz3 : w.heap.size < w3.heap.size := by have := hb3.size; omega
      have HB3 := Lib.hid (bel_step HB2.out hb3)
      clear hb3
      cases r3 with
      | false =>
        go_wp2
        go_ret
        exact ⟨ret_bool (by rw [HI.out]; rfl), HB3.out⟩
      | true =>
        have HF : Hid (isTriple ⟨⟨k1, x1, y1⟩, ⟨k2, x2, y2⟩, ⟨k3, x3, y3⟩⟩ = (((k1 == 1) || (k1 == 2)) && (k2 == 1))) := Lib.hid (by
          have hk := HK.out (by first | rfl | trivial)
          rw [HI.out]
          simp only [Bool.true_and]
          congr 1
          rw [Bool.eq_iff_iff]
          simp
          omega)
        clear HI HK
        obtain ⟨q1, hq1⟩ : ∃ q : Bool, (k1 == 1) = q := ⟨_, rfl⟩
        obtain ⟨q2, hq2⟩ : ∃ q : Bool, (k1 == 2) = q := ⟨_, rfl⟩
        obtain ⟨q3, hq3⟩ : ∃ q : Bool, (k2 == 1) = q := ⟨_, rfl⟩
        rw [hq1, hq2, hq3] at HF
        cases q1
        all_goals cases q2
        all_goals cases q3
        all_goals go_wp2
        all_goals go_ret
        all_goals exact ⟨ret_bool (by rw [HF.out]; rfl), HB3.out⟩
end Go.Proofs.YtmcoloapiiakbaaGreatDoor.Prg

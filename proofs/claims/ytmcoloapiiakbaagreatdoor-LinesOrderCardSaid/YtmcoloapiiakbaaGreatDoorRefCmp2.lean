/-
  How the reference shows terms and sets them in order: the rest.
-/
import Derived.Test.YtmcoloapiiakbaaGreatDoorRefCmp
set_option linter.unusedVariables false
set_option linter.unusedSimpArgs false
namespace Go.Proofs.YtmcoloapiiakbaaGreatDoor.RefCmp
open Go.RowKit Go.Lib Go.Proofs.YtmcoloapiiakbaaGreatDoor.B Go.Proofs.YtmcoloapiiakbaaGreatDoor.Rd Go.Proofs.YtmcoloapiiakbaaGreatDoor.Utf Go.Proofs.YtmcoloapiiakbaaGreatDoor.TermPure Go.Proofs.YtmcoloapiiakbaaGreatDoor.LinesPure Go.Proofs.YtmcoloapiiakbaaGreatDoor.Tx Go.Proofs.YtmcoloapiiakbaaGreatDoor.Env Go.Proofs.YtmcoloapiiakbaaGreatDoor.Tri Go.Proofs.YtmcoloapiiakbaaGreatDoor.SortP Go.Proofs.YtmcoloapiiakbaaGreatDoor.Print Go.Proofs.YtmcoloapiiakbaaGreatDoor.Cmp

set_option maxHeartbeats 1600000 in
theorem show4_calls (t : Term) (ht : SmallM t) (w : World) :
    Calls Tryz.prog 47 #[Ref5.termV t] w fun e w' => e = .returned (.string (mkS (shown t))) ∧ Below w.heap.size w w' := by
  obtain ⟨kind, x, ex⟩ := t
  obtain ⟨hx, hex⟩ := ht
  dsimp only at hx hex
  have HQ := Lib.hid (fun w => escaped_calls x hx w)
  have hql := Show.flat_len x
  have zx := mkS_size x
  have ze := mkS_size ex
  unfold Ref5.termV
  dsimp only
  have HBX := Lib.hid (fun k => Tc.TC.new w ⟨k, x, ex⟩)
  have HBe := Lib.hid (fun (k : Int) => bel_alloc (Below.refl w.heap.size w) (.cells #[.int .i64 k, .string (mkS x), .string (mkS ex)] 23))
  by_cases h1 : kind = 1
  · subst h1
    have z1 : (⟨#[60]⟩ : ByteArray).size = 1 := rfl
    have z2 : ((⟨#[60]⟩ : ByteArray) ++ mkS x).size = 1 + x.length := by rw [ByteArray.size_append, z1, zx]
    have z3 : (⟨#[62]⟩ : ByteArray).size = 1 := rfl
    go_enter Tryz.func47, Tryz.ntmps47
    go_wp2
    go_ret
    exact ⟨ret_str (by rw [mkS_lit, mkS_lit, mkS_append, mkS_append]; rfl), HBe.out _⟩
  have e1 : (kind == 1) = false := by rw [beq_eq_false_iff_ne]; exact h1
  by_cases h2 : kind = 2
  · subst h2
    have z1 : (⟨#[95, 58]⟩ : ByteArray).size = 2 := rfl
    go_enter Tryz.func47, Tryz.ntmps47
    go_wp2
    go_ret
    exact ⟨ret_str (by rw [mkS_lit, mkS_append]; rfl), HBe.out _⟩
  have e2 : (kind == 2) = false := by rw [beq_eq_false_iff_ne]; exact h2
  have HS0 : Hid (¬ kind = 1 ∧ ¬ kind = 2) := Lib.hid ⟨h1, h2⟩
  clear h1 h2
  have HQe : Hid (TermPure.quoted x = 34 :: (x.flatMap escB ++ [34])) := Lib.hid rfl
  generalize x.flatMap escB = q at *
  have zq := mkS_size q
  have y1 : (⟨#[34]⟩ : ByteArray).size = 1 := rfl
  have y2 : ((⟨#[34]⟩ : ByteArray) ++ mkS q).size = 1 + q.length := by rw [ByteArray.size_append, y1, zq]
  have y3 : ((⟨#[34]⟩ : ByteArray) ++ mkS q ++ (⟨#[34]⟩ : ByteArray)).size = 1 + q.length + 1 := by rw [ByteArray.size_append, y2, y1]
  have z1 : (⟨#[64]⟩ : ByteArray).size = 1 := rfl
  have z3 : (⟨#[62]⟩ : ByteArray).size = 1 := rfl
  have z5 : (⟨#[94, 94, 60]⟩ : ByteArray).size = 3 := rfl
  have y4 : ((⟨#[34]⟩ : ByteArray) ++ mkS q ++ (⟨#[34]⟩ : ByteArray) ++ (⟨#[64]⟩ : ByteArray)).size = 1 + q.length + 1 + 1 := by rw [ByteArray.size_append, y3, z1]
  have y5 : ((⟨#[34]⟩ : ByteArray) ++ mkS q ++ (⟨#[34]⟩ : ByteArray) ++ (⟨#[94, 94, 60]⟩ : ByteArray)).size = 1 + q.length + 1 + 3 := by rw [ByteArray.size_append, y3, z5]
  have y6 : ((⟨#[34]⟩ : ByteArray) ++ mkS q ++ (⟨#[34]⟩ : ByteArray) ++ (⟨#[94, 94, 60]⟩ : ByteArray) ++ mkS ex).size = 1 + q.length + 1 + 3 + ex.length := by rw [ByteArray.size_append, y5, ze]
  have HK : Hid (kind = 4 ∨ kind = 5 ∨ (¬ kind = 4 ∧ ¬ kind = 5)) := Lib.hid (by omega)
  go_enter Tryz.func47, Tryz.ntmps47
  go_wp2_with fail
  refine (HQ.out _).mono ?_
  rintro e w2 ⟨rfl, hb⟩
  have HB := Lib.hid (bel_step (HBe.out kind) hb)
  obtain ⟨k0, k1, k2, _, _, _⟩ := (HBX.out kind).below hb
  dsimp only at k0 k1 k2
  clear hb
  rcases HK.out with h4 | h5 | ⟨h4, h5⟩
  · subst h4
    have HS : Hid (shown ⟨4, x, ex⟩ = TermPure.quoted x ++ 64 :: ex) := Lib.hid rfl
    go_wp2
    go_ret
    exact ⟨ret_str (by rw [HS.out, HQe.out, mkS_lit, mkS_lit, mkS_append, mkS_append, mkS_append, mkS_append]; simp), HB.out⟩
  · subst h5
    have HS : Hid (shown ⟨5, x, ex⟩ = TermPure.quoted x ++ (94 :: 94 :: 60 :: (ex ++ [62]))) := Lib.hid rfl
    go_wp2
    go_ret
    exact ⟨ret_str (by rw [HS.out, HQe.out, mkS_lit, mkS_lit, mkS_lit, mkS_append, mkS_append, mkS_append, mkS_append, mkS_append]; simp), HB.out⟩
  · have e4 : (kind == 4) = false := by rw [beq_eq_false_iff_ne]; exact h4
    have e5 : (kind == 5) = false := by rw [beq_eq_false_iff_ne]; exact h5
    have HS : Hid (shown ⟨kind, x, ex⟩ = TermPure.quoted x) := Lib.hid (by unfold shown; dsimp only; rw [if_neg HS0.out.1, if_neg HS0.out.2, if_neg h4, if_neg h5])
    clear h4 h5
    go_wp2
    go_ret
    exact ⟨ret_str (by rw [HS.out, HQe.out, mkS_lit, mkS_append, mkS_append]; rfl), HB.out⟩
set_option maxHeartbeats 1600000 in
theorem cmp4_calls (a b : Term) (ha : SmallM a) (hb : SmallM b) (w : World) : Calls Tryz.prog 36 #[Ref5.termV a, Ref5.termV b] w fun e w' => e = .returned (.int .i64 (cmpTm a b)) ∧ Below w.heap.size w w' := by
  obtain ⟨k, x, ex⟩ := a
  obtain ⟨k', x', ex'⟩ := b
  have H1 := Lib.hid (fun w => show4_calls ⟨k, x, ex⟩ ha w)
  have H2 := Lib.hid (fun w => show4_calls ⟨k', x', ex'⟩ hb w)
  have HV : Hid (cmpTm ⟨k, x, ex⟩ ⟨k', x', ex'⟩ = SortP.cmpL (shown ⟨k, x, ex⟩) (shown ⟨k', x', ex'⟩)) := Lib.hid rfl
  generalize shown ⟨k, x, ex⟩ = S1 at *
  generalize shown ⟨k', x', ex'⟩ = S2 at *
  have HX := Lib.hid (fun p => box2 w k x ex k' x' ex' p)
  have HBe := Lib.hid (bel_alloc (bel_alloc (Below.refl w.heap.size w) (.cells #[.int .i64 k, .string (mkS x), .string (mkS ex)] 23)) (.cells #[.int .i64 k', .string (mkS x'), .string (mkS ex')] 23))
  have a0 := fun p => (HX.out p).1.1
  have a1 := fun p => (HX.out p).1.2.1
  have a2 := fun p => (HX.out p).1.2.2
  have b0 := fun p => (HX.out p).2.1
  have b1 := fun p => (HX.out p).2.2.1
  have b2 := fun p => (HX.out p).2.2.2
  have hl := less_eq S1 S2
  have he := beq_eq S1 S2
  have HCases : Hid ((decide (S1 < S2) = true ∧ SortP.cmpL S1 S2 = -1) ∨ (decide (S1 < S2) = false ∧ decide (S1 = S2) = true ∧ SortP.cmpL S1 S2 = 0) ∨ (decide (S1 < S2) = false ∧ decide (S1 = S2) = false ∧ SortP.cmpL S1 S2 = 1)) := Lib.hid (by
    rcases SortP.cmpL_three S1 S2 with h | h | h
    · exact .inl ⟨decide_eq_true ((SortP.cmpL_neg S1 S2).1 (by rw [h]; decide)), h⟩
    · have := (SortP.cmpL_zero S1 S2).1 h
      exact .inr (.inl ⟨decide_eq_false (by rw [this]; exact List.lt_irrefl _), decide_eq_true this, h⟩)
    · refine .inr (.inr ⟨decide_eq_false (fun h' => ?_), decide_eq_false (fun h' => ?_), h⟩)
      · have := (SortP.cmpL_neg S1 S2).2 h'; omega
      · have := (SortP.cmpL_zero S1 S2).2 h'; omega)
  unfold Ref5.termV
  dsimp only
  clear ha hb
  rcases HCases.out with ⟨c1, c3⟩ | ⟨c1, c2, c3⟩ | ⟨c1, c2, c3⟩
  all_goals
    rw [c1] at hl
    try rw [c2] at he
    have HC3 := Lib.hid c3
    clear c1 c3 HCases
    try clear c2
    go_enter Tryz.func36, Tryz.ntmps36
    go_upto_region 1 with fail
    refine QT.region_all (by kernel_rfl) (by kernel_rfl) ?_
    iterate 1 (go_big_quiet_step (fail))
    go_big_quiet_step (exact QT.Bel.call _ (H1.out _))
    iterate 1 (go_big_quiet_step (fail))
    go_big_quiet_step (exact QT.Bel.call _ (H2.out _))
    repeat (go_big_quiet_step (fail))
    refine wpQuiet_nil ?_
    intro w2 hw'
    obtain ⟨⟨_, hb⟩, rfl⟩ := hw'
    have HB := Lib.hid (bel_step HBe.out hb)
    clear hb a0 a1 a2 b0 b1 b2
    go_wp2
    go_ret
    exact ⟨by rw [HV.out, HC3.out]; rfl, HB.out⟩
set_option maxHeartbeats 3200000 in
set_option maxRecDepth 100000 in
theorem cmp5_calls (a b : Triple) (ha : SmallT a) (hb : SmallT b) (w : World) : Calls Tryz.prog 16 #[Ref5.tripleV a, Ref5.tripleV b] w fun e w' => e = .returned (.int .i64 (cmpT a b)) ∧ Below w.heap.size w w' := by
  have HX := Lib.hid (fun p => box18 w a b p)
  have H1 := Lib.hid (fun w => cmp4_calls a.s b.s ha.1 hb.1 w)
  have H2 := Lib.hid (fun w => cmp4_calls a.p b.p ha.2.1 hb.2.1 w)
  have H3 := Lib.hid (fun w => cmp4_calls a.o b.o ha.2.2 hb.2.2 w)
  have HV : Hid (cmpT a b = orI (cmpTm a.s b.s) (cmpTm a.p b.p) (cmpTm a.o b.o)) := Lib.hid rfl
  have HBe := Lib.hid (bel_alloc (bel_alloc (Below.refl w.heap.size w) (.cells #[.int .i64 a.s.kind, .string (mkS a.s.text), .string (mkS a.s.extra), .int .i64 a.p.kind, .string (mkS a.p.text), .string (mkS a.p.extra), .int .i64 a.o.kind, .string (mkS a.o.text), .string (mkS a.o.extra)] 25)) (.cells #[.int .i64 b.s.kind, .string (mkS b.s.text), .string (mkS b.s.extra), .int .i64 b.p.kind, .string (mkS b.p.text), .string (mkS b.p.extra), .int .i64 b.o.kind, .string (mkS b.o.text), .string (mkS b.o.extra)] 25))
  have HZ := Lib.hid (show ((w.alloc (.cells #[.int .i64 a.s.kind, .string (mkS a.s.text), .string (mkS a.s.extra), .int .i64 a.p.kind, .string (mkS a.p.text), .string (mkS a.p.extra), .int .i64 a.o.kind, .string (mkS a.o.text), .string (mkS a.o.extra)] 25)).alloc (.cells #[.int .i64 b.s.kind, .string (mkS b.s.text), .string (mkS b.s.extra), .int .i64 b.p.kind, .string (mkS b.p.text), .string (mkS b.p.extra), .int .i64 b.o.kind, .string (mkS b.o.text), .string (mkS b.o.extra)] 25)).heap.size = w.heap.size + 2 by simp)
  generalize cmpTm a.s b.s = v1 at *
  generalize cmpTm a.p b.p = v2 at *
  generalize cmpTm a.o b.o = v3 at *
  obtain ⟨⟨sk, sx, se⟩, ⟨pk, px, pe⟩, ⟨ok, ox, oe⟩⟩ := a
  obtain ⟨⟨sk', sx', se'⟩, ⟨pk', px', pe'⟩, ⟨ok', ox', oe'⟩⟩ := b
  unfold Ref5.tripleV
  dsimp only
  clear ha hb
  go_enter Tryz.func16, Tryz.ntmps16
  go_wp2_with fail
  refine (H1.out _).mono ?_
  rintro e w2 ⟨rfl, hb2⟩
  have HB2 := Lib.hid hb2
  clear hb2
  by_cases n1 : v1 = 0
  · subst n1
    obtain ⟨⟨a0, a1, a2, a3, a4, a5, a6, a7, a8⟩, b0, b1, b2, b3, b4, b5, b6, b7, b8⟩ := HX.out ⟨w2, HB2.out⟩
    dsimp only at a0 a1 a2 a3 a4 a5 a6 a7 a8 b0 b1 b2 b3 b4 b5 b6 b7 b8
    go_wp2_with fail
    refine (H2.out _).mono ?_
    rintro e w3 ⟨rfl, hb3⟩
    have HB3 := Lib.hid (bel_step HB2.out hb3)
    clear hb3 a0 a1 a2 a3 a4 a5 a6 a7 a8 b0 b1 b2 b3 b4 b5 b6 b7 b8
    by_cases n2 : v2 = 0
    · subst n2
      obtain ⟨⟨a0, a1, a2, a3, a4, a5, a6, a7, a8⟩, b0, b1, b2, b3, b4, b5, b6, b7, b8⟩ := HX.out ⟨w3, HB3.out⟩
      dsimp only at a0 a1 a2 a3 a4 a5 a6 a7 a8 b0 b1 b2 b3 b4 b5 b6 b7 b8
      have HV' : Hid (orI 0 0 v3 = v3) := Lib.hid rfl
      go_wp2_with fail
      refine (H3.out _).mono ?_
      rintro e w4 ⟨rfl, hb4⟩
      have HB4 := Lib.hid (bel_step HB3.out hb4)
      clear hb4 a0 a1 a2 a3 a4 a5 a6 a7 a8 b0 b1 b2 b3 b4 b5 b6 b7 b8
      go_wp2
      go_ret
      exact ⟨by rw [HV.out, HV'.out]; rfl, bel_step HBe.out HB4.out⟩
    · have hn : (v2 == 0) = false := by rw [beq_eq_false_iff_ne]; exact n2
      have HV' : Hid (orI 0 v2 v3 = v2) := Lib.hid (by unfold orI; rw [if_neg (by simp), if_pos n2])
      clear n2
      go_wp2
      go_ret
      exact ⟨by rw [HV.out, HV'.out]; rfl, bel_step HBe.out HB3.out⟩
  · have hn : (v1 == 0) = false := by rw [beq_eq_false_iff_ne]; exact n1
    have HV' : Hid (orI v1 v2 v3 = v1) := Lib.hid (by unfold orI; rw [if_pos n1])
    clear n1
    go_wp2
    go_ret
    exact ⟨by rw [HV.out, HV'.out]; rfl, bel_step HBe.out HB2.out⟩
end Go.Proofs.YtmcoloapiiakbaaGreatDoor.RefCmp

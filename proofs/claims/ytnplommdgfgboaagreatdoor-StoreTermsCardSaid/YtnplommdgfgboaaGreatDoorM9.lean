/-
  Texts of the claim, one behind the other: Long11, RefPrint, SPrint, STerms.
-/
import Derived.Test.YtnplommdgfgboaaGreatDoorM8
/-
  triviumlaw11.long, walked: are triples more than is looked at, or is one none?
-/
set_option linter.unusedVariables false
set_option linter.unusedSimpArgs false
namespace Go.Proofs.YtnplommdgfgboaaGreatDoor.Long11
open Go.RowKit Go.Lib Go.Proofs.YtnplommdgfgboaaGreatDoor.B Go.Proofs.YtnplommdgfgboaaGreatDoor.Rd Go.Proofs.YtnplommdgfgboaaGreatDoor.TermPure Go.Proofs.YtnplommdgfgboaaGreatDoor.LinesPure Go.Proofs.YtnplommdgfgboaaGreatDoor.Tri Go.Proofs.YtnplommdgfgboaaGreatDoor.SortP Go.Proofs.YtnplommdgfgboaaGreatDoor.Print Go.Proofs.YtnplommdgfgboaaGreatDoor.Long Go.Proofs.YtnplommdgfgboaaGreatDoor.Env

/-- Triples that are looked at. -/
def looked (l : List Triple) : Bool := decide (total l ≤ 9000) && l.all isTriple
theorem looked_total {l : List Triple} (h : looked l = true) : total l ≤ 9000 := by
  unfold looked at h
  simp only [Bool.and_eq_true, decide_eq_true_eq] at h
  exact h.1
theorem looked_valid {l : List Triple} (h : looked l = true) : ∀ t ∈ l, isTriple t = true := by
  unfold looked at h
  simp only [Bool.and_eq_true, decide_eq_true_eq] at h
  exact List.all_eq_true.1 h.2
theorem looked_big {l : List Triple} {k : Nat} (h : 9000 < total (l.take k)) : looked l = false := by
  have := total_le l k
  unfold looked
  rw [decide_eq_false (by omega)]
  rfl
theorem looked_none {l : List Triple} {t : Triple} (ht : t ∈ l) (h : isTriple t = false) : looked l = false := by
  unfold looked
  have : l.all isTriple = false := by
    rw [← Bool.not_eq_true, List.all_eq_true]
    intro h2
    rw [h2 _ ht] at h
    cases h
  rw [this, Bool.and_false]
set_option maxHeartbeats 3200000 in
set_option maxRecDepth 100000 in
theorem long_calls (l : List Triple) (A : Option Addr) (c : Nat) (w : World) (he : Env w) (HL : triK.sl.M w (fun k => k < w.heap.size) l [.slice A l.length c]) :
    Calls Tryz.prog 13 #[.slice A l.length c] w fun e w' => e = .returned (.bool (!looked l)) ∧ Below w.heap.size w w' := by
  have HF := Lib.hid (row_fits HL)
  have HR := Lib.hid (row_cells HL)
  have h47 := sl_len HL
  have HE := Lib.hid he
  clear HL he
  go_enter Tryz.func13, Tryz.ntmps13
  go_wp2
  go_loopw [3, 4] (fun vn vi wr => ∃ k n : Nat, k ≤ l.length ∧ vi = .int .i64 k ∧ vn = .int .i64 n ∧ n ≤ 2251799813685248 ∧ Hid (n = total (l.take k) ∧ (l.take k).all isTriple = true) ∧ Hid (Below w.heap.size w wr)) (fun _ vi _ => l.length - (intOf vi).toNat)
  case atStart => exact ⟨0, 0, by omega, rfl, rfl, by omega, Lib.hid ⟨rfl, rfl⟩, Lib.hid (Below.refl _ _)⟩
  case round =>
    obtain ⟨k, n, hk, rfl, rfl, hn, HT, HW⟩ := hrel
    by_cases hlt : k < l.length
    · have hd : decide (k < l.length) = true := decide_eq_true hlt
      have ik : (k : Int) < (l.length : Int) := by omega
      by_cases hl : 9000 < n
      · have hd2 : decide (n ≤ 9000) = false := decide_eq_false (by omega)
        have hd3 : decide (9000 < n) = true := decide_eq_true hl
        have HV : Hid (looked l = false) := Lib.hid (looked_big (k := k) (by rw [← HT.out.1]; exact hl))
        go_wp2
        go_ret
        exact ⟨by rw [HV.out]; rfl, HW.out⟩
      · have hd2 : decide (n ≤ 9000) = true := decide_eq_true (by omega)
        obtain ⟨b, off, rfl, hb, hcells⟩ := HR.out k hlt
        obtain ⟨z0, z1, z2, z3, z4, z5, z6, z7, z8⟩ := (hcells k hlt).below HW.out
        have HT2 := Lib.hid (total_take l k hlt)
        have hf := HF.out l[k] (List.getElem_mem hlt)
        have HAll : Hid ((l.take (k + 1)).all isTriple = ((l.take k).all isTriple && isTriple l[k])) := Lib.hid (by rw [List.take_succ_eq_append_getElem hlt, List.all_append]; simp)
        have HNo : Hid (isTriple l[k] = false → looked l = false) := Lib.hid (fun h => looked_none (List.getElem_mem hlt) h)
        clear hcells
        obtain ⟨t, ht⟩ : ∃ t, t = l[k] := ⟨_, rfl⟩
        rw [← ht] at z0 z1 z2 z3 z4 z5 z6 z7 z8 HT2 hf HAll HNo
        clear ht
        have HI := Lib.hid (fun w he => Ref5.is5w_calls t hf w he)
        obtain ⟨r, hr⟩ : ∃ r, r = isTriple t := ⟨_, rfl⟩
        rw [← hr] at HAll HNo HI
        clear hr
        obtain ⟨⟨sk, sx, se⟩, ⟨pk, px, pe⟩, ⟨ok, ox, oe⟩⟩ := t
        obtain ⟨⟨_, a1, a2⟩, ⟨_, a3, a4⟩, ⟨_, a5, a6⟩⟩ := hf
        have HWt : Hid (wt ⟨⟨sk, sx, se⟩, ⟨pk, px, pe⟩, ⟨ok, ox, oe⟩⟩ = 3 + sx.length + se.length + px.length + pe.length + ox.length + oe.length) := Lib.hid rfl
        unfold Ref5.tripleV at HI
        dsimp only at z0 z1 z2 z3 z4 z5 z6 z7 z8 a1 a2 a3 a4 a5 a6 HI
        have y1 := mkS_size sx
        have y2 := mkS_size se
        have y3 := mkS_size px
        have y4 := mkS_size pe
        have y5 := mkS_size ox
        have y6 := mkS_size oe
        have HWd := Lib.hid (fun nq => bel_drewN HW.out nq)
        have HEd := Lib.hid (fun nq => HE.out.below (HWd.out nq))
        go_wp2_with fail
        go_quiet (fail)
        cases r
        · go_wp2_with fail
          refine (HI.out _ (HEd.out _)).mono ?_
          rintro e w2 ⟨rfl, hb2⟩
          have HW2 := Lib.hid (bel_step (HWd.out _) hb2)
          clear hb2
          go_wp2
          go_ret
          exact ⟨by rw [HNo.out (by first | rfl | trivial)]; rfl, HW2.out⟩
        · go_wp2_with fail
          refine (HI.out _ (HEd.out _)).mono ?_
          rintro e w2 ⟨rfl, hb2⟩
          have HW2 := Lib.hid (bel_step (HWd.out _) hb2)
          clear hb2
          go_wp2
          go_roundw
          case rel => exact ⟨k + 1, n + (3 + sx.length + se.length + px.length + pe.length + ox.length + oe.length), by omega, by go_num, by go_num, by omega, Lib.hid ⟨by rw [HT2.out, HT.out.1, HWt.out], by rw [HAll.out, HT.out.2]; rfl⟩, HW2⟩
          case measure => simp [intOf]; omega
    · have hd : decide (k < l.length) = false := decide_eq_false hlt
      obtain rfl : k = l.length := by omega
      have HV : Hid ((!looked l) = decide (9000 < n)) := Lib.hid (by
        obtain ⟨h1, h2⟩ := HT.out
        rw [List.take_length] at h1 h2
        unfold looked
        rw [h2, ← h1, Bool.and_true]
        by_cases h : n ≤ 9000
        · rw [decide_eq_true h, decide_eq_false (by omega)]; rfl
        · rw [decide_eq_false h, decide_eq_true (by omega)]; rfl)
      go_wp2
      go_ret
      exact ⟨by rw [HV.out]; first | rfl | (congr 2; simp; omega) | simp, HW.out⟩
end Go.Proofs.YtnplommdgfgboaaGreatDoor.Long11
/-
  triviumref5.Print, walked.
-/
set_option linter.unusedVariables false
set_option linter.unusedSimpArgs false
namespace Go.Proofs.YtnplommdgfgboaaGreatDoor.SortW
open Go.RowKit Go.Lib Go.Proofs.YtnplommdgfgboaaGreatDoor.B Go.Proofs.YtnplommdgfgboaaGreatDoor.Rd Go.Proofs.YtnplommdgfgboaaGreatDoor.Utf Go.Proofs.YtnplommdgfgboaaGreatDoor.TermPure Go.Proofs.YtnplommdgfgboaaGreatDoor.LinesPure Go.Proofs.YtnplommdgfgboaaGreatDoor.Tx Go.Proofs.YtnplommdgfgboaaGreatDoor.Env Go.Proofs.YtnplommdgfgboaaGreatDoor.Tri Go.Proofs.YtnplommdgfgboaaGreatDoor.SortP Go.Proofs.YtnplommdgfgboaaGreatDoor.Print Go.Proofs.YtnplommdgfgboaaGreatDoor.Cmp Go.Proofs.YtnplommdgfgboaaGreatDoor.Long

set_option maxHeartbeats 6400000 in
set_option maxRecDepth 100000 in
theorem refprint_calls (l : List Triple) (A : Option Addr) (c : Nat) (w : World) (HL : triK.sl.M w (fun k => k < w.heap.size) l [.slice A l.length c]) (hs : ∀ t ∈ l, SmallT t) (hn : (l.flatMap lineN).length ≤ 140737488355328) :
    Calls Tryz.prog 14 #[.slice A l.length c] w fun e w' => e = .returned (.string (mkS (l.flatMap lineN))) ∧ Below w.heap.size w w' := by
  have HR := Lib.hid (row_cells HL)
  have HS := Lib.hid hs
  have HN := Lib.hid hn
  have h47 := sl_len HL
  clear HL hs hn
  go_enter Tryz.func14, Tryz.ntmps14
  go_wp2
  go_loopw [3, 4] (fun v3 vi wr => ∃ (k : Nat) (S : List UInt8), vi = .int .i64 k ∧ v3 = .string (mkS S) ∧ k ≤ l.length ∧ Hid (S = (l.take k).flatMap lineN ∧ Below w.heap.size w wr)) (fun _ vi _ => l.length - (intOf vi).toNat)
  case atStart => exact ⟨0, [], rfl, rfl, by omega, Lib.hid ⟨rfl, Below.refl _ _⟩⟩
  case round =>
    obtain ⟨k, S, rfl, rfl, hkL, HI⟩ := hrel
    by_cases hlt : k < l.length
    · have hd : decide (k < l.length) = true := decide_eq_true hlt
      have ik : (k : Int) < (l.length : Int) := by omega
      obtain ⟨b, off, rfl, hbs, hcells⟩ := HR.out k hlt
      have hcx := (hcells k hlt).below HI.out.2
      obtain ⟨x, hx⟩ : ∃ x, x = l[k] := ⟨_, rfl⟩
      rw [← hx] at hcx
      have fs := HS.out x (by rw [hx]; exact List.getElem_mem hlt)
      have HT := Lib.hid (flat_take l k hlt)
      rw [← hx, ← HI.out.1] at HT
      have hle := flat_le HN.out k hlt (x := lineN x) (by rw [flat_take l k hlt, ← hx])
      rw [← HI.out.1] at hle
      have HB := Lib.hid HI.out.2
      clear hx hcells HI
      have HS1 := Lib.hid (fun w => RefCmp.show4_calls x.s fs.1 w)
      have HS2 := Lib.hid (fun w => RefCmp.show4_calls x.p fs.2.1 w)
      have HS3 := Lib.hid (fun w => RefCmp.show4_calls x.o fs.2.2 w)
      have HLN : Hid (lineN x = shown x.s ++ (32 :: (shown x.p ++ (32 :: (shown x.o ++ [32, 46, 10]))))) := Lib.hid rfl
      have hlen : (lineN x).length = (shown x.s).length + 1 + (shown x.p).length + 1 + (shown x.o).length + 3 := by rw [HLN.out]; simp; omega
      rw [hlen] at hle
      clear fs hlen
      have x0 := fun p => (hcx.bel p).c0
      have x1 := fun p => (hcx.bel p).c1
      have x2 := fun p => (hcx.bel p).c2
      have x3 := fun p => (hcx.bel p).c3
      have x4 := fun p => (hcx.bel p).c4
      have x5 := fun p => (hcx.bel p).c5
      have x6 := fun p => (hcx.bel p).c6
      have x7 := fun p => (hcx.bel p).c7
      have x8 := fun p => (hcx.bel p).c8
      obtain ⟨⟨sk, sx, se⟩, ⟨pk, px, pe⟩, ⟨ok, ox, oe⟩⟩ := x
      unfold Ref5.termV at HS1 HS2 HS3
      dsimp only at *
      generalize shown ⟨sk, sx, se⟩ = S1 at *
      generalize shown ⟨pk, px, pe⟩ = S2 at *
      generalize shown ⟨ok, ox, oe⟩ = S3 at *
      have y0 := mkS_size S
      have y1 := mkS_size S1
      have y2 := mkS_size S2
      have y3 := mkS_size S3
      have q1 : (⟨#[32]⟩ : ByteArray).size = 1 := rfl
      have q3 : (⟨#[32, 46, 10]⟩ : ByteArray).size = 3 := rfl
      have z0 : (mkS S ++ mkS S1).size = S.length + S1.length := by rw [ByteArray.size_append, y0, y1]
      have z1 : (mkS S ++ mkS S1 ++ (⟨#[32]⟩ : ByteArray)).size = S.length + S1.length + 1 := by rw [ByteArray.size_append, z0, q1]
      have z2 : (mkS S ++ mkS S1 ++ (⟨#[32]⟩ : ByteArray) ++ mkS S2).size = S.length + S1.length + 1 + S2.length := by rw [ByteArray.size_append, z1, y2]
      have z3 : (mkS S ++ mkS S1 ++ (⟨#[32]⟩ : ByteArray) ++ mkS S2 ++ (⟨#[32]⟩ : ByteArray)).size = S.length + S1.length + 1 + S2.length + 1 := by rw [ByteArray.size_append, z2, q1]
      have z4 : (mkS S ++ mkS S1 ++ (⟨#[32]⟩ : ByteArray) ++ mkS S2 ++ (⟨#[32]⟩ : ByteArray) ++ mkS S3).size = S.length + S1.length + 1 + S2.length + 1 + S3.length := by rw [ByteArray.size_append, z3, y3]
      have HCat : Hid (mkS S ++ mkS S1 ++ (⟨#[32]⟩ : ByteArray) ++ mkS S2 ++ (⟨#[32]⟩ : ByteArray) ++ mkS S3 ++ (⟨#[32, 46, 10]⟩ : ByteArray) = mkS (S ++ lineN ⟨⟨sk, sx, se⟩, ⟨pk, px, pe⟩, ⟨ok, ox, oe⟩⟩)) := Lib.hid (by
        rw [HLN.out, mkS_lit, mkS_lit, mkS_append, mkS_append, mkS_append, mkS_append, mkS_append, mkS_append]
        simp)
      go_upto_region 5 with fail
      refine QT.region_all (by kernel_rfl) (by kernel_rfl) ?_
      iterate 6 (go_big_quiet_step (fail))
      go_big_quiet_step (exact QT.Bel.call _ (HS1.out _))
      iterate 7 (go_big_quiet_step (fail))
      go_big_quiet_step (exact QT.Bel.call _ (HS2.out _))
      iterate 7 (go_big_quiet_step (fail))
      go_big_quiet_step (exact QT.Bel.call _ (HS3.out _))
      iterate 3 (go_big_quiet_step (fail))
      refine wpQuiet_nil ?_
      intro w2 hw'
      obtain ⟨⟨_, hb⟩, rfl⟩ := hw'
      have HW2 := Lib.hid (bel_step HB.out hb)
      clear hb x0 x1 x2 x3 x4 x5 x6 x7 x8 hcx HB
      go_wp2
      go_roundw
      case rel => exact ⟨k + 1, _, by go_num, by rw [HCat.out], by omega, Lib.hid ⟨HT.out.symm, HW2.out⟩⟩
      case measure => simp [intOf]; omega
    · have hd : decide (k < l.length) = false := decide_eq_false hlt
      obtain rfl : k = l.length := by omega
      have HV : Hid (S = l.flatMap lineN ∧ Below w.heap.size w wr) := Lib.hid ⟨by rw [HI.out.1, List.take_length], HI.out.2⟩
      clear HI
      go_wp2
      go_ret
      rw [← HV.out.1]
      exact ⟨rfl, HV.out.2⟩
end Go.Proofs.YtnplommdgfgboaaGreatDoor.SortW
/-
  Triples as a text, read again (plain).
-/
set_option linter.unusedVariables false
set_option linter.unusedSimpArgs false
namespace Go.Proofs.YtnplommdgfgboaaGreatDoor.SPrint
open Go.Lib Go.Proofs.YtnplommdgfgboaaGreatDoor.TermPure Go.Proofs.YtnplommdgfgboaaGreatDoor.LinesPure Go.Proofs.YtnplommdgfgboaaGreatDoor.Tri Go.Proofs.YtnplommdgfgboaaGreatDoor.SortP Go.Proofs.YtnplommdgfgboaaGreatDoor.Print Go.Proofs.YtnplommdgfgboaaGreatDoor.ParseP Go.Proofs.YtnplommdgfgboaaGreatDoor.ParseOk

theorem lineN_eq (t : Triple) : lineN t = Round.lineT t ++ [10] := by
  unfold lineN Round.lineT
  simp
theorem stands_print (l : List Triple) (h : Valid l) : Stands (l.flatMap lineN) l l.length :=
  Stands.flat l fun t ht => by rw [lineN_eq]; exact Stands.shown (h t ht)
theorem parse_print {l : List Triple} (h : Valid l) (hl : l.length ≤ 100) (hx : (l.flatMap lineN).length ≤ 20000) : parse (l.flatMap lineN) = (sortT l, l.length, 0) :=
  (stands_print l h).parse h (by omega) hl hx
end Go.Proofs.YtnplommdgfgboaaGreatDoor.SPrint
/-
  The law StoreTerms, walked.
-/
set_option linter.unusedVariables false
set_option linter.unusedSimpArgs false
namespace Go.Proofs.YtnplommdgfgboaaGreatDoor.STerms
open Go.RowKit Go.Lib Go.Proofs.YtnplommdgfgboaaGreatDoor.B Go.Proofs.YtnplommdgfgboaaGreatDoor.Rd Go.Proofs.YtnplommdgfgboaaGreatDoor.TermPure Go.Proofs.YtnplommdgfgboaaGreatDoor.LinesPure Go.Proofs.YtnplommdgfgboaaGreatDoor.Tri Go.Proofs.YtnplommdgfgboaaGreatDoor.SortP Go.Proofs.YtnplommdgfgboaaGreatDoor.OrdG Go.Proofs.YtnplommdgfgboaaGreatDoor.TermW Go.Proofs.YtnplommdgfgboaaGreatDoor.Print Go.Proofs.YtnplommdgfgboaaGreatDoor.Cmp Go.Proofs.YtnplommdgfgboaaGreatDoor.Long Go.Proofs.YtnplommdgfgboaaGreatDoor.Long11 Go.Proofs.YtnplommdgfgboaaGreatDoor.StoreW Go.Proofs.YtnplommdgfgboaaGreatDoor.StoreM Go.Proofs.YtnplommdgfgboaaGreatDoor.Env Go.Proofs.YtnplommdgfgboaaGreatDoor.ParseP Go.Proofs.YtnplommdgfgboaaGreatDoor.Parse Go.Proofs.YtnplommdgfgboaaGreatDoor.ParseOk Go.Proofs.YtnplommdgfgboaaGreatDoor.Search Go.Proofs.YtnplommdgfgboaaGreatDoor.SPrint

/-- What holds behind Load and Terms. -/
structure St (w wr : World) (g : Nat) (A : Option Addr) (c : Nat) (T : List Triple) (E : List Term) (t : Term) : Prop where
  bel : Below w.heap.size w wr
  store : StoreAt wr (fun _ => True) g T
  xs : termK.sl.M wr (fun k => k < wr.heap.size) E [.slice A E.length c]
  box : C3 wr w.heap.size 0 t
theorem St.below {w wr w1 : World} {g : Nat} {A : Option Addr} {c : Nat} {T : List Triple} {E : List Term} {t : Term} (h : St w wr g A c T E t) (hb : Below wr.heap.size wr w1) : St w w1 g A c T E t :=
  ⟨bel_step h.bel hb, h.store.below hb, Kd.M_bound (Kd.M_below h.xs hb), h.box.below hb⟩
theorem St.drewN {w wr : World} {g : Nat} {A : Option Addr} {c : Nat} {T : List Triple} {E : List Term} {t : Term} (h : St w wr g A c T E t) (n : Nat) : St w (wr.drewN n) g A c T E t := h.below (bel_drewN (Below.refl _ _) n)
theorem St.id {w wr : World} {g : Nat} {A : Option Addr} {c : Nat} {T : List Triple} {t : Term} (h : St w wr g A c T (termsT T) t) (hv : Valid T) (hE : (termsT T).length ≤ 300) (y : Term) (hy : SmallM y) :
    Calls Tryz.prog 18 #[.pointer (some ⟨g, 0, none⟩), Ref5.termV y] wr fun e w' => e = .returned (.int .i64 (idOf (termsT T) y : Nat)) ∧ Below wr.heap.size wr w' := by
  obtain ⟨_, _, ⟨A', c', hc, hM⟩, _⟩ := h.store
  exact id_calls (termsT T) y (termsT_rise hv) (fun x hx => by have := is_small (termsT_is hv x hx); unfold SmallM; omega) hy g A' c' wr hc (Kd.M_bound hM) (by omega)
theorem idOf_pos {l : List Term} {t : Term} : 0 < idOf l t ↔ t ∈ l := by
  unfold idOf
  split <;> simp_all
theorem in_sorted {l : List Triple} (h : Valid l) (t : Term) : t ∈ inTriples (sortT l) ↔ t ∈ inTriples l := by
  unfold inTriples
  simp only [List.mem_flatMap]
  constructor
  · rintro ⟨x, hx, ht⟩; exact ⟨x, (sortT_mem h x).1 hx, ht⟩
  · rintro ⟨x, hx, ht⟩; exact ⟨x, (sortT_mem h x).2 hx, ht⟩
theorem in_snoc {l : List Triple} {k : Nat} (h : k < l.length) (t : Term) : decide (t ∈ inTriples (l.take (k + 1))) = (decide (t ∈ inTriples (l.take k)) || (decide (l[k].s = t) || (decide (l[k].p = t) || decide (l[k].o = t)))) := by
  rw [← Made.inT_snoc l k h, Bool.eq_iff_iff]
  simp only [decide_eq_true_eq, Bool.or_eq_true, List.mem_append, List.mem_cons, List.not_mem_nil, or_false]
  constructor
  · rintro (h | h | h | h)
    · exact .inl h
    · exact .inr (.inl h.symm)
    · exact .inr (.inr (.inl h.symm))
    · exact .inr (.inr (.inr h.symm))
  · rintro (h | h | h | h)
    · exact .inl h
    · exact .inr (.inl h.symm)
    · exact .inr (.inr (.inl h.symm))
    · exact .inr (.inr (.inr h.symm))
set_option maxHeartbeats 12800000 in
set_option maxRecDepth 100000 in
theorem walk0 (w : World) (he : Env w) (l : List Triple) (A : Option Addr) (c : Nat) (t : Term) (ht : FitsW t) (HL : triK.sl.M w (fun k => k < w.heap.size) l [.slice A l.length c]) :
    Calls Tryz.prog 3 #[.slice A l.length c, Ref5.termV t] w fun e w' => e = .returned (.bool true) ∧ Below w.heap.size w w' := by
  have hb0 : Below w.heap.size w (w.alloc (.cells (termL t).toArray 24)) := bel_alloc (Below.refl _ _) _
  have hbx := Search.C3.new w t
  obtain ⟨w0, hw0⟩ : ∃ w0, w0 = w.alloc (.cells (termL t).toArray 24) := ⟨_, rfl⟩
  rw [← hw0] at hb0 hbx
  have HWX : Hid (w.alloc (.cells #[.int .i64 t.kind, .string (mkS t.text), .string (mkS t.extra)] 24) = w0) := Lib.hid hw0.symm
  have HB0 := Lib.hid hb0
  have HBX := Lib.hid hbx
  have HROW : Hid (∀ w', Below w.heap.size w w' → triK.sl.M w' (fun k => k < w'.heap.size) l [.slice A l.length c]) := Lib.hid (fun w' hb => triK.sl.mono (fun k _ hk => hk) (Kd.M_below HL hb))
  have HE := Lib.hid he
  have HLg := Lib.hid (Long11.long_calls l A c w0 (he.below hb0) (HROW.out w0 hb0))
  have h47 := sl_len HL
  have b0 := hbx.c0
  have b1 := hbx.c1
  have b2 := hbx.c2
  simp only [Nat.zero_add] at b1 b2
  have HFt := Lib.hid ht
  clear HL he hb0 hbx hw0 ht
  unfold Ref5.termV
  have zt := mkS_size t.text
  have ze := mkS_size t.extra
  go_enter Tryz.func3, Tryz.ntmps3
  go_upto_region 1 with fail
  rw [HWX.out]
  clear HWX
  by_cases hlook : looked l = true
  case neg =>
    have hl2 : looked l = false := by simpa using hlook
    rw [hl2] at HLg
    clear hlook hl2
    go_wp2_with fail
    refine HLg.out.mono ?_
    rintro e w2 ⟨rfl, hb⟩
    have HB := Lib.hid (bel_step HB0.out hb)
    clear hb
    go_wp2
    go_ret
    exact ⟨rfl, HB.out⟩
  have HTot := Lib.hid (looked_total hlook)
  have HV : Hid (Valid l) := Lib.hid (looked_valid hlook)
  rw [hlook] at HLg
  clear hlook
  go_wp2_with fail
  refine HLg.out.mono ?_
  rintro e w2 ⟨rfl, hb⟩
  have HB := Lib.hid (bel_step HB0.out hb)
  have hbx2 := HBX.out.below hb
  have HBX2 := Lib.hid hbx2
  have d0 := hbx2.c0
  have d1 := hbx2.c1
  have d2 := hbx2.c2
  simp only [Nat.zero_add] at d1 d2
  clear hb HLg hbx2 b0 b1 b2 HBX
  by_cases h60 : 60 < l.length
  · have hd : decide (60 < l.length) = true := decide_eq_true h60
    have hd2 : decide ((60 : Int) < (l.length : Int)) = true := decide_eq_true (by omega)
    go_wp2
    go_ret
    exact ⟨rfl, HB.out⟩
  have hd60 : decide ((60 : Int) < (l.length : Int)) = false := decide_eq_false (by omega)
  by_cases h200 : 200 < t.text.length
  · have hd2 : decide ((200 : Int) < (t.text.length : Int)) = true := decide_eq_true (by omega)
    go_wp2
    go_ret
    exact ⟨rfl, HB.out⟩
  have hd200 : decide ((200 : Int) < (t.text.length : Int)) = false := decide_eq_false (by omega)
  by_cases h201 : 200 < t.extra.length
  · have hd2 : decide ((200 : Int) < (t.extra.length : Int)) = true := decide_eq_true (by omega)
    go_wp2
    go_ret
    exact ⟨rfl, HB.out⟩
  have hd201 : decide ((200 : Int) < (t.extra.length : Int)) = false := decide_eq_false (by omega)
  have HSmt : Hid (SmallM t) := Lib.hid (by unfold SmallM; omega)
  have HL60 : Hid (l.length ≤ 60) := Lib.hid (by omega)
  have HSm := Lib.hid (small_of HTot.out)
  have HFl : Hid ((l.flatMap lineN).length ≤ 130000) := Lib.hid (flat_valid HV.out (by omega))
  have HPr := Lib.hid (fun W hb => SortW.refprint_calls l A c W (HROW.out W hb) HSm.out (by have := HFl.out; omega))
  obtain ⟨x, hx⟩ : ∃ x, x = l.flatMap lineN := ⟨_, rfl⟩
  have hxl : x.length ≤ 130000 := by rw [hx]; exact HFl.out
  have HX := Lib.hid hx
  rw [← hx] at HPr
  have HP := Lib.hid (HPr.out w2 HB.out)
  clear hx
  have z := mkS_size x
  go_wp2_with fail
  refine HP.out.mono ?_
  rintro e w3 ⟨rfl, hb⟩
  have HB3 := Lib.hid (bel_step HB.out hb)
  have HBX3 := Lib.hid (HBX2.out.below hb)
  have HP3 := Lib.hid (HPr.out w3 HB3.out)
  clear hb HP HBX2 d0 d1 d2
  by_cases hbig : 20000 < x.length
  · have hd2 : decide ((20000 : Int) < (x.length : Int)) = true := decide_eq_true (by omega)
    go_wp2
    go_ret
    exact ⟨rfl, HB3.out⟩
  have hd20 : decide ((20000 : Int) < (x.length : Int)) = false := decide_eq_false (by omega)
  go_wp2_with fail
  refine HP3.out.mono ?_
  rintro e w4 ⟨rfl, hb⟩
  have HB4 := Lib.hid (bel_step HB3.out hb)
  have HBX4 := Lib.hid (HBX3.out.below hb)
  clear hb HP3 HPr HBX3
  have HPar : Hid (parse x = (sortT l, l.length, 0)) := Lib.hid (by rw [HX.out]; exact parse_print HV.out (by have := HL60.out; omega) (by rw [← HX.out]; omega))
  have HLd := Lib.hid (load_good x (by omega) w4 (HE.out.below HB4.out) (by rw [HPar.out]))
  rw [HPar.out] at HLd
  go_wp2_with fail
  refine HLd.out.mono ?_
  rintro e w5 ⟨⟨g, rfl, hS⟩, hb⟩
  have HB5 := Lib.hid (bel_step HB4.out hb)
  have HBX5 := Lib.hid (HBX4.out.below hb)
  have HS5 : Hid (StoreAt w5 (fun _ => True) g (sortT l)) := Lib.hid (hS.mono (fun _ _ _ => trivial))
  have HVs : Hid (Valid (sortT l)) := Lib.hid (ParseOk.sortT_valid HV.out)
  have HLs : Hid ((sortT l).length ≤ 60) := Lib.hid (Nat.le_trans (sortT_len l) HL60.out)
  have HEl : Hid ((termsT (sortT l)).length ≤ 300) := Lib.hid (by
    have h1 := Made.terms_len HVs.out
    have h2 := Made.inT_len (sortT l)
    have h3 := HLs.out
    omega)
  have HTm := Lib.hid (terms_calls (sortT l) HEl.out g w5 _ HS5.out)
  clear hS hb HLd HPar HBX4 hxl z hbig hd20 HX HFl zt ze hd60 hd200 hd201 h60 h200 h201
  dsimp only
  go_wp2_with fail
  refine HTm.out.mono ?_
  rintro e w6 ⟨⟨v8, rfl, ho⟩, hb⟩
  obtain ⟨A8, c8, rfl, _, _⟩ := Kd.own_slice ho
  have HSt : Hid (St w w6 g A8 c8 (sortT l) (termsT (sortT l)) t) := Lib.hid ⟨bel_step HB5.out hb, HS5.out.below hb, Kd.M_bound (Kd.own_sl (ok := fun _ => True) ho (fun k hk => trivial) (fun k hk => trivial)), HBX5.out.below hb⟩
  have HRs := Lib.hid (termsT_rise HVs.out)
  have HIs := Lib.hid (termsT_is HVs.out)
  clear ho hb HTm HS5 HBX5 HB5 HB4 HB3 HB HB0
  have HIn : Hid ((0 < idOf (termsT (sortT l)) t ↔ t ∈ inTriples l) ∧ ∀ y ∈ inTriples l, 1 ≤ idOf (termsT (sortT l)) y) := Lib.hid ⟨by rw [idOf_pos, termsT_mem HVs.out, in_sorted HV.out], fun y hy => idOf_pos.2 ((termsT_mem HVs.out y).2 ((in_sorted HV.out y).2 hy))⟩
  have HId : Hid (∀ W, St w W g A8 c8 (sortT l) (termsT (sortT l)) t → ∀ y, SmallM y → Calls Tryz.prog 18 #[.pointer (some ⟨g, 0, none⟩), Ref5.termV y] W fun e w' => e = .returned (.int .i64 (idOf (termsT (sortT l)) y : Nat)) ∧ Below W.heap.size W w') := Lib.hid (fun W h y hy => h.id HVs.out HEl.out y hy)
  have hE300 := HEl.out
  have hl60 := HL60.out
  obtain ⟨T, hT⟩ : ∃ T, T = sortT l := ⟨_, rfl⟩
  rw [← hT] at HSt HRs HIs HIn HId hE300
  rw [← hT]
  obtain ⟨E, hE⟩ : ∃ E, E = termsT T := ⟨_, rfl⟩
  rw [← hE] at HSt HRs HIs HIn HId hE300
  rw [← hE]
  clear hT hE HEl HVs HLs
  go_wp2
  go_loopw [9] (fun vi wr => ∃ i : Nat, vi = .int .i64 i ∧ 1 ≤ i ∧ i ≤ 301 ∧ Hid (St w wr g A8 c8 T E t)) (fun vi _ => 301 - (intOf vi).toNat)
  case atStart => exact ⟨1, by go_num, by omega, by omega, HSt⟩
  case round =>
    obtain ⟨i, rfl, hi1, hi2, HS⟩ := hrel
    clear HSt
    by_cases hlt : i < E.length
    · have hd : decide ((i : Int) < (E.length : Int)) = true := decide_eq_true (by omega)
      have hd2 : decide (i < E.length) = true := decide_eq_true hlt
      have ii : (i : Int) < (E.length : Int) := by omega
      obtain ⟨j, hj⟩ : ∃ j, j = i - 1 := ⟨_, rfl⟩
      have hw1 : IntKind.i64.wrap ((i : Int) - 1) = (j : Int) := by rw [IntKind.wrap_i64]; omega
      have ij : (j : Int) < (E.length : Int) := by omega
      have hjl : j < E.length := by omega
      obtain ⟨b, off, rfl, _, hbs, hcells⟩ := term_cells HS.out.xs (by omega)
      have hcx := hcells j hjl
      have hcy := hcells i hlt
      obtain ⟨p, hp⟩ : ∃ p, p = E[j] := ⟨_, rfl⟩
      obtain ⟨q, hq⟩ : ∃ q, q = E[i] := ⟨_, rfl⟩
      rw [← hp] at hcx
      rw [← hq] at hcy
      have hpq : ltTm p q := by rw [hp, hq]; exact List.pairwise_iff_getElem.1 HRs.out j i hjl hlt (by omega)
      have sp : SmallM p := by have := is_small (HIs.out p (by rw [hp]; exact List.getElem_mem _)); unfold SmallM; omega
      have sq : SmallM q := by have := is_small (HIs.out q (by rw [hq]; exact List.getElem_mem _)); unfold SmallM; omega
      have HC := Lib.hid (fun W => RefCmp.cmp4_calls p q sp sq W)
      obtain ⟨v, hv⟩ : ∃ v, v = cmpTm p q := ⟨_, rfl⟩
      have hvn : v < 0 := by rw [hv]; exact (cmpTm_lt p q).2 hpq
      rw [← hv] at HC
      have hge : decide (0 ≤ v) = false := decide_eq_false (by omega)
      have x0 := fun (p : QT.Bel wr) => (hcx.bel p).c0
      have x1 := fun (p : QT.Bel wr) => (hcx.bel p).c1
      have x2 := fun (p : QT.Bel wr) => (hcx.bel p).c2
      have y0 := fun (p : QT.Bel wr) => (hcy.bel p).c0
      have y1 := fun (p : QT.Bel wr) => (hcy.bel p).c1
      have y2 := fun (p : QT.Bel wr) => (hcy.bel p).c2
      clear hcells hcx hcy hp hq hpq sp sq hv hj hd2
      obtain ⟨pk, px, pe⟩ := p
      obtain ⟨qk, qx, qe⟩ := q
      unfold Ref5.termV at HC
      dsimp only at x0 x1 x2 y0 y1 y2 HC
      go_upto_region 10 with fail
      refine QT.region_all (by kernel_rfl) (by kernel_rfl) ?_
      iterate 9 (go_big_quiet_step (fail))
      go_big_quiet_step (exact QT.Bel.call _ (HC.out _))
      iterate 1 (go_big_quiet_step (fail))
      refine wpQuiet_nil ?_
      intro w7 hw'
      obtain ⟨⟨_, hb7⟩, rfl⟩ := hw'
      have HS7 := Lib.hid (HS.out.below hb7)
      clear hb7 x0 x1 x2 y0 y1 y2 HC HS
      go_wp2
      go_roundw
      case rel => exact ⟨i + 1, by go_num, by omega, by omega, HS7⟩
      case measure => simp [intOf]; omega
    · have hd : decide ((i : Int) < (E.length : Int)) = false := decide_eq_false (by omega)
      have hd2 : decide (i < E.length) = false := decide_eq_false hlt
      have HR := Lib.hid (row_cells (HROW.out w (Below.refl _ _)))
      have HIn0 : Hid (false = decide (t ∈ inTriples (l.take 0))) := Lib.hid (by simp [inTriples])
      go_wp2
      go_loopw [10, 11] (fun vb vi wx => ∃ (b : Bool) (k : Nat), vb = .bool b ∧ vi = .int .i64 k ∧ k ≤ l.length ∧ Hid (b = decide (t ∈ inTriples (l.take k)) ∧ St w wx g A8 c8 T E t)) (fun _ vi _ => l.length - (intOf vi).toNat)
      case atStart => exact ⟨false, 0, rfl, rfl, by omega, Lib.hid ⟨HIn0.out, HS.out⟩⟩
      case round =>
        obtain ⟨b, k, rfl, rfl, hk, HI⟩ := hrel
        clear HS HIn0
        by_cases hlt2 : k < l.length
        · have hdk : decide (k < l.length) = true := decide_eq_true hlt2
          have ik : (k : Int) < (l.length : Int) := by omega
          obtain ⟨bb, off, rfl, hbs, hcells⟩ := HR.out k hlt2
          have HY := Lib.hid (hcells k hlt2)
          have HSn := Lib.hid (in_snoc hlt2 t)
          obtain ⟨y, hy⟩ : ∃ y, y = l[k] := ⟨_, rfl⟩
          rw [← hy] at HY HSn
          have hyl : y ∈ l := by rw [hy]; exact List.getElem_mem hlt2
          have hys := isT_parts (HV.out y hyl)
          obtain ⟨m1, m2, m3⟩ := mem_three hyl
          have q1 := HIn.out.2 _ m1
          have q2 := HIn.out.2 _ m2
          have q3 := HIn.out.2 _ m3
          have HD1 := Lib.hid (fun W hW => HId.out W hW y.s (by have := is_small hys.1; unfold SmallM; omega))
          have HD2 := Lib.hid (fun W hW => HId.out W hW y.p (by have := is_small hys.2.1; unfold SmallM; omega))
          have HD3 := Lib.hid (fun W hW => HId.out W hW y.o (by have := is_small hys.2.2; unfold SmallM; omega))
          generalize idOf E y.s = n1 at *
          generalize idOf E y.p = n2 at *
          generalize idOf E y.o = n3 at *
          have e1 : decide ((n1 : Int) < 1) = false := decide_eq_false (by omega)
          have e2 : decide ((n2 : Int) < 1) = false := decide_eq_false (by omega)
          have e3 : decide ((n3 : Int) < 1) = false := decide_eq_false (by omega)
          have u1 : ¬ (n1 : Int) < 1 := by omega
          have u2 : ¬ (n2 : Int) < 1 := by omega
          have u3 : ¬ (n3 : Int) < 1 := by omega
          have HQ1 := Lib.hid (fun W => TriEq.run_eq_term y.s t W)
          have HQ2 := Lib.hid (fun W => TriEq.run_eq_term y.p t W)
          have HQ3 := Lib.hid (fun W => TriEq.run_eq_term y.o t W)
          obtain ⟨c1, hc1⟩ : ∃ c1, c1 = decide (y.s = t) := ⟨_, rfl⟩
          obtain ⟨c2, hc2⟩ : ∃ c2, c2 = decide (y.p = t) := ⟨_, rfl⟩
          obtain ⟨c3, hc3⟩ : ∃ c3, c3 = decide (y.o = t) := ⟨_, rfl⟩
          rw [← hc1] at HQ1 HSn
          rw [← hc2] at HQ2 HSn
          rw [← hc3] at HQ3 HSn
          rw [← HI.out.1] at HSn
          have HS1 := Lib.hid HI.out.2
          have hz := HY.out.below HS1.out.bel
          obtain ⟨z0, z1, z2, z3, z4, z5, z6, z7, z8⟩ := hz
          clear hcells hy hyl hys m1 m2 m3 q1 q2 q3 hc1 hc2 hc3 HI
          obtain ⟨⟨sk, sx, se⟩, ⟨pk, px, pe⟩, ⟨ok, ox, oe⟩⟩ := y
          unfold Ref5.termV at HD1 HD2 HD3
          dsimp only at z0 z1 z2 z3 z4 z5 z6 z7 z8 HD1 HD2 HD3 HQ1 HQ2 HQ3
          go_wp2_with fail
          refine (HD1.out _ HS1.out).mono ?_
          rintro e w7 ⟨rfl, hb⟩
          have HS7 := Lib.hid (HS1.out.below hb)
          have hz := HY.out.below HS7.out.bel
          clear hb HS1 z0 z1 z2 z3 z4 z5 z6 z7 z8
          obtain ⟨z0, z1, z2, z3, z4, z5, z6, z7, z8⟩ := hz
          dsimp only at z0 z1 z2 z3 z4 z5 z6 z7 z8
          go_wp2_with fail
          refine (HD2.out _ HS7.out).mono ?_
          rintro e w8 ⟨rfl, hb⟩
          have HS8 := Lib.hid (HS7.out.below hb)
          have hz := HY.out.below HS8.out.bel
          clear hb HS7 z0 z1 z2 z3 z4 z5 z6 z7 z8
          obtain ⟨z0, z1, z2, z3, z4, z5, z6, z7, z8⟩ := hz
          dsimp only at z0 z1 z2 z3 z4 z5 z6 z7 z8
          go_wp2_with fail
          refine (HD3.out _ HS8.out).mono ?_
          rintro e w9 ⟨rfl, hb⟩
          have HS9 := Lib.hid (HS8.out.below hb)
          have hz := HY.out.below HS9.out.bel
          have hbx := HS9.out.box
          clear hb HS8 z0 z1 z2 z3 z4 z5 z6 z7 z8
          obtain ⟨z0, z1, z2, z3, z4, z5, z6, z7, z8⟩ := hz
          obtain ⟨b0, b1, b2⟩ := hbx
          simp only [Nat.zero_add] at b1 b2
          dsimp only at z0 z1 z2 z3 z4 z5 z6 z7 z8
          have hcase : b = true ∨ (b = false ∧ c1 = true) ∨ (b = false ∧ c1 = false ∧ c2 = true) ∨ (b = false ∧ c1 = false ∧ c2 = false ∧ c3 = true) ∨ (b = false ∧ c1 = false ∧ c2 = false ∧ c3 = false) := by cases b <;> cases c1 <;> cases c2 <;> cases c3 <;> simp
          go_upto_region 18 with fail
          rcases hcase with rfl | ⟨rfl, rfl⟩ | ⟨rfl, rfl, rfl⟩ | ⟨rfl, rfl, rfl, rfl⟩ | ⟨rfl, rfl, rfl, rfl⟩
          all_goals have g1 := HQ1.out
          all_goals have g2 := HQ2.out
          all_goals have g3 := HQ3.out
          all_goals go_quiet (fail)
          all_goals have HSd := Lib.hid (HS9.out.drewN nq)
          all_goals go_wp2
          all_goals go_roundw
          all_goals first | exact ⟨_, k + 1, rfl, by go_num, by omega, Lib.hid ⟨by rw [HSn.out]; rfl, HSd.out⟩⟩ | (simp [intOf]; omega)
        · have hdk : decide (k < l.length) = false := decide_eq_false hlt2
          obtain rfl : k = l.length := by omega
          have HS1 := Lib.hid HI.out.2
          have HBt : Hid (b = decide (0 < idOf E t)) := Lib.hid (by
            have h := HI.out.1
            rw [List.take_length] at h
            rw [h, Bool.eq_iff_iff, decide_eq_true_iff, decide_eq_true_iff, HIn.out.1])
          have HD := Lib.hid (HId.out wr HS1.out t HSmt.out)
          obtain ⟨b0, b1, b2⟩ := HS1.out.box
          simp only [Nat.zero_add] at b1 b2
          generalize idOf E t = n at *
          unfold Ref5.termV at HD
          clear HI HR
          cases b
          · have hn0 : ¬ 0 < n := of_decide_eq_false HBt.out.symm
            have hgt : decide ((0 : Int) < (n : Int)) = false := decide_eq_false (by omega)
            have hgt2 : ¬ (0 : Int) < (n : Int) := by omega
            clear hn0
            go_wp2_with fail
            refine HD.out.mono ?_
            rintro e w7 ⟨rfl, hb⟩
            have HS7 := Lib.hid (HS1.out.below hb)
            have HK := Lib.hid (Known11.known_calls w7 (HE.out.below HS7.out.bel))
            clear hb HD HS1
            go_wp2_with fail
            refine HK.out.mono ?_
            rintro e w8 ⟨rfl, hb⟩
            have HB8 := Lib.hid (bel_step HS7.out.bel hb)
            clear hb HK
            go_wp2
            go_ret
            exact ⟨rfl, HB8.out⟩
          · have hn0 : 0 < n := of_decide_eq_true HBt.out.symm
            have hgt : decide ((0 : Int) < (n : Int)) = true := decide_eq_true (by omega)
            have hgt2 : (0 : Int) < (n : Int) := by omega
            clear hn0
            go_wp2_with fail
            refine HD.out.mono ?_
            rintro e w7 ⟨rfl, hb⟩
            have HS7 := Lib.hid (HS1.out.below hb)
            have HK := Lib.hid (Known11.known_calls w7 (HE.out.below HS7.out.bel))
            clear hb HD HS1
            go_wp2_with fail
            refine HK.out.mono ?_
            rintro e w8 ⟨rfl, hb⟩
            have HB8 := Lib.hid (bel_step HS7.out.bel hb)
            clear hb HK
            go_wp2
            go_ret
            exact ⟨rfl, HB8.out⟩
theorem walk (w : World) (he : Env w) (l : List Triple) (v : Value) (m : triK.sl.M w (fun _ => True) l [v]) (t : Term) (ct : Array Value) (mt : termK.M w (fun _ => True) t ct.toList) :
    Calls Tryz.prog 3 #[v, .agg ct] w fun e w' => e = .returned (.bool true) ∧ Below w.heap.size w w' := by
  obtain ⟨A, c, hv, h⟩ := id m
  obtain rfl : v = .slice A l.length c := by simpa using hv
  obtain ⟨h1, h2⟩ := mt
  have hc : ct = (termL t).toArray := by rw [← h1]
  rw [hc]
  exact walk0 w he l A c t h2 (triK.sl.mono (fun k _ hk => hk) m)
end Go.Proofs.YtnplommdgfgboaaGreatDoor.STerms

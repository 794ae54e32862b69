/-
  Texts of the claim, one behind the other: SRing.
-/
import Derived.Test.YtnplommdgfgboaaGreatDoorL2
set_option linter.unusedVariables false
set_option linter.unusedSimpArgs false
namespace Go.Proofs.YtnplommdgfgboaaGreatDoor.SRing
open Go.RowKit Go.Lib Go.Proofs.YtnplommdgfgboaaGreatDoor.B Go.Proofs.YtnplommdgfgboaaGreatDoor.Rd Go.Proofs.YtnplommdgfgboaaGreatDoor.TermPure Go.Proofs.YtnplommdgfgboaaGreatDoor.LinesPure Go.Proofs.YtnplommdgfgboaaGreatDoor.Tri Go.Proofs.YtnplommdgfgboaaGreatDoor.SortP Go.Proofs.YtnplommdgfgboaaGreatDoor.OrdG Go.Proofs.YtnplommdgfgboaaGreatDoor.Print Go.Proofs.YtnplommdgfgboaaGreatDoor.Cmp Go.Proofs.YtnplommdgfgboaaGreatDoor.Long Go.Proofs.YtnplommdgfgboaaGreatDoor.Long11 Go.Proofs.YtnplommdgfgboaaGreatDoor.StoreW Go.Proofs.YtnplommdgfgboaaGreatDoor.StoreM Go.Proofs.YtnplommdgfgboaaGreatDoor.Env Go.Proofs.YtnplommdgfgboaaGreatDoor.ParseP Go.Proofs.YtnplommdgfgboaaGreatDoor.Parse Go.Proofs.YtnplommdgfgboaaGreatDoor.ParseOk Go.Proofs.YtnplommdgfgboaaGreatDoor.SPrint Go.Proofs.YtnplommdgfgboaaGreatDoor.StoreP Go.Proofs.YtnplommdgfgboaaGreatDoor.SortW Go.Proofs.YtnplommdgfgboaaGreatDoor.SCommon Go.Proofs.YtnplommdgfgboaaGreatDoor.IdsW Go.Proofs.YtnplommdgfgboaaGreatDoor.IdsAll Go.Proofs.YtnplommdgfgboaaGreatDoor.RefOf
set_option maxHeartbeats 3200000 in
set_option maxRecDepth 100000 in
theorem ring_calls (T : List Triple) (g : Nat) (w : World) (ok : Nat → Prop) (h : StoreAt w ok g T) :
    Calls Tryz.prog 22 #[.pointer (some ⟨g, 0, none⟩)] w fun e w' => (∃ h, e = .returned (.pointer (some ⟨h, 0, none⟩)) ∧ RingAt w' ok h (idsT T)) ∧ Below w.heap.size w w' := by
  obtain ⟨_, _, _, r, hr, hrr⟩ := h
  have HR := Lib.hid hrr
  clear hrr
  go_enter Tryz.func22, Tryz.ntmps22
  go_wp2
  go_ret
  exact ⟨⟨r, rfl, HR.out⟩, Below.refl _ _⟩
set_option maxHeartbeats 12800000 in
set_option maxRecDepth 100000 in
theorem walk0 (w : World) (he : Env w) (l : List Triple) (A : Option Addr) (c : Nat) (p : Pat) (HL : triK.sl.M w (fun k => k < w.heap.size) l [.slice A l.length c]) :
    Calls Tryz.prog 4 #[.slice A l.length c, .agg (patL p).toArray] w fun e w' => e = .returned (.bool true) ∧ Below w.heap.size w w' := by
  have hb0 : Below w.heap.size w (w.alloc (.cells (patL p).toArray 40)) := bel_alloc (Below.refl _ _) _
  have hbx := P3.new w p
  obtain ⟨w0, hw0⟩ : ∃ w0, w0 = w.alloc (.cells (patL p).toArray 40) := ⟨_, rfl⟩
  rw [← hw0] at hb0 hbx
  have HZ : Hid (w.heap.size < w0.heap.size) := Lib.hid (by rw [hw0]; simp)
  have HWX : Hid (w.alloc (.cells (patL p).toArray 40) = w0) := Lib.hid hw0.symm
  have HB0 := Lib.hid hb0
  have HBX := Lib.hid hbx
  have HROW : Hid (∀ w', Below w.heap.size w w' → triK.sl.M w' (fun k => k < w'.heap.size) l [.slice A l.length c]) := Lib.hid (fun w' hb => triK.sl.mono (fun k _ hk => hk) (Kd.M_below HL hb))
  have HE := Lib.hid he
  have HLg := Lib.hid (Long11.long_calls l A c w0 (he.below hb0) (HROW.out w0 hb0))
  have h47 := sl_len HL
  clear HL he hb0 hbx hw0
  unfold patL at HWX
  unfold patL
  go_enter Tryz.func4, Tryz.ntmps4
  go_upto_region 1 with fail
  rw [HWX.out]
  clear HWX
  by_cases hlook : looked l = true
  case neg =>
    have hl2 : looked l = false := by simpa using hlook
    rw [hl2] at HLg
    clear hlook hl2
    go_wp2_with fail
    refine HLg.out.mono ?_
    rintro e w2 ⟨rfl, hb⟩
    have HB := Lib.hid (bel_step HB0.out hb)
    clear hb
    go_wp2
    go_ret
    exact ⟨rfl, HB.out⟩
  have HTot := Lib.hid (looked_total hlook)
  have HV : Hid (Valid l) := Lib.hid (looked_valid hlook)
  rw [hlook] at HLg
  clear hlook
  go_wp2_with fail
  refine HLg.out.mono ?_
  rintro e w2 ⟨rfl, hb⟩
  have HB2 := Lib.hid (bel_step HB0.out hb)
  have HBX2 := Lib.hid (HBX.out.below hb)
  have HZ2 : Hid (w.heap.size < w2.heap.size) := Lib.hid (Nat.lt_of_lt_of_le HZ.out hb.size)
  clear hb HLg HBX
  by_cases h60 : 60 < l.length
  · have hd2 : decide ((60 : Int) < (l.length : Int)) = true := decide_eq_true (by omega)
    go_wp2
    go_ret
    exact ⟨rfl, HB2.out⟩
  have hd60 : decide ((60 : Int) < (l.length : Int)) = false := decide_eq_false (by omega)
  have HL60 : Hid (l.length ≤ 60) := Lib.hid (by omega)
  have HSm := Lib.hid (small_of HTot.out)
  have HFl : Hid ((l.flatMap lineN).length ≤ 130000) := Lib.hid (flat_valid HV.out (by omega))
  have HPr := Lib.hid (fun W hb => SortW.refprint_calls l A c W (HROW.out W hb) HSm.out (by have := HFl.out; omega))
  obtain ⟨x, hx⟩ : ∃ x, x = l.flatMap lineN := ⟨_, rfl⟩
  have hxl : x.length ≤ 130000 := by rw [hx]; exact HFl.out
  have HX := Lib.hid hx
  rw [← hx] at HPr
  have HP := Lib.hid (HPr.out w2 HB2.out)
  clear hx h60
  have zx := mkS_size x
  go_wp2_with fail
  refine HP.out.mono ?_
  rintro e w3 ⟨rfl, hb⟩
  have HB3 := Lib.hid (bel_step HB2.out hb)
  have HBX3 := Lib.hid (HBX2.out.below hb)
  have HZ3 : Hid (w.heap.size < w3.heap.size) := Lib.hid (Nat.lt_of_lt_of_le HZ2.out hb.size)
  have HP3 := Lib.hid (HPr.out w3 HB3.out)
  clear hb HP hd60 HBX2
  by_cases hbig : 20000 < x.length
  · have hd2 : decide ((20000 : Int) < (x.length : Int)) = true := decide_eq_true (by omega)
    go_wp2
    go_ret
    exact ⟨rfl, HB3.out⟩
  have hd20 : decide ((20000 : Int) < (x.length : Int)) = false := decide_eq_false (by omega)
  go_wp2_with fail
  refine HP3.out.mono ?_
  rintro e w4 ⟨rfl, hb⟩
  have HB4 := Lib.hid (bel_step HB3.out hb)
  have HBX4 := Lib.hid (HBX3.out.below hb)
  have HZ4 : Hid (w.heap.size < w4.heap.size) := Lib.hid (Nat.lt_of_lt_of_le HZ3.out hb.size)
  have HLd := Lib.hid (load_print l HV.out (by have := HL60.out; omega) x HX.out (by omega) w4 (HE.out.below HB4.out))
  clear hb HP3 HBX3
  go_wp2_with fail
  refine HLd.out.mono ?_
  rintro e w5 ⟨⟨ga, rfl, hS⟩, hb⟩
  have HB5 := Lib.hid (bel_step HB4.out hb)
  have HBX5 := Lib.hid (HBX4.out.below hb)
  have HZ5 : Hid (w.heap.size < w5.heap.size) := Lib.hid (Nat.lt_of_lt_of_le HZ4.out hb.size)
  have HSa5 := Lib.hid hS
  have HS1 := Lib.hid (SortW.refsort_calls l A c w5 (HROW.out w5 HB5.out) HSm.out (by have := HL60.out; omega))
  have HVs : Hid (Valid (sortT l)) := Lib.hid (ParseOk.sortT_valid HV.out)
  have HLs : Hid ((sortT l).length ≤ 100) := Lib.hid (Nat.le_trans (ParseOk.sortT_len l) (by have := HL60.out; omega))
  clear hS hb HLd hxl zx hbig hd20 HBX4
  dsimp only
  go_wp2_with fail
  refine HS1.out.mono ?_
  rintro e w6 ⟨A6, c6, rfl, hM6, hb⟩
  obtain ⟨T, hT⟩ : ∃ T, T = sortT l := ⟨_, rfl⟩
  rw [← hT] at HVs HLs hM6 HSa5
  rw [← hT]
  have HB6 := Lib.hid (bel_step HB5.out hb)
  have HBX6 := Lib.hid (HBX5.out.below hb)
  have HZ6 : Hid (w.heap.size < w6.heap.size) := Lib.hid (Nat.lt_of_lt_of_le HZ5.out hb.size)
  have HSa6 := Lib.hid (HSa5.out.below hb)
  have HOf := Lib.hid (of_calls T HVs.out HLs.out A6 c6 w6 (Kd.M_bound hM6))
  clear hb HS1 HSa5 HBX5 hT hM6
  go_wp2_with fail
  refine HOf.out.mono ?_
  rintro e w7 ⟨⟨gr, rfl, hR⟩, hb⟩
  have HB7 := Lib.hid (bel_step HB6.out hb)
  have HBX7 := Lib.hid (HBX6.out.below hb)
  have HZ7 : Hid (w.heap.size < w7.heap.size) := Lib.hid (Nat.lt_of_lt_of_le HZ6.out hb.size)
  have HSa7 := Lib.hid (HSa6.out.below hb)
  obtain ⟨Ar, cr, hrc, hrm⟩ := hR.ids
  have HRm := Lib.hid hrm
  have HRc := Lib.hid hrc
  have HRg := Lib.hid (ring_calls T ga w7 _ HSa7.out)
  clear hb HOf HSa6 HBX6 hrm hrc hR
  go_wp2_with fail
  refine HRg.out.mono ?_
  rintro e w8 ⟨⟨rg, rfl, hG⟩, hb⟩
  have HB8 := Lib.hid (bel_step HB7.out hb)
  have HBX8 := Lib.hid (HBX7.out.below hb)
  have HSa8 := Lib.hid (HSa7.out.below hb)
  have HIl := Lib.hid (StoreP.ids_len T)
  have HRc8 : Hid (w8.cell? ⟨gr, 3, none⟩ = some (.slice Ar T.length cr)) := Lib.hid ((hb.cell (p := ⟨gr, 3, none⟩) (cell_lt HRc.out)).trans HRc.out)
  have HRm8 := Lib.hid (Kd.M_below (Kd.M_bound HRm.out) hb)
  have HZ8 : Hid (w.heap.size < w8.heap.size) := Lib.hid (Nat.lt_of_lt_of_le HZ7.out hb.size)
  have HG8 := Lib.hid hG
  clear hb HRg hG HSa7 HBX7 HRc HRm
  have HK : Hid (∀ W, Below w8.heap.size w8 W → W.cell? ⟨gr, 3, none⟩ = some (.slice Ar T.length cr) ∧ W.cell? ⟨w.heap.size, 0, none⟩ = some (.int .i64 p.a) ∧ W.cell? ⟨w.heap.size, 1, none⟩ = some (.int .i64 p.b) ∧ W.cell? ⟨w.heap.size, 2, none⟩ = some (.int .i64 p.c)) := Lib.hid (fun W hb => by
    have h0 := HBX8.out.below hb
    have a0 := h0 0 (by omega)
    have a1 := h0 1 (by omega)
    have a2 := h0 2 (by omega)
    simp only [Nat.zero_add] at a0 a1 a2
    exact ⟨(hb.cell (p := ⟨gr, 3, none⟩) (cell_lt HRc8.out)).trans HRc8.out, a0, a1, a2⟩)
  have HLn := Lib.hid (fun W (hW : Below w8.heap.size w8 W) => rlen_calls (idsT T) (by have := HIl.out; have := HLs.out; omega) rg W _ (HG8.out.below hW))
  have HLs8 := Lib.hid (fun W (hW : Below w8.heap.size w8 W) => len_calls T HLs.out ga W _ (HSa8.out.below hW))
  have HAl := Lib.hid (fun W (hW : Below w8.heap.size w8 W) => all_calls p (idsT T) (by have := HIl.out; have := HLs.out; omega) rg W _ (HG8.out.below hW))
  have HA8 := Lib.hid (fun W (hW : Below w8.heap.size w8 W) => all8_calls p (idsT T) (by have := HIl.out; have := HLs.out; omega) Ar cr W (by rw [HIl.out]; exact Kd.M_bound (Kd.M_below HRm8.out hW)))
  have HFl2 : Hid (((idsT T).filter (matchP p)).length ≤ 1000000) := Lib.hid (by have h1 := List.length_filter_le (matchP p) (idsT T); have := HIl.out; have := HLs.out; omega)
  rw [HIl.out] at HLn HA8
  have HKn := Lib.hid (fun W (hW : Below w8.heap.size w8 W) => Known11.known_calls W (HE.out.below (bel_step HB8.out hW)))
  clear HIl
  unfold patL at HAl HA8
  obtain ⟨F, hF⟩ : ∃ F, F = (idsT T).filter (matchP p) := ⟨_, rfl⟩
  rw [← hF] at HAl HA8 HFl2
  obtain ⟨n, hn⟩ : ∃ n, n = T.length := ⟨_, rfl⟩
  rw [← hn] at HLn HA8 HLs8 HK
  clear hF hn HBX8 HG8 HSa8 HRm8 HRc8
  have hcur := Below.refl w8.heap.size w8
  obtain ⟨k0, k1, k2, k3⟩ := HK.out w8 hcur
  go_upto_region 8 with fail
  go_region_with (first
    | (go_at_call 23; refine (HLn.out _ ?_).mono ?_; (repeat (first | assumption | exact Below.refl _ _ | refine bel_drew ?_ | refine bel_alloc ?_ _)); rintro e w9 ⟨rfl, hbc⟩; have hcur : Below w8.heap.size w8 w9 := bel_step (by repeat (first | assumption | exact Below.refl _ _ | refine bel_drew ?_ | refine bel_alloc ?_ _)) hbc; obtain ⟨k0, k1, k2, k3⟩ := HK.out w9 hcur)
    | (go_at_call 24; refine (HLs8.out _ ?_).mono ?_; (repeat (first | assumption | exact Below.refl _ _ | refine bel_drew ?_ | refine bel_alloc ?_ _)); rintro e w10 ⟨rfl, hbc⟩; have hcur : Below w8.heap.size w8 w10 := bel_step (by repeat (first | assumption | exact Below.refl _ _ | refine bel_drew ?_ | refine bel_alloc ?_ _)) hbc; obtain ⟨k0, k1, k2, k3⟩ := HK.out w10 hcur)
    | (go_at_call 26; refine (HAl.out _ ?_).mono ?_; (repeat (first | assumption | exact Below.refl _ _ | refine bel_drew ?_ | refine bel_alloc ?_ _)); rintro e w11 ⟨⟨A11, c11, rfl, hm11⟩, hbc⟩; have HM11 := Lib.hid (Kd.M_bound hm11); clear hm11; have hcur : Below w8.heap.size w8 w11 := bel_step (by repeat (first | assumption | exact Below.refl _ _ | refine bel_drew ?_ | refine bel_alloc ?_ _)) hbc; obtain ⟨k0, k1, k2, k3⟩ := HK.out w11 hcur)
    | (go_at_call 27; refine (HA8.out _ ?_).mono ?_; (repeat (first | assumption | exact Below.refl _ _ | refine bel_drew ?_ | refine bel_alloc ?_ _)); rintro e w12 ⟨⟨A12, c12, rfl, hm12⟩, hbc⟩; have HM12 := Lib.hid (Kd.M_bound hm12); clear hm12; have HM11b := Lib.hid (Kd.M_bound (Kd.M_below HM11.out (bel_step (by repeat (first | exact Below.refl _ _ | refine bel_drew ?_ | refine bel_alloc ?_ _)) hbc))); have hcur : Below w8.heap.size w8 w12 := bel_step (by repeat (first | assumption | exact Below.refl _ _ | refine bel_drew ?_ | refine bel_alloc ?_ _)) hbc; obtain ⟨k0, k1, k2, k3⟩ := HK.out w12 hcur)
    | (go_at_call 25; refine (same8_calls F F A11 A12 c11 c12 _ (Kd.M_bound (Kd.M_below HM11b.out (by repeat (first | exact Below.refl _ _ | refine bel_drew ?_ | refine bel_alloc ?_ _)))) (Kd.M_bound (Kd.M_below HM12.out (by repeat (first | exact Below.refl _ _ | refine bel_drew ?_ | refine bel_alloc ?_ _)))) HFl2.out HFl2.out).mono ?_; rintro e w13 ⟨rfl, hbc⟩; have hcur : Below w8.heap.size w8 w13 := bel_step (by repeat (first | assumption | exact Below.refl _ _ | refine bel_drew ?_ | refine bel_alloc ?_ _)) hbc; obtain ⟨k0, k1, k2, k3⟩ := HK.out w13 hcur)
    | (go_at_call 19; refine (HKn.out _ ?_).mono ?_; (repeat (first | assumption | exact Below.refl _ _ | refine bel_drew ?_ | refine bel_alloc ?_ _)); rintro e w17 ⟨rfl, hbc⟩; have hcur : Below w8.heap.size w8 w17 := bel_step (by repeat (first | assumption | exact Below.refl _ _ | refine bel_drew ?_ | refine bel_alloc ?_ _)) hbc))
  all_goals (have HBf := Lib.hid (bel_step HB8.out hcur); go_wp2; go_ret; exact ⟨rfl, HBf.out⟩)
theorem walk (w : World) (he : Env w) (l : List Triple) (v : Value) (m : triK.sl.M w (fun _ => True) l [v]) (p : Pat) :
    Calls Tryz.prog 4 #[v, .agg (patL p).toArray] w fun e w' => e = .returned (.bool true) ∧ Below w.heap.size w w' := by
  obtain ⟨A, c, hv, h⟩ := id m
  obtain rfl : v = .slice A l.length c := by simpa using hv
  exact walk0 w he l A c p (triK.sl.mono (fun k _ hk => hk) m)
end Go.Proofs.YtnplommdgfgboaaGreatDoor.SRing

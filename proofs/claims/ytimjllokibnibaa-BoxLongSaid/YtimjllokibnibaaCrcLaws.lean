/-
  The laws of crc, walked.
-/
import Derived.Test.YtimjllokibnibaaCrcWalk
import Derived.Test.YtimjllokibnibaaBase
import Derived.WalkKit
import Derived.Lib.SlBytesConst
set_option linter.unusedVariables false
set_option linter.unusedSimpArgs false
namespace Go.Proofs.Ytimjllokibnibaa.CrcLaws
open Go.RowKit Go.Proofs.Ytimjllokibnibaa.CrcPure Go.Proofs.Ytimjllokibnibaa.B Go.Proofs.Ytimjllokibnibaa.CrcWalk

set_option maxHeartbeats 400000 in
theorem known_calls (w : World) :
    Calls Try.prog 19 #[] w fun e w' => e = .returned (.bool true) ∧ Below w.heap.size w w' := by
  have kc := fun (w : World) (C : Array Value) (n c : Nat) => Lib.run_convert_bytes_const (P := Try.prog) w 22 5 C n c Try.underlying22 Try.underlying5
  go_enter Try.func19, Try.ntmps19
  go_wp2_with fail
  refine (sum_calls [[49, 50, 51, 52, 53, 54, 55, 56, 57]] (some ⟨w.heap.size + 1, 0, none⟩) _ (fun _ => True) _ (by decide) ?row).mono ?_
  case row =>
    exact Kd.row_one (C := #[.slice (some ⟨w.heap.size, 0, none⟩) 9 9]) (by repeat (first | exact Kd.bi_new (by simp) | refine Kd.bi_old ?_)) trivial (Kd.u8_sl (by decide) ⟨by decide, by decide⟩ (fun h => (by cases h)) (Kd.row_u8 (by repeat (first | exact Kd.bi_new (by simp) | refine Kd.bi_old ?_)) trivial rfl))
  rintro e w' ⟨rfl, rfl⟩
  rw [show ([[49, 50, 51, 52, 53, 54, 55, 56, 57]] : List (List UInt8)).flatten = [49, 50, 51, 52, 53, 54, 55, 56, 57] from rfl, crc_known]
  go_wp2_with fail
  refine (sum_calls [] none _ (fun _ => True) _ (by decide) (Kd.row_nil _ _ _ _)).mono ?_
  rintro e w' ⟨rfl, rfl⟩
  rw [show (([] : List (List UInt8)).flatten) = [] from rfl, crc_nil, show ((11994318 : Nat) : Int) = 11994318 from rfl]
  go_wp2_with fail
  go_ret
  exact ⟨rfl, ((Below.refl _ _).alloc (Nat.le_refl _) _).alloc (by simp) _⟩

set_option maxHeartbeats 400000 in
theorem tells (w : World) (l : List UInt8) (v : Value) (m : byteK.sl.M w (fun _ => True) l [v]) :
    Calls Try.prog 3 #[v] w fun e w' => e = .returned (.bool true) ∧ Below w.heap.size w w' := by
  obtain ⟨A, c, hv, h1, h2, h3, hr⟩ := m
  simp at hv
  subst hv
  by_cases hl : 3000 < l.length
  · have hq : decide ((3000 : Int) < (l.length : Int)) = true := by simp; omega
    go_enter Try.func3, Try.ntmps3
    go_wp2
    go_ret
    exact ⟨rfl, Below.refl _ _⟩
  · have hq : decide ((3000 : Int) < (l.length : Int)) = false := by simp; omega
    have HR := Lib.hid hr
    clear hr
    go_enter Try.func3, Try.ntmps3
    go_wp2_with fail
    have b0 : Below w.heap.size w (w.alloc (.cells #[.slice A l.length c] 22)) := (Below.refl _ _).alloc (Nat.le_refl _) _
    refine (sum_calls [l] (some ⟨w.heap.size, 0, none⟩) _ (fun _ => True) _ (by simp [maxLen]) ?row).mono ?_
    case row => exact Kd.row_one (C := #[.slice A l.length c]) (by repeat (first | exact Kd.bi_new (by simp) | refine Kd.bi_old ?_)) trivial (Kd.u8_sl h1 h2 h3 (Kd.row_below HR.out b0))
    rintro e w' ⟨rfl, rfl⟩
    rw [show [l].flatten = l by simp]
    go_wp2_with fail
    refine (ref_calls l _ _ (fun _ => True) _ (by unfold maxLen; omega) (Kd.row_below HR.out b0)).mono ?_
    rintro e w' ⟨rfl, rfl⟩
    go_wp2_with fail
    refine (known_calls _).mono ?_
    rintro e w' ⟨rfl, hb⟩
    have hb' : Below w.heap.size w w' := b0.trans (hb.mono (by simp))
    go_wp2_with fail
    go_ret
    exact ⟨rfl, hb'⟩

theorem info_u8 : (Try.prog.info? 5).map (fun i => (i.zero, i.size, i.bytes)) = some (some (.int .u8 0), 1, 1) := by kernel_rfl
theorem any_u8 : ∀ (w : World) (ok ok' : Nat → Prop) (x : UInt8) (cs : List Value), byteK.M w ok x cs → byteK.M w ok' x cs := fun _ _ _ _ _ h => h

/-- A row of one row, as the law lays it ahead of a call of Sum. -/
theorem one_row {W : World} {g : Nat} {v : Value} {l : List UInt8} {ok : Nat → Prop} (hg : W.heap.size = g) (h : byteK.sl.M W ok l [v]) :
    byteK.sl.row (W.alloc (.cells #[v] 22)) (fun _ => True) (some ⟨g, 0, none⟩) [l] :=
  Kd.row_one (C := #[v]) (Kd.bi_new hg) trivial (Kd.M_below (byteK.sl.mono (fun _ _ _ => trivial) h) ((Below.refl _ _).alloc (Nat.le_refl _) _))

set_option maxHeartbeats 800000 in
theorem rows (w : World) (ls : List (List UInt8)) (v : Value) (m : byteK.sl.sl.M w (fun _ => True) ls [v]) :
    Calls Try.prog 4 #[v] w fun e w' => e = .returned (.bool true) ∧ Below w.heap.size w w' := by
  obtain ⟨A, c, hv, h1, h2, h3, hr⟩ := m
  simp at hv
  subst hv
  have HR := Lib.hid hr
  clear hr
  obtain ⟨h2, h2'⟩ := h2
  clear h2'
  go_enter Try.func4, Try.ntmps4
  go_wp2
  go_loopw [3, 4] (fun v i wr => ∃ k : Nat, k ≤ ls.length ∧ i = .int .i64 k ∧ Hid (byteK.own 5 wr w.heap.size (fun _ => True) v (ls.take k).flatten) ∧ Below w.heap.size w wr ∧ (ls.take k).flatten.length ≤ 2000) (fun _ i _ => ls.length - (intOf i).toNat)
  case atStart => exact ⟨0, by omega, rfl, Lib.hid (Kd.own_nil _ _ _ _ _), Below.refl _ _, by simp⟩
  case round =>
    obtain ⟨k, hk, rfl, HO, hb, hlen⟩ := hrel
    by_cases hlt : k < ls.length
    · obtain ⟨ad, A', c', rfl, hcell0, g1, g2, g3, g4⟩ := sl_at HR.out k hlt
      have hcell : wr.cell? (ad.add k) = some (.slice A' ls[k].length c') := cell_same hcell0 (hb.block _ (cell_lt hcell0))
      have HR' := Lib.hid (Kd.u8_sl g1 g2 g3 (Kd.row_below g4 hb))
      have HT := Lib.hid (take_flat ls k hlt)
      have HL : Hid ((ls.take (k + 1)).flatten.length = (ls.take k).flatten.length + ls[k].length) := by
        have : (ls.take (k + 1)).flatten.length = (ls.take k).flatten.length + ls[k].length := by rw [take_flat ls k hlt, List.length_append]
        exact Lib.hid this
      clear hcell0 g4
      generalize hg : ls[k] = l at *
      clear hg
      generalize hF : (ls.take k).flatten = F at *
      clear hF
      obtain ⟨A1, c1, rfl, o1, _⟩ := Kd.own_slice HO.out
      obtain ⟨g2, g2'⟩ := g2
      clear g2'
      by_cases hi : 300 < k
      · have hq : decide ((300 : Int) < (k : Int)) = true := by simp; omega
        go_wp2
        go_ret
        exact ⟨rfl, hb⟩
      · have hq : decide ((300 : Int) < (k : Int)) = false := by simp; omega
        by_cases hs : 2000 < F.length + l.length
        · have hq2 : decide ((2000 : Int) < (F.length : Int) + (l.length : Int)) = true := by simp; omega
          go_wp2
          go_ret
          exact ⟨rfl, hb⟩
        · have hq2 : decide ((2000 : Int) < (F.length : Int) + (l.length : Int)) = false := by simp; omega
          have hbz := hb.size
          go_wp2_with (at_builtin; go_loud (refine Kd.own_app byteK w.heap.size rfl (.tmp 24) (.tmp 28) 22 5 (.int .u8 0) 1 rfl Try.underlying22 info_u8 rfl (by decide) _ F l A' c' (fun _ => True) rfl rfl HO.out (.inr ⟨HR'.out, any_u8⟩) hb hbz (by omega) ?_); intro v1 w1 ho1 hb1 hg1 hv1; clear hg1 hv1; have HO1 := Lib.hid ho1; clear ho1)
          go_roundw
          case rel => exact ⟨k + 1, by omega, by go_num, by rw [HT.out]; exact HO1, hb1, by rw [HL.out]; omega⟩
          case measure => simp [intOf]; omega
    · obtain rfl : k = ls.length := by omega
      have HRw := Lib.hid (Kd.row_below HR.out hb)
      obtain ⟨A1, c1, rfl, o1, o2⟩ := Kd.own_slice HO.out
      have HS := Lib.hid (Kd.own_sl (ok' := fun _ => True) HO.out (fun _ _ => trivial) (fun _ _ => trivial))
      rw [List.take_of_length_le (Nat.le_refl _)] at *
      go_wp2_with fail
      refine (sum_calls ls _ _ (fun _ => True) _ (by unfold maxLen; omega) HRw.out).mono ?_
      rintro e w' ⟨rfl, rfl⟩
      generalize hF : ls.flatten = F at *
      clear hF
      go_wp2_with fail
      refine (sum_calls [F] _ _ (fun _ => True) _ (by simp [maxLen]) ?row).mono ?_
      case row => exact one_row rfl HS.out
      rintro e w' ⟨rfl, rfl⟩
      rw [show [F].flatten = F by simp]
      go_wp2_with fail
      refine (known_calls _).mono ?_
      rintro e w' ⟨rfl, hb3⟩
      have hb4 : Below w.heap.size w w' := (hb.alloc hb.size (.cells #[.slice A1 F.length c1] 22)).trans (hb3.mono (by have := hb.size; simp; omega))
      go_wp2_with fail
      go_ret
      exact ⟨rfl, hb4⟩

theorem three_cells (n : Nat) (h : n < 16777216) : (#[Value.int .u8 ((n : Int) / 65536), .int .u8 ((n : Int) / 256 % 256), .int .u8 ((n : Int) % 256)] : Array Value).toList = (three n).map fun c => Value.int .u8 (c.toNat : Int) := by
  unfold three
  simp only [List.map_cons, List.map_nil, UInt8.toNat_ofNat']
  rw [show (((n / 65536 % 2 ^ 8 : Nat)) : Int) = (n : Int) / 65536 by omega, show (((n / 256 % 2 ^ 8 : Nat)) : Int) = (n : Int) / 256 % 256 by omega, show (((n % 2 ^ 8 : Nat)) : Int) = (n : Int) % 256 by omega]

set_option maxHeartbeats 800000 in
theorem sealed (w : World) (l : List UInt8) (v : Value) (m : byteK.sl.M w (fun _ => True) l [v]) :
    Calls Try.prog 6 #[v] w fun e w' => e = .returned (.bool true) ∧ Below w.heap.size w w' := by
  obtain ⟨A, c, hv, h1, h2, h3, hr⟩ := m
  simp at hv
  subst hv
  by_cases hl : 2000 < l.length
  · have hq : decide ((2000 : Int) < (l.length : Int)) = true := by simp; omega
    go_enter Try.func6, Try.ntmps6
    go_wp2
    go_ret
    exact ⟨rfl, Below.refl _ _⟩
  · have hq : decide ((2000 : Int) < (l.length : Int)) = false := by simp; omega
    have HR := Lib.hid hr
    clear hr
    go_enter Try.func6, Try.ntmps6
    go_wp2_with fail
    have b0 : Below w.heap.size w (w.alloc (.cells #[.slice A l.length c] 22)) := (Below.refl _ _).alloc (Nat.le_refl _) _
    refine (sum_calls [l] _ _ (fun _ => True) _ (by simp [maxLen]) (one_row rfl (Kd.u8_sl h1 h2 h3 HR.out))).mono ?_
    rintro e w' ⟨rfl, rfl⟩
    rw [show [l].flatten = l by simp]
    have hn := crc_lt l
    have HZ := Lib.hid (crc_seal l)
    generalize crc l = n at *
    have hq1 : decide ((n : Int) < 0) = false := decide_eq_false (by omega)
    have hq2 : decide ((16777216 : Int) ≤ (n : Int)) = false := decide_eq_false (by omega)
    have h3c := Lib.hid (three_cells n hn)
    go_wp2_with fail
    refine (sum_calls [l, three n] _ _ (fun _ => True) _ (by simp [maxLen]) ?row).mono ?_
    case row =>
      refine Kd.row_two (C := #[.slice A l.length c, .slice (some ⟨w.heap.size + 1, 0, none⟩) 3 3]) (c1 := [.slice A l.length c]) (c2 := [.slice (some ⟨w.heap.size + 1, 0, none⟩) 3 3]) (by repeat (first | exact Kd.bi_new (by simp) | refine Kd.bi_old ?_)) trivial rfl
        (Kd.u8_sl h1 h2 h3 (Kd.row_below HR.out (((b0.alloc (by simp) _).alloc (by simp; omega) _))))
        (Kd.u8_sl (l := three n) (by simp [three]) ⟨by simp [three], by simp [three, maxLen]⟩ (fun h => by cases h) (Kd.row_u8 (by repeat (first | exact Kd.bi_new (by simp) | refine Kd.bi_old ?_)) trivial h3c.out))
    rintro e w' ⟨rfl, rfl⟩
    rw [show [l, three n].flatten = l ++ three n by simp, HZ.out]
    go_wp2_with fail
    refine (known_calls _).mono ?_
    rintro e w' ⟨rfl, hb3⟩
    have hb4 : Below w.heap.size w w' := ((b0.alloc (by simp) _).alloc (by simp; omega) _).trans (hb3.mono (by simp; omega))
    go_wp2_with fail
    go_ret
    exact ⟨rfl, hb4⟩

theorem and_65535 (a : Int) : 0 ≤ Go.bits .and .i64 a 65535 ∧ Go.bits .and .i64 a 65535 < 65536 := by
  have e : Go.bits .and .i64 a 65535 = IntKind.i64.wrap (((BitVec.ofInt 64 a).toNat &&& 65535 : Nat) : Int) := by
    simp only [bits, BitVec.toNat_and]
    rfl
  have h : (BitVec.ofInt 64 a).toNat &&& 65535 < 65536 := by
    have := Nat.and_lt_two_pow (n := 16) (BitVec.ofInt 64 a).toNat (show 65535 < 2 ^ 16 by decide)
    omega
  rw [e, IntKind.wrap_i64]
  omega

theorem u8_xor_b (a b : UInt8) : Go.bits .xor .u8 (a.toNat : Int) (b.toNat : Int) = ((a ^^^ b).toNat : Int) := by
  rw [u8_xor_nat _ _ a.toNat_lt b.toNat_lt, UInt8.toNat_xor]
theorem xor_ne (a b : UInt8) (h : b ≠ 0) : a ^^^ b ≠ a := by
  intro e
  apply h
  have := congrArg (a ^^^ ·) e
  simpa [← UInt8.xor_assoc] using this

set_option maxHeartbeats 1600000 in
theorem turned (w : World) (l : List UInt8) (v : Value) (m : byteK.sl.M w (fun _ => True) l [v]) (at' : Int) (hat : -9223372036854775808 ≤ at' ∧ at' ≤ 9223372036854775807) (by' : UInt8) :
    Calls Try.prog 5 #[v, .int .i64 at', .int .u8 by'.toNat] w fun e w' => e = .returned (.bool true) ∧ Below w.heap.size w w' := by
  obtain ⟨A, c, hv, h1, h2, h3, hr⟩ := m
  simp at hv
  subst hv
  have hby := by'.toNat_lt
  by_cases hbad : l.length < 1 ∨ 1000 < l.length ∨ by' = 0
  · rcases Nat.lt_or_ge l.length 1 with g | g
    · have q1 : decide ((l.length : Int) < 1) = true := decide_eq_true (by omega)
      go_enter Try.func5, Try.ntmps5
      go_wp2
      go_ret
      exact ⟨rfl, Below.refl _ _⟩
    · have q1 : decide ((l.length : Int) < 1) = false := decide_eq_false (by omega)
      rcases Nat.lt_or_ge 1000 l.length with g2 | g2
      · have q2 : decide ((1000 : Int) < (l.length : Int)) = true := decide_eq_true (by omega)
        go_enter Try.func5, Try.ntmps5
        go_wp2
        go_ret
        exact ⟨rfl, Below.refl _ _⟩
      · have q2 : decide ((1000 : Int) < (l.length : Int)) = false := decide_eq_false (by omega)
        have hz : by' = 0 := by
          rcases hbad with h | h | h
          · omega
          · omega
          · exact h
        subst hz
        go_enter Try.func5, Try.ntmps5
        go_wp2
        go_ret
        exact ⟨rfl, Below.refl _ _⟩
  · have g1 : 1 ≤ l.length := by omega
    have g2 : l.length ≤ 1000 := by omega
    have g3 : by' ≠ 0 := fun h => hbad (.inr (.inr h))
    have q1 : decide ((l.length : Int) < 1) = false := decide_eq_false (by omega)
    have q2 : decide ((1000 : Int) < (l.length : Int)) = false := decide_eq_false (by omega)
    have q3 : ((by'.toNat : Int) == 0) = false := by
      rw [beq_eq_false_iff_ne]
      intro h
      exact g3 (UInt8.toNat_inj.1 (by rw [UInt8.toNat_zero]; omega))
    have HR := Lib.hid (Kd.u8_sl h1 h2 h3 hr)
    clear hr hbad
    have b0 : Below w.heap.size w (w.alloc (.cells #[] 5)) := (Below.refl _ _).alloc (Nat.le_refl _) _
    have HO0 : Hid (byteK.own 5 (w.alloc (.cells #[] 5)) w.heap.size (fun _ => True) (.slice (some ⟨w.heap.size, 0, none⟩) 0 0) []) :=
      Lib.hid (Kd.own_block (cells := []) (xs := []) (Nat.le_refl _) (Kd.heap_new _ _) rfl (by simp) (fun i x h => by simp at h))
    have HR0 := Lib.hid (Kd.M_below HR.out b0)
    have h65 := and_65535 at'
    generalize hK : Go.bits .and .i64 at' 65535 = K at *
    go_enter Try.func5, Try.ntmps5
    go_wp2_with (at_builtin; refine Kd.own_app byteK w.heap.size rfl (.tmp 20) (.tmp 21) 22 5 (.int .u8 0) 1 rfl Try.underlying22 info_u8 rfl (by decide) _ [] l A c (fun _ => True) rfl rfl HO0.out (.inr ⟨HR0.out, any_u8⟩) b0 (by simp) (by simp; omega) ?_; intro v1 w1 ho1 hb1 hg1 hv1; clear hg1 hv1; rw [List.nil_append] at ho1; have HO1 := Lib.hid ho1; clear ho1)
    obtain ⟨g, cap, rfl, hg1, hg2, hcap⟩ := Kd.own_form HO1.out (by omega)
    have hi : K % (l.length : Int) = ((K % (l.length : Int)).toNat : Int) := (Int.toNat_of_nonneg (Int.emod_nonneg _ (by omega))).symm
    have hil : (K % (l.length : Int)).toNat < l.length := by
      have := Int.emod_lt_of_pos K (show (0 : Int) < (l.length : Int) by omega)
      omega
    generalize (K % (l.length : Int)).toNat = i at *
    obtain ⟨u, hc, hu⟩ := Kd.own_cell rfl HO1.out hil
    obtain rfl : u = .int .u8 (l[i].toNat : Int) := by simpa [byteK, flat] using hu
    clear hu
    have hf := Kd.own_frozen HO1.out i
    have hx := u8_xor_b l[i] by'
    have HS := Lib.hid (Kd.own_set (u := .int .u8 ((l[i] ^^^ by').toNat : Int)) rfl HO1.out hil (x := l[i] ^^^ by') rfl)
    have HW := Lib.hid (hb1.setCell (p := ⟨g, i, none⟩) hg1 (.int .u8 ((l[i] ^^^ by').toNat : Int)))
    have HT : Hid (crc (l.set i (l[i] ^^^ by')) ≠ crc l) := Lib.hid (fun h => xor_ne l[i] by' g3 (crc_set l i hil (l[i] ^^^ by') h))
    generalize l[i] ^^^ by' = x at *
    generalize l[i] = li at *
    have HL := Lib.hid (Kd.M_below HR.out HW.out)
    have HQ := Lib.hid (Kd.own_sl (ok' := fun _ => True) HS.out (fun _ _ => trivial) (fun _ _ => trivial))
    have hll : (l.set i x).length = l.length := by simp
    go_simp
    go_wp2_with fail
    refine (sum_calls [l] _ _ (fun _ => True) _ (by simp [maxLen]) (one_row (by simp) HL.out)).mono ?_
    rintro e w' ⟨rfl, rfl⟩
    rw [show [l].flatten = l by simp]
    go_wp2_with fail
    have hw2 : (w1.setCell ⟨g, i, none⟩ (Value.int .u8 (x.toNat : Int))).heap.size = w1.heap.size := by simp
    generalize (w1.setCell ⟨g, i, none⟩ (Value.int .u8 (x.toNat : Int))) = w2 at *
    have b1 : Below w2.heap.size w2 (w2.alloc (.cells #[.slice A l.length c] 22)) := (Below.refl _ _).alloc (Nat.le_refl _) _
    refine (sum_calls [l.set i x] _ _ (fun _ => True) _ (by simp [maxLen]) (one_row (by simp [hw2]) (Kd.M_below HQ.out b1))).mono ?_
    rintro e w' ⟨rfl, rfl⟩
    rw [show [l.set i x].flatten = l.set i x by simp]
    have hq4 : (((crc l : Nat) : Int) != ((crc (l.set i x) : Nat) : Int)) = true := by
      rw [bne_iff_ne]
      intro h
      exact HT.out (by omega)
    go_wp2_with fail
    refine (known_calls _).mono ?_
    rintro e w' ⟨rfl, hb3⟩
    have hb4 : Below w.heap.size w w' := ((HW.out.alloc HW.out.size _).alloc (by have := HW.out.size; simp; omega) _).trans (hb3.mono (by have := HW.out.size; simp; omega))
    go_wp2_with fail
    go_ret
    exact ⟨rfl, hb4⟩
end Go.Proofs.Ytimjllokibnibaa.CrcLaws

/-
  What crc's functions and the reference's sum answer.
-/
import Derived.Test.YtimjllokibnibaaProg
import Derived.WalkKit
import Derived.KernelRfl
import Derived.Lib.Hide
import Derived.Deep.LoopGhost
import Derived.Test.YtimjllokibnibaaCrcPure
import Derived.Test.YtimjllokibnibaaBase
set_option linter.unusedVariables false
set_option linter.unusedSimpArgs false
namespace Go.Proofs.Ytimjllokibnibaa.CrcWalk
open Go.RowKit Go.Proofs.Ytimjllokibnibaa.CrcPure Go.Proofs.Ytimjllokibnibaa.B

theorem and_high (y : Nat) (h : y < 33554432) : Go.bits .and .i64 (y : Int) 16777216 = if 16777216 ≤ y then 16777216 else 0 := by
  have hk : ∀ n : Int, 0 ≤ n → n < 2 ^ 63 → IntKind.i64.wrap n = n := fun n h0 h1 => by rw [IntKind.wrap_i64]; omega
  have e := (bits_nat .i64 63 (by decide) hk y 16777216 (by omega) (by omega)).1
  rw [show ((16777216 : Nat) : Int) = (16777216 : Int) from rfl] at e
  rw [e]
  by_cases hy : 16777216 ≤ y
  · rw [if_pos hy]
    have : y &&& 16777216 = 16777216 := by
      apply Nat.eq_of_testBit_eq
      intro j
      rw [Nat.testBit_and, show (16777216 : Nat) = 2 ^ 24 by decide, Nat.testBit_two_pow]
      by_cases hj : 24 = j
      · subst hj; rw [testBit_high hy h]; simp
      · simp [hj]
    rw [this]; rfl
  · rw [if_neg hy]
    have : y &&& 16777216 = 0 := by
      apply Nat.eq_of_testBit_eq
      intro j
      rw [Nat.testBit_and, show (16777216 : Nat) = 2 ^ 24 by decide, Nat.testBit_two_pow, Nat.zero_testBit]
      by_cases hj : 24 = j
      · subst hj; rw [testBit_low (by omega)]; simp
      · simp [hj]
    rw [this]; rfl
theorem xor_i64 (a b : Nat) (ha : a < 9223372036854775808) (hb : b < 9223372036854775808) : Go.bits .xor .i64 (a : Int) (b : Int) = ((a ^^^ b : Nat) : Int) := by
  have hp : (2 : Nat) ^ IntKind.i64.bits = 18446744073709551616 := by decide
  have ha' : a % 18446744073709551616 = a := Nat.mod_eq_of_lt (by omega)
  have hb' : b % 18446744073709551616 = b := Nat.mod_eq_of_lt (by omega)
  simp only [bits, BitVec.ofInt_natCast, BitVec.toNat_xor, BitVec.toNat_ofNat]
  rw [hp, ha', hb']
  have := Nat.xor_lt_two_pow (x := a) (y := b) (n := 63) (by omega) (by omega)
  rw [IntKind.wrap_i64]
  omega


set_option maxHeartbeats 400000 in
theorem one_calls (x : Nat) (hx : x < 16777216) (c : UInt8) (w : World) :
    Calls Try.prog 28 #[.int .i64 x, .int .u8 c.toNat] w fun e w' => e = .returned (.int .i64 (cstep x c : Nat)) ∧ w = w' := by
  have hc := c.toNat_lt
  have e0 : Go.bits .xor .i64 (x : Int) ((c.toNat : Int) * 65536) = ((x ^^^ c.toNat * 65536 : Nat) : Int) := by
    have e := xor_i64 x (c.toNat * 65536) (by omega) (by omega)
    rw [Int.natCast_mul] at e
    exact e
  have hlt := in_lt hx c
  have hstep : cstep x c = shN 8 (x ^^^ c.toNat * 65536) := cstep_eq x c
  generalize x ^^^ c.toNat * 65536 = y0 at *
  generalize cstep x c = r at *
  subst hstep
  go_enter Try.func28, Try.ntmps28
  go_wp2
  go_loop [0, 10] (fun s i => ∃ k y : Nat, k ≤ 8 ∧ i = .int .i64 k ∧ s = .int .i64 y ∧ y < 16777216 ∧ shN (8 - k) y = shN 8 y0) (fun _ i => 8 - (intOf i).toNat)
  case atStart => exact ⟨0, y0, by omega, rfl, rfl, hlt, rfl⟩
  case round =>
    obtain ⟨k, y, hk, rfl, rfl, hy, hs⟩ := hrel
    have H := Lib.hid hs
    clear hs e0
    by_cases hlt : k < 8
    · have hsh : shN (8 - (k + 1)) (sh y) = shN (8 - k) y := by
        rw [← shN_succ, show 8 - (k + 1) + 1 = 8 - k by omega]
      have HS := Lib.hid hsh
      clear hsh
      have hl := sh_lt hy
      by_cases hh : 16777216 ≤ 2 * y
      · have hb : Go.bits .and .i64 ((y : Int) * 2) 16777216 = 16777216 := by
          have e := and_high (2 * y) (by omega)
          rw [if_pos hh] at e
          rw [show ((y : Int) * 2) = ((2 * y : Nat) : Int) by omega]
          exact e
        have hx : Go.bits .xor .i64 ((y : Int) * 2) 25578747 = (sh y : Nat) := by
          have e := xor_i64 (2 * y) 25578747 (by omega) (by omega)
          rw [show ((y : Int) * 2) = ((2 * y : Nat) : Int) by omega]
          unfold sh
          rw [if_pos hh]
          exact e
        go_wp2
        go_round
        case rel => exact ⟨k + 1, sh y, by omega, by go_num, rfl, hl, HS.out.trans H.out⟩
        case measure => simp [intOf]; omega
      · have hb : Go.bits .and .i64 ((y : Int) * 2) 16777216 = 0 := by
          have e := and_high (2 * y) (by omega)
          rw [if_neg hh] at e
          rw [show ((y : Int) * 2) = ((2 * y : Nat) : Int) by omega]
          exact e
        have hv : (y : Int) * 2 = (sh y : Nat) := by unfold sh; rw [if_neg hh]; omega
        have HV := Lib.hid hv
        clear hv
        go_wp2
        go_round
        case rel => exact ⟨k + 1, sh y, by omega, by go_num, by rw [HV.out], hl, HS.out.trans H.out⟩
        case measure => simp [intOf]; omega
    · go_wp2
      go_ret
      obtain rfl : k = 8 := by omega
      exact ⟨ret_int (by rw [← H.out]; rw [shN_zero]), rfl⟩

theorem take_flat (ls : List (List UInt8)) (k : Nat) (h : k < ls.length) : (ls.take (k + 1)).flatten = (ls.take k).flatten ++ ls[k] := by
  rw [List.take_succ_eq_append_getElem h, List.flatten_append]; simp

/-- The cell of a byte in a row. -/
theorem u8_at {w : World} {ok : Nat → Prop} {A : Option Addr} {l : List UInt8} (h : byteK.row w ok A l) (k : Nat) (hk : k < l.length) : ∃ ad, A = some ad ∧ w.cell? (ad.add k) = some (.int .u8 (l[k].toNat : Int)) := by
  obtain ⟨ad, cs, h1, h2, h3⟩ := Kd.row_at h hk
  have e : cs = [.int .u8 (l[k].toNat : Int)] := h2
  subst e
  exact ⟨ad, h1, by simpa [byteK, flat] using h3 0 _ rfl⟩
theorem sl_at {α : Type} {d : Kd α} {w : World} {ok : Nat → Prop} {A : Option Addr} {l : List (List α)} (h : d.sl.row w ok A l) (k : Nat) (hk : k < l.length) :
    ∃ ad A' c', A = some ad ∧ w.cell? (ad.add k) = some (.slice A' l[k].length c') ∧ l[k].length ≤ c' ∧ (l[k].length ≤ 140737488355328 ∧ c' ≤ maxLen) ∧ (A' = none → c' = 0) ∧ d.row w ok A' l[k] := by
  obtain ⟨ad, cs, h1, ⟨A', c', rfl, h4, h5, h6, h7⟩, h3⟩ := Kd.row_at h hk
  exact ⟨ad, A', c', h1, by simpa [Kd.sl] using h3 0 _ rfl, h4, h5, h6, h7⟩

set_option maxHeartbeats 400000 in
theorem sum_calls (ls : List (List UInt8)) (A : Option Addr) (c : Nat) (ok : Nat → Prop) (w : World) (hl : ls.length ≤ maxLen) (hr : byteK.sl.row w ok A ls) :
    Calls Try.prog 17 #[.slice A ls.length c] w fun e w' => e = .returned (.int .i64 (crc ls.flatten : Nat)) ∧ w = w' := by
  unfold maxLen at hl
  have HR := Lib.hid hr
  clear hr
  go_enter Try.func17, Try.ntmps17
  go_wp2
  go_loop [3, 10] (fun s i => ∃ k y : Nat, k ≤ ls.length ∧ i = .int .i64 k ∧ s = .int .i64 y ∧ y < 16777216 ∧ Hid (y = crc (ls.take k).flatten)) (fun _ i => ls.length - (intOf i).toNat)
  case atStart => exact ⟨0, init, by omega, rfl, rfl, init_lt, Lib.hid rfl⟩
  case round =>
    obtain ⟨k, y, hk, rfl, rfl, hy, HS⟩ := hrel
    by_cases hlt : k < ls.length
    · obtain ⟨ad, A', c', rfl, hcell, h1, h2, _, h4⟩ := sl_at HR.out k hlt
      have HR' := Lib.hid h4
      have HT := Lib.hid (take_flat ls k hlt)
      clear h4
      generalize hg : ls[k] = l at *
      clear hg
      obtain ⟨h2, h2'⟩ := h2
      clear h2'
      go_wp2
      go_loop [3, 16] (fun s i => ∃ j z : Nat, j ≤ l.length ∧ i = .int .i64 j ∧ s = .int .i64 z ∧ z < 16777216 ∧ Hid (z = sumFrom y (l.take j))) (fun _ i => l.length - (intOf i).toNat)
      case atStart => exact ⟨0, y, by omega, rfl, rfl, hy, Lib.hid rfl⟩
      case round =>
        obtain ⟨j, z, hj, rfl, rfl, hz, HZ⟩ := hrel
        by_cases hlj : j < l.length
        · obtain ⟨ad', rfl, hc'⟩ := u8_at HR'.out j hlj
          have hn : cstep z l[j] = sumFrom y (l.take (j + 1)) := by
            rw [List.take_succ_eq_append_getElem hlj, sumFrom_snoc, HZ.out]
          have HN := Lib.hid hn
          clear hn
          have hlt' := cstep_lt hz l[j]
          generalize hgj : l[j] = b at *
          clear hgj
          go_wp2_with (go_at_call 28; refine (one_calls z hz b _).mono ?_; rintro e w' ⟨rfl, rfl⟩)
          go_round
          case rel => exact ⟨j + 1, cstep z b, by omega, by go_num, rfl, hlt', HN⟩
          case measure => simp [intOf]; omega
        · go_wp2
          go_round
          case rel =>
            have e : z = crc (ls.take (k + 1)).flatten := by
              rw [HZ.out, HT.out, List.take_of_length_le (by omega), HS.out]
              unfold crc
              rw [sumFrom_append]
            exact ⟨k + 1, z, by omega, by go_num, rfl, hz, Lib.hid e⟩
          case measure => simp [intOf]; omega
    · go_wp2
      go_ret
      obtain rfl : k = ls.length := by omega
      exact ⟨ret_int (by rw [HS.out, List.take_of_length_le (Nat.le_refl _)]), rfl⟩

set_option maxHeartbeats 400000 in
theorem ref_calls (l : List UInt8) (A : Option Addr) (c : Nat) (ok : Nat → Prop) (w : World) (hl : l.length ≤ maxLen) (hr : byteK.row w ok A l) :
    Calls Try.prog 18 #[.slice A l.length c] w fun e w' => e = .returned (.int .i64 (crc l : Nat)) ∧ w = w' := by
  unfold maxLen at hl
  have HR := Lib.hid hr
  clear hr
  go_enter Try.func18, Try.ntmps18
  go_wp2
  go_loop [3, 4] (fun s i => ∃ k y : Nat, k ≤ l.length ∧ i = .int .i64 k ∧ s = .int .i64 y ∧ y < 16777216 ∧ Hid (y = crc (l.take k))) (fun _ i => l.length - (intOf i).toNat)
  case atStart => exact ⟨0, init, by omega, rfl, rfl, init_lt, Lib.hid rfl⟩
  case round =>
    obtain ⟨k, y, hk, rfl, rfl, hy, HS⟩ := hrel
    by_cases hlt : k < l.length
    · obtain ⟨ad, rfl, hcell⟩ := u8_at HR.out k hlt
      have HN : Hid (cstep y l[k] = crc (l.take (k + 1))) := by
        have : crc (l.take (k + 1)) = cstep (crc (l.take k)) l[k] := by unfold crc; rw [List.take_succ_eq_append_getElem hlt, sumFrom_snoc]
        exact Lib.hid (by rw [this, HS.out])
      generalize hg : l[k] = b at *
      clear hg
      have hb := b.toNat_lt
      have e0 : Go.bits .xor .i64 (y : Int) ((b.toNat : Int) * 65536) = ((y ^^^ b.toNat * 65536 : Nat) : Int) := by
        have e := xor_i64 y (b.toNat * 65536) (by omega) (by omega)
        rw [Int.natCast_mul] at e
        exact e
      have hl0 := in_lt hy b
      have HC := Lib.hid (cstep_eq y b)
      have hl1 := cstep_lt hy b
      generalize y ^^^ b.toNat * 65536 = y0 at *
      go_wp2
      clear e0
      go_loop [3, 5] (fun s i => ∃ j z : Nat, j ≤ 8 ∧ i = .int .i64 j ∧ s = .int .i64 z ∧ z < 16777216 ∧ Hid (shN (8 - j) z = shN 8 y0)) (fun _ i => 8 - (intOf i).toNat)
      case atStart => exact ⟨0, y0, by omega, rfl, rfl, hl0, Lib.hid rfl⟩
      case round =>
        obtain ⟨j, z, hj, rfl, rfl, hz, HZ⟩ := hrel
        by_cases hlj : j < 8
        · have HS : Hid (shN (8 - (j + 1)) (sh z) = shN (8 - j) z) := by
            have : shN (8 - (j + 1)) (sh z) = shN (8 - j) z := by rw [← shN_succ, show 8 - (j + 1) + 1 = 8 - j by omega]
            exact Lib.hid this
          have hl2 := sh_lt hz
          by_cases hh : 16777216 ≤ 2 * z
          · have hx : Go.bits .xor .i64 ((z : Int) * 2) 25578747 = (sh z : Nat) := by
              have e := xor_i64 (2 * z) 25578747 (by omega) (by omega)
              rw [show ((z : Int) * 2) = ((2 * z : Nat) : Int) by omega]
              unfold sh
              rw [if_pos hh]
              exact e
            have hq : decide (16777216 ≤ (z : Int) * 2) = true := by simp; omega
            go_wp2
            go_round
            case rel => exact ⟨j + 1, sh z, by omega, by go_num, rfl, hl2, Lib.hid (HS.out.trans HZ.out)⟩
            case measure => simp [intOf]; omega
          · have HV : Hid ((z : Int) * 2 = (sh z : Nat)) := by
              have : (z : Int) * 2 = (sh z : Nat) := by unfold sh; rw [if_neg hh]; omega
              exact Lib.hid this
            have hq : decide (16777216 ≤ (z : Int) * 2) = false := by simp; omega
            go_wp2
            go_round
            case rel => exact ⟨j + 1, sh z, by omega, by go_num, by rw [HV.out], hl2, Lib.hid (HS.out.trans HZ.out)⟩
            case measure => simp [intOf]; omega
        · go_wp2
          go_round
          case rel =>
            obtain rfl : j = 8 := by omega
            have e : z = crc (l.take (k + 1)) := by
              rw [← HN.out, HC.out, ← HZ.out, shN_zero]
            exact ⟨k + 1, z, by omega, by go_num, rfl, hz, Lib.hid e⟩
          case measure => simp [intOf]; omega
    · go_wp2
      go_ret
      obtain rfl : k = l.length := by omega
      exact ⟨ret_int (by rw [HS.out, List.take_of_length_le (Nat.le_refl _)]), rfl⟩
end Go.Proofs.Ytimjllokibnibaa.CrcWalk

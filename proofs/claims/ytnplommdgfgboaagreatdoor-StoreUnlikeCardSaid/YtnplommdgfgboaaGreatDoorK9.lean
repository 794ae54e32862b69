/-
  Texts of the claim, one behind the other: CrcWalk, CrcLaws, BoxWalk, BoxPack, Encode, SCommon, SUnlike, SOrder.
-/
import Derived.Test.YtnplommdgfgboaaGreatDoorK8
import Derived.Test.YtnplommdgfgboaaGreatDoorProg
import Derived.WalkKit
import Derived.KernelRfl
import Derived.Lib.Hide
import Derived.Deep.LoopGhost
import Derived.Lib.SlBytesConst
import Derived.Deep.QuietTactic
import Derived.BigQuiet
import Derived.WalkSpells
import Derived.Deep.DeepCutAuto
import Derived.Deep.RegionWith
set_option linter.unusedVariables false
set_option linter.unusedSimpArgs false
namespace Go.Proofs.YtnplommdgfgboaaGreatDoor.CrcWalk
open Go.RowKit Go.Proofs.YtnplommdgfgboaaGreatDoor.CrcPure Go.Proofs.YtnplommdgfgboaaGreatDoor.B
theorem and_high (y : Nat) (h : y < 33554432) : Go.bits .and .i64 (y : Int) 16777216 = if 16777216 ≤ y then 16777216 else 0 := by
  have hk : ∀ n : Int, 0 ≤ n → n < 2 ^ 63 → IntKind.i64.wrap n = n := fun n h0 h1 => by rw [IntKind.wrap_i64]; omega
  have e := (bits_nat .i64 63 (by decide) hk y 16777216 (by omega) (by omega)).1
  rw [show ((16777216 : Nat) : Int) = (16777216 : Int) from rfl] at e
  rw [e]
  by_cases hy : 16777216 ≤ y
  · rw [if_pos hy]
    have : y &&& 16777216 = 16777216 := by
      apply Nat.eq_of_testBit_eq
      intro j
      rw [Nat.testBit_and, show (16777216 : Nat) = 2 ^ 24 by decide, Nat.testBit_two_pow]
      by_cases hj : 24 = j
      · subst hj; rw [testBit_high hy h]; simp
      · simp [hj]
    rw [this]; rfl
  · rw [if_neg hy]
    have : y &&& 16777216 = 0 := by
      apply Nat.eq_of_testBit_eq
      intro j
      rw [Nat.testBit_and, show (16777216 : Nat) = 2 ^ 24 by decide, Nat.testBit_two_pow, Nat.zero_testBit]
      by_cases hj : 24 = j
      · subst hj; rw [testBit_low (by omega)]; simp
      · simp [hj]
    rw [this]; rfl
theorem xor_i64 (a b : Nat) (ha : a < 9223372036854775808) (hb : b < 9223372036854775808) : Go.bits .xor .i64 (a : Int) (b : Int) = ((a ^^^ b : Nat) : Int) := by
  have hp : (2 : Nat) ^ IntKind.i64.bits = 18446744073709551616 := by decide
  have ha' : a % 18446744073709551616 = a := Nat.mod_eq_of_lt (by omega)
  have hb' : b % 18446744073709551616 = b := Nat.mod_eq_of_lt (by omega)
  simp only [bits, BitVec.ofInt_natCast, BitVec.toNat_xor, BitVec.toNat_ofNat]
  rw [hp, ha', hb']
  have := Nat.xor_lt_two_pow (x := a) (y := b) (n := 63) (by omega) (by omega)
  rw [IntKind.wrap_i64]
  omega
set_option maxHeartbeats 400000 in
theorem one_calls (x : Nat) (hx : x < 16777216) (c : UInt8) (w : World) :
    Calls Tryz.prog 144 #[.int .i64 x, .int .u8 c.toNat] w fun e w' => e = .returned (.int .i64 (cstep x c : Nat)) ∧ w = w' := by
  have hc := c.toNat_lt
  have e0 : Go.bits .xor .i64 (x : Int) ((c.toNat : Int) * 65536) = ((x ^^^ c.toNat * 65536 : Nat) : Int) := by
    have e := xor_i64 x (c.toNat * 65536) (by omega) (by omega)
    rw [Int.natCast_mul] at e
    exact e
  have hlt := in_lt hx c
  have hstep : cstep x c = shN 8 (x ^^^ c.toNat * 65536) := cstep_eq x c
  generalize x ^^^ c.toNat * 65536 = y0 at *
  generalize cstep x c = r at *
  subst hstep
  go_enter Tryz.func144, Tryz.ntmps144
  go_wp2
  go_loop [0, 10] (fun s i => ∃ k y : Nat, k ≤ 8 ∧ i = .int .i64 k ∧ s = .int .i64 y ∧ y < 16777216 ∧ shN (8 - k) y = shN 8 y0) (fun _ i => 8 - (intOf i).toNat)
  case atStart => exact ⟨0, y0, by omega, rfl, rfl, hlt, rfl⟩
  case round =>
    obtain ⟨k, y, hk, rfl, rfl, hy, hs⟩ := hrel
    have H := Lib.hid hs
    clear hs e0
    by_cases hlt : k < 8
    · have hsh : shN (8 - (k + 1)) (sh y) = shN (8 - k) y := by
        rw [← shN_succ, show 8 - (k + 1) + 1 = 8 - k by omega]
      have HS := Lib.hid hsh
      clear hsh
      have hl := sh_lt hy
      by_cases hh : 16777216 ≤ 2 * y
      · have hb : Go.bits .and .i64 ((y : Int) * 2) 16777216 = 16777216 := by
          have e := and_high (2 * y) (by omega)
          rw [if_pos hh] at e
          rw [show ((y : Int) * 2) = ((2 * y : Nat) : Int) by omega]
          exact e
        have hx : Go.bits .xor .i64 ((y : Int) * 2) 25578747 = (sh y : Nat) := by
          have e := xor_i64 (2 * y) 25578747 (by omega) (by omega)
          rw [show ((y : Int) * 2) = ((2 * y : Nat) : Int) by omega]
          unfold sh
          rw [if_pos hh]
          exact e
        go_wp2
        go_round
        case rel => exact ⟨k + 1, sh y, by omega, by go_num, rfl, hl, HS.out.trans H.out⟩
        case measure => simp [intOf]; omega
      · have hb : Go.bits .and .i64 ((y : Int) * 2) 16777216 = 0 := by
          have e := and_high (2 * y) (by omega)
          rw [if_neg hh] at e
          rw [show ((y : Int) * 2) = ((2 * y : Nat) : Int) by omega]
          exact e
        have hv : (y : Int) * 2 = (sh y : Nat) := by unfold sh; rw [if_neg hh]; omega
        have HV := Lib.hid hv
        clear hv
        go_wp2
        go_round
        case rel => exact ⟨k + 1, sh y, by omega, by go_num, by rw [HV.out], hl, HS.out.trans H.out⟩
        case measure => simp [intOf]; omega
    · go_wp2
      go_ret
      obtain rfl : k = 8 := by omega
      exact ⟨ret_int (by rw [← H.out]; rw [shN_zero]), rfl⟩
theorem take_flat (ls : List (List UInt8)) (k : Nat) (h : k < ls.length) : (ls.take (k + 1)).flatten = (ls.take k).flatten ++ ls[k] := by
  rw [List.take_succ_eq_append_getElem h, List.flatten_append]; simp
/-- The cell of a byte in a row. -/
theorem u8_at {w : World} {ok : Nat → Prop} {A : Option Addr} {l : List UInt8} (h : byteK.row w ok A l) (k : Nat) (hk : k < l.length) : ∃ ad, A = some ad ∧ w.cell? (ad.add k) = some (.int .u8 (l[k].toNat : Int)) := by
  obtain ⟨ad, cs, h1, h2, h3⟩ := Kd.row_at h hk
  have e : cs = [.int .u8 (l[k].toNat : Int)] := h2
  subst e
  exact ⟨ad, h1, by simpa [byteK, flat] using h3 0 _ rfl⟩
theorem sl_at {α : Type} {d : Kd α} {w : World} {ok : Nat → Prop} {A : Option Addr} {l : List (List α)} (h : d.sl.row w ok A l) (k : Nat) (hk : k < l.length) :
    ∃ ad A' c', A = some ad ∧ w.cell? (ad.add k) = some (.slice A' l[k].length c') ∧ l[k].length ≤ c' ∧ (l[k].length ≤ 140737488355328 ∧ c' ≤ maxLen) ∧ (A' = none → c' = 0) ∧ d.row w ok A' l[k] := by
  obtain ⟨ad, cs, h1, ⟨A', c', rfl, h4, h5, h6, h7⟩, h3⟩ := Kd.row_at h hk
  exact ⟨ad, A', c', h1, by simpa [Kd.sl] using h3 0 _ rfl, h4, h5, h6, h7⟩
set_option maxHeartbeats 400000 in
theorem sum_calls (ls : List (List UInt8)) (A : Option Addr) (c : Nat) (ok : Nat → Prop) (w : World) (hl : ls.length ≤ maxLen) (hr : byteK.sl.row w ok A ls) :
    Calls Tryz.prog 104 #[.slice A ls.length c] w fun e w' => e = .returned (.int .i64 (crc ls.flatten : Nat)) ∧ w = w' := by
  unfold maxLen at hl
  have HR := Lib.hid hr
  clear hr
  go_enter Tryz.func104, Tryz.ntmps104
  go_wp2
  go_loop [3, 10] (fun s i => ∃ k y : Nat, k ≤ ls.length ∧ i = .int .i64 k ∧ s = .int .i64 y ∧ y < 16777216 ∧ Hid (y = crc (ls.take k).flatten)) (fun _ i => ls.length - (intOf i).toNat)
  case atStart => exact ⟨0, init, by omega, rfl, rfl, init_lt, Lib.hid rfl⟩
  case round =>
    obtain ⟨k, y, hk, rfl, rfl, hy, HS⟩ := hrel
    by_cases hlt : k < ls.length
    · obtain ⟨ad, A', c', rfl, hcell, h1, h2, _, h4⟩ := sl_at HR.out k hlt
      have HR' := Lib.hid h4
      have HT := Lib.hid (take_flat ls k hlt)
      clear h4
      generalize hg : ls[k] = l at *
      clear hg
      obtain ⟨h2, h2'⟩ := h2
      clear h2'
      go_wp2
      go_loop [3, 16] (fun s i => ∃ j z : Nat, j ≤ l.length ∧ i = .int .i64 j ∧ s = .int .i64 z ∧ z < 16777216 ∧ Hid (z = sumFrom y (l.take j))) (fun _ i => l.length - (intOf i).toNat)
      case atStart => exact ⟨0, y, by omega, rfl, rfl, hy, Lib.hid rfl⟩
      case round =>
        obtain ⟨j, z, hj, rfl, rfl, hz, HZ⟩ := hrel
        by_cases hlj : j < l.length
        · obtain ⟨ad', rfl, hc'⟩ := u8_at HR'.out j hlj
          have hn : cstep z l[j] = sumFrom y (l.take (j + 1)) := by
            rw [List.take_succ_eq_append_getElem hlj, sumFrom_snoc, HZ.out]
          have HN := Lib.hid hn
          clear hn
          have hlt' := cstep_lt hz l[j]
          generalize hgj : l[j] = b at *
          clear hgj
          go_wp2_with (go_at_call 144; refine (one_calls z hz b _).mono ?_; rintro e w' ⟨rfl, rfl⟩)
          go_round
          case rel => exact ⟨j + 1, cstep z b, by omega, by go_num, rfl, hlt', HN⟩
          case measure => simp [intOf]; omega
        · go_wp2
          go_round
          case rel =>
            have e : z = crc (ls.take (k + 1)).flatten := by
              rw [HZ.out, HT.out, List.take_of_length_le (by omega), HS.out]
              unfold crc
              rw [sumFrom_append]
            exact ⟨k + 1, z, by omega, by go_num, rfl, hz, Lib.hid e⟩
          case measure => simp [intOf]; omega
    · go_wp2
      go_ret
      obtain rfl : k = ls.length := by omega
      exact ⟨ret_int (by rw [HS.out, List.take_of_length_le (Nat.le_refl _)]), rfl⟩
end Go.Proofs.YtnplommdgfgboaaGreatDoor.CrcWalk
set_option linter.unusedVariables false
set_option linter.unusedSimpArgs false
namespace Go.Proofs.YtnplommdgfgboaaGreatDoor.CrcLaws
open Go.RowKit Go.Proofs.YtnplommdgfgboaaGreatDoor.CrcPure Go.Proofs.YtnplommdgfgboaaGreatDoor.B Go.Proofs.YtnplommdgfgboaaGreatDoor.CrcWalk
theorem info_u8 : (Tryz.prog.info? 5).map (fun i => (i.zero, i.size, i.bytes)) = some (some (.int .u8 0), 1, 1) := by kernel_rfl
theorem any_u8 : ∀ (w : World) (ok ok' : Nat → Prop) (x : UInt8) (cs : List Value), byteK.M w ok x cs → byteK.M w ok' x cs := fun _ _ _ _ _ h => h
/-- A row of one row, as the law lays it ahead of a call of Sum. -/
theorem one_row {W : World} {g : Nat} {v : Value} {l : List UInt8} {ok : Nat → Prop} (hg : W.heap.size = g) (h : byteK.sl.M W ok l [v]) :
    byteK.sl.row (W.alloc (.cells #[v] 55)) (fun _ => True) (some ⟨g, 0, none⟩) [l] :=
  Kd.row_one (C := #[v]) (Kd.bi_new hg) trivial (Kd.M_below (byteK.sl.mono (fun _ _ _ => trivial) h) ((Below.refl _ _).alloc (Nat.le_refl _) _))
theorem three_cells (n : Nat) (h : n < 16777216) : (#[Value.int .u8 ((n : Int) / 65536), .int .u8 ((n : Int) / 256 % 256), .int .u8 ((n : Int) % 256)] : Array Value).toList = (three n).map fun c => Value.int .u8 (c.toNat : Int) := by
  unfold three
  simp only [List.map_cons, List.map_nil, UInt8.toNat_ofNat']
  rw [show (((n / 65536 % 2 ^ 8 : Nat)) : Int) = (n : Int) / 65536 by omega, show (((n / 256 % 2 ^ 8 : Nat)) : Int) = (n : Int) / 256 % 256 by omega, show (((n % 2 ^ 8 : Nat)) : Int) = (n : Int) % 256 by omega]
theorem and_65535 (a : Int) : 0 ≤ Go.bits .and .i64 a 65535 ∧ Go.bits .and .i64 a 65535 < 65536 := by
  have e : Go.bits .and .i64 a 65535 = IntKind.i64.wrap (((BitVec.ofInt 64 a).toNat &&& 65535 : Nat) : Int) := by
    simp only [bits, BitVec.toNat_and]
    rfl
  have h : (BitVec.ofInt 64 a).toNat &&& 65535 < 65536 := by
    have := Nat.and_lt_two_pow (n := 16) (BitVec.ofInt 64 a).toNat (show 65535 < 2 ^ 16 by decide)
    omega
  rw [e, IntKind.wrap_i64]
  omega
end Go.Proofs.YtnplommdgfgboaaGreatDoor.CrcLaws
set_option linter.unusedVariables false
set_option linter.unusedSimpArgs false
namespace Go.Proofs.YtnplommdgfgboaaGreatDoor.BoxWalk
open Go.RowKit Go.Proofs.YtnplommdgfgboaaGreatDoor.CrcPure Go.Proofs.YtnplommdgfgboaaGreatDoor.BoxPure Go.Proofs.YtnplommdgfgboaaGreatDoor.B Go.Proofs.YtnplommdgfgboaaGreatDoor.CrcWalk Go.Proofs.YtnplommdgfgboaaGreatDoor.CrcLaws
abbrev T : Nat → Prop := fun _ => True
/-- A new row of bytes is handed back. -/
def NewBytes (l : List UInt8) (w : World) (e : Ending) (w' : World) : Prop :=
  ∃ v, e = .returned v ∧ byteK.own 5 w' w.heap.size T v l ∧ Below w.heap.size w w'
theorem three_own (n : Nat) (h : n < 16777216) (w : World) :
    byteK.own 5 (w.alloc (.cells #[.int .u8 ((n : Int) / 65536), .int .u8 ((n : Int) / 256 % 256), .int .u8 ((n : Int) % 256)] 5)) w.heap.size T (.slice (some ⟨w.heap.size, 0, none⟩) 3 3) (three n) := by
  have e := three_cells n h
  have hh := Kd.heap_new w (.cells #[.int .u8 ((n : Int) / 65536), .int .u8 ((n : Int) / 256 % 256), .int .u8 ((n : Int) % 256)] 5)
  exact Kd.own_block (cells := [.int .u8 ((n : Int) / 65536), .int .u8 ((n : Int) / 256 % 256), .int .u8 ((n : Int) % 256)]) (xs := three n) (Nat.le_refl _) hh rfl (by simp [three]) (fun i x hx => by
    have := u8_lit _ i x hx
    rw [← e] at this
    exact this)
set_option maxHeartbeats 400000 in
theorem laid_calls (n : Nat) (hn : n < 16777216) (w : World) :
    Calls Tryz.prog 103 #[.int .i64 n] w (NewBytes (three n) w) := by
  go_enter Tryz.func103, Tryz.ntmps103
  go_wp2
  go_ret
  exact ⟨_, rfl, three_own n hn w, bel_alloc (Below.refl _ _) _⟩
end Go.Proofs.YtnplommdgfgboaaGreatDoor.BoxWalk
set_option linter.unusedVariables false
set_option linter.unusedSimpArgs false
namespace Go.Proofs.YtnplommdgfgboaaGreatDoor.BoxPack
open Go.RowKit Go.Proofs.YtnplommdgfgboaaGreatDoor.CrcPure Go.Proofs.YtnplommdgfgboaaGreatDoor.BoxPure Go.Proofs.YtnplommdgfgboaaGreatDoor.B Go.Proofs.YtnplommdgfgboaaGreatDoor.CrcWalk Go.Proofs.YtnplommdgfgboaaGreatDoor.CrcLaws Go.Proofs.YtnplommdgfgboaaGreatDoor.BoxWalk
/-- A section. -/
def secK : Kd Sec := pairK intK byteK.sl
theorem sec_cells {w : World} {ok : Nat → Prop} {x : Sec} {cs : List Value} (h : secK.M w ok x cs) : ∃ A c, cs = [.int .i64 x.1, .slice A x.2.length c] ∧ (-9223372036854775808 ≤ x.1 ∧ x.1 ≤ 9223372036854775807) ∧ byteK.sl.M w ok x.2 [.slice A x.2.length c] := by
  obtain ⟨c1, c2, rfl, ⟨rfl, h1⟩, ⟨A, c, rfl, h2⟩⟩ := h
  exact ⟨A, c, rfl, h1, A, c, rfl, h2⟩
/-- Element k of a row of sections, in cells. -/
theorem sec_at {w : World} {ok : Nat → Prop} {A : Option Addr} {l : List Sec} (h : secK.row w ok A l) (k : Nat) (hk : k < l.length) :
    ∃ b off A' c', A = some ⟨b, off, none⟩ ∧ b < w.heap.size ∧ w.cell? ⟨b, off + k * 2, none⟩ = some (.int .i64 l[k].1) ∧ w.cell? ⟨b, off + k * 2 + 1, none⟩ = some (.slice A' l[k].2.length c') ∧
      (-9223372036854775808 ≤ l[k].1 ∧ l[k].1 ≤ 9223372036854775807) ∧ byteK.sl.M w ok l[k].2 [.slice A' l[k].2.length c'] := by
  obtain ⟨b, off, h1, _, hb, h2⟩ := Kd.row_addr h (by omega)
  obtain ⟨cs, hM, hc⟩ := h2 k hk
  obtain ⟨A', c', rfl, h3, h4⟩ := sec_cells hM
  exact ⟨b, off, A', c', h1, hb, hc 0 _ rfl, hc 1 _ rfl, h3, h4⟩
/-- The state of Pack's loop behind the copy of a section. -/
structure PSt (w W : World) (v : Value) (b : List UInt8) (g : Nat) (id : Int) (body : List UInt8) (u : Value) : Prop where
  own : byteK.own 5 W w.heap.size T v b
  bel : Below w.heap.size w W
  c0 : W.cell? ⟨g, 0, none⟩ = some (.int .i64 id)
  c1 : W.cell? ⟨g, 1, none⟩ = some u
  ne : some g ≠ v.ownBlock
  body : byteK.sl.M W (fun k => k < w.heap.size) body [u]
namespace PSt
variable {w W W' : World} {v v1 : Value} {b ys body : List UInt8} {g : Nat} {id : Int} {u : Value}
theorem call (h : PSt w W v b g id body u) (hb : Below W.heap.size W W') : PSt w W' v b g id body u :=
  ⟨Kd.own_below h.own hb, bel_step h.bel hb, cell_same h.c0 (hb.block _ (cell_lt h.c0)), cell_same h.c1 (hb.block _ (cell_lt h.c1)), h.ne, Kd.M_below h.body hb⟩
theorem app (h : PSt w W v b g id body u) (h1 : byteK.own 5 W' w.heap.size T v1 (b ++ ys)) (h2 : Below w.heap.size w W') (h3 : W.grownBy W' v.ownBlock) (h4 : v1.ownBlock = v.ownBlock ∨ ∃ k, v1.ownBlock = some k ∧ W.heap.size ≤ k) : PSt w W' v1 (b ++ ys) g id body u :=
  ⟨h1, h2, h3.cell h.c0 h.ne, h3.cell h.c1 h.ne, by
    rcases h4 with h4 | ⟨k, h4, h5⟩
    · rw [h4]; exact h.ne
    · rw [h4]
      intro e
      have := cell_lt h.c0
      simp at e
      simp at this
      omega, by
    refine byteK.sl.move (fun k hk hlt => h3.block k hlt (fun e => ?_)) h.body
    have := (Kd.own_lt h.own k e.symm).1
    omega⟩
end PSt
def PackPost (l : List Sec) (w : World) (e : Ending) (w' : World) : Prop :=
  Below w.heap.size w w' ∧ ((May l ∧ ∃ v, e = .returned (.tuple #[v, .int .i64 0]) ∧ byteK.own 5 w' w.heap.size T v (file l)) ∨ (¬ May l ∧ e = .returned (.tuple #[.slice none 0 0, .int .i64 1])))
set_option maxRecDepth 100000 in
set_option maxHeartbeats 1600000 in
theorem pack_calls (l : List Sec) (v : Value) (w : World) (m : secK.sl.M w T l [v]) :
    Calls Tryz.prog 60 #[v] w (PackPost l w) := by
  obtain ⟨A, c, hv, h1, h2, h3, hr0⟩ := m
  simp at hv
  subst hv
  by_cases hlen : 8 < l.length
  · have q1 : decide ((8 : Int) < (l.length : Int)) = true := decide_eq_true (by omega)
    go_enter Tryz.func60, Tryz.ntmps60
    go_wp2
    go_ret2
    exact ⟨Below.refl _ _, .inr ⟨fun h => by have := h.1; omega, rfl⟩⟩
  · have q1 : decide ((8 : Int) < (l.length : Int)) = false := decide_eq_false (by omega)
    have HR := Lib.hid (Kd.row_mono (ok' := fun k => k < w.heap.size) (fun k _ hk => hk) hr0)
    clear hr0
    have kc := fun (w : World) (C : Array Value) (n c : Nat) => Lib.run_convert_bytes_const (P := Tryz.prog) w 55 5 C n c Tryz.underlying55 Tryz.underlying5
    have HL : Hid ((#[.int .u8 (l.length : Int)] : Array Value).toList = [UInt8.ofNat l.length].map fun c => Value.int .u8 (c.toNat : Int)) := by
      have : (#[.int .u8 (l.length : Int)] : Array Value).toList = [UInt8.ofNat l.length].map fun c => Value.int .u8 (c.toNat : Int) := by
        simp only [List.map_cons, List.map_nil, UInt8.toNat_ofNat']
        rw [show (((l.length % 2 ^ 8 : Nat)) : Int) = (l.length : Int) by omega]
      exact Lib.hid this
    go_enter Tryz.func60, Tryz.ntmps60
    go_wp2_with (at_builtin; go_loud (refine Kd.own_grow byteK rfl (.tmp 15) (.tmp 19) 55 5 (.int .u8 0) 1 rfl Tryz.underlying55 info_u8 rfl (by decide) title [UInt8.ofNat l.length] (some ⟨w.heap.size, 0, none⟩) (some ⟨w.heap.size + 1, 0, none⟩) 5 1 T rfl rfl ?hx ?hy (by simp [title]) (by simp) (by simp [title]) ?_); (case hx => exact Kd.u8_sl (l := title) (by simp [title]) (by simp [title, maxLen]) (fun h => by cases h) (Kd.row_u8 (by repeat (first | exact Kd.bi_new (by simp) | refine Kd.bi_old ?_)) trivial rfl)); (case hy => exact Kd.u8_sl (l := [UInt8.ofNat l.length]) (by simp) (by simp [maxLen]) (fun h => by cases h) (Kd.row_u8 (by repeat (first | exact Kd.bi_new (by simp) | refine Kd.bi_old ?_)) trivial HL.out)); intro v1 w1 ho1 hb1; have HO1 := Lib.hid ho1; have HB1 := Lib.hid hb1; clear ho1 hb1)
    have hb0 : Below w.heap.size w w1 := bel_step (bel_alloc (bel_alloc (Below.refl _ _) _) _) HB1.out
    have HO2 : Hid (byteK.own 5 w1 w.heap.size T v1 (title ++ [UInt8.ofNat l.length] ++ heads (l.take 0))) := by
      have := Kd.own_lower (base' := w.heap.size) (by simp; omega) HO1.out
      exact Lib.hid (by simpa [heads] using this)
    have HB2 := Lib.hid hb0
    clear HO1 HB1 hb0 kc
    go_loopw [4, 5, 6, 28] (fun vb vs vl vi wr => ∃ (k : Nat) (S L : Int), k ≤ l.length ∧ vi = .int .i64 k ∧ vs = .int .i64 S ∧ vl = .int .i64 L ∧ Hid (S = ((9 + 7 * l.length + total (l.take k) : Nat) : Int)) ∧ 0 ≤ S ∧ S ≤ 100000 ∧ Hid (L = lastID 0 (l.take k)) ∧ 0 ≤ L ∧
      Hid (rising 0 (l.take k) = true) ∧ Hid (byteK.own 5 wr w.heap.size T vb (title ++ [UInt8.ofNat l.length] ++ heads (l.take k))) ∧ Hid (Below w.heap.size w wr)) (fun _ _ _ vi _ => l.length - (intOf vi).toNat)
    case atStart =>
      exact ⟨0, 6 + 7 * (l.length : Int) + 3, 0, by omega, rfl, rfl, rfl, Lib.hid (by simp [total]; omega), by omega, by omega, Lib.hid rfl, by omega, Lib.hid rfl, HO2, HB2⟩
    case round =>
      clear HO2 HB2
      obtain ⟨k, S, L, hk, rfl, rfl, rfl, HS, hS0, hS1, HLL, hL0, HRi, HO, HB⟩ := hrel
      by_cases hlt : k < l.length
      · obtain ⟨b, off, A', c', rfl, hbl, hc0, hc1, hid, hbody⟩ := sec_at (Kd.row_old HR.out HB.out) k hlt
        have HT1 := Lib.hid (total_snoc l k hlt)
        have HT2 := Lib.hid (heads_snoc l k hlt)
        have HT3 := Lib.hid (rising_snoc' l k hlt 0)
        have HT4 := Lib.hid (lastID_snoc' l k hlt 0)
        have HBY := Lib.hid hbody
        clear hbody
        generalize hx : l[k] = x at *
        clear hx
        obtain ⟨id, body⟩ := x
        dsimp only at *
        have hb47 : body.length ≤ 140737488355328 := by
          obtain ⟨_, _, _, _, h, _⟩ := HBY.out
          exact h.1
        by_cases hbad : id ≤ L ∨ 255 < id ∨ 100000 < S + body.length
        · have HN : Hid (¬ May l) := by
            refine Lib.hid (fun hM => ?_)
            have r1 := rising_take l (k + 1) 0 hM.2.1
            have r2 := total_take l (k + 1)
            have r3 := hM.2.2
            rw [HT3.out, Bool.and_eq_true, Bool.and_eq_true, decide_eq_true_eq, decide_eq_true_eq] at r1
            rw [HT1.out] at r2
            rw [HLL.out] at hbad
            rw [HS.out] at hbad
            omega
          by_cases c1 : id ≤ L
          · have d1 : decide (id ≤ L) = true := decide_eq_true c1
            go_wp2
            go_ret2
            exact ⟨bel_alloc HB.out _, .inr ⟨HN.out, rfl⟩⟩
          · have d1 : decide (id ≤ L) = false := decide_eq_false c1
            by_cases c2 : 255 < id
            · have d2 : decide (255 < id) = true := decide_eq_true c2
              go_wp2
              go_ret2
              exact ⟨bel_alloc HB.out _, .inr ⟨HN.out, rfl⟩⟩
            · have d2 : decide (255 < id) = false := decide_eq_false c2
              have d3 : decide (100000 < S + (body.length : Int)) = true := decide_eq_true (by omega)
              go_wp2
              go_ret2
              exact ⟨bel_alloc HB.out _, .inr ⟨HN.out, rfl⟩⟩
        · have d1 : decide (id ≤ L) = false := decide_eq_false (by omega)
          have d2 : decide (255 < id) = false := decide_eq_false (by omega)
          have d3 : decide (100000 < S + (body.length : Int)) = false := decide_eq_false (by omega)
          have i0 : 0 ≤ id := by omega
          have i1 : id ≤ 255 := by omega
          have hbl1 : body.length ≤ 100000 := by omega
          have i3 : S + body.length ≤ 100000 := by omega
          have i4 : L < id := by omega
          have HID : Hid (id = ((idB id).toNat : Int)) := Lib.hid (idB_val i0 i1).symm
          clear hbad
          obtain ⟨Ab, cb, rfl, _, _⟩ := Kd.own_slice HO.out
          have P0 : PSt w (wr.alloc (.cells #[.int .i64 id, .slice A' body.length c'] 82)) (.slice Ab (title ++ [UInt8.ofNat l.length] ++ heads (l.take k)).length cb) (title ++ [UInt8.ofNat l.length] ++ heads (l.take k)) wr.heap.size id body (.slice A' body.length c') :=
            ⟨Kd.own_alloc HO.out _, bel_alloc HB.out _, by simp, by simp, fun e => by have := (Kd.own_lt HO.out _ e.symm).2; omega, Kd.M_below HBY.out (bel_alloc (Below.refl _ _) _)⟩
          have HP0 := Lib.hid P0
          have hlen0 : (title ++ [UInt8.ofNat l.length] ++ heads (l.take k)).length ≤ 62 := by
            rw [List.length_append, heads_length]; simp [title]; omega
          have HT2' : Hid (title ++ [UInt8.ofNat l.length] ++ heads (l.take (k + 1)) = ((title ++ [UInt8.ofNat l.length] ++ heads (l.take k)) ++ [idB id]) ++ three body.length ++ three (crc body)) :=
            Lib.hid (by rw [HT2.out]; simp [head1])
          clear HT2
          generalize title ++ [UInt8.ofNat l.length] ++ heads (l.take k) = pre at *
          go_upto_region 14 with (at_builtin; go_loud (refine Kd.own_app1 byteK w.heap.size rfl (.tmp 52) (.tmp 56) 55 5 (.int .u8 0) 1 rfl Tryz.underlying55 info_u8 rfl (by decide) _ pre (idB id) [.int .u8 id] T rfl (by simp [Act.eval, Act.put]) HP0.out.own (by exact congrArg (fun z : Int => [Value.int .u8 z]) HID.out) HP0.out.bel HP0.out.bel.size (by omega) ?_); intro v1 w1 ho1 hb1 hg1 hv1; have P1 := Lib.hid (HP0.out.app ho1 hb1 hg1 hv1); clear ho1 hb1 hg1 hv1)
          have hp1 : (pre ++ [idB id]).length ≤ 63 := by simp; omega
          generalize pre ++ [idB id] = p1 at *
          have hc0 := P1.out.c0
          have hc1 := P1.out.c1
          go_wp2_with fail
          refine (laid_calls body.length (by omega) _).mono ?_
          rintro e w2 ⟨v2, rfl, ho2, hb2⟩
          have P2 := Lib.hid (P1.out.call hb2)
          have HO2 := Lib.hid ho2
          have ht2 : (three body.length).length ≤ 3 := Nat.le_refl _
          generalize three body.length = t2 at *
          obtain ⟨A2, c2, rfl, _, _⟩ := Kd.own_slice ho2
          have HM2 := Lib.hid (Kd.own_sl (ok' := T) HO2.out (fun _ _ => trivial) (fun _ _ => trivial))
          clear ho2 hb2 hc0 hc1
          obtain ⟨Ax, cx, rfl, _, _⟩ := Kd.own_slice P2.out.own
          go_upto_region 15 with (at_builtin; go_loud (refine Kd.own_app byteK w.heap.size rfl (.tmp 58) (.tmp 62) 55 5 (.int .u8 0) 1 rfl Tryz.underlying55 info_u8 rfl (by decide) (.slice Ax p1.length cx) p1 t2 A2 c2 T (by simp [Act.eval, Act.put]) (by simp [Act.eval, Act.put]) P2.out.own (.inr ⟨HM2.out, any_u8⟩) P2.out.bel P2.out.bel.size (by omega) ?_); intro v3 w3 ho3 hb3 hg3 hv3; go_loud (have P3 := Lib.hid (P2.out.app ho3 hb3 hg3 (hv3.imp (fun e => e) (fun e => ⟨_, e, Nat.le_refl _⟩)))); clear ho3 hb3 hg3 hv3)
          have hp2 : (p1 ++ t2).length ≤ 66 := by simp; omega
          generalize p1 ++ t2 = p2 at *
          have hc1 := P3.out.c1
          have HS3 := Lib.hid (Kd.M_below P3.out.body (bel_alloc (Below.refl _ _) (.cells #[.slice A' body.length c'] 55)))
          go_wp2_with fail
          refine (sum_calls [body] (some ⟨w3.heap.size, 0, none⟩) _ T _ (by simp [maxLen]) (one_row rfl P3.out.body)).mono ?_
          rintro e w4 ⟨rfl, rfl⟩
          rw [show [body].flatten = body by simp]
          have P4 := Lib.hid (P3.out.call (bel_alloc (Below.refl _ _) (.cells #[.slice A' body.length c'] 55)))
          have hcr := crc_lt body
          generalize crc body = cr at *
          clear hc1
          go_wp2_with fail
          refine (laid_calls cr hcr _).mono ?_
          rintro e w5 ⟨v5, rfl, ho5, hb5⟩
          have P5 := Lib.hid (P4.out.call hb5)
          have HO5 := Lib.hid ho5
          have ht5 : (three cr).length ≤ 3 := Nat.le_refl _
          generalize three cr = t5 at *
          obtain ⟨A5, c5, rfl, _, _⟩ := Kd.own_slice ho5
          have HM5 := Lib.hid (Kd.own_sl (ok' := T) HO5.out (fun _ _ => trivial) (fun _ _ => trivial))
          clear ho5 hb5
          obtain ⟨Ay, cy, rfl, _, _⟩ := Kd.own_slice P5.out.own
          go_wp2_with (at_builtin; go_loud (refine Kd.own_app byteK w.heap.size rfl (.tmp 64) (.tmp 69) 55 5 (.int .u8 0) 1 rfl Tryz.underlying55 info_u8 rfl (by decide) (.slice Ay p2.length cy) p2 t5 A5 c5 T (by simp [Act.eval, Act.put]) (by simp [Act.eval, Act.put]) P5.out.own (.inr ⟨HM5.out, any_u8⟩) P5.out.bel P5.out.bel.size (by omega) ?_); intro v6 w6 ho6 hb6 hg6 hv6; go_loud (have P6 := Lib.hid (P5.out.app ho6 hb6 hg6 (hv6.imp (fun e => e) (fun e => ⟨_, e, Nat.le_refl _⟩)))); clear ho6 hb6 hg6 hv6)
          go_roundw
          case rel => exact ⟨k + 1, S + body.length, id, by omega, by go_num, rfl, rfl, Lib.hid (by rw [HT1.out, HS.out]; omega), by omega, by omega, Lib.hid HT4.out.symm, i0, Lib.hid (by rw [HT3.out, HRi.out, ← HLL.out]; simp; omega), Lib.hid (by rw [HT2'.out]; exact P6.out.own), Lib.hid P6.out.bel⟩
          case measure => simp [intOf]; omega
      · obtain rfl : k = l.length := by omega
        rw [List.take_of_length_le (Nat.le_refl _)] at *
        have hM : May l := ⟨by omega, HRi.out, by have := HS.out; omega⟩
        have HM := Lib.hid hM
        clear hM
        have HH : Hid (title ++ [UInt8.ofNat l.length] ++ heads l = header l) := Lib.hid (by simp [header])
        rw [HH.out] at HO
        have hhl : (header l).length ≤ 62 := by rw [header_length]; omega
        have HF : Hid (header l ++ three (crc (header l)) ++ bodies l = file l) := Lib.hid rfl
        generalize header l = hd at *
        clear HH HS HLL HRi
        obtain ⟨Ab, cb, rfl, _, _⟩ := Kd.own_slice HO.out
        have HS0 := Lib.hid (Kd.own_sl (ok' := T) HO.out (fun _ _ => trivial) (fun _ _ => trivial))
        go_wp2_with fail
        refine (sum_calls [hd] (some ⟨wr.heap.size, 0, none⟩) _ T _ (by simp [maxLen]) (one_row rfl HS0.out)).mono ?_
        rintro e w4 ⟨rfl, rfl⟩
        rw [show [hd].flatten = hd by simp]
        have HO4 := Lib.hid (Kd.own_alloc HO.out (.cells #[.slice Ab hd.length cb] 55))
        have HB4 := Lib.hid (bel_alloc HB.out (.cells #[.slice Ab hd.length cb] 55))
        have hcr := crc_lt hd
        generalize crc hd = cr at *
        generalize wr.alloc (.cells #[.slice Ab hd.length cb] 55) = w4 at *
        go_wp2_with fail
        refine (laid_calls cr hcr _).mono ?_
        rintro e w5 ⟨v5, rfl, ho5, hb5⟩
        have HO5 := Lib.hid ho5
        have HP5 := Lib.hid (Kd.own_below HO4.out hb5)
        have HB5 := Lib.hid (bel_step HB4.out hb5)
        have ht5 : (three cr).length ≤ 3 := Nat.le_refl _
        generalize three cr = t5 at *
        obtain ⟨A5, c5, rfl, _, _⟩ := Kd.own_slice ho5
        have HM5 := Lib.hid (Kd.own_sl (ok' := T) HO5.out (fun _ _ => trivial) (fun _ _ => trivial))
        clear ho5 hb5
        go_wp2_with (at_builtin; go_loud (refine Kd.own_app byteK w.heap.size rfl (.tmp 72) (.tmp 76) 55 5 (.int .u8 0) 1 rfl Tryz.underlying55 info_u8 rfl (by decide) (.slice Ab hd.length cb) hd t5 A5 c5 T (by simp [Act.eval, Act.put]) (by simp [Act.eval, Act.put]) HP5.out (.inr ⟨HM5.out, any_u8⟩) HB5.out HB5.out.size (by omega) ?_); intro v6 w6 ho6 hb6 hg6 hv6; have HO6 := Lib.hid ho6; have HB6 := Lib.hid hb6; clear ho6 hb6 hg6 hv6)
        have hp6 : (hd ++ t5).length ≤ 65 := by simp; omega
        generalize hd ++ t5 = p6 at *
        have ht := HM.out.2.2
        go_loopw [4, 80] (fun vb vi wq => ∃ k : Nat, k ≤ l.length ∧ vi = .int .i64 k ∧ Hid (byteK.own 5 wq w.heap.size T vb (p6 ++ bodies (l.take k))) ∧ Hid (Below w.heap.size w wq)) (fun _ vi _ => l.length - (intOf vi).toNat)
        case atStart => exact ⟨0, by omega, rfl, Lib.hid (by simpa [bodies] using HO6.out), HB6⟩
        case round =>
          obtain ⟨k, hk', rfl, HOq, HBq⟩ := hrel
          by_cases hlt' : k < l.length
          · obtain ⟨b, off, A', c', rfl, hbl, hc0, hc1, hid, hbody⟩ := sec_at (Kd.row_old HR.out HBq.out) k hlt'
            have HT2 := Lib.hid (bodies_snoc l k hlt')
            have hT3 : (bodies (l.take k)).length + l[k].2.length ≤ 100000 := by
              have e1 := total_snoc l k hlt'
              have e2 := total_take l (k + 1)
              rw [bodies_length]
              omega
            have HBY := Lib.hid (Kd.M_below hbody (bel_alloc (Below.refl _ _) (.cells #[.int .i64 l[k].1, .slice A' l[k].2.length c'] 82)))
            clear hbody
            have hpq : (p6 ++ bodies (l.take k)).length = p6.length + (bodies (l.take k)).length := by simp
            have hpq' : (p6 ++ bodies (l.take k)).length + l[k].2.length ≤ 100065 := by omega
            clear hpq hT3
            generalize hx : l[k] = x at *
            clear hx
            obtain ⟨id, body⟩ := x
            dsimp only at *
            have HT3 : Hid (p6 ++ bodies (l.take (k + 1)) = (p6 ++ bodies (l.take k)) ++ body) := Lib.hid (by rw [HT2.out, List.append_assoc])
            generalize p6 ++ bodies (l.take k) = pq at *
            obtain ⟨Aq, cq, rfl, _, _⟩ := Kd.own_slice HOq.out
            have HOr := Lib.hid (Kd.own_alloc HOq.out (.cells #[.int .i64 id, .slice A' body.length c'] 82))
            have HBr := Lib.hid (bel_alloc HBq.out (.cells #[.int .i64 id, .slice A' body.length c'] 82))
            go_wp2_with (at_builtin; go_loud (refine Kd.own_app byteK w.heap.size rfl (.tmp 84) (.tmp 86) 55 5 (.int .u8 0) 1 rfl Tryz.underlying55 info_u8 rfl (by decide) (.slice Aq pq.length cq) pq body A' c' T (by simp [Act.eval, Act.put]) (by simp [Act.eval, Act.put]) HOr.out (.inr ⟨byteK.sl.mono (fun _ _ _ => trivial) HBY.out, any_u8⟩) HBr.out HBr.out.size (by omega) ?_); intro v7 w7 ho7 hb7 hg7 hv7; have HO7 := Lib.hid ho7; have HB7 := Lib.hid hb7; clear ho7 hb7 hg7 hv7)
            go_roundw
            case rel => exact ⟨k + 1, by omega, by go_num, Lib.hid (by rw [HT3.out]; exact HO7.out), HB7⟩
            case measure => simp [intOf]; omega
          · obtain rfl : k = l.length := by omega
            rw [List.take_of_length_le (Nat.le_refl _)] at HOq
            go_wp2_with fail
            go_ret2
            exact ⟨HBq.out, .inl ⟨HM.out, _, rfl, by rw [← HF.out]; exact HOq.out⟩⟩
end Go.Proofs.YtnplommdgfgboaaGreatDoor.BoxPack
set_option linter.unusedVariables false
set_option linter.unusedSimpArgs false
namespace Go.Proofs.YtnplommdgfgboaaGreatDoor.Encode
open Go.RowKit Go.Lib Go.Proofs.YtnplommdgfgboaaGreatDoor.B Go.Proofs.YtnplommdgfgboaaGreatDoor.Rd Go.Proofs.YtnplommdgfgboaaGreatDoor.TermPure Go.Proofs.YtnplommdgfgboaaGreatDoor.LinesPure Go.Proofs.YtnplommdgfgboaaGreatDoor.Tri Go.Proofs.YtnplommdgfgboaaGreatDoor.SortP Go.Proofs.YtnplommdgfgboaaGreatDoor.OrdG Go.Proofs.YtnplommdgfgboaaGreatDoor.TermW Go.Proofs.YtnplommdgfgboaaGreatDoor.Cmp Go.Proofs.YtnplommdgfgboaaGreatDoor.StoreW Go.Proofs.YtnplommdgfgboaaGreatDoor.Clones Go.Proofs.YtnplommdgfgboaaGreatDoor.Search Go.Proofs.YtnplommdgfgboaaGreatDoor.FrontP Go.Proofs.YtnplommdgfgboaaGreatDoor.FrontW Go.Proofs.YtnplommdgfgboaaGreatDoor.PackW Go.Proofs.YtnplommdgfgboaaGreatDoor.StoreP Go.Proofs.YtnplommdgfgboaaGreatDoor.IdsCmp Go.Proofs.YtnplommdgfgboaaGreatDoor.IdsW Go.Proofs.YtnplommdgfgboaaGreatDoor.IdsAll
theorem strs_snoc (l : List (List UInt8)) (k : Nat) (h : k < l.length) : strs (l.take k) ++ [mkS l[k]] = strs (l.take (k + 1)) := by
  unfold strs
  rw [List.take_succ_eq_append_getElem h, List.map_append]
  rfl
theorem nums_snoc (I : List Ids) (k : Nat) (h : k < I.length) : natZ (nums (I.take k)) ++ [(I[k].a : Int), (I[k].b : Int), (I[k].c : Int)] = natZ (nums (I.take (k + 1))) := by
  unfold nums natZ
  rw [List.take_succ_eq_append_getElem h, List.flatMap_append, List.map_append]
  simp
theorem three_ints (W : World) (a b c : Nat) (ha : a ≤ 1000000) (hb : b ≤ 1000000) (hc : c ≤ 1000000) : intK.sl.M (W.alloc (.cells #[.int .i64 (a : Int), .int .i64 (b : Int), .int .i64 (c : Int)] 40)) (fun _ => True) [(a : Int), (b : Int), (c : Int)] [.slice (some ⟨W.heap.size, 0, none⟩) 3 3] := by
  refine ⟨some ⟨W.heap.size, 0, none⟩, 3, rfl, Nat.le_refl _, ⟨by simp, by unfold maxLen; omega⟩, fun h => (by cases h), fun i x hx => ?_⟩
  match i with
  | 0 =>
    simp at hx
    subst hx
    refine ⟨_, [.int .i64 (a : Int)], rfl, trivial, ⟨rfl, by omega⟩, fun j u hu => ?_⟩
    rw [add_plain, World.cell?, Kd.heap_new]
    match j with
    | 0 => simp at hu; subst hu; rfl
    | j + 1 => simp at hu
  | 1 =>
    simp at hx
    subst hx
    refine ⟨_, [.int .i64 (b : Int)], rfl, trivial, ⟨rfl, by omega⟩, fun j u hu => ?_⟩
    rw [add_plain, World.cell?, Kd.heap_new]
    match j with
    | 0 => simp at hu; subst hu; rfl
    | j + 1 => simp at hu
  | 2 =>
    simp at hx
    subst hx
    refine ⟨_, [.int .i64 (c : Int)], rfl, trivial, ⟨rfl, by omega⟩, fun j u hu => ?_⟩
    rw [add_plain, World.cell?, Kd.heap_new]
    match j with
    | 0 => simp at hu; subst hu; rfl
    | j + 1 => simp at hu
  | i + 3 => simp at hx
theorem ids_row {w : World} {ok : Nat → Prop} {l : List Ids} {A : Option Addr} {c : Nat} (h : idsK.sl.M w ok l [.slice A l.length c]) (hp : 0 < l.length) :
    ∃ b off, A = some ⟨b, off, none⟩ ∧ b < w.heap.size ∧ ∀ i (hi : i < l.length), I3 w b (off + i * 3) l[i] := by
  obtain ⟨A', c', he, hlc, _, hA, hrow⟩ := h
  obtain ⟨rfl, rfl⟩ : A = A' ∧ c = c' := by simpa using he
  obtain ⟨b, off, hAe, _, hb, hcells⟩ := Kd.row_addr hrow hp
  refine ⟨b, off, hAe, hb, fun i hi => ?_⟩
  obtain ⟨cs, ⟨hcs, _⟩, hcell⟩ := hcells i hi
  subst hcs
  exact I3.of hcell
theorem dict_below {w w' : World} {g : Nat} {l : List (List UInt8)} (h : DictAt w (fun _ => True) g l) (hb : Below w.heap.size w w') : DictAt w' (fun _ => True) g l := by
  obtain ⟨A, c, hc, hM⟩ := h
  exact ⟨A, c, (hb.cell (p := ⟨g, 0, none⟩) (cell_lt hc)).trans hc, strK.sl.mono (fun _ _ _ => trivial) (Kd.M_below (Kd.M_bound hM) hb)⟩
theorem wrap_a (n : Nat) (h : n ≤ 100) : IntKind.u8.wrap (IntKind.i64.wrap ((n : Int) / 256)) = (n : Int) / 256 := by
  rw [IntKind.wrap_i64, IntKind.wrap_u8']
  omega
theorem wrap_b (n : Nat) (h : n ≤ 100) : IntKind.u8.wrap ((n : Int).tmod 256) = (n : Int) % 256 := by
  rw [Int.tmod_eq_emod_of_nonneg (by omega), IntKind.wrap_u8']
  omega
/-- Two sections, just laid. -/
theorem two_secs {W : World} {i1 i2 : Int} {b1 b2 : List UInt8} {u1 u2 : Value} (h1 : byteK.sl.M W (fun _ => True) b1 [u1]) (h2 : byteK.sl.M W (fun _ => True) b2 [u2]) (f1 : 0 ≤ i1 ∧ i1 ≤ 255) (f2 : 0 ≤ i2 ∧ i2 ≤ 255) :
    BoxPack.secK.sl.M (W.alloc (.cells #[.int .i64 i1, u1, .int .i64 i2, u2] 82)) (fun _ => True) [(i1, b1), (i2, b2)] [.slice (some ⟨W.heap.size, 0, none⟩) 2 2] := by
  have hb : Below W.heap.size W (W.alloc (.cells #[.int .i64 i1, u1, .int .i64 i2, u2] 82)) := bel_alloc (Below.refl _ _) _
  have m1 := byteK.sl.mono (ok' := fun _ => True) (fun _ _ _ => trivial) (Kd.M_below (Kd.M_bound h1) hb)
  have m2 := byteK.sl.mono (ok' := fun _ => True) (fun _ _ _ => trivial) (Kd.M_below (Kd.M_bound h2) hb)
  refine ⟨some ⟨W.heap.size, 0, none⟩, 2, rfl, Nat.le_refl _, ⟨by simp, by unfold maxLen; omega⟩, fun h => (by cases h), fun i x hx => ?_⟩
  match i with
  | 0 =>
    simp at hx
    subst hx
    refine ⟨_, [.int .i64 i1, u1], rfl, trivial, ⟨[.int .i64 i1], [u1], rfl, ⟨rfl, by dsimp only; omega⟩, m1⟩, fun j u hu => ?_⟩
    rw [add_plain, World.cell?, Kd.heap_new]
    match j with
    | 0 => simp at hu; subst hu; rfl
    | 1 => simp at hu; subst hu; rfl
    | j + 2 => simp at hu
  | 1 =>
    simp at hx
    subst hx
    refine ⟨_, [.int .i64 i2, u2], rfl, trivial, ⟨[.int .i64 i2], [u2], rfl, ⟨rfl, by dsimp only; omega⟩, m2⟩, fun j u hu => ?_⟩
    rw [add_plain, World.cell?, Kd.heap_new]
    match j with
    | 0 => simp at hu; subst hu; rfl
    | 1 => simp at hu; subst hu; rfl
    | j + 2 => simp at hu
  | i + 2 => simp at hx
theorem pack_enc {T : List Triple} (h : Valid T) (hl : T.length ≤ 100) (v : Value) (w : World) (m : BoxPack.secK.sl.M w (fun _ => True) (secs2 T) [v]) :
    Calls Tryz.prog 60 #[v] w fun e w' => (∃ u, e = .returned (.tuple #[u, .int .i64 0]) ∧ byteK.own 5 w' w.heap.size (fun _ => True) u (encT T)) ∧ Below w.heap.size w w' := by
  refine (BoxPack.pack_calls (secs2 T) v w m).mono ?_
  rintro e w' ⟨hb, ⟨_, u, he, ho⟩ | ⟨hn, _⟩⟩
  · exact ⟨⟨u, he, ho⟩, hb⟩
  · exact absurd (enc_may h hl) hn
set_option maxHeartbeats 12800000 in
set_option maxRecDepth 100000 in
theorem encode_calls (T : List Triple) (hv : Valid T) (hl : T.length ≤ 100) (g : Nat) (w : World) (ok : Nat → Prop) (h : StoreAt w ok g T) :
    Calls Tryz.prog 28 #[.pointer (some ⟨g, 0, none⟩)] w fun e w' => (∃ v, e = .returned v ∧ byteK.own 5 w' w.heap.size (fun _ => True) v (encT T)) ∧ Below w.heap.size w w' := by
  obtain ⟨_, ⟨A0, cp0, hg0, _⟩, ⟨A1, cp1, hg1, hM1⟩, r, hg2, hR⟩ := h
  have hglt : g < w.heap.size := cell_lt hg0
  have HG0 := Lib.hid (fun W (hb : Below w.heap.size w W) => (hb.cell (p := ⟨g, 0, none⟩) hglt).trans hg0)
  have HG1 := Lib.hid (fun W (hb : Below w.heap.size w W) => (hb.cell (p := ⟨g, 1, none⟩) hglt).trans hg1)
  have HG2 := Lib.hid (fun W (hb : Below w.heap.size w W) => (hb.cell (p := ⟨g, 2, none⟩) hglt).trans hg2)
  have HRow := Lib.hid (fun hp => term_cells (Kd.M_bound hM1) hp)
  have HRing := Lib.hid (fun W (hb : Below w.heap.size w W) => all_calls anyP (idsT T) (by rw [ids_len]; exact hl) r W ok (hR.below hb))
  rw [filter_any] at HRing
  unfold patL anyP at HRing
  dsimp only at HRing
  have HV := Lib.hid hv
  have HTx : Hid (texts T = (termsT T).map shown) := Lib.hid rfl
  have HShort := Lib.hid (texts_short hv)
  have HRise := Lib.hid (texts_rise hv)
  have HIs := Lib.hid (termsT_is hv)
  have hE := E_len hv hl
  have HPk := Lib.hid (pack_enc hv hl)
  have HBits := Lib.hid (nums_bits hv hl)
  have HWide : Hid (wide T = Lib.bitLen (termsT T).length ∧ wide T ≤ 9) := Lib.hid ⟨rfl, wide_le hv hl⟩
  have HIdl : Hid ((idsT T).length = T.length) := Lib.hid (ids_len T)
  have HIb : Hid (∀ x ∈ idsT T, x.a ≤ 1000 ∧ x.b ≤ 1000 ∧ x.c ≤ 1000) := Lib.hid (fun x hx => by
    obtain ⟨q1, q2, q3⟩ := Made.good_ids hv hl x hx
    omega)
  have HBl := Lib.hid (body_len hv hl)
  have HSecs : Hid (secs2 T = [(1, frontB (texts T)), (2, headN T.length ++ packB (nums (idsT T)) (wide T))]) := Lib.hid rfl
  obtain ⟨L, hL⟩ : ∃ L, L = texts T := ⟨_, rfl⟩
  obtain ⟨E, hEe⟩ : ∃ E, E = termsT T := ⟨_, rfl⟩
  obtain ⟨I, hI⟩ : ∃ I, I = idsT T := ⟨_, rfl⟩
  have HLl : Hid (L.length = E.length) := Lib.hid (by rw [hL, hEe]; unfold texts; simp)
  rw [← hL] at HTx HShort HRise HSecs
  rw [← hEe] at HTx HG1 HRow HIs hE HWide
  rw [← hI] at HRing HBits HIdl HIb HSecs HBl
  have HO0 : Hid (strK.own 9 w w.heap.size Clones.TT (.slice none 0 0) (strs (L.take 0))) := Lib.hid (Kd.own_nil _ _ _ _ _)
  clear hg0 hg1 hg2 hM1 hR hv hL hEe hI
  have k1 := HG1.out w (Below.refl _ _)
  go_enter Tryz.func28, Tryz.ntmps28
  go_wp2
  go_loopw [3, 22] (fun v3 vk wr => ∃ k : Nat, vk = .int .i64 k ∧ k ≤ E.length ∧ Hid (strK.own 9 wr w.heap.size Clones.TT v3 (strs (L.take k)) ∧ Below w.heap.size w wr)) (fun _ vk _ => E.length - (intOf vk).toNat)
  case atStart => exact ⟨0, rfl, by omega, Lib.hid ⟨HO0.out, Below.refl _ _⟩⟩
  case round =>
    obtain ⟨k, rfl, hk, HI⟩ := hrel
    clear HO0 k1
    obtain ⟨X, hX⟩ : ∃ X, X = strs (L.take k) := ⟨_, rfl⟩
    rw [← hX] at HI
    have HXe := Lib.hid hX
    clear hX
    obtain ⟨A3, c3, rfl, _, _⟩ := Kd.own_slice HI.out.1
    by_cases hlt : k < E.length
    · have hd : decide (k < E.length) = true := decide_eq_true hlt
      have ik : (k : Int) < (E.length : Int) := by omega
      obtain ⟨b, off, rfl, _, hbs, hcells⟩ := HRow.out (by omega)
      have hcx := (hcells k hlt).below HI.out.2
      have hkL : k < L.length := by rw [HLl.out]; exact hlt
      have hsn := strs_snoc L k hkL
      have hsh := HShort.out _ (List.getElem_mem hkL)
      have hLk : L[k] = shown E[k] := by
        have : ∀ (X : List (List UInt8)) (hx : X = E.map shown) (h : k < X.length), X[k] = shown E[k] := by rintro X rfl h; simp
        exact this L HTx.out hkL
      obtain ⟨x, hx⟩ : ∃ x, x = E[k] := ⟨_, rfl⟩
      rw [← hx] at hcx hLk
      have hxi := HIs.out x (by rw [hx]; exact List.getElem_mem hlt)
      rw [hLk] at hsn hsh
      obtain ⟨S1, hS1⟩ : ∃ S1, S1 = shown x := ⟨_, rfl⟩
      have HSh := Lib.hid (fun W => Show.show_calls x (by have := ParseP.is_small hxi; omega) (by have := ParseP.is_small hxi; omega) W)
      rw [← hS1] at hsn hsh HSh
      have hbx : Below wr.heap.size wr (wr.alloc (.cells (termL x).toArray 24)) := bel_alloc (Below.refl _ _) _
      have hnx := C3.new wr x
      obtain ⟨w0, hw0⟩ : ∃ w0, w0 = wr.alloc (.cells (termL x).toArray 24) := ⟨_, rfl⟩
      rw [← hw0] at hbx hnx
      have HW : Hid (wr.alloc (.cells (termL x).toArray 24) = w0) := Lib.hid hw0.symm
      have HB0 := Lib.hid (bel_step HI.out.2 hbx)
      have HO1 := Lib.hid (Kd.own_below HI.out.1 hbx)
      have HSn := Lib.hid hsn
      have zS := mkS_size S1
      have HSz : Hid ((mkS S1).size ≤ 140737488355328) := Lib.hid (by rw [zS]; omega)
      have hlk : X.length ≤ 300 := by rw [HXe.out, strs_len, List.length_take]; omega
      rw [← HXe.out] at HSn
      obtain ⟨x0, x1, x2⟩ := hcx
      obtain ⟨y0, y1, y2⟩ := hnx
      simp only [Nat.zero_add] at y1 y2
      clear hcells hkL hsn hsh hLk hx hxi hS1 hbx hw0 HI
      obtain ⟨xk, xt, xe⟩ := x
      unfold Ref5.termV at HSh
      unfold termL at HW
      dsimp only at x0 x1 x2 y0 y1 y2 HSh HW
      go_upto_region 7 with fail
      rw [HW.out]
      clear x0 x1 x2 HW
      go_wp2_with (first
        | (go_at_call 56; refine (HSh.out _).mono ?_; rintro e w2 ⟨rfl, hb⟩; have HB2 := Lib.hid (bel_step HB0.out hb); have HO2 := Lib.hid (Kd.own_below HO1.out hb); clear hb)
        | (at_builtin; refine Kd.own_app1 strK (w0 := w2) w.heap.size rfl (.tmp 26) (.tmp 29) 51 9 zero_str 16 rfl Tryz.underlying51 info_str rfl (by decide) _ X (mkS S1) [.string (mkS S1)] Clones.TT (by rfl) (by rfl) HO2.out ⟨rfl, HSz.out⟩ (Below.refl _ _) HB2.out.size (by omega) ?_; intro v1 w3 ho1 hb1 hg1 hv1; clear hg1 hv1; rw [HSn.out] at ho1; have HO3 := Lib.hid ho1; have HB3 := Lib.hid (HB2.out.trans hb1); clear ho1 hb1; obtain ⟨A5, c5, rfl, _, _⟩ := Kd.own_slice HO3.out))
      go_roundw
      case rel => exact ⟨k + 1, by go_num, by omega, Lib.hid ⟨HO3.out, HB3.out⟩⟩
      case measure => simp [intOf]; omega
    · have hd : decide (k < E.length) = false := decide_eq_false hlt
      have hxl : X.length = L.length := by rw [HXe.out, List.take_of_length_le (by rw [HLl.out]; omega), strs_len]
      have HXL : Hid (X = strs L) := Lib.hid (by rw [HXe.out, List.take_of_length_le (by rw [HLl.out]; omega)])
      have HOx := Lib.hid HI.out.1
      have HBx := Lib.hid HI.out.2
      have k2 := HG2.out wr HBx.out
      have HRi := Lib.hid (HRing.out wr HBx.out)
      have HXlen := Lib.hid hxl
      clear HI hxl HRow HXe
      go_wp2_with fail
      refine HRi.out.mono ?_
      rintro e w5 ⟨⟨A4, c4, rfl, hM4⟩, hb⟩
      have HB5 := Lib.hid (bel_step HBx.out hb)
      have HO5 := Lib.hid (Kd.own_below HOx.out hb)
      have HRI := Lib.hid (fun hp => ids_row hM4 hp)
      have HN0 : Hid (intK.own 3 w5 w5.heap.size Clones.TT (.slice none 0 0) (natZ (nums (I.take 0)))) := Lib.hid (Kd.own_nil _ _ _ _ _)
      have hIl : I.length ≤ 100 := by rw [HIdl.out]; exact hl
      clear hM4 hb HRi HRing HOx HBx k2
      go_wp2
      go_loopw [6, 39] (fun v6 vk wr => ∃ k : Nat, vk = .int .i64 k ∧ k ≤ I.length ∧ Hid (intK.own 3 wr w5.heap.size Clones.TT v6 (natZ (nums (I.take k))) ∧ Below w5.heap.size w5 wr)) (fun _ vk _ => I.length - (intOf vk).toNat)
      case atStart => exact ⟨0, rfl, by omega, Lib.hid ⟨HN0.out, Below.refl _ _⟩⟩
      case round =>
        obtain ⟨k2, rfl, hk2, HJ⟩ := hrel
        clear HN0
        obtain ⟨Y, hY⟩ : ∃ Y, Y = natZ (nums (I.take k2)) := ⟨_, rfl⟩
        rw [← hY] at HJ
        have HYe := Lib.hid hY
        clear hY
        obtain ⟨A6, c6, rfl, _, _⟩ := Kd.own_slice HJ.out.1
        by_cases hlt2 : k2 < I.length
        · have hd2 : decide (k2 < I.length) = true := decide_eq_true hlt2
          have ik2 : (k2 : Int) < (I.length : Int) := by omega
          obtain ⟨b, off, rfl, hbs, hcells⟩ := HRI.out (by omega)
          have hcx := (hcells k2 hlt2).below HJ.out.2
          have hsn := nums_snoc I k2 hlt2
          obtain ⟨x, hx⟩ : ∃ x, x = I[k2] := ⟨_, rfl⟩
          rw [← hx] at hcx hsn
          rw [← HYe.out] at hsn
          have hxb := HIb.out x (by rw [hx]; exact List.getElem_mem hlt2)
          have HSn := Lib.hid hsn
          have hylen : Y.length ≤ 300 := by rw [HYe.out, natZ_len, nums_len, List.length_take]; omega
          have x0 := hcx 0 (by decide)
          have x1 := hcx 1 (by decide)
          have x2 := hcx 2 (by decide)
          simp only [Nat.add_zero, at3] at x0 x1 x2
          clear hcells hcx hsn hx
          obtain ⟨xa, xb, xc⟩ := x
          dsimp only at x0 x1 x2 HSn hxb
          have HThree := Lib.hid (fun W => three_ints W xa xb xc (by omega) (by omega) (by omega))
          go_wp2_with (at_builtin; refine Kd.own_app intK w5.heap.size rfl (.tmp 43) (.tmp 44) 74 3 zero_int 8 rfl Tryz.underlying74 info_int rfl (by decide) _ Y [(xa : Int), (xb : Int), (xc : Int)] (some ⟨wr.heap.size, 0, none⟩) 3 Clones.TT (by rfl) (by rfl) (Kd.own_alloc HJ.out.1 _) (.inr ⟨HThree.out _, Clones.any_int⟩) (bel_alloc HJ.out.2 _) (by have := HJ.out.2.size; simp; omega) (by simp; omega) ?_; intro v1 w7 ho1 hb1 hg1 hv1; clear hg1 hv1; rw [HSn.out] at ho1; have HO7 := Lib.hid ho1; have HB7 := Lib.hid hb1; clear ho1 hb1; obtain ⟨A7, c7, rfl, _, _⟩ := Kd.own_slice HO7.out)
          go_wp2
          go_roundw
          case rel => exact ⟨k2 + 1, by go_num, by omega, Lib.hid ⟨HO7.out, HB7.out⟩⟩
          case measure => simp [intOf]; omega
        · have hd2 : decide (k2 < I.length) = false := decide_eq_false hlt2
          have HYn : Hid (Y = natZ (nums I)) := Lib.hid (by rw [HYe.out, List.take_of_length_le (by omega)])
          have hyl : Y.length = (nums I).length := by rw [HYn.out, natZ_len]
          have HYl := Lib.hid hyl
          have hBw := bel_step HB5.out HJ.out.2
          have HBw := Lib.hid hBw
          have HNew := Lib.hid (new_calls L (by rw [HLl.out]; exact hE) (fun x hx => by
            rw [HTx.out] at hx
            obtain ⟨t, ht, rfl⟩ := List.mem_map.1 hx
            have h1 := HShort.out (shown t) (by rw [HTx.out]; exact List.mem_map.2 ⟨t, ht, rfl⟩)
            exact ⟨shown_ne (HIs.out t ht), by omega⟩) HRise.out A3 c3 wr (by
              have h1 := Kd.own_sl (ok := Clones.TT) (ok' := fun _ => True) (Kd.own_below HO5.out HJ.out.2) (fun _ _ => trivial) (fun _ _ => trivial)
              rw [HXL.out, strs_len] at h1
              exact h1))
          rw [← HXlen.out] at HNew
          have HY6 := Lib.hid (Kd.own_sl (ok := Clones.TT) (ok' := fun _ => True) HJ.out.1 (fun _ _ => trivial) (fun _ _ => trivial))
          clear hyl hBw HJ HRI
          go_wp2_with fail
          refine HNew.out.mono ?_
          rintro e w8 ⟨⟨gd, rfl, hgd, hD⟩, hb⟩
          have HB8 := Lib.hid (bel_step HBw.out hb)
          have HD8 := Lib.hid hD
          have k1 := HG1.out w8 HB8.out
          have HWd := Lib.hid (width_calls E.length (by omega) w8)
          rw [← HWide.out.1] at HWd
          obtain ⟨wd, hwd⟩ : ∃ wd, wd = wide T := ⟨_, rfl⟩
          rw [← hwd] at HWd HBits HSecs HBl
          have HW9 : Hid (wd ≤ 9) := Lib.hid (by rw [hwd]; exact HWide.out.2)
          have HPc := Lib.hid (pack_calls (nums I) wd (by have := HW9.out; omega) (by rw [nums_len, HIdl.out]; omega) HBits.out A6 c6 w8 (by
            have h1 := Kd.M_bound (Kd.M_below (Kd.M_bound HY6.out) hb)
            rw [HYn.out, natZ_len] at h1
            exact h1))
          rw [← HYl.out] at HPc
          obtain ⟨Pb, hPb⟩ : ∃ Pb, Pb = packB (nums I) wd := ⟨_, rfl⟩
          rw [← hPb] at HPc HSecs HBl
          obtain ⟨Bd, hBd⟩ : ∃ Bd, Bd = headN T.length ++ Pb := ⟨_, rfl⟩
          have HBd := Lib.hid hBd
          rw [← hBd] at HSecs HBl
          obtain ⟨F, hF⟩ : ∃ F, F = frontB L := ⟨_, rfl⟩
          have HFe := Lib.hid hF
          rw [← hF] at HSecs
          have hPl : Pb.length ≤ 400 := by have := HBl.out; rw [hBd, List.length_append] at this; omega
          clear hPb hBd hF
          clear hD hb HNew HY6 hgd hwd
          dsimp only
          go_wp2_with (first
            | (go_at_call 59; refine HWd.out.mono ?_; rintro e w' ⟨rfl, rfl⟩)
            | (go_at_call 58; refine HPc.out.mono ?_; rintro e w9 ⟨⟨v9, rfl, ho9⟩, hb9⟩; have HB9 := Lib.hid (bel_step HB8.out hb9); have HO9 := Lib.hid ho9; have HD9 := Lib.hid (dict_below HD8.out hb9); clear ho9 hb9; obtain ⟨A9, c9, rfl, _, _⟩ := Kd.own_slice HO9.out))
          have HK0 := Lib.hid (fun W (hb : Below w9.heap.size w9 W) => HG0.out W (bel_step HB9.out hb))
          have hY := Below.refl w9.heap.size w9
          have k0 := HG0.out w9 HB9.out
          have HRr := Lib.hid (Kd.own_sl (ok := Clones.TT) (ok' := fun _ => True) HO9.out (fun _ _ => trivial) (fun _ _ => trivial))
          have HQa : Hid (IntKind.u8.wrap (IntKind.i64.wrap ((T.length : Int) / 256)) = (T.length : Int) / 256) := Lib.hid (wrap_a _ hl)
          have HQb : Hid (IntKind.u8.wrap ((T.length : Int).tmod 256) = (T.length : Int) % 256) := Lib.hid (wrap_b _ hl)
          go_cut [11] (fun v11 wx => Hid (byteK.own 5 wx w9.heap.size Clones.TT v11 Bd) ∧ Hid (Below w9.heap.size w9 wx))
          case first =>
            go_region_held3 (fun w' => w'.cell? ⟨g, 0, none⟩ = some (.slice A0 T.length cp0))
              (exact HK0.out _ (by repeat (first | assumption | exact Below.refl _ _ | refine bel_drew ?_ | refine bel_alloc ?_ _)))
              (first
                | (refine Kd.own_app_step byteK (w0 := w9) w9.heap.size (by rfl) (.tmp 77) (.tmp 78) 55 5 (.int .u8 0) 1 (by rfl) Tryz.underlying55 PackW.info_u8 rfl (by decide) (.slice (some ⟨w9.heap.size, 0, none⟩) 2 2) (headN T.length) Pb A9 c9 Clones.TT (by rfl) (by rfl) ?ho (.inr ⟨?hr, any_u8⟩) ?hb ?hs ?hl ?_; go_loud (case hl => have hh2 : (headN T.length).length = 2 := rfl; omega); go_loud (case ho => (rw [HQa.out, HQb.out]; refine Kd.own_drew ?_; exact head_own _ _ _ (Nat.le_refl _) (by omega))); go_loud (case hr => exact byteK.sl.mono (fun _ _ _ => trivial) (Kd.M_below (Kd.M_bound HRr.out) (by repeat (first | assumption | exact Below.refl _ _ | refine bel_drew ?_ | refine bel_alloc ?_ _)))); go_loud (case hb => repeat (first | assumption | exact Below.refl _ _ | refine bel_drew ?_ | refine bel_alloc ?_ _)); go_loud (case hs => first | (simp; done) | (simp; omega) | omega); intro v1 w10 ho1 hb1 hg1 hv1; go_loud (rw [← HBd.out] at ho1); have HO10 := Lib.hid ho1; have HB10 := Lib.hid hb1; clear ho1 hg1 hv1)
                | fail)
            all_goals (go_wp2_with fail; go_meet; exact ⟨HO10, HB10⟩)
          case rest =>
            obtain ⟨HO10, HB10⟩ := hcut
            have HBw10 := Lib.hid (bel_step HB9.out HB10.out)
            have HD10 := Lib.hid (dict_below HD9.out HB10.out)
            obtain ⟨A10, c10, rfl, _, _⟩ := Kd.own_slice HO10.out
            have HBy := Lib.hid (bytes_calls L (by rw [HLl.out]; exact hE) (fun x hx => by have := HShort.out x hx; omega) gd wc HD10.out)
            rw [← HFe.out] at HBy
            have HSw := Lib.hid (Kd.own_sl (ok := Clones.TT) (ok' := fun _ => True) HO10.out (fun _ _ => trivial) (fun _ _ => trivial))
            clear k0 hY HK0 HRr
            go_wp2_with (first
              | (go_at_call 61; refine HBy.out.mono ?_; rintro e w11 ⟨⟨v11, rfl, ho⟩, hb⟩; have HB11 := Lib.hid (bel_step HBw10.out hb); have HSf := Lib.hid (Kd.own_sl (ok := Clones.TT) (ok' := fun _ => True) ho (fun _ _ => trivial) (fun _ _ => trivial)); have HSb := Lib.hid (byteK.sl.mono (ok' := fun _ => True) (fun _ _ _ => trivial) (Kd.M_below (Kd.M_bound HSw.out) hb)); obtain ⟨A11, c11, rfl, _, _⟩ := Kd.own_slice ho; clear ho hb)
              | (go_at_call 60; refine (HPk.out _ _ (by rw [HSecs.out]; exact two_secs HSf.out HSb.out (by omega) (by omega))).mono ?_; rintro e w12 ⟨⟨u, rfl, ho⟩, hb⟩; have HB12 := Lib.hid (bel_step (bel_alloc HB11.out _) hb); have HOe := Lib.hid (Kd.own_lower (base' := w.heap.size) (by have := HB11.out.size; simp; omega) ho); clear ho hb))
            go_ret
            exact ⟨⟨_, rfl, HOe.out⟩, HB12.out⟩
end Go.Proofs.YtnplommdgfgboaaGreatDoor.Encode
set_option linter.unusedVariables false
set_option linter.unusedSimpArgs false
namespace Go.Proofs.YtnplommdgfgboaaGreatDoor.SCommon
open Go.RowKit Go.Lib Go.Proofs.YtnplommdgfgboaaGreatDoor.B Go.Proofs.YtnplommdgfgboaaGreatDoor.Rd Go.Proofs.YtnplommdgfgboaaGreatDoor.TermPure Go.Proofs.YtnplommdgfgboaaGreatDoor.LinesPure Go.Proofs.YtnplommdgfgboaaGreatDoor.Tri Go.Proofs.YtnplommdgfgboaaGreatDoor.SortP Go.Proofs.YtnplommdgfgboaaGreatDoor.OrdG Go.Proofs.YtnplommdgfgboaaGreatDoor.Print Go.Proofs.YtnplommdgfgboaaGreatDoor.Cmp Go.Proofs.YtnplommdgfgboaaGreatDoor.Long Go.Proofs.YtnplommdgfgboaaGreatDoor.Long11 Go.Proofs.YtnplommdgfgboaaGreatDoor.StoreW Go.Proofs.YtnplommdgfgboaaGreatDoor.StoreM Go.Proofs.YtnplommdgfgboaaGreatDoor.Env Go.Proofs.YtnplommdgfgboaaGreatDoor.ParseP Go.Proofs.YtnplommdgfgboaaGreatDoor.Parse Go.Proofs.YtnplommdgfgboaaGreatDoor.ParseOk Go.Proofs.YtnplommdgfgboaaGreatDoor.SPrint Go.Proofs.YtnplommdgfgboaaGreatDoor.StoreP Go.Proofs.YtnplommdgfgboaaGreatDoor.Encode Go.Proofs.YtnplommdgfgboaaGreatDoor.SortW
/-- A text that triples make, read. -/
theorem load_print (l : List Triple) (hv : Valid l) (hl : l.length ≤ 100) (x : List UInt8) (hx : x = l.flatMap lineN) (hs : x.length ≤ 20000) (w : World) (he : Env w) :
    Calls Tryz.prog 15 #[.string (mkS x)] w fun e w' => (∃ g, e = .returned (.tuple #[.pointer (some ⟨g, 0, none⟩), .int .i64 (l.length : Nat), .int .i64 0]) ∧ StoreAt w' (fun _ => True) g (sortT l)) ∧ Below w.heap.size w w' := by
  have hp : parse x = (sortT l, l.length, 0) := by rw [hx]; exact parse_print hv hl (by rw [← hx]; exact hs)
  refine (load_good x (by omega) w he (by rw [hp])).mono ?_
  rintro e w' ⟨⟨g, he, hS⟩, hb⟩
  rw [hp] at he hS
  exact ⟨⟨g, he, hS.mono (fun _ _ _ => trivial)⟩, hb⟩
/-- What a row of bytes is as a string, wherever it is read. -/
theorem conv_row {w W : World} {l : List UInt8} {A : Option Addr} {c : Nat} (h : byteK.sl.M w (fun _ => True) l [.slice A l.length c]) (hb : Below w.heap.size w W) : (convert 55 9 (.slice A l.length c)).run Tryz.prog W = .ok (.string (mkS l)) W := by
  have hm := Kd.M_below (Kd.M_bound h) hb
  obtain ⟨A', c', he, _, _, _, hr⟩ := hm
  obtain ⟨rfl, rfl⟩ : A = A' ∧ c = c' := by simpa using he
  exact conv_string (P := Tryz.prog) Tryz.underlying55 Tryz.underlying5 Tryz.underlying9 hr
end Go.Proofs.YtnplommdgfgboaaGreatDoor.SCommon
set_option linter.unusedVariables false
set_option linter.unusedSimpArgs false
namespace Go.Proofs.YtnplommdgfgboaaGreatDoor.SUnlike
open Go.RowKit Go.Lib Go.Proofs.YtnplommdgfgboaaGreatDoor.B Go.Proofs.YtnplommdgfgboaaGreatDoor.Rd Go.Proofs.YtnplommdgfgboaaGreatDoor.TermPure Go.Proofs.YtnplommdgfgboaaGreatDoor.LinesPure Go.Proofs.YtnplommdgfgboaaGreatDoor.Tri Go.Proofs.YtnplommdgfgboaaGreatDoor.SortP Go.Proofs.YtnplommdgfgboaaGreatDoor.OrdG Go.Proofs.YtnplommdgfgboaaGreatDoor.Print Go.Proofs.YtnplommdgfgboaaGreatDoor.Cmp Go.Proofs.YtnplommdgfgboaaGreatDoor.Long Go.Proofs.YtnplommdgfgboaaGreatDoor.Long11 Go.Proofs.YtnplommdgfgboaaGreatDoor.StoreW Go.Proofs.YtnplommdgfgboaaGreatDoor.StoreM Go.Proofs.YtnplommdgfgboaaGreatDoor.Env Go.Proofs.YtnplommdgfgboaaGreatDoor.ParseP Go.Proofs.YtnplommdgfgboaaGreatDoor.Parse Go.Proofs.YtnplommdgfgboaaGreatDoor.ParseOk Go.Proofs.YtnplommdgfgboaaGreatDoor.SPrint Go.Proofs.YtnplommdgfgboaaGreatDoor.StoreP Go.Proofs.YtnplommdgfgboaaGreatDoor.Encode Go.Proofs.YtnplommdgfgboaaGreatDoor.SortW Go.Proofs.YtnplommdgfgboaaGreatDoor.SCommon
set_option maxHeartbeats 12800000 in
set_option maxRecDepth 100000 in
theorem walk0 (w : World) (he : Env w) (l m : List Triple) (A B : Option Addr) (c d : Nat) (HL : triK.sl.M w (fun k => k < w.heap.size) l [.slice A l.length c]) (HMm : triK.sl.M w (fun k => k < w.heap.size) m [.slice B m.length d]) :
    Calls Tryz.prog 6 #[.slice A l.length c, .slice B m.length d] w fun e w' => e = .returned (.bool true) ∧ Below w.heap.size w w' := by
  have HROW : Hid (∀ w', Below w.heap.size w w' → triK.sl.M w' (fun k => k < w'.heap.size) l [.slice A l.length c]) := Lib.hid (fun w' hb => triK.sl.mono (fun k _ hk => hk) (Kd.M_below HL hb))
  have HROM : Hid (∀ w', Below w.heap.size w w' → triK.sl.M w' (fun k => k < w'.heap.size) m [.slice B m.length d]) := Lib.hid (fun w' hb => triK.sl.mono (fun k _ hk => hk) (Kd.M_below HMm hb))
  have HE := Lib.hid he
  have HLg := Lib.hid (Long11.long_calls l A c w he HL)
  have h47 := sl_len HL
  have h48 := sl_len HMm
  clear HL HMm he
  go_enter Tryz.func6, Tryz.ntmps6
  by_cases hlook : looked l = true
  case neg =>
    have hl2 : looked l = false := by simpa using hlook
    rw [hl2] at HLg
    clear hlook hl2
    go_wp2_with fail
    refine HLg.out.mono ?_
    rintro e w2 ⟨rfl, hb⟩
    have HB := Lib.hid hb
    clear hb
    go_wp2
    go_ret
    exact ⟨rfl, HB.out⟩
  have HTot := Lib.hid (looked_total hlook)
  have HV : Hid (Valid l) := Lib.hid (looked_valid hlook)
  rw [hlook] at HLg
  clear hlook
  go_wp2_with fail
  refine HLg.out.mono ?_
  rintro e w2 ⟨rfl, hb⟩
  have HB2 := Lib.hid hb
  have HLm := Lib.hid (Long11.long_calls m B d w2 (HE.out.below hb) (HROM.out w2 hb))
  clear hb HLg
  by_cases hlook : looked m = true
  case neg =>
    have hl2 : looked m = false := by simpa using hlook
    rw [hl2] at HLm
    clear hlook hl2
    go_wp2_with fail
    refine HLm.out.mono ?_
    rintro e w3 ⟨rfl, hb⟩
    have HB3 := Lib.hid (bel_step HB2.out hb)
    clear hb
    go_wp2
    go_ret
    exact ⟨rfl, HB3.out⟩
  have HTom := Lib.hid (looked_total hlook)
  have HVm : Hid (Valid m) := Lib.hid (looked_valid hlook)
  rw [hlook] at HLm
  clear hlook
  go_wp2_with fail
  refine HLm.out.mono ?_
  rintro e w3 ⟨rfl, hb⟩
  have HB3 := Lib.hid (bel_step HB2.out hb)
  clear hb HLm
  by_cases h30 : 30 < l.length
  · have hd2 : decide ((30 : Int) < (l.length : Int)) = true := decide_eq_true (by omega)
    go_wp2
    go_ret
    exact ⟨rfl, HB3.out⟩
  have hd30 : decide ((30 : Int) < (l.length : Int)) = false := decide_eq_false (by omega)
  by_cases h31 : 30 < m.length
  · have hd2 : decide ((30 : Int) < (m.length : Int)) = true := decide_eq_true (by omega)
    go_wp2
    go_ret
    exact ⟨rfl, HB3.out⟩
  have hd31 : decide ((30 : Int) < (m.length : Int)) = false := decide_eq_false (by omega)
  have HL30 : Hid (l.length ≤ 30 ∧ m.length ≤ 30) := Lib.hid (by omega)
  have HSm := Lib.hid (small_of HTot.out)
  have HSmm := Lib.hid (small_of HTom.out)
  have HFl : Hid ((l.flatMap lineN).length ≤ 130000) := Lib.hid (flat_valid HV.out (by omega))
  have HFm : Hid ((m.flatMap lineN).length ≤ 130000) := Lib.hid (flat_valid HVm.out (by omega))
  have HPr := Lib.hid (fun W hb => SortW.refprint_calls l A c W (HROW.out W hb) HSm.out (by have := HFl.out; omega))
  have HPm := Lib.hid (fun W hb => SortW.refprint_calls m B d W (HROM.out W hb) HSmm.out (by have := HFm.out; omega))
  obtain ⟨x, hx⟩ : ∃ x, x = l.flatMap lineN := ⟨_, rfl⟩
  obtain ⟨y, hy⟩ : ∃ y, y = m.flatMap lineN := ⟨_, rfl⟩
  have hxl : x.length ≤ 130000 := by rw [hx]; exact HFl.out
  have hyl : y.length ≤ 130000 := by rw [hy]; exact HFm.out
  have HX := Lib.hid hx
  have HY := Lib.hid hy
  rw [← hx] at HPr
  rw [← hy] at HPm
  have HP := Lib.hid (HPr.out w3 HB3.out)
  clear hx hy h30 h31
  have zx := mkS_size x
  have zy := mkS_size y
  go_wp2_with fail
  refine HP.out.mono ?_
  rintro e w4 ⟨rfl, hb⟩
  have HB4 := Lib.hid (bel_step HB3.out hb)
  have HP4 := Lib.hid (HPm.out w4 HB4.out)
  clear hb HP hd30 hd31
  by_cases hbig : 20000 < x.length
  · have hd2 : decide ((20000 : Int) < (x.length : Int)) = true := decide_eq_true (by omega)
    go_wp2
    go_ret
    exact ⟨rfl, HB4.out⟩
  have hd20 : decide ((20000 : Int) < (x.length : Int)) = false := decide_eq_false (by omega)
  go_wp2_with fail
  refine HP4.out.mono ?_
  rintro e w5 ⟨rfl, hb⟩
  have HB5 := Lib.hid (bel_step HB4.out hb)
  have HP5 := Lib.hid (HPr.out w5 HB5.out)
  clear hb HP4
  by_cases hbig2 : 20000 < y.length
  · have hd2 : decide ((20000 : Int) < (y.length : Int)) = true := decide_eq_true (by omega)
    go_wp2
    go_ret
    exact ⟨rfl, HB5.out⟩
  have hd21 : decide ((20000 : Int) < (y.length : Int)) = false := decide_eq_false (by omega)
  go_wp2_with fail
  refine HP5.out.mono ?_
  rintro e w6 ⟨rfl, hb⟩
  have HB6 := Lib.hid (bel_step HB5.out hb)
  have HLd := Lib.hid (load_print l HV.out (by have := HL30.out; omega) x HX.out (by omega) w6 (HE.out.below HB6.out))
  clear hb HP5
  go_wp2_with fail
  refine HLd.out.mono ?_
  rintro e w7 ⟨⟨ga, rfl, hS⟩, hb⟩
  have HB7 := Lib.hid (bel_step HB6.out hb)
  have HSa := Lib.hid hS
  have HP7 := Lib.hid (HPm.out w7 HB7.out)
  clear hS hb HLd
  dsimp only
  go_wp2_with fail
  refine HP7.out.mono ?_
  rintro e w8 ⟨rfl, hb⟩
  have HB8 := Lib.hid (bel_step HB7.out hb)
  have HSa8 := Lib.hid (HSa.out.below hb)
  have HLd := Lib.hid (load_print m HVm.out (by have := HL30.out; omega) y HY.out (by omega) w8 (HE.out.below HB8.out))
  clear hb HP7 HSa
  go_wp2_with fail
  refine HLd.out.mono ?_
  rintro e w9 ⟨⟨gb, rfl, hS⟩, hb⟩
  have HB9 := Lib.hid (bel_step HB8.out hb)
  have HSa9 := Lib.hid (HSa8.out.below hb)
  have HSb9 := Lib.hid hS
  have HS1 := Lib.hid (SortW.refsort_calls l A c w9 (HROW.out w9 HB9.out) HSm.out (by have := HL30.out; omega))
  have HVs : Hid (Valid (sortT l) ∧ Valid (sortT m) ∧ Rise (sortT l) ∧ Rise (sortT m)) := Lib.hid ⟨ParseOk.sortT_valid HV.out, ParseOk.sortT_valid HVm.out, sortT_rise HV.out, sortT_rise HVm.out⟩
  have HLs : Hid ((sortT l).length ≤ 100 ∧ (sortT m).length ≤ 100) := Lib.hid ⟨Nat.le_trans (ParseOk.sortT_len l) (by have := HL30.out; omega), Nat.le_trans (ParseOk.sortT_len m) (by have := HL30.out; omega)⟩
  clear hS hb HLd HSa8 hxl hyl zx zy hbig hbig2 hd20 hd21
  dsimp only
  go_wp2_with fail
  refine HS1.out.mono ?_
  rintro e w10 ⟨A10, c10, rfl, hM10, hb⟩
  have HB10 := Lib.hid (bel_step HB9.out hb)
  have HSa10 := Lib.hid (HSa9.out.below hb)
  have HSb10 := Lib.hid (HSb9.out.below hb)
  have HM10 := Lib.hid hM10
  have HS2 := Lib.hid (SortW.refsort_calls m B d w10 (HROM.out w10 HB10.out) HSmm.out (by have := HL30.out; omega))
  clear hM10 hb HS1 HSa9 HSb9
  go_wp2_with fail
  refine HS2.out.mono ?_
  rintro e w11 ⟨A11, c11, rfl, hM11, hb⟩
  have HB11 := Lib.hid (bel_step HB10.out hb)
  have HSa11 := Lib.hid (HSa10.out.below hb)
  have HSb11 := Lib.hid (HSb10.out.below hb)
  have HSame := Lib.hid (SortW.same_calls (sortT l) (sortT m) A10 A11 c10 c11 w11 (Kd.M_bound (Kd.M_below HM10.out hb)) (Kd.M_bound hM11))
  clear hM11 hb HS2 HSa10 HSb10 HM10
  obtain ⟨T, hT⟩ : ∃ T, T = sortT l := ⟨_, rfl⟩
  obtain ⟨U, hU⟩ : ∃ U, U = sortT m := ⟨_, rfl⟩
  rw [← hT] at HVs HLs HSame HSa11
  rw [← hU] at HVs HLs HSame HSb11
  rw [← hT, ← hU]
  clear hT hU
  go_wp2_with fail
  refine HSame.out.mono ?_
  rintro e w12 ⟨rfl, hb⟩
  have HB12 := Lib.hid (bel_step HB11.out hb)
  have HSa12 := Lib.hid (HSa11.out.below hb)
  have HSb12 := Lib.hid (HSb11.out.below hb)
  clear hb HSame HSa11 HSb11
  have HEa := Lib.hid (fun W (hW : Below w12.heap.size w12 W) => encode_calls T HVs.out.1 HLs.out.1 ga W _ (HSa12.out.below hW))
  have HEb := Lib.hid (fun W (hW : Below w12.heap.size w12 W) => encode_calls U HVs.out.2.1 HLs.out.2 gb W _ (HSb12.out.below hW))
  have HXa := Lib.hid (fun W (hW : Below w12.heap.size w12 W) => export_calls T HVs.out.1 HLs.out.1 ga W _ (HSa12.out.below hW))
  have HXb := Lib.hid (fun W (hW : Below w12.heap.size w12 W) => export_calls U HVs.out.2.1 HLs.out.2 gb W _ (HSb12.out.below hW))
  have HKn := Lib.hid (fun W (hW : Below w12.heap.size w12 W) => Known11.known_calls W (HE.out.below (bel_step HB12.out hW)))
  have HDe : Hid (decide (encT T = encT U) = decide (T = U)) := Lib.hid (by
    rw [Bool.eq_iff_iff, decide_eq_true_iff, decide_eq_true_iff]
    exact ⟨fun h => encT_inj HVs.out.1 HVs.out.2.1 HLs.out.1 HLs.out.2 h, fun h => by rw [h]⟩)
  have HDx : Hid (decide (T.flatMap lineN = U.flatMap lineN) = decide (T = U)) := Lib.hid (by
    rw [Bool.eq_iff_iff, decide_eq_true_iff, decide_eq_true_iff]
    exact ⟨fun h => print_inj HVs.out.1 HVs.out.2.1 HVs.out.2.2.1 HVs.out.2.2.2 HLs.out.1 HLs.out.2 h, fun h => by rw [h]⟩)
  obtain ⟨a, ha⟩ : ∃ a, a = encT T := ⟨_, rfl⟩
  obtain ⟨b, hb⟩ : ∃ b, b = encT U := ⟨_, rfl⟩
  obtain ⟨xa, hxa⟩ : ∃ xa, xa = T.flatMap lineN := ⟨_, rfl⟩
  obtain ⟨xb, hxb⟩ : ∃ xb, xb = U.flatMap lineN := ⟨_, rfl⟩
  obtain ⟨q, hq⟩ : ∃ q, q = decide (T = U) := ⟨_, rfl⟩
  rw [← ha] at HEa HDe
  rw [← hb] at HEb HDe
  rw [← hxa] at HXa HDx
  rw [← hxb] at HXb HDx
  rw [← hq] at HDe HDx
  rw [← hq]
  have ta := mkS_toList a
  have tb := mkS_toList b
  have txa := mkS_toList xa
  have txb := mkS_toList xb
  have hqe : (a == b) = q := by rw [← HDe.out]; by_cases h : a = b <;> simp [h]
  have hqx : (xa == xb) = q := by rw [← HDx.out]; by_cases h : xa = xb <;> simp [h]
  have hqd := HDe.out
  have hqd2 := HDx.out
  have hcur := Below.refl w12.heap.size w12
  clear ha hb hxa hxb hq HDe HDx HSa12 HSb12
  go_upto_region 10 with fail
  cases q
  all_goals go_region_with (first
    | (go_at_call_of 28 (Value.pointer (some ⟨ga, 0, none⟩)); refine (HEa.out _ ?_).mono ?_; (repeat (first | assumption | exact Below.refl _ _ | refine bel_drew ?_ | refine bel_alloc ?_ _)); rintro e w13 ⟨⟨va, rfl, hoa⟩, hbc⟩; have HMa := Lib.hid (Kd.own_sl (ok := fun _ => True) (ok' := fun _ => True) hoa (fun _ _ => trivial) (fun _ _ => trivial)); obtain ⟨Aa, ca, rfl, _, _⟩ := Kd.own_slice hoa; have hca := conv_row HMa.out (Below.refl _ _); (try have hcb := conv_row HMb.out hbc); have hcur : Below w12.heap.size w12 w13 := bel_step (by repeat (first | assumption | exact Below.refl _ _ | refine bel_drew ?_ | refine bel_alloc ?_ _)) hbc; clear hoa)
    | (go_at_call_of 28 (Value.pointer (some ⟨gb, 0, none⟩)); refine (HEb.out _ ?_).mono ?_; (repeat (first | assumption | exact Below.refl _ _ | refine bel_drew ?_ | refine bel_alloc ?_ _)); rintro e w14 ⟨⟨vb, rfl, hob⟩, hbc⟩; have HMb := Lib.hid (Kd.own_sl (ok := fun _ => True) (ok' := fun _ => True) hob (fun _ _ => trivial) (fun _ _ => trivial)); obtain ⟨Ab, cb, rfl, _, _⟩ := Kd.own_slice hob; have hcb := conv_row HMb.out (Below.refl _ _); (try have hca := conv_row HMa.out hbc); have hcur : Below w12.heap.size w12 w14 := bel_step (by repeat (first | assumption | exact Below.refl _ _ | refine bel_drew ?_ | refine bel_alloc ?_ _)) hbc; clear hob)
    | (go_at_call_of 29 (Value.pointer (some ⟨ga, 0, none⟩)); refine (HXa.out _ ?_).mono ?_; (repeat (first | assumption | exact Below.refl _ _ | refine bel_drew ?_ | refine bel_alloc ?_ _)); rintro e w15 ⟨rfl, hbc⟩; have hcur : Below w12.heap.size w12 w15 := bel_step (by repeat (first | assumption | exact Below.refl _ _ | refine bel_drew ?_ | refine bel_alloc ?_ _)) hbc)
    | (go_at_call_of 29 (Value.pointer (some ⟨gb, 0, none⟩)); refine (HXb.out _ ?_).mono ?_; (repeat (first | assumption | exact Below.refl _ _ | refine bel_drew ?_ | refine bel_alloc ?_ _)); rintro e w16 ⟨rfl, hbc⟩; have hcur : Below w12.heap.size w12 w16 := bel_step (by repeat (first | assumption | exact Below.refl _ _ | refine bel_drew ?_ | refine bel_alloc ?_ _)) hbc)
    | (go_at_call 19; refine (HKn.out _ ?_).mono ?_; (repeat (first | assumption | exact Below.refl _ _ | refine bel_drew ?_ | refine bel_alloc ?_ _)); rintro e w17 ⟨rfl, hbc⟩; have hcur : Below w12.heap.size w12 w17 := bel_step (by repeat (first | assumption | exact Below.refl _ _ | refine bel_drew ?_ | refine bel_alloc ?_ _)) hbc))
  all_goals (have HBf := Lib.hid (bel_step HB12.out hcur); go_wp2; go_ret; exact ⟨rfl, HBf.out⟩)
theorem walk (w : World) (he : Env w) (l : List Triple) (v : Value) (m : triK.sl.M w (fun _ => True) l [v]) (l2 : List Triple) (v2 : Value) (m2 : triK.sl.M w (fun _ => True) l2 [v2]) :
    Calls Tryz.prog 6 #[v, v2] w fun e w' => e = .returned (.bool true) ∧ Below w.heap.size w w' := by
  obtain ⟨A, c, hv, h⟩ := id m
  obtain rfl : v = .slice A l.length c := by simpa using hv
  obtain ⟨B, d, hv2, h2⟩ := id m2
  obtain rfl : v2 = .slice B l2.length d := by simpa using hv2
  exact walk0 w he l l2 A B c d (triK.sl.mono (fun k _ hk => hk) m) (triK.sl.mono (fun k _ hk => hk) m2)
end Go.Proofs.YtnplommdgfgboaaGreatDoor.SUnlike
set_option linter.unusedVariables false
set_option linter.unusedSimpArgs false
namespace Go.Proofs.YtnplommdgfgboaaGreatDoor.SOrder
open Go.RowKit Go.Lib Go.Proofs.YtnplommdgfgboaaGreatDoor.B Go.Proofs.YtnplommdgfgboaaGreatDoor.Rd Go.Proofs.YtnplommdgfgboaaGreatDoor.TermPure Go.Proofs.YtnplommdgfgboaaGreatDoor.LinesPure Go.Proofs.YtnplommdgfgboaaGreatDoor.Tri Go.Proofs.YtnplommdgfgboaaGreatDoor.SortP Go.Proofs.YtnplommdgfgboaaGreatDoor.OrdG Go.Proofs.YtnplommdgfgboaaGreatDoor.Print Go.Proofs.YtnplommdgfgboaaGreatDoor.Cmp Go.Proofs.YtnplommdgfgboaaGreatDoor.Long Go.Proofs.YtnplommdgfgboaaGreatDoor.Long11 Go.Proofs.YtnplommdgfgboaaGreatDoor.StoreW Go.Proofs.YtnplommdgfgboaaGreatDoor.StoreM Go.Proofs.YtnplommdgfgboaaGreatDoor.Env Go.Proofs.YtnplommdgfgboaaGreatDoor.ParseP Go.Proofs.YtnplommdgfgboaaGreatDoor.Parse Go.Proofs.YtnplommdgfgboaaGreatDoor.ParseOk Go.Proofs.YtnplommdgfgboaaGreatDoor.SPrint Go.Proofs.YtnplommdgfgboaaGreatDoor.StoreP Go.Proofs.YtnplommdgfgboaaGreatDoor.Encode Go.Proofs.YtnplommdgfgboaaGreatDoor.SortW Go.Proofs.YtnplommdgfgboaaGreatDoor.SCommon
theorem remark : lineOf false [35, 32, 120] = some none := by decide +kernel
theorem empty_line : lineOf false [] = some none := by decide +kernel
/-- A text with an empty line ahead, a remark behind. -/
theorem parse_framed {m : List Triple} (hv : Valid m) (hm : m.length ≤ 100) (hx : (m.flatMap lineN).length + 4 ≤ 20000) : parse (10 :: (m.flatMap lineN ++ [35, 32, 120])) = (sortT m, m.length + 2, 0) := by
  rw [ParseP.parse, if_neg (by simp only [List.length_cons, List.length_append, List.length_nil]; omega)]
  have h0 : Stands [10] [] 1 := by
    have := Stands.empty (x := []) [10] (.inl rfl) (by simp) (by simp) empty_line
    simpa using this
  have h1 := h0.append (stands_print m hv)
  have h2 := h1 [35, 32, 120] [] 0 (by omega) (by simpa using hm)
  rw [show 10 :: (m.flatMap lineN ++ [35, 32, 120]) = [10] ++ m.flatMap lineN ++ [35, 32, 120] by simp, h2, List.nil_append]
  have hl : lineS [35, 32, 120] = [35, 32, 120] := by decide +kernel
  have hr : restS [35, 32, 120] = [] := by decide +kernel
  rw [pg_none _ _ _ (by simp) (by omega) (by rw [hl]; exact remark), hr, pg_nil]
  have hmem := putAll_in m
  have : sortT (putAll [] m) = sortT m := sortT_eq hv (sortT_rise (fun y hy => hv y ((hmem y).1 hy))) (fun y => by rw [sortT_mem (fun y hy => hv y ((hmem y).1 hy)), hmem])
  rw [this]
  congr 2
  omega
theorem turned_mem (l : List Triple) (k : Nat) (x : Triple) : x ∈ l.drop k ++ l.take k ++ l ↔ x ∈ l := by
  simp only [List.mem_append]
  constructor
  · rintro ((h | h) | h)
    · exact List.mem_of_mem_drop h
    · exact List.mem_of_mem_take h
    · exact h
  · exact fun h => .inr h
theorem turned_sort {l : List Triple} (hv : Valid l) (k : Nat) : sortT (l.drop k ++ l.take k ++ l) = sortT l := by
  have hv2 : Valid (l.drop k ++ l.take k ++ l) := fun x hx => hv x ((turned_mem l k x).1 hx)
  exact sortT_eq hv (sortT_rise hv2) (fun x => by rw [sortT_mem hv2, turned_mem])
theorem turned_len (l : List Triple) (k : Nat) : (l.drop k ++ l.take k ++ l).length = 2 * l.length := by
  rw [List.length_append, List.length_append, List.length_drop, List.length_take]
  omega
theorem turned_flat (l : List Triple) (k : Nat) : ((l.drop k ++ l.take k ++ l).flatMap lineN).length = 2 * (l.flatMap lineN).length := by
  have h : (l.take k).flatMap lineN ++ (l.drop k).flatMap lineN = l.flatMap lineN := by rw [← List.flatMap_append, List.take_append_drop]
  have h2 := congrArg List.length h
  rw [List.length_append] at h2
  rw [List.flatMap_append, List.flatMap_append, List.length_append, List.length_append]
  omega
set_option maxHeartbeats 12800000 in
set_option maxRecDepth 100000 in
theorem walk0 (w : World) (he : Env w) (l : List Triple) (A : Option Addr) (c : Nat) (turn : Int) (HL : triK.sl.M w (fun k => k < w.heap.size) l [.slice A l.length c]) :
    Calls Tryz.prog 5 #[.slice A l.length c, .int .i64 turn] w fun e w' => e = .returned (.bool true) ∧ Below w.heap.size w w' := by
  have HROW : Hid (∀ w', Below w.heap.size w w' → triK.sl.M w' (fun k => k < w'.heap.size) l [.slice A l.length c]) := Lib.hid (fun w' hb => triK.sl.mono (fun k _ hk => hk) (Kd.M_below HL hb))
  have HE := Lib.hid he
  have HLg := Lib.hid (Long11.long_calls l A c w he HL)
  have h47 := sl_len HL
  obtain ⟨A', c', hee, hlc, ⟨hl47, hcm⟩, hA, hrow⟩ := HL
  obtain ⟨rfl, rfl⟩ : A = A' ∧ c = c' := by simpa using hee
  have HRw : Hid (triK.row w TT A l) := Lib.hid (Kd.row_mono (fun _ _ _ => trivial) hrow)
  have h65 := CrcLaws.and_65535 turn
  generalize hK : Go.bits .and .i64 turn 65535 = K at *
  clear hee hrow he
  go_enter Tryz.func5, Tryz.ntmps5
  by_cases hlook : looked l = true
  case neg =>
    have hl2 : looked l = false := by simpa using hlook
    rw [hl2] at HLg
    clear hlook hl2
    go_wp2_with fail
    refine HLg.out.mono ?_
    rintro e w2 ⟨rfl, hb⟩
    have HB := Lib.hid hb
    clear hb
    go_wp2
    go_ret
    exact ⟨rfl, HB.out⟩
  have HTot := Lib.hid (looked_total hlook)
  have HV : Hid (Valid l) := Lib.hid (looked_valid hlook)
  rw [hlook] at HLg
  clear hlook
  go_wp2_with fail
  refine HLg.out.mono ?_
  rintro e w2 ⟨rfl, hb⟩
  have HB2 := Lib.hid hb
  clear hb HLg
  by_cases h40 : 40 < l.length
  · have hd2 : decide ((40 : Int) < (l.length : Int)) = true := decide_eq_true (by omega)
    go_wp2
    go_ret
    exact ⟨rfl, HB2.out⟩
  have hd40 : decide ((40 : Int) < (l.length : Int)) = false := decide_eq_false (by omega)
  by_cases h0 : l.length = 0
  · have hd2 : ((l.length : Int) == 0) = true := by rw [h0]; rfl
    have hd3 : (l.length == 0) = true := by rw [h0]; rfl
    go_wp2
    go_ret
    exact ⟨rfl, HB2.out⟩
  have hd0 : ((l.length : Int) == 0) = false := by rw [beq_eq_false_iff_ne]; omega
  have hd01 : (l.length == 0) = false := by rw [beq_eq_false_iff_ne]; exact h0
  have HL40 : Hid (l.length ≤ 40 ∧ 0 < l.length) := Lib.hid (by omega)
  have HSm := Lib.hid (small_of HTot.out)
  have HFl : Hid ((l.flatMap lineN).length ≤ 130000) := Lib.hid (flat_valid HV.out (by omega))
  have HPr := Lib.hid (fun W hb => SortW.refprint_calls l A c W (HROW.out W hb) HSm.out (by have := HFl.out; omega))
  obtain ⟨x, hx⟩ : ∃ x, x = l.flatMap lineN := ⟨_, rfl⟩
  have hxl : x.length ≤ 130000 := by rw [hx]; exact HFl.out
  have HX := Lib.hid hx
  rw [← hx] at HPr
  have HP := Lib.hid (HPr.out w2 HB2.out)
  clear hx
  have zx := mkS_size x
  have hw1 : IntKind.i64.wrap (2 * (x.length : Int)) = 2 * (x.length : Int) := by rw [IntKind.wrap_i64]; omega
  have hw2 : IntKind.i64.wrap (2 * (x.length : Int) + 10) = 2 * (x.length : Int) + 10 := by rw [IntKind.wrap_i64]; omega
  by_cases hbig : 20000 < 2 * x.length + 10
  · have hd2 : decide ((20000 : Int) < 2 * (x.length : Int) + 10) = true := decide_eq_true (by omega)
    go_wp2_with fail
    refine HP.out.mono ?_
    rintro e w4 ⟨rfl, hb⟩
    have HB4 := Lib.hid (bel_step HB2.out hb)
    clear hb HP
    go_wp2
    go_ret
    exact ⟨rfl, HB4.out⟩
  have hd20 : decide ((20000 : Int) < 2 * (x.length : Int) + 10) = false := decide_eq_false (by omega)
  obtain ⟨k, hk⟩ : ∃ k : Nat, (k : Int) = K % (l.length : Int) := ⟨(K % (l.length : Int)).toNat, Int.toNat_of_nonneg (Int.emod_nonneg _ (by omega))⟩
  have hklt : k < l.length := by have := Int.emod_lt_of_pos K (show (0 : Int) < (l.length : Int) by omega); omega
  have hk1 : K.tmod (l.length : Int) = (k : Int) := by rw [Int.tmod_eq_emod_of_nonneg (by omega), hk]
  have hk2 : K % (l.length : Int) = (k : Int) := hk.symm
  have hkw : IntKind.i64.wrap (k : Int) = (k : Int) := by rw [IntKind.wrap_i64]; omega
  have hlne : ¬ (l.length : Int) = 0 := by omega
  clear hk
  go_wp2_with fail
  refine HP.out.mono ?_
  rintro e w4 ⟨rfl, hb⟩
  have HB4 := Lib.hid (bel_step HB2.out hb)
  clear hb HP
  go_upto_region 4 with fail
  have hkL : k ≤ l.length := by omega
  obtain ⟨A1, -, -, htake, hrow1⟩ := Kd.cut_run (P := Tryz.prog) triK 22 36 Tryz.underlying22 cellsT zeroV 120 info_tri A l.length c 0 k (Nat.zero_le _) hkL hlc ⟨hl47, hcm⟩ hA
  obtain ⟨A2, -, hdrop, -, hrow2⟩ := Kd.cut_run (P := Tryz.prog) triK 22 36 Tryz.underlying22 cellsT zeroV 120 info_tri A l.length c k l.length hkL (Nat.le_refl _) hlc ⟨hl47, hcm⟩ hA
  have HQ1 := Lib.hid (hrow1 w TT l rfl HRw.out)
  have HQ2 := Lib.hid (hrow2 w TT l rfl HRw.out)
  have HQ3 : Hid (triK.sl.M w TT l [.slice A l.length c]) := Lib.hid (triK.sl.mono (fun _ _ _ => trivial) (HROW.out w (Below.refl _ _)))
  rw [List.drop_zero] at HQ1
  rw [List.take_length] at HQ2
  have HTs := Lib.hid (turned_sort HV.out k)
  have HTl := Lib.hid (turned_len l k)
  have HTf := Lib.hid (turned_flat l k)
  have HTm := Lib.hid (turned_mem l k)
  obtain ⟨pre, hpre⟩ : ∃ pre, pre = l.take k := ⟨_, rfl⟩
  obtain ⟨suf, hsuf⟩ : ∃ suf, suf = l.drop k := ⟨_, rfl⟩
  rw [← hpre, ← hsuf] at HTs HTl HTf HTm
  have hpl : pre.length = k := by rw [hpre, List.length_take]; omega
  have hsl : suf.length = l.length - k := by rw [hsuf, List.length_drop]
  have hs1 : ∀ (kh : IntKind) (w : World), (Instr.slice 22 (.slice A l.length c) none (some (.int kh (k : Int))) none).run Tryz.prog w = .ok (.slice A1 pre.length c) w := fun kh w => by rw [hpl]; exact htake kh w rfl
  obtain ⟨c2, hc2⟩ : ∃ c2, c2 = c - k := ⟨_, rfl⟩
  have hs2 : ∀ (kl : IntKind) (w : World), (Instr.slice 22 (.slice A l.length c) (some (.int kl (k : Int))) none none).run Tryz.prog w = .ok (.slice A2 suf.length c2) w := fun kl w => by rw [hsl, hc2]; exact hdrop kl w rfl
  rw [Nat.sub_zero, Nat.sub_zero, ← hpre, ← hpl] at HQ1
  rw [← hsuf, ← hsl, ← hc2] at HQ2
  have hbp : pre.length ≤ 40 := by omega
  have hbs : suf.length ≤ 40 := by omega
  clear htake hdrop hrow1 hrow2 hpre hsuf hc2 hpl hsl
  have hB := HB4.out
  have hY := Below.refl w4.heap.size w4
  go_cut [6] (fun v6 wx => Hid (triK.own 36 wx w4.heap.size TT v6 (suf ++ pre ++ l)) ∧ Hid (Below w4.heap.size w4 wx))
  case first =>
    go_region_held3 (fun w' => True)
      (trivial)
      (first
        | (refine Kd.own_app_step triK (w0 := w4) w4.heap.size (by rfl) (.tmp 38) (.tmp 41) 22 36 zeroV 120 (by rfl) Tryz.underlying22 info_tri rfl (by decide) (.slice (some ⟨w4.heap.size, 0, none⟩) 0 0) [] suf A2 c2 TT (by rfl) (by rfl) ?ho (.inr ⟨?hr, any_tri⟩) ?hb ?hs ?hl ?_; go_loud (case hl => first | omega | (simp; omega) | (rw [List.length_append]; omega)); go_loud (case ho => first | exact own0_1 _ | exact Kd.own_drew (own0_1 _) | exact Kd.own_drew (Kd.own_alloc (own0_1 _) _) | exact Kd.own_drew (own0_2 _ _)); go_loud (case hr => exact Kd.M_below HQ2.out (bel_step hB (by repeat (first | assumption | exact Below.refl _ _ | refine bel_drew ?_ | refine bel_alloc ?_ _)))); go_loud (case hb => repeat (first | assumption | exact Below.refl _ _ | refine bel_drew ?_ | refine bel_alloc ?_ _)); go_loud (case hs => simp; try omega); intro v1 w5 ho1 hb1 hg1 hv1; go_loud (rw [List.nil_append] at ho1); have HO1 := Lib.hid ho1; clear ho1 hv1)
        | (refine Kd.own_app_step triK (w0 := w4) w4.heap.size (by rfl) (.tmp 42) (.tmp 45) 22 36 zeroV 120 (by rfl) Tryz.underlying22 info_tri rfl (by decide) v1 suf pre A1 c TT (by rfl) (by rfl) ?ho (.inr ⟨?hr, any_tri⟩) ?hb ?hs ?hl ?_; go_loud (case hl => first | omega | (simp; omega) | (rw [List.length_append]; omega)); go_loud (case ho => repeat (first | exact HO1.out | refine Kd.own_drew ?_ | refine Kd.own_alloc ?_ _)); go_loud (case hr => exact Kd.M_below HQ1.out (bel_step hB (by repeat (first | assumption | exact Below.refl _ _ | refine bel_drew ?_ | refine bel_alloc ?_ _)))); go_loud (case hb => repeat (first | assumption | exact Below.refl _ _ | refine bel_drew ?_ | refine bel_alloc ?_ _)); go_loud (case hs => have := hb1.size; first | omega | (simp; omega)); intro v2 w6 ho2 hb2 hg2 hv2; have HO2 := Lib.hid ho2; clear ho2 hg2 hv2)
        | (refine Kd.own_app_step triK (w0 := w4) w4.heap.size (by rfl) (.tmp 46) (.tmp 47) 22 36 zeroV 120 (by rfl) Tryz.underlying22 info_tri rfl (by decide) v2 (suf ++ pre) l A c TT (by rfl) (by rfl) ?ho (.inr ⟨?hr, any_tri⟩) ?hb ?hs ?hl ?_; go_loud (case hl => first | omega | (simp; omega) | (rw [List.length_append]; omega)); go_loud (case ho => repeat (first | exact HO2.out | refine Kd.own_drew ?_ | refine Kd.own_alloc ?_ _)); go_loud (case hr => exact triK.sl.mono (fun _ _ _ => trivial) (HROW.out _ (bel_step hB (by repeat (first | assumption | exact Below.refl _ _ | refine bel_drew ?_ | refine bel_alloc ?_ _))))); go_loud (case hb => repeat (first | assumption | exact Below.refl _ _ | refine bel_drew ?_ | refine bel_alloc ?_ _)); go_loud (case hs => have := hb2.size; first | omega | (simp; omega)); intro v3 w7 ho3 hb3 hg3 hv3; have HO3 := Lib.hid ho3; clear ho3 hg3 hv3)
        | fail)
    all_goals (go_wp2_with fail; go_meet; exact ⟨HO3, Lib.hid hb3⟩)
  case rest =>
    obtain ⟨HO6, HB6⟩ := hcut
    have HBc := Lib.hid (bel_step HB4.out HB6.out)
    obtain ⟨m, hm⟩ : ∃ m, m = suf ++ pre ++ l := ⟨_, rfl⟩
    rw [← hm] at HO6 HTs HTl HTf HTm
    obtain ⟨A6, c6, rfl, _, _⟩ := Kd.own_slice HO6.out
    have HMr := Lib.hid (Kd.M_bound (Kd.own_sl (ok := TT) (ok' := TT) HO6.out (fun _ _ => trivial) (fun _ _ => trivial)))
    have HVm : Hid (Valid m) := Lib.hid (fun z hz => HV.out z ((HTm.out z).1 hz))
    have HSmm : Hid (∀ z ∈ m, SmallT z) := Lib.hid (fun z hz => HSm.out z ((HTm.out z).1 hz))
    have hml : m.length = 2 * l.length := HTl.out
    have HMl := Lib.hid hml
    clear hm hs1 hs2 hB hY HQ1 HQ2 HQ3 hbp hbs HO6 HB6 hml
    have HP := Lib.hid (HPr.out wc HBc.out)
    go_wp2_with fail
    refine HP.out.mono ?_
    rintro e w8 ⟨rfl, hb⟩
    have HB8 := Lib.hid (bel_step HBc.out hb)
    have HM8 := Lib.hid (Kd.M_bound (Kd.M_below HMr.out hb))
    have HLd := Lib.hid (load_print l HV.out (by have := HL40.out; omega) x HX.out (by omega) w8 (HE.out.below HB8.out))
    clear hb HP HMr
    go_wp2_with fail
    refine HLd.out.mono ?_
    rintro e w9 ⟨⟨ga, rfl, hS⟩, hb⟩
    have HB9 := Lib.hid (bel_step HB8.out hb)
    have HSa := Lib.hid hS
    have HM9 := Lib.hid (Kd.M_bound (Kd.M_below HM8.out hb))
    have hyl : (m.flatMap lineN).length = 2 * x.length := by rw [HTf.out, ← HX.out]
    have HP := Lib.hid (SortW.refprint_calls m A6 c6 w9 HM9.out HSmm.out (by omega))
    have HPar := Lib.hid (parse_framed HVm.out (by rw [HMl.out]; have := HL40.out; omega) (by omega))
    rw [HTs.out] at HPar
    obtain ⟨y, hy⟩ : ∃ y, y = m.flatMap lineN := ⟨_, rfl⟩
    rw [← hy] at HP HPar hyl
    clear hS hb HLd HM8 hy
    have zy := mkS_size y
    have q1 : (⟨#[10]⟩ : ByteArray).size = 1 := rfl
    have q3 : (⟨#[35, 32, 120]⟩ : ByteArray).size = 3 := rfl
    have z1 : ((⟨#[10]⟩ : ByteArray) ++ mkS y).size = 1 + y.length := by rw [ByteArray.size_append, q1, zy]
    have HCat : Hid ((⟨#[10]⟩ : ByteArray) ++ mkS y ++ (⟨#[35, 32, 120]⟩ : ByteArray) = mkS (10 :: (y ++ [35, 32, 120]))) := Lib.hid (by
      rw [mkS_lit, mkS_lit, mkS_append, mkS_append]
      simp)
    have hylb : y.length ≤ 20000 := by omega
    dsimp only
    go_wp2_with fail
    refine HP.out.mono ?_
    rintro e w10 ⟨rfl, hb⟩
    have HB10 := Lib.hid (bel_step HB9.out hb)
    have HSa10 := Lib.hid (HSa.out.below hb)
    have HLd := Lib.hid (load_good (10 :: (y ++ [35, 32, 120])) (by simp; omega) w10 (HE.out.below HB10.out) (by rw [HPar.out]))
    rw [HPar.out] at HLd
    clear hb HP HSa
    go_wp2_with fail
    rw [HCat.out]
    refine HLd.out.mono ?_
    rintro e w12 ⟨⟨gb, rfl, hS⟩, hb⟩
    have HB12 := Lib.hid (bel_step HB10.out hb)
    have HSa12 := Lib.hid (HSa10.out.below hb)
    have HSb12 : Hid (StoreAt w12 (fun _ => True) gb (sortT l)) := Lib.hid (hS.mono (fun _ _ _ => trivial))
    have HVs : Hid (Valid (sortT l)) := Lib.hid (ParseOk.sortT_valid HV.out)
    have HLs : Hid ((sortT l).length ≤ 100) := Lib.hid (Nat.le_trans (ParseOk.sortT_len l) (by have := HL40.out; omega))
    clear hS hb HLd HSa10 zx hw1 hw2 hbig hd20 zy q1 q3 z1 hyl hylb hxl
    obtain ⟨T, hT⟩ : ∃ T, T = sortT l := ⟨_, rfl⟩
    rw [← hT] at HVs HLs HSa12 HSb12
    clear hT
    have HEa := Lib.hid (fun W (hW : Below w12.heap.size w12 W) => encode_calls T HVs.out HLs.out ga W _ (HSa12.out.below hW))
    have HEb := Lib.hid (fun W (hW : Below w12.heap.size w12 W) => encode_calls T HVs.out HLs.out gb W _ (HSb12.out.below hW))
    have HXa := Lib.hid (fun W (hW : Below w12.heap.size w12 W) => export_calls T HVs.out HLs.out ga W _ (HSa12.out.below hW))
    have HXb := Lib.hid (fun W (hW : Below w12.heap.size w12 W) => export_calls T HVs.out HLs.out gb W _ (HSb12.out.below hW))
    have HKn := Lib.hid (fun W (hW : Below w12.heap.size w12 W) => Known11.known_calls W (HE.out.below (bel_step HB12.out hW)))
    obtain ⟨a, ha⟩ : ∃ a, a = encT T := ⟨_, rfl⟩
    obtain ⟨xa, hxa⟩ : ∃ xa, xa = T.flatMap lineN := ⟨_, rfl⟩
    rw [← ha] at HEa HEb
    rw [← hxa] at HXa HXb
    have ta := mkS_toList a
    have txa := mkS_toList xa
    have hqe : (a == a) = true := by simp
    have hqx : (xa == xa) = true := by simp
    have hcur := Below.refl w12.heap.size w12
    clear ha hxa HSa12 HSb12
    dsimp only
    go_upto_region 9 with fail
    go_region_with (first
      | (go_at_call_of 28 (Value.pointer (some ⟨ga, 0, none⟩)); refine (HEa.out _ ?_).mono ?_; (repeat (first | assumption | exact Below.refl _ _ | refine bel_drew ?_ | refine bel_alloc ?_ _)); rintro e w13 ⟨⟨va, rfl, hoa⟩, hbc⟩; have HMa := Lib.hid (Kd.own_sl (ok := fun _ => True) (ok' := fun _ => True) hoa (fun _ _ => trivial) (fun _ _ => trivial)); obtain ⟨Aa, ca, rfl, _, _⟩ := Kd.own_slice hoa; have hca := conv_row HMa.out (Below.refl _ _); (try have hcb := conv_row HMb.out hbc); have hcur : Below w12.heap.size w12 w13 := bel_step (by repeat (first | assumption | exact Below.refl _ _ | refine bel_drew ?_ | refine bel_alloc ?_ _)) hbc; clear hoa)
      | (go_at_call_of 28 (Value.pointer (some ⟨gb, 0, none⟩)); refine (HEb.out _ ?_).mono ?_; (repeat (first | assumption | exact Below.refl _ _ | refine bel_drew ?_ | refine bel_alloc ?_ _)); rintro e w14 ⟨⟨vb, rfl, hob⟩, hbc⟩; have HMb := Lib.hid (Kd.own_sl (ok := fun _ => True) (ok' := fun _ => True) hob (fun _ _ => trivial) (fun _ _ => trivial)); obtain ⟨Ab, cb, rfl, _, _⟩ := Kd.own_slice hob; have hcb := conv_row HMb.out (Below.refl _ _); (try have hca := conv_row HMa.out hbc); have hcur : Below w12.heap.size w12 w14 := bel_step (by repeat (first | assumption | exact Below.refl _ _ | refine bel_drew ?_ | refine bel_alloc ?_ _)) hbc; clear hob)
      | (go_at_call_of 29 (Value.pointer (some ⟨ga, 0, none⟩)); refine (HXa.out _ ?_).mono ?_; (repeat (first | assumption | exact Below.refl _ _ | refine bel_drew ?_ | refine bel_alloc ?_ _)); rintro e w15 ⟨rfl, hbc⟩; have hcur : Below w12.heap.size w12 w15 := bel_step (by repeat (first | assumption | exact Below.refl _ _ | refine bel_drew ?_ | refine bel_alloc ?_ _)) hbc)
      | (go_at_call_of 29 (Value.pointer (some ⟨gb, 0, none⟩)); refine (HXb.out _ ?_).mono ?_; (repeat (first | assumption | exact Below.refl _ _ | refine bel_drew ?_ | refine bel_alloc ?_ _)); rintro e w16 ⟨rfl, hbc⟩; have hcur : Below w12.heap.size w12 w16 := bel_step (by repeat (first | assumption | exact Below.refl _ _ | refine bel_drew ?_ | refine bel_alloc ?_ _)) hbc)
      | (go_at_call 19; refine (HKn.out _ ?_).mono ?_; (repeat (first | assumption | exact Below.refl _ _ | refine bel_drew ?_ | refine bel_alloc ?_ _)); rintro e w17 ⟨rfl, hbc⟩; have hcur : Below w12.heap.size w12 w17 := bel_step (by repeat (first | assumption | exact Below.refl _ _ | refine bel_drew ?_ | refine bel_alloc ?_ _)) hbc))
    all_goals (have HBf := Lib.hid (bel_step HB12.out hcur); go_wp2; go_ret; exact ⟨rfl, HBf.out⟩)
theorem walk (w : World) (he : Env w) (l : List Triple) (v : Value) (m : triK.sl.M w (fun _ => True) l [v]) (n : Int) (hn : -9223372036854775808 ≤ n ∧ n ≤ 9223372036854775807) :
    Calls Tryz.prog 5 #[v, .int .i64 n] w fun e w' => e = .returned (.bool true) ∧ Below w.heap.size w w' := by
  obtain ⟨A, c, hv, h⟩ := id m
  obtain rfl : v = .slice A l.length c := by simpa using hv
  exact walk0 w he l A c n (triK.sl.mono (fun k _ hk => hk) m)
end Go.Proofs.YtnplommdgfgboaaGreatDoor.SOrder

/-
  What term.quoted and term.Show answer.
-/
import Derived.Test.YtmcoloapiiakbaaGreatDoorShow
import Derived.Test.YtmcoloapiiakbaaGreatDoorBw
import Derived.Test.YtmcoloapiiakbaaGreatDoorTc
import Derived.Test.YtmcoloapiiakbaaGreatDoorQT
set_option linter.unusedVariables false
set_option linter.unusedSimpArgs false
namespace Go.Proofs.YtmcoloapiiakbaaGreatDoor.Show
open Go.RowKit Go.Lib Go.Proofs.YtmcoloapiiakbaaGreatDoor.B Go.Proofs.YtmcoloapiiakbaaGreatDoor.Rd Go.Proofs.YtmcoloapiiakbaaGreatDoor.Utf Go.Proofs.YtmcoloapiiakbaaGreatDoor.TermPure Go.Proofs.YtmcoloapiiakbaaGreatDoor.Tx Go.Proofs.YtmcoloapiiakbaaGreatDoor.Env Go.Proofs.YtmcoloapiiakbaaGreatDoor.Bld

theorem esc_sign {b : UInt8} {n : Nat} (hn : n = b.toNat) (h : n = 34 ∨ n = 92) : escB b = [92, UInt8.ofNat n] := by
  rcases h with rfl | rfl
  · obtain rfl : b = 34 := by apply UInt8.toNat_inj.1; rw [← hn]; rfl
    rfl
  · obtain rfl : b = 92 := by apply UInt8.toNat_inj.1; rw [← hn]; rfl
    rfl
theorem esc_short {b : UInt8} {n : Nat} (hn : n = b.toNat) (h : n = 8 ∨ n = 9 ∨ n = 10 ∨ n = 12 ∨ n = 13) : escB b = [92, short n] := by
  rcases h with rfl | rfl | rfl | rfl | rfl
  · obtain rfl : b = 8 := by apply UInt8.toNat_inj.1; rw [← hn]; rfl
    rfl
  · obtain rfl : b = 9 := by apply UInt8.toNat_inj.1; rw [← hn]; rfl
    rfl
  · obtain rfl : b = 10 := by apply UInt8.toNat_inj.1; rw [← hn]; rfl
    rfl
  · obtain rfl : b = 12 := by apply UInt8.toNat_inj.1; rw [← hn]; rfl
    rfl
  · obtain rfl : b = 13 := by apply UInt8.toNat_inj.1; rw [← hn]; rfl
    rfl
theorem esc_ne {b : UInt8} {n : Nat} (hn : n = b.toNat) (k : UInt8) (h : n ≠ k.toNat) : b ≠ k := by
  rintro rfl
  exact h hn
theorem esc_hex {b : UInt8} {n : Nat} (hn : n = b.toNat) (h : n < 32 ∨ n = 127) (h8 : n ≠ 8) (h9 : n ≠ 9) (h10 : n ≠ 10) (h12 : n ≠ 12) (h13 : n ≠ 13) : escB b = [92, 117, 48, 48, hexD (n / 16), hexD (n % 16)] := by
  unfold escB
  rw [if_neg (esc_ne hn 34 (show n ≠ 34 by omega)), if_neg (esc_ne hn 92 (show n ≠ 92 by omega)), if_neg (esc_ne hn 10 h10), if_neg (esc_ne hn 13 h13), if_neg (esc_ne hn 9 h9), if_neg (esc_ne hn 8 h8), if_neg (esc_ne hn 12 h12), if_pos (by omega), hn]
theorem esc_none {b : UInt8} {n : Nat} (hn : n = b.toNat) (h1 : ¬ n < 32) (h2 : n ≠ 127) (h3 : n ≠ 34) (h4 : n ≠ 92) : escB b = [b] := by
  unfold escB
  rw [if_neg (esc_ne hn 34 h3), if_neg (esc_ne hn 92 h4), if_neg (esc_ne hn 10 (show n ≠ 10 by omega)), if_neg (esc_ne hn 13 (show n ≠ 13 by omega)), if_neg (esc_ne hn 9 (show n ≠ 9 by omega)), if_neg (esc_ne hn 8 (show n ≠ 8 by omega)), if_neg (esc_ne hn 12 (show n ≠ 12 by omega)), if_neg (by omega)]
theorem esc_len6 (b : UInt8) : (escB b).length ≤ 6 := by
  unfold escB
  repeat' split
  all_goals simp
theorem flat_len : ∀ l : List UInt8, (l.flatMap escB).length ≤ 6 * l.length
  | [] => by simp
  | b :: l => by
    have h1 := flat_len l
    have h2 := esc_len6 b
    rw [List.flatMap_cons, List.length_append, List.length_cons]
    omega
theorem flat_take (s : List UInt8) (k : Nat) (h : k < s.length) : (s.take (k + 1)).flatMap escB = (s.take k).flatMap escB ++ escB s[k] := by
  rw [List.take_succ_eq_append_getElem h, List.flatMap_append]
  simp
set_option maxHeartbeats 4000000 in
set_option maxRecDepth 100000 in
theorem quoted_calls (s : List UInt8) (hs : s.length ≤ 17592186044416) (w : World) :
    Calls Tryz.prog 72 #[.string (mkS s)] w fun e w' => e = .returned (.string (mkS (TermPure.quoted s))) ∧ Below w.heap.size w w' := by
  obtain ⟨cap, o, hc1, hc2, hcv, ho⟩ := bytes_conv s (by omega) (w.alloc (.cells #[.pointer none, .slice none 0 0] 65))
  have ho' := ho (w.alloc (.cells #[.pointer none, .slice none 0 0] 65)).drew rfl
  rw [show (w.alloc (.cells #[.pointer none, .slice none 0 0] 65)).heap.size = w.heap.size + 1 by simp] at ho'
  have HC0 := Lib.hid (fun k h => (ho' k h).1)
  have HB0 : Hid (Bw.Bw (w.heap.size + 2) w.heap.size [] ((w.alloc (.cells #[.pointer none, .slice none 0 0] 65)).drew.alloc o)) :=
    Lib.hid (Bw.Bw.new (by omega) ((Lib.alloc_old _ _ _ (by simp)).trans (Kd.heap_new _ _)))
  have HW0 : Hid (Below w.heap.size w ((w.alloc (.cells #[.pointer none, .slice none 0 0] 65)).drew.alloc o)) := Lib.hid (bel_alloc (bel_drew (bel_alloc (Below.refl _ _) _)) _)
  clear ho ho'
  go_enter Tryz.func72, Tryz.ntmps72
  go_wp2
  go_loopw [9] (fun vi wr => ∃ k : Nat, k ≤ s.length ∧ vi = .int .i64 k ∧ Hid (Bw.Bw (w.heap.size + 2) w.heap.size ((s.take k).flatMap escB) wr) ∧ Hid (Below w.heap.size w wr) ∧ w.heap.size + 2 ≤ wr.heap.size ∧ Hid (∀ i (h : i < s.length), wr.cell? ⟨w.heap.size + 1, i, none⟩ = some (.int .u8 (s[i].toNat : Int)))) (fun vi _ => s.length - (intOf vi).toNat)
  case atStart => exact ⟨0, by omega, rfl, HB0, HW0, by simp, HC0⟩
  case round =>
    obtain ⟨k, hk, rfl, HB, HW, HZ, HC⟩ := hrel
    have hz0 : w.heap.size ≤ wr.heap.size := by omega
    by_cases hlt : k < s.length
    · have hd : decide (k < s.length) = true := decide_eq_true hlt
      have hlen : ((s.take k).flatMap escB).length ≤ 6 * s.length := Nat.le_trans (flat_len _) (by rw [List.length_take]; omega)
      have c0 := HC.out k hlt
      have HT := Lib.hid (flat_take s k hlt)
      have ik : (k : Int) < (s.length : Int) := by omega
      obtain ⟨b, hb⟩ : ∃ b, b = s[k] := ⟨_, rfl⟩
      rw [← hb] at c0 HT
      obtain ⟨n, hn⟩ : ∃ n, n = b.toNat := ⟨_, rfl⟩
      rw [← hn] at c0
      have hn256 : n < 256 := by rw [hn]; exact b.toNat_lt
      have HN := Lib.hid hn
      clear hb hn
      by_cases h1 : n = 34 ∨ n = 92
      · have HE := Lib.hid (esc_sign HN.out h1)
        have HA := Lib.hid (fun w => escaped_sign n h1 w)
        have d1 : decide ((n : Int) < 32) = false := decide_eq_false (by omega)
        have d2 : ((n : Int) == 127) = false := by rw [beq_eq_false_iff_ne]; omega
        have hs3 : ((n : Int) == 34) = true ∨ (((n : Int) == 34) = false ∧ ((n : Int) == 92) = true) := by
          rcases h1 with rfl | rfl
          · exact .inl rfl
          · exact .inr ⟨rfl, rfl⟩
        clear h1
        rcases hs3 with d3 | ⟨d3, d4⟩
        all_goals
          go_wp2_with fail
          refine (HA.out wr).mono ?_
          rintro e w1 ⟨rfl, hb1⟩
          have HB1 := Lib.hid (HB.out.kept hb1.block)
          have HW1 := Lib.hid (bel_step HW.out hb1)
          have HC1 := Lib.hid (fun i (h : i < s.length) => (hb1.cell (p := ⟨w.heap.size + 1, i, none⟩) (by dsimp only; omega)).trans (HC.out i h))
          have hz1 : w.heap.size + 2 ≤ w1.heap.size := Nat.le_trans HZ hb1.size
          clear hb1 HB HW HC
          go_wp2_with fail
          refine (Bw.writeString_calls _ _ _ _ w1 HB1.out (by simp only [List.length_cons, List.length_nil]; omega) hz1).mono ?_
          rintro e w2 ⟨⟨v, rfl⟩, hB2, hK2⟩
          have HB2 := Lib.hid hB2
          have HW2 := Lib.hid (hK2.below HW1.out (Nat.le_refl _) (by omega))
          have HC2 := Lib.hid (fun i (h : i < s.length) => (Bw.Keeps.cell hK2 (by omega) (by omega)).trans (HC1.out i h))
          have hz2 : w.heap.size + 2 ≤ w2.heap.size := Nat.le_trans hz1 hK2.size
          clear hB2 hK2 HB1 HW1 HC1
          go_wp2
          go_roundw
          case rel => exact ⟨k + 1, by omega, by go_num, Lib.hid (by rw [HT.out, HE.out]; exact HB2.out), HW2, hz2, HC2⟩
          case measure => simp [intOf]; omega
      by_cases h2 : n = 8 ∨ n = 9 ∨ n = 10 ∨ n = 12 ∨ n = 13
      · have HE := Lib.hid (esc_short HN.out h2)
        have HA := Lib.hid (fun w => escaped_short n h2 w)
        have d1 : decide ((n : Int) < 32) = true := decide_eq_true (by omega)
        go_wp2_with fail
        refine (HA.out wr).mono ?_
        rintro e w1 ⟨rfl, hb1⟩
        have HB1 := Lib.hid (HB.out.kept hb1.block)
        have HW1 := Lib.hid (bel_step HW.out hb1)
        have HC1 := Lib.hid (fun i (h : i < s.length) => (hb1.cell (p := ⟨w.heap.size + 1, i, none⟩) (by dsimp only; omega)).trans (HC.out i h))
        have hz1 : w.heap.size + 2 ≤ w1.heap.size := Nat.le_trans HZ hb1.size
        clear hb1 HB HW HC
        go_wp2_with fail
        refine (Bw.writeString_calls _ _ _ _ w1 HB1.out (by simp only [List.length_cons, List.length_nil]; omega) hz1).mono ?_
        rintro e w2 ⟨⟨v, rfl⟩, hB2, hK2⟩
        have HB2 := Lib.hid hB2
        have HW2 := Lib.hid (hK2.below HW1.out (Nat.le_refl _) (by omega))
        have HC2 := Lib.hid (fun i (h : i < s.length) => (Bw.Keeps.cell hK2 (by omega) (by omega)).trans (HC1.out i h))
        have hz2 : w.heap.size + 2 ≤ w2.heap.size := Nat.le_trans hz1 hK2.size
        clear hB2 hK2 HB1 HW1 HC1
        go_wp2
        go_roundw
        case rel => exact ⟨k + 1, by omega, by go_num, Lib.hid (by rw [HT.out, HE.out]; exact HB2.out), HW2, hz2, HC2⟩
        case measure => simp [intOf]; omega
      by_cases h3 : n < 32
      · have HE := Lib.hid (esc_hex HN.out (.inl h3) (by omega) (by omega) (by omega) (by omega) (by omega))
        have HA := Lib.hid (fun w => escaped_hex n (.inl h3) (by omega) (by omega) (by omega) (by omega) (by omega) w)
        have d1 : decide ((n : Int) < 32) = true := decide_eq_true (by omega)
        go_wp2_with fail
        refine (HA.out wr).mono ?_
        rintro e w1 ⟨rfl, hb1⟩
        have HB1 := Lib.hid (HB.out.kept hb1.block)
        have HW1 := Lib.hid (bel_step HW.out hb1)
        have HC1 := Lib.hid (fun i (h : i < s.length) => (hb1.cell (p := ⟨w.heap.size + 1, i, none⟩) (by dsimp only; omega)).trans (HC.out i h))
        have hz1 : w.heap.size + 2 ≤ w1.heap.size := Nat.le_trans HZ hb1.size
        clear hb1 HB HW HC
        go_wp2_with fail
        refine (Bw.writeString_calls _ _ _ _ w1 HB1.out (by simp only [List.length_cons, List.length_nil]; omega) hz1).mono ?_
        rintro e w2 ⟨⟨v, rfl⟩, hB2, hK2⟩
        have HB2 := Lib.hid hB2
        have HW2 := Lib.hid (hK2.below HW1.out (Nat.le_refl _) (by omega))
        have HC2 := Lib.hid (fun i (h : i < s.length) => (Bw.Keeps.cell hK2 (by omega) (by omega)).trans (HC1.out i h))
        have hz2 : w.heap.size + 2 ≤ w2.heap.size := Nat.le_trans hz1 hK2.size
        clear hB2 hK2 HB1 HW1 HC1
        go_wp2
        go_roundw
        case rel => exact ⟨k + 1, by omega, by go_num, Lib.hid (by rw [HT.out, HE.out]; exact HB2.out), HW2, hz2, HC2⟩
        case measure => simp [intOf]; omega
      by_cases h4 : n = 127
      · have HE := Lib.hid (esc_hex HN.out (.inr h4) (by omega) (by omega) (by omega) (by omega) (by omega))
        have HA := Lib.hid (fun w => escaped_hex n (.inr h4) (by omega) (by omega) (by omega) (by omega) (by omega) w)
        subst h4
        go_wp2_with fail
        refine (HA.out wr).mono ?_
        rintro e w1 ⟨rfl, hb1⟩
        have HB1 := Lib.hid (HB.out.kept hb1.block)
        have HW1 := Lib.hid (bel_step HW.out hb1)
        have HC1 := Lib.hid (fun i (h : i < s.length) => (hb1.cell (p := ⟨w.heap.size + 1, i, none⟩) (by dsimp only; omega)).trans (HC.out i h))
        have hz1 : w.heap.size + 2 ≤ w1.heap.size := Nat.le_trans HZ hb1.size
        clear hb1 HB HW HC
        go_wp2_with fail
        refine (Bw.writeString_calls _ _ _ _ w1 HB1.out (by simp only [List.length_cons, List.length_nil]; omega) hz1).mono ?_
        rintro e w2 ⟨⟨v, rfl⟩, hB2, hK2⟩
        have HB2 := Lib.hid hB2
        have HW2 := Lib.hid (hK2.below HW1.out (Nat.le_refl _) (by omega))
        have HC2 := Lib.hid (fun i (h : i < s.length) => (Bw.Keeps.cell hK2 (by omega) (by omega)).trans (HC1.out i h))
        have hz2 : w.heap.size + 2 ≤ w2.heap.size := Nat.le_trans hz1 hK2.size
        clear hB2 hK2 HB1 HW1 HC1
        go_wp2
        go_roundw
        case rel => exact ⟨k + 1, by omega, by go_num, Lib.hid (by rw [HT.out, HE.out]; exact HB2.out), HW2, hz2, HC2⟩
        case measure => simp [intOf]; omega
      · have HE := Lib.hid (esc_none HN.out h3 h4 (by omega) (by omega))
        have d1 : decide ((n : Int) < 32) = false := decide_eq_false (by omega)
        have d2 : ((n : Int) == 127) = false := by rw [beq_eq_false_iff_ne]; omega
        have d3 : ((n : Int) == 34) = false := by rw [beq_eq_false_iff_ne]; omega
        have d4 : ((n : Int) == 92) = false := by rw [beq_eq_false_iff_ne]; omega
        have HA := Lib.hid (Bw.writeByte_calls _ _ _ b wr HB.out (by omega) HZ)
        rw [← HN.out] at HA
        go_wp2_with fail
        refine HA.out.mono ?_
        rintro e w2 ⟨⟨v, rfl⟩, hB2, hK2⟩
        have HB2 := Lib.hid hB2
        have HW2 := Lib.hid (hK2.below HW.out (Nat.le_refl _) (by omega))
        have HC2 := Lib.hid (fun i (h : i < s.length) => (Bw.Keeps.cell hK2 (by omega) (by omega)).trans (HC.out i h))
        have hz2 : w.heap.size + 2 ≤ w2.heap.size := Nat.le_trans HZ hK2.size
        clear hB2 hK2 HB HW HC c0
        go_wp2
        go_roundw
        case rel => exact ⟨k + 1, by omega, by go_num, Lib.hid (by rw [HT.out, HE.out]; exact HB2.out), HW2, hz2, HC2⟩
        case measure => simp [intOf]; omega
    · have hd : decide (k < s.length) = false := decide_eq_false hlt
      obtain rfl : k = s.length := by omega
      have HB' : Hid (Bw.Bw (w.heap.size + 2) w.heap.size (s.flatMap escB) wr) := Lib.hid (by have := HB.out; rwa [List.take_length] at this)
      clear HB
      go_wp2_with fail
      refine (string_calls _ _ _ wr HB'.out.toBld hz0).mono ?_
      rintro e w2 ⟨rfl, _, hK2⟩
      have HW2 := Lib.hid (HW.out.trans hK2)
      clear hK2 HB'
      have hfl := flat_len s
      have HQ : Hid (TermPure.quoted s = 34 :: (s.flatMap escB ++ [34])) := Lib.hid rfl
      generalize s.flatMap escB = out at hfl HQ
      have zl := mkS_size out
      have z1 : (⟨#[34]⟩ : ByteArray).size = 1 := rfl
      have z2 : ((⟨#[34]⟩ : ByteArray) ++ mkS out).size = 1 + out.length := by rw [ByteArray.size_append, z1, zl]
      have z3 : out.length ≤ 105553116266496 := by omega
      go_wp2
      go_ret
      exact ⟨ret_str (by rw [HQ.out, mkS_lit, mkS_append, mkS_append]; rfl), HW2.out⟩
theorem box_cells (w : World) (k : Int) (x ex : List UInt8) (p : QT.Bel (w.alloc (.cells #[.int .i64 k, .string (mkS x), .string (mkS ex)] 23))) :
    p.w.cell? ⟨w.heap.size, 1, none⟩ = some (.string (mkS x)) ∧ p.w.cell? ⟨w.heap.size, 2, none⟩ = some (.string (mkS ex)) := by
  have ht := Tc.TC.new w ⟨k, x, ex⟩
  exact ⟨p.cell ht.c1, p.cell ht.c2⟩
theorem quoted_len (x : List UInt8) : (TermPure.quoted x).length ≤ 6 * x.length + 2 := by
  have := flat_len x
  unfold TermPure.quoted
  rw [List.length_cons, List.length_append, List.length_singleton]
  omega
set_option maxHeartbeats 1600000 in
theorem show_calls (t : Term) (hx : t.text.length ≤ 17592186044416) (hex : t.extra.length ≤ 17592186044416) (w : World) :
    Calls Tryz.prog 45 #[Ref5.termV t] w fun e w' => e = .returned (.string (mkS (shown t))) ∧ Below w.heap.size w w' := by
  obtain ⟨kind, x, ex⟩ := t
  dsimp only at hx hex
  have HQ := Lib.hid (fun w => quoted_calls x hx w)
  have hql := quoted_len x
  have zx := mkS_size x
  have ze := mkS_size ex
  unfold Ref5.termV
  dsimp only
  have HBX := Lib.hid (fun k => box_cells w k x ex)
  have HBe := Lib.hid (fun (k : Int) => bel_alloc (Below.refl w.heap.size w) (.cells #[.int .i64 k, .string (mkS x), .string (mkS ex)] 23))
  by_cases h1 : kind = 1
  · subst h1
    have z1 : (⟨#[60]⟩ : ByteArray).size = 1 := rfl
    have z2 : ((⟨#[60]⟩ : ByteArray) ++ mkS x).size = 1 + x.length := by rw [ByteArray.size_append, z1, zx]
    have z3 : (⟨#[62]⟩ : ByteArray).size = 1 := rfl
    go_enter Tryz.func45, Tryz.ntmps45
    go_wp2
    go_ret
    exact ⟨ret_str (by rw [mkS_lit, mkS_lit, mkS_append, mkS_append]; rfl), HBe.out _⟩
  have e1 : (kind == 1) = false := by rw [beq_eq_false_iff_ne]; exact h1
  by_cases h2 : kind = 2
  · subst h2
    have z1 : (⟨#[95, 58]⟩ : ByteArray).size = 2 := rfl
    go_enter Tryz.func45, Tryz.ntmps45
    go_wp2
    go_ret
    exact ⟨ret_str (by rw [mkS_lit, mkS_append]; rfl), HBe.out _⟩
  have e2 : (kind == 2) = false := by rw [beq_eq_false_iff_ne]; exact h2
  have HS0 : Hid (¬ kind = 1 ∧ ¬ kind = 2) := Lib.hid ⟨h1, h2⟩
  clear h1 h2
  by_cases h4 : kind = 4
  · subst h4
    have HS : Hid (shown ⟨4, x, ex⟩ = TermPure.quoted x ++ 64 :: ex) := Lib.hid rfl
    generalize TermPure.quoted x = q at *
    have zq := mkS_size q
    have z1 : (⟨#[64]⟩ : ByteArray).size = 1 := rfl
    have z2 : (mkS q ++ (⟨#[64]⟩ : ByteArray)).size = q.length + 1 := by rw [ByteArray.size_append, z1, zq]
    have b1 := fun p => (HBX.out 4 p).1
    have b2 := fun p => (HBX.out 4 p).2
    go_enter Tryz.func45, Tryz.ntmps45
    go_upto_region 7 with fail
    refine QT.region_all (by kernel_rfl) (by kernel_rfl) ?_
    repeat (go_big_quiet_step (exact QT.Bel.call _ (HQ.out _)))
    refine wpQuiet_nil ?_
    intro _ hw'
    obtain ⟨⟨w2, hb⟩, rfl⟩ := hw'
    have HB := Lib.hid (bel_step (HBe.out 4) hb)
    clear hb b1 b2
    go_wp2
    go_ret
    exact ⟨ret_str (by rw [HS.out, mkS_lit, mkS_append, mkS_append]; simp), HB.out⟩
  have e4 : (kind == 4) = false := by rw [beq_eq_false_iff_ne]; exact h4
  by_cases h5 : kind = 5
  · subst h5
    have HS : Hid (shown ⟨5, x, ex⟩ = TermPure.quoted x ++ (94 :: 94 :: 60 :: (ex ++ [62]))) := Lib.hid rfl
    generalize TermPure.quoted x = q at *
    have zq := mkS_size q
    have z1 : (⟨#[94, 94, 60]⟩ : ByteArray).size = 3 := rfl
    have z3 : (⟨#[62]⟩ : ByteArray).size = 1 := rfl
    have z2 : (mkS q ++ (⟨#[94, 94, 60]⟩ : ByteArray)).size = q.length + 3 := by rw [ByteArray.size_append, z1, zq]
    have z4 : (mkS q ++ (⟨#[94, 94, 60]⟩ : ByteArray) ++ mkS ex).size = q.length + 3 + ex.length := by rw [ByteArray.size_append, z2, ze]
    have b1 := fun p => (HBX.out 5 p).1
    have b2 := fun p => (HBX.out 5 p).2
    go_enter Tryz.func45, Tryz.ntmps45
    go_upto_region 9 with fail
    refine QT.region_all (by kernel_rfl) (by kernel_rfl) ?_
    repeat (go_big_quiet_step (exact QT.Bel.call _ (HQ.out _)))
    refine wpQuiet_nil ?_
    intro _ hw'
    obtain ⟨⟨w2, hb⟩, rfl⟩ := hw'
    have HB := Lib.hid (bel_step (HBe.out 5) hb)
    clear hb b1 b2
    go_wp2
    go_ret
    exact ⟨ret_str (by rw [HS.out, mkS_lit, mkS_lit, mkS_append, mkS_append, mkS_append]; simp), HB.out⟩
  have e5 : (kind == 5) = false := by rw [beq_eq_false_iff_ne]; exact h5
  have HS : Hid (shown ⟨kind, x, ex⟩ = TermPure.quoted x) := Lib.hid (by unfold shown; dsimp only; rw [if_neg HS0.out.1, if_neg HS0.out.2, if_neg h4, if_neg h5])
  clear h4 h5
  go_enter Tryz.func45, Tryz.ntmps45
  go_wp2_with fail
  refine (HQ.out _).mono ?_
  rintro e w2 ⟨rfl, hb⟩
  have HB := Lib.hid (bel_step (HBe.out kind) hb)
  clear hb
  go_wp2
  go_ret
  exact ⟨ret_str (by rw [HS.out]), HB.out⟩
end Go.Proofs.YtmcoloapiiakbaaGreatDoor.Show

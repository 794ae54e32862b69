/-
  Texts of the claim, one behind the other: Show2, Tri, Print, StoreNil, MonoD, SortRow, Prg, Prg2, Prg3, Prg4, Prg5, LineEq.
-/
import Derived.Test.YtnplommdgfgboaaGreatDoorM2
import Derived.Deep.Strs
import Derived.OpenShut
import Derived.ChangeSame
import Derived.Calls
import Derived.RunT
import Derived.StepT
import Derived.Below
import Derived.Deep.Draws
import Derived.Sort.Grow
import Derived.Shelf.SlSortCmp.NoneTotal
import Derived.RegionTactic
import Derived.Deep.RegionHeld3
import Derived.StillTailTactics
import Derived.Laws.RangeAny
import Derived.Laws.RangeString
import Derived.Laws.Runes
import Derived.IntWalk
/-
  What term.quoted and term.Show answer.
-/
set_option linter.unusedVariables false
set_option linter.unusedSimpArgs false
namespace Go.Proofs.YtnplommdgfgboaaGreatDoor.Show
open Go.RowKit Go.Lib Go.Proofs.YtnplommdgfgboaaGreatDoor.B Go.Proofs.YtnplommdgfgboaaGreatDoor.Rd Go.Proofs.YtnplommdgfgboaaGreatDoor.Utf Go.Proofs.YtnplommdgfgboaaGreatDoor.TermPure Go.Proofs.YtnplommdgfgboaaGreatDoor.Tx Go.Proofs.YtnplommdgfgboaaGreatDoor.Env Go.Proofs.YtnplommdgfgboaaGreatDoor.Bld

theorem esc_sign {b : UInt8} {n : Nat} (hn : n = b.toNat) (h : n = 34 ∨ n = 92) : escB b = [92, UInt8.ofNat n] := by
  rcases h with rfl | rfl
  · obtain rfl : b = 34 := by apply UInt8.toNat_inj.1; rw [← hn]; rfl
    rfl
  · obtain rfl : b = 92 := by apply UInt8.toNat_inj.1; rw [← hn]; rfl
    rfl
theorem esc_short {b : UInt8} {n : Nat} (hn : n = b.toNat) (h : n = 8 ∨ n = 9 ∨ n = 10 ∨ n = 12 ∨ n = 13) : escB b = [92, short n] := by
  rcases h with rfl | rfl | rfl | rfl | rfl
  · obtain rfl : b = 8 := by apply UInt8.toNat_inj.1; rw [← hn]; rfl
    rfl
  · obtain rfl : b = 9 := by apply UInt8.toNat_inj.1; rw [← hn]; rfl
    rfl
  · obtain rfl : b = 10 := by apply UInt8.toNat_inj.1; rw [← hn]; rfl
    rfl
  · obtain rfl : b = 12 := by apply UInt8.toNat_inj.1; rw [← hn]; rfl
    rfl
  · obtain rfl : b = 13 := by apply UInt8.toNat_inj.1; rw [← hn]; rfl
    rfl
theorem esc_ne {b : UInt8} {n : Nat} (hn : n = b.toNat) (k : UInt8) (h : n ≠ k.toNat) : b ≠ k := by
  rintro rfl
  exact h hn
theorem esc_hex {b : UInt8} {n : Nat} (hn : n = b.toNat) (h : n < 32 ∨ n = 127) (h8 : n ≠ 8) (h9 : n ≠ 9) (h10 : n ≠ 10) (h12 : n ≠ 12) (h13 : n ≠ 13) : escB b = [92, 117, 48, 48, hexD (n / 16), hexD (n % 16)] := by
  unfold escB
  rw [if_neg (esc_ne hn 34 (show n ≠ 34 by omega)), if_neg (esc_ne hn 92 (show n ≠ 92 by omega)), if_neg (esc_ne hn 10 h10), if_neg (esc_ne hn 13 h13), if_neg (esc_ne hn 9 h9), if_neg (esc_ne hn 8 h8), if_neg (esc_ne hn 12 h12), if_pos (by omega), hn]
theorem esc_none {b : UInt8} {n : Nat} (hn : n = b.toNat) (h1 : ¬ n < 32) (h2 : n ≠ 127) (h3 : n ≠ 34) (h4 : n ≠ 92) : escB b = [b] := by
  unfold escB
  rw [if_neg (esc_ne hn 34 h3), if_neg (esc_ne hn 92 h4), if_neg (esc_ne hn 10 (show n ≠ 10 by omega)), if_neg (esc_ne hn 13 (show n ≠ 13 by omega)), if_neg (esc_ne hn 9 (show n ≠ 9 by omega)), if_neg (esc_ne hn 8 (show n ≠ 8 by omega)), if_neg (esc_ne hn 12 (show n ≠ 12 by omega)), if_neg (by omega)]
theorem esc_len6 (b : UInt8) : (escB b).length ≤ 6 := by
  unfold escB
  repeat' split
  all_goals simp
theorem flat_len : ∀ l : List UInt8, (l.flatMap escB).length ≤ 6 * l.length
  | [] => by simp
  | b :: l => by
    have h1 := flat_len l
    have h2 := esc_len6 b
    rw [List.flatMap_cons, List.length_append, List.length_cons]
    omega
theorem flat_take (s : List UInt8) (k : Nat) (h : k < s.length) : (s.take (k + 1)).flatMap escB = (s.take k).flatMap escB ++ escB s[k] := by
  rw [List.take_succ_eq_append_getElem h, List.flatMap_append]
  simp
set_option maxHeartbeats 4000000 in
set_option maxRecDepth 100000 in
theorem quoted_calls (s : List UInt8) (hs : s.length ≤ 17592186044416) (w : World) :
    Calls Tryz.prog 98 #[.string (mkS s)] w fun e w' => e = .returned (.string (mkS (TermPure.quoted s))) ∧ Below w.heap.size w w' := by
  obtain ⟨cap, o, hc1, hc2, hcv, ho⟩ := bytes_conv s (by omega) (w.alloc (.cells #[.pointer none, .slice none 0 0] 161))
  have ho' := ho (w.alloc (.cells #[.pointer none, .slice none 0 0] 161)).drew rfl
  rw [show (w.alloc (.cells #[.pointer none, .slice none 0 0] 161)).heap.size = w.heap.size + 1 by simp] at ho'
  have HC0 := Lib.hid (fun k h => (ho' k h).1)
  have HB0 : Hid (Bw.Bw (w.heap.size + 2) w.heap.size [] ((w.alloc (.cells #[.pointer none, .slice none 0 0] 161)).drew.alloc o)) :=
    Lib.hid (Bw.Bw.new (by omega) ((Lib.alloc_old _ _ _ (by simp)).trans (Kd.heap_new _ _)))
  have HW0 : Hid (Below w.heap.size w ((w.alloc (.cells #[.pointer none, .slice none 0 0] 161)).drew.alloc o)) := Lib.hid (bel_alloc (bel_drew (bel_alloc (Below.refl _ _) _)) _)
  clear ho ho'
  go_enter Tryz.func98, Tryz.ntmps98
  go_wp2
  go_loopw [9] (fun vi wr => ∃ k : Nat, k ≤ s.length ∧ vi = .int .i64 k ∧ Hid (Bw.Bw (w.heap.size + 2) w.heap.size ((s.take k).flatMap escB) wr) ∧ Hid (Below w.heap.size w wr) ∧ w.heap.size + 2 ≤ wr.heap.size ∧ Hid (∀ i (h : i < s.length), wr.cell? ⟨w.heap.size + 1, i, none⟩ = some (.int .u8 (s[i].toNat : Int)))) (fun vi _ => s.length - (intOf vi).toNat)
  case atStart => exact ⟨0, by omega, rfl, HB0, HW0, by simp, HC0⟩
  case round =>
    obtain ⟨k, hk, rfl, HB, HW, HZ, HC⟩ := hrel
    have hz0 : w.heap.size ≤ wr.heap.size := by omega
    by_cases hlt : k < s.length
    · have hd : decide (k < s.length) = true := decide_eq_true hlt
      have hlen : ((s.take k).flatMap escB).length ≤ 6 * s.length := Nat.le_trans (flat_len _) (by rw [List.length_take]; omega)
      have c0 := HC.out k hlt
      have HT := Lib.hid (flat_take s k hlt)
      have ik : (k : Int) < (s.length : Int) := by omega
      obtain ⟨b, hb⟩ : ∃ b, b = s[k] := ⟨_, rfl⟩
      rw [← hb] at c0 HT
      obtain ⟨n, hn⟩ : ∃ n, n = b.toNat := ⟨_, rfl⟩
      rw [← hn] at c0
      have hn256 : n < 256 := by rw [hn]; exact b.toNat_lt
      have HN := Lib.hid hn
      clear hb hn
      by_cases h1 : n = 34 ∨ n = 92
      · have HE := Lib.hid (esc_sign HN.out h1)
        have HA := Lib.hid (fun w => escaped_sign n h1 w)
        have d1 : decide ((n : Int) < 32) = false := decide_eq_false (by omega)
        have d2 : ((n : Int) == 127) = false := by rw [beq_eq_false_iff_ne]; omega
        have hs3 : ((n : Int) == 34) = true ∨ (((n : Int) == 34) = false ∧ ((n : Int) == 92) = true) := by
          rcases h1 with rfl | rfl
          · exact .inl rfl
          · exact .inr ⟨rfl, rfl⟩
        clear h1
        rcases hs3 with d3 | ⟨d3, d4⟩
        all_goals
          go_wp2_with fail
          refine (HA.out wr).mono ?_
          rintro e w1 ⟨rfl, hb1⟩
          have HB1 := Lib.hid (HB.out.kept hb1.block)
          have HW1 := Lib.hid (bel_step HW.out hb1)
          have HC1 := Lib.hid (fun i (h : i < s.length) => (hb1.cell (p := ⟨w.heap.size + 1, i, none⟩) (by dsimp only; omega)).trans (HC.out i h))
          have hz1 : w.heap.size + 2 ≤ w1.heap.size := Nat.le_trans HZ hb1.size
          clear hb1 HB HW HC
          go_wp2_with fail
          refine (Bw.writeString_calls _ _ _ _ w1 HB1.out (by simp only [List.length_cons, List.length_nil]; omega) hz1).mono ?_
          rintro e w2 ⟨⟨v, rfl⟩, hB2, hK2⟩
          have HB2 := Lib.hid hB2
          have HW2 := Lib.hid (hK2.below HW1.out (Nat.le_refl _) (by omega))
          have HC2 := Lib.hid (fun i (h : i < s.length) => (Bw.Keeps.cell hK2 (by omega) (by omega)).trans (HC1.out i h))
          have hz2 : w.heap.size + 2 ≤ w2.heap.size := Nat.le_trans hz1 hK2.size
          clear hB2 hK2 HB1 HW1 HC1
          go_wp2
          go_roundw
          case rel => exact ⟨k + 1, by omega, by go_num, Lib.hid (by rw [HT.out, HE.out]; exact HB2.out), HW2, hz2, HC2⟩
          case measure => simp [intOf]; omega
      by_cases h2 : n = 8 ∨ n = 9 ∨ n = 10 ∨ n = 12 ∨ n = 13
      · have HE := Lib.hid (esc_short HN.out h2)
        have HA := Lib.hid (fun w => escaped_short n h2 w)
        have d1 : decide ((n : Int) < 32) = true := decide_eq_true (by omega)
        go_wp2_with fail
        refine (HA.out wr).mono ?_
        rintro e w1 ⟨rfl, hb1⟩
        have HB1 := Lib.hid (HB.out.kept hb1.block)
        have HW1 := Lib.hid (bel_step HW.out hb1)
        have HC1 := Lib.hid (fun i (h : i < s.length) => (hb1.cell (p := ⟨w.heap.size + 1, i, none⟩) (by dsimp only; omega)).trans (HC.out i h))
        have hz1 : w.heap.size + 2 ≤ w1.heap.size := Nat.le_trans HZ hb1.size
        clear hb1 HB HW HC
        go_wp2_with fail
        refine (Bw.writeString_calls _ _ _ _ w1 HB1.out (by simp only [List.length_cons, List.length_nil]; omega) hz1).mono ?_
        rintro e w2 ⟨⟨v, rfl⟩, hB2, hK2⟩
        have HB2 := Lib.hid hB2
        have HW2 := Lib.hid (hK2.below HW1.out (Nat.le_refl _) (by omega))
        have HC2 := Lib.hid (fun i (h : i < s.length) => (Bw.Keeps.cell hK2 (by omega) (by omega)).trans (HC1.out i h))
        have hz2 : w.heap.size + 2 ≤ w2.heap.size := Nat.le_trans hz1 hK2.size
        clear hB2 hK2 HB1 HW1 HC1
        go_wp2
        go_roundw
        case rel => exact ⟨k + 1, by omega, by go_num, Lib.hid (by rw [HT.out, HE.out]; exact HB2.out), HW2, hz2, HC2⟩
        case measure => simp [intOf]; omega
      by_cases h3 : n < 32
      · have HE := Lib.hid (esc_hex HN.out (.inl h3) (by omega) (by omega) (by omega) (by omega) (by omega))
        have HA := Lib.hid (fun w => escaped_hex n (.inl h3) (by omega) (by omega) (by omega) (by omega) (by omega) w)
        have d1 : decide ((n : Int) < 32) = true := decide_eq_true (by omega)
        go_wp2_with fail
        refine (HA.out wr).mono ?_
        rintro e w1 ⟨rfl, hb1⟩
        have HB1 := Lib.hid (HB.out.kept hb1.block)
        have HW1 := Lib.hid (bel_step HW.out hb1)
        have HC1 := Lib.hid (fun i (h : i < s.length) => (hb1.cell (p := ⟨w.heap.size + 1, i, none⟩) (by dsimp only; omega)).trans (HC.out i h))
        have hz1 : w.heap.size + 2 ≤ w1.heap.size := Nat.le_trans HZ hb1.size
        clear hb1 HB HW HC
        go_wp2_with fail
        refine (Bw.writeString_calls _ _ _ _ w1 HB1.out (by simp only [List.length_cons, List.length_nil]; omega) hz1).mono ?_
        rintro e w2 ⟨⟨v, rfl⟩, hB2, hK2⟩
        have HB2 := Lib.hid hB2
        have HW2 := Lib.hid (hK2.below HW1.out (Nat.le_refl _) (by omega))
        have HC2 := Lib.hid (fun i (h : i < s.length) => (Bw.Keeps.cell hK2 (by omega) (by omega)).trans (HC1.out i h))
        have hz2 : w.heap.size + 2 ≤ w2.heap.size := Nat.le_trans hz1 hK2.size
        clear hB2 hK2 HB1 HW1 HC1
        go_wp2
        go_roundw
        case rel => exact ⟨k + 1, by omega, by go_num, Lib.hid (by rw [HT.out, HE.out]; exact HB2.out), HW2, hz2, HC2⟩
        case measure => simp [intOf]; omega
      by_cases h4 : n = 127
      · have HE := Lib.hid (esc_hex HN.out (.inr h4) (by omega) (by omega) (by omega) (by omega) (by omega))
        have HA := Lib.hid (fun w => escaped_hex n (.inr h4) (by omega) (by omega) (by omega) (by omega) (by omega) w)
        subst h4
        go_wp2_with fail
        refine (HA.out wr).mono ?_
        rintro e w1 ⟨rfl, hb1⟩
        have HB1 := Lib.hid (HB.out.kept hb1.block)
        have HW1 := Lib.hid (bel_step HW.out hb1)
        have HC1 := Lib.hid (fun i (h : i < s.length) => (hb1.cell (p := ⟨w.heap.size + 1, i, none⟩) (by dsimp only; omega)).trans (HC.out i h))
        have hz1 : w.heap.size + 2 ≤ w1.heap.size := Nat.le_trans HZ hb1.size
        clear hb1 HB HW HC
        go_wp2_with fail
        refine (Bw.writeString_calls _ _ _ _ w1 HB1.out (by simp only [List.length_cons, List.length_nil]; omega) hz1).mono ?_
        rintro e w2 ⟨⟨v, rfl⟩, hB2, hK2⟩
        have HB2 := Lib.hid hB2
        have HW2 := Lib.hid (hK2.below HW1.out (Nat.le_refl _) (by omega))
        have HC2 := Lib.hid (fun i (h : i < s.length) => (Bw.Keeps.cell hK2 (by omega) (by omega)).trans (HC1.out i h))
        have hz2 : w.heap.size + 2 ≤ w2.heap.size := Nat.le_trans hz1 hK2.size
        clear hB2 hK2 HB1 HW1 HC1
        go_wp2
        go_roundw
        case rel => exact ⟨k + 1, by omega, by go_num, Lib.hid (by rw [HT.out, HE.out]; exact HB2.out), HW2, hz2, HC2⟩
        case measure => simp [intOf]; omega
      · have HE := Lib.hid (esc_none HN.out h3 h4 (by omega) (by omega))
        have d1 : decide ((n : Int) < 32) = false := decide_eq_false (by omega)
        have d2 : ((n : Int) == 127) = false := by rw [beq_eq_false_iff_ne]; omega
        have d3 : ((n : Int) == 34) = false := by rw [beq_eq_false_iff_ne]; omega
        have d4 : ((n : Int) == 92) = false := by rw [beq_eq_false_iff_ne]; omega
        have HA := Lib.hid (Bw.writeByte_calls _ _ _ b wr HB.out (by omega) HZ)
        rw [← HN.out] at HA
        go_wp2_with fail
        refine HA.out.mono ?_
        rintro e w2 ⟨⟨v, rfl⟩, hB2, hK2⟩
        have HB2 := Lib.hid hB2
        have HW2 := Lib.hid (hK2.below HW.out (Nat.le_refl _) (by omega))
        have HC2 := Lib.hid (fun i (h : i < s.length) => (Bw.Keeps.cell hK2 (by omega) (by omega)).trans (HC.out i h))
        have hz2 : w.heap.size + 2 ≤ w2.heap.size := Nat.le_trans HZ hK2.size
        clear hB2 hK2 HB HW HC c0
        go_wp2
        go_roundw
        case rel => exact ⟨k + 1, by omega, by go_num, Lib.hid (by rw [HT.out, HE.out]; exact HB2.out), HW2, hz2, HC2⟩
        case measure => simp [intOf]; omega
    · have hd : decide (k < s.length) = false := decide_eq_false hlt
      obtain rfl : k = s.length := by omega
      have HB' : Hid (Bw.Bw (w.heap.size + 2) w.heap.size (s.flatMap escB) wr) := Lib.hid (by have := HB.out; rwa [List.take_length] at this)
      clear HB
      go_wp2_with fail
      refine (string_calls _ _ _ wr HB'.out.toBld hz0).mono ?_
      rintro e w2 ⟨rfl, _, hK2⟩
      have HW2 := Lib.hid (HW.out.trans hK2)
      clear hK2 HB'
      have hfl := flat_len s
      have HQ : Hid (TermPure.quoted s = 34 :: (s.flatMap escB ++ [34])) := Lib.hid rfl
      generalize s.flatMap escB = out at hfl HQ
      have zl := mkS_size out
      have z1 : (⟨#[34]⟩ : ByteArray).size = 1 := rfl
      have z2 : ((⟨#[34]⟩ : ByteArray) ++ mkS out).size = 1 + out.length := by rw [ByteArray.size_append, z1, zl]
      have z3 : out.length ≤ 105553116266496 := by omega
      go_wp2
      go_ret
      exact ⟨ret_str (by rw [HQ.out, mkS_lit, mkS_append, mkS_append]; rfl), HW2.out⟩
theorem box_cells (w : World) (k : Int) (x ex : List UInt8) (p : QT.Bel (w.alloc (.cells #[.int .i64 k, .string (mkS x), .string (mkS ex)] 24))) :
    p.w.cell? ⟨w.heap.size, 1, none⟩ = some (.string (mkS x)) ∧ p.w.cell? ⟨w.heap.size, 2, none⟩ = some (.string (mkS ex)) := by
  have ht := Tc.TC.new w ⟨k, x, ex⟩
  exact ⟨p.cell ht.c1, p.cell ht.c2⟩
theorem quoted_len (x : List UInt8) : (TermPure.quoted x).length ≤ 6 * x.length + 2 := by
  have := flat_len x
  unfold TermPure.quoted
  rw [List.length_cons, List.length_append, List.length_singleton]
  omega
set_option maxHeartbeats 1600000 in
theorem show_calls (t : Term) (hx : t.text.length ≤ 17592186044416) (hex : t.extra.length ≤ 17592186044416) (w : World) :
    Calls Tryz.prog 56 #[Ref5.termV t] w fun e w' => e = .returned (.string (mkS (shown t))) ∧ Below w.heap.size w w' := by
  obtain ⟨kind, x, ex⟩ := t
  dsimp only at hx hex
  have HQ := Lib.hid (fun w => quoted_calls x hx w)
  have hql := quoted_len x
  have zx := mkS_size x
  have ze := mkS_size ex
  unfold Ref5.termV
  dsimp only
  have HBX := Lib.hid (fun k => box_cells w k x ex)
  have HBe := Lib.hid (fun (k : Int) => bel_alloc (Below.refl w.heap.size w) (.cells #[.int .i64 k, .string (mkS x), .string (mkS ex)] 24))
  by_cases h1 : kind = 1
  · subst h1
    have z1 : (⟨#[60]⟩ : ByteArray).size = 1 := rfl
    have z2 : ((⟨#[60]⟩ : ByteArray) ++ mkS x).size = 1 + x.length := by rw [ByteArray.size_append, z1, zx]
    have z3 : (⟨#[62]⟩ : ByteArray).size = 1 := rfl
    go_enter Tryz.func56, Tryz.ntmps56
    go_wp2
    go_ret
    exact ⟨ret_str (by rw [mkS_lit, mkS_lit, mkS_append, mkS_append]; rfl), HBe.out _⟩
  have e1 : (kind == 1) = false := by rw [beq_eq_false_iff_ne]; exact h1
  by_cases h2 : kind = 2
  · subst h2
    have z1 : (⟨#[95, 58]⟩ : ByteArray).size = 2 := rfl
    go_enter Tryz.func56, Tryz.ntmps56
    go_wp2
    go_ret
    exact ⟨ret_str (by rw [mkS_lit, mkS_append]; rfl), HBe.out _⟩
  have e2 : (kind == 2) = false := by rw [beq_eq_false_iff_ne]; exact h2
  have HS0 : Hid (¬ kind = 1 ∧ ¬ kind = 2) := Lib.hid ⟨h1, h2⟩
  clear h1 h2
  by_cases h4 : kind = 4
  · subst h4
    have HS : Hid (shown ⟨4, x, ex⟩ = TermPure.quoted x ++ 64 :: ex) := Lib.hid rfl
    generalize TermPure.quoted x = q at *
    have zq := mkS_size q
    have z1 : (⟨#[64]⟩ : ByteArray).size = 1 := rfl
    have z2 : (mkS q ++ (⟨#[64]⟩ : ByteArray)).size = q.length + 1 := by rw [ByteArray.size_append, z1, zq]
    have b1 := fun p => (HBX.out 4 p).1
    have b2 := fun p => (HBX.out 4 p).2
    go_enter Tryz.func56, Tryz.ntmps56
    go_upto_region 7 with fail
    refine QT.region_all (by kernel_rfl) (by kernel_rfl) ?_
    repeat (go_big_quiet_step (exact QT.Bel.call _ (HQ.out _)))
    refine wpQuiet_nil ?_
    intro _ hw'
    obtain ⟨⟨w2, hb⟩, rfl⟩ := hw'
    have HB := Lib.hid (bel_step (HBe.out 4) hb)
    clear hb b1 b2
    go_wp2
    go_ret
    exact ⟨ret_str (by rw [HS.out, mkS_lit, mkS_append, mkS_append]; simp), HB.out⟩
  have e4 : (kind == 4) = false := by rw [beq_eq_false_iff_ne]; exact h4
  by_cases h5 : kind = 5
  · subst h5
    have HS : Hid (shown ⟨5, x, ex⟩ = TermPure.quoted x ++ (94 :: 94 :: 60 :: (ex ++ [62]))) := Lib.hid rfl
    generalize TermPure.quoted x = q at *
    have zq := mkS_size q
    have z1 : (⟨#[94, 94, 60]⟩ : ByteArray).size = 3 := rfl
    have z3 : (⟨#[62]⟩ : ByteArray).size = 1 := rfl
    have z2 : (mkS q ++ (⟨#[94, 94, 60]⟩ : ByteArray)).size = q.length + 3 := by rw [ByteArray.size_append, z1, zq]
    have z4 : (mkS q ++ (⟨#[94, 94, 60]⟩ : ByteArray) ++ mkS ex).size = q.length + 3 + ex.length := by rw [ByteArray.size_append, z2, ze]
    have b1 := fun p => (HBX.out 5 p).1
    have b2 := fun p => (HBX.out 5 p).2
    go_enter Tryz.func56, Tryz.ntmps56
    go_upto_region 9 with fail
    refine QT.region_all (by kernel_rfl) (by kernel_rfl) ?_
    repeat (go_big_quiet_step (exact QT.Bel.call _ (HQ.out _)))
    refine wpQuiet_nil ?_
    intro _ hw'
    obtain ⟨⟨w2, hb⟩, rfl⟩ := hw'
    have HB := Lib.hid (bel_step (HBe.out 5) hb)
    clear hb b1 b2
    go_wp2
    go_ret
    exact ⟨ret_str (by rw [HS.out, mkS_lit, mkS_lit, mkS_append, mkS_append, mkS_append]; simp), HB.out⟩
  have e5 : (kind == 5) = false := by rw [beq_eq_false_iff_ne]; exact h5
  have HS : Hid (shown ⟨kind, x, ex⟩ = TermPure.quoted x) := Lib.hid (by unfold shown; dsimp only; rw [if_neg HS0.out.1, if_neg HS0.out.2, if_neg h4, if_neg h5])
  clear h4 h5
  go_enter Tryz.func56, Tryz.ntmps56
  go_wp2_with fail
  refine (HQ.out _).mono ?_
  rintro e w2 ⟨rfl, hb⟩
  have HB := Lib.hid (bel_step (HBe.out kind) hb)
  clear hb
  go_wp2
  go_ret
  exact ⟨ret_str (by rw [HS.out]), HB.out⟩
end Go.Proofs.YtnplommdgfgboaaGreatDoor.Show
/-
  Triples in memory: rows of nine cells.
-/
set_option linter.unusedVariables false
set_option linter.unusedSimpArgs false
namespace Go.Proofs.YtnplommdgfgboaaGreatDoor.Tri
open Go.RowKit Go.ChangeShapes Go.WideShapes Go.Deep Go.Proofs.YtnplommdgfgboaaGreatDoor.B Go.Proofs.YtnplommdgfgboaaGreatDoor.TermPure Go.Proofs.YtnplommdgfgboaaGreatDoor.LinesPure Go.Proofs.YtnplommdgfgboaaGreatDoor.Ref5

def termL (t : Term) : List Value := [.int .i64 t.kind, .string (mkS t.text), .string (mkS t.extra)]
def triL (t : Triple) : List Value := [.int .i64 t.s.kind, .string (mkS t.s.text), .string (mkS t.s.extra), .int .i64 t.p.kind, .string (mkS t.p.text), .string (mkS t.p.extra), .int .i64 t.o.kind, .string (mkS t.o.text), .string (mkS t.o.extra)]
theorem tripleV_eq (t : Triple) : tripleV t = .agg (triL t).toArray := rfl
theorem termV_eq (t : Term) : termV t = .agg (termL t).toArray := rfl
theorem triL_eq (t : Triple) : triL t = termL t.s ++ (termL t.p ++ termL t.o) := rfl
/-- What may come in. -/
def FitsW (t : Term) : Prop := (-9223372036854775808 ≤ t.kind ∧ t.kind ≤ 9223372036854775807) ∧ t.text.length ≤ 140737488355328 ∧ t.extra.length ≤ 140737488355328
def FitsW3 (t : Triple) : Prop := FitsW t.s ∧ FitsW t.p ∧ FitsW t.o
def termK : Kd Term := held 3 (by decide) termL FitsW (fun _ => rfl) (fun t u hu => by
  simp [termL] at hu
  rcases hu with rfl | rfl | rfl <;> rfl)
def triK : Kd Triple := held 9 (by decide) triL FitsW3 (fun _ => rfl) (fun t u hu => by
  simp [triL] at hu
  rcases hu with rfl | rfl | rfl | rfl | rfl | rfl | rfl | rfl | rfl <;> rfl)
section
variable {P : Program} {t : TypeId}
theorem str_of {H : Type} {enc : TypeId × Value → H} {w : World} {fuel : Nat} {cs : List Value} {x : DataW H × List MemPlace} (ht : P.underlying t = some .string) (h : DataW.trod enc P w 0 (fun _ => true) true fuel t cs = some x)
    (hw : ∀ n ∈ DataW.weights P t x.1, n ≤ reachBytes) : ∃ l : List UInt8, cs = [.string (mkS l)] ∧ l.length ≤ 140737488355328 := by
  obtain ⟨s, rfl, rfl, _⟩ := DataW.trod_string ht h
  refine ⟨s.data.toList, by rw [← Rd.eq_mkS], ?_⟩
  have := hw s.data.toList.length (by simp [DataW.weights])
  simp only [reachBytes] at this
  omega
theorem opens_term {f0 f1 f2 : Field} (ht : P.underlying t = some (.struct #[f0, f1, f2])) (i0 : P.underlying f0.type = some (.int .i64)) (i1 : P.underlying f1.type = some .string) (i2 : P.underlying f2.type = some .string)
    (o0 : f0.offset = 0) (c0 : P.cellsOf f0.type = 1) (o1 : f1.offset = 1) (c1 : P.cellsOf f1.type = 1) (o2 : f2.offset = 2) (c2 : P.cellsOf f2.type = 1) (ct : P.cellsOf t = 3) : Opens P termK t := fun enc w fuel cs x h hw => by
  obtain ⟨y0, y1, y2, n, rfl, hl, k0, k1, k2⟩ := trod_struct3 ht h
  simp only [DataW.weights, ht] at hw
  rw [show (#[f0, f1, f2] : Array Field).toList.map (·.type) = [f0.type, f1.type, f2.type] from rfl] at hw
  simp only [DataW.weightsEach, List.append_nil] at hw
  rw [o0, c0, List.drop_zero] at k0
  rw [o1, c1] at k1
  rw [o2, c2] at k2
  obtain ⟨m, hm, _, hmw⟩ := DataW.trod_int i0 k0
  obtain ⟨x1, hx1, hl1⟩ := str_of i1 k1 (fun m hm => hw m (List.mem_append_right _ (List.mem_append_left _ hm)))
  obtain ⟨x2, hx2, hl2⟩ := str_of i2 k2 (fun m hm => hw m (List.mem_append_right _ (List.mem_append_right _ hm)))
  rw [ct] at hl
  match cs, hl with
  | [a, b, c], _ =>
    simp at hm hx1 hx2
    subst hm hx1 hx2
    exact ⟨⟨m, x1, x2⟩, rfl, Opens.i64_of hmw, hl1, hl2⟩
theorem opens_tri {f0 f1 f2 : Field} (ht : P.underlying t = some (.struct #[f0, f1, f2])) (h0 : Opens P termK f0.type) (h1 : Opens P termK f1.type) (h2 : Opens P termK f2.type)
    (o0 : f0.offset = 0) (c0 : P.cellsOf f0.type = 3) (o1 : f1.offset = 3) (c1 : P.cellsOf f1.type = 3) (o2 : f2.offset = 6) (c2 : P.cellsOf f2.type = 3) (ct : P.cellsOf t = 9) : Opens P triK t := fun enc w fuel cs x h hw => by
  obtain ⟨y0, y1, y2, n, rfl, hl, k0, k1, k2⟩ := trod_struct3 ht h
  simp only [DataW.weights, ht] at hw
  rw [show (#[f0, f1, f2] : Array Field).toList.map (·.type) = [f0.type, f1.type, f2.type] from rfl] at hw
  simp only [DataW.weightsEach, List.append_nil] at hw
  rw [o0, c0, List.drop_zero] at k0
  rw [o1, c1] at k1
  rw [o2, c2] at k2
  obtain ⟨a, ha, fa⟩ := h0 enc w n _ _ k0 (fun m hm => hw m (List.mem_append_left _ hm))
  obtain ⟨b, hb, fb⟩ := h1 enc w n _ _ k1 (fun m hm => hw m (List.mem_append_right _ (List.mem_append_left _ hm)))
  obtain ⟨c, hc, fc⟩ := h2 enc w n _ _ k2 (fun m hm => hw m (List.mem_append_right _ (List.mem_append_right _ hm)))
  rw [ct] at hl
  refine ⟨⟨a, b, c⟩, ?_, fa, fb, fc⟩
  show cs = termL a ++ (termL b ++ termL c)
  rw [← ha, ← hb, ← hc, List.take_of_length_le (l := cs.drop 6) (by rw [List.length_drop]; omega)]
  have e1 : cs.drop 3 = (cs.drop 3).take 3 ++ cs.drop 6 := by
    conv => lhs; rw [← List.take_append_drop 3 (cs.drop 3), List.drop_drop]
  rw [← e1, List.take_append_drop]
end
theorem opens_termA : Opens Tryz.prog termK 24 := opens_term Tryz.underlying24 Tryz.underlying3 Tryz.underlying9 Tryz.underlying9 rfl (by kernel_rfl) rfl (by kernel_rfl) rfl (by kernel_rfl) (by kernel_rfl)
theorem opens_triA : Opens Tryz.prog triK 36 := opens_tri Tryz.underlying36 opens_termA opens_termA opens_termA rfl (by kernel_rfl) rfl (by kernel_rfl) rfl (by kernel_rfl) (by kernel_rfl)
theorem opens_triples : Opens Tryz.prog triK.sl 22 := Opens.slice Tryz.underlying22 (by kernel_rfl) (of_decide_eq_true (by kernel_rfl)) opens_triA
def zeroD0 {H : Type} : DataW H := .agg [.lit (.int .i64 0), .lit (.string []), .lit (.string [])]
def zeroD {H : Type} : DataW H := .agg [zeroD0, zeroD0, zeroD0]
end Go.Proofs.YtnplommdgfgboaaGreatDoor.Tri
/-
  What lines.Print answers.
-/
set_option linter.unusedVariables false
set_option linter.unusedSimpArgs false
namespace Go.Proofs.YtnplommdgfgboaaGreatDoor.Print
open Go.RowKit Go.Lib Go.Proofs.YtnplommdgfgboaaGreatDoor.B Go.Proofs.YtnplommdgfgboaaGreatDoor.Rd Go.Proofs.YtnplommdgfgboaaGreatDoor.Utf Go.Proofs.YtnplommdgfgboaaGreatDoor.TermPure Go.Proofs.YtnplommdgfgboaaGreatDoor.LinesPure Go.Proofs.YtnplommdgfgboaaGreatDoor.Tx Go.Proofs.YtnplommdgfgboaaGreatDoor.Env Go.Proofs.YtnplommdgfgboaaGreatDoor.Bld Go.Proofs.YtnplommdgfgboaaGreatDoor.Tri

/-- A triple's line, with its end. -/
def lineN (t : Triple) : List UInt8 := shown t.s ++ (32 :: (shown t.p ++ (32 :: (shown t.o ++ [32, 46, 10]))))
/-- Small triples. -/
def SmallT (t : Triple) : Prop := (t.s.text.length ≤ 1099511627776 ∧ t.s.extra.length ≤ 1099511627776) ∧ (t.p.text.length ≤ 1099511627776 ∧ t.p.extra.length ≤ 1099511627776) ∧ (t.o.text.length ≤ 1099511627776 ∧ t.o.extra.length ≤ 1099511627776)
theorem shown_len (t : Term) : (shown t).length ≤ 6 * t.text.length + t.extra.length + 10 := by
  have := Show.quoted_len t.text
  unfold shown
  repeat' split
  all_goals try simp only [List.length_cons, List.length_append, List.length_nil]
  all_goals omega
theorem box9 (w : World) (t : Triple) (p : QT.Bel (w.alloc (.cells #[.int .i64 t.s.kind, .string (mkS t.s.text), .string (mkS t.s.extra), .int .i64 t.p.kind, .string (mkS t.p.text), .string (mkS t.p.extra), .int .i64 t.o.kind, .string (mkS t.o.text), .string (mkS t.o.extra)] 36))) :
    p.w.cell? ⟨w.heap.size, 0, none⟩ = some (.int .i64 t.s.kind) ∧ p.w.cell? ⟨w.heap.size, 1, none⟩ = some (.string (mkS t.s.text)) ∧ p.w.cell? ⟨w.heap.size, 2, none⟩ = some (.string (mkS t.s.extra)) ∧
    p.w.cell? ⟨w.heap.size, 3, none⟩ = some (.int .i64 t.p.kind) ∧ p.w.cell? ⟨w.heap.size, 4, none⟩ = some (.string (mkS t.p.text)) ∧ p.w.cell? ⟨w.heap.size, 5, none⟩ = some (.string (mkS t.p.extra)) ∧
    p.w.cell? ⟨w.heap.size, 6, none⟩ = some (.int .i64 t.o.kind) ∧ p.w.cell? ⟨w.heap.size, 7, none⟩ = some (.string (mkS t.o.text)) ∧ p.w.cell? ⟨w.heap.size, 8, none⟩ = some (.string (mkS t.o.extra)) := by
  have ht := Ref5.T9.new w t
  exact ⟨p.cell ht.s.c0, p.cell ht.s.c1, p.cell ht.s.c2, p.cell ht.p.c0, p.cell ht.p.c1, p.cell ht.p.c2, p.cell ht.o.c0, p.cell ht.o.c1, p.cell ht.o.c2⟩
theorem flat_take (l : List Triple) (k : Nat) (h : k < l.length) : (l.take (k + 1)).flatMap lineN = (l.take k).flatMap lineN ++ lineN l[k] := by
  rw [List.take_succ_eq_append_getElem h, List.flatMap_append]
  simp
theorem flat_le {l : List Triple} (hn : (l.flatMap lineN).length ≤ 140737488355328) (k : Nat) (h : k < l.length) {x : List UInt8} (hx : (l.take (k + 1)).flatMap lineN = (l.take k).flatMap lineN ++ x) :
    ((l.take k).flatMap lineN).length + x.length ≤ 140737488355328 := by
  rw [← List.length_append, ← hx]
  refine Nat.le_trans ?_ hn
  have : l.flatMap lineN = (l.take (k + 1)).flatMap lineN ++ (l.drop (k + 1)).flatMap lineN := by rw [← List.flatMap_append, List.take_append_drop]
  rw [this, List.length_append]
  omega
set_option maxHeartbeats 4000000 in
set_option maxRecDepth 100000 in
theorem print_calls (l : List Triple) (A : Option Addr) (c : Nat) (w : World) (HL : triK.sl.M w (fun k => k < w.heap.size) l [.slice A l.length c]) (hs : ∀ t ∈ l, SmallT t) (hn : (l.flatMap lineN).length ≤ 140737488355328) :
    Calls Tryz.prog 62 #[.slice A l.length c] w fun e w' => e = .returned (.string (mkS (l.flatMap lineN))) ∧ Below w.heap.size w w' := by
  obtain ⟨A', c', he, hlc, ⟨h47, hcm⟩, hA, hrow⟩ := HL
  obtain ⟨rfl, rfl⟩ : A = A' ∧ c = c' := by simpa using he
  have HROW := Lib.hid hrow
  have HS := Lib.hid hs
  have HN := Lib.hid hn
  have HB0 : Hid (Bld w.heap.size w.heap.size [] (w.alloc (.cells #[.pointer none, .slice none 0 0] 161))) := Lib.hid (Bld.new w)
  clear he hrow hs hn
  go_enter Tryz.func62, Tryz.ntmps62
  go_wp2
  go_loopw [5, 8] (fun v5 vi wr => ∃ k : Nat, k ≤ l.length ∧ vi = .int .i64 k ∧ Hid (Bld w.heap.size w.heap.size ((l.take k).flatMap lineN) wr) ∧ Hid (Below w.heap.size w wr)) (fun _ vi _ => l.length - (intOf vi).toNat)
  case atStart => exact ⟨0, by omega, rfl, HB0, Lib.hid (bel_alloc (Below.refl _ _) _)⟩
  case round =>
    obtain ⟨k, hk, rfl, HB, HW⟩ := hrel
    by_cases hlt : k < l.length
    · have hd : decide (k < l.length) = true := decide_eq_true hlt
      have ik : (k : Int) < (l.length : Int) := by omega
      obtain ⟨b, off, hAe, hb, hbl, hcells⟩ := Kd.row_addr HROW.out (by omega)
      subst hAe
      obtain ⟨cs, ⟨hcs, hfit⟩, hcell⟩ := hcells k hlt
      obtain ⟨t, ht⟩ : ∃ t, t = l[k] := ⟨_, rfl⟩
      rw [← ht] at hcs
      subst hcs
      have mv : ∀ j u, (triL t)[j]? = some u → wr.cell? ⟨b, off + k * 9 + j, none⟩ = some u := fun j u hu => (HW.out.cell (p := ⟨b, off + k * 9 + j, none⟩) hbl).trans (hcell j u hu)
      have z0 : wr.cell? ⟨b, off + k * 9, none⟩ = some (.int .i64 t.s.kind) := mv 0 _ rfl
      have z1 := mv 1 _ rfl
      have z2 := mv 2 _ rfl
      have z3 := mv 3 _ rfl
      have z4 := mv 4 _ rfl
      have z5 := mv 5 _ rfl
      have z6 := mv 6 _ rfl
      have z7 := mv 7 _ rfl
      have z8 := mv 8 _ rfl
      clear hcells hcell mv
      have fs := HS.out t (by rw [ht]; exact List.getElem_mem hlt)
      have HT := Lib.hid (flat_take l k hlt)
      rw [← ht] at HT
      clear ht
      obtain ⟨⟨sk, sx, se⟩, ⟨pk, px, pe⟩, ⟨ok, ox, oe⟩⟩ := t
      dsimp only at z0 z1 z2 z3 z4 z5 z6 z7 z8
      obtain ⟨⟨a1, a2⟩, ⟨a3, a4⟩, ⟨a5, a6⟩⟩ := fs
      dsimp only at a1 a2 a3 a4 a5 a6
      have HS1 := Lib.hid (fun w => Show.show_calls ⟨sk, sx, se⟩ (by dsimp only; omega) (by dsimp only; omega) w)
      have HS2 := Lib.hid (fun w => Show.show_calls ⟨pk, px, pe⟩ (by dsimp only; omega) (by dsimp only; omega) w)
      have HS3 := Lib.hid (fun w => Show.show_calls ⟨ok, ox, oe⟩ (by dsimp only; omega) (by dsimp only; omega) w)
      have l1 := shown_len ⟨sk, sx, se⟩
      have l2 := shown_len ⟨pk, px, pe⟩
      have l3 := shown_len ⟨ok, ox, oe⟩
      dsimp only at l1 l2 l3
      have HLN : Hid (lineN ⟨⟨sk, sx, se⟩, ⟨pk, px, pe⟩, ⟨ok, ox, oe⟩⟩ = shown ⟨sk, sx, se⟩ ++ (32 :: (shown ⟨pk, px, pe⟩ ++ (32 :: (shown ⟨ok, ox, oe⟩ ++ [32, 46, 10]))))) := Lib.hid rfl
      have HBX := Lib.hid (fun p => box9 wr ⟨⟨sk, sx, se⟩, ⟨pk, px, pe⟩, ⟨ok, ox, oe⟩⟩ p)
      have HBe := Lib.hid (bel_alloc (Below.refl wr.heap.size wr) (.cells #[.int .i64 sk, .string (mkS sx), .string (mkS se), .int .i64 pk, .string (mkS px), .string (mkS pe), .int .i64 ok, .string (mkS ox), .string (mkS oe)] 36))
      generalize shown ⟨sk, sx, se⟩ = S1 at *
      generalize shown ⟨pk, px, pe⟩ = S2 at *
      generalize shown ⟨ok, ox, oe⟩ = S3 at *
      have y1 := mkS_size S1
      have y2 := mkS_size S2
      have y3 := mkS_size S3
      have q1 : (⟨#[32]⟩ : ByteArray).size = 1 := rfl
      have q3 : (⟨#[32, 46, 10]⟩ : ByteArray).size = 3 := rfl
      have x1 : (mkS S1 ++ (⟨#[32]⟩ : ByteArray)).size = S1.length + 1 := by rw [ByteArray.size_append, y1, q1]
      have x2 : (mkS S1 ++ (⟨#[32]⟩ : ByteArray) ++ mkS S2).size = S1.length + 1 + S2.length := by rw [ByteArray.size_append, x1, y2]
      have x3 : (mkS S1 ++ (⟨#[32]⟩ : ByteArray) ++ mkS S2 ++ (⟨#[32]⟩ : ByteArray)).size = S1.length + 1 + S2.length + 1 := by rw [ByteArray.size_append, x2, q1]
      have x4 : (mkS S1 ++ (⟨#[32]⟩ : ByteArray) ++ mkS S2 ++ (⟨#[32]⟩ : ByteArray) ++ mkS S3).size = S1.length + 1 + S2.length + 1 + S3.length := by rw [ByteArray.size_append, x3, y3]
      have HCat : Hid (mkS S1 ++ (⟨#[32]⟩ : ByteArray) ++ mkS S2 ++ (⟨#[32]⟩ : ByteArray) ++ mkS S3 ++ (⟨#[32, 46, 10]⟩ : ByteArray) = mkS (lineN ⟨⟨sk, sx, se⟩, ⟨pk, px, pe⟩, ⟨ok, ox, oe⟩⟩)) := Lib.hid (by
        rw [HLN.out, mkS_lit, mkS_lit, mkS_append, mkS_append, mkS_append, mkS_append, mkS_append]
        simp)
      have b0 := fun p => (HBX.out p).1
      have b1 := fun p => (HBX.out p).2.1
      have b2 := fun p => (HBX.out p).2.2.1
      have b3 := fun p => (HBX.out p).2.2.2.1
      have b4 := fun p => (HBX.out p).2.2.2.2.1
      have b5 := fun p => (HBX.out p).2.2.2.2.2.1
      have b6 := fun p => (HBX.out p).2.2.2.2.2.2.1
      have b7 := fun p => (HBX.out p).2.2.2.2.2.2.2.1
      have b8 := fun p => (HBX.out p).2.2.2.2.2.2.2.2
      dsimp only at b0 b1 b2 b3 b4 b5 b6 b7 b8
      clear hfit
      go_upto_region 5 with fail
      refine QT.region_bel 14 (by kernel_rfl) (by kernel_rfl) ?_
      simp only [List.take_succ_cons, List.take_zero, List.drop_succ_cons, List.drop_zero]
      iterate 2 (go_big_quiet_step (fail))
      go_big_quiet_step (exact QT.Bel.call _ (HS1.out _))
      iterate 3 (go_big_quiet_step (fail))
      go_big_quiet_step (exact QT.Bel.call _ (HS2.out _))
      iterate 4 (go_big_quiet_step (fail))
      go_big_quiet_step (exact QT.Bel.call _ (HS3.out _))
      iterate 2 (go_big_quiet_step (fail))
      refine wpQuiet_nil ?_
      intro w2 hw'
      obtain ⟨⟨_, hb⟩, rfl⟩ := hw'
      have HB2 := Lib.hid ((HB.out.below HBe.out).below hb)
      have HW2 := Lib.hid (bel_step (bel_step HW.out HBe.out) hb)
      have hz2 : w.heap.size ≤ w2.heap.size := HW2.out.size
      have HLen := Lib.hid (flat_le HN.out k hlt HT.out)
      clear hb b0 b1 b2 b3 b4 b5 b6 b7 b8 HB z0 z1 z2 z3 z4 z5 z6 z7 z8
      go_wp2_with fail
      rw [HCat.out]
      refine (Bld.writeString_calls _ _ _ _ w2 HB2.out HLen.out hz2).mono ?_
      rintro e w3 ⟨⟨v, rfl⟩, hB3, hb3⟩
      have HB3 := Lib.hid hB3
      have HW3 := Lib.hid (HW2.out.trans hb3)
      clear hB3 hb3 HB2 HW2
      go_wp2
      go_roundw
      case rel => exact ⟨k + 1, by omega, by go_num, Lib.hid (by rw [HT.out]; exact HB3.out), HW3⟩
      case measure => simp [intOf]; omega
    · have hd : decide (k < l.length) = false := decide_eq_false hlt
      obtain rfl : k = l.length := by omega
      have HB' : Hid (Bld w.heap.size w.heap.size (l.flatMap lineN) wr) := Lib.hid (by have := HB.out; rwa [List.take_length] at this)
      have hz2 : w.heap.size ≤ wr.heap.size := HW.out.size
      clear HB
      go_wp2_with fail
      refine (string_calls _ _ _ wr HB'.out hz2).mono ?_
      rintro e w2 ⟨rfl, _, hK2⟩
      have HW2 := Lib.hid (HW.out.trans hK2)
      clear hK2 HB'
      go_wp2
      go_ret
      exact ⟨rfl, HW2.out⟩
end Go.Proofs.YtnplommdgfgboaaGreatDoor.Print
/-
  What a nil store tells: nothing.
-/
set_option linter.unusedVariables false
set_option linter.unusedSimpArgs false
namespace Go.Proofs.YtnplommdgfgboaaGreatDoor.StoreNil
open Go.RowKit Go.Lib Go.Proofs.YtnplommdgfgboaaGreatDoor.B Go.Proofs.YtnplommdgfgboaaGreatDoor.Rd Go.Proofs.YtnplommdgfgboaaGreatDoor.TermPure Go.Proofs.YtnplommdgfgboaaGreatDoor.LinesPure Go.Proofs.YtnplommdgfgboaaGreatDoor.Tri Go.Proofs.YtnplommdgfgboaaGreatDoor.Print

set_option maxRecDepth 100000 in
theorem triples_nil (w : World) : Calls Tryz.prog 34 #[.pointer none] w fun e w' => e = .returned (.slice none 0 0) ∧ w = w' := by
  go_enter Tryz.func34, Tryz.ntmps34
  go_wp2
  go_ret
  exact ⟨rfl, rfl⟩
set_option maxRecDepth 100000 in
theorem terms_nil (w : World) : Calls Tryz.prog 16 #[.pointer none] w fun e w' => e = .returned (.slice none 0 0) ∧ w = w' := by
  go_enter Tryz.func16, Tryz.ntmps16
  go_wp2
  go_ret
  exact ⟨rfl, rfl⟩
set_option maxRecDepth 100000 in
theorem encode_nil (w : World) : Calls Tryz.prog 28 #[.pointer none] w fun e w' => e = .returned (.slice none 0 0) ∧ w = w' := by
  go_enter Tryz.func28, Tryz.ntmps28
  go_wp2
  go_ret
  exact ⟨rfl, rfl⟩
set_option maxRecDepth 100000 in
theorem ring_nil (w : World) : Calls Tryz.prog 22 #[.pointer none] w fun e w' => e = .returned (.pointer none) ∧ w = w' := by
  go_enter Tryz.func22, Tryz.ntmps22
  go_wp2
  go_ret
  exact ⟨rfl, rfl⟩
set_option maxRecDepth 100000 in
theorem term_nil (n : Int) (w : World) : Calls Tryz.prog 33 #[.pointer none, .int .i64 n] w fun e w' => e = .returned (.tuple #[.agg #[.int .i64 0, .string ⟨#[]⟩, .string ⟨#[]⟩], .bool false]) ∧ Below w.heap.size w w' := by
  go_enter Tryz.func33, Tryz.ntmps33
  go_wp2
  refine bodyPost_ret (v := .tuple #[.agg #[.int .i64 0, .string ⟨#[]⟩, .string ⟨#[]⟩], .bool false]) (by simp [results, Tryz.results33, go_sem]) rfl ?_
  exact ⟨rfl, bel_alloc (Below.refl _ _) _⟩
set_option maxRecDepth 100000 in
theorem id_nil (t : Term) (w : World) : Calls Tryz.prog 18 #[.pointer none, Ref5.termV t] w fun e w' => e = .returned (.int .i64 0) ∧ Below w.heap.size w w' := by
  have HB := Lib.hid (bel_alloc (Below.refl w.heap.size w) (.cells (termL t).toArray 24))
  obtain ⟨k, x, e⟩ := t
  unfold termL at HB
  unfold Ref5.termV
  dsimp only at *
  go_enter Tryz.func18, Tryz.ntmps18
  go_wp2
  go_ret
  exact ⟨rfl, HB.out⟩
set_option maxRecDepth 100000 in
theorem len_nil (w : World) : Calls Tryz.prog 24 #[.pointer none] w fun e w' => e = .returned (.int .i64 0) ∧ w = w' := by
  have HC := Lib.hid (triples_nil w)
  go_enter Tryz.func24, Tryz.ntmps24
  go_wp2_with fail
  refine HC.out.mono ?_
  rintro e w1 ⟨rfl, rfl⟩
  go_wp2
  go_ret
  exact ⟨rfl, rfl⟩
set_option maxRecDepth 100000 in
theorem export_nil (w : World) : Calls Tryz.prog 29 #[.pointer none] w fun e w' => e = .returned (.string ⟨#[]⟩) ∧ Below w.heap.size w w' := by
  have HC := Lib.hid (triples_nil w)
  have HP := Lib.hid (print_calls [] none 0 w ⟨none, 0, rfl, Nat.le_refl _, ⟨Nat.zero_le _, Nat.zero_le _⟩, fun _ => rfl, Kd.row_nil _ _ _ _⟩ (fun t h => by cases h) (by simp))
  simp only [List.length_nil] at HP
  rw [show List.flatMap lineN [] = [] from rfl, show mkS [] = ⟨#[]⟩ from rfl] at HP
  go_enter Tryz.func29, Tryz.ntmps29
  go_wp2_with fail
  refine HC.out.mono ?_
  rintro e w1 ⟨rfl, rfl⟩
  go_wp2_with fail
  refine HP.out.mono ?_
  rintro e w1 ⟨rfl, hb⟩
  have HB := Lib.hid hb
  clear hb
  go_wp2
  go_ret
  exact ⟨rfl, HB.out⟩
end Go.Proofs.YtnplommdgfgboaaGreatDoor.StoreNil
/-
  The count of draws never falls: in whatever step of the machine; so behind whatever call.
-/
set_option linter.unusedVariables false
set_option linter.unusedSimpArgs false
namespace Go.Proofs.YtnplommdgfgboaaGreatDoor.MonoD
open Go Go.RowKit

def rw {α : Type} : Result α → World
  | .ok _ w => w
  | .halt _ w => w
theorem ask_mono {α : Type} : ∀ (a : Ask α) (w : World), w.drawn ≤ (w.ask a).2.drawn
  | .done a, w => Nat.le_refl _
  | .ask what range k, w => by
    rw [World.ask]
    split
    · exact ask_mono (k 0) w
    · exact Nat.le_trans (Nat.le_succ _) (ask_mono (k _) { w with drawn := w.drawn + 1 })
theorem sys_mono (w : World) (c : Sys) : w.drawn ≤ (w.sys c).2.drawn := by
  unfold World.sys
  have h := ask_mono (Kernel.perform c w.os) w
  split
  · exact Nat.le_refl _
  · rename_i r os w' _ he
    rw [he] at h
    exact h
theorem setCell_drawn (w : World) (a : Addr) (v : Value) : (w.setCell a v).drawn = w.drawn := rfl
theorem freeze_drawn (w : World) (a : Addr) (n : Nat) : (w.freeze a n).drawn = w.drawn := by
  unfold World.freeze
  split <;> rfl
theorem farStore_drawn {p : Program} {w w' : World} {a : Addr} {v : Value} {b : Bool} {l : List Addr} (h : w.farStore p a v b = .ok (w', l)) : w'.drawn = w.drawn := by
  unfold World.farStore at h
  split at h
  · split at h
    · rename_i r hr
      simp only [Except.ok.injEq] at h
      subst h
      unfold World.viewStore at hr
      simp only [bind, Except.bind, pure, Except.pure] at hr
      repeat' split at hr
      all_goals first | (cases hr; done) | (cases hr; rfl) | skip
    · cases h
  · cases h
theorem run_mono {α : Type} (p : Program) (e : Sem α) : ∀ w : World, w.drawn ≤ (rw (e.run p w)).drawn := by
  induction e with
  | pure a => intro w; exact Nat.le_refl _
  | load m a k ih =>
    intro w
    rw [Sem.run]
    split
    · exact ih _ w
    · split
      · exact ih _ w
      · exact Nat.le_refl _
  | store m a v k ih =>
    intro w
    have key : w.drawn ≤ (rw (match w.cell? a with
      | some _ => if w.frozen? a then Result.halt (.unsupported (.unsafePointer "a write to bytes that a string shares")) w else k.run p (w.setCell a v)
      | none => match w.farStore p a v (m == .atomic) with
        | .ok (w, _) => k.run p w
        | .error h => .halt h w)).drawn := by
      split
      · split
        · exact Nat.le_refl _
        · exact ih (w.setCell a v)
      · split
        · rename_i w' l hw
          have := ih w'
          rwa [farStore_drawn hw] at this
        · exact Nat.le_refl _
    cases v <;> first | exact Nat.le_refl _ | exact key
  | new o k ih => intro w; rw [Sem.run]; exact ih _ { w with heap := w.heap.push o }
  | shape r k ih => intro w; rw [Sem.run]; exact ih _ _
  | freeze a n k ih =>
    intro w
    rw [Sem.run]
    have := ih (w.freeze a n)
    rwa [freeze_drawn] at this
  | frozen a k ih => intro w; rw [Sem.run]; exact ih _ _
  | getObj r k ih =>
    intro w
    rw [Sem.run]
    split
    · exact Nat.le_refl _
    · exact ih _ w
    · exact Nat.le_refl _
  | setObj r o k ih =>
    intro w
    rw [Sem.run]
    split
    · exact Nat.le_refl _
    · exact ih { w with heap := w.heap.setIfInBounds r o }
    · exact Nat.le_refl _
  | choose q k ih =>
    intro w
    rw [Sem.run]
    split
    · exact ih _ w
    · exact Nat.le_trans (Nat.le_succ _) (ih _ { w with drawn := w.drawn + 1 })
  | sys c k ih => intro w; rw [Sem.run]; exact Nat.le_trans (sys_mono w c) (ih _ _)
  | program k ih => intro w; rw [Sem.run]; exact ih _ w
  | mark m k ih => intro w; rw [Sem.run]; exact ih w
  | halt h => intro w; exact Nat.le_refl _
theorem runT_mono {α : Type} (p : Program) (e : Sem α) (w : World) (es : Array Event) : w.drawn ≤ (rw (e.runT p w es).1).drawn := by rw [Sem.runT_fst]; exact run_mono p e w
theorem of_run {α : Type} {p : Program} {e : Sem α} {w : World} {r : Result α} (h : e.run p w = r) : w.drawn ≤ (rw r).drawn := h ▸ run_mono p e w
theorem of_runT {α : Type} {p : Program} {e : Sem α} {w : World} {es : Array Event} {x : Result α × Array Event} (h : e.runT p w es = x) : w.drawn ≤ (rw x.1).drawn := h ▸ runT_mono p e w es
/-- A step's world. -/
def gw : GStep → World
  | .go _ w _ => w
  | .comm _ _ _ _ w _ => w
  | .spawn _ _ w _ => w
  | .count _ w _ => w
  | .timer _ _ w _ => w
  | .alone _ _ w _ => w
  | .newcoro _ _ _ w _ => w
  | .coroswitch _ _ _ w _ => w
  | .collect _ w _ => w
  | .watch _ w _ => w
  | .ended _ w _ => w
theorem gw_after (es : Array Event) (s : GStep) : gw (GStep.after es s) = gw s := by cases s <;> rfl
theorem endThrow_w (fr : Frame) (m : String) (w : World) : gw (endThrow fr m w) = w := rfl
theorem endWith_mono (w : World) (fd : Nat) (t : ByteArray) (o : Outcome) : w.drawn ≤ (gw (endWith w fd t o)).drawn := by
  have h := sys_mono w (.write fd t)
  unfold endWith
  generalize w.sys (.write fd t) = x at *
  obtain ⟨r, w'⟩ := x
  dsimp only at *
  repeat' split
  all_goals (first | exact h | (simp_all [gw]; done) | skip)
theorem endPrinting_w (p : Program) (fr : Frame) (v : Value) (w : World) : gw (endPrinting p fr v w) = w := by
  unfold endPrinting
  dsimp only
  split <;> rfl
theorem endFatal_mono (p : Program) (fr : Frame) (callers : List Frame) (dying : Option Dying) (m : String) (w : World) : w.drawn ≤ (gw (endFatal p fr callers dying m w)).drawn := by
  unfold endFatal
  dsimp only
  split
  all_goals first | exact Nat.le_refl _ | (rename_i heq; exact of_run heq) | (rename_i heq _; exact of_run heq)
theorem writeOn_mono (p : Program) (fr : Frame) (d : Dying) (f : Fatal) (w : World) : w.drawn ≤ (gw (writeOn p fr d f w)).drawn := by
  unfold writeOn
  dsimp only
  split
  · exact Nat.le_refl _
  · split
    all_goals first | exact Nat.le_refl _ | (rename_i heq; exact of_runT heq) | (rename_i heq _; exact of_runT heq)
theorem die_mono (p : Program) (fr : Frame) (d : Dying) (w : World) : w.drawn ≤ (gw (die p fr d w)).drawn := by
  unfold die
  split
  · exact writeOn_mono _ _ _ _ _
  · split
    · split
      · exact Nat.le_refl _
      · exact endWith_mono _ _ _ _
    · dsimp only
      split
      · exact Nat.le_refl _
      · split
        all_goals first | exact Nat.le_refl _ | (rename_i heq; exact of_run heq) | (rename_i heq _; exact of_run heq)
      · rename_i t recv name _
        have h := runT_mono p (invoke (.fn (.method name) #[]) #[.iface t recv]) w #[]
        generalize Sem.runT p (invoke (.fn (.method name) #[]) #[.iface t recv]) w #[] = x at *
        obtain ⟨r, es⟩ := x
        dsimp only at h ⊢
        rw [gw_after]
        split
        all_goals first | exact h | exact Nat.le_refl _ | (rw [endPrinting_w]; exact h) | skip
      · exact Nat.le_refl _
theorem doReturn_w (p : Program) (main : Bool) (fr : Frame) (callers : List Frame) (dying : Option Dying) (v : Value) (w : World) : gw (doReturn p main fr callers dying v w) = w := by
  unfold doReturn
  split
  · split <;> rfl
  · split
    · rfl
    · rfl
    · split
      · rfl
      · split <;> rfl
theorem gw_ite {c : Prop} [Decidable c] {a b : GStep} {w : World} (ha : w.drawn ≤ (gw a).drawn) (hb : w.drawn ≤ (gw b).drawn) : w.drawn ≤ (gw (if c then a else b)).drawn := by split <;> assumption
theorem callDeferred_mono (p : Program) (fr : Frame) (callers : List Frame) (dying : Option Dying) (d : Deferred) (w : World) : w.drawn ≤ (gw (callDeferred p fr callers dying d w)).drawn := by
  unfold callDeferred
  refine gw_ite (Nat.le_refl _) ?_
  · dsimp only
    have h := runT_mono p (invoke d.target d.args) w #[]
    generalize Sem.runT p (invoke d.target d.args) w #[] = x at *
    obtain ⟨r, es⟩ := x
    dsimp only at h ⊢
    rw [gw_after]
    split
    all_goals first
      | exact h
      | exact Nat.le_trans h (endFatal_mono _ _ _ _ _ _)
      | (split <;> exact h)
      | skip
theorem unwind_mono (p : Program) (main : Bool) (fr : Frame) (callers : List Frame) (dying : Option Dying) (w : World) : w.drawn ≤ (gw (unwind p main fr callers dying w)).drawn := by
  unfold unwind
  split
  · rename_i block _ ds _
    have h := runT_mono p (Instr.takeDeferred block) w #[]
    generalize Sem.runT p (Instr.takeDeferred block) w #[] = x at *
    obtain ⟨r, es⟩ := x
    dsimp only at h ⊢
    rw [gw_after]
    split <;> exact h
  · exact callDeferred_mono _ _ _ _ _ _
  · split
    · exact Nat.le_refl _
    · split
      · exact Nat.le_refl _
      · split
        · exact Nat.le_refl _
        · split
          · split
            · exact Nat.le_refl _
            · split
              all_goals first | exact Nat.le_refl _ | (rename_i heq; exact of_run heq) | (rename_i heq _; exact of_run heq)
          · split
            · rw [endPrinting_w]; exact Nat.le_refl _
            · exact Nat.le_refl _
    · split
      · rw [doReturn_w]; exact Nat.le_refl _
      · rename_i fn _
        have h := runT_mono p (results fn fr.tmps) w #[]
        generalize Sem.runT p (results fn fr.tmps) w #[] = x at *
        obtain ⟨r, es⟩ := x
        dsimp only at h ⊢
        rw [gw_after]
        split
        · rw [doReturn_w]; exact h
        · exact h
        · exact h
theorem early_mono (p : Program) (fr : Frame) (callers : List Frame) (dying : Option Dying) (g : Nat) (w : World) : w.drawn ≤ (gw (early p fr callers dying g w)).drawn := by
  have notYet : ∀ w' : World, w.drawn ≤ w'.drawn → w.drawn ≤ (gw (match w'.heap[g]? with
    | some (.pending c elem) => GStep.go { frame := fr, callers, status := .running, dying } { w' with heap := w'.heap.setIfInBounds g (.cells c elem) }
    | _ => .ended (.stuck "early: the variable does not wait" (fr.pos p)) w')).drawn := fun w' h => by split <;> exact h
  unfold early
  dsimp only
  split
  · exact notYet w (Nat.le_refl _)
  · split
    · exact Nat.le_refl _
    · split
      · exact notYet w (Nat.le_refl _)
      · split
        · exact notYet w (Nat.le_refl _)
        · split
          · exact Nat.le_refl _
          · exact Nat.le_refl _
          · exact Nat.le_refl _
          · exact notYet w (Nat.le_refl _)
          · split
            · exact Nat.le_refl _
            · split
              · exact notYet w (Nat.le_refl _)
              · split
                · rename_i heq; exact notYet _ (of_run heq)
                · rename_i heq; exact of_run heq
                · rename_i heq; exact of_run heq
theorem apply_mono (p : Program) (fr : Frame) (callers : List Frame) (dying : Option Dying) (s : Sem Next) (w : World) : w.drawn ≤ (gw (stepG.apply p true fr callers dying s w)).drawn := by
  unfold stepG.apply
  have h := runT_mono p s w #[]
  rw [if_pos rfl]
  generalize Sem.runT p s w #[] = x at *
  obtain ⟨r, es⟩ := x
  dsimp only at h ⊢
  rw [gw_after]
  split
  all_goals first
    | exact h
    | exact Nat.le_trans h (endFatal_mono _ _ _ _ _ _)
    | exact Nat.le_trans h (early_mono _ _ _ _ _ _)
    | (refine gw_ite ?_ ?_ <;> exact h)
    | (split <;> exact h)
    | skip
theorem oper_mono (p : Program) (fr : Frame) (callers : List Frame) (dying : Option Dying) (w : World) : w.drawn ≤ (gw (stepG.oper p true fr callers dying w)).drawn := by
  unfold stepG.oper
  split
  · exact Nat.le_refl _
  · split <;> exact apply_mono _ _ _ _ _ _
theorem elim_mono {α : Type} (o : Option α) (a : GStep) (f : α → GStep) (w : World) (ha : w.drawn ≤ (gw a).drawn) (hf : ∀ x, w.drawn ≤ (gw (f x)).drawn) : w.drawn ≤ (gw (o.elim a f)).drawn := by
  cases o
  · exact ha
  · exact hf _
theorem exec_mono (p : Program) (main : Bool) (fr : Frame) (callers : List Frame) (dying : Option Dying) (w : World) : w.drawn ≤ (gw (stepG.exec p main true fr callers dying w)).drawn := by
  unfold stepG.exec
  dsimp only
  split
  · split
    · first | exact Nat.le_refl _ | exact gw_ite (Nat.le_refl _) (Nat.le_refl _)
    · rename_i lo _
      have h := runT_mono p (Instr.endRound lo none) w #[]
      generalize Sem.runT p (Instr.endRound lo none) w #[] = x at *
      obtain ⟨r, es⟩ := x
      dsimp only at h ⊢
      rw [gw_after]
      split
      · rw [doReturn_w]; exact h
      · exact h
  · split
    · first | exact Nat.le_refl _ | exact gw_ite (Nat.le_refl _) (Nat.le_refl _)
    · rename_i lo _
      have h := runT_mono p (Instr.endRound lo (some .ret)) w #[]
      generalize Sem.runT p (Instr.endRound lo (some .ret)) w #[] = x at *
      obtain ⟨r, es⟩ := x
      dsimp only at h ⊢
      rw [gw_after]
      split
      · rw [doReturn_w]; exact h
      · exact h
  · exact Nat.le_refl _
  · exact Nat.le_refl _
  · exact Nat.le_refl _
  · exact Nat.le_refl _
  · exact Nat.le_refl _
  · split <;> exact Nat.le_refl _
  · exact Nat.le_refl _
  · exact Nat.le_refl _
  · exact Nat.le_refl _
  · exact Nat.le_refl _
  · rename_i id k _
    refine elim_mono _ _ _ _ ?_ (fun _ => Nat.le_refl _)
    split
    · first | exact Nat.le_refl _ | exact gw_ite (Nat.le_refl _) (Nat.le_refl _)
    · rename_i lo _
      have h := runT_mono p (Instr.endRound lo (some (.exit id))) w #[]
      generalize Sem.runT p (Instr.endRound lo (some (.exit id))) w #[] = x at *
      obtain ⟨r, es⟩ := x
      dsimp only at h ⊢
      rw [gw_after]
      split
      · rw [doReturn_w]; exact h
      · exact h
  · rename_i lab k _
    refine elim_mono _ _ _ _ ?_ (fun _ => Nat.le_refl _)
    split
    · first | exact Nat.le_refl _ | exact gw_ite (Nat.le_refl _) (Nat.le_refl _)
    · rename_i lo _
      have h := runT_mono p (Instr.endRound lo (some (.goto lab))) w #[]
      generalize Sem.runT p (Instr.endRound lo (some (.goto lab))) w #[] = x at *
      obtain ⟨r, es⟩ := x
      dsimp only at h ⊢
      rw [gw_after]
      split
      · rw [doReturn_w]; exact h
      · exact h
  · rename_i f params assign body k _
    have h := runT_mono p (Instr.enterLoop fr.fn fr.tmps params assign body fr.roundOf) w #[]
    generalize Sem.runT p (Instr.enterLoop fr.fn fr.tmps params assign body fr.roundOf) w #[] = x at *
    obtain ⟨r, es⟩ := x
    dsimp only at h ⊢
    rw [gw_after]
    split
    · exact Nat.le_trans h (apply_mono _ _ _ _ _ _)
    · exact h
  · exact Nat.le_refl _
  · exact apply_mono _ _ _ _ _ _
  · rename_i l k _
    have h := runT_mono p (Instr.endLoop l) w #[]
    generalize Sem.runT p (Instr.endLoop l) w #[] = x at *
    obtain ⟨r, es⟩ := x
    dsimp only at h ⊢
    rw [gw_after]
    split <;> exact h
  · exact Nat.le_refl _
  · exact apply_mono _ _ _ _ _ _
  · exact elim_mono _ _ _ _ (Nat.le_refl _) (fun _ => apply_mono _ _ _ _ _ _)
  · refine gw_ite (Nat.le_refl _) ?_
    split
    · rename_i heq; exact of_run heq
    · rename_i heq; exact of_run heq
  · exact Nat.le_refl _
  · exact gw_ite (oper_mono _ _ _ _ _) (Nat.le_refl _)
theorem stepG_mono (p : Program) (main : Bool) (g : Goroutine) (w : World) : w.drawn ≤ (gw (stepG p main g w)).drawn := by
  unfold stepG
  split
  split
  · exact die_mono _ _ _ _
  · exact exec_mono _ _ _ _ _ _
  · exact unwind_mono _ _ _ _ _ _
/-- A machine's next state. -/
def SM (w : World) : Stepped → Prop
  | .next m => w.drawn ≤ m.world.drawn
  | .ended _ _ => True
theorem SM.le {w w' : World} {s : Stepped} (h : w.drawn ≤ w'.drawn) (hs : SM w' s) : SM w s := by
  cases s
  · exact Nat.le_trans h hs
  · trivial
theorem poller_drawn {rest : Rest} {cases : Array CommCase} {w w' : World} (h : waitingAt rest cases w = some w') : w'.drawn = w.drawn := by
  unfold waitingAt at h
  split at h
  · split at h
    · cases h; rfl
    · cases h
  · cases h; rfl
theorem comm_mono (p : Program) (rest : Rest) (gs : Array Goroutine) (i : Nat) (g : Goroutine) (cases : Array CommCase) (blocking : Bool) (shape : CommShape) (w : World) : SM w (communicate p rest gs i g cases blocking shape w).1 := by
  unfold communicate
  dsimp only
  split
  · trivial
  · split
    · split
      · split
        · rename_i heq
          exact Nat.le_of_eq (poller_drawn heq).symm
        · trivial
      · exact Nat.le_refl _
    · split
      · trivial
      · rename_i k c way w' heq
        have h1 := of_run heq
        refine SM.le (w' := w') h1 ?_
        split
        · split
          · rename_i heq2
            exact of_run heq2
          · trivial
        · exact Nat.le_refl _
        · exact Nat.le_refl _
        · split
          · exact Nat.le_refl _
          · split
            · rename_i heq2
              exact of_run heq2
            · trivial
        · exact Nat.le_refl _
        · exact Nat.le_refl _
        · trivial
theorem look_mono (p : Program) (gs : Array Goroutine) (rest : Rest) (w : World) : SM w (look p gs rest w) := by
  unfold look
  split
  · dsimp only
    split
    · trivial
    · split
      · trivial
      · split
        · rename_i heq
          exact of_run heq
        · trivial
        · trivial
  · trivial
theorem drain_w (w : World) (c : Nat) : (drain w c).2.drawn = w.drawn := by
  unfold drain
  split <;> rfl
theorem retime_w (m : Machine) (k : Nat) (t : Timer) (a b : Nat) : (retime m k t a b).2.world.drawn = m.world.drawn := by
  unfold retime
  dsimp only [Machine.withTimers]
  split
  · exact drain_w _ _
  · rfl
theorem timer_w {m m' : Machine} {op : TimerOp} {v : Value} (h : timerOp m op = .ok (v, m')) : m'.world.drawn = m.world.drawn := by
  have nm : ∀ {m0 : Machine} {var : Addr} {f : Nat → Timer → Value × Machine}, (∀ k t, (f k t).2.world.drawn = m.world.drawn) → timerOp.named m0 var f = .ok (v, m') → m'.world.drawn = m.world.drawn := by
    intro m0 var f hf h
    unfold timerOp.named at h
    split at h
    · simp only [Except.ok.injEq] at h
      have e := congrArg (fun x : Value × Machine => x.2.world.drawn) h
      exact e.symm.trans (hf _ _)
    · cases h
  unfold timerOp at h
  split at h
  · split at h
    · cases h; rfl
    · split at h
      · split at h
        · cases h
        · cases h; rfl
      · cases h
  · exact nm (fun k t => retime_w _ _ _ _ _) h
  · split at h
    · rename_i m2 heq
      have h2 : m2.world.drawn = m.world.drawn := by
        unfold timerOp.opened at heq
        split at heq
        · split at heq
          · cases heq; rfl
          · cases heq
        · cases heq; rfl
      exact nm (fun k t => (retime_w _ _ _ _ _).trans h2) h
    · cases h
  · cases h; rfl
theorem serve_mono (p : Program) (m : Machine) (k : Nat) : SM m.world (serve p m k) := by
  unfold serve
  split
  · trivial
  · exact Nat.le_refl _
  · dsimp only
    split
    · trivial
    · exact Nat.le_refl _
theorem runT_machine (p : Program) (m : Machine) (i : Nat) : SM m.world (runT p m i).1 := by
  unfold runT
  have hs := fun g => stepG_mono p (i == 0) g m.world
  dsimp only
  generalize (m.gs.swapAt! i { (default : Goroutine) with status := .finished }) = x
  obtain ⟨g, gs⟩ := x
  dsimp only
  have h := hs g
  generalize stepG p (i == 0) g m.world = s at *
  cases s with
  | ended o w es => trivial
  | comm g cases blocking shape w es => exact SM.le h (comm_mono _ _ _ _ _ _ _ _ _)
  | go g w es => exact h
  | spawn g child w es => exact h
  | count g w es =>
    dsimp only
    split
    · trivial
    · exact h
  | alone g on w es => exact h
  | collect g w es => exact SM.le h (look_mono _ _ _ _)
  | watch g w es => exact h
  | newcoro g c d w es => exact h
  | coroswitch g c exit w es =>
    dsimp only
    split
    · exact h
    · exact h
    · trivial
  | timer g op w es =>
    dsimp only
    split
    · rename_i heq
      exact Nat.le_trans h (Nat.le_of_eq (timer_w heq).symm)
    · exact h
    · trivial
    · trivial
/-- A machine's move. -/
def MM (w : World) : Move → Prop
  | .goroutine m _ => w.drawn ≤ m.world.drawn
  | .machine s _ => SM w s
theorem MM.le {w w' : World} {s : Move} (h : w.drawn ≤ w'.drawn) (hs : MM w' s) : MM w s := by
  cases s
  · exact Nat.le_trans h hs
  · exact SM.le h hs
theorem pick_mono (p : Program) (rs : List Nat) (m : Machine) : MM m.world (match (choose (.sched rs.length)).run p m.world with
      | .halt _ w => .machine (.ended (.stuck "sched" "") w)
      | .ok k world =>
        if rs.length ≤ 1 then .goroutine { m with world } (rs.getD k 0) else
        match (choose (.extern "sched.slice" 65536)).run p world with
        | .halt _ w => .machine (.ended (.stuck "sched.slice" "") w)
        | .ok n world => .goroutine { m with world, rest := { m.rest with slice := if n = 0 then none else some (rs.getD k 0, n) } } (rs.getD k 0)) := by
  split
  · trivial
  · rename_i k w1 heq
    split
    · exact of_run heq
    · split
      · trivial
      · rename_i n w2 heq2
        exact Nat.le_trans (of_run heq) (of_run heq2)
theorem end_mono (x : GStep) (w : World) : MM w (match x with
          | .ended o w _ => .machine (.ended o w)
          | _ => .machine (.ended (.stuck "" "") default)) := by
  split <;> trivial
theorem askOn_mono (p : Program) (m : Machine) : MM m.world (askOn p m) := by
  unfold askOn
  dsimp only
  split
  · trivial
  · rename_i k w1 heq
    refine MM.le (w' := w1) (of_run heq) ?_
    split
    · exact serve_mono p { m with world := w1 } _
    · split
      · split
        · exact Nat.le_refl _
        · split
          · exact Nat.le_refl _
          · exact end_mono _ _
      · split
        · exact pick_mono p _ { m with world := w1 }
        · split
          · trivial
          · rename_i w2 heq2
            exact MM.le (w' := w2) (of_run heq2) (pick_mono p _ { m with world := w2 })
          · rename_i w2 heq2
            exact of_run heq2
          · rename_i j w2 heq2
            exact MM.le (w' := w2) (of_run heq2) (pick_mono p _ (({ m with world := w2 } : Machine).advanceTo _))
theorem ask_machine (p : Program) (m : Machine) : MM m.world (ask p m) := by
  unfold ask
  split
  · split
    · trivial
    · rename_i w1 heq
      split
      · rename_i m2 heq2
        have h := look_mono p m.gs m.rest w1
        rw [heq2] at h
        exact MM.le (Nat.le_trans (of_run heq) h) (askOn_mono p m2)
      · rename_i hne
        have h := look_mono p m.gs m.rest w1
        exact SM.le (of_run heq) h
    · rename_i w1 hne heq
      exact MM.le (w' := w1) (of_run heq) (askOn_mono p { m with world := w1 })
  · exact askOn_mono p m
theorem move_mono (p : Program) (m : Machine) : MM m.world (move p m) := by
  unfold move
  split
  · split
    · exact Nat.le_refl _
    · trivial
  · split
    · split
      · exact Nat.le_refl _
      · exact ask_machine p _
    · exact ask_machine p m
theorem step_mono (p : Program) (m : Machine) : SM m.world (step p m) := by
  unfold step stepT
  have h := move_mono p m
  generalize move p m = x at *
  cases x with
  | goroutine m' i => exact SM.le h (runT_machine p m' i)
  | machine s ops => exact h
theorem runN_mono (p : Program) : ∀ (n : Nat) (m : Machine), SM m.world (runN p n m)
  | 0, m => Nat.le_refl _
  | n + 1, m => by
    have h := step_mono p m
    unfold runN
    generalize step p m = x at *
    cases x with
    | next m' => exact SM.le h (runN_mono p n m')
    | ended o w => trivial
/-- Behind a call the count of draws has not fallen. -/
theorem calls_drawn {P : Program} {f : FuncId} {args : Array Value} {w : World} {v : Value} {R : World → Prop} (h : Calls P f args w fun e w' => e = .returned v ∧ R w') :
    Calls P f args w fun e w' => e = .returned v ∧ R w' ∧ w.drawn ≤ w'.drawn := by
  intro cs
  obtain ⟨e, w', fr, ⟨rfl, hR⟩, hc, hf, hl⟩ := h cs
  refine ⟨_, w', fr, ⟨rfl, hR, ?_⟩, hc, hf, hl⟩
  obtain ⟨n, hn⟩ : Steps P _ _ := hc
  have := runN_mono P n (lone (Frame.enter P f args .normal) cs w)
  rw [hn] at this
  exact this
/-- What lies below is as it was: some draws, and blocks behind. -/
theorem grown_of_below {w w' : World} (h : Below w.heap.size w w') (hd : w.drawn ≤ w'.drawn) : ∃ q os', w' = Sort.grow (w.drewN q) os' := by
  refine ⟨w'.drawn - w.drawn, w'.heap.extract w.heap.size w'.heap.size, ?_⟩
  obtain ⟨heap', tape', drawn', os', output'⟩ := w'
  obtain ⟨heap, tape, drawn, os, output⟩ := w
  have e1 : os' = os := h.os
  have e2 : tape' = tape := h.tape
  have e3 : output' = output := h.output
  have hs : heap.size ≤ heap'.size := h.size
  have hb : ∀ k, k < heap.size → heap'[k]? = heap[k]? := h.block
  have hd' : drawn ≤ drawn' := hd
  subst e1 e2 e3
  have e4 : heap' = heap ++ heap'.extract heap.size heap'.size := by
    apply Array.ext_getElem?
    intro i
    by_cases hi : i < heap.size
    · rw [Array.getElem?_append_left hi]
      exact hb i hi
    · rw [Array.getElem?_append_right (by omega), Array.getElem?_extract]
      by_cases hj : i < heap'.size
      · rw [if_pos (by omega), show heap.size + (i - heap.size) = i by omega]
      · rw [if_neg (by omega), Array.getElem?_eq_none (by omega)]
  have e5 : drawn' = drawn + (drawn' - drawn) := by omega
  show (⟨heap', tape', drawn', os', output'⟩ : World) = ⟨heap ++ heap'.extract heap.size heap'.size, tape', drawn + (drawn' - drawn), os', output'⟩
  rw [← e4, ← e5]
theorem calls_grown {P : Program} {f : FuncId} {args : Array Value} {w : World} {v : Value} (h : Calls P f args w fun e w' => e = .returned v ∧ Below w.heap.size w w') :
    Calls P f args w fun e w' => e = .returned v ∧ ∃ q os', w' = Sort.grow (w.drewN q) os' :=
  (calls_drawn h).mono fun e w' ⟨he, hb, hd⟩ => ⟨he, grown_of_below hb hd⟩
end Go.Proofs.YtnplommdgfgboaaGreatDoor.MonoD
/-
  slices.SortFunc at rows of structs that the call has made: the library's contract in words of rows.
-/
set_option linter.unusedVariables false
set_option linter.unusedSectionVars false
set_option linter.unusedSimpArgs false
namespace Go.Proofs.YtnplommdgfgboaaGreatDoor.SortRow
open Go Go.RowKit Go.Sort Go.Shelf Go.Proofs Go.Proofs.YtnplommdgfgboaaGreatDoor.B

section
variable {α : Type} {enc : α → List Value} {k : Nat}
theorem flatMap_get (hk : ∀ x, (enc x).length = k) : ∀ (l : List α) (i j : Nat) (x : α), l[i]? = some x → j < k → (l.flatMap enc)[i * k + j]? = (enc x)[j]?
  | [], i, j, x, h, _ => by simp at h
  | y :: l, 0, j, x, h, hj => by
    simp at h
    subst h
    rw [List.flatMap_cons, Nat.zero_mul, Nat.zero_add, List.getElem?_append_left (by rw [hk]; exact hj)]
  | y :: l, i + 1, j, x, h, hj => by
    simp at h
    rw [List.flatMap_cons, List.getElem?_append_right (by rw [hk, Nat.add_mul]; omega), hk, ← flatMap_get hk l i j x h hj]
    congr 1
    rw [Nat.add_mul]
    omega
theorem flatMap_len (hk : ∀ x, (enc x).length = k) : ∀ l : List α, (l.flatMap enc).length = l.length * k
  | [] => by simp
  | x :: l => by rw [List.flatMap_cons, List.length_append, hk, flatMap_len hk l, List.length_cons, Nat.add_mul, Nat.one_mul, Nat.add_comm]
variable [Inhabited α]
theorem get_bang {β : Type} [Inhabited β] (a : Array β) (i : Nat) (h : i < a.size) : a[i]? = some a[i]! := by
  rw [Array.getElem?_eq_getElem h, getElem!_pos a i h]
theorem lget_bang {β : Type} [Inhabited β] (a : List β) (i : Nat) (h : i < a.length) : a[i]? = some a[i]! := by
  rw [List.getElem?_eq_getElem h, getElem!_pos a i h]
theorem flatK_list (hk : ∀ x, (enc x).length = k) (hp : 0 < k) (d : Array α) : (flatK enc k d).toList = d.toList.flatMap enc := by
  apply List.ext_getElem?
  intro t
  by_cases ht : t < d.size * k
  · have h1 : t / k < d.size := Nat.div_lt_of_lt_mul (by rwa [Nat.mul_comm])
    have h2 : t % k < k := Nat.mod_lt _ hp
    have h3 := flatMap_get hk d.toList (t / k) (t % k) d[t / k]! (by rw [Array.getElem?_toList]; exact get_bang d _ h1) h2
    rw [Nat.mul_comm, Nat.div_add_mod] at h3
    rw [h3, Array.getElem?_toList, get_bang _ t (by simpa using ht), get_flatK enc k d t ht, lget_bang _ _ (by rw [hk]; exact h2)]
  · rw [List.getElem?_eq_none (by simp; omega), List.getElem?_eq_none (by rw [flatMap_len hk]; simp; omega)]
variable {e : TypeId} {w : World} {g cap base : Nat} {l : List α}
/-- The row holds. -/
theorem holds_of (hk : ∀ x, (enc x).length = k) (hp : 0 < k) (ho : w.ownsRow base e k (.slice (some ⟨g, 0, none⟩) l.length cap) l.length (l.flatMap enc)) : HoldsK enc k w g 0 l.toArray := by
  intro j hj
  have hj' : j < l.length * k := by simpa using hj
  have hf : (l.flatMap enc)[j]? = some ((flatK enc k l.toArray)[j]!) := by
    have := flatK_list hk hp l.toArray
    rw [← show (flatK enc k l.toArray).toList = l.flatMap enc from this, Array.getElem?_toList, get_bang _ j hj]
  have hc := ho.cells rfl j _ hf
  rw [add_plain] at hc
  refine ⟨by rw [Nat.zero_add]; exact hc, ?_⟩
  rcases ho.2 with ⟨h, _⟩ | ⟨g', cap', cur, h, hg, hh, rest⟩
  · cases h
  · cases h
    unfold World.frozen?
    rw [hh]
    simp
/-- The row behind a sort. -/
theorem row_sorted (hk : ∀ x, (enc x).length = k) (hp : 0 < k) (ho : w.ownsRow base e k (.slice (some ⟨g, 0, none⟩) l.length cap) l.length (l.flatMap enc)) (d' : Array α) (hs : d'.size = l.length) (m : Nat) (os : Array Obj) :
    (sortWorldK enc k w g 0 m d' os).ownsRow base e k (.slice (some ⟨g, 0, none⟩) l.length cap) l.length (d'.toList.flatMap enc) ∧ w.grownBy (sortWorldK enc k w g 0 m d' os) (some g) := by
  rcases ho.2 with ⟨h, _⟩ | ⟨g', cap', cur, h, hg, hh, hnc, hcm, hcs, htake⟩
  · cases h
  cases h
  have hlt : g < w.heap.size := (Array.getElem?_eq_some_iff.1 hh).1
  have hFl : (flatK enc k d').toList = d'.toList.flatMap enc := flatK_list hk hp d'
  have hFs : (flatK enc k d').size = l.length * k := by simp [hs]
  have hblk : (putRowK enc k (Sort.ahead w m) g 0 d').heap[g]? = some (.cells (putCells id 0 (flatK enc k d') cur) e (0, 0)) := by
    unfold putRowK putRow mapBlock
    simp [Array.getElem?_modify, Sort.ahead, hh, onCells]
  have hsz : (putRowK enc k (Sort.ahead w m) g 0 d').heap.size = w.heap.size := by
    unfold putRowK
    rw [size_putRow]
    rfl
  have hother : ∀ j, j ≠ g → (putRowK enc k (Sort.ahead w m) g 0 d').heap[j]? = w.heap[j]? := by
    intro j hj
    unfold putRowK putRow mapBlock
    simp [Array.getElem?_modify, Sort.ahead]
    exact fun h => absurd h.symm hj
  have hcl : l.length * k ≤ cur.size := by
    have h1 := congrArg List.length htake
    rw [List.length_take, flatMap_len hk] at h1
    have h2 := ho.1
    rw [flatMap_len hk] at h2
    simp at h1
    omega
  refine ⟨⟨by rw [flatMap_len hk]; simp [hs], .inr ⟨g, cap, putCells id 0 (flatK enc k d') cur, rfl, hg, ?_, hnc, hcm, by simpa [putCells] using hcs, ?_⟩⟩, ⟨rfl, rfl, rfl, ?_, ?_⟩⟩
  · unfold sortWorldK
    rw [heap_grow_old _ _ (by rw [hsz]; exact hlt)]
    exact hblk
  · rw [← hFl]
    apply List.ext_getElem?
    intro t
    rw [List.getElem?_take]
    by_cases ht : t < l.length * k
    · rw [if_pos (by simpa [hFs] using ht), Array.getElem?_toList, Array.getElem?_toList]
      unfold putCells
      rw [Array.getElem?_mapIdx, get_bang cur t (by omega), Option.map_some, if_pos ⟨Nat.zero_le _, by rw [hFs]; omega⟩, Nat.sub_zero, get_bang (flatK enc k d') t (by rw [hFs]; exact ht)]
      rfl
    · rw [if_neg (by simpa [hFs] using ht), List.getElem?_eq_none (by rw [Array.length_toList, hFs]; omega)]
  · unfold sortWorldK
    rw [size_grow, hsz]
    exact Nat.le_add_right _ _
  · intro j hj hne
    have : j ≠ g := fun e => hne (by rw [e])
    unfold sortWorldK
    rw [heap_grow_old _ _ (by rw [hsz]; exact hj)]
    exact hother j this
/-- A comparison that keeps what lies below, paid as the sort asks. -/
theorem cmp_lays {P : Program} {f : FuncId} {cf : α → α → Int} (h : ∀ (x y : α) (w : World), Calls P f #[.agg (enc x).toArray, .agg (enc y).toArray] w fun e w' => e = .returned (.int .i64 (cf x y)) ∧ Below w.heap.size w w') (blk off size : Nat) (w : World) : CmpLays P f #[] enc k cf blk off size w :=
  fun m os dk _ x y => by
    have := MonoD.calls_grown (h x y (sortWorldK enc k w blk off m dk os))
    simpa using this
end
end Go.Proofs.YtnplommdgfgboaaGreatDoor.SortRow
/-
  What the program's reader of lines answers.
-/
set_option linter.unusedVariables false
set_option linter.unusedSimpArgs false
namespace Go.Proofs.YtnplommdgfgboaaGreatDoor.Prg
open Go.RowKit Go.Lib Go.Proofs.YtnplommdgfgboaaGreatDoor.B Go.Proofs.YtnplommdgfgboaaGreatDoor.Rd Go.Proofs.YtnplommdgfgboaaGreatDoor.Utf Go.Proofs.YtnplommdgfgboaaGreatDoor.TermPure Go.Proofs.YtnplommdgfgboaaGreatDoor.LinesPure Go.Proofs.YtnplommdgfgboaaGreatDoor.Tx Go.Proofs.YtnplommdgfgboaaGreatDoor.Env Go.Proofs.YtnplommdgfgboaaGreatDoor.Bld

theorem runeLen_calls (r : Int) (w : World) : Calls Tryz.prog 250 #[.int .i32 r] w fun e w' => e = .returned (.int .i64 (Lib.runeLen r)) ∧ w = w' :=
  (Tryz.utf8_RuneLen r w).mono fun e w' ⟨h1, h2⟩ => ⟨h1, h2.symm⟩
theorem validRune_calls (r : Int) (w : World) : Calls Tryz.prog 262 #[.int .i32 r] w fun e w' => e = .returned (.bool (Lib.validRune r)) ∧ w = w' :=
  (Tryz.utf8_ValidRune r w).mono fun e w' ⟨h1, h2⟩ => ⟨h1, h2.symm⟩
theorem next_calls (rb : Nat) (l : List UInt8) (hne : l ≠ []) (w : World) (he : Env w) (h : At w rb l false) :
    Calls Tryz.prog 160 #[.pointer (some ⟨rb, 0, none⟩)] w fun e w' => e = .returned (.int .i32 ((decodeL l).1 : Nat)) ∧ Below w.heap.size w w' := by
  obtain ⟨c0, c1, f0, f1, len⟩ := h
  have HE := Lib.hid he
  have z := mkS_toList l
  have hE : l.isEmpty = false := by cases l with
    | nil => exact absurd rfl hne
    | cons b t => rfl
  have hE' : ¬ l = [] := hne
  clear he
  go_enter Tryz.func160, Tryz.ntmps160
  go_wp2_with fail
  refine (decode_calls l hne _ HE.out).mono ?_
  rintro e w1 ⟨rfl, hb1⟩
  have HB1 := Lib.hid hb1
  clear hb1
  go_wp2
  go_ret
  exact ⟨rfl, HB1.out⟩
theorem next_end_calls (rb : Nat) (l : List UInt8) (bad : Bool) (hb : bad = true ∨ l = []) (w : World) (h : At w rb l bad) :
    Calls Tryz.prog 160 #[.pointer (some ⟨rb, 0, none⟩)] w fun e w' => e = .returned (.int .i32 (-1)) ∧ w = w' := by
  obtain ⟨c0, c1, f0, f1, len⟩ := h
  have z := mkS_toList l
  cases bad with
  | true =>
    clear hb
    go_enter Tryz.func160, Tryz.ntmps160
    go_wp2
    go_ret
    exact ⟨rfl, rfl⟩
  | false =>
    obtain rfl : l = [] := by rcases hb with h | h; cases h; exact h
    clear hb
    go_enter Tryz.func160, Tryz.ntmps160
    go_wp2
    go_ret
    exact ⟨rfl, rfl⟩
theorem rune_len (l : List UInt8) (hne : l ≠ []) (hv : validD l = true) : Lib.runeLen ((decodeL l).1 : Nat) = ((decodeL l).2 : Nat) ∧ (decodeL l).1 ≤ 1114111 ∧ (decodeL l).2 ≤ l.length ∧ validD (l.drop (decodeL l).2) = true := by
  rcases Utf.step l hne hv with ⟨b, t, rfl, hb, hd, ht⟩ | ⟨ch, t, c, hc⟩
  · rw [hd]
    refine ⟨?_, by simp; omega, by simp, by simpa using ht⟩
    unfold Lib.runeLen
    dsimp only
    repeat' split
    all_goals omega
  · rw [hc.dec]
    refine ⟨hc.rlen, hc.le, ?_, ?_⟩
    · rw [hc.eq]; simp
    · have := hc.rest
      rw [hc.eq, List.drop_left]
      exact this
theorem take_end_calls (rb : Nat) (l : List UInt8) (bad : Bool) (hb : bad = true ∨ l = []) (w : World) (h : At w rb l bad) :
    Calls Tryz.prog 234 #[.pointer (some ⟨rb, 0, none⟩)] w fun e w' => e = .returned (.int .i32 (-1)) ∧ Step w w' rb l true := by
  have HA := Lib.hid h
  have HS := Lib.hid (Step.refl h)
  obtain ⟨c0, c1, f0, f1, len⟩ := h
  go_enter Tryz.func234, Tryz.ntmps234
  go_wp2_with fail
  refine (next_end_calls rb l bad hb _ HA.out).mono ?_
  rintro e w1 ⟨rfl, rfl⟩
  go_wp2
  go_ret
  exact ⟨rfl, HS.out.set1 true⟩
set_option maxHeartbeats 1600000 in
theorem take_calls (rb : Nat) (l : List UInt8) (hne : l ≠ []) (hv : validD l = true) (w : World) (he : Env w) (h : At w rb l false) :
    Calls Tryz.prog 234 #[.pointer (some ⟨rb, 0, none⟩)] w fun e w' => e = .returned (.int .i32 ((decodeL l).1 : Nat)) ∧ Step w w' rb (l.drop (decodeL l).2) false := by
  have HA := Lib.hid h
  have HE := Lib.hid he
  have HS := Lib.hid (Step.refl h)
  obtain ⟨r1, r2, r3, r4⟩ := rune_len l hne hv
  have hlen := h.len
  have HX : Hid ((mkS l).extract (decodeL l).2 l.length = mkS (l.drop (decodeL l).2)) := Lib.hid (by rw [mkS_extract, List.take_of_length_le (by simp)])
  have HR := Lib.hid r1
  have HD : Hid ((l.drop (decodeL l).2).length ≤ l.length) := Lib.hid (by simp)
  have HNx := Lib.hid (next_calls rb l hne)
  clear hv he h r1 r4 hne
  generalize (decodeL l).1 = c at *
  generalize (decodeL l).2 = k at *
  have z := mkS_size l
  go_enter Tryz.func234, Tryz.ntmps234
  go_wp2_with fail
  refine (HNx.out _ HE.out HA.out).mono ?_
  rintro e w1 ⟨rfl, hb1⟩
  have HS1 := Lib.hid (HS.out.below hb1)
  have hc1 : ((c : Int) == -1) = false := by rw [beq_eq_false_iff_ne]; omega
  obtain ⟨c0, c1, f0, f1, _⟩ := HS1.out.at'
  clear hb1
  go_wp2_with fail
  go_region_with (go_at_call 250; refine (runeLen_calls _ _).mono ?_; rintro e w2 ⟨rfl, rfl⟩; rw [HR.out])
  all_goals go_wp2
  all_goals go_ret
  all_goals exact ⟨rfl, by rw [HX.out]; exact (HS1.out.set0 (by have := HD.out; omega)).drew⟩
theorem is_calls (rb : Nat) (l p : List UInt8) (w : World) (h : At w rb l false) :
    Calls Tryz.prog 162 #[.pointer (some ⟨rb, 0, none⟩), .string (mkS p)] w fun e w' => e = .returned (.bool (p.isPrefixOf l)) ∧ Step w w' rb (if p.isPrefixOf l then l.drop p.length else l) false := by
  have HS := Lib.hid (Step.refl h)
  have hlen := h.len
  have HC := Lib.hid (cutPrefix_calls l p)
  have HQ : Hid ((if p.isPrefixOf l = true then l.drop p.length else l).length ≤ l.length) := Lib.hid (by split <;> simp)
  have HN : Hid (p.isPrefixOf l = false → (if p.isPrefixOf l = true then l.drop p.length else l) = l) := Lib.hid (fun h => by rw [h]; rfl)
  obtain ⟨c0, c1, f0, f1, _⟩ := h
  generalize (if p.isPrefixOf l = true then l.drop p.length else l) = q at *
  generalize p.isPrefixOf l = b at *
  go_enter Tryz.func162, Tryz.ntmps162
  go_wp2_with fail
  refine (HC.out _).mono ?_
  rintro e w1 ⟨rfl, rfl⟩
  clear HC
  cases b with
  | true =>
    go_wp2
    go_ret
    exact ⟨rfl, HS.out.set0 (by have := HQ.out; omega)⟩
  | false =>
    go_wp2
    go_ret
    exact ⟨rfl, by have hq := HN.out (by first | rfl | trivial); subst hq; exact HS.out⟩
theorem is_bad_calls (rb : Nat) (l p : List UInt8) (w : World) (h : At w rb l true) :
    Calls Tryz.prog 162 #[.pointer (some ⟨rb, 0, none⟩), .string (mkS p)] w fun e w' => e = .returned (.bool false) ∧ w = w' := by
  obtain ⟨c0, c1, f0, f1, _⟩ := h
  go_enter Tryz.func162, Tryz.ntmps162
  go_wp2_with fail
  refine (cutPrefix_calls l p _).mono ?_
  rintro e w1 ⟨rfl, rfl⟩
  generalize (if p.isPrefixOf l = true then l.drop p.length else l) = q
  generalize p.isPrefixOf l = b
  cases b
  all_goals go_wp2
  all_goals go_ret
  all_goals exact ⟨rfl, rfl⟩
theorem must_calls (rb : Nat) (l p : List UInt8) (w : World) (h : At w rb l false) :
    Calls Tryz.prog 132 #[.pointer (some ⟨rb, 0, none⟩), .string (mkS p)] w fun e w' => e = .returned (.tuple #[]) ∧ Step w w' rb (if p.isPrefixOf l then l.drop p.length else l) (!p.isPrefixOf l) := by
  have HC := Lib.hid (is_calls rb l p w h)
  clear h
  generalize (if p.isPrefixOf l = true then l.drop p.length else l) = q at *
  generalize p.isPrefixOf l = b at *
  go_enter Tryz.func132, Tryz.ntmps132
  go_wp2_with fail
  refine HC.out.mono ?_
  rintro e w1 ⟨rfl, hs1⟩
  have HS := Lib.hid hs1
  obtain ⟨c0, c1, f0, f1, _⟩ := hs1.at'
  clear hs1 HC
  cases b
  · go_wp2
    go_end0
    exact ⟨rfl, HS.out.set1 true⟩
  · go_wp2
    go_end0
    exact ⟨rfl, HS.out⟩
theorem must_bad_calls (rb : Nat) (l p : List UInt8) (w : World) (h : At w rb l true) :
    Calls Tryz.prog 132 #[.pointer (some ⟨rb, 0, none⟩), .string (mkS p)] w fun e w' => e = .returned (.tuple #[]) ∧ Step w w' rb l true := by
  have HA := Lib.hid h
  have HS := Lib.hid (Step.refl h)
  obtain ⟨c0, c1, f0, f1, _⟩ := h
  go_enter Tryz.func132, Tryz.ntmps132
  go_wp2_with fail
  refine (is_bad_calls rb l p _ HA.out).mono ?_
  rintro e w1 ⟨rfl, rfl⟩
  go_wp2
  go_end0
  exact ⟨rfl, HS.out.set1 true⟩
theorem blanks_eq (l : List UInt8) : l.dropWhile (([32, 9] : List UInt8).contains ·) = blanks l := by
  unfold blanks
  congr 1
  funext b
  unfold LinesPure.blank
  show (b == 32 || (b == 9 || false)) = _
  rw [Bool.or_false]
theorem pblanks_calls (rb : Nat) (l : List UInt8) (w : World) (h : At w rb l false) :
    Calls Tryz.prog 129 #[.pointer (some ⟨rb, 0, none⟩)] w fun e w' => e = .returned (.tuple #[]) ∧ Step w w' rb (blanks l) false := by
  have HS := Lib.hid (Step.refl h)
  have hlen := h.len
  have hc := fun w => trimLeft_calls l [32, 9] (by decide) (by decide) w
  rw [blanks_eq] at hc
  have HC := Lib.hid hc
  have hql : (blanks l).length ≤ l.length := List.Sublist.length_le (List.dropWhile_sublist _)
  obtain ⟨c0, c1, f0, f1, _⟩ := h
  clear hc
  generalize blanks l = q at *
  go_enter Tryz.func129, Tryz.ntmps129
  go_wp2_with fail
  refine (HC.out _).mono ?_
  rintro e w1 ⟨rfl, hb1⟩
  have HS1 := Lib.hid (HS.out.below hb1)
  obtain ⟨c0, c1, f0, f1, _⟩ := HS1.out.at'
  clear hb1 HC
  go_wp2
  go_end0
  exact ⟨rfl, HS1.out.set0 (by omega)⟩
theorem pblanks_bad_calls (rb : Nat) (l : List UInt8) (w : World) (h : At w rb l true) :
    Calls Tryz.prog 129 #[.pointer (some ⟨rb, 0, none⟩)] w fun e w' => e = .returned (.tuple #[]) ∧ w = w' := by
  obtain ⟨c0, c1, f0, f1, _⟩ := h
  go_enter Tryz.func129, Tryz.ntmps129
  go_wp2
  go_end0
  exact ⟨rfl, rfl⟩
theorem over_calls (rb : Nat) (l : List UInt8) (bad : Bool) (w : World) (h : At w rb l bad) :
    Calls Tryz.prog 130 #[.pointer (some ⟨rb, 0, none⟩)] w fun e w' => e = .returned (.bool (!bad && over l)) ∧ w = w' := by
  obtain ⟨c0, c1, f0, f1, _⟩ := h
  cases bad with
  | true =>
    go_enter Tryz.func130, Tryz.ntmps130
    go_wp2
    go_ret
    exact ⟨rfl, rfl⟩
  | false =>
    cases l with
    | nil =>
      have z := mkS_toList []
      go_enter Tryz.func130, Tryz.ntmps130
      go_wp2
      go_ret
      exact ⟨rfl, rfl⟩
    | cons b t =>
      have z1 : (mkS (b :: t)).toList = b :: t := mkS_toList _
      have z := mkS_size (b :: t)
      have hk : 0 < (mkS (b :: t)).size := by rw [z]; simp
      have hg : (mkS (b :: t))[0]'hk = b := rfl
      have hE : (b :: t).isEmpty = false := rfl
      have hE' : ¬ (b :: t) = [] := by simp
      have zl : 0 < (b :: t).length := by simp
      have HO : Hid (over (b :: t) = ((b.toNat : Int) == 35)) := Lib.hid (by
        rw [over]
        simp [List.isPrefixOf]
        rw [Bool.eq_iff_iff, beq_iff_eq, beq_iff_eq]
        constructor
        · rintro rfl; rfl
        · intro h; exact UInt8.toNat_inj.1 (by show 35 = b.toNat; omega))
      generalize (b :: t : List UInt8) = L at *
      obtain ⟨q, hq⟩ : ∃ q : Bool, ((b.toNat : Int) == 35) = q := ⟨_, rfl⟩
      rw [hq] at HO
      go_enter Tryz.func130, Tryz.ntmps130
      go_wp2
      go_ret
      exact ⟨ret_bool (by rw [HO.out]; rfl), rfl⟩
/-- A digit of a rune. -/
def digI (c : Int) : Int := if 48 ≤ c ∧ c ≤ 57 then c - 48 else if 97 ≤ c ∧ c ≤ 102 then c - 87 else if 65 ≤ c ∧ c ≤ 70 then c - 55 else -1
theorem digit_calls (c : Int) (h0 : -1 ≤ c) (h1 : c ≤ 1114111) (w : World) :
    Calls Tryz.prog 263 #[.int .i32 c] w fun e w' => e = .returned (.int .i32 (digI c)) ∧ w = w' := by
  have HD : Hid (digI c = if 48 ≤ c ∧ c ≤ 57 then c - 48 else if 97 ≤ c ∧ c ≤ 102 then c - 87 else if 65 ≤ c ∧ c ≤ 70 then c - 55 else -1) := Lib.hid rfl
  go_enter Tryz.func263, Tryz.ntmps263
  go_wp2
  all_goals go_ret
  all_goals exact ⟨ret_int (by rw [HD.out]; repeat' split; all_goals omega), rfl⟩
theorem plain_calls (c : Nat) (h1 : c ≤ 1114111) (w : World) :
    Calls Tryz.prog 164 #[.int .i32 (c : Int)] w fun e w' => e = .returned (.bool (alnum c)) ∧ w = w' := by
  have HD : Hid (alnum c = true ↔ (97 ≤ c ∧ c ≤ 122) ∨ (65 ≤ c ∧ c ≤ 90) ∨ (48 ≤ c ∧ c ≤ 57)) := Lib.hid (by unfold alnum; simp [or_assoc])
  go_enter Tryz.func164, Tryz.ntmps164
  go_wp2
  all_goals go_ret
  all_goals exact ⟨ret_bool (by rw [Bool.eq_iff_iff, HD.out]; simp; omega), rfl⟩
end Go.Proofs.YtnplommdgfgboaaGreatDoor.Prg
/-
  What the program's reader of lines answers: escapes.
-/
set_option linter.unusedVariables false
set_option linter.unusedSimpArgs false
namespace Go.Proofs.YtnplommdgfgboaaGreatDoor.Prg
open Go.RowKit Go.Lib Go.Proofs.YtnplommdgfgboaaGreatDoor.B Go.Proofs.YtnplommdgfgboaaGreatDoor.Rd Go.Proofs.YtnplommdgfgboaaGreatDoor.Utf Go.Proofs.YtnplommdgfgboaaGreatDoor.TermPure Go.Proofs.YtnplommdgfgboaaGreatDoor.LinesPure Go.Proofs.YtnplommdgfgboaaGreatDoor.Tx Go.Proofs.YtnplommdgfgboaaGreatDoor.Env Go.Proofs.YtnplommdgfgboaaGreatDoor.Bld

theorem hexGo_ge : ∀ (n v : Nat) (l : List UInt8) (x : Nat) (r : List UInt8), hexGo n v l = some (x, r) → v ≤ x
  | 0, v, l, x, r, h => by rw [hexGo] at h; cases h; exact Nat.le_refl _
  | n + 1, v, [], x, r, h => by rw [hexGo] at h; cases h
  | n + 1, v, b :: l, x, r, h => by
    rw [hexGo] at h
    cases hb : hexV b with
    | none => rw [hb] at h; cases h
    | some d =>
      rw [hb] at h
      have := hexGo_ge n _ l x r h
      omega
theorem rune_big (n v : Nat) (l : List UInt8) (hv : 1114111 < v) : rune (hexGo n v l) = none := by
  cases h : hexGo n v l with
  | none => rfl
  | some p =>
    obtain ⟨x, r⟩ := p
    have := hexGo_ge n v l x r h
    rw [rune, if_neg]
    unfold Lib.validRune
    rw [decide_eq_true_iff]
    omega
theorem hexV_high (b : UInt8) (h : 128 ≤ b.toNat) : hexV b = none := by rw [hexV, if_neg (by omega), if_neg (by omega), if_neg (by omega)]
theorem dig_step (q : List UInt8) (hne : q ≠ []) (hv : validD q = true) (m v : Nat) :
    (digI ((decodeL q).1 : Nat) = -1 ∧ hexGo (m + 1) v q = none) ∨ (∃ d : Nat, d ≤ 15 ∧ digI ((decodeL q).1 : Nat) = (d : Int) ∧ hexGo (m + 1) v q = hexGo m (v * 16 + d) (q.drop (decodeL q).2)) := by
  rcases Utf.step q hne hv with ⟨b, t, rfl, hb, hd, ht⟩ | ⟨ch, t, c, hc⟩
  · rw [hd]
    dsimp only
    rw [hexGo]
    by_cases d1 : 48 ≤ b.toNat ∧ b.toNat ≤ 57
    · right
      refine ⟨b.toNat - 48, by omega, ?_, ?_⟩
      · rw [digI, if_pos (by omega)]; omega
      · rw [hexV, if_pos d1]; rfl
    · by_cases d2 : 97 ≤ b.toNat ∧ b.toNat ≤ 102
      · right
        refine ⟨b.toNat - 87, by omega, ?_, ?_⟩
        · rw [digI, if_neg (by omega), if_pos (by omega)]; omega
        · rw [hexV, if_neg d1, if_pos d2]; rfl
      · by_cases d3 : 65 ≤ b.toNat ∧ b.toNat ≤ 70
        · right
          refine ⟨b.toNat - 55, by omega, ?_, ?_⟩
          · rw [digI, if_neg (by omega), if_neg (by omega), if_pos (by omega)]; omega
          · rw [hexV, if_neg d1, if_neg d2, if_pos d3]; rfl
        · left
          refine ⟨?_, ?_⟩
          · rw [digI, if_neg (by omega), if_neg (by omega), if_neg (by omega)]
          · rw [hexV, if_neg d1, if_neg d2, if_neg d3]
  · left
    rw [hc.dec]
    have h128 := hc.ge
    refine ⟨?_, ?_⟩
    · rw [digI, if_neg (by dsimp only; omega), if_neg (by dsimp only; omega), if_neg (by dsimp only; omega)]
    · have h2 := hc.two
      obtain ⟨b, ch', rfl⟩ : ∃ b ch', ch = b :: ch' := by cases ch with
        | nil => simp at h2
        | cons b ch' => exact ⟨b, ch', rfl⟩
      have hb := hc.high b (by simp)
      rw [hc.eq, List.cons_append, hexGo, hexV_high b hb]
/-- What a number tells. -/
def NumPost (w : World) (rb : Nat) (r : Option (List UInt8 × List UInt8)) (e : Ending) (w' : World) : Prop := match r with
  | none => ∃ (c : Int) (s : List UInt8), e = .returned (.int .i32 c) ∧ Step w w' rb s true
  | some (o, q) => ∃ v : Nat, e = .returned (.int .i32 (v : Int)) ∧ v ≤ 1114111 ∧ encodeRune (v : Int) = o ∧ Step w w' rb q false ∧ validD q = true
set_option maxRecDepth 100000 in
set_option maxHeartbeats 3200000 in
theorem number_calls (rb : Nat) (l : List UInt8) (n : Nat) (hn : n ≤ 8) (hv : validD l = true) (w : World) (he : Env w) (hrb : lowB ≤ rb) (h : At w rb l false) :
    Calls Tryz.prog 251 #[.pointer (some ⟨rb, 0, none⟩), .int .i64 n] w fun e w' => NumPost w rb (rune (hexGo n 0 l)) e w' := by
  have HS0 := Lib.hid (Step.refl h)
  have HE0 := Lib.hid he
  have HV0 := Lib.hid hv
  clear h he hv
  go_enter Tryz.func251, Tryz.ntmps251
  go_wp2
  go_loopw [5, 8] (fun vx vi wr => ∃ (k v : Nat) (q : List UInt8), k ≤ n ∧ vi = .int .i64 k ∧ vx = .int .i32 v ∧ v ≤ 17825791 ∧ Hid (Step w wr rb q false) ∧ Hid (Env wr) ∧ Hid (validD q = true) ∧ Hid (hexGo n 0 l = hexGo (n - k) v q)) (fun _ vi _ => n - (intOf vi).toNat)
  case atStart => exact ⟨0, 0, l, by omega, rfl, rfl, by omega, HS0, HE0, HV0, Lib.hid (by simp)⟩
  case round =>
    obtain ⟨k, v, q, hk, rfl, rfl, hvb, HS, HE, HV, HG⟩ := hrel
    have hv0 : (0 : Int) ≤ (v : Int) := by omega
    have hv1 : (v : Int) ≤ 17825791 := by omega
    by_cases hlt : k < n
    · have hd : decide (k < n) = true := decide_eq_true hlt
      have ik0 : (0 : Int) ≤ (k : Int) := by omega
      have ik1 : (k : Int) ≤ 7 := by omega
      have hnk : n - k = (n - (k + 1)) + 1 := by omega
      rw [hnk] at HG
      by_cases hne : q = []
      · subst hne
        have HN : Hid (rune (hexGo n 0 l) = none) := Lib.hid (by rw [HG.out]; rfl)
        clear hnk HG
        go_wp2_with fail
        refine (take_end_calls rb [] false (.inr rfl) _ HS.out.at').mono ?_
        rintro e w1 ⟨rfl, hs1⟩
        have HS1 := Lib.hid (HS.out.trans hs1)
        obtain ⟨c0, c1, f0, f1, _⟩ := HS1.out.at'
        clear hs1
        go_wp2_with fail
        refine (digit_calls (-1) (by omega) (by omega) _).mono ?_
        rintro e w2 ⟨rfl, rfl⟩
        rw [show digI (-1) = -1 from rfl]
        go_wp2
        go_ret
        rw [HN.out]
        exact ⟨_, _, rfl, HS1.out.set1 true⟩
      · have hst := dig_step q hne HV.out (n - (k + 1)) v
        obtain ⟨r1, r2, r3, r4⟩ := rune_len q hne HV.out
        have HT := Lib.hid (take_calls rb q hne HV.out)
        have R4 := Lib.hid r4
        have HDg := Lib.hid (fun w => digit_calls ((decodeL q).1 : Nat) (by omega) (by omega) w)
        clear hnk r1 r4 hne
        generalize (decodeL q).1 = c at *
        generalize q.drop (decodeL q).2 = q' at *
        go_wp2_with fail
        refine (HT.out _ HE.out HS.out.at').mono ?_
        rintro e w1 ⟨rfl, hs1⟩
        have HS1 := Lib.hid (HS.out.trans hs1)
        have HE1 := Lib.hid (HE.out.step hs1 hrb)
        obtain ⟨c0, c1, f0, f1, _⟩ := HS1.out.at'
        clear hs1 HT
        go_wp2_with fail
        refine (HDg.out _).mono ?_
        rintro e w2 ⟨rfl, rfl⟩
        rcases hst with ⟨g1, g2⟩ | ⟨d, g1, g2, g3⟩
        · have HN : Hid (rune (hexGo n 0 l) = none) := Lib.hid (by rw [HG.out, g2]; rfl)
          rw [g1]
          clear g1 g2 HG HDg
          go_wp2
          go_ret
          rw [HN.out]
          exact ⟨_, _, rfl, HS1.out.set1 true⟩
        · have HG1 := Lib.hid (HG.out.trans g3)
          rw [g2]
          clear g2 g3 HG HDg
          have hd1 : ((d : Int) == -1) = false := by rw [beq_eq_false_iff_ne]; omega
          have i1 : (0 : Int) ≤ (d : Int) := by omega
          have i2 : (d : Int) ≤ 15 := by omega
          by_cases hbig : v ≤ 1114111
          · have e1 : decide (1114111 < (v : Int)) = false := decide_eq_false (by omega)
            have i3 : (v : Int) ≤ 1114111 := by omega
            clear hv1
            go_wp2
            go_roundw
            case rel => exact ⟨k + 1, v * 16 + d, q', by omega, by go_num, by go_num, by omega, HS1, HE1, R4, HG1⟩
            case measure => simp [intOf]; omega
          · have e1 : decide (1114111 < (v : Int)) = true := decide_eq_true (by omega)
            have HN : Hid (rune (hexGo n 0 l) = none) := Lib.hid (by rw [HG1.out]; exact rune_big _ _ _ (by omega))
            go_wp2
            go_ret
            rw [HN.out]
            exact ⟨_, _, rfl, HS1.out.set1 true⟩
    · obtain rfl : k = n := by omega
      rw [Nat.sub_self, hexGo] at HG
      obtain ⟨c0, c1, f0, f1, _⟩ := HS.out.at'
      go_wp2_with fail
      refine (validRune_calls (v : Int) _).mono ?_
      rintro e w2 ⟨rfl, rfl⟩
      cases hvr : Lib.validRune (v : Int) with
      | true =>
        have HN : Hid (rune (hexGo k 0 l) = some (encodeRune (v : Int), q)) := Lib.hid (by rw [HG.out, rune, if_pos hvr])
        have hle : v ≤ 1114111 := by
          unfold Lib.validRune at hvr
          rw [decide_eq_true_iff] at hvr
          omega
        clear hvr HG
        go_wp2
        go_ret
        rw [HN.out]
        exact ⟨v, rfl, hle, rfl, HS.out, HV.out⟩
      | false =>
        have HN : Hid (rune (hexGo k 0 l) = none) := Lib.hid (by rw [HG.out, rune, if_neg (by rw [hvr]; decide)])
        clear hvr HG
        go_wp2
        go_ret
        rw [HN.out]
        exact ⟨_, _, rfl, HS.out.set1 true⟩
end Go.Proofs.YtnplommdgfgboaaGreatDoor.Prg
/-
  What strings.IndexRune answers beyond ASCII, over a text of ASCII; the program's escape.
-/
set_option linter.unusedVariables false
set_option linter.unusedSimpArgs false
namespace Go.Proofs.YtnplommdgfgboaaGreatDoor.Prg
open Go.RowKit Go.Lib Go.Proofs.YtnplommdgfgboaaGreatDoor.B Go.Proofs.YtnplommdgfgboaaGreatDoor.Rd Go.Proofs.YtnplommdgfgboaaGreatDoor.Utf Go.Proofs.YtnplommdgfgboaaGreatDoor.TermPure Go.Proofs.YtnplommdgfgboaaGreatDoor.LinesPure Go.Proofs.YtnplommdgfgboaaGreatDoor.Tx Go.Proofs.YtnplommdgfgboaaGreatDoor.Env Go.Proofs.YtnplommdgfgboaaGreatDoor.Bld

theorem quiet_add_same {P : Program} {f : FuncId} {args : Array Value} {w : World} {a n : Nat} {v : Value}
    (h : Calls P f args (w.drewN (a + n)) fun e w' => e = .returned v ∧ w' = w.drewN (a + n)) :
    Calls P f args (w.drewN (a + n)) fun e w'' => e = .returned v ∧ ∃ m, w'' = w.drewN (a + m) :=
  h.mono fun _ _ ⟨he, hm⟩ => ⟨he, n, hm⟩
theorem indexByte_no : ∀ (l : List UInt8) (c : UInt8), (∀ b ∈ l, b ≠ c) → indexByte l c = -1
  | [], c, h => rfl
  | b :: l, c, h => by
    have hb : (b == c) = false := by rw [beq_eq_false_iff_ne]; exact h b (by simp)
    have ih := indexByte_no l c (fun x hx => h x (by simp [hx]))
    unfold indexByte
    rw [hb, ih]
    rfl
set_option maxRecDepth 100000 in
set_option maxHeartbeats 1600000 in
theorem indexRune_none_calls (L : List UInt8) (w : World) :
    Calls Tryz.prog 249 #[.string (mkS L), .int .i32 (-1)] w fun e w' => e = .returned (.int .i64 (-1)) ∧ Below w.heap.size w w' := by
  go_enter Tryz.func249, Tryz.ntmps249
  go_wp2_with fail
  refine (validRune_calls (-1) _).mono ?_
  rintro e w1 ⟨rfl, rfl⟩
  rw [show Lib.validRune (-1) = false from rfl]
  go_wp2
  go_ret
  exact ⟨rfl, Below.refl _ _⟩
set_option maxRecDepth 100000 in
set_option maxHeartbeats 1600000 in
theorem indexRune_err_calls (L : List UInt8) (hL : ∀ b ∈ L, b.toNat < 128) (hlen : L.length ≤ 1000) (w : World) :
    Calls Tryz.prog 249 #[.string (mkS L), .int .i32 65533] w fun e w' => e = .returned (.int .i64 (-1)) ∧ Below w.heap.size w w' := by
  have z := mkS_size L
  have HL := Lib.hid hL
  clear hL
  go_enter Tryz.func249, Tryz.ntmps249
  go_wp2
  go_loopw [] (fun wr => ∃ pos : Nat, wr = w.iter (mkS L) pos) (fun wr => L.length - wr.iterPos w.heap.size)
  case atStart => exact ⟨0, rfl⟩
  case round =>
    obtain ⟨pos, rfl⟩ := hrel
    by_cases hp : pos < L.length
    · have hp' : pos < (mkS L).size := by rw [z]; exact hp
      obtain ⟨b, hb0⟩ : ∃ b, L[pos] = b := ⟨_, rfl⟩
      have hg : (mkS L)[pos]'hp' = b := (Rd.mkS_get L pos hp' hp).trans hb0
      have hb : b.toNat < 128 := by rw [← hb0]; exact HL.out _ (List.getElem_mem hp)
      have hnx : ∀ ty, (Instr.next (.pointer (some ⟨w.heap.size, 0, none⟩)) true ty).run Tryz.prog (w.iter (mkS L) pos) = .ok (.tuple #[.bool true, .int .i64 pos, .int .i32 (b.toNat : Int)]) (w.iter (mkS L) (pos + 1)) := fun ty => by
        have := run_next_ascii (P := Tryz.prog) w (mkS L) pos ty hp' (by rw [hg]; exact hb)
        rw [hg] at this
        exact this
      have hne : ((b.toNat : Int) == 65533) = false := by rw [beq_eq_false_iff_ne]; omega
      clear hb0 hg hb
      go_wp2
      go_roundw
      case rel => exact ⟨pos + 1, rfl⟩
      case measure => simp; omega
    · have hnx : ∀ ty, (Instr.next (.pointer (some ⟨w.heap.size, 0, none⟩)) true ty).run Tryz.prog (w.iter (mkS L) pos) = .ok (.tuple #[.bool false]) (w.iter (mkS L) pos) := fun ty => run_next_end w (mkS L) pos ty (by rw [z]; exact hp)
      go_wp2
      go_ret
      exact ⟨rfl, (Below.refl _ _).alloc (Nat.le_refl _) _⟩
set_option maxRecDepth 100000 in
set_option maxHeartbeats 1600000 in
theorem indexRune_high_calls (L : List UInt8) (hL : ∀ b ∈ L, b.toNat < 128) (hlen : L.length ≤ 1000) (h4 : 4 ≤ L.length) (ch : List UInt8) (n : Nat) (h128 : 128 ≤ n) (hn : n ≤ 1114111) (hv : Lib.validRune (n : Int) = true) (he : encodeRune (n : Int) = ch) (hne : n ≠ 65533) (hhigh : ∀ b ∈ ch, 128 ≤ b.toNat) (h2 : 2 ≤ ch.length) (hc4 : ch.length ≤ 4) (w : World) :
    Calls Tryz.prog 249 #[.string (mkS L), .int .i32 (n : Int)] w fun e w' => e = .returned (.int .i64 (-1)) ∧ Below w.heap.size w w' := by
  have z := mkS_size L
  have henc : Utf8.encode (n : Int) = mkS ch := by rw [encode_eq n hv, he]
  obtain ⟨k, hk⟩ : ∃ k, ch.length = k + 1 := ⟨ch.length - 1, by omega⟩
  have zc : (mkS ch).size = k + 1 := by rw [mkS_size, hk]
  have hk3 : k ≤ 3 := by omega
  have hkL : k < L.length := by omega
  have hkc : k < ch.length := by omega
  have e1 : ((n : Int) == 65533) = false := by rw [beq_eq_false_iff_ne]; omega
  have e2 : decide ((n : Int) < 128) = false := decide_eq_false (by omega)
  have i0 : (0 : Int) ≤ (n : Int) := by omega
  obtain ⟨b1, hb1⟩ : ∃ b, L[k] = b := ⟨_, rfl⟩
  obtain ⟨b2, hb2⟩ : ∃ b, ch[k] = b := ⟨_, rfl⟩
  have hk1 : k < (mkS L).size := by rw [z]; exact hkL
  have hk2 : k < (mkS ch).size := by rw [zc]; omega
  have hg1 : (mkS L)[k]'hk1 = b1 := (Rd.mkS_get L k hk1 hkL).trans hb1
  have hg2 : (mkS ch)[k]'hk2 = b2 := (Rd.mkS_get ch k hk2 hkc).trans hb2
  have hl1 : b1.toNat < 128 := by rw [← hb1]; exact hL _ (List.getElem_mem hkL)
  have hl2 : 128 ≤ b2.toNat := by rw [← hb2]; exact hhigh _ (List.getElem_mem hkc)
  have hdiff : ((b1.toNat : Int) != (b2.toNat : Int)) = true := by rw [bne_iff_ne]; omega
  have hx : (mkS L).extract (k + 1) L.length = mkS (L.drop (k + 1)) := by rw [mkS_extract, List.take_of_length_le (by simp)]
  have HIB : ∀ W, Calls Tryz.prog 261 #[.string (mkS (L.drop (k + 1))), .int .u8 (b2.toNat : Int)] W fun e w' => e = .returned (.int .i64 (-1)) ∧ w' = W := fun W => by
    refine (Tryz.strings_IndexByte (mkS (L.drop (k + 1))) (b2.toNat : Int) W).mono ?_
    rintro e w' ⟨h1, h2⟩
    refine ⟨?_, h2⟩
    rw [h1]
    have : indexByte (mkS (L.drop (k + 1))).data.toList ((b2.toNat : Int)).toNat.toUInt8 = -1 := by
      apply indexByte_no
      intro b hb e
      have hb' : b ∈ L := List.mem_of_mem_drop hb
      have := hL b hb'
      have e2 : b.toNat = b2.toNat := by rw [e]; simp
      omega
    rw [this]
  have HI := Lib.hid HIB
  have zq := mkS_size (L.drop (k + 1))
  have hi1 : (k : Int) + 1 ≤ (L.length : Int) := by omega
  have hi2 : (k : Int) < (L.length : Int) := by omega
  have hi3 : (0 : Int) ≤ (k : Int) := by omega
  have hd : decide (k < L.length) = true := decide_eq_true hkL
  have hvr := Lib.hid hv
  clear hL he hne hhigh hb1 hb2 hl1 hl2 HIB hv h128 hn h2 hc4 hk hkc
  generalize L.drop (k + 1) = q at *
  go_enter Tryz.func249, Tryz.ntmps249
  go_wp2_with fail
  refine (validRune_calls (n : Int) _).mono ?_
  rintro e w1 ⟨rfl, rfl⟩
  rw [hvr.out]
  go_wp2
  go_step3
  go_wp2
  go_loopw [9, 10] (fun v9 v10 wr => v9 = .int .i64 k ∧ v10 = .int .i64 0 ∧ wr = w) (fun _ _ _ => 0)
  case atStart => exact ⟨by go_num, rfl, rfl⟩
  case round =>
    obtain ⟨rfl, rfl, rfl⟩ := hrel
    go_wp2
    go_step3
    go_wp2
    go_quiet (fail)
    go_wp2
    have hw1 : IntKind.i64.wrap ((k : Int) + 1) = (k : Int) + 1 := IntWalk.i64_in _ (by omega)
    have hw2 : (0 : Int) ≤ (k : Int) + 1 := by omega
    have hw3 : ((k : Int) + 1).toNat = k + 1 := by omega
    have hw4 : (k : Int) < (k : Int) + 1 := by omega
    have hw5 : (k : Int) < ((k + 1 : Nat) : Int) := by omega
    have hw6 : k < k + 1 := by omega
    go_quiet ((go_at_call 261; exact quiet_add_same (HI.out _)))
    go_wp2
    rw [Exit.noGoto_ret]
    simp (config := { zetaDelta := true }) only [Exit.inBlock, Exit.noGoto_ret, Exit.then]
    go_ret
    exact ⟨rfl, bel_drewN (Below.refl _ _) _⟩

/-! ### escape -/
def escL : List UInt8 := [116, 98, 110, 114, 102, 34, 39, 92]
def escTT : List UInt8 := [9, 8, 10, 13, 12, 34, 39, 92]
theorem escL_index : ∀ n : Fin 256, (indexByte escL (UInt8.ofNat n.val) = -1 ∧ escV (UInt8.ofNat n.val) = none) ∨ (∃ k : Fin 8, indexByte escL (UInt8.ofNat n.val) = (k.val : Int) ∧ escV (UInt8.ofNat n.val) = escTT[k.val]?) := by decide +kernel
theorem escL_byte (b : UInt8) : (indexByte escL b = -1 ∧ escV b = none) ∨ (∃ k : Nat, ∃ hk : k < 8, indexByte escL b = (k : Int) ∧ escV b = some (escTT[k]'hk)) := by
  have h := escL_index ⟨b.toNat, b.toNat_lt⟩
  rw [show UInt8.ofNat b.toNat = b from by simp] at h
  rcases h with h | ⟨⟨k, hk⟩, h1, h2⟩
  · exact .inl h
  · exact .inr ⟨k, hk, h1, by rw [h2]; exact List.getElem?_eq_getElem hk⟩
theorem indexRune_ascii_calls (b : UInt8) (hb : b.toNat < 128) (w : World) :
    Calls Tryz.prog 249 #[.string (mkS escL), .int .i32 (b.toNat : Int)] w fun e w' => e = .returned (.int .i64 (indexByte escL b)) ∧ Below w.heap.size w w' := by
  refine (Tryz.strings_IndexRune_ascii (mkS escL) (b.toNat : Int) w (by omega) (by omega)).mono ?_
  rintro e w' ⟨h1, h2⟩
  refine ⟨?_, by rw [h2]; exact Below.refl _ _⟩
  rw [h1]
  have : ((b.toNat : Int)).toNat.toUInt8 = b := by simp
  rw [this]
  rfl
theorem esc_sign (b : UInt8) (t : List UInt8) (lit : Bool) (h1 : b.toNat ≠ 117) (h2 : b.toNat ≠ 85) : esc lit (b :: t) = if lit then (match escV b with
      | some c => some ([c], t)
      | none => none) else none := by
  rw [esc, if_neg (fun e => h1 (by rw [e]; rfl)), if_neg (fun e => h2 (by rw [e]; rfl))]
  rfl
theorem escV_high (b : UInt8) (h : 128 ≤ b.toNat) : escV b = none := by
  unfold escV
  repeat' split
  all_goals first | rfl | (rename_i e; rw [e] at h; exact absurd h (by decide))
theorem esc_high (b : UInt8) (t : List UInt8) (lit : Bool) (h : 128 ≤ b.toNat) : esc lit (b :: t) = none := by
  rw [esc_sign b t lit (by omega) (by omega), escV_high b h]
  cases lit <;> rfl
/-- The rune that is taken ahead of an escape's end. -/
theorem indexRune_any_calls (l : List UInt8) (hne : l ≠ []) (hv : validD l = true) (w : World) :
    Calls Tryz.prog 249 #[.string (mkS escL), .int .i32 ((decodeL l).1 : Nat)] w fun e w' => (∃ i : Int, e = .returned (.int .i64 i) ∧ ((i = -1 ∧ 128 ≤ (decodeL l).1) ∨ ∃ b t, l = b :: t ∧ b.toNat < 128 ∧ i = indexByte escL b)) ∧ Below w.heap.size w w' := by
  rcases Utf.step l hne hv with ⟨b, t, rfl, hb, hd, ht⟩ | ⟨ch, t, c, hc⟩
  · rw [hd]
    refine (indexRune_ascii_calls b hb w).mono ?_
    rintro e w' ⟨h1, h2⟩
    exact ⟨⟨_, h1, .inr ⟨b, t, rfl, hb, rfl⟩⟩, h2⟩
  · rw [hc.dec]
    dsimp only
    have hL : ∀ b ∈ escL, b.toNat < 128 := by decide
    by_cases hne2 : c = 65533
    · subst hne2
      refine (indexRune_err_calls escL hL (by decide) w).mono ?_
      rintro e w' ⟨h1, h2⟩
      exact ⟨⟨_, h1, .inl ⟨rfl, hc.ge⟩⟩, h2⟩
    · refine (indexRune_high_calls escL hL (by decide) (by decide) ch c hc.ge hc.le hc.valid hc.enc hne2 hc.high hc.two hc.four w).mono ?_
      rintro e w' ⟨h1, h2⟩
      exact ⟨⟨_, h1, .inl ⟨rfl, hc.ge⟩⟩, h2⟩
set_option maxRecDepth 100000 in
set_option maxHeartbeats 3200000 in
theorem escape_calls (rb : Nat) (l : List UInt8) (lit : Bool) (hv : validD l = true) (w : World) (he : Env w) (hrb : lowB ≤ rb) (h : At w rb l false) :
    Calls Tryz.prog 235 #[.pointer (some ⟨rb, 0, none⟩), .bool lit] w fun e w' => NumPost w rb (esc lit l) e w' := by
  by_cases hne : l = []
  · subst hne
    have HA := Lib.hid h
    clear hv
    go_enter Tryz.func235, Tryz.ntmps235
    go_wp2_with fail
    refine (take_end_calls rb [] false (.inr rfl) _ HA.out).mono ?_
    rintro e w1 ⟨rfl, hs1⟩
    have HS1 := Lib.hid hs1
    clear hs1
    go_wp2_with fail
    refine (indexRune_none_calls escL _).mono ?_
    rintro e w2 ⟨rfl, hb2⟩
    have HS2 := Lib.hid (HS1.out.below hb2)
    obtain ⟨c0, c1, f0, f1, _⟩ := HS2.out.at'
    clear hb2
    cases lit
    · go_wp2
      go_ret
      exact ⟨_, _, rfl, HS2.out.set1 true⟩
    · go_wp2
      go_ret
      exact ⟨_, _, rfl, HS2.out.set1 true⟩
  · have HA := Lib.hid h
    have HE := Lib.hid he
    obtain ⟨r1, r2, r3, r4⟩ := rune_len l hne hv
    have HT := Lib.hid (take_calls rb l hne hv)
    have HI := Lib.hid (indexRune_any_calls l hne hv)
    have HD : Hid (∀ b t, l = b :: t → b.toNat < 128 → (decodeL l).1 = b.toNat ∧ l.drop (decodeL l).2 = t) := Lib.hid (fun b t e hb => by
      subst e
      rw [decodeL_ascii b t hb]
      exact ⟨rfl, rfl⟩)
    have HH : Hid (128 ≤ (decodeL l).1 → esc lit l = none) := Lib.hid (fun h => by
      cases l with
      | nil => rfl
      | cons b t =>
        by_cases hb : b.toNat < 128
        · rw [decodeL_ascii b t hb] at h
          dsimp only at h
          omega
        · exact esc_high b t lit (by omega))
    have R4 := Lib.hid r4
    have i0 : ((decodeL l).1 : Int) ≤ 1114111 := by omega
    have i1 : (0 : Int) ≤ ((decodeL l).1 : Int) := by omega
    clear h he hv r1 r3 r4 r2 hne
    generalize (decodeL l).1 = c at *
    generalize l.drop (decodeL l).2 = q at *
    go_enter Tryz.func235, Tryz.ntmps235
    go_wp2_with fail
    refine (HT.out _ HE.out HA.out).mono ?_
    rintro e w1 ⟨rfl, hs1⟩
    have HS1 := Lib.hid hs1
    have HE1 := Lib.hid (HE.out.step hs1 hrb)
    clear hs1 HT
    go_wp2_with fail
    refine (HI.out _).mono ?_
    rintro e w2 ⟨⟨i, rfl, hi⟩, hb2⟩
    have HS2 := Lib.hid (HS1.out.below hb2)
    have HE2 := Lib.hid (HE1.out.below hb2)
    obtain ⟨c0, c1, f0, f1, _⟩ := HS2.out.at'
    clear hb2 HI
    rcases hi with ⟨rfl, h128⟩ | ⟨b, t, hl, hb, rfl⟩
    · have HN := Lib.hid (HH.out h128)
      have e1 : ((c : Int) == 117) = false := by rw [beq_eq_false_iff_ne]; omega
      have e2 : ((c : Int) == 85) = false := by rw [beq_eq_false_iff_ne]; omega
      clear h128 HH HD
      cases lit
      · go_wp2
        go_ret
        rw [HN.out]
        exact ⟨_, _, rfl, HS2.out.set1 true⟩
      · go_wp2
        go_ret
        rw [HN.out]
        exact ⟨_, _, rfl, HS2.out.set1 true⟩
    · obtain ⟨hc, hq⟩ := HD.out b t hl hb
      subst hc hq
      have HL := Lib.hid hl
      clear hl HD HH
      by_cases h117 : b.toNat = 117
      · have HN : Hid (esc lit l = rune (hexGo 4 0 q)) := Lib.hid (by
          rw [HL.out, show b = 117 from UInt8.toNat_inj.1 h117]; rfl)
        have e1 : ((b.toNat : Int) == 117) = true := by rw [beq_iff_eq]; omega
        clear h117
        go_wp2_with fail
        refine (number_calls rb q 4 (by decide) R4.out _ HE2.out hrb HS2.out.at').mono ?_
        intro e w3 hp
        cases hr : rune (hexGo 4 0 q) with
        | none =>
          rw [hr] at hp
          obtain ⟨c, s, rfl, hs3⟩ := hp
          have HS3 := Lib.hid (HS2.out.trans hs3)
          have HN2 := Lib.hid (HN.out.trans hr)
          clear hr hs3 HN
          go_wp2
          go_ret
          rw [HN2.out]
          exact ⟨_, _, rfl, HS3.out⟩
        | some p =>
          obtain ⟨o, q'⟩ := p
          rw [hr] at hp
          obtain ⟨v, rfl, hv1, hv2, hs3, hv3⟩ := hp
          have HS3 := Lib.hid (HS2.out.trans hs3)
          have HV := Lib.hid (And.intro hv2 hv3)
          have HN2 := Lib.hid (HN.out.trans hr)
          clear hr hs3 HN hv2 hv3
          go_wp2
          go_ret
          rw [HN2.out]
          exact ⟨v, rfl, hv1, HV.out.1, HS3.out, HV.out.2⟩
      · have e1 : ((b.toNat : Int) == 117) = false := by rw [beq_eq_false_iff_ne]; omega
        by_cases h85 : b.toNat = 85
        · have HN : Hid (esc lit l = rune (hexGo 8 0 q)) := Lib.hid (by
            rw [HL.out, show b = 85 from UInt8.toNat_inj.1 h85]; rfl)
          have e2 : ((b.toNat : Int) == 85) = true := by rw [beq_iff_eq]; omega
          clear h85 h117
          go_wp2_with fail
          refine (number_calls rb q 8 (by decide) R4.out _ HE2.out hrb HS2.out.at').mono ?_
          intro e w3 hp
          cases hr : rune (hexGo 8 0 q) with
          | none =>
            rw [hr] at hp
            obtain ⟨c, s, rfl, hs3⟩ := hp
            have HS3 := Lib.hid (HS2.out.trans hs3)
            have HN2 := Lib.hid (HN.out.trans hr)
            clear hr hs3 HN
            go_wp2
            go_ret
            rw [HN2.out]
            exact ⟨_, _, rfl, HS3.out⟩
          | some p =>
            obtain ⟨o, q'⟩ := p
            rw [hr] at hp
            obtain ⟨v, rfl, hv1, hv2, hs3, hv3⟩ := hp
            have HS3 := Lib.hid (HS2.out.trans hs3)
            have HV := Lib.hid (And.intro hv2 hv3)
            have HN2 := Lib.hid (HN.out.trans hr)
            clear hr hs3 HN hv2 hv3
            go_wp2
            go_ret
            rw [HN2.out]
            exact ⟨v, rfl, hv1, HV.out.1, HS3.out, HV.out.2⟩
        · have e2 : ((b.toNat : Int) == 85) = false := by rw [beq_eq_false_iff_ne]; omega
          have HN : Hid (esc lit l = if lit then (match escV b with
            | some c => some ([c], q)
            | none => none) else none) := Lib.hid (by rw [HL.out]; exact esc_sign b q lit h117 h85)
          have EB := escL_byte b
          clear h117 h85 HL
          cases lit with
          | false =>
            generalize indexByte escL b = i at *
            clear EB
            go_wp2
            go_ret
            rw [HN.out]
            exact ⟨_, _, rfl, HS2.out.set1 true⟩
          | true =>
            rcases EB with ⟨g1, g2⟩ | ⟨k, hk, g1, g2⟩
            · have HN2 : Hid (esc true l = none) := Lib.hid (by rw [HN.out, g2]; rfl)
              rw [g1]
              clear g1 g2 HN
              go_wp2
              go_ret
              rw [HN2.out]
              exact ⟨_, _, rfl, HS2.out.set1 true⟩
            · have HN2 : Hid (esc true l = some ([escTT[k]'hk], q)) := Lib.hid (by rw [HN.out, g2]; rfl)
              rw [g1]
              have hd0 : decide ((0 : Int) ≤ (k : Int)) = true := decide_eq_true (by omega)
              have ik0 : (0 : Int) ≤ (k : Int) := by omega
              have ik8 : (k : Int) < 8 := by omega
              have HA9 : Hid (∀ j : Nat, (hj : j < 8) → (escTT[j]'hj).toNat < 128) := Lib.hid (by decide)
              clear g1 g2 HN
              go_wp2
              go_ret
              rw [HN2.out]
              refine ⟨(escTT[k]'hk).toNat, (ret_int (by have := HA9.out k hk; unfold wrap32; omega) : Ending.returned (.int .i32 (wrap32 ((escTT[k]'hk).toNat : Int))) = .returned (.int .i32 ((escTT[k]'hk).toNat : Int))), by have := HA9.out k hk; omega, ?_, HS2.out, R4.out⟩
              have h128 := HA9.out k hk
              rw [encodeRune, encodeRuneZ_one (by omega) (by omega)]
              simp
end Go.Proofs.YtnplommdgfgboaaGreatDoor.Prg
/-
  What the program's reader of lines answers: up to a sign.
-/
set_option linter.unusedVariables false
set_option linter.unusedSimpArgs false
namespace Go.Proofs.YtnplommdgfgboaaGreatDoor.Prg
open Go.RowKit Go.Lib Go.Proofs.YtnplommdgfgboaaGreatDoor.B Go.Proofs.YtnplommdgfgboaaGreatDoor.Rd Go.Proofs.YtnplommdgfgboaaGreatDoor.Utf Go.Proofs.YtnplommdgfgboaaGreatDoor.TermPure Go.Proofs.YtnplommdgfgboaaGreatDoor.LinesPure Go.Proofs.YtnplommdgfgboaaGreatDoor.Tx Go.Proofs.YtnplommdgfgboaaGreatDoor.Env Go.Proofs.YtnplommdgfgboaaGreatDoor.Bld

theorem up_chunk (stop : UInt8) (hs : stop.toNat < 128) (lit nl : Bool) (t : List UInt8) : ∀ ch : List UInt8, (∀ b ∈ ch, 128 ≤ b.toNat) → up stop lit nl (ch ++ t) = (up stop lit nl t).map fun x => (ch ++ x.1, x.2)
  | [], _ => by simp
  | b :: ch, h => by
    have hb := h b (by simp)
    have ih := up_chunk stop hs lit nl t ch (fun x hx => h x (by simp [hx]))
    have h1 : b ≠ stop := fun e => by rw [e] at hb; omega
    have h2 : b ≠ 92 := fun e => by rw [e] at hb; exact absurd hb (by decide)
    have h3 : ¬ (nl = true ∧ (b = 10 ∨ b = 13)) := by
      rintro ⟨_, e | e⟩
      · rw [e] at hb; exact absurd hb (by decide)
      · rw [e] at hb; exact absurd hb (by decide)
    rw [List.cons_append, up_other stop lit nl b _ h1 h2 h3, ih, Option.map_map]
    congr 1
/-- What is told up to a sign. -/
def UntPost (w : World) (rb : Nat) (r : Option (List UInt8 × List UInt8)) (e : Ending) (w' : World) : Prop := match r with
  | none => ∃ (o s : List UInt8), e = .returned (.string (mkS o)) ∧ Step w w' rb s true
  | some (o, q) => e = .returned (.string (mkS o)) ∧ Step w w' rb q false ∧ validD q = true
/-- A round. -/
structure Rnd (w wr : World) (rb : Nat) (l q out : List UInt8) (stop : UInt8) (lit : Bool) : Prop where
  step : Step w wr rb q false
  bld : Bld w.heap.size w.heap.size out wr
  env : Env wr
  valid : validD q = true
  len : out.length + q.length ≤ l.length
  says : up stop lit lit l = (up stop lit lit q).map fun x => (out ++ x.1, x.2)
set_option maxRecDepth 100000 in
set_option maxHeartbeats 6400000 in
theorem until_calls (rb : Nat) (l : List UInt8) (stop : UInt8) (hst : stop.toNat < 128) (hs92 : stop ≠ 92) (lit : Bool) (hv : validD l = true) (w : World) (he : Env w) (hrb : lowB ≤ rb) (h : At w rb l false) :
    Calls Tryz.prog 205 #[.pointer (some ⟨rb, 0, none⟩), .int .i32 (stop.toNat : Int), .bool lit] w fun e w' => UntPost w rb (up stop lit lit l) e w' := by
  have hlt := h.lt
  have hlen := h.len
  have hlow := he.low
  have hR0 : Hid (Rnd w (w.alloc (.cells #[.pointer none, .slice none 0 0] 161)) rb l l [] stop lit) :=
    Lib.hid ⟨(Step.refl h).alloc _, Bld.new w, he.below (bel_alloc (Below.refl _ _) _), hv, by simp, by simp⟩
  clear h he hv
  go_enter Tryz.func205, Tryz.ntmps205
  go_wp2
  go_step3
  go_wp2
  go_step3
  go_wp2
  go_loopg [] (l.length + 1) (fun n wr => ∃ (q out : List UInt8), Hid (n = q.length + 1) ∧ Hid (Rnd w wr rb l q out stop lit))
  case atStart => exact ⟨l, [], Lib.hid rfl, hR0⟩
  case round =>
    obtain ⟨q, out, HN, HR⟩ := hrel
    have hbl := HR.out.len
    obtain ⟨c0, c1, f0, f1, hql⟩ := HR.out.step.at'
    by_cases hne : q = []
    · subst hne
      have HO : Hid (up stop lit lit l = none) := Lib.hid (HR.out.says.trans (by rw [up_nil]; rfl))
      go_wp2_with fail
      refine (take_end_calls rb [] false (.inr rfl) _ HR.out.step.at').mono ?_
      rintro e w1 ⟨rfl, hs1⟩
      have HS1 := Lib.hid (HR.out.step.trans hs1)
      have HB1 := Lib.hid (HR.out.bld.grown hs1.grown hlt)
      have HZ1 : w.heap.size ≤ w1.heap.size := HS1.out.grown.size
      have e1 : ((-1 : Int) == (stop.toNat : Int)) = false := by rw [beq_eq_false_iff_ne]; omega
      obtain ⟨c0, c1, f0, f1, _⟩ := HS1.out.at'
      clear hs1
      cases lit
      all_goals
        go_wp2_with fail
        refine (string_calls _ _ out _ HB1.out HZ1).mono ?_
        rintro e w2 ⟨rfl, _, hb2⟩
        have HS2 := Lib.hid (HS1.out.belowB hb2 hlt)
        clear hb2
        go_wp2
        go_ret
        rw [HO.out]
        exact ⟨_, _, rfl, HS2.out⟩
    · obtain ⟨r1, r2, r3, r4⟩ := rune_len q hne HR.out.valid
      have HT := Lib.hid (take_calls rb q hne HR.out.valid _ HR.out.env HR.out.step.at')
      have hst2 := Utf.step q hne HR.out.valid
      rcases hst2 with ⟨b, t, rfl, hb, hd, ht⟩ | ⟨ch, t, c, hc⟩
      · rw [hd] at HT
        simp only [List.drop_succ_cons, List.drop_zero] at HT
        have HV := Lib.hid ht
        have HD := Lib.hid hd
        have hNt : Hid (t.length + 1 < gk) := Lib.hid (by rw [HN.out]; simp)
        have hbt : out.length + t.length + 1 ≤ l.length := by simp at hbl; omega
        clear r1 r2 r3 r4 hne hd ht
        go_wp2_with fail
        refine HT.out.mono ?_
        rintro e w1 ⟨rfl, hs1⟩
        have HS1 := Lib.hid (HR.out.step.trans hs1)
        have HB1 := Lib.hid (HR.out.bld.grown hs1.grown hlt)
        have HE1 := Lib.hid (HR.out.env.step hs1 hrb)
        have HZ1 : w.heap.size ≤ w1.heap.size := HS1.out.grown.size
        have HU := Lib.hid HR.out.says
        clear c0 c1 f0 f1 hs1 HT HR
        obtain ⟨c0, c1, f0, f1, _⟩ := HS1.out.at'
        by_cases b1 : b = stop
        · subst b1
          have HO : Hid (up b lit lit l = some (out, t)) := Lib.hid (HU.out.trans (by rw [up_stop]; simp))
          clear HU
          go_wp2_with fail
          refine (string_calls _ _ out _ HB1.out HZ1).mono ?_
          rintro e w9 ⟨rfl, _, hb9⟩
          have HS9 := Lib.hid (HS1.out.belowB hb9 hlt)
          clear hb9
          go_wp2
          go_ret
          rw [HO.out]
          exact ⟨rfl, HS9.out, HV.out⟩
        · have e1 : ((b.toNat : Int) == (stop.toNat : Int)) = false := by
            rw [beq_eq_false_iff_ne]
            intro e
            exact b1 (UInt8.toNat_inj.1 (by omega))
          by_cases b2 : b = 92
          · have e2 : ((b.toNat : Int) == 92) = true := by rw [beq_iff_eq, b2]; rfl
            have HE0 := Lib.hid (up_esc_none stop lit lit b t b1 b2)
            have HEs := Lib.hid (fun o r => up_esc stop lit lit b t o r b1 b2)
            clear b1 b2
            go_wp2_with fail
            refine (escape_calls rb t lit HV.out _ HE1.out hrb HS1.out.at').mono ?_
            intro e w2 hp
            cases hr : esc lit t with
            | none =>
              rw [hr] at hp
              obtain ⟨c, s, rfl, hs2⟩ := hp
              have HO : Hid (up stop lit lit l = none) := Lib.hid (HU.out.trans (by rw [HE0.out hr]; rfl))
              have HS2 := Lib.hid (HS1.out.trans hs2)
              have HB2 := Lib.hid (HB1.out.grown hs2.grown hlt)
              have HZ2 : w.heap.size ≤ w2.heap.size := HS2.out.grown.size
              clear c0 c1 f0 f1 hs2 hr HU
              obtain ⟨c0, c1, f0, f1, _⟩ := HS2.out.at'
              go_wp2_with fail
              refine (string_calls _ _ out _ HB2.out HZ2).mono ?_
              rintro e w9 ⟨rfl, _, hb9⟩
              have HS9 := Lib.hid (HS2.out.belowB hb9 hlt)
              clear hb9
              go_wp2
              go_ret
              rw [HO.out]
              exact ⟨_, _, rfl, HS9.out⟩
            | some p =>
              obtain ⟨o, r⟩ := p
              rw [hr] at hp
              obtain ⟨v, rfl, hv1, hv2, hs2, hv3⟩ := hp
              have hlr := esc_len2 lit t o r hr
              have HO := Lib.hid (HU.out.trans (by rw [HEs.out o r hr, Option.map_map]))
              have HS2 := Lib.hid (HS1.out.trans hs2)
              have HB2 := Lib.hid (HB1.out.grown hs2.grown hlt)
              have HE2 := Lib.hid (HE1.out.step hs2 hrb)
              have HZ2 : w.heap.size ≤ w2.heap.size := HS2.out.grown.size
              have HV2 := Lib.hid hv2
              have HV3 := Lib.hid hv3
              clear c0 c1 f0 f1 hs2 hr HU hv2 hv3
              obtain ⟨c0, c1, f0, f1, _⟩ := HS2.out.at'
              go_wp2_with fail
              refine (writeRune_calls _ _ out v (by omega) _ HB2.out (by omega) HZ2).mono ?_
              rintro e w8 ⟨⟨v8, rfl⟩, hb8, hbel8⟩
              have HR8 : Hid (Rnd w w8 rb l r (out ++ o) stop lit) := Lib.hid ⟨HS2.out.belowB hbel8 hlt, HV2.out ▸ hb8, HE2.out.belowB hbel8 hlow, HV3.out, by simp; omega, HO.out.trans (by congr 1; funext x; simp)⟩
              clear hb8 hbel8
              go_wp2
              go_roundg (r.length + 1)
              case measure => have := hNt.out; omega
              case rel => exact ⟨r, _, Lib.hid rfl, HR8⟩
          · have e2 : ((b.toNat : Int) == 92) = false := by
              rw [beq_eq_false_iff_ne]
              intro e
              exact b2 (UInt8.toNat_inj.1 (by show b.toNat = 92; omega))
            by_cases b3 : lit = true ∧ (b = 10 ∨ b = 13)
            · obtain ⟨hl1, b3⟩ := b3
              subst hl1
              have HO : Hid (up stop true true l = none) := Lib.hid (HU.out.trans (by rw [up_line stop true true b t b1 b2 ⟨rfl, b3⟩]; rfl))
              have h3 : ((b.toNat : Int) == 10) = true ∨ ((b.toNat : Int) == 10) = false ∧ ((b.toNat : Int) == 13) = true := by
                rcases b3 with rfl | rfl
                · exact .inl rfl
                · exact .inr ⟨rfl, rfl⟩
              clear b1 b2 b3 HU
              have HS3 := Lib.hid (HS1.out.set1 true)
              have HB3 := Lib.hid (HB1.out.grown (Rd.grown_setCell w1 ⟨rb, 1, none⟩ (.bool true)) hlt)
              rcases h3 with h3 | ⟨h3, h4⟩
              all_goals
                go_wp2_with fail
                refine (string_calls _ _ out _ HB3.out (by rw [World.size_setCell]; exact HZ1)).mono ?_
                rintro e w9 ⟨rfl, _, hb9⟩
                have HS9 := Lib.hid (HS3.out.belowB hb9 hlt)
                clear hb9
                go_wp2
                go_ret
                rw [HO.out]
                exact ⟨_, _, rfl, HS9.out⟩
            · have HO := Lib.hid (HU.out.trans (by rw [up_other stop lit lit b t b1 b2 b3, Option.map_map]))
              have henc : Hid (encodeRune (b.toNat : Int) = [b]) := Lib.hid (by
                rw [encodeRune, encodeRuneZ_one (by omega) (by omega)]
                simp)
              have h3 : lit = false ∨ (lit = true ∧ ((b.toNat : Int) == 10) = false ∧ ((b.toNat : Int) == 13) = false) := by
                cases lit with
                | false => exact .inl rfl
                | true =>
                  refine .inr ⟨rfl, ?_, ?_⟩
                  · rw [beq_eq_false_iff_ne]; intro e; exact b3 ⟨rfl, .inl (UInt8.toNat_inj.1 (by show b.toNat = 10; omega))⟩
                  · rw [beq_eq_false_iff_ne]; intro e; exact b3 ⟨rfl, .inr (UInt8.toNat_inj.1 (by show b.toNat = 13; omega))⟩
              clear b1 b2 b3 HU
              rcases h3 with rfl | ⟨rfl, h3, h4⟩
              all_goals
                go_wp2_with fail
                refine (writeRune_calls _ _ out b.toNat (by omega) _ HB1.out (by omega) HZ1).mono ?_
                rintro e w8 ⟨⟨v8, rfl⟩, hb8, hbel8⟩
                have HR8 : Hid (Rnd w w8 rb l t (out ++ [b]) stop _) := Lib.hid ⟨HS1.out.belowB hbel8 hlt, henc.out ▸ hb8, HE1.out.belowB hbel8 hlow, HV.out, by simp; omega, HO.out.trans (by congr 1; funext x; simp)⟩
                clear hb8 hbel8
                go_wp2
                go_roundg (t.length + 1)
                case measure => have := hNt.out; omega
                case rel => exact ⟨t, _, Lib.hid rfl, HR8⟩
      · rw [hc.dec] at HT
        dsimp only at HT
        rw [hc.eq, List.drop_left] at HT
        have HC := Lib.hid hc
        have c128 := hc.ge
        have cle := hc.le
        have hc2 := hc.two
        have hc4 := hc.four
        have hqe : q.length = ch.length + t.length := by rw [hc.eq, List.length_append]
        have hNt : Hid (t.length + 1 < gk) := Lib.hid (by rw [HN.out]; omega)
        have hbt : out.length + ch.length + t.length ≤ l.length := by omega
        have HO : Hid (up stop lit lit l = (up stop lit lit t).map fun x => ((out ++ ch) ++ x.1, x.2)) := Lib.hid (HR.out.says.trans (by
          rw [hc.eq, up_chunk stop hst lit lit t ch hc.high, Option.map_map]
          congr 1
          funext x
          simp))
        clear r1 r2 r3 r4 hne hc hqe
        go_wp2_with fail
        refine HT.out.mono ?_
        rintro e w1 ⟨rfl, hs1⟩
        have HS1 := Lib.hid (HR.out.step.trans hs1)
        have HB1 := Lib.hid (HR.out.bld.grown hs1.grown hlt)
        have HE1 := Lib.hid (HR.out.env.step hs1 hrb)
        have HZ1 : w.heap.size ≤ w1.heap.size := HS1.out.grown.size
        clear c0 c1 f0 f1 hs1 HT HR
        obtain ⟨c0, c1, f0, f1, _⟩ := HS1.out.at'
        have e1 : ((c : Int) == (stop.toNat : Int)) = false := by rw [beq_eq_false_iff_ne]; omega
        have e2 : ((c : Int) == 92) = false := by rw [beq_eq_false_iff_ne]; omega
        have e3 : ((c : Int) == 10) = false := by rw [beq_eq_false_iff_ne]; omega
        have e4 : ((c : Int) == 13) = false := by rw [beq_eq_false_iff_ne]; omega
        cases lit
        all_goals
          go_wp2_with fail
          refine (writeRune_calls _ _ out c (by omega) _ HB1.out (by omega) HZ1).mono ?_
          rintro e w8 ⟨⟨v8, rfl⟩, hb8, hbel8⟩
          have HR8 : Hid (Rnd w w8 rb l t (out ++ ch) stop _) := Lib.hid ⟨HS1.out.belowB hbel8 hlt, HC.out.enc ▸ hb8, HE1.out.belowB hbel8 hlow, HC.out.rest, by simp; omega, HO.out⟩
          clear hb8 hbel8
          go_wp2
          go_roundg (t.length + 1)
          case measure => have := hNt.out; omega
          case rel => exact ⟨t, _, Lib.hid rfl, HR8⟩
end Go.Proofs.YtnplommdgfgboaaGreatDoor.Prg
/-
  What the program's reader of lines answers: words, literals.
-/
set_option linter.unusedVariables false
set_option linter.unusedSimpArgs false
namespace Go.Proofs.YtnplommdgfgboaaGreatDoor.Prg
open Go.RowKit Go.Lib Go.Proofs.YtnplommdgfgboaaGreatDoor.B Go.Proofs.YtnplommdgfgboaaGreatDoor.Rd Go.Proofs.YtnplommdgfgboaaGreatDoor.Utf Go.Proofs.YtnplommdgfgboaaGreatDoor.TermPure Go.Proofs.YtnplommdgfgboaaGreatDoor.LinesPure Go.Proofs.YtnplommdgfgboaaGreatDoor.Tx Go.Proofs.YtnplommdgfgboaaGreatDoor.Env Go.Proofs.YtnplommdgfgboaaGreatDoor.Bld

theorem valid_tail (b : UInt8) (t : List UInt8) (hb : b.toNat < 128) (hv : validD (b :: t) = true) : validD t = true := by
  have h := validD_step (b :: t) (by simp)
  rw [decodeL_ascii b t hb] at h
  rw [hv] at h
  dsimp only at h
  rw [if_neg (by rintro ⟨h1, _⟩; omega)] at h
  simpa using h.symm
theorem valid_dropWhile (p : UInt8 → Bool) (hp : ∀ b : UInt8, 128 ≤ b.toNat → p b = false) : ∀ l : List UInt8, validD l = true → validD (l.dropWhile p) = true
  | [], h => h
  | b :: t, h => by
    rw [List.dropWhile_cons]
    by_cases hb : b.toNat < 128
    · cases hpb : p b with
      | true => exact valid_dropWhile p hp t (valid_tail b t hb h)
      | false => exact h
    · rw [hp b (by omega)]
      exact h
theorem valid_drop (p : List UInt8) (hp : ∀ b ∈ p, b.toNat < 128) : ∀ l : List UInt8, p.isPrefixOf l = true → validD l = true → validD (l.drop p.length) = true := by
  induction p with
  | nil => intro l _ h; simpa using h
  | cons c p ih =>
    intro l h hv
    cases l with
    | nil => cases h
    | cons b t =>
      rw [List.isPrefixOf, Bool.and_eq_true, beq_iff_eq] at h
      obtain ⟨rfl, h⟩ := h
      exact ih (fun x hx => hp x (by simp [hx])) t h (valid_tail c t (hp c (by simp)) hv)
theorem inRun_high (d : Bool) (b : UInt8) (h : 128 ≤ b.toNat) : inRun d b = false := by
  unfold inRun alnum
  have : (b == 45) = false := by rw [beq_eq_false_iff_ne]; intro e; rw [e] at h; exact absurd h (by decide)
  rw [this]
  simp
  omega
theorem blank_high (b : UInt8) (h : 128 ≤ b.toNat) : LinesPure.blank b = false := by
  unfold LinesPure.blank
  rw [Bool.or_eq_false_iff, beq_eq_false_iff_ne, beq_eq_false_iff_ne]
  exact ⟨fun e => by rw [e] at h; exact absurd h (by decide), fun e => by rw [e] at h; exact absurd h (by decide)⟩
theorem run_valid (d : Bool) (l : List UInt8) (h : validD l = true) : validD (run d l).2 = true := valid_dropWhile _ (inRun_high d) l h
theorem blanks_valid (l : List UInt8) (h : validD l = true) : validD (blanks l) = true := valid_dropWhile _ blank_high l h
theorem take_while (p : UInt8 → Bool) (l : List UInt8) : l.take (l.length - (l.dropWhile p).length) = l.takeWhile p := by
  have h := List.takeWhile_append_dropWhile (p := p) (l := l)
  have hl := congrArg List.length h
  rw [List.length_append] at hl
  have : l.length - (l.dropWhile p).length = (l.takeWhile p).length := by omega
  rw [this]
  conv => lhs; arg 2; rw [← h]
  rw [List.take_left']
  rfl
theorem run_ascii (d : Bool) (l : List UInt8) : ∀ b ∈ (run d l).1, b.toNat < 128 := by
  intro b hb
  have := List.all_eq_true.1 (List.all_takeWhile (p := inRun d) (l := l)) b hb
  by_cases h : b.toNat < 128
  · exact h
  · rw [inRun_high d b (by omega)] at this
    cases this

/-- A function value that tells runes of a run. -/
def Tells (g : Nat) (d : Bool) : Prop := (∀ args w, (callFunc g args).run Tryz.prog w = .ok (.enter g args) w) ∧ ∃ p : Nat → Bool, (∀ c, 128 ≤ c → p c = false) ∧ (∀ b : UInt8, p b.toNat = inRun d b) ∧ ∀ w, PredGrows Tryz.prog g #[] p w
theorem tells_plain : Tells 164 false := by
  refine ⟨enters_of Tryz.func164 (by kernel_rfl) rfl, alnum, ?_, ?_, ?_⟩
  · intro c h; unfold alnum; simp; omega
  · intro b; simp [inRun]
  · intro w W x hx hb
    exact (plain_calls x hx W).mono fun e w' ⟨h1, h2⟩ => ⟨h1, h2 ▸ Below.refl _ _⟩
theorem dash_calls (c : Nat) (h1 : c ≤ 1114111) (w : World) :
    Calls Tryz.prog 209 #[.int .i32 (c : Int)] w fun e w' => e = .returned (.bool (alnum c || ((c : Int) == 45))) ∧ w = w' := by
  go_enter Tryz.func209, Tryz.ntmps209
  go_wp2_with fail
  refine (plain_calls c h1 _).mono ?_
  rintro e w1 ⟨rfl, rfl⟩
  generalize hq : alnum c = q
  have HQ := Lib.hid hq
  clear hq
  cases q
  · go_wp2
    go_ret
    exact ⟨ret_bool (by rw [HQ.out]; rfl), rfl⟩
  · go_wp2
    go_ret
    exact ⟨ret_bool (by rw [HQ.out]; rfl), rfl⟩
theorem tells_dash : Tells 209 true := by
  refine ⟨enters_of Tryz.func209 (by kernel_rfl) rfl, fun c => alnum c || ((c : Int) == 45), ?_, ?_, ?_⟩
  · intro c h
    have : ((c : Int) == 45) = false := by rw [beq_eq_false_iff_ne]; omega
    unfold alnum
    simp [this]
    omega
  · intro b
    show (alnum b.toNat || ((b.toNat : Int) == 45)) = inRun true b
    unfold inRun
    rw [Bool.true_and]
    congr 1
    rw [Bool.eq_iff_iff, beq_iff_eq, beq_iff_eq]
    constructor
    · intro h; exact UInt8.toNat_inj.1 (by show b.toNat = 45; omega)
    · rintro rfl; rfl
  · intro w W x hx hb
    exact (dash_calls x hx W).mono fun e w' ⟨h1, h2⟩ => ⟨h1, h2 ▸ Below.refl _ _⟩
set_option maxHeartbeats 1600000 in
theorem while_calls (rb : Nat) (l : List UInt8) (g : Nat) (d : Bool) (hg : Tells g d) (w : World) (h : At w rb l false) :
    Calls Tryz.prog 163 #[.pointer (some ⟨rb, 0, none⟩), .func (.func g) #[] #[]] w fun e w' => e = .returned (.string (mkS (run d l).1)) ∧ Step w w' rb (run d l).2 false := by
  obtain ⟨eg, p, hp1, hp2, hp3⟩ := hg
  have HS := Lib.hid (Step.refl h)
  have hlen := h.len
  have hT : ∀ W, Calls Tryz.prog 207 #[.string (mkS l), .func (.func g) #[] #[]] W fun e w' => e = .returned (.string (mkS (run d l).2)) ∧ Below W.heap.size W w' := fun W => by
    refine (Tryz.strings_TrimLeftFunc_grows g #[] eg p (mkS l) W (hp3 W)).mono ?_
    rintro e w' ⟨h1, h2⟩
    refine ⟨?_, h2⟩
    rw [h1, trimF_eq p hp1 l]
    unfold run
    congr 3
    congr 1
    funext b
    exact hp2 b
  have HT := Lib.hid hT
  have hr2 : (run d l).2.length ≤ l.length := List.Sublist.length_le (List.dropWhile_sublist _)
  have HX : Hid ((mkS l).extract 0 (l.length - (run d l).2.length) = mkS (run d l).1) := Lib.hid (by
    rw [mkS_extract, List.drop_zero, Nat.sub_zero]
    exact congrArg mkS (take_while (inRun d) l))
  clear hT eg hp1 hp2 hp3
  generalize (run d l).2 = q at *
  generalize (run d l).1 = u at *
  obtain ⟨c0, c1, f0, f1, _⟩ := h
  have zl := mkS_size l
  have zq := mkS_size q
  go_enter Tryz.func163, Tryz.ntmps163
  go_wp2_with fail
  refine (HT.out _).mono ?_
  rintro e w1 ⟨rfl, hb1⟩
  have HS1 := Lib.hid (HS.out.below hb1)
  clear c0 c1 f0 f1 hb1 HT
  obtain ⟨c0, c1, f0, f1, _⟩ := HS1.out.at'
  have hw1 : IntKind.i64.wrap ((l.length : Int) - (q.length : Int)) = (l.length : Int) - (q.length : Int) := IntWalk.i64_in _ (by omega)
  have hw2 : (0 : Int) ≤ (l.length : Int) - (q.length : Int) := by omega
  have hw3 : ((l.length : Int) - (q.length : Int)).toNat = l.length - q.length := by omega
  have hw4 : (l.length : Int) - (q.length : Int) ≤ (l.length : Int) := by omega
  have hw5 : (q.length : Int) ≤ (l.length : Int) := by omega
  go_wp2
  go_quiet (fail)
  go_wp2
  go_ret
  exact ⟨(ret_str HX.out : Ending.returned (.string ((mkS l).extract 0 (l.length - q.length))) = .returned (.string (mkS u))), (HS1.out.below (bel_drewN (Below.refl _ _) _)).set0 (by omega)⟩
end Go.Proofs.YtnplommdgfgboaaGreatDoor.Prg
/-
  The program's way and the reference's way of a line are one.
-/
set_option linter.unusedVariables false
set_option linter.unusedSimpArgs false
namespace Go.Proofs.YtnplommdgfgboaaGreatDoor.LineEq
open Go.Lib Go.Proofs.YtnplommdgfgboaaGreatDoor.B Go.Proofs.YtnplommdgfgboaaGreatDoor.Utf Go.Proofs.YtnplommdgfgboaaGreatDoor.TermPure Go.Proofs.YtnplommdgfgboaaGreatDoor.LinesPure

theorem up_ways (stop : UInt8) (lit : Bool) : ∀ (n : Nat) (l : List UInt8), l.length ≤ n →
    up stop lit true l = up stop lit false l ∨ (up stop lit true l = none ∧ ∃ o r, up stop lit false l = some (o, r) ∧ ((10 : UInt8) ∈ o ∨ (13 : UInt8) ∈ o))
  | n, [], _ => .inl rfl
  | 0, b :: l, h => by simp at h
  | n + 1, b :: l, h => by
    simp at h
    by_cases h1 : b = stop
    · subst h1
      left
      rw [up_stop, up_stop]
    · by_cases h2 : b = 92
      · cases he : esc lit l with
        | none => left; rw [up_esc_none stop lit true b l h1 h2 he, up_esc_none stop lit false b l h1 h2 he]
        | some p =>
          obtain ⟨o1, r1⟩ := p
          have hl := esc_len lit l o1 r1 he
          rw [up_esc stop lit true b l o1 r1 h1 h2 he, up_esc stop lit false b l o1 r1 h1 h2 he]
          rcases up_ways stop lit n r1 (by omega) with e | ⟨e1, o, r, e2, e3⟩
          · left; rw [e]
          · right
            rw [e1, e2]
            exact ⟨rfl, _, _, rfl, by rcases e3 with e | e <;> simp [e]⟩
      · by_cases h3 : b = 10 ∨ b = 13
        · rw [up_line stop lit true b l h1 h2 ⟨rfl, h3⟩, up_other stop lit false b l h1 h2 (by rintro ⟨h, _⟩; cases h)]
          cases hu : up stop lit false l with
          | none => left; rfl
          | some p =>
            obtain ⟨o, r⟩ := p
            right
            exact ⟨rfl, _, _, rfl, by rcases h3 with e | e <;> simp [e]⟩
        · rw [up_other stop lit true b l h1 h2 (fun h => h3 h.2), up_other stop lit false b l h1 h2 (by rintro ⟨h, _⟩; cases h)]
          rcases up_ways stop lit n l h with e | ⟨e1, o, r, e2, e3⟩
          · left; rw [e]
          · right
            rw [e1, e2]
            exact ⟨rfl, _, _, rfl, by rcases e3 with e | e <;> simp [e]⟩
theorem rune_mem : ∀ (n : Nat) (l : List UInt8), l.length ≤ n → validD l = true → ∀ b ∈ l, b.toNat < 128 → b.toNat ∈ runes l
  | n, [], _, _, b, hb, _ => by cases hb
  | 0, c :: l, h, _, _, _, _ => by simp at h
  | n + 1, c :: l, h, hv, b, hb, hlt => by
    simp at h
    rcases Utf.step (c :: l) (by simp) hv with ⟨b', t, e, hb', hd, ht⟩ | ⟨ch, t, x, hc⟩
    · cases e
      rw [runes_ascii c l hb']
      rcases List.mem_cons.1 hb with rfl | hb
      · simp
      · exact List.mem_cons_of_mem _ (rune_mem n l h ht b hb hlt)
    · rw [runes_chunk hc]
      rw [hc.eq] at hb
      rcases List.mem_append.1 hb with hb | hb
      · have := hc.high b hb; omega
      · have hl := congrArg List.length hc.eq
        rw [List.length_append, List.length_cons] at hl
        have := hc.two
        exact List.mem_cons_of_mem _ (rune_mem n t (by omega) hc.rest b hb hlt)
theorem iri_no_line (o : List UInt8) (h : (10 : UInt8) ∈ o ∨ (13 : UInt8) ∈ o) : isIRI o = false := by
  rw [Bool.eq_false_iff]
  intro hi
  unfold isIRI at hi
  simp only [Bool.and_eq_true] at hi
  obtain ⟨_, _, hv, ha⟩ := hi
  rw [List.all_eq_true] at ha
  rcases h with h | h
  · have := ha _ (rune_mem _ o (Nat.le_refl _) hv _ h (by decide)); exact absurd this (by decide)
  · have := ha _ (rune_mem _ o (Nat.le_refl _) hv _ h (by decide)); exact absurd this (by decide)
/-- One term, read in either way. -/
theorem term_ways (l : List UInt8) : term true l = term false l ∨ (term false l = none ∧ ∃ t r, term true l = some (t, r) ∧ ([94, 94] : List UInt8).isPrefixOf r = true) := by
  unfold term rawTerm
  cases c1 : ([60] : List UInt8).isPrefixOf l with
  | true =>
    left
    simp only [if_true]
    rcases up_ways 62 false _ (l.drop 1) (Nat.le_refl _) with e | ⟨e1, o, r, e2, e3⟩
    · rw [e]
    · rw [e1, e2]
      have hn : is ⟨1, o, []⟩ = false := by
        unfold is
        rw [if_pos rfl, iri_no_line o e3]
        rfl
      simp [hn]
  | false =>
    simp only [Bool.false_eq_true, if_false]
    cases c2 : ([95, 58] : List UInt8).isPrefixOf l with
    | true => left; rfl
    | false =>
      simp only [Bool.false_eq_true, if_false]
      cases c3 : ([34] : List UInt8).isPrefixOf l with
      | false => left; rfl
      | true =>
        simp only [if_true]
        unfold literal
        cases hu : up 34 true true (l.drop 1) with
        | none => left; rfl
        | some p =>
          obtain ⟨t, r⟩ := p
          dsimp only
          cases d1 : ([64] : List UInt8).isPrefixOf r with
          | true => left; rfl
          | false =>
            simp only [Bool.false_eq_true, if_false]
            cases d2 : ([94, 94] : List UInt8).isPrefixOf r with
            | false => left; rfl
            | true =>
              simp only [if_true]
              cases d3 : ([60] : List UInt8).isPrefixOf (r.drop 2) with
              | true =>
                left
                simp only [if_true]
                rcases up_ways 62 false _ (r.drop 3) (Nat.le_refl _) with e | ⟨e1, o, q, e2, e3⟩
                · rw [e]
                · rw [e1, e2]
                  have hn : is ⟨5, t, o⟩ = false := by
                    unfold is
                    rw [if_neg (by simp), if_neg (by simp), if_neg (by simp), if_neg (by simp), if_pos rfl, iri_no_line o e3]
                    simp
                  simp [hn]
              | false =>
                simp only [Bool.false_eq_true, if_false]
                by_cases hi : is ⟨3, t, []⟩ = true
                · right
                  rw [if_pos hi]
                  exact ⟨by first | rfl | trivial, _, _, rfl, d2⟩
                · left
                  rw [if_neg hi]
theorem caret_stop (r : List UInt8) (h : ([94, 94] : List UInt8).isPrefixOf r = true) : blanks r = r ∧ (∀ ref, term ref r = none) ∧ ([46] : List UInt8).isPrefixOf r = false := by
  obtain ⟨t, rfl⟩ : ∃ t, r = 94 :: t := by
    cases r with
    | nil => cases h
    | cons b t =>
      rw [List.isPrefixOf, Bool.and_eq_true, beq_iff_eq] at h
      exact ⟨t, by rw [← h.1]⟩
  refine ⟨rfl, fun ref => ?_, rfl⟩
  have h1 : ([60] : List UInt8).isPrefixOf (94 :: t) = false := rfl
  have h2 : ([95, 58] : List UInt8).isPrefixOf (94 :: t) = false := rfl
  have h3 : ([34] : List UInt8).isPrefixOf (94 :: t) = false := rfl
  rw [term, rawTerm, h1, h2, h3]
  rfl
theorem lineOf_one (s : List UInt8) : lineOf true s = lineOf false s := by
  unfold lineOf
  split
  · rfl
  · split
    · rfl
    · rcases term_ways (blanks s) with e | ⟨e1, t, r, e2, e3⟩
      · rw [e]
        cases term false (blanks s) with
        | none => rfl
        | some x =>
          obtain ⟨a, r⟩ := x
          dsimp only
          rcases term_ways (blanks r) with e | ⟨e1, t, r2, e2, e3⟩
          · rw [e]
            cases term false (blanks r) with
            | none => rfl
            | some x =>
              obtain ⟨p, r2⟩ := x
              dsimp only
              rcases term_ways (blanks r2) with e | ⟨e1, t, r3, e2, e3⟩
              · rw [e]
              · obtain ⟨c1, c2, c3⟩ := caret_stop r3 e3
                rw [e1, e2]
                dsimp only
                rw [c1, c3]
                simp
          · obtain ⟨c1, c2, c3⟩ := caret_stop r2 e3
            rw [e1, e2]
            dsimp only
            rw [c1, c2]
      · obtain ⟨c1, c2, c3⟩ := caret_stop r e3
        rw [e1, e2]
        dsimp only
        rw [c1, c2]
end Go.Proofs.YtnplommdgfgboaaGreatDoor.LineEq

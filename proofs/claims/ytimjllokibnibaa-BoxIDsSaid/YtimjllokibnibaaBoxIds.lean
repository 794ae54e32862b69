/-
  The law BoxIDs.
-/
import Derived.Test.YtimjllokibnibaaBoxLaws2
set_option linter.unusedVariables false
set_option linter.unusedSimpArgs false
namespace Go.Proofs.Ytimjllokibnibaa.BoxIds
open Go.RowKit Go.Proofs.Ytimjllokibnibaa.CrcPure Go.Proofs.Ytimjllokibnibaa.BoxPure Go.Proofs.Ytimjllokibnibaa.B Go.Proofs.Ytimjllokibnibaa.CrcWalk Go.Proofs.Ytimjllokibnibaa.CrcLaws Go.Proofs.Ytimjllokibnibaa.BoxWalk Go.Proofs.Ytimjllokibnibaa.BoxPack Go.Proofs.Ytimjllokibnibaa.BoxRef Go.Proofs.Ytimjllokibnibaa.BoxUnpack Go.Proofs.Ytimjllokibnibaa.BoxRefUn Go.Proofs.Ytimjllokibnibaa.BoxSmall Go.Proofs.Ytimjllokibnibaa.BoxLaws

/-- The sections of the law: so many, each of one byte. -/
def ids (f s : Int) : Nat → List Sec
  | 0 => []
  | k + 1 => ids f s k ++ [(f + k * s, [UInt8.ofNat k])]
theorem ids_length (f s : Int) : ∀ k, (ids f s k).length = k
  | 0 => rfl
  | k + 1 => by rw [ids, List.length_append, ids_length f s k]; rfl
theorem ids_total (f s : Int) : ∀ k, total (ids f s k) = k
  | 0 => rfl
  | k + 1 => by rw [ids, total_append, ids_total f s k]; rfl
theorem ids_last (f s : Int) (n : Int) (k : Nat) : lastID n (ids f s (k + 1)) = f + k * s := by rw [ids, lastID_snoc]
/-- Whether the first so many may be packed, as the law reckons it. -/
def good (f s : Int) : Nat → Bool
  | 0 => true
  | k + 1 => good f s k && (decide (1 ≤ f + k * s) && (decide (f + k * s ≤ 255) && (k == 0 || decide (0 < s))))
theorem good_rising (f s : Int) : ∀ k, rising 0 (ids f s k) = good f s k
  | 0 => rfl
  | 1 => by
    rw [ids, rising_snoc, good]
    simp [ids, good, rising, lastID]
    by_cases h : 0 < f
    · simp [h, show (1 : Int) ≤ f from h]
    · simp [h, show ¬ (1 : Int) ≤ f from by omega]
  | k + 2 => by
    rw [ids, rising_snoc, good, ids_last, good_rising f s (k + 1)]
    cases hg : good f s (k + 1) with
    | false => simp
    | true =>
      have h1 : 1 ≤ f + k * s := by
        rw [good] at hg
        simp at hg
        exact hg.2.1
      have e : f + ((k + 1 : Nat) : Int) * s = f + k * s + s := by rw [Int.natCast_add, Int.add_mul]; simp; omega
      rw [e]
      simp only [Bool.true_and]
      by_cases hs : 0 < s
      · simp [hs]
        by_cases hq : f + k * s + s ≤ 255
        · simp [hq]; omega
        · simp [hq]
      · simp [hs]
        omega
theorem may_ids (f s : Int) (k : Nat) (hk : k ≤ 12) : May (ids f s k) ↔ k ≤ 8 ∧ good f s k = true := by
  rw [may_iff, ids_length, ids_total, good_rising]
  constructor
  · rintro ⟨a, b, _⟩; exact ⟨b, a⟩
  · rintro ⟨a, b⟩; exact ⟨b, a, by omega⟩
set_option maxRecDepth 100000 in
set_option maxHeartbeats 3200000 in
theorem ids_walk (w : World) (n : Int) (hn : -9223372036854775808 ≤ n ∧ n ≤ 9223372036854775807) (f : Int) (hf : -9223372036854775808 ≤ f ∧ f ≤ 9223372036854775807) (s : Int) (hs : -9223372036854775808 ≤ s ∧ s ≤ 9223372036854775807) :
    Calls Try.prog 10 #[.int .i64 n, .int .i64 f, .int .i64 s] w fun e w' => e = .returned (.bool true) ∧ Below w.heap.size w w' := by
  clear hn hf hs
  by_cases c0 : n < 0
  · have d0 : decide (n < 0) = true := decide_eq_true c0
    go_enter Try.func10, Try.ntmps10
    go_wp2
    go_ret
    exact ⟨rfl, Below.refl _ _⟩
  have d0 : decide (n < 0) = false := decide_eq_false c0
  by_cases c1 : 12 < n
  · have d1 : decide (12 < n) = true := decide_eq_true c1
    go_enter Try.func10, Try.ntmps10
    go_wp2
    go_ret
    exact ⟨rfl, Below.refl _ _⟩
  have d1 : decide (12 < n) = false := decide_eq_false c1
  by_cases c2 : f < -5
  · have d2 : decide (f < -5) = true := decide_eq_true c2
    go_enter Try.func10, Try.ntmps10
    go_wp2
    go_ret
    exact ⟨rfl, Below.refl _ _⟩
  have d2 : decide (f < -5) = false := decide_eq_false c2
  by_cases c3 : 300 < f
  · have d3 : decide (300 < f) = true := decide_eq_true c3
    go_enter Try.func10, Try.ntmps10
    go_wp2
    go_ret
    exact ⟨rfl, Below.refl _ _⟩
  have d3 : decide (300 < f) = false := decide_eq_false c3
  by_cases c4 : s < -2
  · have d4 : decide (s < -2) = true := decide_eq_true c4
    go_enter Try.func10, Try.ntmps10
    go_wp2
    go_ret
    exact ⟨rfl, Below.refl _ _⟩
  have d4 : decide (s < -2) = false := decide_eq_false c4
  by_cases c5 : 100 < s
  · have d5 : decide (100 < s) = true := decide_eq_true c5
    go_enter Try.func10, Try.ntmps10
    go_wp2
    go_ret
    exact ⟨rfl, Below.refl _ _⟩
  have d5 : decide (100 < s) = false := decide_eq_false c5
  obtain ⟨N, rfl⟩ : ∃ N : Nat, n = (N : Int) := ⟨n.toNat, by omega⟩
  have hN : N ≤ 12 := by omega
  have hMay := Lib.hid (may_ids f s N hN)
  have w8 : IntKind.i64.wrap (8 * (N : Int)) = 8 * (N : Int) := by rw [IntKind.wrap_i64]; omega
  have w9 : IntKind.i64.wrap (9 + 8 * (N : Int)) = 9 + 8 * (N : Int) := by rw [IntKind.wrap_i64]; omega
  generalize hb8 : decide ((N : Int) ≤ 8) = b8 at *
  have HB8 : Hid (b8 = decide (N ≤ 8)) := Lib.hid (by rw [← hb8]; simp; omega)
  go_enter Try.func10, Try.ntmps10
  go_wp2_with fail
  go_loopw [7, 8, 9] (fun v7 v8 vi wr => ∃ (k : Nat) (g : Bool), k ≤ N ∧ vi = .int .i64 k ∧ v8 = .bool g ∧ Hid (g = (b8 && good f s k)) ∧ Hid (secK.own 42 wr w.heap.size T v7 (ids f s k)) ∧ Hid (Below w.heap.size w wr)) (fun _ _ vi _ => N - (intOf vi).toNat)
  case atStart => exact ⟨0, b8, by omega, rfl, rfl, Lib.hid (by simp [good]), Lib.hid (Kd.own_nil _ _ _ _ _), Lib.hid (Below.refl _ _)⟩
  case round =>
    obtain ⟨k, g, hk, rfl, rfl, HG, HO, HB⟩ := hrel
    by_cases hlt : k < N
    · have hd : decide (k < N) = true := decide_eq_true hlt
      have hp1 : (k : Int) * s ≤ 1200 := by
        have := Int.mul_le_mul_of_nonneg_left (show s ≤ 100 by omega) (show (0 : Int) ≤ k by omega)
        omega
      have hp2 : -24 ≤ (k : Int) * s := by
        have := Int.mul_le_mul_of_nonneg_left (show (-2 : Int) ≤ s by omega) (show (0 : Int) ≤ k by omega)
        omega
      have HG' : Hid (good f s (k + 1) = (good f s k && (decide (1 ≤ f + k * s) && (decide (f + k * s ≤ 255) && (k == 0 || decide (0 < s)))))) := Lib.hid rfl
      have HI' : Hid (ids f s (k + 1) = ids f s k ++ [(f + k * s, [UInt8.ofNat k])]) := Lib.hid rfl
      have hil := ids_length f s k
      obtain ⟨p, hp⟩ : ∃ p, p = (k : Int) * s := ⟨_, rfl⟩
      rw [← hp] at hp1 hp2 HG' HI'
      have wp : IntKind.i64.wrap ((k : Int) * s) = p := by rw [← hp, IntKind.wrap_i64]; omega
      clear hp
      obtain ⟨d, hd0⟩ : ∃ d, d = f + p := ⟨_, rfl⟩
      rw [← hd0] at HG' HI'
      have wfp : IntKind.i64.wrap (f + p) = d := by rw [← hd0, IntKind.wrap_i64]; omega
      have hid : -300 ≤ d ∧ d ≤ 2000 := by omega
      clear hd0
      have HY : Hid ((k : Int) = ((UInt8.ofNat k).toNat : Int)) := Lib.hid (by rw [UInt8.toNat_ofNat']; omega)
      have wk : IntKind.u8.wrap (k : Int) = (k : Int) := by rw [IntKind.wrap_u8]; omega
      have HX : Hid ((g && (decide (1 ≤ d) && (decide (d ≤ 255) && (k == 0 || decide (0 < s))))) = (b8 && good f s (k + 1))) := Lib.hid (by rw [HG'.out, HG.out]; simp [Bool.and_assoc])
      generalize hgg : (b8 && good f s (k + 1)) = g' at *
      have HGG := Lib.hid hgg.symm
      clear hgg
      generalize ids f s k = l at *
      generalize hll : ids f s (k + 1) = l' at *
      have HLL := Lib.hid hll
      clear hll
      clear HG HG' hp1 hp2
      go_upto_region 9 with fail
      go_cut [8] (fun v8 wx => v8 = .bool g' ∧ wx = wr)
      case first =>
        clear wp wfp wk hd HO HB HY HI'
        have hX := HX.out
        clear HX
        cases g with
        | false =>
          obtain rfl : g' = false := by simpa using hX.symm
          go_wp2_with fail
          go_meet
          exact ⟨rfl, rfl⟩
        | true =>
          by_cases q1 : 1 ≤ d
          · have e1 : decide (1 ≤ d) = true := decide_eq_true q1
            by_cases q2 : d ≤ 255
            · have e2 : decide (d ≤ 255) = true := decide_eq_true q2
              by_cases q3 : k = 0
              · subst q3
                obtain rfl : g' = true := by simpa [q1, q2] using hX.symm
                go_wp2_with fail
                go_meet
                exact ⟨rfl, rfl⟩
              · have e3 : ((k : Int) == 0) = false := by rw [beq_eq_false_iff_ne]; omega
                have e4 : (k == 0) = false := by rw [beq_eq_false_iff_ne]; omega
                rw [e1, e2, e4] at hX
                by_cases q4 : 0 < s
                · have e5 : decide (0 < s) = true := decide_eq_true q4
                  obtain rfl : g' = true := by rw [e5] at hX; simpa using hX.symm
                  clear e4 hX
                  go_wp2_with fail
                  go_meet
                  exact ⟨rfl, rfl⟩
                · have e5 : decide (0 < s) = false := decide_eq_false q4
                  obtain rfl : g' = false := by rw [e5] at hX; simpa using hX.symm
                  clear e4 hX
                  go_wp2_with fail
                  go_meet
                  exact ⟨rfl, rfl⟩
            · have e2 : decide (d ≤ 255) = false := decide_eq_false q2
              obtain rfl : g' = false := by rw [e2] at hX; simpa using hX.symm
              clear hX
              go_wp2_with fail
              go_meet
              exact ⟨rfl, rfl⟩
          · have e1 : decide (1 ≤ d) = false := decide_eq_false q1
            obtain rfl : g' = false := by rw [e1] at hX; simpa using hX.symm
            clear hX
            go_wp2_with fail
            go_meet
            exact ⟨rfl, rfl⟩
      case rest =>
        obtain ⟨rfl, rfl⟩ := hcut
        have HOw := Lib.hid (Kd.own_alloc HO.out (.cells #[.int .u8 (k : Int)] 5))
        have HBw := Lib.hid (bel_alloc HB.out (.cells #[.int .u8 (k : Int)] 5))
        have hne : some wc.heap.size ≠ u7.ownBlock := fun e => by
          have := (Kd.own_lt HO.out _ e.symm).2
          omega
        have HMs : Hid (secK.M (wc.alloc (.cells #[.int .u8 (k : Int)] 5)) (fun j => T j ∧ some j ≠ u7.ownBlock) (d, [UInt8.ofNat k]) [.int .i64 d, .slice (some ⟨wc.heap.size, 0, none⟩) 1 1]) :=
          Lib.hid ⟨[_], [_], rfl, ⟨rfl, by dsimp only; omega⟩, Kd.u8_sl (l := [UInt8.ofNat k]) (by simp) (by simp [maxLen]) (fun h => by cases h) (Kd.row_u8 (Kd.bi_new rfl) ⟨trivial, hne⟩ (by exact congrArg (fun z : Int => [Value.int .u8 z]) HY.out))⟩
        clear HO HB HX hne
        go_wp2_with (at_builtin; go_loud (refine Kd.own_app1 secK w.heap.size rfl (.tmp 64) (.tmp 70) 34 42 (.agg #[.int .i64 0, .slice none 0 0]) 32 rfl Try.underlying34 info_sec rfl (by decide) u7 l (d, [UInt8.ofNat k]) [.int .i64 d, .slice (some ⟨wc.heap.size, 0, none⟩) 1 1] T (by simp [Act.eval, Act.put]) (by simp [Act.eval, Act.put]) HOw.out HMs.out HBw.out HBw.out.size (by omega) ?_); intro v2 w2 ho2 hb2 hg2 hv2; have HO2 := Lib.hid ho2; have HB2 := Lib.hid hb2; clear ho2 hb2 hg2 hv2)
        go_roundw
        case rel => exact ⟨k + 1, g', by omega, by go_num, rfl, HGG, Lib.hid (by rw [HLL.out, HI'.out]; exact HO2.out), HB2⟩
        case measure => simp [intOf]; omega
    · obtain rfl : k = N := by omega
      have hd : decide (k < k) = false := by simp
      have HP := Lib.hid (pack_calls (ids f s k) u7 wr (Kd.own_sl HO.out (fun _ _ => trivial) (fun _ _ => trivial)))
      have hgm : g = true ↔ May (ids f s k) := by
        rw [hMay.out, HG.out, HB8.out]; simp
      have hfl : (file (ids f s k)).length = 9 + 8 * k := by rw [file_length, ids_length, ids_total]; omega
      generalize ids f s k = l at *
      clear HG hMay HO HB8 hb8
      by_cases hM : May l
      · obtain rfl : g = true := hgm.2 hM
        have hMn : ¬ ¬ May l := fun h => h hM
        clear hM hgm
        go_wp2_with fail
        refine HP.out.mono ?_
        clear HP
        rintro e w2 ⟨hb2, ⟨_, vp, rfl, hop⟩ | ⟨hN', _⟩⟩
        · have HB2 := Lib.hid (bel_step HB.out hb2)
          obtain ⟨Ap, cp, rfl, _, _⟩ := Kd.own_slice hop
          clear hop hb2
          have e9 : (((file l).length : Int) == 9 + 8 * (k : Int)) = true := by rw [beq_iff_eq]; omega
          generalize (file l).length = fl at *
          clear hfl
          go_wp2_with fail
          refine (BoxSmall.known_calls _).mono ?_
          rintro e w9 ⟨rfl, hb9⟩
          have HB9 := Lib.hid (bel_step HB2.out hb9)
          clear hb9
          go_wp2_with fail
          go_ret
          exact ⟨rfl, HB9.out⟩
        · exact absurd hN' hMn
      · obtain rfl : g = false := by
          cases g with
          | false => rfl
          | true => exact absurd (hgm.1 rfl) hM
        clear hgm
        go_wp2_with fail
        refine HP.out.mono ?_
        clear HP
        rintro e w2 ⟨hb2, ⟨hM', _⟩ | ⟨_, rfl⟩⟩
        · exact absurd hM' hM
        · have HB2 := Lib.hid (bel_step HB.out hb2)
          clear hb2
          go_wp2_with fail
          refine (BoxSmall.known_calls _).mono ?_
          rintro e w9 ⟨rfl, hb9⟩
          have HB9 := Lib.hid (bel_step HB2.out hb9)
          clear hb9
          go_wp2_with fail
          go_ret
          exact ⟨rfl, HB9.out⟩
end Go.Proofs.Ytimjllokibnibaa.BoxIds

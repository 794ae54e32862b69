/-
  What strings.IndexRune answers beyond ASCII, over a text of ASCII; the program's escape.
-/
import Derived.Test.YtmcoloapiiakbaaGreatDoorPrg2
import Derived.Laws.RangeAny
import Derived.Laws.RangeString
import Derived.Laws.Runes
import Derived.IntWalk
set_option linter.unusedVariables false
set_option linter.unusedSimpArgs false
namespace Go.Proofs.YtmcoloapiiakbaaGreatDoor.Prg
open Go.RowKit Go.Lib Go.Proofs.YtmcoloapiiakbaaGreatDoor.B Go.Proofs.YtmcoloapiiakbaaGreatDoor.Rd Go.Proofs.YtmcoloapiiakbaaGreatDoor.Utf Go.Proofs.YtmcoloapiiakbaaGreatDoor.TermPure Go.Proofs.YtmcoloapiiakbaaGreatDoor.LinesPure Go.Proofs.YtmcoloapiiakbaaGreatDoor.Tx Go.Proofs.YtmcoloapiiakbaaGreatDoor.Env Go.Proofs.YtmcoloapiiakbaaGreatDoor.Bld

theorem quiet_add_same {P : Program} {f : FuncId} {args : Array Value} {w : World} {a n : Nat} {v : Value}
    (h : Calls P f args (w.drewN (a + n)) fun e w' => e = .returned v ∧ w' = w.drewN (a + n)) :
    Calls P f args (w.drewN (a + n)) fun e w'' => e = .returned v ∧ ∃ m, w'' = w.drewN (a + m) :=
  h.mono fun _ _ ⟨he, hm⟩ => ⟨he, n, hm⟩
theorem indexByte_no : ∀ (l : List UInt8) (c : UInt8), (∀ b ∈ l, b ≠ c) → indexByte l c = -1
  | [], c, h => rfl
  | b :: l, c, h => by
    have hb : (b == c) = false := by rw [beq_eq_false_iff_ne]; exact h b (by simp)
    have ih := indexByte_no l c (fun x hx => h x (by simp [hx]))
    unfold indexByte
    rw [hb, ih]
    rfl
set_option maxRecDepth 100000 in
set_option maxHeartbeats 1600000 in
theorem indexRune_none_calls (L : List UInt8) (w : World) :
    Calls Tryz.prog 126 #[.string (mkS L), .int .i32 (-1)] w fun e w' => e = .returned (.int .i64 (-1)) ∧ Below w.heap.size w w' := by
  go_enter Tryz.func126, Tryz.ntmps126
  go_wp2_with fail
  refine (validRune_calls (-1) _).mono ?_
  rintro e w1 ⟨rfl, rfl⟩
  rw [show Lib.validRune (-1) = false from rfl]
  go_wp2
  go_ret
  exact ⟨rfl, Below.refl _ _⟩
set_option maxRecDepth 100000 in
set_option maxHeartbeats 1600000 in
theorem indexRune_err_calls (L : List UInt8) (hL : ∀ b ∈ L, b.toNat < 128) (hlen : L.length ≤ 1000) (w : World) :
    Calls Tryz.prog 126 #[.string (mkS L), .int .i32 65533] w fun e w' => e = .returned (.int .i64 (-1)) ∧ Below w.heap.size w w' := by
  have z := mkS_size L
  have HL := Lib.hid hL
  clear hL
  go_enter Tryz.func126, Tryz.ntmps126
  go_wp2
  go_loopw [] (fun wr => ∃ pos : Nat, wr = w.iter (mkS L) pos) (fun wr => L.length - wr.iterPos w.heap.size)
  case atStart => exact ⟨0, rfl⟩
  case round =>
    obtain ⟨pos, rfl⟩ := hrel
    by_cases hp : pos < L.length
    · have hp' : pos < (mkS L).size := by rw [z]; exact hp
      obtain ⟨b, hb0⟩ : ∃ b, L[pos] = b := ⟨_, rfl⟩
      have hg : (mkS L)[pos]'hp' = b := (Rd.mkS_get L pos hp' hp).trans hb0
      have hb : b.toNat < 128 := by rw [← hb0]; exact HL.out _ (List.getElem_mem hp)
      have hnx : ∀ ty, (Instr.next (.pointer (some ⟨w.heap.size, 0, none⟩)) true ty).run Tryz.prog (w.iter (mkS L) pos) = .ok (.tuple #[.bool true, .int .i64 pos, .int .i32 (b.toNat : Int)]) (w.iter (mkS L) (pos + 1)) := fun ty => by
        have := run_next_ascii (P := Tryz.prog) w (mkS L) pos ty hp' (by rw [hg]; exact hb)
        rw [hg] at this
        exact this
      have hne : ((b.toNat : Int) == 65533) = false := by rw [beq_eq_false_iff_ne]; omega
      clear hb0 hg hb
      go_wp2
      go_roundw
      case rel => exact ⟨pos + 1, rfl⟩
      case measure => simp; omega
    · have hnx : ∀ ty, (Instr.next (.pointer (some ⟨w.heap.size, 0, none⟩)) true ty).run Tryz.prog (w.iter (mkS L) pos) = .ok (.tuple #[.bool false]) (w.iter (mkS L) pos) := fun ty => run_next_end w (mkS L) pos ty (by rw [z]; exact hp)
      go_wp2
      go_ret
      exact ⟨rfl, (Below.refl _ _).alloc (Nat.le_refl _) _⟩
set_option maxRecDepth 100000 in
set_option maxHeartbeats 1600000 in
theorem indexRune_high_calls (L : List UInt8) (hL : ∀ b ∈ L, b.toNat < 128) (hlen : L.length ≤ 1000) (h4 : 4 ≤ L.length) (ch : List UInt8) (n : Nat) (h128 : 128 ≤ n) (hn : n ≤ 1114111) (hv : Lib.validRune (n : Int) = true) (he : encodeRune (n : Int) = ch) (hne : n ≠ 65533) (hhigh : ∀ b ∈ ch, 128 ≤ b.toNat) (h2 : 2 ≤ ch.length) (hc4 : ch.length ≤ 4) (w : World) :
    Calls Tryz.prog 126 #[.string (mkS L), .int .i32 (n : Int)] w fun e w' => e = .returned (.int .i64 (-1)) ∧ Below w.heap.size w w' := by
  have z := mkS_size L
  have henc : Utf8.encode (n : Int) = mkS ch := by rw [encode_eq n hv, he]
  obtain ⟨k, hk⟩ : ∃ k, ch.length = k + 1 := ⟨ch.length - 1, by omega⟩
  have zc : (mkS ch).size = k + 1 := by rw [mkS_size, hk]
  have hk3 : k ≤ 3 := by omega
  have hkL : k < L.length := by omega
  have hkc : k < ch.length := by omega
  have e1 : ((n : Int) == 65533) = false := by rw [beq_eq_false_iff_ne]; omega
  have e2 : decide ((n : Int) < 128) = false := decide_eq_false (by omega)
  have i0 : (0 : Int) ≤ (n : Int) := by omega
  obtain ⟨b1, hb1⟩ : ∃ b, L[k] = b := ⟨_, rfl⟩
  obtain ⟨b2, hb2⟩ : ∃ b, ch[k] = b := ⟨_, rfl⟩
  have hk1 : k < (mkS L).size := by rw [z]; exact hkL
  have hk2 : k < (mkS ch).size := by rw [zc]; omega
  have hg1 : (mkS L)[k]'hk1 = b1 := (Rd.mkS_get L k hk1 hkL).trans hb1
  have hg2 : (mkS ch)[k]'hk2 = b2 := (Rd.mkS_get ch k hk2 hkc).trans hb2
  have hl1 : b1.toNat < 128 := by rw [← hb1]; exact hL _ (List.getElem_mem hkL)
  have hl2 : 128 ≤ b2.toNat := by rw [← hb2]; exact hhigh _ (List.getElem_mem hkc)
  have hdiff : ((b1.toNat : Int) != (b2.toNat : Int)) = true := by rw [bne_iff_ne]; omega
  have hx : (mkS L).extract (k + 1) L.length = mkS (L.drop (k + 1)) := by rw [mkS_extract, List.take_of_length_le (by simp)]
  have HIB : ∀ W, Calls Tryz.prog 141 #[.string (mkS (L.drop (k + 1))), .int .u8 (b2.toNat : Int)] W fun e w' => e = .returned (.int .i64 (-1)) ∧ w' = W := fun W => by
    refine (Tryz.strings_IndexByte (mkS (L.drop (k + 1))) (b2.toNat : Int) W).mono ?_
    rintro e w' ⟨h1, h2⟩
    refine ⟨?_, h2⟩
    rw [h1]
    have : indexByte (mkS (L.drop (k + 1))).data.toList ((b2.toNat : Int)).toNat.toUInt8 = -1 := by
      apply indexByte_no
      intro b hb e
      have hb' : b ∈ L := List.mem_of_mem_drop hb
      have := hL b hb'
      have e2 : b.toNat = b2.toNat := by rw [e]; simp
      omega
    rw [this]
  have HI := Lib.hid HIB
  have zq := mkS_size (L.drop (k + 1))
  have hi1 : (k : Int) + 1 ≤ (L.length : Int) := by omega
  have hi2 : (k : Int) < (L.length : Int) := by omega
  have hi3 : (0 : Int) ≤ (k : Int) := by omega
  have hd : decide (k < L.length) = true := decide_eq_true hkL
  have hvr := Lib.hid hv
  clear hL he hne hhigh hb1 hb2 hl1 hl2 HIB hv h128 hn h2 hc4 hk hkc
  generalize L.drop (k + 1) = q at *
  go_enter Tryz.func126, Tryz.ntmps126
  go_wp2_with fail
  refine (validRune_calls (n : Int) _).mono ?_
  rintro e w1 ⟨rfl, rfl⟩
  rw [hvr.out]
  go_wp2
  go_step3
  go_wp2
  go_loopw [9, 10] (fun v9 v10 wr => v9 = .int .i64 k ∧ v10 = .int .i64 0 ∧ wr = w) (fun _ _ _ => 0)
  case atStart => exact ⟨by go_num, rfl, rfl⟩
  case round =>
    obtain ⟨rfl, rfl, rfl⟩ := hrel
    go_wp2
    go_step3
    go_wp2
    go_quiet (fail)
    go_wp2
    have hw1 : IntKind.i64.wrap ((k : Int) + 1) = (k : Int) + 1 := IntWalk.i64_in _ (by omega)
    have hw2 : (0 : Int) ≤ (k : Int) + 1 := by omega
    have hw3 : ((k : Int) + 1).toNat = k + 1 := by omega
    have hw4 : (k : Int) < (k : Int) + 1 := by omega
    have hw5 : (k : Int) < ((k + 1 : Nat) : Int) := by omega
    have hw6 : k < k + 1 := by omega
    go_quiet ((go_at_call 141; exact quiet_add_same (HI.out _)))
    go_wp2
    rw [Exit.noGoto_ret]
    simp (config := { zetaDelta := true }) only [Exit.inBlock, Exit.noGoto_ret, Exit.then]
    go_ret
    exact ⟨rfl, bel_drewN (Below.refl _ _) _⟩

/-! ### escape -/
def escL : List UInt8 := [116, 98, 110, 114, 102, 34, 39, 92]
def escTT : List UInt8 := [9, 8, 10, 13, 12, 34, 39, 92]
theorem escL_index : ∀ n : Fin 256, (indexByte escL (UInt8.ofNat n.val) = -1 ∧ escV (UInt8.ofNat n.val) = none) ∨ (∃ k : Fin 8, indexByte escL (UInt8.ofNat n.val) = (k.val : Int) ∧ escV (UInt8.ofNat n.val) = escTT[k.val]?) := by decide +kernel
theorem escL_byte (b : UInt8) : (indexByte escL b = -1 ∧ escV b = none) ∨ (∃ k : Nat, ∃ hk : k < 8, indexByte escL b = (k : Int) ∧ escV b = some (escTT[k]'hk)) := by
  have h := escL_index ⟨b.toNat, b.toNat_lt⟩
  rw [show UInt8.ofNat b.toNat = b from by simp] at h
  rcases h with h | ⟨⟨k, hk⟩, h1, h2⟩
  · exact .inl h
  · exact .inr ⟨k, hk, h1, by rw [h2]; exact List.getElem?_eq_getElem hk⟩
theorem indexRune_ascii_calls (b : UInt8) (hb : b.toNat < 128) (w : World) :
    Calls Tryz.prog 126 #[.string (mkS escL), .int .i32 (b.toNat : Int)] w fun e w' => e = .returned (.int .i64 (indexByte escL b)) ∧ Below w.heap.size w w' := by
  refine (Tryz.strings_IndexRune_ascii (mkS escL) (b.toNat : Int) w (by omega) (by omega)).mono ?_
  rintro e w' ⟨h1, h2⟩
  refine ⟨?_, by rw [h2]; exact Below.refl _ _⟩
  rw [h1]
  have : ((b.toNat : Int)).toNat.toUInt8 = b := by simp
  rw [this]
  rfl
theorem esc_sign (b : UInt8) (t : List UInt8) (lit : Bool) (h1 : b.toNat ≠ 117) (h2 : b.toNat ≠ 85) : esc lit (b :: t) = if lit then (match escV b with
      | some c => some ([c], t)
      | none => none) else none := by
  rw [esc, if_neg (fun e => h1 (by rw [e]; rfl)), if_neg (fun e => h2 (by rw [e]; rfl))]
  rfl
theorem escV_high (b : UInt8) (h : 128 ≤ b.toNat) : escV b = none := by
  unfold escV
  repeat' split
  all_goals first | rfl | (rename_i e; rw [e] at h; exact absurd h (by decide))
theorem esc_high (b : UInt8) (t : List UInt8) (lit : Bool) (h : 128 ≤ b.toNat) : esc lit (b :: t) = none := by
  rw [esc_sign b t lit (by omega) (by omega), escV_high b h]
  cases lit <;> rfl
/-- The rune that is taken ahead of an escape's end. -/
theorem indexRune_any_calls (l : List UInt8) (hne : l ≠ []) (hv : validD l = true) (w : World) :
    Calls Tryz.prog 126 #[.string (mkS escL), .int .i32 ((decodeL l).1 : Nat)] w fun e w' => (∃ i : Int, e = .returned (.int .i64 i) ∧ ((i = -1 ∧ 128 ≤ (decodeL l).1) ∨ ∃ b t, l = b :: t ∧ b.toNat < 128 ∧ i = indexByte escL b)) ∧ Below w.heap.size w w' := by
  rcases Utf.step l hne hv with ⟨b, t, rfl, hb, hd, ht⟩ | ⟨ch, t, c, hc⟩
  · rw [hd]
    refine (indexRune_ascii_calls b hb w).mono ?_
    rintro e w' ⟨h1, h2⟩
    exact ⟨⟨_, h1, .inr ⟨b, t, rfl, hb, rfl⟩⟩, h2⟩
  · rw [hc.dec]
    dsimp only
    have hL : ∀ b ∈ escL, b.toNat < 128 := by decide
    by_cases hne2 : c = 65533
    · subst hne2
      refine (indexRune_err_calls escL hL (by decide) w).mono ?_
      rintro e w' ⟨h1, h2⟩
      exact ⟨⟨_, h1, .inl ⟨rfl, hc.ge⟩⟩, h2⟩
    · refine (indexRune_high_calls escL hL (by decide) (by decide) ch c hc.ge hc.le hc.valid hc.enc hne2 hc.high hc.two hc.four w).mono ?_
      rintro e w' ⟨h1, h2⟩
      exact ⟨⟨_, h1, .inl ⟨rfl, hc.ge⟩⟩, h2⟩
set_option maxRecDepth 100000 in
set_option maxHeartbeats 3200000 in
theorem escape_calls (rb : Nat) (l : List UInt8) (lit : Bool) (hv : validD l = true) (w : World) (he : Env w) (hrb : lowB ≤ rb) (h : At w rb l false) :
    Calls Tryz.prog 110 #[.pointer (some ⟨rb, 0, none⟩), .bool lit] w fun e w' => NumPost w rb (esc lit l) e w' := by
  by_cases hne : l = []
  · subst hne
    have HA := Lib.hid h
    clear hv
    go_enter Tryz.func110, Tryz.ntmps110
    go_wp2_with fail
    refine (take_end_calls rb [] false (.inr rfl) _ HA.out).mono ?_
    rintro e w1 ⟨rfl, hs1⟩
    have HS1 := Lib.hid hs1
    clear hs1
    go_wp2_with fail
    refine (indexRune_none_calls escL _).mono ?_
    rintro e w2 ⟨rfl, hb2⟩
    have HS2 := Lib.hid (HS1.out.below hb2)
    obtain ⟨c0, c1, f0, f1, _⟩ := HS2.out.at'
    clear hb2
    cases lit
    · go_wp2
      go_ret
      exact ⟨_, _, rfl, HS2.out.set1 true⟩
    · go_wp2
      go_ret
      exact ⟨_, _, rfl, HS2.out.set1 true⟩
  · have HA := Lib.hid h
    have HE := Lib.hid he
    obtain ⟨r1, r2, r3, r4⟩ := rune_len l hne hv
    have HT := Lib.hid (take_calls rb l hne hv)
    have HI := Lib.hid (indexRune_any_calls l hne hv)
    have HD : Hid (∀ b t, l = b :: t → b.toNat < 128 → (decodeL l).1 = b.toNat ∧ l.drop (decodeL l).2 = t) := Lib.hid (fun b t e hb => by
      subst e
      rw [decodeL_ascii b t hb]
      exact ⟨rfl, rfl⟩)
    have HH : Hid (128 ≤ (decodeL l).1 → esc lit l = none) := Lib.hid (fun h => by
      cases l with
      | nil => rfl
      | cons b t =>
        by_cases hb : b.toNat < 128
        · rw [decodeL_ascii b t hb] at h
          dsimp only at h
          omega
        · exact esc_high b t lit (by omega))
    have R4 := Lib.hid r4
    have i0 : ((decodeL l).1 : Int) ≤ 1114111 := by omega
    have i1 : (0 : Int) ≤ ((decodeL l).1 : Int) := by omega
    clear h he hv r1 r3 r4 r2 hne
    generalize (decodeL l).1 = c at *
    generalize l.drop (decodeL l).2 = q at *
    go_enter Tryz.func110, Tryz.ntmps110
    go_wp2_with fail
    refine (HT.out _ HE.out HA.out).mono ?_
    rintro e w1 ⟨rfl, hs1⟩
    have HS1 := Lib.hid hs1
    have HE1 := Lib.hid (HE.out.step hs1 hrb)
    clear hs1 HT
    go_wp2_with fail
    refine (HI.out _).mono ?_
    rintro e w2 ⟨⟨i, rfl, hi⟩, hb2⟩
    have HS2 := Lib.hid (HS1.out.below hb2)
    have HE2 := Lib.hid (HE1.out.below hb2)
    obtain ⟨c0, c1, f0, f1, _⟩ := HS2.out.at'
    clear hb2 HI
    rcases hi with ⟨rfl, h128⟩ | ⟨b, t, hl, hb, rfl⟩
    · have HN := Lib.hid (HH.out h128)
      have e1 : ((c : Int) == 117) = false := by rw [beq_eq_false_iff_ne]; omega
      have e2 : ((c : Int) == 85) = false := by rw [beq_eq_false_iff_ne]; omega
      clear h128 HH HD
      cases lit
      · go_wp2
        go_ret
        rw [HN.out]
        exact ⟨_, _, rfl, HS2.out.set1 true⟩
      · go_wp2
        go_ret
        rw [HN.out]
        exact ⟨_, _, rfl, HS2.out.set1 true⟩
    · obtain ⟨hc, hq⟩ := HD.out b t hl hb
      subst hc hq
      have HL := Lib.hid hl
      clear hl HD HH
      by_cases h117 : b.toNat = 117
      · have HN : Hid (esc lit l = rune (hexGo 4 0 q)) := Lib.hid (by
          rw [HL.out, show b = 117 from UInt8.toNat_inj.1 h117]; rfl)
        have e1 : ((b.toNat : Int) == 117) = true := by rw [beq_iff_eq]; omega
        clear h117
        go_wp2_with fail
        refine (number_calls rb q 4 (by decide) R4.out _ HE2.out hrb HS2.out.at').mono ?_
        intro e w3 hp
        cases hr : rune (hexGo 4 0 q) with
        | none =>
          rw [hr] at hp
          obtain ⟨c, s, rfl, hs3⟩ := hp
          have HS3 := Lib.hid (HS2.out.trans hs3)
          have HN2 := Lib.hid (HN.out.trans hr)
          clear hr hs3 HN
          go_wp2
          go_ret
          rw [HN2.out]
          exact ⟨_, _, rfl, HS3.out⟩
        | some p =>
          obtain ⟨o, q'⟩ := p
          rw [hr] at hp
          obtain ⟨v, rfl, hv1, hv2, hs3, hv3⟩ := hp
          have HS3 := Lib.hid (HS2.out.trans hs3)
          have HV := Lib.hid (And.intro hv2 hv3)
          have HN2 := Lib.hid (HN.out.trans hr)
          clear hr hs3 HN hv2 hv3
          go_wp2
          go_ret
          rw [HN2.out]
          exact ⟨v, rfl, hv1, HV.out.1, HS3.out, HV.out.2⟩
      · have e1 : ((b.toNat : Int) == 117) = false := by rw [beq_eq_false_iff_ne]; omega
        by_cases h85 : b.toNat = 85
        · have HN : Hid (esc lit l = rune (hexGo 8 0 q)) := Lib.hid (by
            rw [HL.out, show b = 85 from UInt8.toNat_inj.1 h85]; rfl)
          have e2 : ((b.toNat : Int) == 85) = true := by rw [beq_iff_eq]; omega
          clear h85 h117
          go_wp2_with fail
          refine (number_calls rb q 8 (by decide) R4.out _ HE2.out hrb HS2.out.at').mono ?_
          intro e w3 hp
          cases hr : rune (hexGo 8 0 q) with
          | none =>
            rw [hr] at hp
            obtain ⟨c, s, rfl, hs3⟩ := hp
            have HS3 := Lib.hid (HS2.out.trans hs3)
            have HN2 := Lib.hid (HN.out.trans hr)
            clear hr hs3 HN
            go_wp2
            go_ret
            rw [HN2.out]
            exact ⟨_, _, rfl, HS3.out⟩
          | some p =>
            obtain ⟨o, q'⟩ := p
            rw [hr] at hp
            obtain ⟨v, rfl, hv1, hv2, hs3, hv3⟩ := hp
            have HS3 := Lib.hid (HS2.out.trans hs3)
            have HV := Lib.hid (And.intro hv2 hv3)
            have HN2 := Lib.hid (HN.out.trans hr)
            clear hr hs3 HN hv2 hv3
            go_wp2
            go_ret
            rw [HN2.out]
            exact ⟨v, rfl, hv1, HV.out.1, HS3.out, HV.out.2⟩
        · have e2 : ((b.toNat : Int) == 85) = false := by rw [beq_eq_false_iff_ne]; omega
          have HN : Hid (esc lit l = if lit then (match escV b with
            | some c => some ([c], q)
            | none => none) else none) := Lib.hid (by rw [HL.out]; exact esc_sign b q lit h117 h85)
          have EB := escL_byte b
          clear h117 h85 HL
          cases lit with
          | false =>
            generalize indexByte escL b = i at *
            clear EB
            go_wp2
            go_ret
            rw [HN.out]
            exact ⟨_, _, rfl, HS2.out.set1 true⟩
          | true =>
            rcases EB with ⟨g1, g2⟩ | ⟨k, hk, g1, g2⟩
            · have HN2 : Hid (esc true l = none) := Lib.hid (by rw [HN.out, g2]; rfl)
              rw [g1]
              clear g1 g2 HN
              go_wp2
              go_ret
              rw [HN2.out]
              exact ⟨_, _, rfl, HS2.out.set1 true⟩
            · have HN2 : Hid (esc true l = some ([escTT[k]'hk], q)) := Lib.hid (by rw [HN.out, g2]; rfl)
              rw [g1]
              have hd0 : decide ((0 : Int) ≤ (k : Int)) = true := decide_eq_true (by omega)
              have ik0 : (0 : Int) ≤ (k : Int) := by omega
              have ik8 : (k : Int) < 8 := by omega
              have HA9 : Hid (∀ j : Nat, (hj : j < 8) → (escTT[j]'hj).toNat < 128) := Lib.hid (by decide)
              clear g1 g2 HN
              go_wp2
              go_ret
              rw [HN2.out]
              refine ⟨(escTT[k]'hk).toNat, (ret_int (by have := HA9.out k hk; unfold wrap32; omega) : Ending.returned (.int .i32 (wrap32 ((escTT[k]'hk).toNat : Int))) = .returned (.int .i32 ((escTT[k]'hk).toNat : Int))), by have := HA9.out k hk; omega, ?_, HS2.out, R4.out⟩
              have h128 := HA9.out k hk
              rw [encodeRune, encodeRuneZ_one (by omega) (by omega)]
              simp
end Go.Proofs.YtmcoloapiiakbaaGreatDoor.Prg

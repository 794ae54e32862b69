/-
  Which terms may be, the program's way: labels, languages, terms, triples.
-/
import Derived.Test.YtmcoloapiiakbaaGreatDoorPrg7
import Derived.Test.YtmcoloapiiakbaaGreatDoorSplit
set_option linter.unusedVariables false
set_option linter.unusedSimpArgs false
namespace Go.Proofs.YtmcoloapiiakbaaGreatDoor.Prg
open Go.RowKit Go.Lib Go.Proofs.YtmcoloapiiakbaaGreatDoor.B Go.Proofs.YtmcoloapiiakbaaGreatDoor.Rd Go.Proofs.YtmcoloapiiakbaaGreatDoor.Utf Go.Proofs.YtmcoloapiiakbaaGreatDoor.TermPure Go.Proofs.YtmcoloapiiakbaaGreatDoor.LinesPure Go.Proofs.YtmcoloapiiakbaaGreatDoor.Tx Go.Proofs.YtmcoloapiiakbaaGreatDoor.Env Go.Proofs.YtmcoloapiiakbaaGreatDoor.Bld Go.Proofs.YtmcoloapiiakbaaGreatDoor.Tc Go.Proofs.YtmcoloapiiakbaaGreatDoor.SplitP
open Go.Proofs.YtmcoloapiiakbaaGreatDoor.Ref5 (termV Fits tripleV FitsT isTriple_eq)

theorem runes_all (p : Nat → Bool) (hp : ∀ c, 128 ≤ c → p c = false) : ∀ (n : Nat) (s : List UInt8), s.length ≤ n → (runes s).all p = s.all (fun b => p b.toNat)
  | n, [], _ => rfl
  | 0, b :: t, h => by simp at h
  | n + 1, b :: t, h => by
    simp at h
    by_cases hb : b.toNat < 128
    · rw [runes_ascii b t hb, List.all_cons, List.all_cons, runes_all p hp n t h]
    · have hd : 128 ≤ (decodeL (b :: t)).1 := by
        have := decodeL_drop (mkS (b :: t)) 0
        rw [show (mkS (b :: t)).data.toList.drop 0 = b :: t from rfl] at this
        rw [this]
        exact (decode_high (mkS (b :: t)) 0 (by rw [mkS_size]; simp) (by show 128 ≤ b.toNat; omega)).1
      rw [runes_step _ (by simp), List.all_cons, List.all_cons, hp _ hd, hp _ (by omega)]
      rfl
set_option maxHeartbeats 1600000 in
theorem isLabel_calls (s : List UInt8) (hs : s.length ≤ 70368744177664) (w : World) :
    Calls Tryz.prog 65 #[.string (mkS s)] w fun e w' => e = .returned (.bool (isLabel s)) ∧ Below w.heap.size w w' := by
  have z := mkS_size s
  have zt := mkS_toList s
  have HI : Hid (isLabel s = (decide (s ≠ []) && (decide (s.length ≤ 8) && (runes s).all alnum))) := Lib.hid (by
    rw [runes_all alnum (fun c h => by unfold alnum; simp; omega) s.length s (Nat.le_refl _)]
    rfl)
  have HA := Lib.hid (fun w => all_calls s 92 #[] alnum w (holds_label w))
  by_cases h0 : s = []
  · subst h0
    go_enter Tryz.func65, Tryz.ntmps65
    go_wp2
    go_ret
    exact ⟨rfl, Below.refl _ _⟩
  · have hE : s.isEmpty = false := by cases s with
      | nil => exact absurd rfl h0
      | cons b t => rfl
    by_cases h1 : s.length ≤ 8
    · have e1 : decide ((s.length : Int) ≤ 8) = true := decide_eq_true (by omega)
      have HI2 := Lib.hid (HI.out.trans (show _ = (runes s).all alnum by rw [decide_eq_true h0, decide_eq_true h1]; simp))
      clear HI
      go_enter Tryz.func65, Tryz.ntmps65
      go_wp2_with fail
      refine (HA.out _).mono ?_
      rintro e w2 ⟨rfl, hb2⟩
      have HB2 := Lib.hid hb2
      clear hb2
      generalize (runes s).all alnum = q at *
      cases q
      all_goals go_wp2
      all_goals go_ret
      all_goals exact ⟨ret_bool (by first | (rw [HI2.out]; done) | (rw [HI2.out]; rfl)), HB2.out⟩
    · have e1 : decide ((s.length : Int) ≤ 8) = false := decide_eq_false (by omega)
      have HI2 := Lib.hid (HI.out.trans (show _ = false by rw [decide_eq_false h1]; simp))
      clear HI
      go_enter Tryz.func65, Tryz.ntmps65
      go_wp2
      go_ret
      exact ⟨ret_bool HI2.out.symm, Below.refl _ _⟩
/-- Of a rune of a language's part. -/
def langR (later : Bool) (c : Nat) : Bool := (decide (97 ≤ c) && decide (c ≤ 122)) || (later && (decide (48 ≤ c) && decide (c ≤ 57)))
set_option maxHeartbeats 800000 in
theorem lang1_calls (c k B : Nat) (w : World) (hcell : w.cell? ⟨B, 0, none⟩ = some (.int .i64 (k : Int))) :
    Calls Tryz.prog 96 #[.int .i32 (c : Int), .pointer (some ⟨B, 0, none⟩)] w fun e w' => e = .returned (.bool (langR (decide (0 < k)) c)) ∧ w = w' := by
  have HL : Hid (langR (decide (0 < k)) c = ((decide (97 ≤ c) && decide (c ≤ 122)) || (decide (0 < k) && (decide (48 ≤ c) && decide (c ≤ 57))))) := Lib.hid rfl
  go_enter Tryz.func96, Tryz.ntmps96
  go_wp2_with fail
  refine (small1_calls c _).mono ?_
  rintro e w1 ⟨rfl, rfl⟩
  generalize (decide (97 ≤ c) && decide (c ≤ 122)) = q at *
  cases q
  · by_cases hk : 0 < k
    · have e1 : decide (0 < k) = true := decide_eq_true hk
      have i1 : (0 : Int) < (k : Int) := by omega
      rw [e1] at HL
      go_wp2_with fail
      refine (digit1_calls c _).mono ?_
      rintro e w1 ⟨rfl, rfl⟩
      generalize (decide (48 ≤ c) && decide (c ≤ 57)) = r at *
      cases r
      all_goals go_wp2
      all_goals go_ret
      all_goals exact ⟨ret_bool (by rw [e1, HL.out]; rfl), rfl⟩
    · have e1 : decide (0 < k) = false := decide_eq_false hk
      have i1 : ¬ (0 : Int) < (k : Int) := by omega
      rw [e1] at HL
      go_wp2
      go_ret
      exact ⟨ret_bool (by rw [e1, HL.out]; rfl), rfl⟩
  · go_wp2
    go_ret
    exact ⟨ret_bool (by rw [HL.out]; rfl), rfl⟩
theorem holds_lang (w : World) (k B : Nat) (hB : B < w.heap.size) (hcell : w.cell? ⟨B, 0, none⟩ = some (.int .i64 (k : Int))) :
    Holds w 96 #[.pointer (some ⟨B, 0, none⟩)] (langR (decide (0 < k))) :=
  ⟨enters_of Tryz.func96 (by kernel_rfl) rfl, fun W x hx hb => (lang1_calls x k B W ((hb.cell (p := ⟨B, 0, none⟩) hB).trans hcell)).mono fun e w' ⟨h1, h2⟩ => ⟨h1, h2 ▸ Below.refl _ _⟩⟩
theorem langR_all (later : Bool) (s : List UInt8) : (runes s).all (langR later) = s.all (okc later) := by
  rw [runes_all (langR later) (fun c h => by unfold langR; simp; omega) s.length s (Nat.le_refl _)]
  rfl
/-- The parts from one on. -/
def partsOk : Nat → List (List UInt8) → Bool
  | _, [] => true
  | k, p :: t => partOk (decide (0 < k)) p && partsOk (k + 1) t
theorem partsOk_later : ∀ (t : List (List UInt8)) (k : Nat), 0 < k → partsOk k t = t.all (partOk true)
  | [], _, _ => rfl
  | p :: t, k, h => by rw [partsOk, List.all_cons, partsOk_later t (k + 1) (by omega), decide_eq_true h]
theorem isLang_eq (s : List UInt8) : isLang s = (partsOk 0 (splitL s) && decide (s.length ≤ 16)) := by
  cases hs : splitL s with
  | nil => exact absurd hs (splitL_ne s)
  | cons h t => rw [isLang_parts s h t hs, partsOk, partsOk_later t 1 (by decide)]; rfl
theorem split_calls (s : List UInt8) (hs : s.length ≤ 4294967000) (w : World) (he : Env w) :
    Calls Tryz.prog 95 #[.string (mkS s), .string (mkS [45])] w fun e w' => e = .returned (.slice (some ⟨w.heap.size, 0, none⟩) (splitL s).length (splitL s).length) ∧ w.alloc (.cells (((splitL s).map mkS).map Value.string).toArray 9) = w' := by
  obtain ⟨m, hm⟩ := he.len
  refine (Tryz.strings_Split (mkS s) (mkS [45]) m w (by rw [mkS_size]; omega) hm (by decide)).mono ?_
  rintro e w' ⟨h1, h2⟩
  have h3 := split_dash s.length s (Nat.le_refl _)
  have h4 : countB (mkS s) (mkS [45]) + 1 = (splitL s).length := by
    have := splitB_all (mkS [45]) (by decide) 0 _ (mkS s) rfl
    rw [h3, List.length_map] at this
    exact this.symm
  rw [h4] at h1
  rw [h3] at h2
  exact ⟨h1, h2.symm⟩
set_option maxRecDepth 100000 in
set_option maxHeartbeats 3200000 in
theorem isLang_calls (s : List UInt8) (hs : s.length ≤ 4294967000) (w : World) (he : Env w) :
    Calls Tryz.prog 66 #[.string (mkS s)] w fun e w' => e = .returned (.bool (isLang s)) ∧ Below w.heap.size w w' := by
  have HL := Lib.hid (isLang_eq s)
  have HSp := Lib.hid (split_calls s hs w he)
  have z := mkS_size s
  have hcells : ∀ j (h : j < (splitL s).length), (w.alloc (.cells (((splitL s).map mkS).map Value.string).toArray 9)).cell? ⟨w.heap.size, j, none⟩ = some (.string (mkS ((splitL s)[j]))) := fun j h => by
    unfold World.cell?
    dsimp only
    rw [Kd.heap_new]
    simp
    exact ⟨_, List.getElem?_eq_getElem h, rfl⟩
  have HC0 := Lib.hid hcells
  have hpl : ∀ x ∈ splitL s, x.length ≤ 70368744177664 := fun x hx => by
    have := splitL_len s x hx
    omega
  have HPL := Lib.hid hpl
  have hns : (splitL s).length ≤ s.length + 1 := splitL_count s
  have HB0 := Lib.hid (bel_alloc (Below.refl w.heap.size w) (.cells (((splitL s).map mkS).map Value.string).toArray 9))
  clear he hcells hpl
  generalize splitL s = P at *
  generalize ((P.map mkS).map Value.string).toArray = C at *
  go_enter Tryz.func66, Tryz.ntmps66
  go_wp2_with fail
  refine HSp.out.mono ?_
  rintro e w1 ⟨rfl, rfl⟩
  clear HSp
  go_wp2
  go_loopw [8] (fun vi wr => ∃ k : Nat, k ≤ P.length ∧ vi = .int .i64 k ∧ Hid (Below w.heap.size w wr) ∧ Hid (w.heap.size < wr.heap.size) ∧ Hid (∀ j (h : j < P.length), wr.cell? ⟨w.heap.size, j, none⟩ = some (.string (mkS P[j]))) ∧ Hid (partsOk 0 P = partsOk k (P.drop k))) (fun vi _ => P.length - (intOf vi).toNat)
  case atStart => exact ⟨0, by omega, rfl, HB0, Lib.hid (by simp), HC0, Lib.hid rfl⟩
  case round =>
    obtain ⟨k, hk, rfl, HB, HZ, HC, HP⟩ := hrel
    by_cases hlt : k < P.length
    · have hd : decide (k < P.length) = true := decide_eq_true hlt
      have ik : (k : Int) < (P.length : Int) := by omega
      have ik0 : (0 : Int) ≤ (k : Int) := by omega
      obtain ⟨x, hx0⟩ : ∃ x, P[k] = x := ⟨_, rfl⟩
      have hcell := HC.out k hlt
      rw [hx0] at hcell
      have HD : Hid (partsOk k (P.drop k) = (partOk (decide (0 < k)) x && partsOk (k + 1) (P.drop (k + 1)))) := Lib.hid (by rw [List.drop_eq_getElem_cons hlt, hx0]; rfl)
      have hxl := HPL.out x (by rw [← hx0]; exact List.getElem_mem hlt)
      have zx := mkS_size x
      have zxt := mkS_toList x
      have HPx : Hid (partOk (decide (0 < k)) x = (!x.isEmpty && (decide (x.length ≤ 8) && (runes x).all (langR (decide (0 < k)))))) := Lib.hid (by rw [langR_all]; rfl)
      have hw1 : wr.heap.size < (wr.alloc (.cells #[.int .i64 (k : Int)] 3)).heap.size := by simp
      have hbox : (wr.alloc (.cells #[.int .i64 (k : Int)] 3)).cell? ⟨wr.heap.size, 0, none⟩ = some (.int .i64 (k : Int)) := by
        unfold World.cell?
        dsimp only
        rw [Kd.heap_new]
        rfl
      have HA := Lib.hid (all_calls x 96 #[.pointer (some ⟨wr.heap.size, 0, none⟩)] (langR (decide (0 < k))) (wr.alloc (.cells #[.int .i64 (k : Int)] 3)) (holds_lang _ k wr.heap.size hw1 hbox))
      have HB1 := Lib.hid (bel_alloc HB.out (.cells #[.int .i64 (k : Int)] 3))
      have HNo : Hid (partOk (decide (0 < k)) x = false → isLang s = false) := Lib.hid (fun h => by rw [HL.out, HP.out, HD.out, h]; rfl)
      have HYes : Hid (partOk (decide (0 < k)) x = true → partsOk 0 P = partsOk (k + 1) (P.drop (k + 1))) := Lib.hid (fun h => by rw [HP.out, HD.out, h]; rfl)
      have HZ' := HZ.out
      clear hx0 hw1 hbox HP HD
      by_cases he : x = []
      · have HF := Lib.hid (HNo.out (by rw [HPx.out, he]; rfl))
        have hE : x.isEmpty = true := by rw [he]; rfl
        clear HA HNo HYes HPx he
        go_wp2
        go_ret
        exact ⟨ret_bool HF.out.symm, HB1.out⟩
      · have hE : x.isEmpty = false := by cases x with
          | nil => exact absurd rfl he
          | cons b t => rfl
        by_cases h8 : x.length ≤ 8
        · have e8 : decide ((8 : Int) < (x.length : Int)) = false := decide_eq_false (by omega)
          have HPx2 : Hid (partOk (decide (0 < k)) x = (runes x).all (langR (decide (0 < k)))) := Lib.hid (by rw [HPx.out, hE, decide_eq_true h8]; simp)
          clear HPx
          go_wp2_with fail
          refine HA.out.mono ?_
          rintro e w3 ⟨rfl, hb3⟩
          have HB3 := Lib.hid (bel_step HB1.out hb3)
          have HC3 : Hid (∀ j (h : j < P.length), w3.cell? ⟨w.heap.size, j, none⟩ = some (.string (mkS P[j]))) := Lib.hid (fun j h => by
            rw [(bcell hb3).1 _ _ (by simp; omega)]
            rw [← HC.out j h]
            exact (bcell (bel_alloc (Below.refl wr.heap.size wr) _)).1 _ _ HZ')
          have HZ3 : Hid (w.heap.size < w3.heap.size) := Lib.hid (by have := hb3.size; simp at this; omega)
          clear hb3
          cases hq : (runes x).all (langR (decide (0 < k))) with
          | true =>
            have HP3 := Lib.hid (HYes.out (HPx2.out.trans hq))
            clear hq
            go_wp2
            go_roundw
            case rel => exact ⟨k + 1, by omega, by go_num, HB3, HZ3, HC3, HP3⟩
            case measure => simp [intOf]; omega
          | false =>
            have HF := Lib.hid (HNo.out (HPx2.out.trans hq))
            clear hq
            go_wp2
            go_ret
            exact ⟨ret_bool HF.out.symm, HB3.out⟩
        · have e8 : decide ((8 : Int) < (x.length : Int)) = true := decide_eq_true (by omega)
          have HF := Lib.hid (HNo.out (by rw [HPx.out, decide_eq_false h8]; simp))
          clear HA HNo HYes HPx
          go_wp2
          go_ret
          exact ⟨ret_bool HF.out.symm, HB1.out⟩
    · obtain rfl : k = P.length := by omega
      rw [List.drop_length] at HP
      have HF : Hid (isLang s = decide ((s.length : Int) ≤ 16)) := Lib.hid (by
        rw [HL.out, HP.out, partsOk, Bool.true_and, Bool.eq_iff_iff, decide_eq_true_iff, decide_eq_true_iff]
        omega)
      go_wp2
      go_ret
      exact ⟨ret_bool HF.out.symm, HB.out⟩
end Go.Proofs.YtmcoloapiiakbaaGreatDoor.Prg

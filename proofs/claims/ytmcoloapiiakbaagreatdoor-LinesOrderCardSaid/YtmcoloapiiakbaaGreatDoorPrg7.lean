/-
  Which terms may be, the program's way: runes, IRIs, labels.
-/
import Derived.Test.YtmcoloapiiakbaaGreatDoorPrg6
set_option linter.unusedVariables false
set_option linter.unusedSimpArgs false
namespace Go.Proofs.YtmcoloapiiakbaaGreatDoor.Prg
open Go.RowKit Go.Lib Go.Proofs.YtmcoloapiiakbaaGreatDoor.B Go.Proofs.YtmcoloapiiakbaaGreatDoor.Rd Go.Proofs.YtmcoloapiiakbaaGreatDoor.Utf Go.Proofs.YtmcoloapiiakbaaGreatDoor.TermPure Go.Proofs.YtmcoloapiiakbaaGreatDoor.LinesPure Go.Proofs.YtmcoloapiiakbaaGreatDoor.Tx Go.Proofs.YtmcoloapiiakbaaGreatDoor.Env Go.Proofs.YtmcoloapiiakbaaGreatDoor.Bld Go.Proofs.YtmcoloapiiakbaaGreatDoor.Tc

/-- A function value that tells of runes what p tells, in every later world. -/
structure Holds (w : World) (g : Nat) (lb : Array Value) (p : Nat → Bool) : Prop where
  enters : ∀ args w, (callFunc g args).run Tryz.prog w = .ok (.enter g args) w
  tells : PredGrows Tryz.prog g lb p w
theorem Holds.later {w W : World} {g : Nat} {lb : Array Value} {p : Nat → Bool} (h : Holds w g lb p) (hb : Below w.heap.size w W) : Holds W g lb p := ⟨h.enters, h.tells.later hb⟩
set_option maxHeartbeats 800000 in
theorem not_calls (B g c : Nat) (lb : Array Value) (p : Nat → Bool) (hc : c ≤ 1114111) (w0 w : World) (hp : Holds w0 g lb p) (hb : Below w0.heap.size w0 w) (hcell : w.cell? ⟨B, 0, none⟩ = some (.func (.func g) #[] lb)) :
    Calls Tryz.prog 119 #[.int .i32 (c : Int), .pointer (some ⟨B, 0, none⟩)] w fun e w' => e = .returned (.bool (!p c)) ∧ Below w.heap.size w w' := by
  have hC := hp.tells w c hc hb
  have heg := hp.enters
  have HC := Lib.hid hC
  clear hC hp hb
  go_enter Tryz.func119, Tryz.ntmps119
  go_wp2_with fail
  refine HC.out.mono ?_
  rintro e w1 ⟨rfl, hb1⟩
  have HB := Lib.hid hb1
  obtain ⟨q, hq⟩ : ∃ q, p c = q := ⟨_, rfl⟩
  have HQ := Lib.hid hq
  rw [hq]
  clear hb1 hq
  cases q
  all_goals go_wp2
  all_goals go_ret
  all_goals exact ⟨ret_bool (by rw [HQ.out]; rfl), HB.out⟩
theorem all_not (p : Nat → Bool) (l : List Nat) : (!l.any fun c => !p c) = l.all p := by
  induction l with
  | nil => rfl
  | cons c l ih => rw [List.any_cons, List.all_cons, ← ih]; cases p c <;> rfl
set_option maxHeartbeats 800000 in
theorem all_calls (s : List UInt8) (g : Nat) (lb : Array Value) (p : Nat → Bool) (w : World) (hp : Holds w g lb p) :
    Calls Tryz.prog 90 #[.string (mkS s), .func (.func g) #[] lb] w fun e w' => e = .returned (.bool ((runes s).all p)) ∧ Below w.heap.size w w' := by
  have hW : Below w.heap.size w (w.alloc (.cells #[.func (.func g) #[] lb] 85)) := bel_alloc (Below.refl _ _) _
  have hcell : (w.alloc (.cells #[.func (.func g) #[] lb] 85)).cell? ⟨w.heap.size, 0, none⟩ = some (.func (.func g) #[] lb) := by
    unfold World.cell?
    dsimp only
    rw [Kd.heap_new]
    rfl
  have hC : Calls Tryz.prog 118 #[.string (mkS s), .func (.func 119) #[] #[.pointer (some ⟨w.heap.size, 0, none⟩)]] (w.alloc (.cells #[.func (.func g) #[] lb] 85)) fun e w' => e = .returned (.bool ((runes s).any fun c => !p c)) ∧ Below w.heap.size w w' := by
    refine (Tryz.strings_ContainsFunc_grows 119 #[.pointer (some ⟨w.heap.size, 0, none⟩)] (enters_of Tryz.func119 (by kernel_rfl) rfl) (fun c => !p c) (mkS s) _ ?_).mono ?_
    · intro W x hx hb
      have hb' : Below w.heap.size w W := hW.trans (hb.mono (by simp))
      exact not_calls w.heap.size g x lb p hx w W hp hb' ((hb.cell (p := ⟨w.heap.size, 0, none⟩) (by simp)).trans hcell)
    · rintro e w' ⟨h1, h2⟩
      exact ⟨by rw [h1, contains_any], hW.trans (h2.mono (by simp))⟩
  have HC := Lib.hid hC
  have HQ := Lib.hid (all_not p (runes s))
  clear hC hW hcell hp
  obtain ⟨q, hq⟩ : ∃ q, ((runes s).any fun c => !p c) = q := ⟨_, rfl⟩
  rw [hq] at HC HQ
  clear hq
  go_enter Tryz.func90, Tryz.ntmps90
  go_wp2_with fail
  refine HC.out.mono ?_
  rintro e w1 ⟨rfl, hb1⟩
  have HB := Lib.hid hb1
  clear hb1
  cases q
  all_goals go_wp2
  all_goals go_ret
  all_goals exact ⟨ret_bool (by rw [← HQ.out]; rfl), HB.out⟩
theorem small1_calls (c : Nat) (w : World) :
    Calls Tryz.prog 97 #[.int .i32 (c : Int)] w fun e w' => e = .returned (.bool (decide (97 ≤ c) && decide (c ≤ 122))) ∧ w = w' := by
  go_enter Tryz.func97, Tryz.ntmps97
  go_wp2
  all_goals go_ret
  all_goals exact ⟨ret_bool (by rw [Bool.eq_iff_iff]; simp; omega), rfl⟩
theorem digit1_calls (c : Nat) (w : World) :
    Calls Tryz.prog 94 #[.int .i32 (c : Int)] w fun e w' => e = .returned (.bool (decide (48 ≤ c) && decide (c ≤ 57))) ∧ w = w' := by
  go_enter Tryz.func94, Tryz.ntmps94
  go_wp2
  all_goals go_ret
  all_goals exact ⟨ret_bool (by rw [Bool.eq_iff_iff]; simp; omega), rfl⟩
theorem letter1_calls (c : Nat) (w : World) :
    Calls Tryz.prog 93 #[.int .i32 (c : Int)] w fun e w' => e = .returned (.bool ((decide (97 ≤ c) && decide (c ≤ 122)) || (decide (65 ≤ c) && decide (c ≤ 90)))) ∧ w = w' := by
  go_enter Tryz.func93, Tryz.ntmps93
  go_wp2_with fail
  refine (small1_calls c _).mono ?_
  rintro e w1 ⟨rfl, rfl⟩
  obtain ⟨q, hq⟩ : ∃ q, (decide (97 ≤ c) && decide (c ≤ 122)) = q := ⟨_, rfl⟩
  have HQ := Lib.hid hq
  rw [hq]
  clear hq
  cases q
  all_goals go_wp2
  all_goals go_ret
  all_goals exact ⟨ret_bool (by rw [HQ.out, Bool.eq_iff_iff]; simp; try omega), rfl⟩
theorem label1_calls (c : Nat) (w : World) :
    Calls Tryz.prog 92 #[.int .i32 (c : Int)] w fun e w' => e = .returned (.bool (alnum c)) ∧ w = w' := by
  have HA : Hid (alnum c = (((decide (97 ≤ c) && decide (c ≤ 122)) || (decide (65 ≤ c) && decide (c ≤ 90))) || (decide (48 ≤ c) && decide (c ≤ 57)))) := Lib.hid rfl
  go_enter Tryz.func92, Tryz.ntmps92
  go_wp2_with fail
  refine (letter1_calls c _).mono ?_
  rintro e w1 ⟨rfl, rfl⟩
  generalize ((decide (97 ≤ c) && decide (c ≤ 122)) || (decide (65 ≤ c) && decide (c ≤ 90))) = q at *
  cases q
  · go_wp2_with fail
    refine (digit1_calls c _).mono ?_
    rintro e w1 ⟨rfl, rfl⟩
    generalize (decide (48 ≤ c) && decide (c ≤ 57)) = r at *
    cases r
    all_goals go_wp2
    all_goals go_ret
    all_goals exact ⟨ret_bool (by rw [HA.out]; rfl), rfl⟩
  · go_wp2
    go_ret
    exact ⟨ret_bool (by rw [HA.out]; rfl), rfl⟩
def oddL : List UInt8 := [34, 60, 62, 92, 94, 96, 123, 124, 125]
theorem odd_eq : ∀ n : Fin 128, oddL.contains (UInt8.ofNat n.val) = odd.contains n.val := by decide +kernel
set_option maxHeartbeats 800000 in
theorem rune1_calls (c : Nat) (hc : c ≤ 1114111) (w : World) :
    Calls Tryz.prog 91 #[.int .i32 (c : Int)] w fun e w' => e = .returned (.bool (iriRune c)) ∧ w = w' := by
  have HA : Hid (iriRune c = ((decide (32 < c) && decide (c < 127) && !odd.contains c) || (decide (160 ≤ c)))) := Lib.hid rfl
  by_cases h1 : 32 < c
  · by_cases h2 : c < 127
    · have e1 : decide ((32 : Int) < (c : Int)) = true := decide_eq_true (by omega)
      have e2 : decide ((c : Int) < 127) = true := decide_eq_true (by omega)
      have e3 : decide ((160 : Int) ≤ (c : Int)) = false := decide_eq_false (by omega)
      have HO := Lib.hid (odd_eq ⟨c, by omega⟩)
      have HF := Lib.hid (HA.out.trans (show _ = !odd.contains c by rw [decide_eq_true h1, decide_eq_true h2, decide_eq_false (by omega : ¬ 160 ≤ c)]; simp))
      go_enter Tryz.func91, Tryz.ntmps91
      go_wp2_with fail
      refine (containsRune_calls oddL c (by omega) _).mono ?_
      rintro e w1 ⟨rfl, rfl⟩
      rw [HO.out]
      dsimp only
      generalize odd.contains c = q at *
      clear HA HO h1 h2
      cases q
      all_goals go_wp2
      all_goals go_ret
      all_goals exact ⟨ret_bool (by rw [HF.out]; rfl), rfl⟩
    · have e1 : decide ((32 : Int) < (c : Int)) = true := decide_eq_true (by omega)
      have e2 : decide ((c : Int) < 127) = false := decide_eq_false (by omega)
      have HF := Lib.hid (HA.out.trans (show _ = decide ((160 : Int) ≤ (c : Int)) by rw [decide_eq_true h1, decide_eq_false h2, Bool.eq_iff_iff]; simp; try omega))
      clear HA h1 h2
      go_enter Tryz.func91, Tryz.ntmps91
      go_wp2
      all_goals go_ret
      all_goals exact ⟨ret_bool (by first | (rw [HF.out]; done) | (rw [HF.out]; rfl)), rfl⟩
  · have e1 : decide ((32 : Int) < (c : Int)) = false := decide_eq_false (by omega)
    have e3 : decide ((160 : Int) ≤ (c : Int)) = false := decide_eq_false (by omega)
    have HF := Lib.hid (HA.out.trans (show _ = false by rw [decide_eq_false h1, decide_eq_false (by omega : ¬ 160 ≤ c)]; rfl))
    clear HA h1
    go_enter Tryz.func91, Tryz.ntmps91
    go_wp2
    go_ret
    exact ⟨ret_bool HF.out.symm, rfl⟩
theorem holds_rune (w : World) : Holds w 91 #[] iriRune :=
  ⟨enters_of Tryz.func91 (by kernel_rfl) rfl, fun W x hx hb => (rune1_calls x hx W).mono fun e w' ⟨h1, h2⟩ => ⟨h1, h2 ▸ Below.refl _ _⟩⟩
theorem holds_label (w : World) : Holds w 92 #[] alnum :=
  ⟨enters_of Tryz.func92 (by kernel_rfl) rfl, fun W x hx hb => (label1_calls x W).mono fun e w' ⟨h1, h2⟩ => ⟨h1, h2 ▸ Below.refl _ _⟩⟩
set_option maxHeartbeats 1600000 in
theorem isIRI_calls (s : List UInt8) (hs : s.length ≤ 70368744177664) (w : World) (he : Env w) :
    Calls Tryz.prog 64 #[.string (mkS s)] w fun e w' => e = .returned (.bool (isIRI s)) ∧ Below w.heap.size w w' := by
  have z := mkS_size s
  have zt := mkS_toList s
  have HE := Lib.hid he
  have HI : Hid (isIRI s = (decide (s ≠ []) && (decide (s.length ≤ 60) && (validD s && (runes s).all iriRune)))) := Lib.hid rfl
  have HA := Lib.hid (fun w => all_calls s 91 #[] iriRune w (holds_rune w))
  clear he
  by_cases h0 : s = []
  · subst h0
    go_enter Tryz.func64, Tryz.ntmps64
    go_wp2
    go_ret
    exact ⟨rfl, Below.refl _ _⟩
  · have hE : s.isEmpty = false := by cases s with
      | nil => exact absurd rfl h0
      | cons b t => rfl
    by_cases h1 : s.length ≤ 60
    · have e1 : decide ((s.length : Int) ≤ 60) = true := decide_eq_true (by omega)
      have HI2 := Lib.hid (HI.out.trans (show _ = (validD s && (runes s).all iriRune) by rw [decide_eq_true h0, decide_eq_true h1]; simp))
      clear HI
      go_enter Tryz.func64, Tryz.ntmps64
      go_wp2_with fail
      refine (valid_calls s (by omega) _ HE.out).mono ?_
      rintro e w1 ⟨rfl, hb1⟩
      have HB1 := Lib.hid hb1
      clear hb1
      generalize validD s = v at *
      cases v
      · go_wp2
        go_ret
        exact ⟨ret_bool (by rw [HI2.out]; rfl), HB1.out⟩
      · go_wp2_with fail
        refine (HA.out _).mono ?_
        rintro e w2 ⟨rfl, hb2⟩
        have HB2 := Lib.hid (bel_step HB1.out hb2)
        clear hb2
        generalize (runes s).all iriRune = q at *
        cases q
        all_goals go_wp2
        all_goals go_ret
        all_goals exact ⟨ret_bool (by rw [HI2.out]; rfl), HB2.out⟩
    · have e1 : decide ((s.length : Int) ≤ 60) = false := decide_eq_false (by omega)
      have HI2 := Lib.hid (HI.out.trans (show _ = false by rw [decide_eq_false h1]; simp))
      clear HI
      go_enter Tryz.func64, Tryz.ntmps64
      go_wp2
      go_ret
      exact ⟨ret_bool HI2.out.symm, Below.refl _ _⟩
end Go.Proofs.YtmcoloapiiakbaaGreatDoor.Prg

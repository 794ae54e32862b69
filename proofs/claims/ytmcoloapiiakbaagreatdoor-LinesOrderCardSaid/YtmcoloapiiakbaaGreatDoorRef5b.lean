/-
  What the reference of lines answers: escapes.
-/
import Derived.Test.YtmcoloapiiakbaaGreatDoorRef5
import Derived.Test.YtmcoloapiiakbaaGreatDoorTx
import Derived.IntWalk
set_option linter.unusedVariables false
set_option linter.unusedSimpArgs false
namespace Go.Proofs.YtmcoloapiiakbaaGreatDoor.Ref5
open Go.RowKit Go.Lib Go.Proofs.YtmcoloapiiakbaaGreatDoor.B Go.Proofs.YtmcoloapiiakbaaGreatDoor.Rd Go.Proofs.YtmcoloapiiakbaaGreatDoor.Utf Go.Proofs.YtmcoloapiiakbaaGreatDoor.TermPure Go.Proofs.YtmcoloapiiakbaaGreatDoor.LinesPure Go.Proofs.YtmcoloapiiakbaaGreatDoor.Tx

/-- The rune that so many digits are; -1: they are none. -/
def hexR (n : Nat) (s : List UInt8) : Int := match hexGo n 0 s with
  | none => -1
  | some (v, _) => if Lib.validRune (v : Int) = true then (v : Int) else -1
theorem hexGo_short : ∀ (n v : Nat) (l : List UInt8), l.length < n → hexGo n v l = none
  | 0, v, l, h => by omega
  | n + 1, v, [], h => rfl
  | n + 1, v, b :: l, h => by
    rw [hexGo]
    cases hexV b with
    | none => rfl
    | some d => exact hexGo_short n _ l (by simp at h; omega)
theorem hexV_digit (b : UInt8) (h1 : 48 ≤ b.toNat) (h2 : b.toNat ≤ 57) : hexV b = some (b.toNat - 48) := by rw [hexV, if_pos ⟨h1, h2⟩]
theorem hexV_small (b : UInt8) (h1 : 97 ≤ b.toNat) (h2 : b.toNat ≤ 102) : hexV b = some (b.toNat - 87) := by rw [hexV, if_neg (by omega), if_pos ⟨h1, h2⟩]
theorem hexV_cap (b : UInt8) (h1 : 65 ≤ b.toNat) (h2 : b.toNat ≤ 70) : hexV b = some (b.toNat - 55) := by rw [hexV, if_neg (by omega), if_neg (by omega), if_pos ⟨h1, h2⟩]
theorem hexV_none (b : UInt8) (h1 : ¬ (48 ≤ b.toNat ∧ b.toNat ≤ 57)) (h2 : ¬ (97 ≤ b.toNat ∧ b.toNat ≤ 102)) (h3 : ¬ (65 ≤ b.toNat ∧ b.toNat ≤ 70)) : hexV b = none := by rw [hexV, if_neg h1, if_neg h2, if_neg h3]
theorem pow16 {k v : Nat} (hk : k ≤ 8) (h : v < 16 ^ k) : v ≤ 4294967295 := by
  have : 16 ^ k ≤ 16 ^ 8 := Nat.pow_le_pow_right (by omega) hk
  have e : 16 ^ 8 = 4294967296 := by decide
  omega
theorem pow16_step {k v d : Nat} (h : v < 16 ^ k) (hd : d ≤ 15) : v * 16 + d < 16 ^ (k + 1) := by
  rw [Nat.pow_succ]
  omega
set_option maxHeartbeats 1600000 in
theorem hex_calls (s : List UInt8) (n : Nat) (hn : n ≤ 8) (hs : s.length ≤ 70368744177664) (w : World) :
    Calls Tryz.prog 117 #[.string (mkS s), .int .i64 n] w fun e w' => e = .returned (.int .i32 (hexR n s)) ∧ w = w' := by
  have z := mkS_size s
  by_cases hsh : s.length < n
  · have hd : decide (s.length < n) = true := decide_eq_true hsh
    have HR : Hid (hexR n s = -1) := Lib.hid (by rw [hexR, hexGo_short n 0 s hsh])
    go_enter Tryz.func117, Tryz.ntmps117
    go_wp2
    go_ret
    exact ⟨ret_int HR.out.symm, rfl⟩
  · have hd : decide (s.length < n) = false := decide_eq_false hsh
    go_enter Tryz.func117, Tryz.ntmps117
    go_wp2
    clear hd
    go_loopw [5, 6] (fun vx vi wr => ∃ k v : Nat, k ≤ n ∧ vi = .int .i64 k ∧ vx = .int .i64 v ∧ wr = w ∧ Hid (v < 16 ^ k) ∧ Hid (hexGo n 0 s = hexGo (n - k) v (s.drop k))) (fun _ vi _ => n - (intOf vi).toNat)
    case atStart => exact ⟨0, 0, by omega, rfl, rfl, rfl, Lib.hid (by simp), Lib.hid (by simp)⟩
    case round =>
      obtain ⟨k, v, hk, rfl, rfl, rfl, HP, HG⟩ := hrel
      have hv := pow16 (by omega) HP.out
      by_cases hlt : k < n
      · have hd : decide (k < n) = true := decide_eq_true hlt
        have ik : (k : Int) < (s.length : Int) := by omega
        have hlt' : k < s.length := by omega
        have ik0 : (0 : Int) ≤ (k : Int) := by omega
        obtain ⟨b, hb0⟩ : ∃ b, s[k] = b := ⟨_, rfl⟩
        have hks : k < (mkS s).size := by rw [z]; exact hlt'
        have hg : (mkS s)[k]'hks = b := (Rd.mkS_get s k hks hlt').trans hb0
        have HD : Hid (s.drop k = b :: s.drop (k + 1)) := Lib.hid (by rw [List.drop_eq_getElem_cons hlt', hb0])
        have HS : Hid (∀ d : Nat, d ≤ 15 → hexV b = some d → v * 16 + d < 16 ^ (k + 1) ∧ hexGo n 0 s = hexGo (n - (k + 1)) (v * 16 + d) (s.drop (k + 1))) := Lib.hid (fun d h15 h => by
          refine ⟨pow16_step HP.out h15, ?_⟩
          rw [HG.out, HD.out, show n - k = (n - (k + 1)) + 1 from by omega, hexGo, h])
        have HN : Hid (hexV b = none → hexR n s = -1) := Lib.hid (fun h => by
          rw [hexR, HG.out, HD.out, show n - k = (n - (k + 1)) + 1 from by omega, hexGo, h])
        have V1 := Lib.hid (hexV_digit b)
        have V2 := Lib.hid (hexV_small b)
        have V3 := Lib.hid (hexV_cap b)
        have V4 := Lib.hid (hexV_none b)
        have hB := b.toNat_lt
        clear hb0 HD HP HG hsh
        by_cases d1 : 48 ≤ b.toNat ∧ b.toNat ≤ 57
        · obtain ⟨g1, g2⟩ := d1
          have e1 : decide (48 ≤ (b.toNat : Int)) = true := decide_eq_true (by omega)
          have e2 : decide ((b.toNat : Int) ≤ 57) = true := decide_eq_true (by omega)
          have i1 : (48 : Int) ≤ (b.toNat : Int) := by omega
          obtain ⟨s1, s2⟩ := HS.out (b.toNat - 48) (by omega) (V1.out g1 g2)
          have S1 := Lib.hid s1
          have S2 := Lib.hid s2
          clear s1 s2 HS HN
          go_wp2
          go_roundw
          case rel => exact ⟨k + 1, v * 16 + (b.toNat - 48), by omega, by go_num, ret_i (by omega), by first | rfl | trivial, S1, S2⟩
          case measure => simp [intOf]; omega
        · by_cases d2 : 97 ≤ b.toNat ∧ b.toNat ≤ 102
          · obtain ⟨g1, g2⟩ := d2
            have e1 : decide (48 ≤ (b.toNat : Int)) = true := decide_eq_true (by omega)
            have e2 : decide ((b.toNat : Int) ≤ 57) = false := decide_eq_false (by omega)
            have e3 : decide (97 ≤ (b.toNat : Int)) = true := decide_eq_true (by omega)
            have e4 : decide ((b.toNat : Int) ≤ 102) = true := decide_eq_true (by omega)
            have i1 : (97 : Int) ≤ (b.toNat : Int) := by omega
            obtain ⟨s1, s2⟩ := HS.out (b.toNat - 87) (by omega) (V2.out g1 g2)
            have S1 := Lib.hid s1
            have S2 := Lib.hid s2
            clear s1 s2 HS HN
            go_wp2
            go_roundw
            case rel => exact ⟨k + 1, v * 16 + (b.toNat - 87), by omega, by go_num, ret_i (by omega), by first | rfl | trivial, S1, S2⟩
            case measure => simp [intOf]; omega
          · by_cases d3 : 65 ≤ b.toNat ∧ b.toNat ≤ 70
            · obtain ⟨g1, g2⟩ := d3
              have e1 : decide (48 ≤ (b.toNat : Int)) = true := decide_eq_true (by omega)
              have e2 : decide ((b.toNat : Int) ≤ 57) = false := decide_eq_false (by omega)
              have e3 : decide (97 ≤ (b.toNat : Int)) = false := decide_eq_false (by omega)
              have e5 : decide (65 ≤ (b.toNat : Int)) = true := decide_eq_true (by omega)
              have e6 : decide ((b.toNat : Int) ≤ 70) = true := decide_eq_true (by omega)
              have i1 : (65 : Int) ≤ (b.toNat : Int) := by omega
              obtain ⟨s1, s2⟩ := HS.out (b.toNat - 55) (by omega) (V3.out g1 g2)
              have S1 := Lib.hid s1
              have S2 := Lib.hid s2
              clear s1 s2 HS HN
              go_wp2
              go_roundw
              case rel => exact ⟨k + 1, v * 16 + (b.toNat - 55), by omega, by go_num, ret_i (by omega), by first | rfl | trivial, S1, S2⟩
              case measure => simp [intOf]; omega
            · have HF := Lib.hid (HN.out (V4.out d1 d2 d3))
              clear HS HN
              go_wp2
              all_goals first | omega | (go_ret; exact ⟨ret_int HF.out.symm, rfl⟩)
      · obtain rfl : k = n := by omega
        rw [Nat.sub_self, hexGo] at HG
        have hd : decide (k < k) = false := decide_eq_false (by omega)
        have i1 : (0 : Int) ≤ (v : Int) := by omega
        have HF : Hid (hexR k s = if Lib.validRune (v : Int) = true then (v : Int) else -1) := Lib.hid (by rw [hexR, HG.out])
        have HV : Hid (Lib.validRune (v : Int) = decide ((0 ≤ (v : Int) ∧ (v : Int) < 55296) ∨ (57343 < (v : Int) ∧ (v : Int) ≤ 1114111))) := Lib.hid rfl
        clear HG HP hv
        by_cases c1 : v ≤ 1114111
        · have e1 : decide (1114111 < (v : Int)) = false := decide_eq_false (by omega)
          have i3 : (v : Int) ≤ 1114111 := by omega
          by_cases c2 : 55296 ≤ v
          · have e2 : decide (55296 ≤ (v : Int)) = true := decide_eq_true (by omega)
            by_cases c3 : v ≤ 57343
            · have e3 : decide ((v : Int) ≤ 57343) = true := decide_eq_true (by omega)
              have HF2 := Lib.hid (HF.out.trans (if_neg (by rw [HV.out, decide_eq_true_iff]; omega)))
              go_wp2
              go_ret
              exact ⟨ret_int HF2.out.symm, rfl⟩
            · have e3 : decide ((v : Int) ≤ 57343) = false := decide_eq_false (by omega)
              have HF2 := Lib.hid (HF.out.trans (if_pos (by rw [HV.out, decide_eq_true_iff]; omega)))
              go_wp2
              go_ret
              exact ⟨ret_int HF2.out.symm, rfl⟩
          · have e2 : decide (55296 ≤ (v : Int)) = false := decide_eq_false (by omega)
            have HF2 := Lib.hid (HF.out.trans (if_pos (by rw [HV.out, decide_eq_true_iff]; omega)))
            go_wp2
            go_ret
            exact ⟨ret_int HF2.out.symm, rfl⟩
        · have e1 : decide (1114111 < (v : Int)) = true := decide_eq_true (by omega)
          have HF2 := Lib.hid (HF.out.trans (if_neg (by rw [HV.out, decide_eq_true_iff]; omega)))
          go_wp2
          go_ret
          exact ⟨ret_int HF2.out.symm, rfl⟩

/-- What the reference tells of what stands behind a backslash. -/
def EscIs (lit : Bool) (s o : List UInt8) (n : Nat) : Prop := (n = 0 ∧ o = [] ∧ esc lit s = none) ∨ (0 < n ∧ n ≤ s.length ∧ esc lit s = some (o, s.drop n) ∧ o.length ≤ n)
theorem rune_cases (n : Nat) (t : List UInt8) : (hexR n t = -1 ∧ rune (hexGo n 0 t) = none) ∨ (∃ v : Nat, hexR n t = (v : Int) ∧ Lib.validRune (v : Int) = true ∧ n ≤ t.length ∧ rune (hexGo n 0 t) = some (encodeRune (v : Int), t.drop n)) := by
  unfold hexR
  cases h : hexGo n 0 t with
  | none => exact .inl ⟨rfl, rfl⟩
  | some p =>
    obtain ⟨v, r⟩ := p
    obtain ⟨rfl, h2⟩ := hexGo_rest n 0 t v r h
    dsimp only
    by_cases hv : Lib.validRune (v : Int) = true
    · right
      exact ⟨v, by rw [if_pos hv], hv, h2, by rw [rune, if_pos hv]⟩
    · left
      exact ⟨by rw [if_neg hv], by rw [rune, if_neg hv]⟩
def escF : List UInt8 := [34, 92, 110, 114, 116, 98, 102, 39]
def escT : List UInt8 := [34, 92, 10, 13, 9, 8, 12, 39]
theorem escV_at : ∀ k : Nat, (h : k < 8) → escV (escF[k]'h) = some (escT[k]'h) := by decide
theorem escV_not (b : UInt8) (h : ∀ k : Nat, (hk : k < 8) → escF[k]'hk ≠ b) : escV b = none := by
  have h0 := h 0 (by decide); have h1 := h 1 (by decide); have h2 := h 2 (by decide); have h3 := h 3 (by decide)
  have h4 := h 4 (by decide); have h5 := h 5 (by decide); have h6 := h 6 (by decide); have h7 := h 7 (by decide)
  simp [escF] at h0 h1 h2 h3 h4 h5 h6 h7
  unfold escV
  rw [if_neg (fun e => h4 e.symm), if_neg (fun e => h5 e.symm), if_neg (fun e => h2 e.symm), if_neg (fun e => h3 e.symm), if_neg (fun e => h6 e.symm), if_neg (fun e => h0 e.symm), if_neg (fun e => h7 e.symm), if_neg (fun e => h1 e.symm)]
theorem esc_nil_calls (lit : Bool) (w : World) :
    Calls Tryz.prog 86 #[.string (mkS []), .bool lit] w fun e w' => e = .returned (.tuple #[.string (mkS []), .int .i64 0]) ∧ w = w' := by
  have z1 : (mkS ([] : List UInt8)).toList = [] := mkS_toList []
  go_enter Tryz.func86, Tryz.ntmps86
  go_wp2
  go_ret2
  exact ⟨rfl, rfl⟩
set_option maxRecDepth 100000 in
set_option maxHeartbeats 1600000 in
theorem esc_num_calls (b : UInt8) (t : List UInt8) (n : Nat) (hb : b.toNat = 117 ∧ n = 4 ∨ b.toNat = 85 ∧ n = 8) (lit : Bool) (hs : t.length ≤ 70368744177663) (w : World) :
    Calls Tryz.prog 86 #[.string (mkS (b :: t)), .bool lit] w fun e w' => (∃ (o : List UInt8) (n : Nat), e = .returned (.tuple #[.string (mkS o), .int .i64 n]) ∧ EscIs lit (b :: t) o n) ∧ Below w.heap.size w w' := by
  have HE : Hid (esc lit (b :: t) = rune (hexGo n 0 t)) := Lib.hid (by
    rcases hb with ⟨h, rfl⟩ | ⟨h, rfl⟩
    · rw [show b = 117 from UInt8.toNat_inj.1 h]; rfl
    · rw [show b = 85 from UInt8.toNat_inj.1 h]; rfl)
  have z1 : (mkS (b :: t)).toList = b :: t := mkS_toList _
  have z := mkS_size (b :: t)
  have hk : 0 < (mkS (b :: t)).size := by rw [z]; simp
  have hg : (mkS (b :: t))[0]'hk = b := rfl
  have hx : (mkS (b :: t)).extract 1 (b :: t).length = mkS t := by rw [mkS_extract]; simp
  have hn : (1 : Int) ≤ ((b :: t).length : Int) := by simp; omega
  have hE : (b :: t).isEmpty = false := rfl
  have HL : Hid ((b :: t).length = t.length + 1) := Lib.hid rfl
  generalize hL : (b :: t : List UInt8) = L at *
  have HB1 := Lib.hid hL
  clear hL
  have RC := rune_cases n t
  rcases hb with ⟨h, rfl⟩ | ⟨h, rfl⟩
  · have e1 : ((b.toNat : Int) == 117) = true := by rw [beq_iff_eq]; omega
    have e2 : ((b.toNat : Int) == 85) = false := by rw [beq_eq_false_iff_ne]; omega
    clear h
    rcases RC with ⟨r1, r2⟩ | ⟨v, r1, r2, r3, r4⟩
    · have R1 := Lib.hid r1
      have R2 := Lib.hid (HE.out.trans r2)
      clear r1 r2
      go_enter Tryz.func86, Tryz.ntmps86
      go_wp2_with fail
      refine (hex_calls t 4 (by omega) (by omega) _).mono ?_
      rintro e w1 ⟨rfl, rfl⟩
      rw [R1.out]
      go_wp2
      go_ret2
      exact ⟨⟨[], 0, rfl, .inl ⟨rfl, rfl, R2.out⟩⟩, Below.refl _ _⟩
    · have R1 := Lib.hid r1
      have R2 := Lib.hid (HE.out.trans r4)
      have R3 := Lib.hid r3
      have hv0 : (0 : Int) ≤ (v : Int) := by omega
      have hdl : decide ((v : Int) < 0) = false := decide_eq_false (by omega)
      have hcv := fun W : World => conv_rune v r2 W
      clear r1 r2 r3 r4
      go_enter Tryz.func86, Tryz.ntmps86
      go_wp2_with fail
      refine (hex_calls t 4 (by omega) (by omega) _).mono ?_
      rintro e w1 ⟨rfl, rfl⟩
      rw [R1.out]
      go_wp2
      go_ret2
      exact ⟨⟨encodeRune (v : Int), 5, rfl, .inr ⟨by omega, by rw [HL.out]; have := R3.out; omega, by rw [R2.out, ← HB1.out]; rfl, Nat.le_trans (encodeRune_len _) (by omega)⟩⟩, (Below.refl _ _).alloc (Nat.le_refl _) _⟩
  · have e1 : ((b.toNat : Int) == 117) = false := by rw [beq_eq_false_iff_ne]; omega
    have e2 : ((b.toNat : Int) == 85) = true := by rw [beq_iff_eq]; omega
    clear h
    rcases RC with ⟨r1, r2⟩ | ⟨v, r1, r2, r3, r4⟩
    · have R1 := Lib.hid r1
      have R2 := Lib.hid (HE.out.trans r2)
      clear r1 r2
      go_enter Tryz.func86, Tryz.ntmps86
      go_wp2_with fail
      refine (hex_calls t 8 (by omega) (by omega) _).mono ?_
      rintro e w1 ⟨rfl, rfl⟩
      rw [R1.out]
      go_wp2
      go_ret2
      exact ⟨⟨[], 0, rfl, .inl ⟨rfl, rfl, R2.out⟩⟩, Below.refl _ _⟩
    · have R1 := Lib.hid r1
      have R2 := Lib.hid (HE.out.trans r4)
      have R3 := Lib.hid r3
      have hv0 : (0 : Int) ≤ (v : Int) := by omega
      have hdl : decide ((v : Int) < 0) = false := decide_eq_false (by omega)
      have hcv := fun W : World => conv_rune v r2 W
      clear r1 r2 r3 r4
      go_enter Tryz.func86, Tryz.ntmps86
      go_wp2_with fail
      refine (hex_calls t 8 (by omega) (by omega) _).mono ?_
      rintro e w1 ⟨rfl, rfl⟩
      rw [R1.out]
      go_wp2
      go_ret2
      exact ⟨⟨encodeRune (v : Int), 9, rfl, .inr ⟨by omega, by rw [HL.out]; have := R3.out; omega, by rw [R2.out, ← HB1.out]; rfl, Nat.le_trans (encodeRune_len _) (by omega)⟩⟩, (Below.refl _ _).alloc (Nat.le_refl _) _⟩

theorem esc_other (b : UInt8) (t : List UInt8) (lit : Bool) (h1 : b.toNat ≠ 117) (h2 : b.toNat ≠ 85) : esc lit (b :: t) = if lit then (match escV b with
      | some c => some ([c], t)
      | none => none) else none := by
  rw [esc, if_neg (fun e => h1 (by rw [e]; rfl)), if_neg (fun e => h2 (by rw [e]; rfl))]
  rfl
set_option maxRecDepth 100000 in
set_option maxHeartbeats 1600000 in
theorem esc_sign_calls (b : UInt8) (t : List UInt8) (h1 : b.toNat ≠ 117) (h2 : b.toNat ≠ 85) (lit : Bool) (hs : t.length ≤ 70368744177663) (w : World) :
    Calls Tryz.prog 86 #[.string (mkS (b :: t)), .bool lit] w fun e w' => (∃ (o : List UInt8) (n : Nat), e = .returned (.tuple #[.string (mkS o), .int .i64 n]) ∧ EscIs lit (b :: t) o n) ∧ Below w.heap.size w w' := by
  have HE := Lib.hid (esc_other b t lit h1 h2)
  have z1 : (mkS (b :: t)).toList = b :: t := mkS_toList _
  have z := mkS_size (b :: t)
  have hk : 0 < (mkS (b :: t)).size := by rw [z]; simp
  have hg : (mkS (b :: t))[0]'hk = b := rfl
  have hn : (1 : Int) ≤ ((b :: t).length : Int) := by simp; omega
  have hE : (b :: t).isEmpty = false := rfl
  have HL : Hid ((b :: t).length = t.length + 1) := Lib.hid rfl
  have e1 : ((b.toNat : Int) == 117) = false := by rw [beq_eq_false_iff_ne]; omega
  have e2 : ((b.toNat : Int) == 85) = false := by rw [beq_eq_false_iff_ne]; omega
  have HT : Hid (t = (b :: t).drop 1) := Lib.hid rfl
  generalize hL : (b :: t : List UInt8) = L at *
  clear h1 h2 hL
  cases lit with
  | false =>
    have HN : Hid (esc false L = none) := HE
    clear HE
    go_enter Tryz.func86, Tryz.ntmps86
    go_wp2
    go_loopw [10] (fun vi wr => vi = .int .i64 0 ∧ wr = w) (fun _ _ => 0)
    case atStart => exact ⟨rfl, rfl⟩
    case round =>
      obtain ⟨rfl, rfl⟩ := hrel
      go_wp2
      go_ret2
      exact ⟨⟨[], 0, rfl, .inl ⟨rfl, rfl, HN.out⟩⟩, Below.refl _ _⟩
  | true =>
    go_enter Tryz.func86, Tryz.ntmps86
    go_wp2
    go_loopw [10] (fun vi wr => ∃ k : Nat, k ≤ 8 ∧ vi = .int .i64 k ∧ Hid (Below w.heap.size w wr) ∧ Hid (∀ j : Nat, (hj : j < 8) → j < k → escF[j]'hj ≠ b)) (fun vi _ => 8 - (intOf vi).toNat)
    case atStart => exact ⟨0, by omega, rfl, Lib.hid (Below.refl _ _), Lib.hid (fun j hj h => by omega)⟩
    case round =>
      obtain ⟨k, hk8, rfl, HW, HF⟩ := hrel
      by_cases hlt : k < 8
      · have hd : decide ((k : Int) < 8) = true := decide_eq_true (by omega)
        have ik : (k : Int) < 8 := by omega
        have ik0 : (0 : Int) ≤ (k : Int) := by omega
        generalize hFF : ({ data := #[34, 92, 110, 114, 116, 98, 102, 39] } : ByteArray) = F
        generalize hTT : ({ data := #[34, 92, 10, 13, 9, 8, 12, 39] } : ByteArray) = T
        have hFe : F = mkS escF := hFF.symm
        have hTe : T = mkS escT := hTT.symm
        have zF : F.size = 8 := by rw [hFe]; rfl
        have zT : T.size = 8 := by rw [hTe]; rfl
        have hkF : k < F.size := by omega
        have hgF0 : F[k]'hkF = escF[k]'hlt := by subst hFe; rfl
        obtain ⟨f, hf⟩ : ∃ f, escF[k]'hlt = f := ⟨_, rfl⟩
        have hgF : F[k]'hkF = f := hgF0.trans hf
        have HX : Hid (T.extract k (k + 1) = mkS [escT[k]'hlt]) := Lib.hid (by
          rw [hTe, mkS_extract]
          congr 1
          rw [show k + 1 - k = 1 from by omega, List.drop_eq_getElem_cons hlt]
          rfl)
        have HV := Lib.hid (escV_at k hlt)
        rw [hf] at HV
        have HF1 : Hid (f ≠ b → ∀ j : Nat, (hj : j < 8) → j < k + 1 → escF[j]'hj ≠ b) := Lib.hid (fun hne j hj h => by
          by_cases e : j = k
          · subst e
            rw [hf]
            exact hne
          · exact HF.out j hj (by omega))
        clear hFF hTT hFe hTe hgF0 hf HF
        have zs : (0 : Int) < (L.length : Int) := by omega
        by_cases hbf : f = b
        · subst hbf
          go_wp2
          go_quiet (fail)
          go_wp2
          go_ret2
          exact ⟨⟨[escT[k]'hlt], 1, by rw [HX.out]; rfl, .inr ⟨by omega, by omega, by rw [HE.out, HV.out, HT.out]; rfl, by simp⟩⟩, bel_drewN HW.out _⟩
        · have hbi : ((b.toNat : Int) == (f.toNat : Int)) = false := by
            rw [beq_eq_false_iff_ne]
            intro e
            exact hbf (UInt8.toNat_inj.1 (by omega))
          have HF2 := Lib.hid (HF1.out hbf)
          clear hbf HF1
          go_wp2
          go_quiet (fail)
          go_wp2
          go_roundw
          case rel => exact ⟨k + 1, by omega, by go_num, Lib.hid (bel_drewN HW.out _), HF2⟩
          case measure => simp [intOf]; omega
      · obtain rfl : k = 8 := by omega
        have HN : Hid (esc true L = none) := Lib.hid (by
          rw [HE.out, escV_not b (fun j hj => HF.out j hj hj)]
          rfl)
        go_wp2
        go_ret2
        exact ⟨⟨[], 0, rfl, .inl ⟨rfl, rfl, HN.out⟩⟩, HW.out⟩
end Go.Proofs.YtmcoloapiiakbaaGreatDoor.Ref5

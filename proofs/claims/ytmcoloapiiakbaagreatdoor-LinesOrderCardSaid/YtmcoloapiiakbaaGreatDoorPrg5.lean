/-
  What the program's reader of lines answers: words, literals.
-/
import Derived.Test.YtmcoloapiiakbaaGreatDoorPrg4
set_option linter.unusedVariables false
set_option linter.unusedSimpArgs false
namespace Go.Proofs.YtmcoloapiiakbaaGreatDoor.Prg
open Go.RowKit Go.Lib Go.Proofs.YtmcoloapiiakbaaGreatDoor.B Go.Proofs.YtmcoloapiiakbaaGreatDoor.Rd Go.Proofs.YtmcoloapiiakbaaGreatDoor.Utf Go.Proofs.YtmcoloapiiakbaaGreatDoor.TermPure Go.Proofs.YtmcoloapiiakbaaGreatDoor.LinesPure Go.Proofs.YtmcoloapiiakbaaGreatDoor.Tx Go.Proofs.YtmcoloapiiakbaaGreatDoor.Env Go.Proofs.YtmcoloapiiakbaaGreatDoor.Bld

theorem valid_tail (b : UInt8) (t : List UInt8) (hb : b.toNat < 128) (hv : validD (b :: t) = true) : validD t = true := by
  have h := validD_step (b :: t) (by simp)
  rw [decodeL_ascii b t hb] at h
  rw [hv] at h
  dsimp only at h
  rw [if_neg (by rintro ⟨h1, _⟩; omega)] at h
  simpa using h.symm
theorem valid_dropWhile (p : UInt8 → Bool) (hp : ∀ b : UInt8, 128 ≤ b.toNat → p b = false) : ∀ l : List UInt8, validD l = true → validD (l.dropWhile p) = true
  | [], h => h
  | b :: t, h => by
    rw [List.dropWhile_cons]
    by_cases hb : b.toNat < 128
    · cases hpb : p b with
      | true => exact valid_dropWhile p hp t (valid_tail b t hb h)
      | false => exact h
    · rw [hp b (by omega)]
      exact h
theorem valid_drop (p : List UInt8) (hp : ∀ b ∈ p, b.toNat < 128) : ∀ l : List UInt8, p.isPrefixOf l = true → validD l = true → validD (l.drop p.length) = true := by
  induction p with
  | nil => intro l _ h; simpa using h
  | cons c p ih =>
    intro l h hv
    cases l with
    | nil => cases h
    | cons b t =>
      rw [List.isPrefixOf, Bool.and_eq_true, beq_iff_eq] at h
      obtain ⟨rfl, h⟩ := h
      exact ih (fun x hx => hp x (by simp [hx])) t h (valid_tail c t (hp c (by simp)) hv)
theorem inRun_high (d : Bool) (b : UInt8) (h : 128 ≤ b.toNat) : inRun d b = false := by
  unfold inRun alnum
  have : (b == 45) = false := by rw [beq_eq_false_iff_ne]; intro e; rw [e] at h; exact absurd h (by decide)
  rw [this]
  simp
  omega
theorem blank_high (b : UInt8) (h : 128 ≤ b.toNat) : LinesPure.blank b = false := by
  unfold LinesPure.blank
  rw [Bool.or_eq_false_iff, beq_eq_false_iff_ne, beq_eq_false_iff_ne]
  exact ⟨fun e => by rw [e] at h; exact absurd h (by decide), fun e => by rw [e] at h; exact absurd h (by decide)⟩
theorem run_valid (d : Bool) (l : List UInt8) (h : validD l = true) : validD (run d l).2 = true := valid_dropWhile _ (inRun_high d) l h
theorem blanks_valid (l : List UInt8) (h : validD l = true) : validD (blanks l) = true := valid_dropWhile _ blank_high l h
theorem take_while (p : UInt8 → Bool) (l : List UInt8) : l.take (l.length - (l.dropWhile p).length) = l.takeWhile p := by
  have h := List.takeWhile_append_dropWhile (p := p) (l := l)
  have hl := congrArg List.length h
  rw [List.length_append] at hl
  have : l.length - (l.dropWhile p).length = (l.takeWhile p).length := by omega
  rw [this]
  conv => lhs; arg 2; rw [← h]
  rw [List.take_left']
  rfl
theorem run_ascii (d : Bool) (l : List UInt8) : ∀ b ∈ (run d l).1, b.toNat < 128 := by
  intro b hb
  have := List.all_eq_true.1 (List.all_takeWhile (p := inRun d) (l := l)) b hb
  by_cases h : b.toNat < 128
  · exact h
  · rw [inRun_high d b (by omega)] at this
    cases this

/-- A function value that tells runes of a run. -/
def Tells (g : Nat) (d : Bool) : Prop := (∀ args w, (callFunc g args).run Tryz.prog w = .ok (.enter g args) w) ∧ ∃ p : Nat → Bool, (∀ c, 128 ≤ c → p c = false) ∧ (∀ b : UInt8, p b.toNat = inRun d b) ∧ ∀ w, PredGrows Tryz.prog g #[] p w
theorem tells_plain : Tells 57 false := by
  refine ⟨enters_of Tryz.func57 (by kernel_rfl) rfl, alnum, ?_, ?_, ?_⟩
  · intro c h; unfold alnum; simp; omega
  · intro b; simp [inRun]
  · intro w W x hx hb
    exact (plain_calls x hx W).mono fun e w' ⟨h1, h2⟩ => ⟨h1, h2 ▸ Below.refl _ _⟩
theorem dash_calls (c : Nat) (h1 : c ≤ 1114111) (w : World) :
    Calls Tryz.prog 85 #[.int .i32 (c : Int)] w fun e w' => e = .returned (.bool (alnum c || ((c : Int) == 45))) ∧ w = w' := by
  go_enter Tryz.func85, Tryz.ntmps85
  go_wp2_with fail
  refine (plain_calls c h1 _).mono ?_
  rintro e w1 ⟨rfl, rfl⟩
  generalize hq : alnum c = q
  have HQ := Lib.hid hq
  clear hq
  cases q
  · go_wp2
    go_ret
    exact ⟨ret_bool (by rw [HQ.out]; rfl), rfl⟩
  · go_wp2
    go_ret
    exact ⟨ret_bool (by rw [HQ.out]; rfl), rfl⟩
theorem tells_dash : Tells 85 true := by
  refine ⟨enters_of Tryz.func85 (by kernel_rfl) rfl, fun c => alnum c || ((c : Int) == 45), ?_, ?_, ?_⟩
  · intro c h
    have : ((c : Int) == 45) = false := by rw [beq_eq_false_iff_ne]; omega
    unfold alnum
    simp [this]
    omega
  · intro b
    show (alnum b.toNat || ((b.toNat : Int) == 45)) = inRun true b
    unfold inRun
    rw [Bool.true_and]
    congr 1
    rw [Bool.eq_iff_iff, beq_iff_eq, beq_iff_eq]
    constructor
    · intro h; exact UInt8.toNat_inj.1 (by show b.toNat = 45; omega)
    · rintro rfl; rfl
  · intro w W x hx hb
    exact (dash_calls x hx W).mono fun e w' ⟨h1, h2⟩ => ⟨h1, h2 ▸ Below.refl _ _⟩
set_option maxHeartbeats 1600000 in
theorem while_calls (rb : Nat) (l : List UInt8) (g : Nat) (d : Bool) (hg : Tells g d) (w : World) (h : At w rb l false) :
    Calls Tryz.prog 56 #[.pointer (some ⟨rb, 0, none⟩), .func (.func g) #[] #[]] w fun e w' => e = .returned (.string (mkS (run d l).1)) ∧ Step w w' rb (run d l).2 false := by
  obtain ⟨eg, p, hp1, hp2, hp3⟩ := hg
  have HS := Lib.hid (Step.refl h)
  have hlen := h.len
  have hT : ∀ W, Calls Tryz.prog 83 #[.string (mkS l), .func (.func g) #[] #[]] W fun e w' => e = .returned (.string (mkS (run d l).2)) ∧ Below W.heap.size W w' := fun W => by
    refine (Tryz.strings_TrimLeftFunc_grows g #[] eg p (mkS l) W (hp3 W)).mono ?_
    rintro e w' ⟨h1, h2⟩
    refine ⟨?_, h2⟩
    rw [h1, trimF_eq p hp1 l]
    unfold run
    congr 3
    congr 1
    funext b
    exact hp2 b
  have HT := Lib.hid hT
  have hr2 : (run d l).2.length ≤ l.length := List.Sublist.length_le (List.dropWhile_sublist _)
  have HX : Hid ((mkS l).extract 0 (l.length - (run d l).2.length) = mkS (run d l).1) := Lib.hid (by
    rw [mkS_extract, List.drop_zero, Nat.sub_zero]
    exact congrArg mkS (take_while (inRun d) l))
  clear hT eg hp1 hp2 hp3
  generalize (run d l).2 = q at *
  generalize (run d l).1 = u at *
  obtain ⟨c0, c1, f0, f1, _⟩ := h
  have zl := mkS_size l
  have zq := mkS_size q
  go_enter Tryz.func56, Tryz.ntmps56
  go_wp2_with fail
  refine (HT.out _).mono ?_
  rintro e w1 ⟨rfl, hb1⟩
  have HS1 := Lib.hid (HS.out.below hb1)
  clear c0 c1 f0 f1 hb1 HT
  obtain ⟨c0, c1, f0, f1, _⟩ := HS1.out.at'
  have hw1 : IntKind.i64.wrap ((l.length : Int) - (q.length : Int)) = (l.length : Int) - (q.length : Int) := IntWalk.i64_in _ (by omega)
  have hw2 : (0 : Int) ≤ (l.length : Int) - (q.length : Int) := by omega
  have hw3 : ((l.length : Int) - (q.length : Int)).toNat = l.length - q.length := by omega
  have hw4 : (l.length : Int) - (q.length : Int) ≤ (l.length : Int) := by omega
  have hw5 : (q.length : Int) ≤ (l.length : Int) := by omega
  go_wp2
  go_quiet (fail)
  go_wp2
  go_ret
  exact ⟨(ret_str HX.out : Ending.returned (.string ((mkS l).extract 0 (l.length - q.length))) = .returned (.string (mkS u))), (HS1.out.below (bel_drewN (Below.refl _ _) _)).set0 (by omega)⟩
end Go.Proofs.YtmcoloapiiakbaaGreatDoor.Prg

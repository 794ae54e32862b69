/-
  The law LinesShort, walked.
-/
import Derived.Test.YtmcoloapiiakbaaDoorKnown
set_option linter.unusedVariables false
set_option linter.unusedSimpArgs false
namespace Go.Proofs.YtmcoloapiiakbaaDoor.LShort
open Go.RowKit Go.Lib Go.Proofs.YtmcoloapiiakbaaDoor.B Go.Proofs.YtmcoloapiiakbaaDoor.Rd Go.Proofs.YtmcoloapiiakbaaDoor.Utf Go.Proofs.YtmcoloapiiakbaaDoor.TermPure Go.Proofs.YtmcoloapiiakbaaDoor.LinesPure Go.Proofs.YtmcoloapiiakbaaDoor.Tx Go.Proofs.YtmcoloapiiakbaaDoor.Env Go.Proofs.YtmcoloapiiakbaaDoor.Tri Go.Proofs.YtmcoloapiiakbaaDoor.Ref5

def texts : List (List UInt8) := [[60, 97, 62, 60, 98, 62, 60, 99, 62, 46], [95, 58, 97, 60, 98, 62, 95, 58, 99, 46], [60, 97, 62, 60, 98, 62, 34, 99, 34, 64, 101, 110, 46], [60, 97, 62, 60, 98, 62, 34, 99, 34, 94, 94, 60, 100, 62, 46], [95, 58, 97, 95, 58, 98, 60, 99, 62, 46], [60, 97, 62, 60, 98, 62, 95, 58, 99, 35, 46], [60, 97, 62, 32, 60, 98, 62, 32, 60, 99, 62, 32, 46, 32, 120], [60, 97, 62, 32, 60, 98, 62, 32, 60, 99, 62], [60, 97, 62, 32, 60, 98, 62], [34, 97, 34, 32, 60, 98, 62, 32, 60, 99, 62, 32, 46], [60, 97, 62, 32, 95, 58, 98, 32, 60, 99, 62, 32, 46], [60, 97, 62, 32, 34, 98, 34, 32, 60, 99, 62, 32, 46], [60, 97, 62, 32, 60, 98, 62, 32, 34, 99, 34, 32, 64, 101, 110, 32, 46], [60, 97, 62, 32, 60, 98, 62, 32, 34, 99, 34, 94, 94, 32, 60, 100, 62, 32, 46], [60, 97, 62, 32, 60, 98, 62, 32, 34, 99, 34, 64, 69, 78, 32, 46], [95, 58, 32, 60, 98, 62, 32, 60, 99, 62, 32, 46], [60, 97, 62, 32, 60, 98, 62, 32, 34, 92, 120, 34, 32, 46], [60, 97, 62, 32, 60, 98, 62, 32, 60, 92, 116, 62, 32, 46]]
def cellsL : List Value := [.string ⟨#[60, 97, 62, 60, 98, 62, 60, 99, 62, 46]⟩, .string ⟨#[95, 58, 97, 60, 98, 62, 95, 58, 99, 46]⟩, .string ⟨#[60, 97, 62, 60, 98, 62, 34, 99, 34, 64, 101, 110, 46]⟩, .string ⟨#[60, 97, 62, 60, 98, 62, 34, 99, 34, 94, 94, 60, 100, 62, 46]⟩, .string ⟨#[95, 58, 97, 95, 58, 98, 60, 99, 62, 46]⟩, .string ⟨#[60, 97, 62, 60, 98, 62, 95, 58, 99, 35, 46]⟩, .string ⟨#[60, 97, 62, 32, 60, 98, 62, 32, 60, 99, 62, 32, 46, 32, 120]⟩, .string ⟨#[60, 97, 62, 32, 60, 98, 62, 32, 60, 99, 62]⟩, .string ⟨#[60, 97, 62, 32, 60, 98, 62]⟩, .string ⟨#[34, 97, 34, 32, 60, 98, 62, 32, 60, 99, 62, 32, 46]⟩, .string ⟨#[60, 97, 62, 32, 95, 58, 98, 32, 60, 99, 62, 32, 46]⟩, .string ⟨#[60, 97, 62, 32, 34, 98, 34, 32, 60, 99, 62, 32, 46]⟩, .string ⟨#[60, 97, 62, 32, 60, 98, 62, 32, 34, 99, 34, 32, 64, 101, 110, 32, 46]⟩, .string ⟨#[60, 97, 62, 32, 60, 98, 62, 32, 34, 99, 34, 94, 94, 32, 60, 100, 62, 32, 46]⟩, .string ⟨#[60, 97, 62, 32, 60, 98, 62, 32, 34, 99, 34, 64, 69, 78, 32, 46]⟩, .string ⟨#[95, 58, 32, 60, 98, 62, 32, 60, 99, 62, 32, 46]⟩, .string ⟨#[60, 97, 62, 32, 60, 98, 62, 32, 34, 92, 120, 34, 32, 46]⟩, .string ⟨#[60, 97, 62, 32, 60, 98, 62, 32, 60, 92, 116, 62, 32, 46]⟩]
theorem cells_at (k : Nat) (h : k < 18) : cellsL[k]? = some (.string (mkS (texts.getD k []))) := by
  have : cellsL = texts.map fun x => Value.string (mkS x) := rfl
  rw [this, List.getElem?_map, List.getD_eq_getElem?_getD, List.getElem?_eq_getElem (show k < texts.length from h)]
  rfl
theorem cells_arr (k : Nat) (h : k < 18) : (#[.string ⟨#[60, 97, 62, 60, 98, 62, 60, 99, 62, 46]⟩, .string ⟨#[95, 58, 97, 60, 98, 62, 95, 58, 99, 46]⟩, .string ⟨#[60, 97, 62, 60, 98, 62, 34, 99, 34, 64, 101, 110, 46]⟩, .string ⟨#[60, 97, 62, 60, 98, 62, 34, 99, 34, 94, 94, 60, 100, 62, 46]⟩, .string ⟨#[95, 58, 97, 95, 58, 98, 60, 99, 62, 46]⟩, .string ⟨#[60, 97, 62, 60, 98, 62, 95, 58, 99, 35, 46]⟩, .string ⟨#[60, 97, 62, 32, 60, 98, 62, 32, 60, 99, 62, 32, 46, 32, 120]⟩, .string ⟨#[60, 97, 62, 32, 60, 98, 62, 32, 60, 99, 62]⟩, .string ⟨#[60, 97, 62, 32, 60, 98, 62]⟩, .string ⟨#[34, 97, 34, 32, 60, 98, 62, 32, 60, 99, 62, 32, 46]⟩, .string ⟨#[60, 97, 62, 32, 95, 58, 98, 32, 60, 99, 62, 32, 46]⟩, .string ⟨#[60, 97, 62, 32, 34, 98, 34, 32, 60, 99, 62, 32, 46]⟩, .string ⟨#[60, 97, 62, 32, 60, 98, 62, 32, 34, 99, 34, 32, 64, 101, 110, 32, 46]⟩, .string ⟨#[60, 97, 62, 32, 60, 98, 62, 32, 34, 99, 34, 94, 94, 32, 60, 100, 62, 32, 46]⟩, .string ⟨#[60, 97, 62, 32, 60, 98, 62, 32, 34, 99, 34, 64, 69, 78, 32, 46]⟩, .string ⟨#[95, 58, 32, 60, 98, 62, 32, 60, 99, 62, 32, 46]⟩, .string ⟨#[60, 97, 62, 32, 60, 98, 62, 32, 34, 92, 120, 34, 32, 46]⟩, .string ⟨#[60, 97, 62, 32, 60, 98, 62, 32, 60, 92, 116, 62, 32, 46]⟩] : Array Value)[k]? = some (.string (mkS (texts.getD k []))) := by
  rw [← cells_at k h]
  exact List.getElem?_toArray
def yes (k : Nat) : Bool := decide (k ≤ 3) || k == 14
theorem texts_all : ∀ k : Fin 18, (match lineOf false (texts.getD k.val []) with | some (some _) => yes k.val | some none => false | none => !yes k.val) = true := by decide +kernel
theorem text_shape (k : Nat) (h : k < 18) : ∃ x, oneV (lineOf false (texts.getD k [])) = .tuple #[tripleV x, .bool (yes k), .bool (yes k)] := by
  have := texts_all ⟨k, h⟩
  dsimp only at this
  generalize lineOf false (texts.getD k []) = r at *
  cases r with
  | none =>
    simp at this
    exact ⟨zeroTr, by rw [this]; rfl⟩
  | some o => cases o with
    | none => simp at this
    | some t =>
      simp at this
      exact ⟨t, by rw [this]; rfl⟩
theorem text_len (k : Nat) : (texts.getD k []).length ≤ 1000 := by
  rw [List.getD_eq_getElem?_getD]
  by_cases h : k < texts.length
  · rw [List.getElem?_eq_getElem h]
    have : ∀ x ∈ texts, x.length ≤ 1000 := by decide
    exact this _ (List.getElem_mem h)
  · rw [List.getElem?_eq_none (by omega)]
    simp
set_option maxHeartbeats 3200000 in
set_option maxRecDepth 100000 in
theorem walk (w : World) (he : Env w) (n : Int) (hn : -9223372036854775808 ≤ n ∧ n ≤ 9223372036854775807) : Calls Tryd.prog 3 #[.int .i64 n] w fun e w' => e = .returned (.bool true) ∧ Below w.heap.size w w' := by
  go_enter Tryd.func3, Tryd.ntmps3
  go_upto_region 1 with fail
  go_cut [3] (fun v3 wx => v3 = .slice (some ⟨w.heap.size, 0, none⟩) 18 18 ∧ Hid (Below w.heap.size w wx) ∧ Hid (∀ k, k < 18 → wx.cell? ⟨w.heap.size, k, none⟩ = some (.string (mkS (texts.getD k [])))))
  case first =>
    go_wp2
    go_meet
    exact ⟨rfl, Lib.hid (bel_alloc (Below.refl _ _) _), Lib.hid (fun k hk => by unfold World.cell?; dsimp only; rw [Kd.heap_new]; exact cells_arr k hk)⟩
  case rest =>
  obtain ⟨rfl, HB, HC⟩ := hcut
  by_cases h0 : n < 0
  · have hd : decide (n < 0) = true := decide_eq_true h0
    go_wp2
    go_ret
    exact ⟨rfl, HB.out⟩
  have hd : decide (n < 0) = false := decide_eq_false h0
  by_cases h1 : 18 ≤ n
  · have hd1 : decide (18 ≤ n) = true := decide_eq_true h1
    go_wp2
    go_ret
    exact ⟨rfl, HB.out⟩
  have hd1 : decide (18 ≤ n) = false := decide_eq_false h1
  obtain ⟨k, rfl⟩ : ∃ k : Nat, n = k := ⟨n.toNat, by omega⟩
  have hk : k < 18 := by omega
  have c0 := HC.out k hk
  obtain ⟨x, hx⟩ := text_shape k hk
  have hl := text_len k
  have HA := Lib.hid (fun w he => Prg.one_calls (texts.getD k []) (by omega) w he)
  rw [hx] at HA
  generalize texts.getD k [] = l at *
  obtain ⟨⟨sk, sx, se⟩, ⟨pk, px, pe⟩, ⟨ok, ox, oe⟩⟩ := x
  unfold tripleV at HA
  dsimp only at HA
  have HE := Lib.hid (he.below HB.out)
  clear he hx hl
  have hy : (decide ((k : Int) ≤ 3) = true ∧ yes k = true) ∨ (decide ((k : Int) ≤ 3) = false ∧ ((k : Int) == 14) = true ∧ yes k = true) ∨ (decide ((k : Int) ≤ 3) = false ∧ ((k : Int) == 14) = false ∧ yes k = false) := by
    unfold yes
    by_cases h3 : k ≤ 3
    · left
      exact ⟨decide_eq_true (by omega), by simp [h3]⟩
    · by_cases h14 : k = 14
      · right; left
        exact ⟨decide_eq_false (by omega), by rw [beq_iff_eq]; omega, by simp [h14]⟩
      · right; right
        exact ⟨decide_eq_false (by omega), by rw [beq_eq_false_iff_ne]; omega, by simp [h3, h14]⟩
  generalize yes k = y at *
  have hdk : decide ((k : Int) < 0) = false := decide_eq_false (by omega)
  rcases hy with ⟨y1, rfl⟩ | ⟨y1, y2, rfl⟩ | ⟨y1, y2, rfl⟩
  all_goals
    go_wp2_with fail
    refine (HA.out _ HE.out).mono ?_
    rintro e w1 ⟨⟨rfl, _⟩, hb⟩
    have HB1 := Lib.hid (bel_alloc (bel_step HB.out hb) (.cells #[.int .i64 sk, .string (mkS sx), .string (mkS se), .int .i64 pk, .string (mkS px), .string (mkS pe), .int .i64 ok, .string (mkS ox), .string (mkS oe)] 26))
    have HE1 := Lib.hid (HE.out.below (bel_alloc hb (.cells #[.int .i64 sk, .string (mkS sx), .string (mkS se), .int .i64 pk, .string (mkS px), .string (mkS pe), .int .i64 ok, .string (mkS ox), .string (mkS oe)] 26)))
    clear hb
    go_wp2_with fail
    refine (Known.known_calls _ HE1.out).mono ?_
    rintro e w3 ⟨rfl, hb⟩
    have HB3 := Lib.hid (bel_step HB1.out hb)
    clear hb
    go_wp2
    go_ret
    exact ⟨rfl, HB3.out⟩
end Go.Proofs.YtmcoloapiiakbaaDoor.LShort

/-
  Plain facts on files of sections. No Go, no program.
-/
import Derived.Test.YtimjllokibnibaaCrcPure
set_option linter.unusedVariables false
set_option linter.unusedSimpArgs false
namespace Go.Proofs.Ytimjllokibnibaa.BoxPure
open Go.Proofs.Ytimjllokibnibaa.CrcPure

abbrev Sec := Int × List UInt8
/-- IDs rise from above a number on. -/
def rising : Int → List Sec → Bool
  | _, [] => true
  | last, x :: l => decide (last < x.1) && (decide (x.1 ≤ 255) && rising x.1 l)
def total : List Sec → Nat
  | [] => 0
  | x :: l => x.2.length + total l
def May (l : List Sec) : Prop := l.length ≤ 8 ∧ rising 0 l = true ∧ 9 + 7 * l.length + total l ≤ 100000
instance (l : List Sec) : Decidable (May l) := by unfold May; exact inferInstance
def idB (n : Int) : UInt8 := UInt8.ofNat (n % 256).toNat
def head1 (x : Sec) : List UInt8 := idB x.1 :: (three x.2.length ++ three (crc x.2))
def heads : List Sec → List UInt8
  | [] => []
  | x :: l => head1 x ++ heads l
def bodies : List Sec → List UInt8
  | [] => []
  | x :: l => x.2 ++ bodies l
def title : List UInt8 := [84, 82, 73, 86, 1]
def header (l : List Sec) : List UInt8 := title ++ (UInt8.ofNat l.length :: heads l)
def file (l : List Sec) : List UInt8 := header l ++ three (crc (header l)) ++ bodies l

theorem three_length (n : Nat) : (three n).length = 3 := rfl
theorem head1_length (x : Sec) : (head1 x).length = 7 := by simp [head1, three_length]
theorem heads_length : ∀ l : List Sec, (heads l).length = 7 * l.length
  | [] => rfl
  | x :: l => by simp only [heads, List.length_append, head1_length, heads_length l, List.length_cons]; omega
theorem bodies_length : ∀ l : List Sec, (bodies l).length = total l
  | [] => rfl
  | x :: l => by simp only [bodies, List.length_append, bodies_length l, total]
theorem header_length (l : List Sec) : (header l).length = 6 + 7 * l.length := by
  simp only [header, title, List.length_append, List.length_cons, List.length_nil, heads_length]; omega
theorem file_length (l : List Sec) : (file l).length = 9 + 7 * l.length + total l := by
  simp only [file, List.length_append, header_length, three_length, bodies_length]; omega

theorem heads_append (a b : List Sec) : heads (a ++ b) = heads a ++ heads b := by
  induction a with
  | nil => rfl
  | cons x a ih => rw [List.cons_append, heads, heads, ih, List.append_assoc]
theorem bodies_append (a b : List Sec) : bodies (a ++ b) = bodies a ++ bodies b := by
  induction a with
  | nil => rfl
  | cons x a ih => rw [List.cons_append, bodies, bodies, ih, List.append_assoc]
theorem total_append (a b : List Sec) : total (a ++ b) = total a + total b := by
  induction a with
  | nil => simp [total]
  | cons x a ih => rw [List.cons_append, total, total, ih]; omega

/-! ### the program's own test, step by step -/
/-- The last ID of sections, from a number on. -/
def lastID : Int → List Sec → Int
  | n, [] => n
  | _, x :: l => lastID x.1 l
theorem rising_snoc (x : Sec) : ∀ (l : List Sec) (n : Int), rising n (l ++ [x]) = (rising n l && (decide (lastID n l < x.1) && decide (x.1 ≤ 255)))
  | [], n => by rw [List.nil_append, rising, rising, rising, lastID, Bool.and_true, Bool.true_and]
  | y :: l, n => by
    rw [List.cons_append, rising, rising, rising_snoc x l, lastID]
    simp only [Bool.and_assoc]
theorem rising_append_left : ∀ (a b : List Sec) (n : Int), rising n (a ++ b) = true → rising n a = true
  | [], _, _, _ => rfl
  | y :: a, b, n, h => by
    rw [List.cons_append, rising, Bool.and_eq_true, Bool.and_eq_true] at h
    rw [rising, h.1, h.2.1, rising_append_left a b _ h.2.2]
    rfl
theorem lastID_snoc (x : Sec) : ∀ (l : List Sec) (n : Int), lastID n (l ++ [x]) = x.1
  | [], _ => rfl
  | y :: l, n => by rw [List.cons_append, lastID, lastID_snoc x l]

theorem id_range : ∀ (l : List Sec) (n : Int), rising n l = true → ∀ x ∈ l, n < x.1 ∧ x.1 ≤ 255
  | [], _, _, _, hx => by cases hx
  | y :: l, n, h, x, hx => by
    rw [rising, Bool.and_eq_true, Bool.and_eq_true, decide_eq_true_eq, decide_eq_true_eq] at h
    rcases List.mem_cons.1 hx with rfl | hx
    · exact ⟨h.1, h.2.1⟩
    · have := id_range l _ h.2.2 x hx
      omega

theorem take_snoc {α : Type} (l : List α) (k : Nat) (h : k < l.length) : l.take (k + 1) = l.take k ++ [l[k]] := List.take_succ_eq_append_getElem h
theorem total_snoc (l : List Sec) (k : Nat) (h : k < l.length) : total (l.take (k + 1)) = total (l.take k) + l[k].2.length := by
  rw [take_snoc l k h, total_append]; simp [total]
theorem heads_snoc (l : List Sec) (k : Nat) (h : k < l.length) : heads (l.take (k + 1)) = heads (l.take k) ++ head1 l[k] := by
  rw [take_snoc l k h, heads_append]; simp [heads]
theorem bodies_snoc (l : List Sec) (k : Nat) (h : k < l.length) : bodies (l.take (k + 1)) = bodies (l.take k) ++ l[k].2 := by
  rw [take_snoc l k h, bodies_append]; simp [bodies]
theorem rising_snoc' (l : List Sec) (k : Nat) (h : k < l.length) (n : Int) : rising n (l.take (k + 1)) = (rising n (l.take k) && (decide (lastID n (l.take k) < l[k].1) && decide (l[k].1 ≤ 255))) := by
  rw [take_snoc l k h, rising_snoc]
theorem lastID_snoc' (l : List Sec) (k : Nat) (h : k < l.length) (n : Int) : lastID n (l.take (k + 1)) = l[k].1 := by
  rw [take_snoc l k h, lastID_snoc]
theorem total_take (l : List Sec) (k : Nat) : total (l.take k) ≤ total l := by
  conv => rhs; rw [← List.take_append_drop k l, total_append]
  omega
theorem rising_take (l : List Sec) (k : Nat) (n : Int) (h : rising n l = true) : rising n (l.take k) = true := by
  rw [← List.take_append_drop k l] at h
  exact rising_append_left _ _ _ h

theorem lastID_ge : ∀ (l : List Sec) (n : Int), rising n l = true → n ≤ lastID n l
  | [], n, _ => Int.le_refl n
  | y :: l, n, h => by
    rw [rising, Bool.and_eq_true, Bool.and_eq_true, decide_eq_true_eq] at h
    have := lastID_ge l y.1 h.2.2
    rw [lastID]
    omega

/-! ### reading -/
def num (h : List UInt8) : Nat := (h.getD 0 0).toNat * 65536 + (h.getD 1 0).toNat * 256 + (h.getD 2 0).toNat
theorem num_lt (h : List UInt8) : num h < 16777216 := by
  unfold num
  have h0 := (h.getD 0 0).toNat_lt
  have h1 := (h.getD 1 0).toNat_lt
  have h2 := (h.getD 2 0).toNat_lt
  omega
theorem num_three (n : Nat) (hn : n < 16777216) (z : List UInt8) : num (three n ++ z) = n := by
  unfold num three
  simp only [List.cons_append, List.getD_cons_zero, List.getD_cons_succ, UInt8.toNat_ofNat']
  omega
theorem three_inj {a b : Nat} (ha : a < 16777216) (hb : b < 16777216) (h : three a = three b) : a = b := by
  have := num_three a ha []
  rw [h, num_three b hb []] at this
  exact this.symm

def secs : Nat → List UInt8 → List UInt8 → Option (List Sec)
  | 0, _, _ => some []
  | n + 1, h, b =>
    if b.length < num (h.drop 1) then none
    else (secs n (h.drop 7) (b.drop (num (h.drop 1)))).map fun l => (((h.getD 0 0).toNat : Int), b.take (num (h.drop 1))) :: l

theorem idB_val {n : Int} (h1 : 0 ≤ n) (h2 : n ≤ 255) : ((idB n).toNat : Int) = n := by
  unfold idB
  rw [UInt8.toNat_ofNat']
  omega

theorem secs_back : ∀ (l : List Sec) (n : Int), 0 ≤ n → rising n l = true → total l < 16777216 → ∀ z z' : List UInt8, secs l.length (heads l ++ z) (bodies l ++ z') = some l
  | [], _, _, _, _, _, _ => rfl
  | x :: l, n, hn, hr, ht, z, z' => by
    rw [rising, Bool.and_eq_true, Bool.and_eq_true, decide_eq_true_eq, decide_eq_true_eq] at hr
    rw [total] at ht
    have ih := secs_back l x.1 (by omega) hr.2.2 (by omega) z z'
    have e1 : (heads (x :: l) ++ z).drop 1 = three x.2.length ++ (three (crc x.2) ++ (heads l ++ z)) := by
      simp only [heads, head1, List.cons_append, List.drop_succ_cons, List.drop_zero, List.append_assoc]
    have e7 : (heads (x :: l) ++ z).drop 7 = heads l ++ z := by
      rw [heads, List.append_assoc, List.drop_left' (head1_length x)]
    have e0 : (heads (x :: l) ++ z).getD 0 0 = idB x.1 := by
      simp only [heads, head1, List.cons_append, List.getD_cons_zero]
    have eb : bodies (x :: l) ++ z' = x.2 ++ (bodies l ++ z') := by rw [bodies, List.append_assoc]
    rw [List.length_cons, secs, e1, e7, e0, eb, num_three _ (by omega), if_neg (by rw [List.length_append]; omega), List.drop_left, List.take_left, ih]
    simp only [Option.map_some]
    rw [idB_val (by omega) (by omega)]

/-- What is read of a file's bytes, whatever stands behind. -/
def parse (b : List UInt8) : Option (List Sec) := secs (b.getD 5 0).toNat (b.drop 6) (b.drop (9 + 7 * (b.getD 5 0).toNat))

theorem file_count {l : List Sec} (h : l.length ≤ 8) (z : List UInt8) : ((file l ++ z).getD 5 0).toNat = l.length := by
  simp only [file, header, title, List.cons_append, List.nil_append, List.getD_cons_succ, List.getD_cons_zero, UInt8.toNat_ofNat']
  omega
theorem file_drop6 (l : List Sec) (z : List UInt8) : (file l ++ z).drop 6 = heads l ++ (three (crc (header l)) ++ bodies l ++ z) := by
  simp only [file, header, title, List.cons_append, List.nil_append, List.drop_succ_cons, List.drop_zero, List.append_assoc]
theorem file_dropAll (l : List Sec) (z : List UInt8) : (file l ++ z).drop (9 + 7 * l.length) = bodies l ++ z := by
  have : file l ++ z = (header l ++ three (crc (header l))) ++ (bodies l ++ z) := by simp only [file, List.append_assoc]
  rw [this, List.drop_left']
  rw [List.length_append, header_length, three_length]
  omega
theorem parse_file {l : List Sec} (h : May l) (z : List UInt8) : parse (file l ++ z) = some l := by
  unfold parse
  rw [file_count h.1, file_drop6, file_dropAll]
  exact secs_back l 0 (by omega) h.2.1 (by have := h.2.2; omega) _ _

/-- A file tells its sections; nothing that begins so is another. -/
theorem file_prefix {l l' : List Sec} (h : May l) (h' : May l') {z : List UInt8} (e : file l' ++ z = file l) : l' = l ∧ z = [] := by
  have h1 := parse_file h' z
  have h2 := parse_file h []
  rw [List.append_nil] at h2
  rw [e, h2] at h1
  cases h1
  refine ⟨rfl, ?_⟩
  have := congrArg List.length e
  rw [List.length_append] at this
  exact List.eq_nil_of_length_eq_zero (by omega)
theorem file_inj {l l' : List Sec} (h : May l) (h' : May l') (e : file l' = file l) : l' = l := (file_prefix h h' (z := []) (by rw [List.append_nil]; exact e)).1

/-- What a file's bytes are read as. -/
def Reads (b : List UInt8) (r : Option (List Sec)) : Prop := ∀ l, r = some l ↔ May l ∧ file l = b
theorem Reads.unique {b : List UInt8} {r r' : Option (List Sec)} (h : Reads b r) (h' : Reads b r') : r = r' := by
  cases r with
  | none =>
    cases r' with
    | none => rfl
    | some l => exact absurd ((h l).2 ((h' l).1 rfl)) (by simp)
  | some l => exact ((h' l).2 ((h l).1 rfl)).symm
theorem reads_none {b : List UInt8} (h : ∀ l, May l → file l ≠ b) : Reads b none := fun l => ⟨fun e => (by cases e), fun e => absurd e.2 (h l e.1)⟩
theorem reads_of_parse {b : List UInt8} {l : List Sec} (h : parse b = some l) : Reads b (if May l ∧ file l = b then some l else none) := fun l' => by
  constructor
  · intro e
    split at e
    · cases e
      assumption
    · cases e
  · rintro ⟨h1, h2⟩
    have := parse_file h1 []
    rw [List.append_nil, h2, h] at this
    cases this
    rw [if_pos ⟨h1, h2⟩]
theorem reads_of_parse_none {b : List UInt8} (h : parse b = none) : Reads b none := reads_none fun l h1 h2 => by
  have := parse_file h1 []
  rw [List.append_nil, h2, h] at this
  cases this
theorem reads_short {b : List UInt8} (h : b.length < 9 ∨ b.length < 9 + 7 * (b.getD 5 0).toNat ∨ 8 < (b.getD 5 0).toNat) : Reads b none := reads_none fun l h1 h2 => by
  have e1 := file_length l
  have e2 := file_count h1.1 []
  rw [List.append_nil, h2] at e2
  rw [h2] at e1
  have := h1.1
  omega

/-! ### one byte turned -/
def szs : Nat → List UInt8 → Nat
  | 0, _ => 0
  | n + 1, h => num (h.drop 1) + szs n (h.drop 7)
theorem szs_heads : ∀ (l : List Sec), total l < 16777216 → ∀ z, szs l.length (heads l ++ z) = total l
  | [], _, _ => rfl
  | x :: l, ht, z => by
    rw [total] at ht
    have e1 : (heads (x :: l) ++ z).drop 1 = three x.2.length ++ (three (crc x.2) ++ (heads l ++ z)) := by
      simp only [heads, head1, List.cons_append, List.drop_succ_cons, List.drop_zero, List.append_assoc]
    have e7 : (heads (x :: l) ++ z).drop 7 = heads l ++ z := by
      rw [heads, List.append_assoc, List.drop_left' (head1_length x)]
    rw [List.length_cons, szs, e1, e7, num_three _ (by omega), szs_heads l (by omega) z, total]
theorem szs_mono (h : List UInt8) : ∀ {n m : Nat}, n ≤ m → szs n h ≤ szs m h := by
  intro n
  induction n generalizing h with
  | zero => intro m _; exact Nat.zero_le _
  | succ n ih =>
    intro m hm
    obtain ⟨k, rfl⟩ : ∃ k, m = k + 1 := ⟨m - 1, by omega⟩
    rw [szs, szs]
    have := ih (h.drop 7) (m := k) (by omega)
    omega

theorem heads_inj : ∀ (l l' : List Sec), l.length = l'.length → total l < 16777216 → total l' < 16777216 → heads l = heads l' →
    ∀ (z z' : List UInt8) (j : Nat) (c : UInt8), bodies l' = (bodies l).set j c → j < (bodies l).length → bodies l = bodies l'
  | [], [], _, _, _, _, _, _, _, _, _, hj => by simp [bodies] at hj
  | x :: l, x' :: l', hl, ht, ht', hh, z, z', j, c, hb, hj => by
    rw [total] at ht ht'
    have h7 : head1 x = head1 x' ∧ heads l = heads l' := List.append_inj (by simpa [heads] using hh) (by rw [head1_length, head1_length])
    have h3 := h7.1
    unfold head1 at h3
    simp only [List.cons.injEq] at h3
    have h4 := List.append_inj h3.2 (by rw [three_length, three_length])
    have hlen : x.2.length = x'.2.length := three_inj (by omega) (by omega) h4.1
    have hcrc : crc x.2 = crc x'.2 := three_inj (crc_lt _) (crc_lt _) h4.2
    rw [bodies, bodies] at hb
    rw [bodies] at hj
    by_cases hjx : j < x.2.length
    · rw [List.set_append_left _ _ hjx] at hb
      have h5 := List.append_inj hb (by rw [List.length_set]; omega)
      rw [h5.1] at hcrc
      have h6 := crc_set x.2 j hjx c hcrc.symm
      have : x.2.set j c = x.2 := by rw [h6]; exact List.set_getElem_self hjx
      rw [bodies, bodies, h5.1, this, h5.2]
    · rw [List.set_append_right _ _ (by omega)] at hb
      have h5 := List.append_inj hb (by omega)
      have ih := heads_inj l l' (by simpa using hl) (by omega) (by omega) h7.2 z z' (j - x.2.length) c h5.2 (by rw [List.length_append] at hj; omega)
      rw [bodies, bodies, ih, h5.1]

theorem set_drop (l : List UInt8) (i n : Nat) (c : UInt8) (h : i < n) : (l.set i c).drop n = l.drop n := by
  rw [List.drop_set, if_pos h]
theorem set_take (l : List UInt8) (i n : Nat) (c : UInt8) (h : n ≤ i) : (l.set i c).take n = l.take n := by
  rw [List.take_set, List.set_eq_of_length_le (by rw [List.length_take]; omega)]

theorem file_take (l : List Sec) : (file l).take (6 + 7 * l.length) = header l := by
  unfold file
  rw [List.append_assoc, List.take_left' (header_length l)]
theorem file_seal (l : List Sec) : ((file l).drop (6 + 7 * l.length)).take 3 = three (crc (header l)) := by
  unfold file
  rw [List.append_assoc, List.drop_left' (header_length l), List.take_left' (three_length _)]
theorem file_bodies (l : List Sec) : (file l).drop (9 + 7 * l.length) = bodies l := by
  have := file_dropAll l []
  rwa [List.append_nil, List.append_nil] at this

/-- A file one byte of which is turned is none. -/
theorem file_turned {l l' : List Sec} (h : May l) (h' : May l') {i : Nat} (hi : i < (file l).length) {c : UInt8} (hc : c ≠ (file l)[i]) : file l' ≠ (file l).set i c := by
  intro e
  have hlen := congrArg List.length e
  rw [List.length_set, file_length, file_length] at hlen
  have hn := file_count h.1 []
  have hn' := file_count h'.1 []
  rw [List.append_nil] at hn hn'
  by_cases h5 : i = 5
  · subst h5
    have d1 := congrArg (List.drop 6) e
    rw [set_drop _ _ _ _ (by omega)] at d1
    have f1 := file_drop6 l []
    have f2 := file_drop6 l' []
    rw [List.append_nil] at f1 f2
    have s1 := szs_heads l (by have := h.2.2; omega) (three (crc (header l)) ++ bodies l ++ [])
    have s2 := szs_heads l' (by have := h'.2.2; omega) (three (crc (header l')) ++ bodies l' ++ [])
    rw [← f1] at s1
    rw [← f2, d1] at s2
    rcases Nat.lt_trichotomy l.length l'.length with g | g | g
    · have := szs_mono ((file l).drop 6) (Nat.le_of_lt g)
      omega
    · have e5 : (file l').getD 5 0 = c := by
        rw [e, List.getD_eq_getElem?_getD, List.getElem?_set_self hi]
        rfl
      rw [e5] at hn'
      apply hc
      have e6 : (file l)[5] = (file l).getD 5 0 := by rw [List.getD_eq_getElem?_getD, List.getElem?_eq_getElem hi]; rfl
      rw [e6]
      apply UInt8.toNat_inj.1
      omega
    · have := szs_mono ((file l).drop 6) (Nat.le_of_lt g)
      omega
  · have hnn : l'.length = l.length := by
      rw [← hn, ← hn', e, List.getD_eq_getElem?_getD, List.getD_eq_getElem?_getD, List.getElem?_set_ne (by omega)]
    have t1 := congrArg (List.take (6 + 7 * l.length)) e
    rw [← hnn, file_take, hnn] at t1
    have q1 : ((file l').drop (6 + 7 * l.length)).take 3 = (((file l).set i c).drop (6 + 7 * l.length)).take 3 := by rw [e]
    rw [← hnn, file_seal, hnn] at q1
    have b1 := congrArg (List.drop (9 + 7 * l.length)) e
    rw [← hnn, file_bodies, hnn] at b1
    by_cases r1 : i < 6 + 7 * l.length
    · -- in the header
      rw [List.take_set, file_take] at t1
      rw [set_drop _ _ _ _ r1, file_seal] at q1
      have hcr := three_inj (crc_lt _) (crc_lt _) q1
      have hil : i < (header l).length := by rw [header_length]; exact r1
      rw [t1] at hcr
      have := crc_set (header l) i hil c hcr
      apply hc
      rw [this]
      simp only [file, List.append_assoc]
      rw [List.getElem_append_left hil]
    · rw [set_take _ _ _ _ (by omega), file_take] at t1
      by_cases r2 : i < 9 + 7 * l.length
      · -- in its sum
        rw [t1, List.drop_set, if_neg (by omega), List.take_set, file_seal] at q1
        have hj : i - (6 + 7 * l.length) < (three (crc (header l))).length := by rw [three_length]; omega
        have q2 := congrArg (fun b => b[i - (6 + 7 * l.length)]?) q1
        rw [List.getElem?_set_self hj, List.getElem?_eq_getElem hj] at q2
        apply hc
        cases q2
        have s := file_seal l
        have g : (three (crc (header l)))[i - (6 + 7 * l.length)]? = (file l)[i]? := by
          rw [← s, List.getElem?_take, if_pos (by rw [three_length] at hj; exact hj), List.getElem?_drop]
          congr 1
          omega
        rw [List.getElem?_eq_getElem hj, List.getElem?_eq_getElem hi] at g
        exact Option.some.inj g
      · -- in the bodies
        rw [List.drop_set, if_neg (by omega), file_bodies] at b1
        have hh : heads l = heads l' := by
          unfold header at t1
          have := List.append_cancel_left t1
          simp only [List.cons.injEq] at this
          exact this.2.symm
        have hj : i - (9 + 7 * l.length) < (bodies l).length := by
          rw [bodies_length]; rw [file_length] at hi; omega
        have hsame := heads_inj l l' hnn.symm (by have := h.2.2; omega) (by have := h'.2.2; omega) hh [] [] _ c b1 hj
        rw [← hsame] at b1
        have q2 := congrArg (fun b => b[i - (9 + 7 * l.length)]?) b1
        rw [List.getElem?_set_self hj, List.getElem?_eq_getElem hj] at q2
        apply hc
        have s := file_bodies l
        have g : (bodies l)[i - (9 + 7 * l.length)]? = (file l)[i]? := by
          rw [← s, List.getElem?_drop]
          congr 1
          omega
        rw [List.getElem?_eq_getElem hj, List.getElem?_eq_getElem hi] at g
        cases q2
        exact Option.some.inj g
end Go.Proofs.Ytimjllokibnibaa.BoxPure

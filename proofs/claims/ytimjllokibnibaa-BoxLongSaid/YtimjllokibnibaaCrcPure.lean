/-
  Plain facts on CRC-24 as a function on numbers below 2^24. No Go, no program.
-/
namespace Go.Proofs.Ytimjllokibnibaa.CrcPure

/-- One binary digit more. -/
def sh (x : Nat) : Nat := if 16777216 ≤ 2 * x then (2 * x) ^^^ 25578747 else 2 * x
def shN : Nat → Nat → Nat
  | 0, x => x
  | k + 1, x => shN k (sh x)
/-- One byte more. -/
def cstep (x : Nat) (c : UInt8) : Nat := shN 8 (x ^^^ (c.toNat * 65536))
theorem cstep_eq (x : Nat) (c : UInt8) : cstep x c = shN 8 (x ^^^ (c.toNat * 65536)) := rfl
theorem shN_succ (k x : Nat) : shN (k + 1) x = shN k (sh x) := rfl
theorem shN_zero (x : Nat) : shN 0 x = x := rfl
attribute [irreducible] shN cstep
def sumFrom : Nat → List UInt8 → Nat
  | x, [] => x
  | x, c :: l => sumFrom (cstep x c) l
theorem sumFrom_nil (x : Nat) : sumFrom x [] = x := rfl
theorem sumFrom_cons (x : Nat) (c : UInt8) (l : List UInt8) : sumFrom x (c :: l) = sumFrom (cstep x c) l := rfl
def init : Nat := 11994318
theorem init_lt : init < 16777216 := by unfold init; omega
def crc (l : List UInt8) : Nat := sumFrom init l

theorem xor_lt24 {a b : Nat} (ha : a < 16777216) (hb : b < 16777216) : a ^^^ b < 16777216 := by
  have h := Nat.xor_lt_two_pow (x := a) (y := b) (n := 24) (by omega) (by omega)
  omega
theorem xor_lt25 {a b : Nat} (ha : a < 33554432) (hb : b < 33554432) : a ^^^ b < 33554432 := by
  have h := Nat.xor_lt_two_pow (x := a) (y := b) (n := 25) (by omega) (by omega)
  omega

theorem testBit_high {x : Nat} (h1 : 16777216 ≤ x) (h2 : x < 33554432) : x.testBit 24 = true := by
  rw [Nat.testBit_eq_decide_div_mod_eq]
  simp only [decide_eq_true_eq]
  have : x / 2 ^ 24 = 1 := by omega
  rw [this]
theorem testBit_low {x : Nat} (h : x < 16777216) : x.testBit 24 = false := Nat.testBit_lt_two_pow (by omega)

theorem sh_lt {x : Nat} (h : x < 16777216) : sh x < 16777216 := by
  unfold sh
  split
  · rename_i h1
    have hx : 2 * x ^^^ 25578747 < 33554432 := xor_lt25 (by omega) (by omega)
    refine Nat.lt_of_not_le fun hge => ?_
    have e := testBit_high hge hx
    rw [Nat.testBit_xor, testBit_high h1 (by omega), testBit_high (x := 25578747) (by omega) (by omega)] at e
    cases e
  · omega

theorem shN_lt (k : Nat) : ∀ {x : Nat}, x < 16777216 → shN k x < 16777216 := by
  induction k with
  | zero => intro x h; rw [shN_zero]; exact h
  | succ k ih => intro x h; rw [shN_succ]; exact ih (sh_lt h)

theorem byte_lt (c : UInt8) : c.toNat * 65536 < 16777216 := by
  have := c.toNat_lt
  omega
theorem in_lt {x : Nat} (h : x < 16777216) (c : UInt8) : x ^^^ (c.toNat * 65536) < 16777216 := xor_lt24 h (byte_lt c)
theorem cstep_lt {x : Nat} (h : x < 16777216) (c : UInt8) : cstep x c < 16777216 := by rw [cstep_eq]; exact shN_lt 8 (in_lt h c)
theorem sumFrom_lt (l : List UInt8) : ∀ {x : Nat}, x < 16777216 → sumFrom x l < 16777216 := by
  induction l with
  | nil => intro x h; rw [sumFrom_nil]; exact h
  | cons c l ih => intro x h; rw [sumFrom_cons]; exact ih (cstep_lt h c)
theorem crc_lt (l : List UInt8) : crc l < 16777216 := sumFrom_lt l init_lt

theorem sumFrom_append (a b : List UInt8) : ∀ x : Nat, sumFrom x (a ++ b) = sumFrom (sumFrom x a) b := by
  induction a with
  | nil => intro x; rfl
  | cons c a ih => intro x; rw [List.cons_append, sumFrom_cons, sumFrom_cons, ih]
theorem sumFrom_snoc (a : List UInt8) (c : UInt8) (x : Nat) : sumFrom x (a ++ [c]) = cstep (sumFrom x a) c := by rw [sumFrom_append, sumFrom_cons, sumFrom_nil]

/-! ### linear -/
theorem two_xor (a b : Nat) : 2 * (a ^^^ b) = 2 * a ^^^ 2 * b := by
  have e : ∀ n : Nat, 2 * n = n <<< 1 := fun n => by rw [Nat.shiftLeft_eq]; omega
  rw [e, e, e, Nat.shiftLeft_xor_distrib]

theorem high_xor {a b : Nat} (ha : a < 33554432) (hb : b < 33554432) : 16777216 ≤ a ^^^ b ↔ ¬ (16777216 ≤ a ↔ 16777216 ≤ b) := by
  have hx : a ^^^ b < 33554432 := xor_lt25 ha hb
  have key : ∀ n : Nat, n < 33554432 → (16777216 ≤ n ↔ n.testBit 24 = true) := by
    intro n hn
    constructor
    · intro h; exact testBit_high h hn
    · intro h
      refine Nat.le_of_not_lt fun hlt => ?_
      rw [testBit_low hlt] at h
      cases h
  rw [key _ hx, key _ ha, key _ hb, Nat.testBit_xor]
  cases a.testBit 24 <;> cases b.testBit 24 <;> simp

theorem sh_xor {a b : Nat} (ha : a < 16777216) (hb : b < 16777216) : sh (a ^^^ b) = sh a ^^^ sh b := by
  unfold sh
  rw [two_xor]
  have h := high_xor (a := 2 * a) (b := 2 * b) (by omega) (by omega)
  by_cases h1 : 16777216 ≤ 2 * a <;> by_cases h2 : 16777216 ≤ 2 * b
  · rw [if_neg (by rw [h]; simp [h1, h2]), if_pos h1, if_pos h2]
    rw [Nat.xor_assoc, ← Nat.xor_assoc 25578747, Nat.xor_comm 25578747, Nat.xor_assoc, Nat.xor_self, Nat.xor_zero]
  · rw [if_pos (by rw [h]; simp [h1, h2]), if_pos h1, if_neg h2]
    rw [Nat.xor_assoc, Nat.xor_assoc, Nat.xor_comm (2 * b)]
  · rw [if_pos (by rw [h]; simp [h1, h2]), if_neg h1, if_pos h2, Nat.xor_assoc]
  · rw [if_neg (by rw [h]; simp [h1, h2]), if_neg h1, if_neg h2]

theorem shN_xor (k : Nat) : ∀ {a b : Nat}, a < 16777216 → b < 16777216 → shN k (a ^^^ b) = shN k a ^^^ shN k b := by
  induction k with
  | zero => intro a b _ _; rw [shN_zero, shN_zero, shN_zero]
  | succ k ih =>
    intro a b ha hb
    rw [shN_succ, shN_succ, shN_succ, sh_xor ha hb, ih (sh_lt ha) (sh_lt hb)]

theorem xor_mul (a b : Nat) : (a ^^^ b) * 65536 = a * 65536 ^^^ b * 65536 := by
  have e : ∀ n : Nat, n * 65536 = n <<< 16 := fun n => by rw [Nat.shiftLeft_eq]
  rw [e, e, e, Nat.shiftLeft_xor_distrib]

theorem xor4 (a b c d : Nat) : (a ^^^ b) ^^^ (c ^^^ d) = (a ^^^ c) ^^^ (b ^^^ d) := by
  rw [Nat.xor_assoc, Nat.xor_assoc, ← Nat.xor_assoc b, Nat.xor_comm b c, Nat.xor_assoc c]

theorem cstep_xor {x y : Nat} (hx : x < 16777216) (hy : y < 16777216) (c d : UInt8) : cstep (x ^^^ y) (c ^^^ d) = cstep x c ^^^ cstep y d := by
  rw [cstep_eq, cstep_eq, cstep_eq, ← shN_xor 8 (in_lt hx c) (in_lt hy d), UInt8.toNat_xor, xor_mul, xor4]

/-- Three rows of one length, xored. -/
theorem sumFrom_xor3 : ∀ (a b c : List UInt8) (x y z : Nat), x < 16777216 → y < 16777216 → z < 16777216 → a.length = b.length → a.length = c.length →
    sumFrom (x ^^^ y ^^^ z) ((a.zipWith (· ^^^ ·) b).zipWith (· ^^^ ·) c) = sumFrom x a ^^^ sumFrom y b ^^^ sumFrom z c
  | [], [], [], x, y, z, _, _, _, _, _ => rfl
  | p :: a, q :: b, r :: c, x, y, z, hx, hy, hz, h1, h2 => by
    have ih := sumFrom_xor3 a b c (cstep x p) (cstep y q) (cstep z r) (cstep_lt hx p) (cstep_lt hy q) (cstep_lt hz r) (by simpa using h1) (by simpa using h2)
    rw [List.zipWith_cons_cons, List.zipWith_cons_cons, sumFrom_cons, sumFrom_cons, sumFrom_cons, sumFrom_cons, cstep_xor (xor_lt24 hx hy) hz, cstep_xor hx hy]
    exact ih
theorem crc_xor3 (a b c : List UInt8) (h1 : a.length = b.length) (h2 : a.length = c.length) :
    crc ((a.zipWith (· ^^^ ·) b).zipWith (· ^^^ ·) c) = crc a ^^^ crc b ^^^ crc c := by
  have := sumFrom_xor3 a b c init init init init_lt init_lt init_lt h1 h2
  rw [Nat.xor_self, Nat.zero_xor] at this
  exact this

/-! ### one to one -/
theorem sh_zero {x : Nat} (h : sh x = 0) : x = 0 := by
  unfold sh at h
  split at h
  · have := congrArg (fun n => n.testBit 0) h
    simp [Nat.testBit_zero] at this
  · omega
theorem xor_eq_zero {a b : Nat} (h : a ^^^ b = 0) : a = b := by
  apply Nat.eq_of_testBit_eq
  intro i
  have := congrArg (fun n => n.testBit i) h
  simp [Nat.testBit_xor] at this
  exact this
theorem sh_inj {a b : Nat} (ha : a < 16777216) (hb : b < 16777216) (h : sh a = sh b) : a = b := by
  apply xor_eq_zero
  apply sh_zero
  rw [sh_xor ha hb, h, Nat.xor_self]
theorem shN_inj (k : Nat) : ∀ {a b : Nat}, a < 16777216 → b < 16777216 → shN k a = shN k b → a = b := by
  induction k with
  | zero => intro a b _ _ h; rw [shN_zero, shN_zero] at h; exact h
  | succ k ih => intro a b ha hb h; rw [shN_succ, shN_succ] at h; exact sh_inj ha hb (ih (sh_lt ha) (sh_lt hb) h)
theorem xor_left_inj' {a b c : Nat} (h : a ^^^ c = b ^^^ c) : a = b := by
  have := congrArg (· ^^^ c) h
  simpa [Nat.xor_assoc] using this
theorem xor_right_inj' {a b c : Nat} (h : c ^^^ a = c ^^^ b) : a = b := by
  rw [Nat.xor_comm c a, Nat.xor_comm c b] at h
  exact xor_left_inj' h
theorem cstep_inj_left {x y : Nat} (hx : x < 16777216) (hy : y < 16777216) {c : UInt8} (h : cstep x c = cstep y c) : x = y := by
  rw [cstep_eq, cstep_eq] at h
  exact xor_left_inj' (shN_inj 8 (in_lt hx c) (in_lt hy c) h)
theorem cstep_inj_right {x : Nat} (hx : x < 16777216) {c d : UInt8} (h : cstep x c = cstep x d) : c = d := by
  rw [cstep_eq, cstep_eq] at h
  have h1 := xor_right_inj' (shN_inj 8 (in_lt hx c) (in_lt hx d) h)
  apply UInt8.toNat_inj.1
  omega
theorem sumFrom_inj (l : List UInt8) : ∀ {x y : Nat}, x < 16777216 → y < 16777216 → sumFrom x l = sumFrom y l → x = y := by
  induction l with
  | nil => intro x y _ _ h; rw [sumFrom_nil, sumFrom_nil] at h; exact h
  | cons c l ih => intro x y hx hy h; rw [sumFrom_cons, sumFrom_cons] at h; exact cstep_inj_left hx hy (ih (cstep_lt hx c) (cstep_lt hy c) h)

/-- Two rows that part in one byte have unlike sums. -/
theorem crc_turned (a b : List UInt8) (c d : UInt8) (h : crc (a ++ c :: b) = crc (a ++ d :: b)) : c = d := by
  unfold crc at h
  rw [sumFrom_append, sumFrom_append, sumFrom_cons, sumFrom_cons] at h
  have h0 := sumFrom_lt a init_lt
  exact cstep_inj_right h0 (sumFrom_inj b (cstep_lt h0 c) (cstep_lt h0 d) h)
theorem crc_set (l : List UInt8) (i : Nat) (hi : i < l.length) (d : UInt8) (h : crc (l.set i d) = crc l) : d = l[i] := by
  have e1 : l.set i d = l.take i ++ d :: l.drop (i + 1) := List.set_eq_take_append_cons_drop .. |>.trans (by rw [if_pos hi])
  have e2 : l = l.take i ++ l[i] :: l.drop (i + 1) := by
    rw [← List.drop_eq_getElem_cons hi, List.take_append_drop]
  rw [e1] at h
  exact crc_turned _ _ _ _ (h.trans (congrArg crc e2))

/-! ### the seal -/
theorem shN_plain (k : Nat) : ∀ (x : Nat), x * 2 ^ k < 16777216 → shN k x = x * 2 ^ k := by
  induction k with
  | zero => intro x _; rw [shN_zero, Nat.pow_zero, Nat.mul_one]
  | succ k ih =>
    intro x h
    have hp : x * 2 ^ (k + 1) = 2 * x * 2 ^ k := by rw [Nat.pow_succ, Nat.mul_comm (2 ^ k) 2, ← Nat.mul_assoc, Nat.mul_comm x 2]
    have h1 : 2 * x < 16777216 := by
      have : 2 * x ≤ 2 * x * 2 ^ k := Nat.le_mul_of_pos_right _ (Nat.two_pow_pos k)
      omega
    rw [shN_succ]
    have : sh x = 2 * x := by unfold sh; rw [if_neg (by omega)]
    rw [this, hp]
    exact ih _ (by omega)

theorem xor_high (h l : Nat) (hl : l < 65536) : (h * 65536 + l) ^^^ (h * 65536) = l := by
  have e : h * 65536 + l = h * 65536 ^^^ l := by
    have := Nat.two_pow_add_eq_or_of_lt (i := 16) hl h
    rw [show h * 65536 = 2 ^ 16 * h by omega, this]
    apply Nat.eq_of_testBit_eq
    intro j
    rw [Nat.testBit_or, Nat.testBit_xor]
    by_cases hj : j < 16
    · have : (2 ^ 16 * h).testBit j = false := by rw [Nat.testBit_two_pow_mul]; simp; omega
      simp [this]
    · have : l.testBit j = false := Nat.testBit_lt_two_pow (Nat.lt_of_lt_of_le hl (Nat.pow_le_pow_right (n := 2) (by decide) (by omega : 16 ≤ j)))
      simp [this]
  rw [e, Nat.xor_comm, ← Nat.xor_assoc, Nat.xor_self, Nat.zero_xor]

theorem cstep_seal (x : Nat) (c : UInt8) (hc : c.toNat = x / 65536) : cstep x c = x % 65536 * 256 := by
  rw [cstep_eq]
  have e : x ^^^ c.toNat * 65536 = x % 65536 := by
    have := xor_high c.toNat (x % 65536) (by omega)
    rw [show c.toNat * 65536 + x % 65536 = x by omega] at this
    exact this
  rw [e, shN_plain 8 _ (by omega)]

/-- The three bytes of a number, the highest first. -/
def three (n : Nat) : List UInt8 := [UInt8.ofNat (n / 65536), UInt8.ofNat (n / 256), UInt8.ofNat n]
theorem seal_zero (x : Nat) (h : x < 16777216) : sumFrom x (three x) = 0 := by
  have b1 : (UInt8.ofNat (x / 65536)).toNat = x / 65536 := by rw [UInt8.toNat_ofNat']; omega
  have s1 := cstep_seal x (UInt8.ofNat (x / 65536)) b1
  have b2 : (UInt8.ofNat (x / 256)).toNat = x % 65536 * 256 / 65536 := by rw [UInt8.toNat_ofNat']; omega
  have s2 := cstep_seal (x % 65536 * 256) (UInt8.ofNat (x / 256)) b2
  have b3 : (UInt8.ofNat x).toNat = x % 65536 * 256 % 65536 * 256 / 65536 := by rw [UInt8.toNat_ofNat']; omega
  have s3 := cstep_seal (x % 65536 * 256 % 65536 * 256) (UInt8.ofNat x) b3
  unfold three
  rw [sumFrom_cons, sumFrom_cons, sumFrom_cons, sumFrom_nil, s1, s2, s3]
  omega
theorem crc_seal (l : List UInt8) : crc (l ++ three (crc l)) = 0 := by
  unfold crc
  rw [sumFrom_append]
  exact seal_zero _ (crc_lt l)

theorem crc_known : crc [49, 50, 51, 52, 53, 54, 55, 56, 57] = 2215682 := by decide +kernel
theorem crc_nil : crc [] = 11994318 := rfl
end Go.Proofs.Ytimjllokibnibaa.CrcPure

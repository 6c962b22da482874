/- Plain mathematics of the field of 256 elements: powers of 2 by a table, products by doubling. No Go in sight. -/
namespace Go.Proofs.Ytoigogjmhkpdlab.Gf

/-- Powers of 2. -/
def expL : List Nat := [1, 2, 4, 8, 16, 32, 64, 128, 29, 58, 116, 232, 205, 135, 19, 38, 76, 152, 45, 90, 180, 117, 234, 201, 143, 3, 6, 12, 24, 48, 96, 192, 157, 39, 78, 156, 37, 74, 148, 53, 106, 212, 181, 119, 238, 193, 159, 35, 70, 140, 5, 10, 20, 40, 80, 160, 93, 186, 105, 210, 185, 111, 222, 161, 95, 190, 97, 194, 153, 47, 94, 188, 101, 202, 137, 15, 30, 60, 120, 240, 253, 231, 211, 187, 107, 214, 177, 127, 254, 225, 223, 163, 91, 182, 113, 226, 217, 175, 67, 134, 17, 34, 68, 136, 13, 26, 52, 104, 208, 189, 103, 206, 129, 31, 62, 124, 248, 237, 199, 147, 59, 118, 236, 197, 151, 51, 102, 204, 133, 23, 46, 92, 184, 109, 218, 169, 79, 158, 33, 66, 132, 21, 42, 84, 168, 77, 154, 41, 82, 164, 85, 170, 73, 146, 57, 114, 228, 213, 183, 115, 230, 209, 191, 99, 198, 145, 63, 126, 252, 229, 215, 179, 123, 246, 241, 255, 227, 219, 171, 75, 150, 49, 98, 196, 149, 55, 110, 220, 165, 87, 174, 65, 130, 25, 50, 100, 200, 141, 7, 14, 28, 56, 112, 224, 221, 167, 83, 166, 81, 162, 89, 178, 121, 242, 249, 239, 195, 155, 43, 86, 172, 69, 138, 9, 18, 36, 72, 144, 61, 122, 244, 245, 247, 243, 251, 235, 203, 139, 11, 22, 44, 88, 176, 125, 250, 233, 207, 131, 27, 54, 108, 216, 173, 71, 142]
/-- Their exponents. -/
def logL : List Nat := [0, 0, 1, 25, 2, 50, 26, 198, 3, 223, 51, 238, 27, 104, 199, 75, 4, 100, 224, 14, 52, 141, 239, 129, 28, 193, 105, 248, 200, 8, 76, 113, 5, 138, 101, 47, 225, 36, 15, 33, 53, 147, 142, 218, 240, 18, 130, 69, 29, 181, 194, 125, 106, 39, 249, 185, 201, 154, 9, 120, 77, 228, 114, 166, 6, 191, 139, 98, 102, 221, 48, 253, 226, 152, 37, 179, 16, 145, 34, 136, 54, 208, 148, 206, 143, 150, 219, 189, 241, 210, 19, 92, 131, 56, 70, 64, 30, 66, 182, 163, 195, 72, 126, 110, 107, 58, 40, 84, 250, 133, 186, 61, 202, 94, 155, 159, 10, 21, 121, 43, 78, 212, 229, 172, 115, 243, 167, 87, 7, 112, 192, 247, 140, 128, 99, 13, 103, 74, 222, 237, 49, 197, 254, 24, 227, 165, 153, 119, 38, 184, 180, 124, 17, 68, 146, 217, 35, 32, 137, 46, 55, 63, 209, 91, 149, 188, 207, 205, 144, 135, 151, 178, 220, 252, 190, 97, 242, 86, 211, 171, 20, 42, 93, 158, 132, 60, 57, 83, 71, 109, 65, 162, 31, 45, 67, 216, 183, 123, 164, 118, 196, 23, 73, 236, 127, 12, 111, 246, 108, 161, 59, 82, 41, 157, 85, 170, 251, 96, 134, 177, 187, 204, 62, 90, 203, 89, 95, 176, 156, 169, 160, 81, 11, 245, 22, 235, 122, 117, 44, 215, 79, 174, 213, 233, 230, 231, 173, 232, 116, 214, 244, 234, 168, 80, 88, 175]
def expN (i : Nat) : Nat := expL.getD i 0
def logN (a : Nat) : Nat := logL.getD a 0
/-- The power of 2, for whatever exponent. -/
def pw (i : Nat) : Nat := expN (i % 255)
def dbl (x : Nat) : Nat := if 256 ≤ x * 2 then x * 2 ^^^ 285 else x * 2
def dblN : Nat → Nat → Nat
  | 0, x => x
  | n + 1, x => dbl (dblN n x)
def mulN (a b : Nat) : Nat := if a = 0 ∨ b = 0 then 0 else pw (logN a + logN b)
def invN (a : Nat) : Nat := if a = 0 then 0 else pw (255 - logN a)
def powN (a n : Nat) : Nat := if n = 0 then 1 else if a = 0 then 0 else pw (logN a * (n % 255))

theorem expN_lt : ∀ i, i < 255 → expN i < 256 ∧ 1 ≤ expN i ∧ logN (expN i) = i ∧ dbl (expN i) = expN ((i + 1) % 255) := by decide +kernel
theorem logN_lt : ∀ a, a < 256 → 1 ≤ a → logN a < 255 ∧ expN (logN a) = a := by decide +kernel
theorem pw_lt (i : Nat) : pw i < 256 := (expN_lt _ (Nat.mod_lt _ (by decide))).1
theorem pw_pos (i : Nat) : 1 ≤ pw i := (expN_lt _ (Nat.mod_lt _ (by decide))).2.1
theorem logN_pw (i : Nat) : logN (pw i) = i % 255 := (expN_lt _ (Nat.mod_lt _ (by decide))).2.2.1
theorem pw_logN (a : Nat) (h : a < 256) (h1 : 1 ≤ a) : pw (logN a) = a := by
  have := logN_lt a h h1
  unfold pw; rw [Nat.mod_eq_of_lt this.1]; exact this.2
theorem dbl_pw (i : Nat) : dbl (pw i) = pw (i + 1) := by
  have := (expN_lt (i % 255) (Nat.mod_lt _ (by decide))).2.2.2
  unfold pw; rw [this, Nat.mod_add_mod]
theorem pw_mod (i : Nat) : pw (i % 255) = pw i := by unfold pw; rw [Nat.mod_mod]
theorem pw_congr {i j : Nat} (h : i % 255 = j % 255) : pw i = pw j := by rw [← pw_mod i, ← pw_mod j, h]
theorem pw_zero : pw 0 = 1 := by decide
theorem dblN_pw (n i : Nat) : dblN n (pw i) = pw (i + n) := by
  induction n with
  | zero => rfl
  | succ n ih => show dbl (dblN n (pw i)) = _; rw [ih, dbl_pw]; rfl
theorem dbl_zero : dbl 0 = 0 := by decide
theorem dblN_zero (n : Nat) : dblN n 0 = 0 := by
  induction n with
  | zero => rfl
  | succ n ih => show dbl (dblN n 0) = _; rw [ih, dbl_zero]
theorem dbl_lt (x : Nat) (h : x < 256) : dbl x < 256 := by
  unfold dbl; split
  · have h2 : (x * 2 ^^^ 285) < 512 := Nat.xor_lt_two_pow (n := 9) (by omega) (by decide)
    have hb : (x * 2 ^^^ 285).testBit 8 = false := by
      rw [Nat.testBit_xor]
      have : (x * 2).testBit 8 = true := by
        rw [Nat.testBit_eq_decide_div_mod_eq]; simp; omega
      rw [this]; decide
    rw [Nat.testBit_eq_decide_div_mod_eq] at hb
    simp at hb
    omega
  · omega
theorem dblN_lt (n x : Nat) (h : x < 256) : dblN n x < 256 := by
  induction n with
  | zero => exact h
  | succ n ih => exact dbl_lt _ ih
theorem xor_lt {a b : Nat} (ha : a < 256) (hb : b < 256) : a ^^^ b < 256 := Nat.xor_lt_two_pow (n := 8) ha hb
theorem xor_mul_two (a b : Nat) : (a ^^^ b) * 2 = a * 2 ^^^ b * 2 := by
  apply Nat.eq_of_testBit_eq; intro i
  rw [Nat.testBit_xor, show (2 : Nat) = 2 ^ 1 from rfl, Nat.testBit_mul_two_pow, Nat.testBit_mul_two_pow, Nat.testBit_mul_two_pow, Nat.testBit_xor]
  cases decide (i ≥ 1) <;> simp
theorem dbl_xor (a b : Nat) (ha : a < 256) (hb : b < 256) : dbl (a ^^^ b) = dbl a ^^^ dbl b := by
  have bit : ∀ c, c < 256 → (256 ≤ c * 2 ↔ c.testBit 7 = true) := by
    intro c hc
    rw [Nat.testBit_eq_decide_div_mod_eq]; simp; omega
  have hx := bit _ (xor_lt ha hb)
  rw [Nat.testBit_xor] at hx
  have h1 := bit a ha
  have h2 := bit b hb
  unfold dbl
  rw [xor_mul_two]
  rw [xor_mul_two] at hx
  cases h3 : a.testBit 7 <;> cases h4 : b.testBit 7 <;> rw [h3] at h1 hx <;> rw [h4] at h2 hx <;> simp at h1 h2 hx
  · rw [if_neg (by omega), if_neg (by omega), if_neg (by omega)]
  · rw [if_pos (by omega), if_neg (by omega), if_pos (by omega), Nat.xor_assoc]
  · rw [if_pos (by omega), if_pos (by omega), if_neg (by omega), Nat.xor_assoc, Nat.xor_comm (b * 2) 285, ← Nat.xor_assoc]
  · rw [if_neg (by omega), if_pos (by omega), if_pos (by omega)]
    apply Nat.eq_of_testBit_eq; intro i; simp only [Nat.testBit_xor]
    generalize (a * 2).testBit i = p
    generalize (b * 2).testBit i = q
    generalize Nat.testBit 285 i = r
    cases p <;> cases q <;> cases r <;> rfl
theorem dblN_xor (n a b : Nat) (ha : a < 256) (hb : b < 256) : dblN n (a ^^^ b) = dblN n a ^^^ dblN n b := by
  induction n with
  | zero => rfl
  | succ n ih => show dbl (dblN n (a ^^^ b)) = dbl _ ^^^ dbl _; rw [ih, dbl_xor _ _ (dblN_lt n a ha) (dblN_lt n b hb)]

theorem dblN_succ (n x : Nat) : dblN (n + 1) x = dbl (dblN n x) := rfl
theorem dblN_none (x : Nat) : dblN 0 x = x := rfl
attribute [irreducible] dbl dblN pw expN logN

theorem mulN_dbl (a b : Nat) (hb : b < 256) (h1 : 1 ≤ a) : mulN a b = dblN (logN a) b := by
  unfold mulN
  by_cases h : b = 0
  · rw [if_pos (.inr h), h, dblN_zero]
  · rw [if_neg (by omega)]
    have := dblN_pw (logN a) (logN b)
    rw [pw_logN b hb (by omega)] at this
    rw [this, Nat.add_comm]
theorem mulN_lt (a b : Nat) : mulN a b < 256 := by
  unfold mulN; split
  · decide
  · exact pw_lt _
theorem mulN_comm (a b : Nat) : mulN a b = mulN b a := by
  unfold mulN
  by_cases h : a = 0 ∨ b = 0
  · rw [if_pos h, if_pos (Or.comm.1 h)]
  · rw [if_neg h, if_neg (fun k => h (Or.comm.1 k)), Nat.add_comm]
theorem mulN_zero (a : Nat) : mulN a 0 = 0 := by unfold mulN; rw [if_pos (.inr rfl)]
theorem mulN_zero' (a : Nat) : mulN 0 a = 0 := by unfold mulN; rw [if_pos (.inl rfl)]
theorem logN_one : logN 1 = 0 := by have := logN_pw 0; rwa [pw_zero] at this
theorem mulN_one (a : Nat) (h : a < 256) : mulN a 1 = a := by
  unfold mulN
  by_cases h0 : a = 0
  · rw [if_pos (.inl h0), h0]
  · rw [if_neg (by omega), logN_one, Nat.add_zero, pw_logN a h (by omega)]
theorem mulN_pw (a b : Nat) (h1 : 1 ≤ a) (h2 : 1 ≤ b) : mulN a b = pw (logN a + logN b) := by unfold mulN; rw [if_neg (by omega)]
theorem mulN_xor (a b c : Nat) (hb : b < 256) (hc : c < 256) : mulN a (b ^^^ c) = mulN a b ^^^ mulN a c := by
  by_cases h : a = 0
  · subst h; rw [mulN_zero', mulN_zero', mulN_zero']; rfl
  · rw [mulN_dbl a _ (xor_lt hb hc) (by omega), mulN_dbl a b hb (by omega), mulN_dbl a c hc (by omega), dblN_xor _ _ _ hb hc]
theorem mulN_pos (a b : Nat) (h1 : 1 ≤ a) (h2 : 1 ≤ b) : 1 ≤ mulN a b := by rw [mulN_pw a b h1 h2]; exact pw_pos _
theorem mulN_assoc (a b c : Nat) : mulN (mulN a b) c = mulN a (mulN b c) := by
  by_cases ha : a = 0
  · subst ha; rw [mulN_zero', mulN_zero', mulN_zero']
  by_cases hb : b = 0
  · subst hb; rw [mulN_zero, mulN_zero', mulN_zero]
  by_cases hc : c = 0
  · subst hc; rw [mulN_zero, mulN_zero, mulN_zero]
  rw [mulN_pw (mulN a b) c (mulN_pos a b (by omega) (by omega)) (by omega), mulN_pw a (mulN b c) (by omega) (mulN_pos b c (by omega) (by omega)), mulN_pw a b (by omega) (by omega), mulN_pw b c (by omega) (by omega), logN_pw, logN_pw]
  apply pw_congr
  omega
theorem invN_lt (a : Nat) : invN a < 256 := by
  unfold invN; split
  · decide
  · exact pw_lt _
theorem invN_pos (a : Nat) (h : 1 ≤ a) : 1 ≤ invN a := by unfold invN; rw [if_neg (by omega)]; exact pw_pos _
theorem mulN_inv (a : Nat) (h : a < 256) (h1 : 1 ≤ a) : mulN a (invN a) = 1 := by
  rw [mulN_pw a _ h1 (invN_pos a h1)]
  unfold invN; rw [if_neg (by omega), logN_pw, ← pw_zero]
  have := (logN_lt a h h1).1
  apply pw_congr
  omega
theorem inv_only (a b : Nat) (ha : a < 256) (hb : b < 256) (h : mulN a b = 1) : b = invN a := by
  have h1 : 1 ≤ a := by
    rcases Nat.eq_zero_or_pos a with h0 | h0
    · subst h0; rw [mulN_zero'] at h; omega
    · exact h0
  calc b = mulN 1 b := by rw [mulN_comm, mulN_one b hb]
    _ = mulN (mulN (invN a) a) b := by rw [mulN_comm (invN a) a, mulN_inv a ha h1]
    _ = mulN (invN a) (mulN a b) := mulN_assoc _ _ _
    _ = invN a := by rw [h, mulN_one _ (invN_lt a)]
theorem inv_inv (a : Nat) (h : a < 256) : invN (invN a) = a := by
  by_cases h0 : a = 0
  · subst h0; unfold invN; simp
  · exact (inv_only (invN a) a (invN_lt a) h (by rw [mulN_comm]; exact mulN_inv a h (by omega))).symm
theorem mul_div (a b : Nat) (ha : a < 256) (hb : b < 256) (h1 : 1 ≤ b) : mulN (mulN a b) (invN b) = a := by
  rw [mulN_assoc, mulN_inv b hb h1, mulN_one a ha]

theorem powN_lt (a n : Nat) : powN a n < 256 := by
  unfold powN; split
  · decide
  · split
    · decide
    · exact pw_lt _
theorem powN_zero (a : Nat) : powN a 0 = 1 := by unfold powN; rw [if_pos rfl]
/-- The power of an element but 0. -/
theorem powN_pw (a n : Nat) (h : 1 ≤ a) : powN a n = pw (logN a * n) := by
  unfold powN
  by_cases h0 : n = 0
  · subst h0; rw [if_pos rfl, Nat.mul_zero, pw_zero]
  · rw [if_neg h0, if_neg (by omega)]
    apply pw_congr
    rw [Nat.mul_mod, Nat.mod_mod, ← Nat.mul_mod]
theorem powN_nought (n : Nat) (h : 1 ≤ n) : powN 0 n = 0 := by unfold powN; rw [if_neg (by omega), if_pos rfl]
theorem powN_succ (a n : Nat) (h : a < 256) : powN a (n + 1) = mulN (powN a n) a := by
  by_cases h0 : a = 0
  · subst h0; rw [powN_nought _ (by omega), mulN_zero]
  · rw [powN_pw a _ (by omega), powN_pw a _ (by omega), mulN_pw _ a (pw_pos _) (by omega), logN_pw]
    apply pw_congr
    rw [Nat.mul_succ, Nat.mod_add_mod]
theorem powN_round (a n : Nat) (h1 : 1 ≤ a) : powN a (n + 255) = powN a n := by
  rw [powN_pw a _ h1, powN_pw a _ h1]
  apply pw_congr
  rw [Nat.mul_add, Nat.add_mul_mod_self_right]
theorem powN_mod (a n : Nat) (h1 : 1 ≤ a) : powN a n = powN a (n % 255) := by
  rw [powN_pw a _ h1, powN_pw a _ h1]
  apply pw_congr
  rw [Nat.mul_mod, ← Nat.mul_mod_mod]
  rw [Nat.mul_mod, Nat.mod_mod, Nat.mod_mod, ← Nat.mul_mod]
theorem powN_two (a : Nat) (h : a < 256) : powN a 2 = mulN a a := by
  rw [powN_succ a 1 h, powN_succ a 0 h, powN_zero, mulN_comm 1 a, mulN_one a h]
theorem square_xor (a b : Nat) (ha : a < 256) (hb : b < 256) : powN (a ^^^ b) 2 = powN a 2 ^^^ powN b 2 := by
  rw [powN_two _ (xor_lt ha hb), powN_two a ha, powN_two b hb, mulN_xor _ a b ha hb, mulN_comm (a ^^^ b) a, mulN_comm (a ^^^ b) b, mulN_xor a a b ha hb, mulN_xor b a b ha hb, mulN_comm b a]
  apply Nat.eq_of_testBit_eq; intro i; simp only [Nat.testBit_xor]
  generalize (mulN a a).testBit i = p
  generalize (mulN a b).testBit i = q
  generalize (mulN b b).testBit i = r
  cases p <;> cases q <;> cases r <;> rfl
/-- So many squares, one behind the other. -/
def sqN : Nat → Nat → Nat
  | 0, x => x
  | n + 1, x => mulN (sqN n x) (sqN n x)
theorem sqN_pow (n a : Nat) (h1 : 1 ≤ a) (h : a < 256) : sqN n a = pw (logN a * 2 ^ n) := by
  induction n with
  | zero => rw [Nat.pow_zero, Nat.mul_one, pw_logN a h h1]; rfl
  | succ n ih =>
    show mulN (sqN n a) (sqN n a) = _
    rw [ih, mulN_pw _ _ (pw_pos _) (pw_pos _), logN_pw]
    apply pw_congr
    rw [Nat.pow_succ, ← Nat.mul_assoc]
    omega
theorem sqN_lt (n a : Nat) (h : a < 256) : sqN n a < 256 := by
  cases n with
  | zero => exact h
  | succ n => exact mulN_lt _ _
theorem sqN_eight (a : Nat) (h : a < 256) : sqN 8 a = a := by
  by_cases h0 : a = 0
  · subst h0
    have hz : ∀ n, sqN n 0 = 0 := by
      intro n; induction n with
      | zero => rfl
      | succ n ih => show mulN (sqN n 0) (sqN n 0) = 0; rw [ih, mulN_zero]
    exact hz 8
  · rw [sqN_pow 8 a (by omega) h]
    have := pw_logN a h (by omega)
    calc pw (logN a * 2 ^ 8) = pw (logN a) := pw_congr (by omega)
      _ = a := this
theorem powN_256 (a : Nat) (h : a < 256) : powN a 256 = a := by
  by_cases h0 : a = 0
  · subst h0; rw [powN_nought _ (by decide)]
  · rw [show (256 : Nat) = 1 + 255 from rfl, powN_round a 1 (by omega), powN_succ a 0 h, powN_zero, mulN_comm, mulN_one a h]
/-- The reference's product, bit by bit: one bit more of the second one. -/
theorem mul_bit (a b i : Nat) (ha : a < 256) (hi : i < 8) (hb : b < 256) : mulN a (b % 2 ^ (i + 1)) = if b / 2 ^ i % 2 = 1 then mulN a (b % 2 ^ i) ^^^ dblN i a else mulN a (b % 2 ^ i) := by
  have e : b % 2 ^ (i + 1) = b % 2 ^ i ^^^ (if b / 2 ^ i % 2 = 1 then 2 ^ i else 0) := by
    apply Nat.eq_of_testBit_eq; intro j
    rw [Nat.testBit_xor, Nat.testBit_mod_two_pow, Nat.testBit_mod_two_pow]
    have hbit : b.testBit i = decide (b / 2 ^ i % 2 = 1) := by rw [Nat.testBit_eq_decide_div_mod_eq]
    by_cases hij : j = i
    · subst hij
      by_cases h : b / 2 ^ j % 2 = 1
      · rw [if_pos h, Nat.testBit_two_pow_self, hbit]; simp [h]
      · rw [if_neg h, hbit]; simp [h]
    · have hz : Nat.testBit (if b / 2 ^ i % 2 = 1 then 2 ^ i else 0) j = false := by
        split
        · exact Nat.testBit_two_pow_of_ne (fun e => hij e.symm)
        · exact Nat.zero_testBit j
      rw [hz]
      by_cases h : j < i
      · simp [h, Nat.lt_succ_of_lt h]
      · have h2 : ¬ j < i + 1 := by omega
        simp [h, h2]
  have h2 : (2 : Nat) ^ i < 256 := Nat.pow_lt_pow_right (m := i) (n := 8) (by decide) hi
  have hp : pw i = 2 ^ i := by
    have h8 : ∀ i, i < 8 → pw i = 2 ^ i := by unfold pw expN; decide +kernel
    exact h8 i hi
  have hm : mulN a (2 ^ i) = dblN i a := by
    by_cases h0 : a = 0
    · subst h0; rw [mulN_zero', dblN_zero]
    · rw [mulN_comm, mulN_dbl _ a ha (Nat.pos_of_ne_zero (by intro h; rw [h] at h2; rw [← hp] at h; have := pw_pos i; omega)), ← hp, logN_pw, Nat.mod_eq_of_lt (by omega)]
  rw [e]
  split
  · rw [mulN_xor a _ _ (Nat.lt_of_le_of_lt (Nat.mod_le _ _) hb) h2, hm]
  · rw [Nat.xor_zero]
end Go.Proofs.Ytoigogjmhkpdlab.Gf

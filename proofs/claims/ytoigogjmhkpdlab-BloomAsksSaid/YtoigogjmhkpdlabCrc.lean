/- Plain mathematics of CRC-32C's register: one bit's step is linear over xor, one to one, and undoes a shift. No Go in sight. -/
namespace Go.Proofs.Ytoigogjmhkpdlab.Crc

/-- One bit's step. -/
def bitN (w : Nat) : Nat := if w % 2 = 1 then w / 2 ^^^ 2197175160 else w / 2
/-- Many. -/
def it : Nat → Nat → Nat
  | 0, w => w
  | n + 1, w => it n (bitN w)
/-- A byte. -/
def eightN (w b : Nat) : Nat := it 8 (w ^^^ b)
/-- Bytes. -/
def crcN (w : Nat) (l : List Nat) : Nat := l.foldl eightN w
theorem crcN_nil (w : Nat) : crcN w [] = w := rfl
theorem crcN_cons (w b : Nat) (l : List Nat) : crcN w (b :: l) = crcN (eightN w b) l := rfl

theorem bitN_lt (w : Nat) (h : w < 4294967296) : bitN w < 4294967296 := by
  unfold bitN; split
  · exact Nat.xor_lt_two_pow (n := 32) (by omega) (by decide)
  · omega
theorem bitN_xor (a b : Nat) : bitN (a ^^^ b) = bitN a ^^^ bitN b := by
  have h1 : (a ^^^ b) / 2 = a / 2 ^^^ b / 2 := Nat.xor_div_two
  have h2 := @Nat.xor_mod_two_eq_one a b
  unfold bitN
  rw [h1]
  by_cases ha : a % 2 = 1 <;> by_cases hb : b % 2 = 1
  · rw [if_neg (by rw [h2]; simp [ha, hb]), if_pos ha, if_pos hb]
    apply Nat.eq_of_testBit_eq; intro i; simp only [Nat.testBit_xor]
    cases (a / 2).testBit i <;> cases (b / 2).testBit i <;> cases Nat.testBit 2197175160 i <;> rfl
  · rw [if_pos (by rw [h2]; simp [ha, hb]), if_pos ha, if_neg hb]
    apply Nat.eq_of_testBit_eq; intro i; simp only [Nat.testBit_xor]
    cases (a / 2).testBit i <;> cases (b / 2).testBit i <;> cases Nat.testBit 2197175160 i <;> rfl
  · rw [if_pos (by rw [h2]; simp [ha, hb]), if_neg ha, if_pos hb, Nat.xor_assoc]
  · rw [if_neg (by rw [h2]; simp [ha, hb]), if_neg ha, if_neg hb]
theorem bitN_zero : bitN 0 = 0 := rfl
theorem bitN_two (a : Nat) : bitN (a * 2) = a := by
  unfold bitN; rw [if_neg (by omega)]; omega
theorem bitN_eq_zero (w : Nat) (h : w < 4294967296) (e : bitN w = 0) : w = 0 := by
  unfold bitN at e; split at e
  · have h2 : w / 2 = 2197175160 := by
      have h3 : w / 2 ^^^ 2197175160 ^^^ 2197175160 = 0 ^^^ 2197175160 := by rw [e]
      rwa [Nat.xor_assoc, Nat.xor_self, Nat.xor_zero, Nat.zero_xor] at h3
    omega
  · omega

theorem it_lt (n w : Nat) (h : w < 4294967296) : it n w < 4294967296 := by
  induction n generalizing w with
  | zero => exact h
  | succ n ih => exact ih _ (bitN_lt w h)
theorem it_none (w : Nat) : it 0 w = w := rfl
theorem it_xor (n a b : Nat) : it n (a ^^^ b) = it n a ^^^ it n b := by
  induction n generalizing a b with
  | zero => rfl
  | succ n ih => simp only [it]; rw [bitN_xor, ih]
theorem it_zero (n : Nat) : it n 0 = 0 := by
  induction n with
  | zero => rfl
  | succ n ih => simp only [it, bitN_zero]; exact ih
theorem it_add (m n w : Nat) : it (m + n) w = it n (it m w) := by
  induction m generalizing w with
  | zero => rw [Nat.zero_add]; rfl
  | succ m ih => rw [Nat.succ_add]; simp only [it]; exact ih _
theorem it_shift (n a : Nat) : it n (a * 2 ^ n) = a := by
  induction n generalizing a with
  | zero => simp [it]
  | succ n ih => simp only [it]; rw [Nat.pow_succ, ← Nat.mul_assoc, bitN_two]; exact ih a
theorem it_snoc (k w : Nat) : bitN (it k w) = it (k + 1) w := by rw [it_add]; rfl
theorem it_eq_zero (n w : Nat) (h : w < 4294967296) (e : it n w = 0) : w = 0 := by
  induction n generalizing w with
  | zero => exact e
  | succ n ih => exact bitN_eq_zero w h (ih _ (bitN_lt w h) e)


theorem eightN_lt (w b : Nat) (h : w < 4294967296) (hb : b < 256) : eightN w b < 4294967296 :=
  it_lt 8 _ (Nat.xor_lt_two_pow (n := 32) h (by omega))
attribute [irreducible] eightN it crcN

theorem crcN_lt (l : List Nat) : ∀ w, w < 4294967296 → (∀ b ∈ l, b < 256) → crcN w l < 4294967296 := by
  induction l with
  | nil => intro w h _; rw [crcN_nil]; exact h
  | cons b l ih => intro w h hb; rw [crcN_cons]; exact ih _ (eightN_lt w b h (hb b (by simp))) (fun c hc => hb c (by simp [hc]))
theorem crcN_append (l m : List Nat) : ∀ w, crcN w (l ++ m) = crcN (crcN w l) m := by
  induction l with
  | nil => intro w; rw [List.nil_append, crcN_nil]
  | cons b l ih => intro w; rw [List.cons_append, crcN_cons, crcN_cons]; exact ih _
theorem crcN_snoc (l : List Nat) (b w : Nat) : crcN w (l ++ [b]) = eightN (crcN w l) b := by rw [crcN_append, crcN_cons, crcN_nil]
/-- The register's own share. -/
theorem crcN_xor_start (l : List Nat) : ∀ w v, crcN (w ^^^ v) l = crcN w l ^^^ it (8 * l.length) v := by
  induction l with
  | nil => intro w v; rw [crcN_nil, crcN_nil, List.length_nil, Nat.mul_zero, it_none]
  | cons b l ih =>
    intro w v
    have e : eightN (w ^^^ v) b = eightN w b ^^^ it 8 v := by
      unfold eightN; rw [← it_xor]; congr 1
      rw [Nat.xor_assoc, Nat.xor_comm v b, Nat.xor_assoc]
    rw [crcN_cons, crcN_cons, e, ih, List.length_cons, Nat.mul_succ, Nat.add_comm (8 * l.length) 8, it_add]
/-- One byte turned. -/
theorem crcN_set (l : List Nat) : ∀ (j w d : Nat) (hj : j < l.length), crcN w (l.set j (l[j] ^^^ d)) = crcN w l ^^^ it (8 * (l.length - j)) d := by
  induction l with
  | nil => intro j w d hj; simp at hj
  | cons b l ih =>
    intro j w d hj
    cases j with
    | zero =>
      have e : eightN w (b ^^^ d) = eightN w b ^^^ it 8 d := by
        unfold eightN; rw [← it_xor 8 (w ^^^ b) d, Nat.xor_assoc w b d]
      simp only [List.set_cons_zero, List.getElem_cons_zero, crcN_cons]
      have e2 : 8 * ((b :: l).length - 0) = 8 + 8 * l.length := by rw [List.length_cons]; omega
      rw [e, crcN_xor_start, e2, it_add 8 (8 * l.length) d]
    | succ j =>
      simp only [List.set_cons_succ, List.getElem_cons_succ, crcN_cons]
      rw [ih j (eightN w b) d (by simpa using hj), List.length_cons, Nat.add_sub_add_right]
/-- Three strings of one length, byte by byte mixed. -/
theorem crcN_mixed : ∀ (l : List (Nat × Nat × Nat)) (u v w : Nat),
    crcN (u ^^^ v ^^^ w) (l.map fun t => t.1 ^^^ t.2.1 ^^^ t.2.2) = crcN u (l.map (·.1)) ^^^ crcN v (l.map (·.2.1)) ^^^ crcN w (l.map (·.2.2)) := by
  intro l
  induction l with
  | nil => intro u v w; rw [List.map_nil, List.map_nil, List.map_nil, List.map_nil, crcN_nil, crcN_nil, crcN_nil, crcN_nil]
  | cons t l ih =>
    intro u v w
    simp only [List.map_cons, crcN_cons]
    rw [← ih]
    congr 1
    unfold eightN
    rw [← it_xor, ← it_xor]; congr 1
    apply Nat.eq_of_testBit_eq; intro i; simp only [Nat.testBit_xor]
    cases u.testBit i <;> cases v.testBit i <;> cases w.testBit i <;> cases t.1.testBit i <;> cases t.2.1.testBit i <;> cases t.2.2.testBit i <;> rfl
/-- Four bytes of a number, the lowest first, are 32 steps of register and number mixed. -/
theorem crcN_four (w y : Nat) : crcN w [y % 256, y / 256 % 256, y / 65536 % 256, y / 16777216] = it 32 (w ^^^ y) := by
  have e8 : ∀ a b, it 8 a ^^^ b = it 8 (a ^^^ b * 2 ^ 8) := by intro a b; rw [it_xor, it_shift]
  have split : ∀ z, z = (z % 256) ^^^ (z / 256 * 2 ^ 8) := by
    intro z; apply Nat.eq_of_testBit_eq; intro i
    rw [Nat.testBit_xor, show (256 : Nat) = 2 ^ 8 from rfl, Nat.testBit_mod_two_pow, Nat.testBit_mul_two_pow, Nat.testBit_div_two_pow]
    by_cases h : i < 8
    · simp [h, Nat.not_le.2 h]
    · have h' : 8 ≤ i := by omega
      simp [h, h', Nat.sub_add_cancel h']
  have e1 : y / 65536 % 256 ^^^ y / 16777216 * 2 ^ 8 = y / 65536 := by
    rw [show y / 16777216 = y / 65536 / 256 by omega]; exact (split _).symm
  have e2 : y / 256 % 256 ^^^ y / 65536 * 2 ^ 8 = y / 256 := by
    rw [show y / 65536 = y / 256 / 256 by omega]; exact (split _).symm
  have e3 : y % 256 ^^^ y / 256 * 2 ^ 8 = y := (split y).symm
  rw [crcN_cons, crcN_cons, crcN_cons, crcN_cons, crcN_nil]
  unfold eightN
  rw [e8 _ (y / 16777216), Nat.xor_assoc, e1, e8 _ (y / 65536), Nat.xor_assoc, e2, e8 _ (y / 256), Nat.xor_assoc, e3]
  rw [← it_add, ← it_add, ← it_add]
/-- A bit of a byte, as the turned byte's share. -/
theorem it_bit (m r : Nat) (h : r ≤ m) : it m (2 ^ r) = it (m - r) 1 := by
  have e : m = r + (m - r) := by omega
  rw [e, it_add, show r + (m - r) - r = m - r by omega]
  congr 1
  simpa using it_shift r 1
theorem mod_succ_xor (t i : Nat) : t % 2 ^ (i + 1) = t % 2 ^ i ^^^ (if t / 2 ^ i % 2 = 1 then 2 ^ i else 0) := by
  apply Nat.eq_of_testBit_eq; intro j
  rw [Nat.testBit_xor, Nat.testBit_mod_two_pow, Nat.testBit_mod_two_pow]
  have hb : t.testBit i = decide (t / 2 ^ i % 2 = 1) := by
    rw [Nat.testBit_eq_decide_div_mod_eq]
  by_cases hij : j = i
  · subst hij
    by_cases h : t / 2 ^ j % 2 = 1
    · rw [if_pos h, Nat.testBit_two_pow_self, hb]; simp [h]
    · rw [if_neg h, hb]; simp [h]
  · have hz : Nat.testBit (if t / 2 ^ i % 2 = 1 then 2 ^ i else 0) j = false := by
      split
      · exact Nat.testBit_two_pow_of_ne (fun e => hij e.symm)
      · exact Nat.zero_testBit j
    rw [hz]
    by_cases h : j < i
    · simp [h, Nat.lt_succ_of_lt h]
    · have h2 : ¬ j < i + 1 := by omega
      simp [h, h2]
/-- The turned run's step: bit i of the run sits at place k + i of the bytes. -/
theorem run_step (w : Nat) (l : List Nat) (k i t A : Nat) (hi : i < 32) (hk2 : k + 32 ≤ 8 * l.length)
    (hl : crcN w l = A ^^^ it (8 * l.length - k) (t % 2 ^ i)) (ht : t / 2 ^ i % 2 = 1) (hj : (k + i) / 8 < l.length) :
    crcN w (l.set ((k + i) / 8) (l[(k + i) / 8] ^^^ 2 ^ ((k + i) % 8))) = A ^^^ it (8 * l.length - k) (t % 2 ^ (i + 1)) := by
  rw [crcN_set, hl, mod_succ_xor, if_pos ht, it_xor, Nat.xor_assoc]
  congr 2
  rw [it_bit _ _ (by omega), it_bit _ i (by omega)]
  congr 1
  omega
end Go.Proofs.Ytoigogjmhkpdlab.Crc

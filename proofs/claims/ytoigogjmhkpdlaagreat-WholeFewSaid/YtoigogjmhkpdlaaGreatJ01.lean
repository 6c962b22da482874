/- A part of the proof of WholeFew: the texts Crc, Gf, Bl. -/
namespace Go.Proofs.YtoigogjmhkpdlaaGreat.Crc
def bitN (w : Nat) : Nat := if w % 2 = 1 then w / 2 ^^^ 2197175160 else w / 2
def it : Nat → Nat → Nat
  | 0, w => w
  | n + 1, w => it n (bitN w)
def eightN (w b : Nat) : Nat := it 8 (w ^^^ b)
def crcN (w : Nat) (l : List Nat) : Nat := l.foldl eightN w
theorem crcN_nil (w : Nat) : crcN w [] = w := rfl
theorem crcN_cons (w b : Nat) (l : List Nat) : crcN w (b :: l) = crcN (eightN w b) l := rfl
theorem bitN_lt (w : Nat) (h : w < 4294967296) : bitN w < 4294967296 := by
  unfold bitN; split
  · exact Nat.xor_lt_two_pow (n := 32) (by omega) (by decide)
  · omega
theorem it_lt (n w : Nat) (h : w < 4294967296) : it n w < 4294967296 := by
  induction n generalizing w with
  | zero => exact h
  | succ n ih => exact ih _ (bitN_lt w h)
theorem it_none (w : Nat) : it 0 w = w := rfl
theorem it_add (m n w : Nat) : it (m + n) w = it n (it m w) := by
  induction m generalizing w with
  | zero => rw [Nat.zero_add]; rfl
  | succ m ih => rw [Nat.succ_add]; simp only [it]; exact ih _
theorem it_snoc (k w : Nat) : bitN (it k w) = it (k + 1) w := by rw [it_add]; rfl
theorem eightN_lt (w b : Nat) (h : w < 4294967296) (hb : b < 256) : eightN w b < 4294967296 :=
  it_lt 8 _ (Nat.xor_lt_two_pow (n := 32) h (by omega))
attribute [irreducible] eightN it crcN
theorem crcN_lt (l : List Nat) : ∀ w, w < 4294967296 → (∀ b ∈ l, b < 256) → crcN w l < 4294967296 := by
  induction l with
  | nil => intro w h _; rw [crcN_nil]; exact h
  | cons b l ih => intro w h hb; rw [crcN_cons]; exact ih _ (eightN_lt w b h (hb b (by simp))) (fun c hc => hb c (by simp [hc]))
theorem crcN_append (l m : List Nat) : ∀ w, crcN w (l ++ m) = crcN (crcN w l) m := by
  induction l with
  | nil => intro w; rw [List.nil_append, crcN_nil]
  | cons b l ih => intro w; rw [List.cons_append, crcN_cons, crcN_cons]; exact ih _
theorem crcN_snoc (l : List Nat) (b w : Nat) : crcN w (l ++ [b]) = eightN (crcN w l) b := by rw [crcN_append, crcN_cons, crcN_nil]
end Go.Proofs.YtoigogjmhkpdlaaGreat.Crc
namespace Go.Proofs.YtoigogjmhkpdlaaGreat.Gf
def expL : List Nat := [1, 2, 4, 8, 16, 32, 64, 128, 29, 58, 116, 232, 205, 135, 19, 38, 76, 152, 45, 90, 180, 117, 234, 201, 143, 3, 6, 12, 24, 48, 96, 192, 157, 39, 78, 156, 37, 74, 148, 53, 106, 212, 181, 119, 238, 193, 159, 35, 70, 140, 5, 10, 20, 40, 80, 160, 93, 186, 105, 210, 185, 111, 222, 161, 95, 190, 97, 194, 153, 47, 94, 188, 101, 202, 137, 15, 30, 60, 120, 240, 253, 231, 211, 187, 107, 214, 177, 127, 254, 225, 223, 163, 91, 182, 113, 226, 217, 175, 67, 134, 17, 34, 68, 136, 13, 26, 52, 104, 208, 189, 103, 206, 129, 31, 62, 124, 248, 237, 199, 147, 59, 118, 236, 197, 151, 51, 102, 204, 133, 23, 46, 92, 184, 109, 218, 169, 79, 158, 33, 66, 132, 21, 42, 84, 168, 77, 154, 41, 82, 164, 85, 170, 73, 146, 57, 114, 228, 213, 183, 115, 230, 209, 191, 99, 198, 145, 63, 126, 252, 229, 215, 179, 123, 246, 241, 255, 227, 219, 171, 75, 150, 49, 98, 196, 149, 55, 110, 220, 165, 87, 174, 65, 130, 25, 50, 100, 200, 141, 7, 14, 28, 56, 112, 224, 221, 167, 83, 166, 81, 162, 89, 178, 121, 242, 249, 239, 195, 155, 43, 86, 172, 69, 138, 9, 18, 36, 72, 144, 61, 122, 244, 245, 247, 243, 251, 235, 203, 139, 11, 22, 44, 88, 176, 125, 250, 233, 207, 131, 27, 54, 108, 216, 173, 71, 142]
def logL : List Nat := [0, 0, 1, 25, 2, 50, 26, 198, 3, 223, 51, 238, 27, 104, 199, 75, 4, 100, 224, 14, 52, 141, 239, 129, 28, 193, 105, 248, 200, 8, 76, 113, 5, 138, 101, 47, 225, 36, 15, 33, 53, 147, 142, 218, 240, 18, 130, 69, 29, 181, 194, 125, 106, 39, 249, 185, 201, 154, 9, 120, 77, 228, 114, 166, 6, 191, 139, 98, 102, 221, 48, 253, 226, 152, 37, 179, 16, 145, 34, 136, 54, 208, 148, 206, 143, 150, 219, 189, 241, 210, 19, 92, 131, 56, 70, 64, 30, 66, 182, 163, 195, 72, 126, 110, 107, 58, 40, 84, 250, 133, 186, 61, 202, 94, 155, 159, 10, 21, 121, 43, 78, 212, 229, 172, 115, 243, 167, 87, 7, 112, 192, 247, 140, 128, 99, 13, 103, 74, 222, 237, 49, 197, 254, 24, 227, 165, 153, 119, 38, 184, 180, 124, 17, 68, 146, 217, 35, 32, 137, 46, 55, 63, 209, 91, 149, 188, 207, 205, 144, 135, 151, 178, 220, 252, 190, 97, 242, 86, 211, 171, 20, 42, 93, 158, 132, 60, 57, 83, 71, 109, 65, 162, 31, 45, 67, 216, 183, 123, 164, 118, 196, 23, 73, 236, 127, 12, 111, 246, 108, 161, 59, 82, 41, 157, 85, 170, 251, 96, 134, 177, 187, 204, 62, 90, 203, 89, 95, 176, 156, 169, 160, 81, 11, 245, 22, 235, 122, 117, 44, 215, 79, 174, 213, 233, 230, 231, 173, 232, 116, 214, 244, 234, 168, 80, 88, 175]
def expN (i : Nat) : Nat := expL.getD i 0
def logN (a : Nat) : Nat := logL.getD a 0
def pw (i : Nat) : Nat := expN (i % 255)
def dbl (x : Nat) : Nat := if 256 ≤ x * 2 then x * 2 ^^^ 285 else x * 2
def dblN : Nat → Nat → Nat
  | 0, x => x
  | n + 1, x => dbl (dblN n x)
def mulN (a b : Nat) : Nat := if a = 0 ∨ b = 0 then 0 else pw (logN a + logN b)
def invN (a : Nat) : Nat := if a = 0 then 0 else pw (255 - logN a)
theorem expN_lt : ∀ i, i < 255 → expN i < 256 ∧ 1 ≤ expN i ∧ logN (expN i) = i ∧ dbl (expN i) = expN ((i + 1) % 255) := by decide +kernel
theorem logN_lt : ∀ a, a < 256 → 1 ≤ a → logN a < 255 ∧ expN (logN a) = a := by decide +kernel
theorem pw_lt (i : Nat) : pw i < 256 := (expN_lt _ (Nat.mod_lt _ (by decide))).1
theorem logN_pw (i : Nat) : logN (pw i) = i % 255 := (expN_lt _ (Nat.mod_lt _ (by decide))).2.2.1
theorem pw_logN (a : Nat) (h : a < 256) (h1 : 1 ≤ a) : pw (logN a) = a := by
  have := logN_lt a h h1
  unfold pw; rw [Nat.mod_eq_of_lt this.1]; exact this.2
theorem dbl_pw (i : Nat) : dbl (pw i) = pw (i + 1) := by
  have := (expN_lt (i % 255) (Nat.mod_lt _ (by decide))).2.2.2
  unfold pw; rw [this, Nat.mod_add_mod]
theorem pw_mod (i : Nat) : pw (i % 255) = pw i := by unfold pw; rw [Nat.mod_mod]
theorem pw_zero : pw 0 = 1 := by decide
attribute [irreducible] dbl dblN pw expN logN
theorem mulN_lt (a b : Nat) : mulN a b < 256 := by
  unfold mulN; split
  · decide
  · exact pw_lt _
theorem mulN_zero (a : Nat) : mulN a 0 = 0 := by unfold mulN; rw [if_pos (.inr rfl)]
theorem mulN_zero' (a : Nat) : mulN 0 a = 0 := by unfold mulN; rw [if_pos (.inl rfl)]
theorem mulN_pw (a b : Nat) (h1 : 1 ≤ a) (h2 : 1 ≤ b) : mulN a b = pw (logN a + logN b) := by unfold mulN; rw [if_neg (by omega)]
theorem invN_lt (a : Nat) : invN a < 256 := by
  unfold invN; split
  · decide
  · exact pw_lt _
end Go.Proofs.YtoigogjmhkpdlaaGreat.Gf
namespace Go.Proofs.YtoigogjmhkpdlaaGreat.Bl
def bitAt (f : List Nat) (p : Nat) : Bool := (f.getD (p / 8) 0).testBit (p % 8)
def setB (f : List Nat) (p : Nat) : List Nat := f.set (p / 8) (f.getD (p / 8) 0 ||| 2 ^ (p % 8))
def Small (f : List Nat) : Prop := ∀ b ∈ f, b < 256
theorem length_setB (f : List Nat) (p : Nat) : (setB f p).length = f.length := by unfold setB; rw [List.length_set]
theorem getD_lt {f : List Nat} (h : Small f) (j : Nat) : f.getD j 0 < 256 := by
  rcases Nat.lt_or_ge j f.length with hj | hj
  · have : f.getD j 0 = f[j] := by simp [hj]
    rw [this]; exact h _ (List.getElem_mem _)
  · have : f.getD j 0 = 0 := by simp [List.getElem?_eq_none hj]
    omega
theorem or_lt {a b : Nat} (ha : a < 256) (hb : b < 256) : a ||| b < 256 := Nat.or_lt_two_pow (n := 8) ha hb
theorem pow_lt (p : Nat) : 2 ^ (p % 8) < 256 := Nat.pow_lt_pow_right (m := p % 8) (n := 8) (by decide) (Nat.mod_lt _ (by decide))
theorem small_set {f : List Nat} (h : Small f) (j v : Nat) (hv : v < 256) : Small (f.set j v) := by
  intro b hb
  rcases List.mem_or_eq_of_mem_set hb with h' | h'
  · exact h b h'
  · omega
theorem small_setB {f : List Nat} (h : Small f) (p : Nat) : Small (setB f p) := small_set h _ _ (or_lt (getD_lt h _) (pow_lt p))
theorem bitAt_setB (f : List Nat) (p q : Nat) (hp : p / 8 < f.length) : bitAt (setB f p) q = (bitAt f q || decide (q = p)) := by
  unfold bitAt setB
  by_cases h : q / 8 = p / 8
  · have e : (f.set (p / 8) (f.getD (p / 8) 0 ||| 2 ^ (p % 8))).getD (q / 8) 0 = f.getD (p / 8) 0 ||| 2 ^ (p % 8) := by
      rw [h]; simp [hp]
    rw [e, h, Nat.testBit_or]
    congr 1
    by_cases h2 : q % 8 = p % 8
    · have : q = p := by omega
      rw [h2, Nat.testBit_two_pow_self]; simp [this]
    · have : ¬ q = p := by omega
      rw [Nat.testBit_two_pow_of_ne (fun e => h2 e.symm)]; simp [this]
  · have e : (f.set (p / 8) (f.getD (p / 8) 0 ||| 2 ^ (p % 8))).getD (q / 8) 0 = f.getD (q / 8) 0 := by
      simp [List.getElem?_set_ne (fun e => h e.symm)]
    have : ¬ q = p := by rintro rfl; exact h rfl
    rw [e]; simp [this]
def setAll (f : List Nat) (l : List Nat) : List Nat := l.foldl setB f
theorem setAll_length (l : List Nat) : ∀ f, (setAll f l).length = f.length := by
  induction l with
  | nil => intro f; rfl
  | cons p l ih => intro f; show (setAll (setB f p) l).length = _; rw [ih, length_setB]
theorem setAll_small (l : List Nat) : ∀ f, Small f → Small (setAll f l) := by
  induction l with
  | nil => intro f h; exact h
  | cons p l ih => intro f h; exact ih _ (small_setB h p)
theorem setAll_bit (l : List Nat) : ∀ f q, (∀ p ∈ l, p / 8 < f.length) → bitAt (setAll f l) q = (bitAt f q || decide (q ∈ l)) := by
  induction l with
  | nil => intro f q _; show bitAt f q = _; simp
  | cons p l ih =>
    intro f q h
    show bitAt (setAll (setB f p) l) q = _
    rw [ih _ q (fun x hx => by rw [length_setB]; exact h x (by simp [hx])), bitAt_setB f p q (h p (by simp))]
    by_cases h1 : q = p <;> by_cases h2 : q ∈ l <;> simp [h1, h2]
theorem setAll_snoc (f l : List Nat) (p : Nat) : setAll f (l ++ [p]) = setB (setAll f l) p := by unfold setAll; rw [List.foldl_append]; rfl
def setKeys {κ : Type} (bits : κ → List Nat) (f : List Nat) (keys : List κ) : List Nat := keys.foldl (fun f k => setAll f (bits k)) f
theorem setKeys_snoc {κ : Type} (bits : κ → List Nat) (f : List Nat) (keys : List κ) (k : κ) : setKeys bits f (keys ++ [k]) = setAll (setKeys bits f keys) (bits k) := by unfold setKeys; rw [List.foldl_append]; rfl
theorem setKeys_length {κ : Type} (bits : κ → List Nat) (keys : List κ) : ∀ f, (setKeys bits f keys).length = f.length := by
  induction keys with
  | nil => intro f; rfl
  | cons k keys ih => intro f; show (setKeys bits (setAll f (bits k)) keys).length = _; rw [ih, setAll_length]
theorem setKeys_small {κ : Type} (bits : κ → List Nat) (keys : List κ) : ∀ f, Small f → Small (setKeys bits f keys) := by
  induction keys with
  | nil => intro f h; exact h
  | cons k keys ih => intro f h; exact ih _ (setAll_small _ _ h)
theorem setKeys_bit {κ : Type} (bits : κ → List Nat) (keys : List κ) : ∀ f q, (∀ k ∈ keys, ∀ p ∈ bits k, p / 8 < f.length) → (bitAt (setKeys bits f keys) q = true ↔ bitAt f q = true ∨ ∃ k ∈ keys, q ∈ bits k) := by
  induction keys with
  | nil => intro f q _; show bitAt f q = true ↔ _; simp
  | cons k keys ih =>
    intro f q h
    show bitAt (setKeys bits (setAll f (bits k)) keys) q = true ↔ _
    rw [ih _ q (fun x hx p hp => by rw [setAll_length]; exact h x (by simp [hx]) p hp), setAll_bit _ f q (h k (by simp))]
    simp [or_assoc]
theorem bitAt_zero (n q : Nat) : bitAt (List.replicate n 0) q = false := by
  unfold bitAt
  have : (List.replicate n 0).getD (q / 8) 0 = 0 := by
    rcases Nat.lt_or_ge (q / 8) n with h | h <;> simp [h]
  rw [this]; exact Nat.zero_testBit _
theorem small_zero (n : Nat) : Small (List.replicate n 0) := by
  intro b hb; rw [(List.mem_replicate.1 hb).2]; decide
def makeN {κ : Type} (bits : κ → List Nat) (n : Nat) (keys : List κ) : List Nat := setKeys bits (List.replicate n 0) keys
theorem makeN_length {κ : Type} (bits : κ → List Nat) (n : Nat) (keys : List κ) : (makeN bits n keys).length = n := by unfold makeN; rw [setKeys_length, List.length_replicate]
theorem makeN_small {κ : Type} (bits : κ → List Nat) (n : Nat) (keys : List κ) : Small (makeN bits n keys) := setKeys_small _ _ _ (small_zero n)
theorem makeN_bit {κ : Type} (bits : κ → List Nat) (n : Nat) (keys : List κ) (q : Nat) (h : ∀ k ∈ keys, ∀ p ∈ bits k, p < 8 * n) : bitAt (makeN bits n keys) q = true ↔ ∃ k ∈ keys, q ∈ bits k := by
  unfold makeN
  rw [setKeys_bit _ _ _ _ (fun k hk p hp => by rw [List.length_replicate]; have := h k hk p hp; omega), bitAt_zero]
  simp
theorem bit_of (x k : Nat) : x.testBit k = decide (x / 2 ^ k % 2 = 1) := Nat.testBit_eq_decide_div_mod_eq
end Go.Proofs.YtoigogjmhkpdlaaGreat.Bl

/- Plain mathematics of a filter: bits of bytes; setting bits; what bits a filter of keys has. No Go in sight. -/
namespace Go.Proofs.Ytoigogjmhkpdlab.Bl

/-- Bit p of bytes. -/
def bitAt (f : List Nat) (p : Nat) : Bool := (f.getD (p / 8) 0).testBit (p % 8)
/-- Bit p set. -/
def setB (f : List Nat) (p : Nat) : List Nat := f.set (p / 8) (f.getD (p / 8) 0 ||| 2 ^ (p % 8))
def Small (f : List Nat) : Prop := ∀ b ∈ f, b < 256

theorem length_setB (f : List Nat) (p : Nat) : (setB f p).length = f.length := by unfold setB; rw [List.length_set]
theorem getD_lt {f : List Nat} (h : Small f) (j : Nat) : f.getD j 0 < 256 := by
  rcases Nat.lt_or_ge j f.length with hj | hj
  · have : f.getD j 0 = f[j] := by simp [hj]
    rw [this]; exact h _ (List.getElem_mem _)
  · have : f.getD j 0 = 0 := by simp [List.getElem?_eq_none hj]
    omega
theorem or_lt {a b : Nat} (ha : a < 256) (hb : b < 256) : a ||| b < 256 := Nat.or_lt_two_pow (n := 8) ha hb
theorem pow_lt (p : Nat) : 2 ^ (p % 8) < 256 := Nat.pow_lt_pow_right (m := p % 8) (n := 8) (by decide) (Nat.mod_lt _ (by decide))
theorem small_set {f : List Nat} (h : Small f) (j v : Nat) (hv : v < 256) : Small (f.set j v) := by
  intro b hb
  rcases List.mem_or_eq_of_mem_set hb with h' | h'
  · exact h b h'
  · omega
theorem small_setB {f : List Nat} (h : Small f) (p : Nat) : Small (setB f p) := small_set h _ _ (or_lt (getD_lt h _) (pow_lt p))
theorem bitAt_setB (f : List Nat) (p q : Nat) (hp : p / 8 < f.length) : bitAt (setB f p) q = (bitAt f q || decide (q = p)) := by
  unfold bitAt setB
  by_cases h : q / 8 = p / 8
  · have e : (f.set (p / 8) (f.getD (p / 8) 0 ||| 2 ^ (p % 8))).getD (q / 8) 0 = f.getD (p / 8) 0 ||| 2 ^ (p % 8) := by
      rw [h]; simp [hp]
    rw [e, h, Nat.testBit_or]
    congr 1
    by_cases h2 : q % 8 = p % 8
    · have : q = p := by omega
      rw [h2, Nat.testBit_two_pow_self]; simp [this]
    · have : ¬ q = p := by omega
      rw [Nat.testBit_two_pow_of_ne (fun e => h2 e.symm)]; simp [this]
  · have e : (f.set (p / 8) (f.getD (p / 8) 0 ||| 2 ^ (p % 8))).getD (q / 8) 0 = f.getD (q / 8) 0 := by
      simp [List.getElem?_set_ne (fun e => h e.symm)]
    have : ¬ q = p := by rintro rfl; exact h rfl
    rw [e]; simp [this]
/-- Bits set one behind the other. -/
def setAll (f : List Nat) (l : List Nat) : List Nat := l.foldl setB f
theorem setAll_length (l : List Nat) : ∀ f, (setAll f l).length = f.length := by
  induction l with
  | nil => intro f; rfl
  | cons p l ih => intro f; show (setAll (setB f p) l).length = _; rw [ih, length_setB]
theorem setAll_small (l : List Nat) : ∀ f, Small f → Small (setAll f l) := by
  induction l with
  | nil => intro f h; exact h
  | cons p l ih => intro f h; exact ih _ (small_setB h p)
theorem setAll_bit (l : List Nat) : ∀ f q, (∀ p ∈ l, p / 8 < f.length) → bitAt (setAll f l) q = (bitAt f q || decide (q ∈ l)) := by
  induction l with
  | nil => intro f q _; show bitAt f q = _; simp
  | cons p l ih =>
    intro f q h
    show bitAt (setAll (setB f p) l) q = _
    rw [ih _ q (fun x hx => by rw [length_setB]; exact h x (by simp [hx])), bitAt_setB f p q (h p (by simp))]
    by_cases h1 : q = p <;> by_cases h2 : q ∈ l <;> simp [h1, h2]
theorem setAll_snoc (f l : List Nat) (p : Nat) : setAll f (l ++ [p]) = setB (setAll f l) p := by unfold setAll; rw [List.foldl_append]; rfl

/-- Many keys, each with its bits. -/
def setKeys {κ : Type} (bits : κ → List Nat) (f : List Nat) (keys : List κ) : List Nat := keys.foldl (fun f k => setAll f (bits k)) f
theorem setKeys_snoc {κ : Type} (bits : κ → List Nat) (f : List Nat) (keys : List κ) (k : κ) : setKeys bits f (keys ++ [k]) = setAll (setKeys bits f keys) (bits k) := by unfold setKeys; rw [List.foldl_append]; rfl
theorem setKeys_length {κ : Type} (bits : κ → List Nat) (keys : List κ) : ∀ f, (setKeys bits f keys).length = f.length := by
  induction keys with
  | nil => intro f; rfl
  | cons k keys ih => intro f; show (setKeys bits (setAll f (bits k)) keys).length = _; rw [ih, setAll_length]
theorem setKeys_small {κ : Type} (bits : κ → List Nat) (keys : List κ) : ∀ f, Small f → Small (setKeys bits f keys) := by
  induction keys with
  | nil => intro f h; exact h
  | cons k keys ih => intro f h; exact ih _ (setAll_small _ _ h)
theorem setKeys_bit {κ : Type} (bits : κ → List Nat) (keys : List κ) : ∀ f q, (∀ k ∈ keys, ∀ p ∈ bits k, p / 8 < f.length) → (bitAt (setKeys bits f keys) q = true ↔ bitAt f q = true ∨ ∃ k ∈ keys, q ∈ bits k) := by
  induction keys with
  | nil => intro f q _; show bitAt f q = true ↔ _; simp
  | cons k keys ih =>
    intro f q h
    show bitAt (setKeys bits (setAll f (bits k)) keys) q = true ↔ _
    rw [ih _ q (fun x hx p hp => by rw [setAll_length]; exact h x (by simp [hx]) p hp), setAll_bit _ f q (h k (by simp))]
    simp [or_assoc]
/-- Bytes are their bits. -/
theorem ext_bits {f g : List Nat} (hf : Small f) (hg : Small g) (hl : f.length = g.length) (h : ∀ q, bitAt f q = bitAt g q) : f = g := by
  apply List.ext_getElem hl
  intro i h1 h2
  apply Nat.eq_of_testBit_eq
  intro j
  by_cases hj : j < 8
  · have := h (8 * i + j)
    unfold bitAt at this
    rw [show (8 * i + j) / 8 = i by omega, show (8 * i + j) % 8 = j by omega] at this
    simpa [h1, h2] using this
  · have hb : ∀ x, x < 256 → x.testBit j = false := fun x hx => Nat.testBit_lt_two_pow (Nat.lt_of_lt_of_le (show x < 2 ^ 8 by omega) (Nat.pow_le_pow_right (by decide) (by omega)))
    rw [hb _ (hf _ (List.getElem_mem _)), hb _ (hg _ (List.getElem_mem _))]
theorem bitAt_zero (n q : Nat) : bitAt (List.replicate n 0) q = false := by
  unfold bitAt
  have : (List.replicate n 0).getD (q / 8) 0 = 0 := by
    rcases Nat.lt_or_ge (q / 8) n with h | h <;> simp [h]
  rw [this]; exact Nat.zero_testBit _
theorem small_zero (n : Nat) : Small (List.replicate n 0) := by
  intro b hb; rw [(List.mem_replicate.1 hb).2]; decide
/-- A filter of keys. -/
def makeN {κ : Type} (bits : κ → List Nat) (n : Nat) (keys : List κ) : List Nat := setKeys bits (List.replicate n 0) keys
theorem makeN_length {κ : Type} (bits : κ → List Nat) (n : Nat) (keys : List κ) : (makeN bits n keys).length = n := by unfold makeN; rw [setKeys_length, List.length_replicate]
theorem makeN_small {κ : Type} (bits : κ → List Nat) (n : Nat) (keys : List κ) : Small (makeN bits n keys) := setKeys_small _ _ _ (small_zero n)
theorem makeN_bit {κ : Type} (bits : κ → List Nat) (n : Nat) (keys : List κ) (q : Nat) (h : ∀ k ∈ keys, ∀ p ∈ bits k, p < 8 * n) : bitAt (makeN bits n keys) q = true ↔ ∃ k ∈ keys, q ∈ bits k := by
  unfold makeN
  rw [setKeys_bit _ _ _ _ (fun k hk p hp => by rw [List.length_replicate]; have := h k hk p hp; omega), bitAt_zero]
  simp
/-- The order of keys doesn't matter. -/
theorem makeN_reverse {κ : Type} (bits : κ → List Nat) (n : Nat) (keys : List κ) (h : ∀ k ∈ keys, ∀ p ∈ bits k, p < 8 * n) : makeN bits n keys.reverse = makeN bits n keys := by
  apply ext_bits (makeN_small _ _ _) (makeN_small _ _ _) (by rw [makeN_length, makeN_length])
  intro q
  rw [Bool.eq_iff_iff, makeN_bit _ _ _ _ (fun k hk => h k (List.mem_reverse.1 hk)), makeN_bit _ _ _ _ h]
  simp
/-- Bytes as bits, one by one. -/
def bitList (f : List Nat) : List Bool := (List.range (8 * f.length)).map (bitAt f)
theorem bitList_length (f : List Nat) : (bitList f).length = 8 * f.length := by unfold bitList; simp
theorem bitList_get (f : List Nat) (p : Nat) (h : p < (bitList f).length) : (bitList f)[p] = bitAt f p := by simp [bitList]
theorem bitList_set (f : List Nat) (p : Nat) (hp : p < 8 * f.length) : (bitList f).set p true = bitList (setB f p) := by
  apply List.ext_getElem
  · rw [List.length_set, bitList_length, bitList_length, length_setB]
  · intro i h1 h2
    rw [bitList_get, bitAt_setB f p i (by omega), List.getElem_set]
    rw [List.length_set] at h1
    by_cases h : p = i
    · subst h; simp
    · rw [if_neg h, bitList_get]; simp [show ¬ i = p from fun e => h e.symm]
theorem bitList_zero (n : Nat) : List.replicate (8 * n) false = bitList (List.replicate n 0) := by
  apply List.ext_getElem
  · rw [List.length_replicate, bitList_length, List.length_replicate]
  · intro i h1 h2
    rw [bitList_get, bitAt_zero]; simp
/-- A byte, put together from its highest bit on. -/
theorem byte_step (x k : Nat) : x / 2 ^ k = 2 * (x / 2 ^ (k + 1)) + (if x.testBit k then 1 else 0) := by
  have h : x / 2 ^ (k + 1) = x / 2 ^ k / 2 := by rw [Nat.pow_succ, Nat.div_div_eq_div_mul]
  rw [h, Nat.testBit_eq_decide_div_mod_eq]
  by_cases hb : x / 2 ^ k % 2 = 1
  · simp only [hb, decide_true, if_true]; omega
  · simp only [hb, decide_false, Bool.false_eq_true, if_false]; omega
theorem bit_of (x k : Nat) : x.testBit k = decide (x / 2 ^ k % 2 = 1) := Nat.testBit_eq_decide_div_mod_eq
/-- Bits that are set stay, if bytes are only or-ed. -/
theorem or_keeps (G : List Nat) (j v q : Nat) (hj : j < G.length) (h : bitAt G q = true) : bitAt (G.set j (G.getD j 0 ||| v)) q = true := by
  unfold bitAt at h ⊢
  by_cases e : q / 8 = j
  · subst e
    have : (G.set (q / 8) (G.getD (q / 8) 0 ||| v)).getD (q / 8) 0 = G.getD (q / 8) 0 ||| v := by simp [hj]
    rw [this, Nat.testBit_or, h]; rfl
  · have : (G.set j (G.getD j 0 ||| v)).getD (q / 8) 0 = G.getD (q / 8) 0 := by simp [List.getElem?_set_ne (fun e2 => e e2.symm)]
    rw [this]; exact h
end Go.Proofs.Ytoigogjmhkpdlab.Bl

/- Gf, La, Mx, My, Mz. -/
/- Plain arithmetic of the fields with 2^8 and 2^16 elements; no program in sight. -/
namespace Gf
theorem xor_ac (a b c d : Nat) : (a ^^^ b) ^^^ (c ^^^ d) = (a ^^^ c) ^^^ (b ^^^ d) := by
  rw [Nat.xor_assoc, Nat.xor_assoc, ← Nat.xor_assoc b, Nat.xor_comm b c, Nat.xor_assoc c]
/-- the modulus -/
def md (m : Nat) : Nat := if m = 8 then 285 else if m = 16 then 69643 else 0
/-- multiply by the indeterminate -/
def T (m x : Nat) : Nat := (2 * x) ^^^ (if x.testBit (m - 1) then md m else 0)
def Ok (m : Nat) : Prop := m = 8 ∨ m = 16
theorem two_xor (x y : Nat) : 2 * (x ^^^ y) = (2 * x) ^^^ (2 * y) := by
  have := Nat.shiftLeft_xor_distrib (a := x) (b := y) (i := 1)
  simpa [Nat.shiftLeft_eq, Nat.mul_comm] using this
theorem T_zero (m : Nat) : T m 0 = 0 := by simp [T]
theorem T_xor (m x y : Nat) : T m (x ^^^ y) = T m x ^^^ T m y := by
  unfold T
  rw [two_xor, Nat.testBit_xor, xor_ac]
  congr 1
  cases x.testBit (m - 1) <;> cases y.testBit (m - 1) <;> simp
theorem testBit_top {m x : Nat} (h : x < 2 ^ (m + 1)) : x.testBit m = decide (2 ^ m ≤ x) := by
  rw [Nat.testBit_eq_decide_div_mod_eq]
  rcases Nat.lt_or_ge x (2 ^ m) with h1 | h1
  · rw [Nat.div_eq_of_lt h1]; simp; omega
  · have : x / 2 ^ m = 1 := by
      rw [Nat.pow_succ] at h
      exact Nat.div_eq_of_lt_le (by omega) (by omega)
    rw [this]; simp [h1]
theorem T_eq {m x : Nat} (hm : Ok m) (h : x < 2 ^ m) : T m x = if 2 * x < 2 ^ m then 2 * x else (2 * x) ^^^ md m := by
  unfold T
  have e : x.testBit (m - 1) = decide (2 ^ (m - 1) ≤ x) := testBit_top (by rcases hm with rfl | rfl <;> exact h)
  rw [e]
  rcases hm with rfl | rfl <;> simp only [decide_eq_true_eq] <;> split <;> split <;> first | omega | simp
theorem xor_lt_of_top {k x y : Nat} (hx : x < 2 ^ (k + 1)) (hy : y < 2 ^ (k + 1)) (hx1 : 2 ^ k ≤ x) (hy1 : 2 ^ k ≤ y) : x ^^^ y < 2 ^ k := by
  have h : x ^^^ y < 2 ^ (k + 1) := Nat.xor_lt_two_pow hx hy
  have t : (x ^^^ y).testBit k = false := by
    rw [Nat.testBit_xor, testBit_top hx, testBit_top hy]; simp [hx1, hy1]
  rw [testBit_top h] at t
  simpa using t
theorem T_lt {m x : Nat} (hm : Ok m) (h : x < 2 ^ m) : T m x < 2 ^ m := by
  rw [T_eq hm h]
  split
  · assumption
  · have e : md m < 2 ^ (m + 1) ∧ 2 ^ m ≤ md m := by rcases hm with rfl | rfl <;> decide
    exact xor_lt_of_top (by rw [Nat.pow_succ]; omega) e.1 (by omega) e.2
/-- the sum of b_i T^i a over the n lowest bits of b -/
def op (m : Nat) : Nat → Nat → Nat → Nat
  | 0, _, _ => 0
  | n + 1, b, a => (if b % 2 = 1 then a else 0) ^^^ op m n (b / 2) (T m a)
theorem op_zero (m n : Nat) : ∀ a, op m n 0 a = 0 := by
  induction n with
  | zero => intro a; rfl
  | succ n ih => intro a; simp [op, ih]
theorem op_of_zero (m n : Nat) : ∀ b, op m n b 0 = 0 := by
  induction n with
  | zero => intro b; rfl
  | succ n ih => intro b; simp [op, T_zero, ih]
theorem op_xor (m n : Nat) : ∀ b a a', op m n b (a ^^^ a') = op m n b a ^^^ op m n b a' := by
  induction n with
  | zero => intro b a a'; simp [op]
  | succ n ih =>
    intro b a a'
    simp only [op, T_xor, ih]
    split
    · exact xor_ac _ _ _ _
    · simp
theorem mod_xor (b b' : Nat) : (b ^^^ b') % 2 = (b % 2 + b' % 2) % 2 := by
  have h := Nat.xor_mod_two_pow (a := b) (b := b') (n := 1)
  rw [Nat.pow_one] at h
  rw [h]
  rcases Nat.mod_two_eq_zero_or_one b with h | h <;> rcases Nat.mod_two_eq_zero_or_one b' with h' | h' <;> simp [h, h']
theorem div_xor (b b' : Nat) : (b ^^^ b') / 2 = (b / 2) ^^^ (b' / 2) := Nat.xor_div_two
theorem xor_op (m n : Nat) : ∀ b b' a, op m n (b ^^^ b') a = op m n b a ^^^ op m n b' a := by
  induction n with
  | zero => intro b b' a; simp [op]
  | succ n ih =>
    intro b b' a
    simp only [op, div_xor, ih, mod_xor]
    rw [xor_ac]
    congr 1
    rcases Nat.mod_two_eq_zero_or_one b with h | h <;> rcases Nat.mod_two_eq_zero_or_one b' with h' | h' <;> simp [h, h']
theorem op_T (m n : Nat) : ∀ b a, op m n b (T m a) = T m (op m n b a) := by
  induction n with
  | zero => intro b a; simp [op, T_zero]
  | succ n ih =>
    intro b a
    simp only [op, T_xor, ih]
    congr 1
    split
    · rfl
    · rw [T_zero]
theorem op_lt {m : Nat} (hm : Ok m) (n : Nat) : ∀ b a, a < 2 ^ m → op m n b a < 2 ^ m := by
  induction n with
  | zero => intro b a _; exact Nat.two_pow_pos m
  | succ n ih =>
    intro b a h
    simp only [op]
    refine Nat.xor_lt_two_pow ?_ (ih _ _ (T_lt hm h))
    split
    · exact h
    · exact Nat.two_pow_pos m
theorem op_comm (m n k : Nat) : ∀ b c a, op m n b (op m k c a) = op m k c (op m n b a) := by
  induction n with
  | zero => intro b c a; simp [op, op_of_zero]
  | succ n ih =>
    intro b c a
    simp only [op]
    rw [← op_T, ih, op_xor]
    congr 1
    split
    · rfl
    · rw [op_of_zero]
/-- more bits than there are change nothing -/
theorem op_more (m n : Nat) : ∀ k b a, b < 2 ^ n → op m (n + k) b a = op m n b a := by
  induction n with
  | zero => intro k b a h; have : b = 0 := by simpa using h
            subst this; rw [op_zero]; rfl
  | succ n ih =>
    intro k b a h
    rw [show n + 1 + k = (n + k) + 1 by omega]
    simp only [op]
    rw [ih k _ _ (by rw [Nat.pow_succ] at h; omega)]
theorem op_bits (m n k : Nat) (b a : Nat) (h : b < 2 ^ n) (h' : b < 2 ^ k) : op m n b a = op m k b a := by
  rcases Nat.le_total n k with hk | hk
  · obtain ⟨d, rfl⟩ := Nat.exists_eq_add_of_le hk; exact (op_more m n d b a h).symm
  · obtain ⟨d, rfl⟩ := Nat.exists_eq_add_of_le hk; exact op_more m k d b a h'
theorem T_pow {m j : Nat} (hm : Ok m) (h : j + 1 < m) : T m (2 ^ j) = 2 ^ (j + 1) := by
  have h1 : 2 ^ (j + 1) < 2 ^ m := Nat.pow_lt_pow_right (by omega) h
  have h2 : 2 ^ (j + 1) = 2 * 2 ^ j := by rw [Nat.pow_succ]; omega
  rw [T_eq hm (by omega), if_pos (by omega), h2]
theorem xor_split (b j : Nat) : ((if b % 2 = 1 then 2 ^ j else 0) ^^^ (b / 2 * 2 ^ (j + 1))) = b * 2 ^ j := by
  have e : b = 2 * (b / 2) + b % 2 := by omega
  have hb : b * 2 ^ j = ((b / 2) * 2 ^ (j + 1)) + (b % 2) * 2 ^ j := by
    conv => lhs; rw [e]
    rw [Nat.add_mul, Nat.pow_succ]
    congr 1
    rw [Nat.mul_comm 2, Nat.mul_assoc, Nat.mul_comm 2]
  rw [hb]
  rcases Nat.mod_two_eq_zero_or_one b with h | h
  · simp [h]
  · simp only [h, if_true, Nat.one_mul]
    rw [Nat.xor_comm, Nat.mul_comm]
    have hl : 2 ^ j < 2 ^ (j + 1) := Nat.pow_lt_pow_right (by omega) (by omega)
    rw [Nat.two_pow_add_eq_or_of_lt hl]
    apply Nat.eq_of_testBit_eq
    intro i
    rw [Nat.testBit_xor, Nat.testBit_or, Nat.testBit_two_pow, Nat.testBit_two_pow_mul]
    by_cases h1 : j + 1 ≤ i
    · have : ¬ j = i := by omega
      simp [h1, this]
    · simp [h1]
theorem op_pow {m : Nat} (hm : Ok m) (n : Nat) : ∀ b j, b < 2 ^ n → n + j ≤ m → op m n b (2 ^ j) = b * 2 ^ j := by
  induction n with
  | zero => intro b j h _; have : b = 0 := by simpa using h
            subst this; simp [op]
  | succ n ih =>
    intro b j h hj
    simp only [op]
    rcases Nat.eq_zero_or_pos n with h0 | h0
    · subst h0
      have : b = 0 ∨ b = 1 := by simp at h; omega
      rcases this with rfl | rfl <;> simp [op]
    · rw [T_pow hm (by omega), ih _ _ (by rw [Nat.pow_succ] at h; omega) (by omega), xor_split]
theorem op_one {m b : Nat} (hm : Ok m) (h : b < 2 ^ m) : op m m b 1 = b := by
  have := op_pow hm m b 0 h (by omega)
  simpa using this
/-- the product -/
def mul (m a b : Nat) : Nat := op m m b a
variable {m a b c : Nat}
theorem mul_lt (hm : Ok m) (b : Nat) (ha : a < 2 ^ m) : mul m a b < 2 ^ m := op_lt hm _ _ _ ha
theorem mul_comm (hm : Ok m) (ha : a < 2 ^ m) (hb : b < 2 ^ m) : mul m a b = mul m b a := by
  unfold mul
  conv => lhs; rw [← op_one hm ha]
  rw [op_comm, op_one hm hb]
theorem mul_assoc (hm : Ok m) (ha : a < 2 ^ m) (hb : b < 2 ^ m) : mul m (mul m a b) c = mul m a (mul m b c) := by
  have e1 : mul m a (mul m b c) = mul m (mul m b c) a := mul_comm hm ha (mul_lt hm c hb)
  rw [e1, mul_comm hm ha hb]
  unfold mul
  rw [op_comm]
theorem mul_xor (m a b c : Nat) : mul m a (b ^^^ c) = mul m a b ^^^ mul m a c := xor_op m m b c a
theorem xor_mul (m a b c : Nat) : mul m (a ^^^ b) c = mul m a c ^^^ mul m b c := op_xor m m c a b
theorem mul_zero (m a : Nat) : mul m a 0 = 0 := op_zero m m a
theorem zero_mul (m a : Nat) : mul m 0 a = 0 := op_of_zero m m a
theorem one_mul (hm : Ok m) (ha : a < 2 ^ m) : mul m 1 a = a := op_one hm ha
theorem one_lt (hm : Ok m) : 1 < 2 ^ m := by rcases hm with rfl | rfl <;> decide
theorem two_lt (hm : Ok m) : 2 < 2 ^ m := by rcases hm with rfl | rfl <;> decide
theorem mul_one (hm : Ok m) (ha : a < 2 ^ m) : mul m a 1 = a := by rw [mul_comm hm ha (one_lt hm), one_mul hm ha]
theorem mul_two (hm : Ok m) : mul m a 2 = T m a := by
  rcases hm with rfl | rfl <;> simp [mul, op]
/-! ### Powers -/
def pw (m a : Nat) : Nat → Nat
  | 0 => 1
  | n + 1 => mul m (pw m a n) a
theorem pw_lt (hm : Ok m) (_ha : a < 2 ^ m) (n : Nat) : pw m a n < 2 ^ m := by
  induction n with
  | zero => exact one_lt hm
  | succ n ih => exact mul_lt hm _ ih
theorem pw_add (hm : Ok m) (ha : a < 2 ^ m) (i j : Nat) : pw m a (i + j) = mul m (pw m a i) (pw m a j) := by
  induction j with
  | zero => exact (mul_one hm (pw_lt hm ha i)).symm
  | succ j ih => rw [← Nat.add_assoc]; simp only [pw]; rw [ih, mul_assoc hm (pw_lt hm ha i) (pw_lt hm ha j)]
theorem pw_one (hm : Ok m) (n : Nat) : pw m 1 n = 1 := by
  induction n with
  | zero => rfl
  | succ n ih => simp only [pw, ih]; exact mul_one hm (one_lt hm)
theorem pw_mul (hm : Ok m) (ha : a < 2 ^ m) (i j : Nat) : pw m a (i * j) = pw m (pw m a i) j := by
  induction j with
  | zero => rfl
  | succ j ih => rw [Nat.mul_succ, pw_add hm ha, ih]; rfl
theorem pw_of_mul (hm : Ok m) (ha : a < 2 ^ m) (hb : b < 2 ^ m) (n : Nat) : pw m (mul m a b) n = mul m (pw m a n) (pw m b n) := by
  induction n with
  | zero => exact (mul_one hm (one_lt hm)).symm
  | succ n ih =>
    simp only [pw, ih]
    have h1 := pw_lt hm ha n
    have h2 := pw_lt hm hb n
    rw [mul_assoc hm h1 h2, mul_assoc hm h1 ha, ← mul_assoc hm h2 ha, ← mul_assoc hm ha h2, mul_comm hm h2 ha]
theorem pw_zero (n : Nat) (h : 0 < n) : pw m 0 n = 0 := by
  obtain ⟨n, rfl⟩ : ∃ k, n = k + 1 := ⟨n - 1, by omega⟩
  exact mul_zero m _
/-- by squares; f bounds the rounds -/
def pb (m : Nat) : Nat → Nat → Nat → Nat → Nat
  | 0, out, _, _ => out
  | f + 1, out, a, n => if n = 0 then out else pb m f (if n % 2 = 1 then mul m out a else out) (mul m a a) (n / 2)
theorem pb_eq (hm : Ok m) (f : Nat) : ∀ out a n, out < 2 ^ m → a < 2 ^ m → n < 2 ^ f → pb m f out a n = mul m out (pw m a n) := by
  induction f with
  | zero =>
    intro out a n ho _ h
    have : n = 0 := by simpa using h
    subst this
    exact (mul_one hm ho).symm
  | succ f ih =>
    intro out a n ho ha h
    simp only [pb]
    split
    · rename_i e; subst e; exact (mul_one hm ho).symm
    · have hn : n / 2 < 2 ^ f := by rw [Nat.pow_succ] at h; omega
      have e2 : pw m (mul m a a) (n / 2) = pw m a (2 * (n / 2)) := by
        rw [pw_mul hm ha]; congr 1; simp only [pw]; rw [one_mul hm ha]
      split
      · rename_i h1
        rw [ih _ _ _ (mul_lt hm _ ho) (mul_lt hm _ ha) hn, e2, mul_assoc hm ho ha]
        congr 1
        have : n = 1 + 2 * (n / 2) := by omega
        conv => rhs; rw [this]
        rw [pw_add hm ha]
        congr 1
        simp only [pw]; rw [one_mul hm ha]
      · rename_i h1
        rw [ih _ _ _ ho (mul_lt hm _ ha) hn, e2]
        congr 2
        omega
/-- the order of the group -/
def ord (m : Nat) : Nat := 2 ^ m - 1
theorem pw_two {f n : Nat} (hm : Ok m) (h : n < 2 ^ f) : pw m 2 n = pb m f 1 2 n := by
  rw [pb_eq hm f 1 2 n (one_lt hm) (two_lt hm) h, one_mul hm (pw_lt hm (two_lt hm) n)]
theorem two_ord (hm : Ok m) : pw m 2 (ord m) = 1 := by
  rcases hm with rfl | rfl
  · rw [pw_two (f := 8) (.inl rfl) (by decide)]; decide +kernel
  · rw [pw_two (f := 16) (.inr rfl) (by decide)]; decide +kernel
theorem two_8 : pw 8 2 85 ≠ 1 ∧ pw 8 2 51 ≠ 1 ∧ pw 8 2 15 ≠ 1 := by
  rw [pw_two (f := 8) (.inl rfl) (by decide), pw_two (f := 8) (.inl rfl) (by decide), pw_two (f := 8) (.inl rfl) (by decide)]; decide +kernel
theorem two_16 : pw 16 2 21845 ≠ 1 ∧ pw 16 2 13107 ≠ 1 ∧ pw 16 2 3855 ≠ 1 ∧ pw 16 2 255 ≠ 1 := by
  rw [pw_two (f := 16) (.inr rfl) (by decide), pw_two (f := 16) (.inr rfl) (by decide), pw_two (f := 16) (.inr rfl) (by decide), pw_two (f := 16) (.inr rfl) (by decide)]; decide +kernel
theorem ord_pos (hm : Ok m) : 0 < ord m := by rcases hm with rfl | rfl <;> decide
theorem pw_dvd (hm : Ok m) (ha : a < 2 ^ m) {d n : Nat} (h : pw m a d = 1) (hd : d ∣ n) : pw m a n = 1 := by
  obtain ⟨k, rfl⟩ := hd
  rw [pw_mul hm ha, h, pw_one hm]
theorem pw_gcd (hm : Ok m) (ha : a < 2 ^ m) : ∀ d n : Nat, pw m a d = 1 → pw m a n = 1 → pw m a (Nat.gcd d n) = 1 := by
  intro d n
  induction d, n using Nat.gcd.induction with
  | H0 n => intro _ h; simpa using h
  | H1 d n hd ih =>
    intro h1 h2
    rw [Nat.gcd_rec]
    refine ih ?_ h1
    have e : n = d * (n / d) + n % d := (Nat.div_add_mod n d).symm
    have h3 : pw m a (d * (n / d)) = 1 := pw_dvd hm ha h1 ⟨_, rfl⟩
    rw [e, pw_add hm ha, h3, one_mul hm (pw_lt hm ha _)] at h2
    exact h2
theorem prime_split {q k n : Nat} (hq : ∀ d, d < q + 1 → d ∣ q → d = 1 ∨ d = q) (h0 : 0 < q) (h : k ∣ q * n) : q ∣ k ∨ k ∣ n := by
  have hd := hq (Nat.gcd k q) (by have := Nat.le_of_dvd h0 (Nat.gcd_dvd_right k q); omega) (Nat.gcd_dvd_right k q)
  rcases hd with h1 | h1
  · exact .inr (Nat.Coprime.dvd_of_dvd_mul_left h1 h)
  · exact .inl (h1 ▸ Nat.gcd_dvd_left k q)
theorem pr3 : ∀ d, d < 3 + 1 → d ∣ 3 → d = 1 ∨ d = 3 := by decide
theorem pr5 : ∀ d, d < 5 + 1 → d ∣ 5 → d = 1 ∨ d = 5 := by decide
theorem pr17 : ∀ d, d < 17 + 1 → d ∣ 17 → d = 1 ∨ d = 17 := by decide
set_option maxRecDepth 10000 in
theorem pr257 : ∀ d, d < 257 + 1 → d ∣ 257 → d = 1 ∨ d = 257 := by decide
theorem dvd_part {q k g r : Nat} (hq : 0 < q) (h : g * k = q * r) (hk : q ∣ k) : g ∣ r := by
  obtain ⟨j, rfl⟩ := hk
  refine ⟨j, ?_⟩
  have : q * (g * j) = q * r := by rw [← h, ← Nat.mul_assoc, Nat.mul_comm q g, Nat.mul_assoc]
  exact (Nat.eq_of_mul_eq_mul_left hq this).symm
theorem div_255 {g : Nat} (h : g ∣ 255) (hl : g < 255) : g ∣ 85 ∨ g ∣ 51 ∨ g ∣ 15 := by
  obtain ⟨k, hk⟩ := h
  have h0 : k ∣ 3 * 85 := ⟨g, by rw [Nat.mul_comm k g]; omega⟩
  rcases prime_split pr3 (by omega) h0 with h | h1
  · exact .inl (dvd_part (q := 3) (by omega) (by omega) h)
  rcases prime_split (q := 5) (n := 17) pr5 (by omega) h1 with h | h2
  · exact .inr (.inl (dvd_part (q := 5) (by omega) (by omega) h))
  rcases prime_split (q := 17) (n := 1) pr17 (by omega) h2 with h | h3
  · exact .inr (.inr (dvd_part (q := 17) (by omega) (by omega) h))
  have : k = 1 := Nat.dvd_one.1 h3
  subst this; omega
theorem div_65535 {g : Nat} (h : g ∣ 65535) (hl : g < 65535) : g ∣ 21845 ∨ g ∣ 13107 ∨ g ∣ 3855 ∨ g ∣ 255 := by
  obtain ⟨k, hk⟩ := h
  have h0 : k ∣ 3 * 21845 := ⟨g, by rw [Nat.mul_comm k g]; omega⟩
  rcases prime_split pr3 (by omega) h0 with h | h1
  · exact .inl (dvd_part (q := 3) (by omega) (by omega) h)
  rcases prime_split (q := 5) (n := 4369) pr5 (by omega) h1 with h | h2
  · exact .inr (.inl (dvd_part (q := 5) (by omega) (by omega) h))
  rcases prime_split (q := 17) (n := 257) pr17 (by omega) h2 with h | h3
  · exact .inr (.inr (.inl (dvd_part (q := 17) (by omega) (by omega) h)))
  rcases prime_split (q := 257) (n := 1) pr257 (by omega) h3 with h | h4
  · exact .inr (.inr (.inr (dvd_part (q := 257) (by omega) (by omega) h)))
  have : k = 1 := Nat.dvd_one.1 h4
  subst this; omega
/-- 2 is primitive -/
theorem two_prim (hm : Ok m) {d : Nat} (h0 : 0 < d) (hl : d < ord m) : pw m 2 d ≠ 1 := by
  intro h
  have hg := pw_gcd hm (two_lt hm) d (ord m) h (two_ord hm)
  have hgl : Nat.gcd d (ord m) < ord m := Nat.lt_of_le_of_lt (Nat.le_of_dvd h0 (Nat.gcd_dvd_left _ _)) hl
  have hgd : Nat.gcd d (ord m) ∣ ord m := Nat.gcd_dvd_right _ _
  generalize Nat.gcd d (ord m) = g at *
  rcases hm with rfl | rfl
  · rcases div_255 (g := g) hgd hgl with h | h | h
    · exact two_8.1 (pw_dvd (.inl rfl) (by decide) hg h)
    · exact two_8.2.1 (pw_dvd (.inl rfl) (by decide) hg h)
    · exact two_8.2.2 (pw_dvd (.inl rfl) (by decide) hg h)
  · rcases div_65535 (g := g) hgd hgl with h | h | h | h
    · exact two_16.1 (pw_dvd (.inr rfl) (by decide) hg h)
    · exact two_16.2.1 (pw_dvd (.inr rfl) (by decide) hg h)
    · exact two_16.2.2.1 (pw_dvd (.inr rfl) (by decide) hg h)
    · exact two_16.2.2.2 (pw_dvd (.inr rfl) (by decide) hg h)
theorem two_ne_zero (hm : Ok m) (i : Nat) (h : i ≤ ord m) : pw m 2 i ≠ 0 := by
  intro e
  have := two_ord hm
  rw [show ord m = i + (ord m - i) by omega, pw_add hm (two_lt hm), e, zero_mul] at this
  omega
theorem two_inj (hm : Ok m) {i j : Nat} (hj : j < ord m) (hij : i < j) : pw m 2 i ≠ pw m 2 j := by
  intro e
  have h2 := two_lt hm
  refine two_prim hm (d := ord m - j + i) (by omega) (by omega) ?_
  rw [pw_add hm h2, e, ← pw_add hm h2, show ord m - j + j = ord m by omega, two_ord hm]
/-- Pigeons. -/
theorem onto_of_inj (n : Nat) : ∀ f : Nat → Nat, (∀ i, i < n → f i < n) → (∀ i j, j < n → i < j → f i ≠ f j) → ∀ y, y < n → ∃ i, i < n ∧ f i = y := by
  induction n with
  | zero => intro f _ _ y hy; omega
  | succ n ih =>
    intro f hf hi y hy
    by_cases hn : f n = n
    · by_cases e : y = n
      · exact ⟨n, by omega, by omega⟩
      · obtain ⟨i, h1, h2⟩ := ih f (fun i h => by
          have := hf i (by omega)
          have := hi i n (by omega) h
          omega) (fun i j h k => hi i j (by omega) k) y (by omega)
        exact ⟨i, by omega, h2⟩
    · have hfn := hf n (by omega)
      have key : ∀ i, i < n → (if f i = n then f n else f i) < n := fun i h => by
        have := hf i (by omega)
        split <;> omega
      have inj : ∀ i j, j < n → i < j → (if f i = n then f n else f i) ≠ (if f j = n then f n else f j) := fun i j h k => by
        have h1 := hi i j (by omega) k
        have h2 := hi i n (by omega) (by omega)
        have h3 := hi j n (by omega) (by omega)
        split <;> split <;> omega
      by_cases e : y = n
      · -- who is sent to n? the value f n must come from elsewhere
        obtain ⟨i, h1, h2⟩ := ih _ key inj (f n) (by omega)
        have h3 := hi i n (by omega) h1
        refine ⟨i, by omega, ?_⟩
        split at h2
        · omega
        · omega
      · by_cases e2 : y = f n
        · exact ⟨n, by omega, e2.symm⟩
        · obtain ⟨i, h1, h2⟩ := ih _ key inj y (by omega)
          refine ⟨i, by omega, ?_⟩
          split at h2
          · omega
          · exact h2
/-- every element but 0 is a power of 2 -/
theorem two_gen (hm : Ok m) (ha : a < 2 ^ m) (h0 : a ≠ 0) : ∃ i, i < ord m ∧ pw m 2 i = a := by
  have hp : 2 ^ m = ord m + 1 := by rcases hm with rfl | rfl <;> decide
  obtain ⟨i, h1, h2⟩ := onto_of_inj (ord m) (fun i => pw m 2 i - 1) (fun i h => by
    have := pw_lt hm (two_lt hm) i
    have := two_ne_zero hm i (by omega)
    show pw m 2 i - 1 < ord m
    omega) (fun i j h k => by
    have := two_inj hm h k
    have := two_ne_zero hm i (by omega)
    have := two_ne_zero hm j (by omega)
    show pw m 2 i - 1 ≠ pw m 2 j - 1
    omega) (a - 1) (by omega)
  refine ⟨i, h1, ?_⟩
  have := two_ne_zero hm i (by omega)
  have h3 : pw m 2 i - 1 = a - 1 := h2
  omega
theorem pw_ord (hm : Ok m) (ha : a < 2 ^ m) (h0 : a ≠ 0) : pw m a (ord m) = 1 := by
  obtain ⟨i, _, rfl⟩ := two_gen hm ha h0
  rw [← pw_mul hm (two_lt hm), Nat.mul_comm, pw_mul hm (two_lt hm), two_ord hm, pw_one hm]
/-- the inverse -/
def inv (m a : Nat) : Nat := pw m a (2 ^ m - 2)
theorem inv_lt (hm : Ok m) (ha : a < 2 ^ m) : inv m a < 2 ^ m := pw_lt hm ha _
theorem inv_mul (hm : Ok m) (ha : a < 2 ^ m) (h0 : a ≠ 0) : mul m (inv m a) a = 1 := by
  have := pw_ord hm ha h0
  rw [show ord m = (2 ^ m - 2) + 1 by rcases hm with rfl | rfl <;> decide] at this
  exact this
theorem mul_inv (hm : Ok m) (ha : a < 2 ^ m) (h0 : a ≠ 0) : mul m a (inv m a) = 1 := by
  rw [mul_comm hm ha (inv_lt hm ha), inv_mul hm ha h0]
theorem inv_unique (hm : Ok m) (ha : a < 2 ^ m) (hb : b < 2 ^ m) (h : mul m b a = 1) : b = inv m a := by
  have h0 : a ≠ 0 := by rintro rfl; rw [mul_zero] at h; omega
  have : mul m (mul m b a) (inv m a) = b := by rw [mul_assoc hm hb ha, mul_inv hm ha h0, mul_one hm hb]
  rw [← this, h, one_mul hm (inv_lt hm ha)]
theorem no_zero_div (hm : Ok m) (ha : a < 2 ^ m) (hb : b < 2 ^ m) (h : mul m a b = 0) : a = 0 ∨ b = 0 := by
  by_cases h0 : b = 0
  · exact .inr h0
  · left
    have : mul m (mul m a b) (inv m b) = a := by rw [mul_assoc hm ha hb, mul_inv hm hb h0, mul_one hm ha]
    rw [← this, h, zero_mul]
theorem cancel (hm : Ok m) (ha : a < 2 ^ m) (hb : b < 2 ^ m) (h0 : b ≠ 0) : mul m (mul m a b) (inv m b) = a := by
  rw [mul_assoc hm ha hb, mul_inv hm hb h0, mul_one hm ha]
theorem inv_ne (hm : Ok m) (ha : a < 2 ^ m) (h0 : a ≠ 0) : inv m a ≠ 0 := by
  intro e
  have := inv_mul hm ha h0
  rw [e, zero_mul] at this
  omega
end Gf
/- Plain linear algebra over a field in which x + x = 0: sums, products, factorizations, ranks. -/
set_option linter.unusedSectionVars false
namespace La
class Fld (K : Type) where
  add : K → K → K
  mul : K → K → K
  zero : K
  one : K
  inv : K → K
  add_assoc : ∀ a b c, add (add a b) c = add a (add b c)
  add_comm : ∀ a b, add a b = add b a
  add_zero : ∀ a, add a zero = a
  add_self : ∀ a, add a a = zero
  mul_assoc : ∀ a b c, mul (mul a b) c = mul a (mul b c)
  mul_comm : ∀ a b, mul a b = mul b a
  mul_add : ∀ a b c, mul a (add b c) = add (mul a b) (mul a c)
  mul_one : ∀ a, mul a one = a
  mul_inv : ∀ a, a ≠ zero → mul a (inv a) = one
  one_ne : one ≠ zero
section
variable {K : Type} [Fld K]
instance : Add K := ⟨Fld.add⟩
instance : Mul K := ⟨Fld.mul⟩
instance : OfNat K 0 := ⟨Fld.zero⟩
instance : OfNat K 1 := ⟨Fld.one⟩
theorem add_assoc (a b c : K) : a + b + c = a + (b + c) := Fld.add_assoc a b c
theorem add_comm (a b : K) : a + b = b + a := Fld.add_comm a b
theorem add_zero (a : K) : a + 0 = a := Fld.add_zero a
theorem zero_add (a : K) : 0 + a = a := by rw [add_comm, add_zero]
theorem add_self (a : K) : a + a = 0 := Fld.add_self a
theorem mul_assoc (a b c : K) : a * b * c = a * (b * c) := Fld.mul_assoc a b c
theorem mul_comm (a b : K) : a * b = b * a := Fld.mul_comm a b
theorem mul_add (a b c : K) : a * (b + c) = a * b + a * c := Fld.mul_add a b c
theorem add_mul (a b c : K) : (a + b) * c = a * c + b * c := by rw [mul_comm, mul_add, mul_comm c, mul_comm c]
theorem mul_one (a : K) : a * 1 = a := Fld.mul_one a
theorem one_mul (a : K) : 1 * a = a := by rw [mul_comm, mul_one]
theorem mul_inv (a : K) (h : a ≠ 0) : a * Fld.inv a = 1 := Fld.mul_inv a h
theorem one_ne : (1 : K) ≠ 0 := Fld.one_ne
theorem add_ac (a b c d : K) : (a + b) + (c + d) = (a + c) + (b + d) := by
  rw [add_assoc, add_assoc, ← add_assoc b, add_comm b c, add_assoc c]
theorem add_cancel {a b : K} (h : a + b = 0) : a = b := by
  have : a + b + b = b := by rw [h, zero_add]
  rw [add_assoc, add_self, add_zero] at this
  exact this
theorem add_add_cancel (a b : K) : a + b + b = a := by rw [add_assoc, add_self, add_zero]
theorem mul_zero (a : K) : a * 0 = 0 := by
  have : a * 0 + a * 0 = a * 0 := by rw [← mul_add, add_zero]
  rw [add_self] at this; exact this.symm
theorem zero_mul (a : K) : 0 * a = 0 := by rw [mul_comm, mul_zero]
theorem mul_left_comm (a b c : K) : a * (b * c) = b * (a * c) := by rw [← mul_assoc, mul_comm a b, mul_assoc]
/-- the sum of f 0, .., f (n - 1) -/
def sum (n : Nat) (f : Nat → K) : K := match n with
  | 0 => 0
  | n + 1 => sum n f + f n
theorem sum_succ (n : Nat) (f : Nat → K) : sum (n + 1) f = sum n f + f n := rfl
theorem sum_congr {n : Nat} {f g : Nat → K} (h : ∀ i, i < n → f i = g i) : sum n f = sum n g := by
  induction n with
  | zero => rfl
  | succ n ih => rw [sum_succ, sum_succ, ih (fun i hi => h i (by omega)), h n (by omega)]
theorem sum_zero {n : Nat} {f : Nat → K} (h : ∀ i, i < n → f i = 0) : sum n f = 0 := by
  induction n with
  | zero => rfl
  | succ n ih => rw [sum_succ, ih (fun i hi => h i (by omega)), h n (by omega), add_zero]
theorem sum_add (n : Nat) (f g : Nat → K) : sum n (fun i => f i + g i) = sum n f + sum n g := by
  induction n with
  | zero => exact (add_zero 0).symm
  | succ n ih => simp only [sum_succ]; rw [ih, add_ac]
theorem mul_sum (n : Nat) (a : K) (f : Nat → K) : a * sum n f = sum n (fun i => a * f i) := by
  induction n with
  | zero => exact mul_zero a
  | succ n ih => simp only [sum_succ]; rw [mul_add, ih]
theorem sum_mul (n : Nat) (a : K) (f : Nat → K) : sum n f * a = sum n (fun i => f i * a) := by
  rw [mul_comm, mul_sum]; exact sum_congr fun i _ => mul_comm _ _
theorem sum_swap (n k : Nat) (f : Nat → Nat → K) : sum n (fun i => sum k (fun j => f i j)) = sum k (fun j => sum n (fun i => f i j)) := by
  induction n with
  | zero => exact (sum_zero fun _ _ => rfl).symm
  | succ n ih => simp only [sum_succ]; rw [ih, sum_add]
theorem sum_one {n : Nat} (f : Nat → K) (j : Nat) (hj : j < n) (h : ∀ i, i < n → i ≠ j → f i = 0) : sum n f = f j := by
  induction n with
  | zero => omega
  | succ n ih =>
    rw [sum_succ]
    by_cases e : j = n
    · subst e; rw [sum_zero (fun i hi => h i (by omega) (by omega)), zero_add]
    · rw [ih (by omega) (fun i hi => h i (by omega)), h n (by omega) (fun k => e k.symm), add_zero]
theorem sum_more {n k : Nat} (f : Nat → K) (h : ∀ i, n ≤ i → i < n + k → f i = 0) : sum (n + k) f = sum n f := by
  induction k with
  | zero => rfl
  | succ k ih => rw [← Nat.add_assoc, sum_succ, ih (fun i h1 h2 => h i h1 (by omega)), h _ (by omega) (by omega), add_zero]
theorem sum_le {n k : Nat} (hk : n ≤ k) (f : Nat → K) (h : ∀ i, n ≤ i → i < k → f i = 0) : sum k f = sum n f := by
  obtain ⟨d, rfl⟩ := Nat.exists_eq_add_of_le hk
  exact sum_more f h
abbrev Mat (K : Type) := Nat → Nat → K
/-- the product over n -/
def mm (n : Nat) (A B : Mat K) : Mat K := fun i j => sum n fun k => A i k * B k j
def one : Mat K := fun i j => if i = j then 1 else 0
def tr (A : Mat K) : Mat K := fun i j => A j i
/-- equality on r rows and c columns -/
def Eq (r c : Nat) (A B : Mat K) : Prop := ∀ i j, i < r → j < c → A i j = B i j
theorem Eq.rfl' {r c : Nat} {A : Mat K} : Eq r c A A := fun _ _ _ _ => rfl
theorem Eq.symm {r c : Nat} {A B : Mat K} (h : Eq r c A B) : Eq r c B A := fun i j hi hj => (h i j hi hj).symm
theorem Eq.trans {r c : Nat} {A B C : Mat K} (h : Eq r c A B) (k : Eq r c B C) : Eq r c A C := fun i j hi hj => (h i j hi hj).trans (k i j hi hj)
theorem mm_congr {r n c : Nat} {A A' B B' : Mat K} (h : Eq r n A A') (k : Eq n c B B') : Eq r c (mm n A B) (mm n A' B') :=
  fun i j hi hj => sum_congr fun l hl => by rw [h i l hi hl, k l j hl hj]
theorem mm_assoc (n k : Nat) (A B C : Mat K) : mm k (mm n A B) C = mm n A (mm k B C) := by
  funext i j
  simp only [mm]
  rw [sum_congr (fun l _ => sum_mul n (C l j) _), sum_swap]
  exact sum_congr fun l _ => by rw [mul_sum]; exact sum_congr fun p _ => mul_assoc _ _ _
theorem tr_mm (n : Nat) (A B : Mat K) : tr (mm n A B) = mm n (tr B) (tr A) := by
  funext i j; exact sum_congr fun l _ => mul_comm _ _
theorem mm_one {r n : Nat} (A : Mat K) : Eq r n (mm n A one) A := fun i j _ hj => by
  simp only [mm]
  rw [sum_one (n := n) _ j hj (fun l _ hl => by simp [one, hl, mul_zero])]
  simp [one, mul_one]
theorem one_mm {n c : Nat} (A : Mat K) : Eq n c (mm n one A) A := fun i j hi _ => by
  simp only [mm]
  rw [sum_one (n := n) _ i hi (fun l _ hl => by simp [one, Ne.symm hl, zero_mul])]
  simp [one, one_mul]
/-! ### Rank by factorizations -/
/-- A is a product over r -/
def Fac (n c r : Nat) (A : Mat K) : Prop := ∃ P Q : Mat K, Eq n c A (mm r P Q)
/-- the unit of r rows is a product with A in the middle -/
def Cof (n c r : Nat) (A : Mat K) : Prop := ∃ L V : Mat K, Eq r r (mm c (mm n L A) V) one
def Rank (n c : Nat) (A : Mat K) (r : Nat) : Prop := Fac n c r A ∧ Cof n c r A
/-- more unknowns than equations -/
theorem homog (s : Nat) : ∀ (r : Nat) (Y : Mat K), s < r → ∃ z : Nat → K, (∃ j, j < r ∧ z j ≠ 0) ∧ ∀ i, i < s → sum r (fun j => Y i j * z j) = 0 := by
  induction s with
  | zero => intro r Y h; exact ⟨fun _ => 1, ⟨0, h, one_ne⟩, fun i hi => by omega⟩
  | succ s ih =>
    intro r Y h
    obtain ⟨r, rfl⟩ : ∃ q, r = q + 1 := ⟨r - 1, by omega⟩
    -- is there an entry of row s that is not 0?
    by_cases hz : ∃ p, p < r + 1 ∧ Y s p ≠ 0
    · obtain ⟨p, hp, hne⟩ := hz
      -- the others: index j of r counts those but p
      obtain ⟨sk, hsk⟩ : ∃ sk : Nat → Nat, sk = fun j => if j < p then j else j + 1 := ⟨_, rfl⟩
      obtain ⟨z, ⟨j0, hj0, hzj⟩, hzs⟩ := ih r (fun i j => Y i (sk j) + Y i p * (Fld.inv (Y s p) * Y s (sk j))) (by omega)
      -- the value at p
      obtain ⟨v, hv⟩ : ∃ v : K, v = Fld.inv (Y s p) * sum r (fun j => Y s (sk j) * z j) := ⟨_, rfl⟩
      obtain ⟨y, hy⟩ : ∃ y : Nat → K, y = fun j => if j < p then z j else if j = p then v else z (j - 1) := ⟨_, rfl⟩
      have key : ∀ f : Nat → K, sum (r + 1) f = sum r (fun j => f (sk j)) + f p := by
        intro f
        clear hzs hv
        have aux : ∀ q, p ≤ q → sum (q + 1) f = sum q (fun j => f (sk j)) + f p := by
          intro q
          induction q with
          | zero =>
            intro h0
            have : p = 0 := by omega
            subst this; rfl
          | succ q ih2 =>
            intro h0
            by_cases e : p = q + 1
            · subst e
              rw [sum_succ]
              congr 1
              exact sum_congr fun j hj => by rw [hsk]; simp [hj]
            · rw [sum_succ, ih2 (by omega), sum_succ, add_assoc, add_assoc, add_comm (f p)]
              congr 2
              rw [hsk]
              have : ¬ q < p := by omega
              simp [this]
        exact aux r (by omega)
      have ysk : ∀ j, y (sk j) = z j := by
        intro j
        rw [hy, hsk]
        by_cases hj : j < p
        · simp [hj]
        · have h1 : ¬ j + 1 < p := by omega
          have h2 : ¬ j + 1 = p := by omega
          simp [hj, h1, h2]
      have yp : y p = v := by rw [hy]; simp
      have tot : ∀ i, sum (r + 1) (fun j => Y i j * y j) = sum r (fun j => Y i (sk j) * z j) + Y i p * v := by
        intro i
        rw [key, yp]
        congr 1
        exact sum_congr fun j _ => by rw [ysk]
      refine ⟨y, ⟨sk j0, ?_, by rw [ysk]; exact hzj⟩, ?_⟩
      · rw [hsk]; show (if j0 < p then j0 else j0 + 1) < r + 1; split <;> omega
      · intro i hi
        rw [tot i]
        by_cases e : i = s
        · subst e
          rw [hv, ← mul_assoc, mul_inv _ hne, one_mul, add_self]
        · have := hzs i (by omega)
          rw [sum_congr (g := fun j => Y i (sk j) * z j + Y i p * (Fld.inv (Y s p) * (Y s (sk j) * z j))) (fun j _ => by rw [add_mul, mul_assoc (Y i p), mul_assoc (Fld.inv _)]), sum_add] at this
          rw [← this]
          congr 1
          rw [hv, mul_sum, mul_sum]
    · have hz' : ∀ p, p < r + 1 → Y s p = 0 := fun p hp => Classical.byContradiction fun hn => hz ⟨p, hp, hn⟩
      obtain ⟨z, hz1, hz2⟩ := ih (r + 1) Y (by omega)
      refine ⟨z, hz1, fun i hi => ?_⟩
      by_cases e : i = s
      · subst e; exact sum_zero fun j hj => by rw [hz' j hj, zero_mul]
      · exact hz2 i (by omega)
theorem unit_le {r s : Nat} {X Y : Mat K} (h : Eq r r (mm s X Y) one) : r ≤ s := by
  rcases Nat.lt_or_ge s r with hl | hl
  · exfalso
    obtain ⟨z, ⟨j, hj, hne⟩, h0⟩ := homog s r Y hl
    apply hne
    have e1 : sum r (fun l => mm s X Y j l * z l) = z j := by
      rw [sum_congr (fun l hl => by rw [h j l hj hl])]
      rw [sum_one (n := r) _ j hj (fun l _ hl => by simp [one, Ne.symm hl, zero_mul])]
      simp [one, one_mul]
    rw [← e1]
    have e2 : sum r (fun l => mm s X Y j l * z l) = sum s (fun k => X j k * sum r (fun l => Y k l * z l)) := by
      simp only [mm]
      rw [sum_congr (fun l _ => sum_mul s (z l) _), sum_swap]
      exact sum_congr fun k _ => by rw [mul_sum]; exact sum_congr fun l _ => mul_assoc _ _ _
    rw [e2]
    exact sum_zero fun k hk => by rw [h0 k hk, mul_zero]
  · exact hl
theorem Cof.le {n c r s : Nat} {A : Mat K} (h : Cof n c r A) (k : Fac n c s A) : r ≤ s := by
  obtain ⟨L, V, hLV⟩ := h
  obtain ⟨P, Q, hPQ⟩ := k
  refine unit_le (X := mm n L P) (Y := mm c Q V) ?_
  refine Eq.trans ?_ hLV
  have e : mm s (mm n L P) (mm c Q V) = mm c (mm n L (mm s P Q)) V := by
    rw [mm_assoc, mm_assoc, mm_assoc]
  rw [e]
  exact mm_congr (mm_congr Eq.rfl' hPQ.symm) Eq.rfl'
theorem Rank.unique {n c r s : Nat} {A : Mat K} (h : Rank n c A r) (k : Rank n c A s) : r = s :=
  Nat.le_antisymm (h.2.le k.1) (k.2.le h.1)
theorem Rank.congr {n c r : Nat} {A B : Mat K} (e : Eq n c A B) (h : Rank n c A r) : Rank n c B r := by
  obtain ⟨⟨P, Q, h1⟩, L, V, h2⟩ := h
  exact ⟨⟨P, Q, e.symm.trans h1⟩, L, V, (mm_congr (mm_congr Eq.rfl' e.symm) Eq.rfl').trans h2⟩
theorem Eq.tr {r c : Nat} {A B : Mat K} (h : Eq r c A B) : Eq c r (tr A) (tr B) := fun i j hi hj => h j i hj hi
theorem tr_one : tr (one : Mat K) = one := by
  funext i j; simp only [La.tr, one]
  by_cases e : i = j
  · simp [e]
  · simp [e, Ne.symm e]
theorem Rank.tr {n c r : Nat} {A : Mat K} (h : Rank n c A r) : Rank c n (tr A) r := by
  obtain ⟨⟨P, Q, h1⟩, L, V, h2⟩ := h
  refine ⟨⟨La.tr Q, La.tr P, ?_⟩, La.tr V, La.tr L, ?_⟩
  · have := h1.tr; rwa [tr_mm] at this
  · have := h2.tr
    rw [tr_mm, tr_mm, tr_one] at this
    rw [mm_assoc]; exact this
theorem Fac.mul_right {n c d r : Nat} {A B : Mat K} (h : Fac n c r A) : Fac n d r (mm c A B) := by
  obtain ⟨P, Q, h1⟩ := h
  exact ⟨P, mm c Q B, by rw [← mm_assoc]; exact mm_congr h1 Eq.rfl'⟩
theorem Fac.mul_left {n c d r : Nat} {A B : Mat K} (h : Fac c d r B) : Fac n d r (mm c A B) := by
  obtain ⟨P, Q, h1⟩ := h
  exact ⟨mm c A P, Q, by rw [mm_assoc]; exact mm_congr Eq.rfl' h1⟩
theorem Rank.mul_le {n c d r s t : Nat} {A B : Mat K} (ha : Rank n c A r) (hb : Rank c d B s) (h : Rank n d (mm c A B) t) : t ≤ r ∧ t ≤ s :=
  ⟨h.2.le ha.1.mul_right, h.2.le hb.1.mul_left⟩
/-! ### Reduced row echelon form -/
/-- R is U A, U can be undone; the columns p 0, .., p (r - 1) of R are those of the unit, the rows from r on are 0. -/
structure Red (n c : Nat) (A R : Mat K) (r : Nat) (p : Nat → Nat) (U W : Mat K) : Prop where
  ua : Eq n c (mm n U A) R
  wu : Eq n n (mm n W U) one
  rn : r ≤ n
  pc : ∀ j, j < r → p j < c
  unit : ∀ i j, i < n → j < r → R i (p j) = if i = j then 1 else 0
  zero : ∀ i j, r ≤ i → i < n → j < c → R i j = 0
theorem Red.wr {n c : Nat} {A R U W : Mat K} {r : Nat} {p : Nat → Nat} (h : Red n c A R r p U W) : Eq n c (mm n W R) A := by
  refine (mm_congr Eq.rfl' h.ua.symm).trans ?_
  rw [← mm_assoc]
  exact (mm_congr h.wu Eq.rfl').trans (one_mm A)
theorem Red.rank {n c : Nat} {A R U W : Mat K} {r : Nat} {p : Nat → Nat} (h : Red n c A R r p U W) : Rank n c A r := by
  refine ⟨⟨W, R, ?_⟩, U, fun k j => if k = p j then 1 else 0, ?_⟩
  · refine h.wr.symm.trans ?_
    intro i j _ hj
    exact sum_le h.rn _ fun k h1 h2 => by rw [h.zero k j h1 h2 hj, mul_zero]
  · intro i j hi hj
    have h1 : mm c (mm n U A) (fun k j => if k = p j then 1 else 0) i j = mm n U A i (p j) := by
      show sum c (fun k => mm n U A i k * (if k = p j then 1 else 0)) = _
      rw [sum_one (n := c) _ (p j) (h.pc j hj) (fun l _ hl => by simp [hl, mul_zero])]
      simp [mul_one]
    rw [h1, h.ua i (p j) (by have := h.rn; omega) (h.pc j hj), h.unit i j (by have := h.rn; omega) hj]
    rfl
end
end La
/- Matrices over the fields with 2^8 and 2^16 elements as functions of row and column, and as the lists of their cells; elimination; no program in sight. -/
set_option linter.unusedVariables false
set_option linter.unusedSectionVars false
namespace Mx
abbrev Fn := Nat → Nat → Nat
/-- the cells of a matrix of r rows and c columns -/
def cells (r c : Nat) (f : Fn) : List Int := (List.range (r * c)).map fun n => ((f (n / c) (n % c) : Nat) : Int)
/-- the element of a list of cells -/
def el (c : Nat) (l : List Int) : Fn := fun i j => (l.getD (i * c + j) 0).toNat
theorem cells_len (r c : Nat) (f : Fn) : (cells r c f).length = r * c := by simp [cells]
theorem idx_lt {r c i j : Nat} (hi : i < r) (hj : j < c) : i * c + j < r * c := by
  have h : (i + 1) * c ≤ r * c := Nat.mul_le_mul_right c hi
  rw [Nat.succ_mul] at h
  omega
theorem idx_div {c i j : Nat} (hj : j < c) : (i * c + j) / c = i := by
  rw [Nat.mul_comm, Nat.mul_add_div (by omega), Nat.div_eq_of_lt hj]; rfl
theorem idx_mod {c i j : Nat} (hj : j < c) : (i * c + j) % c = j := by
  rw [Nat.mul_comm, Nat.mul_add_mod, Nat.mod_eq_of_lt hj]
theorem idx_inj {c i j i' j' : Nat} (hj : j < c) (hj' : j' < c) (h : i * c + j = i' * c + j') : i = i' ∧ j = j' := by
  have h1 := idx_div (i := i) hj
  have h2 := idx_mod (i := i) hj
  rw [h] at h1 h2
  rw [idx_div hj'] at h1
  rw [idx_mod hj'] at h2
  exact ⟨h1.symm, h2.symm⟩
theorem idx_of {r c n : Nat} (h : n < r * c) : n / c < r ∧ n % c < c ∧ n / c * c + n % c = n := by
  have hc : 0 < c := by
    rcases Nat.eq_zero_or_pos c with rfl | h'
    · simp at h
    · exact h'
  refine ⟨Nat.div_lt_of_lt_mul (by rwa [Nat.mul_comm] at h), Nat.mod_lt _ hc, ?_⟩
  have := Nat.div_add_mod n c
  rw [Nat.mul_comm] at this
  exact this
theorem cells_getD {r c i j : Nat} (f : Fn) (hi : i < r) (hj : j < c) : (cells r c f).getD (i * c + j) 0 = ((f i j : Nat) : Int) := by
  have h := idx_lt hi hj
  simp [cells, List.getD, h, idx_div hj, idx_mod hj]
theorem el_cells {r c i j : Nat} (f : Fn) (hi : i < r) (hj : j < c) : el c (cells r c f) i j = f i j := by
  unfold el
  rw [cells_getD f hi hj]
  rfl
theorem cells_congr {r c : Nat} {f g : Fn} (h : ∀ i j, i < r → j < c → f i j = g i j) : cells r c f = cells r c g := by
  unfold cells
  apply List.map_congr_left
  intro n hn
  have := idx_of (List.mem_range.1 hn)
  rw [h _ _ this.1 this.2.1]
theorem cells_ext {r c : Nat} {f : Fn} {l : List Int} (hl : l.length = r * c) (h : ∀ i j, i < r → j < c → l.getD (i * c + j) 0 = ((f i j : Nat) : Int)) : l = cells r c f := by
  apply List.ext_getElem (by rw [hl, cells_len])
  intro n h1 h2
  have hn : n < r * c := by rw [← hl]; exact h1
  obtain ⟨a1, a2, a3⟩ := idx_of hn
  have e := h _ _ a1 a2
  rw [a3] at e
  rw [List.getD_eq_getElem?_getD, List.getElem?_eq_getElem h1] at e
  simp only [Option.getD_some] at e
  rw [e]
  simp [cells]
theorem cells_of {r c : Nat} {l : List Int} (hl : l.length = r * c) (h0 : ∀ x ∈ l, 0 ≤ x) : l = cells r c (el c l) := by
  refine cells_ext hl fun i j hi hj => ?_
  have hlt : i * c + j < l.length := by rw [hl]; exact idx_lt hi hj
  unfold el
  rw [Int.toNat_of_nonneg]
  rw [List.getD_eq_getElem?_getD, List.getElem?_eq_getElem hlt]
  exact h0 _ (List.getElem_mem hlt)
theorem cells_inj {r c : Nat} {f g : Fn} (h : cells r c f = cells r c g) {i j : Nat} (hi : i < r) (hj : j < c) : f i j = g i j := by
  have := congrArg (fun l => el c l i j) h
  simpa [el_cells _ hi hj] using this
/-- one element turned -/
def upd (f : Fn) (i j x : Nat) : Fn := fun i' j' => if i' = i ∧ j' = j then x else f i' j'
theorem cells_set {r c i j : Nat} (f : Fn) (x : Nat) (hi : i < r) (hj : j < c) : (cells r c f).set (i * c + j) (x : Int) = cells r c (upd f i j x) := by
  refine cells_ext (by rw [List.length_set, cells_len]) fun i' j' hi' hj' => ?_
  have hlt := idx_lt hi' hj'
  by_cases e : i' * c + j' = i * c + j
  · obtain ⟨rfl, rfl⟩ := idx_inj hj' hj e
    simp [upd, List.getD, cells_len, hlt]
  · have hne : ¬ (i' = i ∧ j' = j) := fun h => e (by rw [h.1, h.2])
    have := cells_getD f hi' hj'
    simp only [List.getD] at this ⊢
    rw [List.getElem?_set, if_neg (Ne.symm e), this]
    simp [upd, hne]
theorem cells_mem {r c : Nat} {f : Fn} {x : Int} (h : x ∈ cells r c f) : ∃ i j, i < r ∧ j < c ∧ x = (f i j : Int) := by
  unfold cells at h
  obtain ⟨n, hn, rfl⟩ := List.mem_map.1 h
  have := idx_of (List.mem_range.1 hn)
  exact ⟨_, _, this.1, this.2.1, rfl⟩
/-- is a matrix of r rows and c columns with elements below 2^m? -/
def In (m r c : Nat) (f : Fn) : Prop := ∀ i j, i < r → j < c → f i j < 2 ^ m
/-! ### products -/
/-- the sum over n of A i k * B k j -/
def dot (m : Nat) (n : Nat) (A B : Fn) : Fn := fun i j => match n with
  | 0 => 0
  | n + 1 => dot m n A B i j ^^^ Gf.mul m (A i n) (B n j)
theorem dot_lt {m : Nat} (hm : Gf.Ok m) (n : Nat) {A B : Fn} {i : Nat} (j : Nat) (h : ∀ k, k < n → A i k < 2 ^ m) : dot m n A B i j < 2 ^ m := by
  induction n with
  | zero => exact Nat.two_pow_pos m
  | succ n ih => exact Nat.xor_lt_two_pow (ih fun k hk => h k (by omega)) (Gf.mul_lt hm _ (h n (by omega)))
theorem dot_congr {m n : Nat} {A A' B B' : Fn} {i j : Nat} (h : ∀ k, k < n → A i k = A' i k) (h' : ∀ k, k < n → B k j = B' k j) : dot m n A B i j = dot m n A' B' i j := by
  induction n with
  | zero => rfl
  | succ n ih =>
    show dot m n A B i j ^^^ _ = dot m n A' B' i j ^^^ _
    rw [ih (fun k hk => h k (by omega)) (fun k hk => h' k (by omega)), h n (by omega), h' n (by omega)]
/-! ### elimination -/
/-- the first from i on, of n, that meets P; else the first behind them -/
def scan (P : Nat → Bool) : Nat → Nat → Nat
  | 0, i => i
  | n + 1, i => if P i then i else scan P n (i + 1)
theorem scan_spec (P : Nat → Bool) (n : Nat) : ∀ i, i ≤ scan P n i ∧ scan P n i ≤ i + n ∧ (scan P n i < i + n → P (scan P n i) = true) ∧ (∀ k, i ≤ k → k < scan P n i → P k = false) := by
  induction n with
  | zero => intro i; exact ⟨Nat.le_refl _, Nat.le_refl _, fun h => absurd h (Nat.lt_irrefl _), fun k h1 h2 => by simp only [scan] at h2; omega⟩
  | succ n ih =>
    intro i
    simp only [scan]
    by_cases h : P i = true
    · rw [if_pos h]
      exact ⟨Nat.le_refl _, by omega, fun _ => h, fun k h1 h2 => by omega⟩
    · rw [if_neg h]
      obtain ⟨h1, h2, h3, h4⟩ := ih (i + 1)
      refine ⟨by omega, by omega, fun hl => h3 (by omega), fun k k1 k2 => ?_⟩
      by_cases e : k = i
      · subst e; simpa using h
      · exact h4 k (by omega) k2
/-- one step of the elimination: row p is brought to place q, made 1 at column j, and taken out of the others -/
def pstep (m : Nat) (f : Fn) (q p j : Nat) : Fn := fun i k =>
  if i = q then Gf.mul m (Gf.inv m (f p j)) (f p k)
  else f (if i = p then q else i) k ^^^ Gf.mul m (f (if i = p then q else i) j) (Gf.mul m (Gf.inv m (f p j)) (f p k))
/-- the elimination through n columns from j on -/
def red (m r : Nat) : Nat → Nat → Fn → List Nat → Fn × List Nat
  | 0, _, f, ps => (f, ps)
  | n + 1, j, f, ps =>
    if scan (fun i => f i j != 0) (r - ps.length) ps.length = r then red m r n (j + 1) f ps
    else red m r n (j + 1) (pstep m f ps.length (scan (fun i => f i j != 0) (r - ps.length) ps.length) j) (ps ++ [j])
theorem pstep_lt {m r c q p j : Nat} (hm : Gf.Ok m) {f : Fn} (h : In m r c f) (hq : q < r) (hp : p < r) (hj : j < c) : In m r c (pstep m f q p j) := by
  intro i k hi hk
  unfold pstep
  have h1 : Gf.inv m (f p j) < 2 ^ m := Gf.inv_lt hm (h p j hp hj)
  split
  · exact Gf.mul_lt hm _ h1
  · have hs : (if i = p then q else i) < r := by split <;> assumption
    exact Nat.xor_lt_two_pow (h _ _ hs hk) (Gf.mul_lt hm _ (h _ _ hs hj))
/-! ### the field's elements as a type -/
structure El (m : Nat) where
  v : Nat
  lt : v < 2 ^ m
theorem El.ext {m : Nat} {a b : El m} (h : a.v = b.v) : a = b := by cases a; cases b; cases h; rfl
class OkF (m : Nat) : Prop where
  ok : Gf.Ok m
instance ok8 : OkF 8 := ⟨.inl rfl⟩
instance ok16 : OkF 16 := ⟨.inr rfl⟩
variable {m : Nat} [o : OkF m]
instance fld : La.Fld (El m) where
  add a b := ⟨a.v ^^^ b.v, Nat.xor_lt_two_pow a.lt b.lt⟩
  mul a b := ⟨Gf.mul m a.v b.v, Gf.mul_lt o.ok _ a.lt⟩
  zero := ⟨0, Nat.two_pow_pos m⟩
  one := ⟨1, Gf.one_lt o.ok⟩
  inv a := ⟨Gf.inv m a.v, Gf.inv_lt o.ok a.lt⟩
  add_assoc a b c := El.ext (Nat.xor_assoc _ _ _)
  add_comm a b := El.ext (Nat.xor_comm _ _)
  add_zero a := El.ext (Nat.xor_zero _)
  add_self a := El.ext (Nat.xor_self _)
  mul_assoc a b c := El.ext (Gf.mul_assoc o.ok a.lt b.lt)
  mul_comm a b := El.ext (Gf.mul_comm o.ok a.lt b.lt)
  mul_add a b c := El.ext (Gf.mul_xor _ _ _ _)
  mul_one a := El.ext (Gf.mul_one o.ok a.lt)
  mul_inv a h := El.ext (Gf.mul_inv o.ok a.lt fun e => h (El.ext e))
  one_ne h := absurd (congrArg El.v h) (fun h : (1 : Nat) = 0 => by cases h)
theorem v_add (a b : El m) : (a + b).v = a.v ^^^ b.v := rfl
theorem v_mul (a b : El m) : (a * b).v = Gf.mul m a.v b.v := rfl
theorem v_zero : (0 : El m).v = 0 := rfl
theorem v_one : (1 : El m).v = 1 := rfl
theorem v_inv (a : El m) : (La.Fld.inv a).v = Gf.inv m a.v := rfl
/-- a matrix of numbers as one of elements -/
def up (m : Nat) (f : Fn) : La.Mat (El m) := fun i j => ⟨f i j % 2 ^ m, Nat.mod_lt _ (Nat.two_pow_pos m)⟩
theorem up_v {r c : Nat} {f : Fn} (h : In m r c f) {i j : Nat} (hi : i < r) (hj : j < c) : (up m f i j).v = f i j := Nat.mod_eq_of_lt (h i j hi hj)
theorem up_eq {r c : Nat} {f g : Fn} (h : ∀ i j, i < r → j < c → f i j = g i j) : La.Eq r c (up m f) (up m g) := fun i j hi hj => El.ext (by show f i j % _ = g i j % _; rw [h i j hi hj])
theorem of_up {r c : Nat} {f g : Fn} (hf : In m r c f) (hg : In m r c g) (h : La.Eq r c (up m f) (up m g)) {i j : Nat} (hi : i < r) (hj : j < c) : f i j = g i j := by
  rw [← up_v hf hi hj, ← up_v hg hi hj, h i j hi hj]
theorem up_dot {r n c : Nat} {A B : Fn} (hA : In m r n A) (hB : In m n c B) : La.Eq r c (up m (dot m n A B)) (La.mm n (up m A) (up m B)) := by
  intro i j hi hj
  apply El.ext
  show dot m n A B i j % 2 ^ m = _
  rw [Nat.mod_eq_of_lt (dot_lt o.ok n j fun k hk => hA i k hi hk)]
  have key : ∀ d, d ≤ n → dot m d A B i j = (La.sum d fun k => up m A i k * up m B k j).v := by
    intro d
    induction d with
    | zero => intro _; rfl
    | succ d ih =>
      intro h
      rw [La.sum_succ, v_add, v_mul, ← ih (by omega), up_v hA hi (by omega), up_v hB (by omega) hj]
      rfl
  exact key n (Nat.le_refl n)
end Mx
/- What elimination comes to: a product with a matrix that can be undone; ranks, solutions, inverses; no program in sight. -/
set_option linter.unusedVariables false
set_option linter.unusedSectionVars false
namespace Mx
open La
section
variable {K : Type} [Fld K]
/-- row p to place q, times s, and g i times it added to row i -/
def T (q p : Nat) (s : K) (g : Nat → K) (X : Mat K) : Mat K := fun i k =>
  if i = q then s * X p k else X (if i = p then q else i) k + g i * (s * X p k)
/-- its undoing -/
def T' (q p : Nat) (s' : K) (g : Nat → K) (Y : Mat K) : Mat K := fun l k =>
  if l = p then s' * Y q k else Y (if l = q then p else l) k + g (if l = q then p else l) * Y q k
theorem T'_T (q p : Nat) {s s' : K} (h : s' * s = 1) (g : Nat → K) (X : Mat K) : T' q p s' g (T q p s g X) = X := by
  funext l k
  simp only [T']
  by_cases e : l = p
  · subst e
    simp only [T, if_pos]
    rw [← mul_assoc, h, one_mul]
  · rw [if_neg e]
    by_cases e2 : l = q
    · subst e2
      simp only [T, if_pos]
      rw [if_neg (Ne.symm e), add_add_cancel]
    · simp only [T, if_neg e2, if_pos, if_neg e]
      rw [add_add_cancel]
theorem T_mm (q p n : Nat) (s : K) (g : Nat → K) (Y X : Mat K) : T q p s g (mm n Y X) = mm n (T q p s g Y) X := by
  funext i j
  simp only [T, mm]
  split
  · rw [mul_sum]; exact sum_congr fun k _ => (mul_assoc _ _ _).symm
  · rw [mul_sum, mul_sum, ← sum_add]
    exact sum_congr fun k _ => by rw [add_mul, mul_assoc (g i), mul_assoc s]
theorem T'_mm (q p n : Nat) (s : K) (g : Nat → K) (Y X : Mat K) : T' q p s g (mm n Y X) = mm n (T' q p s g Y) X := by
  funext i j
  simp only [T', mm]
  split
  · rw [mul_sum]; exact sum_congr fun k _ => (mul_assoc _ _ _).symm
  · rw [mul_sum, ← sum_add]
    exact sum_congr fun k _ => by rw [add_mul, mul_assoc (g _)]
theorem T_congr {n c q p : Nat} {s : K} {g : Nat → K} {X Y : Mat K} (hq : q < n) (hp : p < n) (h : La.Eq n c X Y) : La.Eq n c (T q p s g X) (T q p s g Y) := by
  intro i j hi hj
  simp only [T]
  split
  · rw [h p j hp hj]
  · rw [h p j hp hj, h _ j (by split <;> assumption) hj]
theorem T'_congr {n c q p : Nat} {s : K} {g : Nat → K} {X Y : Mat K} (hq : q < n) (hp : p < n) (h : La.Eq n c X Y) : La.Eq n c (T' q p s g X) (T' q p s g Y) := by
  intro i j hi hj
  simp only [T']
  split
  · rw [h q j hq hj]
  · rw [h q j hq hj, h _ j (by split <;> assumption) hj]
/-- what holds when the columns before J have been gone through -/
structure Ech (n c J : Nat) (A R : Mat K) (ps : List Nat) (U W : Mat K) : Prop where
  ua : La.Eq n c (mm n U A) R
  wu : La.Eq n n (mm n W U) La.one
  rn : ps.length ≤ n
  lt : ∀ p ∈ ps, p < J
  inc : ps.Pairwise (· < ·)
  unit : ∀ i t, i < n → t < ps.length → R i (ps.getD t 0) = if i = t then 1 else 0
  zero : ∀ i j, ps.length ≤ i → i < n → j < J → R i j = 0
theorem getD_mem {l : List Nat} {t : Nat} (h : t < l.length) : l.getD t 0 ∈ l := by
  rw [List.getD_eq_getElem?_getD, List.getElem?_eq_getElem h]; exact List.getElem_mem h
theorem getD_app_left {l : List Nat} {x t : Nat} (h : t < l.length) : (l ++ [x]).getD t 0 = l.getD t 0 := by
  rw [List.getD_eq_getElem?_getD, List.getD_eq_getElem?_getD, List.getElem?_append_left h]
theorem getD_app_right {l : List Nat} {x : Nat} : (l ++ [x]).getD l.length 0 = x := by
  rw [List.getD_eq_getElem?_getD, List.getElem?_append_right (Nat.le_refl _)]; simp
theorem Ech.start (n c : Nat) (A : Mat K) : Ech n c 0 A A [] La.one La.one :=
  ⟨one_mm A, mm_one _, Nat.zero_le _, fun p h => by simp at h, .nil, fun i t _ h => by simp at h, fun i j _ _ h => by omega⟩
theorem Ech.skip {n c J : Nat} {A R U W : Mat K} {ps : List Nat} (h : Ech n c J A R ps U W) (h0 : ∀ i, ps.length ≤ i → i < n → R i J = 0) : Ech n c (J + 1) A R ps U W :=
  ⟨h.ua, h.wu, h.rn, fun p hp => by have := h.lt p hp; omega, h.inc, h.unit, fun i j h1 h2 h3 => by
    by_cases e : j = J
    · subst e; exact h0 i h1 h2
    · exact h.zero i j h1 h2 (by omega)⟩
theorem Ech.step {n c J p : Nat} {A R R' U W : Mat K} {ps : List Nat} (h : Ech n c J A R ps U W) (hJ : J < c) (hp : ps.length ≤ p) (hpn : p < n) (hne : R p J ≠ 0)
    (hR : La.Eq n c R' (T ps.length p (Fld.inv (R p J)) (fun i => R (if i = p then ps.length else i) J) R)) : ∃ U' W', Ech n c (J + 1) A R' (ps ++ [J]) U' W' := by
  have hq : ps.length < n := by omega
  have hs : R p J * Fld.inv (R p J) = 1 := mul_inv _ hne
  have hs' : Fld.inv (R p J) * R p J = 1 := by rw [mul_comm]; exact hs
  refine ⟨T ps.length p (Fld.inv (R p J)) (fun i => R (if i = p then ps.length else i) J) U, mm n W (T' ps.length p (R p J) (fun i => R (if i = p then ps.length else i) J) La.one), ?_⟩
  have hcol : ∀ i, i < n → R' i J = if i = ps.length then 1 else 0 := by
    intro i hi
    rw [hR i J hi hJ]
    simp only [T]
    split
    · exact hs'
    · rw [hs', mul_one, add_self]
  refine ⟨?_, ?_, by simp; omega, ?_, ?_, ?_, ?_⟩
  · rw [← T_mm]
    exact (T_congr hq hpn h.ua).trans hR.symm
  · rw [mm_assoc, ← T'_mm]
    have e1 : La.Eq n n (mm n La.one (T ps.length p (Fld.inv (R p J)) (fun i => R (if i = p then ps.length else i) J) U)) (T ps.length p (Fld.inv (R p J)) (fun i => R (if i = p then ps.length else i) J) U) := one_mm _
    have e2 := T'_congr (s := R p J) (g := fun i => R (if i = p then ps.length else i) J) hq hpn e1
    rw [T'_T _ _ hs] at e2
    exact (mm_congr Eq.rfl' e2).trans h.wu
  · intro x hx
    rcases List.mem_append.1 hx with hx | hx
    · have := h.lt x hx; omega
    · simp at hx; omega
  · rw [List.pairwise_append]
    exact ⟨h.inc, List.pairwise_singleton _ _, fun a ha b hb => by simp at hb; subst hb; exact h.lt a ha⟩
  · intro i t hi ht
    by_cases e : t = ps.length
    · subst e; rw [getD_app_right]; exact hcol i hi
    · have ht' : t < ps.length := by simp at ht; omega
      rw [getD_app_left ht']
      have hlt := h.lt _ (getD_mem ht')
      rw [hR i _ hi (by omega)]
      simp only [T]
      have hp0 : R p (ps.getD t 0) = 0 := by rw [h.unit p t hpn ht', if_neg (by omega)]
      rw [hp0, mul_zero]
      split
      · rename_i e2; rw [if_neg (by omega)]
      · rw [mul_zero, add_zero, h.unit _ t (by split <;> omega) ht']
        by_cases e3 : i = p
        · rw [if_pos e3, if_neg (by omega), if_neg (by omega)]
        · rw [if_neg e3]
  · intro i j h1 h2 h3
    simp at h1
    by_cases e : j = J
    · subst e; rw [hcol i h2, if_neg (by omega)]
    · rw [hR i j h2 (by omega)]
      simp only [T]
      rw [if_neg (by omega), h.zero p j hp hpn (by omega), mul_zero, mul_zero, add_zero]
      exact h.zero _ j (by split <;> omega) (by split <;> omega) (by omega)
theorem Ech.red {n c : Nat} {A R U W : Mat K} {ps : List Nat} (h : Ech n c c A R ps U W) : Red n c A R ps.length (fun t => ps.getD t 0) U W :=
  ⟨h.ua, h.wu, h.rn, fun t ht => h.lt _ (getD_mem ht), h.unit, h.zero⟩
theorem Ech.wr {n c J : Nat} {A R U W : Mat K} {ps : List Nat} (h : Ech n c J A R ps U W) : La.Eq n c (mm n W R) A := by
  refine (mm_congr Eq.rfl' h.ua.symm).trans ?_
  rw [← mm_assoc]
  exact (mm_congr h.wu Eq.rfl').trans (one_mm A)
/-! ### the rank of the rows at the pivots of the transposed matrix -/
theorem rank_picked {n c J : Nat} {A R U W : Mat K} {ps : List Nat} (h : Ech c n n (tr A) R ps U W) : Rank ps.length c (fun t k => A (ps.getD t 0) k) ps.length := by
  refine ⟨⟨La.one, _, (one_mm _).symm⟩, La.one, La.tr U, ?_⟩
  intro i j hi hj
  have e1 : mm c (mm ps.length La.one fun t k => A (ps.getD t 0) k) (La.tr U) i j = mm c U (La.tr A) j (ps.getD i 0) := by
    show sum c (fun k => mm ps.length La.one (fun t k => A (ps.getD t 0) k) i k * U j k) = sum c (fun k => U j k * A (ps.getD i 0) k)
    exact sum_congr fun k hk => by rw [one_mm (c := c) (fun t k => A (ps.getD t 0) k) i k hi hk, mul_comm]
  rw [e1, h.ua j _ (by have := h.rn; omega) (h.lt _ (getD_mem hi)), h.unit j i (by have := h.rn; omega) hi]
  show _ = if i = j then 1 else 0
  by_cases e : i = j
  · rw [if_pos e, if_pos e.symm]
  · rw [if_neg e, if_neg (Ne.symm e)]
/-! ### a system's solution -/
/-- B stands beside A -/
def beside (c : Nat) (A B : Mat K) : Mat K := fun i j => if j < c then A i j else B i (j - c)
theorem mm_beside (n c : Nat) (U A B : Mat K) : mm n U (beside c A B) = beside c (mm n U A) (mm n U B) := by
  funext i j
  simp only [mm, beside]
  split <;> rfl
theorem beside_left {n c d : Nat} {A B X : Mat K} (h : La.Eq n (c + d) (beside c A B) X) : La.Eq n c A X := fun i j hi hj => by
  have := h i j hi (by omega)
  simpa only [beside, if_pos hj] using this
theorem beside_right {n c d : Nat} {A B X : Mat K} (h : La.Eq n (c + d) (beside c A B) X) : La.Eq n d B (fun i j => X i (c + j)) := fun i j hi hj => by
  have := h i (c + j) hi (by omega)
  have e : ¬ c + j < c := by omega
  simpa only [beside, if_neg e, Nat.add_sub_cancel_left] using this
/-- the solution: the right sides at the pivots, 0 elsewhere -/
def sol (c : Nat) (R : Mat K) (ps : List Nat) : Mat K := fun k j => sum ps.length fun t => if ps.getD t 0 = k then R t (c + j) else 0
theorem sol_ok {n c d : Nat} {A B R U W : Mat K} {ps : List Nat} (h : Ech n (c + d) c (beside c A B) R ps U W) (hz : ∀ i j, ps.length ≤ i → i < n → j < d → R i (c + j) = 0) :
    La.Eq n d (mm c A (sol c R ps)) B := by
  have hW := h.wr
  -- the reduced left side times the solution is the reduced right side
  have key : La.Eq n d (mm c R (sol c R ps)) (fun i j => R i (c + j)) := by
    intro i j hi hj
    show sum c (fun k => R i k * sum ps.length fun t => if ps.getD t 0 = k then R t (c + j) else 0) = R i (c + j)
    have e1 : sum c (fun k => R i k * sum ps.length fun t => if ps.getD t 0 = k then R t (c + j) else 0) = sum ps.length fun t => R i (ps.getD t 0) * R t (c + j) := by
      rw [sum_congr (fun k _ => mul_sum ps.length (R i k) _), sum_swap]
      refine sum_congr fun t ht => ?_
      rw [sum_one (n := c) _ (ps.getD t 0) (h.lt _ (getD_mem ht)) (fun k _ hk => by rw [if_neg (Ne.symm hk), mul_zero]), if_pos rfl]
    rw [e1]
    by_cases hl : i < ps.length
    · rw [sum_one (n := ps.length) _ i hl (fun t ht hne => by rw [h.unit i t hi ht, if_neg (Ne.symm hne), zero_mul]), h.unit i i hi hl, if_pos rfl, one_mul]
    · rw [sum_zero fun t ht => by rw [h.unit i t hi ht, if_neg (by omega), zero_mul], hz i j (by omega) hi hj]
  have hA : La.Eq n c A (mm n W R) := beside_left (d := d) hW.symm
  have hB : La.Eq n d B (fun i j => mm n W R i (c + j)) := beside_right hW.symm
  refine (mm_congr hA Eq.rfl').trans ?_
  rw [mm_assoc]
  refine (mm_congr Eq.rfl' key).trans ?_
  exact hB.symm
/-- a right side that is left over: the rank of both beside each other is greater -/
theorem rank_more {n c d r s i0 j0 : Nat} {A B R U W : Mat K} {ps : List Nat} (h : Ech n (c + d) c (beside c A B) R ps U W) (hi : ps.length ≤ i0) (hin : i0 < n) (hj : j0 < d) (hne : R i0 (c + j0) ≠ 0)
    (hr : Rank n (c + d) (beside c A B) r) : ps.length < r := by
  obtain ⟨v, hv⟩ : ∃ v : K, v = R i0 (c + j0) := ⟨_, rfl⟩
  rw [← hv] at hne
  have hiv : Fld.inv v * v = 1 := by rw [mul_comm]; exact mul_inv _ hne
  -- rows 0 .. len - 1, each with its right side taken out, and row i0 made 1
  obtain ⟨L, hL⟩ : ∃ L : Mat K, L = fun t k => if t < ps.length then (if k = t then 1 else if k = i0 then R t (c + j0) * Fld.inv v else 0) else (if k = i0 then Fld.inv v else 0) := ⟨_, rfl⟩
  obtain ⟨V, hV⟩ : ∃ V : Mat K, V = fun k t => if k = (if t < ps.length then ps.getD t 0 else c + j0) then 1 else 0 := ⟨_, rfl⟩
  have hc : Cof n (c + d) (ps.length + 1) R := by
    refine ⟨L, V, ?_⟩
    intro a b ha hb
    have hcol : (if b < ps.length then ps.getD b 0 else c + j0) < c + d := by
      split
      · have := h.lt _ (getD_mem ‹b < ps.length›); omega
      · omega
    have e1 : mm (c + d) (mm n L R) V a b = mm n L R a (if b < ps.length then ps.getD b 0 else c + j0) := by
      show sum (c + d) (fun k => mm n L R a k * V k b) = _
      rw [sum_one (n := c + d) _ _ hcol (fun k _ hk => by rw [hV]; simp only; rw [if_neg hk, mul_zero])]
      rw [hV]; simp only; rw [if_pos trivial, mul_one]
    rw [e1]
    obtain ⟨q, hq⟩ : ∃ q, q = (if b < ps.length then ps.getD b 0 else c + j0) := ⟨_, rfl⟩
    rw [← hq]
    have hrn := h.rn
    show sum n (fun k => L a k * R k q) = if a = b then 1 else 0
    by_cases hal : a < ps.length
    · -- two rows count
      have e2 : sum n (fun k => L a k * R k q) = R a q + R a (c + j0) * Fld.inv v * R i0 q := by
        have e3 : sum n (fun k => L a k * R k q) = sum n (fun k => (if k = a then R a q else 0) + (if k = i0 then R a (c + j0) * Fld.inv v * R i0 q else 0)) := by
          refine sum_congr fun k hk => ?_
          rw [hL]; simp only; rw [if_pos hal]
          by_cases k1 : k = a
          · subst k1; rw [if_pos rfl, if_pos rfl, if_neg (by omega), one_mul, add_zero]
          · rw [if_neg k1, if_neg k1, zero_add]
            by_cases k2 : k = i0
            · subst k2; rw [if_pos rfl, if_pos rfl]
            · rw [if_neg k2, if_neg k2, zero_mul]
        rw [e3, sum_add, sum_one (n := n) _ a (by omega) (fun k _ hk => if_neg hk), sum_one (n := n) _ i0 hin (fun k _ hk => if_neg hk), if_pos rfl, if_pos rfl]
      rw [e2]
      by_cases hbl : b < ps.length
      · rw [if_pos hbl] at hq
        subst hq
        rw [h.unit a b (by omega) hbl, h.unit i0 b hin hbl, if_neg (show ¬ i0 = b by omega), mul_zero, add_zero]
      · rw [if_neg hbl] at hq
        subst hq
        rw [← hv, mul_assoc, hiv, mul_one, add_self, if_neg (by omega)]
    · have e2 : sum n (fun k => L a k * R k q) = Fld.inv v * R i0 q := by
        rw [sum_one (n := n) _ i0 hin (fun k _ hk => by rw [hL]; simp only; rw [if_neg hal, if_neg hk, zero_mul])]
        rw [hL]; simp only; rw [if_neg hal, if_pos trivial]
      rw [e2]
      by_cases hbl : b < ps.length
      · rw [if_pos hbl] at hq
        subst hq
        rw [h.unit i0 b hin hbl, if_neg (by omega), mul_zero, if_neg (by omega)]
      · rw [if_neg hbl] at hq
        subst hq
        rw [← hv, hiv, if_pos (by omega)]
  -- the same of what R is made of
  have hc' : Cof n (c + d) (ps.length + 1) (beside c A B) := by
    obtain ⟨L, V, hLV⟩ := hc
    refine ⟨mm n L U, V, ?_⟩
    refine La.Eq.trans ?_ hLV
    rw [mm_assoc n n L U]
    exact mm_congr (mm_congr Eq.rfl' h.ua) Eq.rfl'
  have := hc'.le hr.1
  omega
/-! ### square matrices -/
theorem inc_id (n : Nat) : ∀ ps : List Nat, ps.Pairwise (· < ·) → (∀ p ∈ ps, p < n) → ps.length = n → ∀ t, t < n → ps.getD t 0 = t := by
  intro ps hinc hlt hlen
  have hmono : ∀ a b, a < b → b < ps.length → ps.getD a 0 < ps.getD b 0 := by
    intro a b hab hb
    rw [List.pairwise_iff_getElem] at hinc
    have := hinc a b (by omega) hb hab
    rw [List.getD_eq_getElem?_getD, List.getD_eq_getElem?_getD, List.getElem?_eq_getElem hb, List.getElem?_eq_getElem (by omega)]
    exact this
  have hge : ∀ t, t < n → t ≤ ps.getD t 0 := by
    intro t
    induction t with
    | zero => intro _; exact Nat.zero_le _
    | succ t ih =>
      intro ht
      have := ih (by omega)
      have := hmono t (t + 1) (by omega) (by omega)
      omega
  have hle : ∀ d t, t + d + 1 = n → ps.getD t 0 ≤ t := by
    intro d
    induction d with
    | zero => intro t ht; have := hlt _ (getD_mem (show t < ps.length by omega)); omega
    | succ d ih =>
      intro t ht
      have := ih (t + 1) (by omega)
      have := hmono t (t + 1) (by omega) (by omega)
      omega
  intro t ht
  have := hge t ht
  have := hle (n - 1 - t) t (by omega)
  omega
/-- full rank: what stands before the matrix inverts it, on both sides -/
theorem left_of_full {n : Nat} {A R U W : Mat K} {ps : List Nat} (h : Ech n n n A R ps U W) (hf : ps.length = n) : La.Eq n n (mm n U A) La.one := by
  refine h.ua.trans ?_
  intro i j hi hj
  have e := inc_id n ps h.inc h.lt hf j hj
  have := h.unit i j hi (by omega)
  rw [e] at this
  exact this
theorem inv_two {n : Nat} {U A X : Mat K} (h : La.Eq n n (mm n U A) La.one) (k : La.Eq n n (mm n A X) La.one) : La.Eq n n (mm n X A) La.one := by
  have e : La.Eq n n X U := by
    have e1 : La.Eq n n (mm n (mm n U A) X) X := (mm_congr h Eq.rfl').trans (one_mm X)
    have e2 : La.Eq n n (mm n (mm n U A) X) U := by
      rw [mm_assoc]
      exact (mm_congr Eq.rfl' k).trans (mm_one U)
    exact e1.symm.trans e2
  exact (mm_congr e Eq.rfl').trans h
theorem rank_full {n : Nat} {A X : Mat K} (h : La.Eq n n (mm n A X) La.one) : Rank n n A n :=
  ⟨⟨A, La.one, (mm_one A).symm⟩, La.one, X, by
    refine La.Eq.trans ?_ h
    exact mm_congr (one_mm A) Eq.rfl'⟩
theorem inv_inv {n : Nat} {A X Y : Mat K} (h : La.Eq n n (mm n A X) La.one) (k : La.Eq n n (mm n X Y) La.one) : La.Eq n n Y A := by
  have e1 : La.Eq n n (mm n (mm n A X) Y) Y := (mm_congr h Eq.rfl').trans (one_mm Y)
  have e2 : La.Eq n n (mm n (mm n A X) Y) A := by
    rw [mm_assoc]
    exact (mm_congr Eq.rfl' k).trans (mm_one A)
  exact e1.symm.trans e2
end
/-! ### the elimination of numbers -/
variable {m : Nat} [o : OkF m]
theorem up_pstep {r c q p j : Nat} {f : Fn} (h : In m r c f) (hq : q < r) (hp : p < r) (hj : j < c) :
    La.Eq r c (up m (pstep m f q p j)) (T q p (Fld.inv (up m f p j)) (fun i => up m f (if i = p then q else i) j) (up m f)) := by
  intro i k hi hk
  apply El.ext
  rw [up_v (pstep_lt o.ok h hq hp hj) hi hk]
  have hs : (if i = p then q else i) < r := by split <;> assumption
  simp only [pstep, T]
  split
  · rw [v_mul, v_inv, up_v h hp hj, up_v h hp hk]
  · rw [v_add, v_mul, v_mul, v_inv, up_v h hp hj, up_v h hp hk, up_v h hs hk, up_v h hs hj]
theorem red_ech {r c : Nat} {A : Mat (El m)} (n : Nat) : ∀ (J : Nat) (f : Fn) (ps : List Nat) (U W : Mat (El m)), J + n ≤ c → In m r c f → Ech r c J A (up m f) ps U W →
    In m r c (red m r n J f ps).1 ∧ ∃ U' W', Ech r c (J + n) A (up m (red m r n J f ps).1) (red m r n J f ps).2 U' W' := by
  induction n with
  | zero => intro J f ps U W _ h e; exact ⟨h, U, W, e⟩
  | succ n ih =>
    intro J f ps U W hJ h e
    obtain ⟨h1, h2, h3, h4⟩ := scan_spec (fun i => f i J != 0) (r - ps.length) ps.length
    have hrn := e.rn
    simp only [red]
    rw [show J + (n + 1) = J + 1 + n by omega]
    by_cases hp : scan (fun i => f i J != 0) (r - ps.length) ps.length = r
    · rw [if_pos hp]
      refine ih (J + 1) f ps U W (by omega) h (e.skip fun i hi1 hi2 => ?_)
      have := h4 i hi1 (by omega)
      apply El.ext
      rw [up_v h hi2 (by omega), v_zero]
      simpa using this
    · rw [if_neg hp]
      obtain ⟨p, hpe⟩ : ∃ p, scan (fun i => f i J != 0) (r - ps.length) ps.length = p := ⟨_, rfl⟩
      rw [hpe] at h1 h2 h3 hp ⊢
      have hpr : p < r := by omega
      have hne : f p J ≠ 0 := by simpa using h3 (by omega)
      obtain ⟨U', W', e'⟩ := e.step (p := p) (R' := up m (pstep m f ps.length p J)) (by omega) h1 hpr (fun hz => hne (by
        have := congrArg El.v hz
        rw [up_v h hpr (show J < c by omega)] at this
        exact this)) (up_pstep h (by omega) hpr (by omega))
      exact ih (J + 1) _ _ U' W' (by omega) (pstep_lt o.ok h (by omega) hpr (by omega)) e'
end Mx
/- The steps of an elimination, as the program takes them; no program in sight. -/
set_option linter.unusedVariables false
namespace Mx
theorem red_more (m r a : Nat) : ∀ (b j : Nat) (f : Fn) (ps : List Nat), red m r (a + b) j f ps = red m r b (j + a) (red m r a j f ps).1 (red m r a j f ps).2 := by
  induction a with
  | zero => intro b j f ps; simp only [Nat.zero_add, red, Nat.add_zero]
  | succ a ih =>
    intro b j f ps
    rw [show a + 1 + b = (a + b) + 1 by omega]
    simp only [red]
    rw [show j + (a + 1) = j + 1 + a by omega]
    split
    · exact ih b (j + 1) f ps
    · exact ih b (j + 1) _ _
/-- the elimination through the first j columns -/
def redTo (m r : Nat) (f : Fn) (j : Nat) : Fn × List Nat := red m r j 0 f []
theorem redTo_succ (m r : Nat) (f : Fn) (j : Nat) : redTo m r f (j + 1) = red m r 1 j (redTo m r f j).1 (redTo m r f j).2 := by
  unfold redTo
  rw [red_more, Nat.zero_add]
theorem redTo_skip {m r : Nat} {f : Fn} {j : Nat} (h : ∀ i, (redTo m r f j).2.length ≤ i → i < r → (redTo m r f j).1 i j = 0) (hl : (redTo m r f j).2.length ≤ r) : redTo m r f (j + 1) = redTo m r f j := by
  rw [redTo_succ]
  obtain ⟨h1, h2, h3, h4⟩ := scan_spec (fun i => (redTo m r f j).1 i j != 0) (r - (redTo m r f j).2.length) (redTo m r f j).2.length
  have e : scan (fun i => (redTo m r f j).1 i j != 0) (r - (redTo m r f j).2.length) (redTo m r f j).2.length = r := by
    rcases Nat.lt_or_ge (scan (fun i => (redTo m r f j).1 i j != 0) (r - (redTo m r f j).2.length) (redTo m r f j).2.length) r with hlt | hge
    · have := h3 (by omega)
      rw [h _ h1 hlt] at this
      simp at this
    · omega
  simp only [red]
  rw [if_pos e]
theorem redTo_step {m r : Nat} {f : Fn} {j p : Nat} (hp : (redTo m r f j).2.length ≤ p) (hpr : p < r) (h0 : ∀ i, (redTo m r f j).2.length ≤ i → i < p → (redTo m r f j).1 i j = 0) (hne : (redTo m r f j).1 p j ≠ 0) :
    redTo m r f (j + 1) = (pstep m (redTo m r f j).1 (redTo m r f j).2.length p j, (redTo m r f j).2 ++ [j]) := by
  rw [redTo_succ]
  obtain ⟨h1, h2, h3, h4⟩ := scan_spec (fun i => (redTo m r f j).1 i j != 0) (r - (redTo m r f j).2.length) (redTo m r f j).2.length
  have e : scan (fun i => (redTo m r f j).1 i j != 0) (r - (redTo m r f j).2.length) (redTo m r f j).2.length = p := by
    rcases Nat.lt_trichotomy (scan (fun i => (redTo m r f j).1 i j != 0) (r - (redTo m r f j).2.length) (redTo m r f j).2.length) p with hlt | heq | hgt
    · have := h3 (by omega)
      rw [h0 _ h1 hlt] at this
      simp at this
    · exact heq
    · have := h4 p hp hgt
      simp [hne] at this
  simp only [red]
  rw [e, if_neg (by omega)]
theorem red_in {m r c : Nat} (hm : Gf.Ok m) (n : Nat) : ∀ (j : Nat) (f : Fn) (ps : List Nat), j + n ≤ c → In m r c f → ps.length ≤ r → In m r c (red m r n j f ps).1 ∧ (red m r n j f ps).2.length ≤ r := by
  induction n with
  | zero => intro j f ps _ h hl; exact ⟨h, hl⟩
  | succ n ih =>
    intro j f ps hj h hl
    obtain ⟨h1, h2, h3, h4⟩ := scan_spec (fun i => f i j != 0) (r - ps.length) ps.length
    simp only [red]
    split
    · exact ih (j + 1) f ps (by omega) h hl
    · exact ih (j + 1) _ _ (by omega) (pstep_lt hm h (by omega) (by omega) (by omega)) (by simp; omega)
theorem redTo_in {m r c : Nat} (hm : Gf.Ok m) {f : Fn} (h : In m r c f) {j : Nat} (hj : j ≤ c) : In m r c (redTo m r f j).1 ∧ (redTo m r f j).2.length ≤ r :=
  red_in hm j 0 f [] (by omega) h (Nat.zero_le _)
/-- rows i and k exchanged -/
def swp (F : Fn) (i k : Nat) : Fn := fun i' j => F (if i' = i then k else if i' = k then i else i') j
theorem swp_q (F : Fn) (i q j : Nat) : swp F i q q j = F i j := by
  unfold swp
  by_cases h : q = i
  · rw [if_pos h, h]
  · rw [if_neg h, if_pos rfl]
theorem swp_in {m r c i q : Nat} {F : Fn} (h : In m r c F) (hi : i < r) (hq : q < r) : In m r c (swp F i q) := fun a b ha hb => by
  unfold swp
  exact h _ _ (by split; exact hq; split; exact hi; exact ha) hb
/-- row q times s, before column n -/
def scTo (m : Nat) (F : Fn) (q s n : Nat) : Fn := fun i k => if i = q ∧ k < n then Gf.mul m s (F i k) else F i k
/-- row q times s -/
def sc (m : Nat) (F : Fn) (q s : Nat) : Fn := fun i k => if i = q then Gf.mul m s (F i k) else F i k
theorem scTo_zero (m : Nat) (F : Fn) (q s : Nat) : scTo m F q s 0 = F := by funext i k; simp [scTo]
theorem scTo_at (m : Nat) (F : Fn) (q s n i : Nat) : scTo m F q s n i n = F i n := by simp [scTo]
theorem scTo_succ (m : Nat) (F : Fn) (q s n : Nat) : upd (scTo m F q s n) q n (Gf.mul m s (F q n)) = scTo m F q s (n + 1) := by
  funext i k
  simp only [upd, scTo]
  by_cases h : i = q ∧ k = n
  · obtain ⟨rfl, rfl⟩ := h; simp
  · rw [if_neg h]
    by_cases h2 : i = q ∧ k < n
    · rw [if_pos h2, if_pos ⟨h2.1, by omega⟩]
    · rw [if_neg h2, if_neg (by omega)]
theorem scTo_all (m : Nat) (F : Fn) (q s r c : Nat) : cells r c (scTo m F q s c) = cells r c (sc m F q s) :=
  cells_congr fun i k _ hk => by simp [scTo, sc, hk]
/-- row q taken out of the rows before n -/
def elTo (m : Nat) (F : Fn) (q j n : Nat) : Fn := fun i k => if i < n ∧ i ≠ q then F i k ^^^ Gf.mul m (F i j) (F q k) else F i k
theorem sc_in {m r c q s : Nat} (hm : Gf.Ok m) {F : Fn} (h : In m r c F) (hs : s < 2 ^ m) : In m r c (sc m F q s) := fun a b ha hb => by
  unfold sc
  split
  · exact Gf.mul_lt hm _ hs
  · exact h a b ha hb
theorem elTo_in {m r c q j n : Nat} (hm : Gf.Ok m) {F : Fn} (h : In m r c F) (hj : j < c) : In m r c (elTo m F q j n) := fun a b ha hb => by
  unfold elTo
  split
  · exact Nat.xor_lt_two_pow (h a b ha hb) (Gf.mul_lt hm _ (h a j ha hj))
  · exact h a b ha hb
theorem elTo_zero (m : Nat) (F : Fn) (q j : Nat) : elTo m F q j 0 = F := by funext i k; simp [elTo]
theorem elTo_row (m : Nat) (F : Fn) (q j n k : Nat) : elTo m F q j n n k = F n k := by simp [elTo]
theorem elTo_q (m : Nat) (F : Fn) (q j n k : Nat) : elTo m F q j n q k = F q k := by simp [elTo]
theorem elTo_skip (m : Nat) (F : Fn) (q j : Nat) : elTo m F q j (q + 1) = elTo m F q j q := by
  funext i k
  simp only [elTo]
  by_cases h : i < q ∧ i ≠ q
  · rw [if_pos h, if_pos (by omega)]
  · rw [if_neg h, if_neg (by omega)]
theorem el_swp (m : Nat) (F : Fn) (p q j r c : Nat) : cells r c (elTo m (sc m (swp F p q) q (Gf.inv m (F p j))) q j r) = cells r c (pstep m F q p j) :=
  cells_congr fun i k hi _ => by
    simp only [elTo, sc, swp, pstep]
    by_cases h : i = q
    · subst h
      simp only [ne_eq, not_true_eq_false, and_false, if_false, if_true]
      by_cases h2 : i = p
      · rw [if_pos h2, h2]
      · rw [if_neg h2]
    · rw [if_pos ⟨hi, h⟩, if_neg h, if_neg h, if_neg h, if_pos trivial, if_pos trivial]
      by_cases h2 : i = p
      · subst h2
        by_cases h3 : q = i
        · exact absurd h3.symm h
        · simp [h3, h]
      · by_cases h3 : q = p
        · subst h3; simp [h2]
        · simp [h2, h3, h]
/-- the pivots are columns that have been gone through -/
theorem red_lt (m r n : Nat) : ∀ (j : Nat) (f : Fn) (ps : List Nat), (∀ p ∈ ps, p < j) → ∀ p ∈ (red m r n j f ps).2, p < j + n := by
  induction n with
  | zero => intro j f ps h; exact h
  | succ n ih =>
    intro j f ps h
    simp only [red]
    rw [show j + (n + 1) = j + 1 + n by omega]
    split
    · exact ih (j + 1) f ps (fun p hp => by have := h p hp; omega)
    · refine ih (j + 1) _ _ (fun p hp => ?_)
      rcases List.mem_append.1 hp with hp | hp
      · have := h p hp; omega
      · simp at hp; omega
theorem redTo_lt (m r : Nat) (f : Fn) (j : Nat) {t : Nat} (ht : t < (redTo m r f j).2.length) : (redTo m r f j).2.getD t 0 < j := by
  have := red_lt m r j 0 f [] (fun p h => by simp at h) ((redTo m r f j).2.getD t 0) (by
    rw [List.getD_eq_getElem?_getD, List.getElem?_eq_getElem ht]; exact List.getElem_mem ht)
  omega
/-! ### a system's two sides, its solution -/
/-- B beside A -/
def bes (c : Nat) (A B : Fn) : Fn := fun i k => if k < c then A i k else B i (k - c)
/-- the rows before n of it -/
def besTo (c : Nat) (A B : Fn) (n : Nat) : Fn := fun i k => if i < n then bes c A B i k else 0
theorem besTo_all (c : Nat) (A B : Fn) (r d : Nat) : cells r d (besTo c A B r) = cells r d (bes c A B) :=
  cells_congr fun i k hi _ => by simp [besTo, hi]
theorem besTo_none (c : Nat) (A B : Fn) (r d : Nat) : cells r d (besTo c A B 0) = cells r d (fun _ _ => 0) :=
  cells_congr fun i k hi _ => by simp [besTo]
theorem bes_in {m r c d : Nat} {A B : Fn} (hA : In m r c A) (hB : In m r d B) : In m r (c + d) (bes c A B) := fun i k hi hk => by
  unfold bes
  split
  · exact hA i k hi ‹_›
  · exact hB i _ hi (by omega)
/-- is a right side left over? -/
def Left (R : Fn) (n r c d : Nat) : Prop := ∃ i, n ≤ i ∧ i < r ∧ ∃ j, j < d ∧ R i (c + j) ≠ 0
/-- the solution, of the first t pivots -/
def solTo (R : Fn) (ps : List Nat) (c : Nat) : Nat → Fn
  | 0 => fun _ _ => 0
  | t + 1 => fun k j => if k = ps.getD t 0 then R t (c + j) else solTo R ps c t k j
end Mx

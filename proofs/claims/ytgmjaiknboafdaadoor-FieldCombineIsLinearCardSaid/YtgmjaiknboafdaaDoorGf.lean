/- Plain arithmetic of the fields with 2^8 and 2^16 elements; no program in sight. -/
namespace Gf

theorem xor_ac (a b c d : Nat) : (a ^^^ b) ^^^ (c ^^^ d) = (a ^^^ c) ^^^ (b ^^^ d) := by
  rw [Nat.xor_assoc, Nat.xor_assoc, ← Nat.xor_assoc b, Nat.xor_comm b c, Nat.xor_assoc c]

/-- the modulus -/
def md (m : Nat) : Nat := if m = 8 then 285 else if m = 16 then 69643 else 0

/-- multiply by the indeterminate -/
def T (m x : Nat) : Nat := (2 * x) ^^^ (if x.testBit (m - 1) then md m else 0)

def Ok (m : Nat) : Prop := m = 8 ∨ m = 16

theorem two_xor (x y : Nat) : 2 * (x ^^^ y) = (2 * x) ^^^ (2 * y) := by
  have := Nat.shiftLeft_xor_distrib (a := x) (b := y) (i := 1)
  simpa [Nat.shiftLeft_eq, Nat.mul_comm] using this

theorem T_zero (m : Nat) : T m 0 = 0 := by simp [T]

theorem T_xor (m x y : Nat) : T m (x ^^^ y) = T m x ^^^ T m y := by
  unfold T
  rw [two_xor, Nat.testBit_xor, xor_ac]
  congr 1
  cases x.testBit (m - 1) <;> cases y.testBit (m - 1) <;> simp

theorem testBit_top {m x : Nat} (h : x < 2 ^ (m + 1)) : x.testBit m = decide (2 ^ m ≤ x) := by
  rw [Nat.testBit_eq_decide_div_mod_eq]
  rcases Nat.lt_or_ge x (2 ^ m) with h1 | h1
  · rw [Nat.div_eq_of_lt h1]; simp; omega
  · have : x / 2 ^ m = 1 := by
      rw [Nat.pow_succ] at h
      exact Nat.div_eq_of_lt_le (by omega) (by omega)
    rw [this]; simp [h1]

theorem T_eq {m x : Nat} (hm : Ok m) (h : x < 2 ^ m) : T m x = if 2 * x < 2 ^ m then 2 * x else (2 * x) ^^^ md m := by
  unfold T
  have e : x.testBit (m - 1) = decide (2 ^ (m - 1) ≤ x) := testBit_top (by rcases hm with rfl | rfl <;> exact h)
  rw [e]
  rcases hm with rfl | rfl <;> simp only [decide_eq_true_eq] <;> split <;> split <;> first | omega | simp

theorem xor_lt_of_top {k x y : Nat} (hx : x < 2 ^ (k + 1)) (hy : y < 2 ^ (k + 1)) (hx1 : 2 ^ k ≤ x) (hy1 : 2 ^ k ≤ y) : x ^^^ y < 2 ^ k := by
  have h : x ^^^ y < 2 ^ (k + 1) := Nat.xor_lt_two_pow hx hy
  have t : (x ^^^ y).testBit k = false := by
    rw [Nat.testBit_xor, testBit_top hx, testBit_top hy]; simp [hx1, hy1]
  rw [testBit_top h] at t
  simpa using t

theorem T_lt {m x : Nat} (hm : Ok m) (h : x < 2 ^ m) : T m x < 2 ^ m := by
  rw [T_eq hm h]
  split
  · assumption
  · have e : md m < 2 ^ (m + 1) ∧ 2 ^ m ≤ md m := by rcases hm with rfl | rfl <;> decide
    exact xor_lt_of_top (by rw [Nat.pow_succ]; omega) e.1 (by omega) e.2

/-- the sum of b_i T^i a over the n lowest bits of b -/
def op (m : Nat) : Nat → Nat → Nat → Nat
  | 0, _, _ => 0
  | n + 1, b, a => (if b % 2 = 1 then a else 0) ^^^ op m n (b / 2) (T m a)

theorem op_zero (m n : Nat) : ∀ a, op m n 0 a = 0 := by
  induction n with
  | zero => intro a; rfl
  | succ n ih => intro a; simp [op, ih]

theorem op_of_zero (m n : Nat) : ∀ b, op m n b 0 = 0 := by
  induction n with
  | zero => intro b; rfl
  | succ n ih => intro b; simp [op, T_zero, ih]

theorem op_xor (m n : Nat) : ∀ b a a', op m n b (a ^^^ a') = op m n b a ^^^ op m n b a' := by
  induction n with
  | zero => intro b a a'; simp [op]
  | succ n ih =>
    intro b a a'
    simp only [op, T_xor, ih]
    split
    · exact xor_ac _ _ _ _
    · simp

theorem mod_xor (b b' : Nat) : (b ^^^ b') % 2 = (b % 2 + b' % 2) % 2 := by
  have h := Nat.xor_mod_two_pow (a := b) (b := b') (n := 1)
  rw [Nat.pow_one] at h
  rw [h]
  rcases Nat.mod_two_eq_zero_or_one b with h | h <;> rcases Nat.mod_two_eq_zero_or_one b' with h' | h' <;> simp [h, h']

theorem div_xor (b b' : Nat) : (b ^^^ b') / 2 = (b / 2) ^^^ (b' / 2) := Nat.xor_div_two

theorem xor_op (m n : Nat) : ∀ b b' a, op m n (b ^^^ b') a = op m n b a ^^^ op m n b' a := by
  induction n with
  | zero => intro b b' a; simp [op]
  | succ n ih =>
    intro b b' a
    simp only [op, div_xor, ih, mod_xor]
    rw [xor_ac]
    congr 1
    rcases Nat.mod_two_eq_zero_or_one b with h | h <;> rcases Nat.mod_two_eq_zero_or_one b' with h' | h' <;> simp [h, h']

theorem op_T (m n : Nat) : ∀ b a, op m n b (T m a) = T m (op m n b a) := by
  induction n with
  | zero => intro b a; simp [op, T_zero]
  | succ n ih =>
    intro b a
    simp only [op, T_xor, ih]
    congr 1
    split
    · rfl
    · rw [T_zero]

theorem op_lt {m : Nat} (hm : Ok m) (n : Nat) : ∀ b a, a < 2 ^ m → op m n b a < 2 ^ m := by
  induction n with
  | zero => intro b a _; exact Nat.two_pow_pos m
  | succ n ih =>
    intro b a h
    simp only [op]
    refine Nat.xor_lt_two_pow ?_ (ih _ _ (T_lt hm h))
    split
    · exact h
    · exact Nat.two_pow_pos m

theorem op_comm (m n k : Nat) : ∀ b c a, op m n b (op m k c a) = op m k c (op m n b a) := by
  induction n with
  | zero => intro b c a; simp [op, op_of_zero]
  | succ n ih =>
    intro b c a
    simp only [op]
    rw [← op_T, ih, op_xor]
    congr 1
    split
    · rfl
    · rw [op_of_zero]

/-- more bits than there are change nothing -/
theorem op_more (m n : Nat) : ∀ k b a, b < 2 ^ n → op m (n + k) b a = op m n b a := by
  induction n with
  | zero => intro k b a h; have : b = 0 := by simpa using h
            subst this; rw [op_zero]; rfl
  | succ n ih =>
    intro k b a h
    rw [show n + 1 + k = (n + k) + 1 by omega]
    simp only [op]
    rw [ih k _ _ (by rw [Nat.pow_succ] at h; omega)]

theorem op_bits (m n k : Nat) (b a : Nat) (h : b < 2 ^ n) (h' : b < 2 ^ k) : op m n b a = op m k b a := by
  rcases Nat.le_total n k with hk | hk
  · obtain ⟨d, rfl⟩ := Nat.exists_eq_add_of_le hk; exact (op_more m n d b a h).symm
  · obtain ⟨d, rfl⟩ := Nat.exists_eq_add_of_le hk; exact op_more m k d b a h'

theorem T_pow {m j : Nat} (hm : Ok m) (h : j + 1 < m) : T m (2 ^ j) = 2 ^ (j + 1) := by
  have h1 : 2 ^ (j + 1) < 2 ^ m := Nat.pow_lt_pow_right (by omega) h
  have h2 : 2 ^ (j + 1) = 2 * 2 ^ j := by rw [Nat.pow_succ]; omega
  rw [T_eq hm (by omega), if_pos (by omega), h2]

theorem xor_split (b j : Nat) : ((if b % 2 = 1 then 2 ^ j else 0) ^^^ (b / 2 * 2 ^ (j + 1))) = b * 2 ^ j := by
  have e : b = 2 * (b / 2) + b % 2 := by omega
  have hb : b * 2 ^ j = ((b / 2) * 2 ^ (j + 1)) + (b % 2) * 2 ^ j := by
    conv => lhs; rw [e]
    rw [Nat.add_mul, Nat.pow_succ]
    congr 1
    rw [Nat.mul_comm 2, Nat.mul_assoc, Nat.mul_comm 2]
  rw [hb]
  rcases Nat.mod_two_eq_zero_or_one b with h | h
  · simp [h]
  · simp only [h, if_true, Nat.one_mul]
    rw [Nat.xor_comm, Nat.mul_comm]
    have hl : 2 ^ j < 2 ^ (j + 1) := Nat.pow_lt_pow_right (by omega) (by omega)
    rw [Nat.two_pow_add_eq_or_of_lt hl]
    apply Nat.eq_of_testBit_eq
    intro i
    rw [Nat.testBit_xor, Nat.testBit_or, Nat.testBit_two_pow, Nat.testBit_two_pow_mul]
    by_cases h1 : j + 1 ≤ i
    · have : ¬ j = i := by omega
      simp [h1, this]
    · simp [h1]

theorem op_pow {m : Nat} (hm : Ok m) (n : Nat) : ∀ b j, b < 2 ^ n → n + j ≤ m → op m n b (2 ^ j) = b * 2 ^ j := by
  induction n with
  | zero => intro b j h _; have : b = 0 := by simpa using h
            subst this; simp [op]
  | succ n ih =>
    intro b j h hj
    simp only [op]
    rcases Nat.eq_zero_or_pos n with h0 | h0
    · subst h0
      have : b = 0 ∨ b = 1 := by simp at h; omega
      rcases this with rfl | rfl <;> simp [op]
    · rw [T_pow hm (by omega), ih _ _ (by rw [Nat.pow_succ] at h; omega) (by omega), xor_split]

theorem op_one {m b : Nat} (hm : Ok m) (h : b < 2 ^ m) : op m m b 1 = b := by
  have := op_pow hm m b 0 h (by omega)
  simpa using this

/-- the product -/
def mul (m a b : Nat) : Nat := op m m b a

variable {m a b c : Nat}

theorem mul_lt (hm : Ok m) (b : Nat) (ha : a < 2 ^ m) : mul m a b < 2 ^ m := op_lt hm _ _ _ ha

theorem mul_comm (hm : Ok m) (ha : a < 2 ^ m) (hb : b < 2 ^ m) : mul m a b = mul m b a := by
  unfold mul
  conv => lhs; rw [← op_one hm ha]
  rw [op_comm, op_one hm hb]

theorem mul_assoc (hm : Ok m) (ha : a < 2 ^ m) (hb : b < 2 ^ m) : mul m (mul m a b) c = mul m a (mul m b c) := by
  have e1 : mul m a (mul m b c) = mul m (mul m b c) a := mul_comm hm ha (mul_lt hm c hb)
  rw [e1, mul_comm hm ha hb]
  unfold mul
  rw [op_comm]

theorem mul_xor (m a b c : Nat) : mul m a (b ^^^ c) = mul m a b ^^^ mul m a c := xor_op m m b c a
theorem xor_mul (m a b c : Nat) : mul m (a ^^^ b) c = mul m a c ^^^ mul m b c := op_xor m m c a b
theorem mul_zero (m a : Nat) : mul m a 0 = 0 := op_zero m m a
theorem zero_mul (m a : Nat) : mul m 0 a = 0 := op_of_zero m m a
theorem one_mul (hm : Ok m) (ha : a < 2 ^ m) : mul m 1 a = a := op_one hm ha
theorem one_lt (hm : Ok m) : 1 < 2 ^ m := by rcases hm with rfl | rfl <;> decide
theorem two_lt (hm : Ok m) : 2 < 2 ^ m := by rcases hm with rfl | rfl <;> decide
theorem mul_one (hm : Ok m) (ha : a < 2 ^ m) : mul m a 1 = a := by rw [mul_comm hm ha (one_lt hm), one_mul hm ha]
theorem mul_two (hm : Ok m) : mul m a 2 = T m a := by
  rcases hm with rfl | rfl <;> simp [mul, op]

/-! ### Powers -/
def pw (m a : Nat) : Nat → Nat
  | 0 => 1
  | n + 1 => mul m (pw m a n) a

theorem pw_lt (hm : Ok m) (_ha : a < 2 ^ m) (n : Nat) : pw m a n < 2 ^ m := by
  induction n with
  | zero => exact one_lt hm
  | succ n ih => exact mul_lt hm _ ih

theorem pw_add (hm : Ok m) (ha : a < 2 ^ m) (i j : Nat) : pw m a (i + j) = mul m (pw m a i) (pw m a j) := by
  induction j with
  | zero => exact (mul_one hm (pw_lt hm ha i)).symm
  | succ j ih => rw [← Nat.add_assoc]; simp only [pw]; rw [ih, mul_assoc hm (pw_lt hm ha i) (pw_lt hm ha j)]

theorem pw_one (hm : Ok m) (n : Nat) : pw m 1 n = 1 := by
  induction n with
  | zero => rfl
  | succ n ih => simp only [pw, ih]; exact mul_one hm (one_lt hm)

theorem pw_mul (hm : Ok m) (ha : a < 2 ^ m) (i j : Nat) : pw m a (i * j) = pw m (pw m a i) j := by
  induction j with
  | zero => rfl
  | succ j ih => rw [Nat.mul_succ, pw_add hm ha, ih]; rfl

theorem pw_of_mul (hm : Ok m) (ha : a < 2 ^ m) (hb : b < 2 ^ m) (n : Nat) : pw m (mul m a b) n = mul m (pw m a n) (pw m b n) := by
  induction n with
  | zero => exact (mul_one hm (one_lt hm)).symm
  | succ n ih =>
    simp only [pw, ih]
    have h1 := pw_lt hm ha n
    have h2 := pw_lt hm hb n
    rw [mul_assoc hm h1 h2, mul_assoc hm h1 ha, ← mul_assoc hm h2 ha, ← mul_assoc hm ha h2, mul_comm hm h2 ha]

theorem pw_zero (n : Nat) (h : 0 < n) : pw m 0 n = 0 := by
  obtain ⟨n, rfl⟩ : ∃ k, n = k + 1 := ⟨n - 1, by omega⟩
  exact mul_zero m _

/-- by squares; f bounds the rounds -/
def pb (m : Nat) : Nat → Nat → Nat → Nat → Nat
  | 0, out, _, _ => out
  | f + 1, out, a, n => if n = 0 then out else pb m f (if n % 2 = 1 then mul m out a else out) (mul m a a) (n / 2)

theorem pb_eq (hm : Ok m) (f : Nat) : ∀ out a n, out < 2 ^ m → a < 2 ^ m → n < 2 ^ f → pb m f out a n = mul m out (pw m a n) := by
  induction f with
  | zero =>
    intro out a n ho _ h
    have : n = 0 := by simpa using h
    subst this
    exact (mul_one hm ho).symm
  | succ f ih =>
    intro out a n ho ha h
    simp only [pb]
    split
    · rename_i e; subst e; exact (mul_one hm ho).symm
    · have hn : n / 2 < 2 ^ f := by rw [Nat.pow_succ] at h; omega
      have e2 : pw m (mul m a a) (n / 2) = pw m a (2 * (n / 2)) := by
        rw [pw_mul hm ha]; congr 1; simp only [pw]; rw [one_mul hm ha]
      split
      · rename_i h1
        rw [ih _ _ _ (mul_lt hm _ ho) (mul_lt hm _ ha) hn, e2, mul_assoc hm ho ha]
        congr 1
        have : n = 1 + 2 * (n / 2) := by omega
        conv => rhs; rw [this]
        rw [pw_add hm ha]
        congr 1
        simp only [pw]; rw [one_mul hm ha]
      · rename_i h1
        rw [ih _ _ _ ho (mul_lt hm _ ha) hn, e2]
        congr 2
        omega

/-- the order of the group -/
def ord (m : Nat) : Nat := 2 ^ m - 1

theorem pw_two {f n : Nat} (hm : Ok m) (h : n < 2 ^ f) : pw m 2 n = pb m f 1 2 n := by
  rw [pb_eq hm f 1 2 n (one_lt hm) (two_lt hm) h, one_mul hm (pw_lt hm (two_lt hm) n)]

theorem two_ord (hm : Ok m) : pw m 2 (ord m) = 1 := by
  rcases hm with rfl | rfl
  · rw [pw_two (f := 8) (.inl rfl) (by decide)]; decide +kernel
  · rw [pw_two (f := 16) (.inr rfl) (by decide)]; decide +kernel

theorem two_8 : pw 8 2 85 ≠ 1 ∧ pw 8 2 51 ≠ 1 ∧ pw 8 2 15 ≠ 1 := by
  rw [pw_two (f := 8) (.inl rfl) (by decide), pw_two (f := 8) (.inl rfl) (by decide), pw_two (f := 8) (.inl rfl) (by decide)]; decide +kernel
theorem two_16 : pw 16 2 21845 ≠ 1 ∧ pw 16 2 13107 ≠ 1 ∧ pw 16 2 3855 ≠ 1 ∧ pw 16 2 255 ≠ 1 := by
  rw [pw_two (f := 16) (.inr rfl) (by decide), pw_two (f := 16) (.inr rfl) (by decide), pw_two (f := 16) (.inr rfl) (by decide), pw_two (f := 16) (.inr rfl) (by decide)]; decide +kernel

theorem ord_pos (hm : Ok m) : 0 < ord m := by rcases hm with rfl | rfl <;> decide

theorem pw_dvd (hm : Ok m) (ha : a < 2 ^ m) {d n : Nat} (h : pw m a d = 1) (hd : d ∣ n) : pw m a n = 1 := by
  obtain ⟨k, rfl⟩ := hd
  rw [pw_mul hm ha, h, pw_one hm]

theorem pw_gcd (hm : Ok m) (ha : a < 2 ^ m) : ∀ d n : Nat, pw m a d = 1 → pw m a n = 1 → pw m a (Nat.gcd d n) = 1 := by
  intro d n
  induction d, n using Nat.gcd.induction with
  | H0 n => intro _ h; simpa using h
  | H1 d n hd ih =>
    intro h1 h2
    rw [Nat.gcd_rec]
    refine ih ?_ h1
    have e : n = d * (n / d) + n % d := (Nat.div_add_mod n d).symm
    have h3 : pw m a (d * (n / d)) = 1 := pw_dvd hm ha h1 ⟨_, rfl⟩
    rw [e, pw_add hm ha, h3, one_mul hm (pw_lt hm ha _)] at h2
    exact h2

theorem prime_split {q k n : Nat} (hq : ∀ d, d < q + 1 → d ∣ q → d = 1 ∨ d = q) (h0 : 0 < q) (h : k ∣ q * n) : q ∣ k ∨ k ∣ n := by
  have hd := hq (Nat.gcd k q) (by have := Nat.le_of_dvd h0 (Nat.gcd_dvd_right k q); omega) (Nat.gcd_dvd_right k q)
  rcases hd with h1 | h1
  · exact .inr (Nat.Coprime.dvd_of_dvd_mul_left h1 h)
  · exact .inl (h1 ▸ Nat.gcd_dvd_left k q)

theorem pr3 : ∀ d, d < 3 + 1 → d ∣ 3 → d = 1 ∨ d = 3 := by decide
theorem pr5 : ∀ d, d < 5 + 1 → d ∣ 5 → d = 1 ∨ d = 5 := by decide
theorem pr17 : ∀ d, d < 17 + 1 → d ∣ 17 → d = 1 ∨ d = 17 := by decide
set_option maxRecDepth 10000 in
theorem pr257 : ∀ d, d < 257 + 1 → d ∣ 257 → d = 1 ∨ d = 257 := by decide

theorem dvd_part {q k g r : Nat} (hq : 0 < q) (h : g * k = q * r) (hk : q ∣ k) : g ∣ r := by
  obtain ⟨j, rfl⟩ := hk
  refine ⟨j, ?_⟩
  have : q * (g * j) = q * r := by rw [← h, ← Nat.mul_assoc, Nat.mul_comm q g, Nat.mul_assoc]
  exact (Nat.eq_of_mul_eq_mul_left hq this).symm

theorem div_255 {g : Nat} (h : g ∣ 255) (hl : g < 255) : g ∣ 85 ∨ g ∣ 51 ∨ g ∣ 15 := by
  obtain ⟨k, hk⟩ := h
  have h0 : k ∣ 3 * 85 := ⟨g, by rw [Nat.mul_comm k g]; omega⟩
  rcases prime_split pr3 (by omega) h0 with h | h1
  · exact .inl (dvd_part (q := 3) (by omega) (by omega) h)
  rcases prime_split (q := 5) (n := 17) pr5 (by omega) h1 with h | h2
  · exact .inr (.inl (dvd_part (q := 5) (by omega) (by omega) h))
  rcases prime_split (q := 17) (n := 1) pr17 (by omega) h2 with h | h3
  · exact .inr (.inr (dvd_part (q := 17) (by omega) (by omega) h))
  have : k = 1 := Nat.dvd_one.1 h3
  subst this; omega

theorem div_65535 {g : Nat} (h : g ∣ 65535) (hl : g < 65535) : g ∣ 21845 ∨ g ∣ 13107 ∨ g ∣ 3855 ∨ g ∣ 255 := by
  obtain ⟨k, hk⟩ := h
  have h0 : k ∣ 3 * 21845 := ⟨g, by rw [Nat.mul_comm k g]; omega⟩
  rcases prime_split pr3 (by omega) h0 with h | h1
  · exact .inl (dvd_part (q := 3) (by omega) (by omega) h)
  rcases prime_split (q := 5) (n := 4369) pr5 (by omega) h1 with h | h2
  · exact .inr (.inl (dvd_part (q := 5) (by omega) (by omega) h))
  rcases prime_split (q := 17) (n := 257) pr17 (by omega) h2 with h | h3
  · exact .inr (.inr (.inl (dvd_part (q := 17) (by omega) (by omega) h)))
  rcases prime_split (q := 257) (n := 1) pr257 (by omega) h3 with h | h4
  · exact .inr (.inr (.inr (dvd_part (q := 257) (by omega) (by omega) h)))
  have : k = 1 := Nat.dvd_one.1 h4
  subst this; omega

/-- 2 is primitive -/
theorem two_prim (hm : Ok m) {d : Nat} (h0 : 0 < d) (hl : d < ord m) : pw m 2 d ≠ 1 := by
  intro h
  have hg := pw_gcd hm (two_lt hm) d (ord m) h (two_ord hm)
  have hgl : Nat.gcd d (ord m) < ord m := Nat.lt_of_le_of_lt (Nat.le_of_dvd h0 (Nat.gcd_dvd_left _ _)) hl
  have hgd : Nat.gcd d (ord m) ∣ ord m := Nat.gcd_dvd_right _ _
  generalize Nat.gcd d (ord m) = g at *
  rcases hm with rfl | rfl
  · rcases div_255 (g := g) hgd hgl with h | h | h
    · exact two_8.1 (pw_dvd (.inl rfl) (by decide) hg h)
    · exact two_8.2.1 (pw_dvd (.inl rfl) (by decide) hg h)
    · exact two_8.2.2 (pw_dvd (.inl rfl) (by decide) hg h)
  · rcases div_65535 (g := g) hgd hgl with h | h | h | h
    · exact two_16.1 (pw_dvd (.inr rfl) (by decide) hg h)
    · exact two_16.2.1 (pw_dvd (.inr rfl) (by decide) hg h)
    · exact two_16.2.2.1 (pw_dvd (.inr rfl) (by decide) hg h)
    · exact two_16.2.2.2 (pw_dvd (.inr rfl) (by decide) hg h)

theorem two_ne_zero (hm : Ok m) (i : Nat) (h : i ≤ ord m) : pw m 2 i ≠ 0 := by
  intro e
  have := two_ord hm
  rw [show ord m = i + (ord m - i) by omega, pw_add hm (two_lt hm), e, zero_mul] at this
  omega

theorem two_inj (hm : Ok m) {i j : Nat} (hj : j < ord m) (hij : i < j) : pw m 2 i ≠ pw m 2 j := by
  intro e
  have h2 := two_lt hm
  refine two_prim hm (d := ord m - j + i) (by omega) (by omega) ?_
  rw [pw_add hm h2, e, ← pw_add hm h2, show ord m - j + j = ord m by omega, two_ord hm]

/-- Pigeons. -/
theorem onto_of_inj (n : Nat) : ∀ f : Nat → Nat, (∀ i, i < n → f i < n) → (∀ i j, j < n → i < j → f i ≠ f j) → ∀ y, y < n → ∃ i, i < n ∧ f i = y := by
  induction n with
  | zero => intro f _ _ y hy; omega
  | succ n ih =>
    intro f hf hi y hy
    by_cases hn : f n = n
    · by_cases e : y = n
      · exact ⟨n, by omega, by omega⟩
      · obtain ⟨i, h1, h2⟩ := ih f (fun i h => by
          have := hf i (by omega)
          have := hi i n (by omega) h
          omega) (fun i j h k => hi i j (by omega) k) y (by omega)
        exact ⟨i, by omega, h2⟩
    · have hfn := hf n (by omega)
      have key : ∀ i, i < n → (if f i = n then f n else f i) < n := fun i h => by
        have := hf i (by omega)
        split <;> omega
      have inj : ∀ i j, j < n → i < j → (if f i = n then f n else f i) ≠ (if f j = n then f n else f j) := fun i j h k => by
        have h1 := hi i j (by omega) k
        have h2 := hi i n (by omega) (by omega)
        have h3 := hi j n (by omega) (by omega)
        split <;> split <;> omega
      by_cases e : y = n
      · -- who is sent to n? the value f n must come from elsewhere
        obtain ⟨i, h1, h2⟩ := ih _ key inj (f n) (by omega)
        have h3 := hi i n (by omega) h1
        refine ⟨i, by omega, ?_⟩
        split at h2
        · omega
        · omega
      · by_cases e2 : y = f n
        · exact ⟨n, by omega, e2.symm⟩
        · obtain ⟨i, h1, h2⟩ := ih _ key inj y (by omega)
          refine ⟨i, by omega, ?_⟩
          split at h2
          · omega
          · exact h2

/-- every element but 0 is a power of 2 -/
theorem two_gen (hm : Ok m) (ha : a < 2 ^ m) (h0 : a ≠ 0) : ∃ i, i < ord m ∧ pw m 2 i = a := by
  have hp : 2 ^ m = ord m + 1 := by rcases hm with rfl | rfl <;> decide
  obtain ⟨i, h1, h2⟩ := onto_of_inj (ord m) (fun i => pw m 2 i - 1) (fun i h => by
    have := pw_lt hm (two_lt hm) i
    have := two_ne_zero hm i (by omega)
    show pw m 2 i - 1 < ord m
    omega) (fun i j h k => by
    have := two_inj hm h k
    have := two_ne_zero hm i (by omega)
    have := two_ne_zero hm j (by omega)
    show pw m 2 i - 1 ≠ pw m 2 j - 1
    omega) (a - 1) (by omega)
  refine ⟨i, h1, ?_⟩
  have := two_ne_zero hm i (by omega)
  have h3 : pw m 2 i - 1 = a - 1 := h2
  omega

theorem pw_ord (hm : Ok m) (ha : a < 2 ^ m) (h0 : a ≠ 0) : pw m a (ord m) = 1 := by
  obtain ⟨i, _, rfl⟩ := two_gen hm ha h0
  rw [← pw_mul hm (two_lt hm), Nat.mul_comm, pw_mul hm (two_lt hm), two_ord hm, pw_one hm]

/-- the inverse -/
def inv (m a : Nat) : Nat := pw m a (2 ^ m - 2)

theorem inv_lt (hm : Ok m) (ha : a < 2 ^ m) : inv m a < 2 ^ m := pw_lt hm ha _

theorem inv_mul (hm : Ok m) (ha : a < 2 ^ m) (h0 : a ≠ 0) : mul m (inv m a) a = 1 := by
  have := pw_ord hm ha h0
  rw [show ord m = (2 ^ m - 2) + 1 by rcases hm with rfl | rfl <;> decide] at this
  exact this

theorem mul_inv (hm : Ok m) (ha : a < 2 ^ m) (h0 : a ≠ 0) : mul m a (inv m a) = 1 := by
  rw [mul_comm hm ha (inv_lt hm ha), inv_mul hm ha h0]

theorem inv_unique (hm : Ok m) (ha : a < 2 ^ m) (hb : b < 2 ^ m) (h : mul m b a = 1) : b = inv m a := by
  have h0 : a ≠ 0 := by rintro rfl; rw [mul_zero] at h; omega
  have : mul m (mul m b a) (inv m a) = b := by rw [mul_assoc hm hb ha, mul_inv hm ha h0, mul_one hm hb]
  rw [← this, h, one_mul hm (inv_lt hm ha)]

theorem no_zero_div (hm : Ok m) (ha : a < 2 ^ m) (hb : b < 2 ^ m) (h : mul m a b = 0) : a = 0 ∨ b = 0 := by
  by_cases h0 : b = 0
  · exact .inr h0
  · left
    have : mul m (mul m a b) (inv m b) = a := by rw [mul_assoc hm ha hb, mul_inv hm hb h0, mul_one hm ha]
    rw [← this, h, zero_mul]

theorem cancel (hm : Ok m) (ha : a < 2 ^ m) (hb : b < 2 ^ m) (h0 : b ≠ 0) : mul m (mul m a b) (inv m b) = a := by
  rw [mul_assoc hm ha hb, mul_inv hm hb h0, mul_one hm ha]

theorem inv_ne (hm : Ok m) (ha : a < 2 ^ m) (h0 : a ≠ 0) : inv m a ≠ 0 := by
  intro e
  have := inv_mul hm ha h0
  rw [e, zero_mul] at this
  omega
end Gf

/- Plain: Horner's rule, the extended Euclidean algorithm, reduction, in the fields with 2^8 and 2^16 elements. -/
import Derived.Test.YtgmjaiknboafdaaDoorGf
namespace Gf
variable {m a b : Nat}

theorem op_horner (m n b a : Nat) : op m (n + 1) b a = T m (op m n (b / 2) a) ^^^ (if b % 2 = 1 then a else 0) := by
  simp only [op]; rw [op_T, Nat.xor_comm]

/-- a polynomial modulo that of the field -/
def ev (m f : Nat) : Nat := op m 64 f 1

theorem ev_lt (hm : Ok m) (f : Nat) : ev m f < 2 ^ m := op_lt hm 64 f 1 (one_lt hm)
theorem ev_xor (m f g : Nat) : ev m (f ^^^ g) = ev m f ^^^ ev m g := xor_op m 64 f g 1
theorem ev_small (hm : Ok m) {f : Nat} (h : f < 2 ^ m) : ev m f = f := by
  have h2 : f < 2 ^ 64 := Nat.lt_of_lt_of_le h (Nat.pow_le_pow_right (by decide) (by rcases hm with rfl | rfl <;> decide))
  unfold ev
  rw [op_bits m 64 m f 1 h2 h, op_one hm h]
theorem ev_double {f : Nat} (h : f < 2 ^ 63) : ev m (2 * f) = T m (ev m f) := by
  unfold ev
  have e : op m 64 (2 * f) 1 = op m 63 f (T m 1) := by
    show (if (2 * f) % 2 = 1 then 1 else 0) ^^^ op m 63 (2 * f / 2) (T m 1) = _
    have h1 : (2 * f) % 2 = 0 := by omega
    have h2 : 2 * f / 2 = f := by omega
    rw [h1, h2]; simp
  rw [e, op_T]
  congr 1
  exact op_bits m 63 64 f 1 h (by omega)

/-- t^s x -/
def Ts (m : Nat) : Nat → Nat → Nat
  | 0, x => x
  | s + 1, x => T m (Ts m s x)

theorem ev_shift (s : Nat) : ∀ f : Nat, f * 2 ^ s < 2 ^ 63 → ev m (f * 2 ^ s) = Ts m s (ev m f) := by
  induction s with
  | zero => intro f _; simp [Ts]
  | succ s ih =>
    intro f h
    have e : f * 2 ^ (s + 1) = 2 * (f * 2 ^ s) := by rw [Nat.pow_succ]; rw [← Nat.mul_assoc, Nat.mul_comm]
    rw [e] at h ⊢
    rw [ev_double (by omega), ih f (by omega)]
    rfl

theorem mul_Ts (m s : Nat) : ∀ x a, mul m (Ts m s x) a = Ts m s (mul m x a) := by
  induction s with
  | zero => intro x a; rfl
  | succ s ih => intro x a; simp only [Ts]; rw [← ih]; exact op_T m m a _

theorem ev_md (hm : Ok m) : ev m (md m) = 0 := by
  rcases hm with rfl | rfl <;> decide +kernel

/-- the number of binary digits: the degree is one less -/
def dg : Nat → Nat → Nat
  | 0, _ => 0
  | n + 1, a => if a = 0 then 0 else dg n (a / 2) + 1

theorem dg_zero (n : Nat) : dg n 0 = 0 := by cases n <;> rfl
theorem dg_spec (n : Nat) : ∀ a, a < 2 ^ n → a ≠ 0 → 2 ^ (dg n a - 1) ≤ a ∧ a < 2 ^ (dg n a) ∧ 1 ≤ dg n a := by
  induction n with
  | zero => intro a h h0; simp at h; omega
  | succ n ih =>
    intro a h h0
    rw [show dg (n + 1) a = dg n (a / 2) + 1 by simp [dg, h0]]
    by_cases h1 : a / 2 = 0
    · rw [h1, dg_zero]; simp; omega
    · obtain ⟨h2, h3, h4⟩ := ih (a / 2) (by rw [Nat.pow_succ] at h; omega) h1
      have e : dg n (a / 2) + 1 - 1 = (dg n (a / 2) - 1) + 1 := by omega
      rw [e, Nat.pow_succ, Nat.pow_succ]
      omega
theorem dg_lt {n a : Nat} (h : a < 2 ^ n) : a < 2 ^ dg n a := by
  by_cases h0 : a = 0
  · subst h0; exact Nat.two_pow_pos _
  · exact (dg_spec n a h h0).2.1
theorem dg_le (n : Nat) : ∀ a k, a < 2 ^ k → dg n a ≤ k := by
  induction n with
  | zero => intro a k _; exact Nat.zero_le _
  | succ n ih =>
    intro a k h
    simp only [dg]
    split
    · exact Nat.zero_le _
    · rename_i h0
      cases k with
      | zero => simp at h; omega
      | succ k => have := ih (a / 2) k (by rw [Nat.pow_succ] at h; omega); omega
theorem dg_fuel {n k a : Nat} (h : a < 2 ^ n) (h' : a < 2 ^ k) : dg n a = dg k a := by
  by_cases h0 : a = 0
  · subst h0; rw [dg_zero, dg_zero]
  · have h1 := dg_le n a (dg k a) (dg_lt h')
    have h2 := dg_le k a (dg n a) (dg_lt h)
    omega

/-- two polynomials of one degree: the sum is of a smaller one -/
theorem dg_xor {n x y : Nat} (hx : x < 2 ^ n) (hy : y < 2 ^ n) (hx0 : x ≠ 0) (h : dg n x = dg n y) : x ^^^ y < 2 ^ (dg n x - 1) := by
  obtain ⟨a1, a2, a3⟩ := dg_spec n x hx hx0
  have hy0 : y ≠ 0 := by rintro rfl; rw [dg_zero] at h; omega
  obtain ⟨b1, b2, _⟩ := dg_spec n y hy hy0
  rw [← h] at b1 b2
  obtain ⟨k, hk⟩ : ∃ k, dg n x = k + 1 := ⟨dg n x - 1, by omega⟩
  rw [hk] at a1 a2 b1 b2 ⊢
  exact xor_lt_of_top a2 b2 a1 b1

theorem dg_shift {n x s : Nat} (h0 : x ≠ 0) (h : x * 2 ^ s < 2 ^ n) : dg n (x * 2 ^ s) = dg n x + s := by
  have hx : x < 2 ^ n := Nat.lt_of_le_of_lt (Nat.le_mul_of_pos_right _ (Nat.two_pow_pos s)) h
  obtain ⟨a1, a2, a3⟩ := dg_spec n x hx h0
  have hp := Nat.two_pow_pos s
  have h1 : dg n (x * 2 ^ s) ≤ dg n x + s := dg_le n _ _ (by
    rw [Nat.pow_add]; exact Nat.mul_lt_mul_of_pos_right a2 hp)
  have h2 : ¬ dg n (x * 2 ^ s) ≤ dg n x + s - 1 := by
    intro hle
    have h3 := dg_lt h
    have h4 : x * 2 ^ s < 2 ^ (dg n x + s - 1) := Nat.lt_of_lt_of_le h3 (Nat.pow_le_pow_right (by decide) hle)
    rw [show dg n x + s - 1 = (dg n x - 1) + s by omega, Nat.pow_add] at h4
    have := Nat.mul_le_mul_right (2 ^ s) a1
    omega
  omega

/-- the lowest digits' determinant -/
def low (u v x y : Nat) : Nat := (u % 2 * (y % 2) + v % 2 * (x % 2)) % 2

/-- What holds at the head of each round of the Euclidean algorithm. -/
structure Inv (m a u v x y : Nat) : Prop where
  hu : ev m u = mul m (ev m x) a
  hv : ev m v = mul m (ev m y) a
  hl : low u v x y = 1
  u0 : u ≠ 0
  v0 : v ≠ 0
  v1 : v ≠ 1
  uy : dg 17 u + dg 17 y ≤ m + 2
  vx : dg 17 v + dg 17 x ≤ m + 2
  bu : u < 2 ^ 17
  bv : v < 2 ^ 17
  bx : x < 2 ^ 17
  bY : y < 2 ^ 17

theorem ok_le (hm : Ok m) : m ≤ 16 ∧ 8 ≤ m := by rcases hm with rfl | rfl <;> decide

theorem Inv.start (hm : Ok m) (ha : a < 2 ^ m) (h0 : a ≠ 0) : Inv m a a (md m) 1 0 := by
  have h16 : 2 ^ m ≤ 2 ^ 16 := Nat.pow_le_pow_right (by decide) (ok_le hm).1
  have ha17 : a < 2 ^ 17 := by omega
  have e1 : ev m 1 = 1 := ev_small hm (one_lt hm)
  have e0 : ev m 0 = 0 := ev_small hm (Nat.two_pow_pos m)
  refine ⟨?_, ?_, ?_, h0, ?_, ?_, ?_, ?_, ha17, ?_, by decide, by decide⟩
  · rw [e1, ev_small hm ha, one_mul hm ha]
  · rw [e0, zero_mul, ev_md hm]
  · rcases hm with rfl | rfl <;> simp [low, md]
  · rcases hm with rfl | rfl <;> decide
  · rcases hm with rfl | rfl <;> decide
  · rw [dg_zero]; have := dg_le 17 a m ha; omega
  · rcases hm with rfl | rfl <;> decide
  · rcases hm with rfl | rfl <;> decide

theorem Inv.swap {u v x y : Nat} (h : Inv m a u v x y) (h1 : u ≠ 1) : Inv m a v u y x :=
  ⟨h.hv, h.hu, by have := h.hl; unfold low at *; rw [Nat.add_comm]; exact this, h.v0, h.u0, h1, h.vx, h.uy, h.bv, h.bu, h.bY, h.bx⟩

theorem low_step (u v x y s : Nat) : low (u ^^^ (v * 2 ^ s)) v (x ^^^ (y * 2 ^ s)) y = low u v x y := by
  unfold low
  rw [mod_xor, mod_xor]
  cases s with
  | zero =>
    simp only [Nat.pow_zero, Nat.mul_one]
    rcases Nat.mod_two_eq_zero_or_one u with h | h <;> rcases Nat.mod_two_eq_zero_or_one v with h' | h' <;> rcases Nat.mod_two_eq_zero_or_one x with h2 | h2 <;> rcases Nat.mod_two_eq_zero_or_one y with h3 | h3 <;> simp [h, h', h2, h3]
  | succ s =>
    have e1 : v * 2 ^ (s + 1) % 2 = 0 := by rw [Nat.pow_succ, ← Nat.mul_assoc]; omega
    have e2 : y * 2 ^ (s + 1) % 2 = 0 := by rw [Nat.pow_succ, ← Nat.mul_assoc]; omega
    rw [e1, e2]
    simp

theorem two_le_dg {v : Nat} (h : v < 2 ^ 17) (h0 : v ≠ 0) (h1 : v ≠ 1) : 2 ≤ dg 17 v := by
  have h3 := dg_lt h
  have := (dg_spec 17 v h h0).2.2
  rcases Nat.lt_or_ge (dg 17 v) 2 with h4 | h4
  · have : dg 17 v = 1 := by omega
    rw [this] at h3; omega
  · exact h4

/-- A round. -/
theorem Inv.step (hm : Ok m) (ha : a < 2 ^ m) (h0 : a ≠ 0) {u v x y : Nat} (h : Inv m a u v x y) (hd : dg 17 v ≤ dg 17 u) :
    Inv m a (u ^^^ (v * 2 ^ (dg 17 u - dg 17 v))) v (x ^^^ (y * 2 ^ (dg 17 u - dg 17 v))) y ∧ dg 17 (u ^^^ (v * 2 ^ (dg 17 u - dg 17 v))) < dg 17 u ∧
      v * 2 ^ (dg 17 u - dg 17 v) < 2 ^ 17 ∧ y * 2 ^ (dg 17 u - dg 17 v) < 2 ^ 17 := by
  obtain ⟨s, hs⟩ : ∃ s, dg 17 u - dg 17 v = s := ⟨_, rfl⟩
  rw [hs]
  have hm16 := ok_le hm
  have hv2 := two_le_dg h.bv h.v0 h.v1
  have hu17 : dg 17 u ≤ 17 := dg_le 17 u 17 h.bu
  have bvs : v * 2 ^ s < 2 ^ (dg 17 u) := by
    rw [show dg 17 u = dg 17 v + s by omega, Nat.pow_add]
    exact Nat.mul_lt_mul_of_pos_right (dg_lt h.bv) (Nat.two_pow_pos s)
  have bvs17 : v * 2 ^ s < 2 ^ 17 := Nat.lt_of_lt_of_le bvs (Nat.pow_le_pow_right (by decide) hu17)
  have bys : y * 2 ^ s < 2 ^ (dg 17 y + s) := by
    rw [Nat.pow_add]
    exact Nat.mul_lt_mul_of_pos_right (dg_lt h.bY) (Nat.two_pow_pos s)
  have uy := h.uy
  have vx := h.vx
  have bysm : y * 2 ^ s < 2 ^ (m + 2 - dg 17 v) := Nat.lt_of_lt_of_le bys (Nat.pow_le_pow_right (by decide) (by omega))
  have bys17 : y * 2 ^ s < 2 ^ 17 := Nat.lt_of_lt_of_le bysm (Nat.pow_le_pow_right (by decide) (by omega))
  have bxm : x < 2 ^ (m + 2 - dg 17 v) := Nat.lt_of_lt_of_le (dg_lt h.bx) (Nat.pow_le_pow_right (by decide) (by omega))
  have bx' : x ^^^ (y * 2 ^ s) < 2 ^ (m + 2 - dg 17 v) := Nat.xor_lt_two_pow bxm bysm
  have dvs : dg 17 u = dg 17 (v * 2 ^ s) := by rw [dg_shift h.v0 bvs17]; omega
  have bu' : u ^^^ (v * 2 ^ s) < 2 ^ (dg 17 u - 1) := dg_xor h.bu bvs17 h.u0 dvs
  have du' : dg 17 (u ^^^ (v * 2 ^ s)) ≤ dg 17 u - 1 := dg_le 17 _ _ bu'
  have eu : ev m (u ^^^ (v * 2 ^ s)) = mul m (ev m (x ^^^ (y * 2 ^ s))) a := by
    rw [ev_xor, ev_xor, ev_shift s v (by omega), ev_shift s y (by omega), xor_mul, mul_Ts, ← h.hu, ← h.hv]
  have hl' := (low_step u v x y s).trans h.hl
  refine ⟨⟨eu, h.hv, hl', ?_, h.v0, h.v1, by omega, ?_, ?_, h.bv, ?_, h.bY⟩, by omega, bvs17, bys17⟩
  · intro e
    rw [e] at eu hl'
    have e0 : ev m 0 = 0 := ev_small hm (Nat.two_pow_pos m)
    rw [e0] at eu
    have hx0 := (no_zero_div hm (ev_lt hm _) ha eu.symm).resolve_right h0
    rw [ev_small hm (Nat.lt_of_lt_of_le bx' (Nat.pow_le_pow_right (by decide) (by omega)))] at hx0
    rw [hx0] at hl'
    simp [low] at hl'
  · have := dg_le 17 _ _ bx'
    omega
  · exact Nat.lt_of_lt_of_le bu' (Nat.pow_le_pow_right (by decide) (by omega))
  · exact Nat.lt_of_lt_of_le bx' (Nat.pow_le_pow_right (by decide) (by omega))

/-- the end -/
theorem Inv.done (hm : Ok m) (ha : a < 2 ^ m) {v x y : Nat} (h : Inv m a 1 v x y) : ev m x = inv m a := by
  have := h.hu
  rw [ev_small hm (one_lt hm)] at this
  exact inv_unique hm ha (ev_lt hm x) this.symm

/-- reduction, a round -/
theorem ev_reduce (hm : Ok m) {x : Nat} (hx : x < 2 ^ 17) (hd : m < dg 17 x) : ev m (x ^^^ (md m * 2 ^ (dg 17 x - 1 - m))) = ev m x ∧ dg 17 (x ^^^ (md m * 2 ^ (dg 17 x - 1 - m))) < dg 17 x ∧
    x ^^^ (md m * 2 ^ (dg 17 x - 1 - m)) < 2 ^ 17 ∧ md m * 2 ^ (dg 17 x - 1 - m) < 2 ^ 17 := by
  obtain ⟨s, hs⟩ : ∃ s, dg 17 x - 1 - m = s := ⟨_, rfl⟩
  rw [hs]
  have hx17 : dg 17 x ≤ 17 := dg_le 17 x 17 hx
  have e : dg 17 (md m) = m + 1 ∧ md m < 2 ^ 17 ∧ md m < 2 ^ (m + 1) ∧ md m ≠ 0 := by rcases hm with rfl | rfl <;> decide
  have b : md m * 2 ^ s < 2 ^ 17 := by
    refine Nat.lt_of_lt_of_le (m := 2 ^ (m + 1) * 2 ^ s) (Nat.mul_lt_mul_of_pos_right e.2.2.1 (Nat.two_pow_pos s)) ?_
    rw [← Nat.pow_add]
    exact Nat.pow_le_pow_right (by decide) (by omega)
  have d : dg 17 x = dg 17 (md m * 2 ^ s) := by rw [dg_shift e.2.2.2 b, e.1]; omega
  have hx0 : x ≠ 0 := by rintro rfl; rw [dg_zero] at hd; omega
  have bx := dg_xor hx b hx0 d
  have z : ∀ k, Ts m k 0 = 0 := by
    intro k
    induction k with
    | zero => rfl
    | succ k ih => simp only [Ts, ih, T_zero]
  refine ⟨?_, ?_, Nat.lt_of_lt_of_le bx (Nat.pow_le_pow_right (by decide) (by omega)), b⟩
  · rw [ev_xor, ev_shift s _ (by omega), ev_md hm, z, Nat.xor_zero]
  · have := dg_le 17 _ _ bx; omega
end Gf

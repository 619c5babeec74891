/- Powers in the field: what field.Pow answers; the law of the powers. -/
import Derived.Test.YtgmjaiknboafdaaDoorFc
import Derived.Test.YtgmjaiknboafdaaDoorP8
namespace Go.Proofs.YtgmjaiknboafdaaDoor.H
open Go.RowKit Go.Proofs.YtgmjaiknboafdaaDoorW.PrintWords Go.Proofs.YtgmjaiknboafdaaDoorW.PrintLast Go.Proofs.YtgmjaiknboafdaaDoorW.PrintMore Go.Proofs.YtgmjaiknboafdaaDoor.P

theorem pow_loop {n : Nat} (hn : Gf.Ok n) (f : Nat) : ∀ (k x e out : Nat), x < 2 ^ n → out < 2 ^ n → e < 2 ^ f → f ≤ 60 → f + 50 ≤ k →
    field_Pow.l0 k (n : Int) (x : Int) (e : Int) (out : Int) = some ((Gf.mul n out (Gf.pw n x e) : Int), 0) := by
  induction f with
  | zero =>
    intro k x e out hx ho he _ hk
    obtain ⟨k, rfl⟩ : ∃ q, k = q + 1 := ⟨k - 1, by omega⟩
    have : e = 0 := by simpa using he
    subst this
    simp only [field_Pow.l0]
    rw [if_neg (by simp)]
    simp only [Gf.pw]
    rw [Gf.mul_one hn ho]
  | succ f ih =>
    intro k x e out hx ho he hf hk
    obtain ⟨k, rfl⟩ : ∃ q, k = q + 1 := ⟨k - 1, by omega⟩
    have he' : e / 2 < 2 ^ f := by rw [Nat.pow_succ] at he; omega
    have he62 : e < 2 ^ 62 := Nat.lt_of_lt_of_le he (Nat.pow_le_pow_right (by decide) (by omega))
    simp only [field_Pow.l0]
    by_cases h0 : e = 0
    · subst h0
      rw [if_neg (by simp)]
      simp only [Gf.pw]
      rw [Gf.mul_one hn ho]
    · rw [if_pos (by omega), and1_nat e he62]
      have e2 : (e : Int) / 2 = ((e / 2 : Nat) : Int) := by omega
      have hsq : Gf.pw n (Gf.mul n x x) (e / 2) = Gf.pw n x (2 * (e / 2)) := by
        rw [Gf.pw_mul hn hx]; congr 1; simp only [Gf.pw]; rw [Gf.one_mul hn hx]
      rcases Nat.mod_two_eq_zero_or_one e with h | h
      · rw [if_pos (by omega), product_eq hn hx hx k (by omega), Option.bind_some, e2, ih k _ _ _ (Gf.mul_lt hn x hx) ho he' (by omega) (by omega), hsq]
        congr 5
        omega
      · rw [if_neg (by omega), product_eq hn ho hx k (by omega), Option.bind_some, product_eq hn hx hx k (by omega), Option.bind_some, e2, ih k _ _ _ (Gf.mul_lt hn x hx) (Gf.mul_lt hn x ho) he' (by omega) (by omega), hsq, Gf.mul_assoc hn ho hx]
        have e3 : Gf.mul n x (Gf.pw n x (2 * (e / 2))) = Gf.pw n x e := by
          have := Gf.pw_add hn hx 1 (2 * (e / 2))
          rw [show Gf.pw n x 1 = x by simp only [Gf.pw]; rw [Gf.one_mul hn hx]] at this
          rw [← this]
          congr 1
          omega
        rw [e3]

/-- the exponent that counts -/
def em (n : Nat) (e : Int) : Nat := (e % ((2 ^ n - 1 : Nat) : Int)).toNat

theorem ord_pos {n : Nat} (hn : Gf.Ok n) : 255 ≤ 2 ^ n - 1 ∧ 2 ^ n - 1 ≤ 65535 := by rcases hn with rfl | rfl <;> decide
theorem em_lt {n : Nat} (hn : Gf.Ok n) (e : Int) : em n e < 2 ^ n - 1 := by
  have h := ord_pos hn
  have h1 := Int.emod_nonneg e (b := ((2 ^ n - 1 : Nat) : Int)) (by omega)
  have h2 := Int.emod_lt_of_pos e (b := ((2 ^ n - 1 : Nat) : Int)) (by omega)
  unfold em
  omega
theorem em_cast {n : Nat} (hn : Gf.Ok n) (e : Int) : (em n e : Int) = e % ((2 ^ n - 1 : Nat) : Int) := by
  have h := ord_pos hn
  have h1 := Int.emod_nonneg e (b := ((2 ^ n - 1 : Nat) : Int)) (by omega)
  unfold em
  omega
theorem tmod_twice {q : Nat} (h1 : 255 ≤ q) (h2 : q ≤ 65535) (e : Int) : Int.tmod (wrap64 (Int.tmod e (q : Int) + q)) (q : Int) = e % (q : Int) := by
  have a := Int.tmod_lt_of_pos e (b := (q : Int)) (by omega)
  have b : -(q : Int) < Int.tmod e q := Int.lt_tmod_of_pos e (by omega)
  rw [w64 (by omega) (by omega), Int.tmod_eq_emod_of_nonneg (by omega), Int.add_emod_right]
  have c := Int.mul_tdiv_add_tmod e (q : Int)
  conv => rhs; rw [← c]
  rw [Int.mul_add_emod_self_left]

theorem q_go {n : Nat} (hn : Gf.Ok n) : wrap64 (shl .i64 1 (n : Int) - 1) = ((2 ^ n - 1 : Nat) : Int) := by
  have hp := pow_le16 hn
  have h := ord_pos hn
  rw [shl_one hn, w64 (by omega) (by omega)]
  omega

theorem Pow_ok {n x : Nat} (hn : Gf.Ok n) (hx : x < 2 ^ n) (h0 : x ≠ 0) (e : Int) (k : Nat) (hk : 200 ≤ k) : field_Pow.f k (n : Int) (x : Int) e = some ((Gf.pw n x (em n e) : Int), 0) := by
  have h := ord_pos hn
  have hl := em_lt hn e
  unfold field_Pow.f
  rw [(all_one _ _).1 (El.mk hn hx), Option.bind_some, if_pos rfl, if_neg (by omega)]
  obtain ⟨k, rfl⟩ : ∃ q, k = q + 2 := ⟨k - 2, by omega⟩
  simp only [field_Pow.j0, field_Pow.j1]
  rw [if_neg (by decide), if_neg (by omega), if_pos (by omega), q_go hn, if_neg (by omega), tmod_twice h.1 h.2, ← em_cast hn]
  have := pow_loop hn 60 k x (em n e) 1 hx (Gf.one_lt hn) (by omega) (by omega) (by omega)
  rw [Gf.one_mul hn (Gf.pw_lt hn hx _)] at this
  exact this
theorem Pow_bad {m a : Int} (h : ¬ El m a) (e : Int) (k : Nat) : field_Pow.f k m a e = some (0, 1) := by
  unfold field_Pow.f
  rw [(all_one _ _).2 h, Option.bind_some, if_neg (by simp)]
theorem Pow_zero {n : Nat} (hn : Gf.Ok n) (e : Int) (k : Nat) (hk : 200 ≤ k) : field_Pow.f k (n : Int) 0 e = some (if e < 0 then (0, 12) else if 0 < e then (0, 0) else (1, 0)) := by
  have h : El (n : Int) 0 := El.mk hn (x := 0) (Nat.two_pow_pos n)
  have hq := ord_pos hn
  unfold field_Pow.f
  rw [(all_one _ _).1 h, Option.bind_some, if_pos rfl, if_pos rfl]
  obtain ⟨k, rfl⟩ : ∃ q, k = q + 2 := ⟨k - 2, by omega⟩
  simp only [field_Pow.j0, field_Pow.j1]
  by_cases h1 : e < 0
  · rw [if_pos (by simp [h1]), if_pos h1]
  · rw [if_neg (by simp [h1]), if_pos trivial, if_neg h1]
    by_cases h2 : 0 < e
    · rw [if_pos h2, if_pos h2]
    · rw [if_neg h2, if_neg h2, if_pos (by omega), q_go hn, if_neg (by omega), tmod_twice hq.1 hq.2]
      have e0 : e = 0 := by omega
      subst e0
      rw [Int.zero_emod]
      have := pow_loop hn 60 k 0 0 1 (Nat.two_pow_pos n) (Gf.one_lt hn) (by omega) (by omega) (by omega)
      simp only [Gf.pw] at this
      rw [Gf.one_mul hn (Gf.one_lt hn)] at this
      exact this

/-! ### the law of the powers -/
theorem pw_mod {n x : Nat} (hn : Gf.Ok n) (hx : x < 2 ^ n) (h0 : x ≠ 0) (s : Nat) : Gf.pw n x s = Gf.pw n x (s % (2 ^ n - 1)) := by
  conv => lhs; rw [← Nat.div_add_mod s (2 ^ n - 1)]
  rw [Gf.pw_add hn hx, Gf.pw_mul hn hx]
  have := Gf.pw_ord hn hx h0
  unfold Gf.ord at this
  rw [this, Gf.pw_one hn, Gf.one_mul hn (Gf.pw_lt hn hx _)]
theorem pw_em {n x : Nat} (hn : Gf.Ok n) (hx : x < 2 ^ n) (h0 : x ≠ 0) (i j : Int) : Gf.pw n x (em n (i + j)) = Gf.mul n (Gf.pw n x (em n i)) (Gf.pw n x (em n j)) := by
  rw [← Gf.pw_add hn hx, pw_mod hn hx h0 (em n i + em n j)]
  congr 1
  have h : ((em n (i + j) : Nat) : Int) = (((em n i + em n j) % (2 ^ n - 1) : Nat) : Int) := by
    rw [em_cast hn, Int.natCast_emod, Int.natCast_add, em_cast hn, em_cast hn, Int.add_emod]
  exact_mod_cast h

theorem powers_round {n : Nat} (hn : Gf.Ok n) (l : Int) (hl : l < 2) (hM : wrap64 (8 + wrap64 (8 * l)) = (n : Int)) (a : Nat) (ha : a < 65536) (i j : Int) (hi : -2147483648 ≤ i ∧ i ≤ 2147483647) (hj : -2147483648 ≤ j ∧ j ≤ 2147483647) (t : Bool) (k : Nat) (hk : 300 ≤ k) :
    solventlaw05_FieldPowers.l0 (k + 1) (a : Int) i j t l = solventlaw05_FieldPowers.l0 k (a : Int) i j t (wrap64 (l + 1)) := by
  have h := ord_pos hn
  have hp := pow_le16 hn
  obtain ⟨x, hxe⟩ : ∃ x, x = 1 + a % (2 ^ n - 1) := ⟨_, rfl⟩
  have hx1 : a % (2 ^ n - 1) < 2 ^ n - 1 := Nat.mod_lt _ (by omega)
  have hx : x < 2 ^ n := by omega
  have h0 : x ≠ 0 := by omega
  have hX : wrap64 (1 + Int.tmod (wrap64 (a : Int)) ((2 ^ n - 1 : Nat) : Int)) = (x : Int) := by
    rw [w64 (x := (a : Int)) (by omega) (by omega), Int.tmod_eq_emod_of_nonneg (by omega), ← Int.natCast_emod, w64 (by omega) (by omega)]
    omega
  simp only [solventlaw05_FieldPowers.l0]
  rw [if_pos hl, hM, if_pos (by omega), q_go hn, if_neg (by omega), hX, w64 (x := i) (by omega) (by omega), w64 (x := j) (by omega) (by omega), w64 (x := i + j) (by omega) (by omega), w64 (x := -i) (by omega) (by omega)]
  rw [Pow_ok hn hx h0 i k (by omega), Option.bind_some, Pow_ok hn hx h0 j k (by omega), Option.bind_some, Pow_ok hn hx h0 (i + j) k (by omega), Option.bind_some]
  simp only
  have hu := Gf.pw_lt hn hx (em n i)
  have hv := Gf.pw_lt hn hx (em n j)
  rw [Mul_ok hn hu hv k (by omega), Option.bind_some, Pow_ok hn hx h0 ((2 ^ n - 1 : Nat) : Int) k (by omega), Option.bind_some, Pow_ok hn hx h0 (-i) k (by omega), Option.bind_some]
  have hinv : Gf.mul n (Gf.pw n x (em n (-i))) (Gf.pw n x (em n i)) = 1 := by
    rw [← pw_em hn hx h0, Int.add_left_neg]
    simp [em, Gf.pw]
  have hu0 : Gf.pw n x (em n i) ≠ 0 := by
    intro e
    rw [e, Gf.mul_zero] at hinv
    omega
  simp only
  rw [Inv_ok hn hu hu0 k (by omega), Option.bind_some]
  simp only
  rw [if_pos trivial, if_pos trivial, if_pos trivial, if_pos trivial, if_pos (by rw [pw_em hn hx h0]), if_pos (by simp [em, Gf.pw]), if_pos (by rw [Gf.inv_unique hn hu (Gf.pw_lt hn hx _) hinv])]

theorem rg_u16 (x : Int) (h : (Lit.int .u16 x).wf = true) : ∃ n : Nat, x = n ∧ n < 65536 := by
  have : 0 ≤ x ∧ x ≤ 65535 := by
    simp [Lit.wf] at h
    exact ⟨Int.le_trans (by decide) h.1, Int.le_trans h.2 (by decide)⟩
  exact ⟨x.toNat, by omega, by omega⟩
theorem rg_i32 (x : Int) (h : (Lit.int .i32 x).wf = true) : -2147483648 ≤ x ∧ x ≤ 2147483647 := by
  simp only [Lit.wf, Bool.and_eq_true, decide_eq_true_eq] at h
  exact ⟨Int.le_trans (by decide) h.1, Int.le_trans h.2 (by decide)⟩

theorem powers_pure (a i j : Int) (ha : (Lit.int .u16 a).wf = true) (hi : (Lit.int .i32 i).wf = true) (hj : (Lit.int .i32 j).wf = true) : ∃ k, solventlaw05_FieldPowers.f k a i j = some true := by
  obtain ⟨a, rfl, ua⟩ := rg_u16 a ha
  have ui := rg_i32 i hi
  have uj := rg_i32 j hj
  obtain ⟨k, hk⟩ : ∃ k : Nat, k = 400 := ⟨_, rfl⟩
  refine ⟨k + 3, ?_⟩
  unfold solventlaw05_FieldPowers.f
  rw [sanity_ok (k + 3) (by omega), Option.bind_some]
  rw [powers_round (n := 8) (.inl rfl) 0 (by omega) (by unfold wrap64; omega) a ua i j ui uj true (k + 2) (by omega)]
  rw [show wrap64 (0 + 1) = 1 by unfold wrap64; omega, powers_round (n := 16) (.inr rfl) 1 (by omega) (by unfold wrap64; omega) a ua i j ui uj true (k + 1) (by omega)]
  simp only [solventlaw05_FieldPowers.l0]
  rw [if_neg (by unfold wrap64; omega)]
end Go.Proofs.YtgmjaiknboafdaaDoor.H

/- What the functions of the package field, and of its reference, answer. -/
import Derived.Test.YtgmjaiknboafdaaDoorFa
import Derived.Test.YtgmjaiknboafdaaDoorP3
import Derived.Test.YtgmjaiknboafdaaDoorP4
namespace Go.Proofs.YtgmjaiknboafdaaDoor.H
open Go.RowKit Go.Proofs.YtgmjaiknboafdaaDoorW.PrintWords Go.Proofs.YtgmjaiknboafdaaDoorW.PrintLast Go.Proofs.YtgmjaiknboafdaaDoorW.PrintMore Go.Proofs.YtgmjaiknboafdaaDoor.P

/-! ### field.degree, reduce, inverse -/
theorem degree_loop (n : Nat) : ∀ (a k : Nat) (x : Int), a < 2 ^ n → n < k → -1 ≤ x → x + n ≤ 100 → field_degree.l0 k (a : Int) x = some (x + Gf.dg n a) := by
  induction n with
  | zero =>
    intro a k x h hk _ _
    obtain ⟨k, rfl⟩ : ∃ q, k = q + 1 := ⟨k - 1, by omega⟩
    have : a = 0 := by simpa using h
    subst this
    simp [field_degree.l0, Gf.dg]
  | succ n ih =>
    intro a k x h hk h1 h2
    obtain ⟨k, rfl⟩ : ∃ q, k = q + 1 := ⟨k - 1, by omega⟩
    simp only [field_degree.l0]
    by_cases h0 : a = 0
    · subst h0; rw [if_pos (by omega), Gf.dg_zero]; simp
    · rw [if_neg (by omega), w64 (by omega) (by omega)]
      have e : ((a : Int) / 2) = ((a / 2 : Nat) : Int) := by omega
      rw [e, ih (a / 2) k (x + 1) (by rw [Nat.pow_succ] at h; omega) (by omega) (by omega) (by omega)]
      simp only [Gf.dg, if_neg h0]
      congr 1
      omega
theorem degree_eq {a : Nat} (h : a < 2 ^ 17) (k : Nat) (hk : 18 ≤ k) : field_degree.f k (a : Int) = some ((Gf.dg 17 a : Int) - 1) := by
  unfold field_degree.f
  rw [degree_loop 17 a k (-1) h (by omega) (by omega) (by omega), Int.add_comm]
  rfl

theorem reduce_loop {m : Nat} (hm : Gf.Ok m) (d : Nat) : ∀ (k x : Nat), x < 2 ^ 17 → Gf.dg 17 x ≤ d → d + 20 ≤ k →
    field_reduce.l0 k (m : Int) (x : Int) ((Gf.dg 17 x : Int) - 1) = some (Gf.ev m x : Int) := by
  have hm16 := okm hm
  induction d with
  | zero =>
    intro k x hx hd hk
    obtain ⟨k, rfl⟩ : ∃ q, k = q + 1 := ⟨k - 1, by omega⟩
    simp only [field_reduce.l0]
    rw [if_neg (by omega), Gf.ev_small hm]
    have := Gf.dg_lt hx
    exact Nat.lt_of_lt_of_le this (Nat.pow_le_pow_right (by decide) (by omega))
  | succ d ih =>
    intro k x hx hd hk
    obtain ⟨k, rfl⟩ : ∃ q, k = q + 1 := ⟨k - 1, by omega⟩
    simp only [field_reduce.l0]
    by_cases hc : m < Gf.dg 17 x
    · have h17 := Gf.dg_le 17 x 17 hx
      obtain ⟨r1, r2, r3, r4⟩ := Gf.ev_reduce hm hx hc
      rw [if_pos (by omega), modulus_md hm, Option.bind_some, w64 (by omega) (by omega), if_pos (by omega)]
      have e : ((Gf.dg 17 x : Int) - 1 - m) = ((Gf.dg 17 x - 1 - m : Nat) : Int) := by omega
      rw [e, shl_nat _ _ (by omega) (by omega), xor_nat _ _ (by omega) (by omega), degree_eq r3 k (by omega), Option.bind_some, ih k _ r3 (by omega) (by omega), r1]
    · rw [if_neg (by omega), Gf.ev_small hm]
      have := Gf.dg_lt hx
      exact Nat.lt_of_lt_of_le this (Nat.pow_le_pow_right (by decide) (by omega))
theorem reduce_eq {m x : Nat} (hm : Gf.Ok m) (hx : x < 2 ^ 17) (k : Nat) (hk : 40 ≤ k) : field_reduce.f k (m : Int) (x : Int) = some (Gf.ev m x : Int) := by
  unfold field_reduce.f
  rw [degree_eq hx k (by omega), Option.bind_some]
  exact reduce_loop hm 17 k x hx (Gf.dg_le 17 x 17 hx) (by omega)

theorem inverse_loop {m a : Nat} (hm : Gf.Ok m) (ha : a < 2 ^ m) (h0 : a ≠ 0) (d : Nat) : ∀ (k u v x y : Nat), Gf.Inv m a u v x y → Gf.dg 17 u + Gf.dg 17 v ≤ d → d + 50 ≤ k →
    field_inverse.l0 k (m : Int) (u : Int) (v : Int) (x : Int) (y : Int) = some (Gf.inv m a : Int) := by
  have hm16 := okm hm
  induction d with
  | zero =>
    intro k u v x y hi hd hk
    have := (Gf.dg_spec 17 u hi.bu hi.u0).2.2
    omega
  | succ d ih =>
    intro k u v x y hi hd hk
    obtain ⟨k, rfl⟩ : ∃ q, k = q + 1 := ⟨k - 1, by omega⟩
    simp only [field_inverse.l0]
    have bu := hi.bu
    have bv := hi.bv
    have bx := hi.bx
    have bY := hi.bY
    by_cases h1 : u = 1
    · subst h1
      rw [if_pos (by omega), reduce_eq hm bx k (by omega), Option.bind_some, hi.done hm ha]
    · have hu17 := Gf.dg_le 17 u 17 bu
      have hv17 := Gf.dg_le 17 v 17 bv
      rw [if_neg (by omega), degree_eq bu k (by omega), Option.bind_some, degree_eq bv k (by omega), Option.bind_some, w64 (by omega) (by omega)]
      by_cases hc : Gf.dg 17 u < Gf.dg 17 v
      · obtain ⟨s1, s2, s3, s4⟩ := (hi.swap h1).step hm ha h0 (Nat.le_of_lt hc)
        rw [if_pos (by omega), w64 (by omega) (by omega), if_pos (by omega)]
        have e : -((Gf.dg 17 u : Int) - 1 - ((Gf.dg 17 v : Int) - 1)) = ((Gf.dg 17 v - Gf.dg 17 u : Nat) : Int) := by omega
        rw [e, shl_nat _ _ (by omega) (by omega), shl_nat _ _ (by omega) (by omega), xor_nat _ _ (by omega) (by omega), xor_nat _ _ (by omega) (by omega)]
        exact ih k _ _ _ _ s1 (by omega) (by omega)
      · obtain ⟨s1, s2, s3, s4⟩ := hi.step hm ha h0 (by omega)
        rw [if_neg (by omega), if_pos (by omega)]
        have e : ((Gf.dg 17 u : Int) - 1 - ((Gf.dg 17 v : Int) - 1)) = ((Gf.dg 17 u - Gf.dg 17 v : Nat) : Int) := by omega
        rw [e, shl_nat _ _ (by omega) (by omega), shl_nat _ _ (by omega) (by omega), xor_nat _ _ (by omega) (by omega), xor_nat _ _ (by omega) (by omega)]
        exact ih k _ _ _ _ s1 (by omega) (by omega)
theorem inverse_eq {m a : Nat} (hm : Gf.Ok m) (ha : a < 2 ^ m) (h0 : a ≠ 0) (k : Nat) (hk : 100 ≤ k) : field_inverse.f k (m : Int) (a : Int) = some (Gf.inv m a : Int) := by
  unfold field_inverse.f
  rw [modulus_md hm, Option.bind_some]
  have h1 := Gf.dg_le 17 a 17 (by have := pow_le16 hm; omega)
  have h2 := Gf.dg_le 17 (Gf.md m) 17 (md_lt hm)
  exact inverse_loop hm ha h0 34 k a (Gf.md m) 1 0 (Gf.Inv.start hm ha h0) (by omega) (by omega)

/-! ### which inputs -/
theorem bad_not {m : Nat} (a : Nat) (h : a < 2 ^ m) : badB (m : Int) (a : Int) = false := by
  have hp : (0 : Int) < 2 ^ m := Int.pow_pos (by decide)
  have e : (a : Int) / 2 ^ m = 0 := Int.ediv_eq_zero_of_lt (by omega) (by exact_mod_cast h)
  simp [badB, e]
theorem bad_yes {m : Nat} (a : Int) (h : ¬ (0 ≤ a ∧ a < 2 ^ m)) : badB (m : Int) a = true := by
  unfold badB
  rw [Bool.or_eq_true]
  by_cases h0 : a < 0
  · left; simp [h0]
  · right
    have hp : (0 : Int) < 2 ^ m := Int.pow_pos (by decide)
    have : (1 : Int) ≤ a / 2 ^ m := Int.le_ediv_of_mul_le hp (by omega)
    simp
    omega
theorem ok_int {m : Int} : (m = 8 ∨ m = 16) → ∃ n : Nat, m = (n : Int) ∧ Gf.Ok n := by
  rintro (rfl | rfl)
  · exact ⟨8, rfl, .inl rfl⟩
  · exact ⟨16, rfl, .inr rfl⟩
theorem ok_iff {n : Nat} (hn : Gf.Ok n) : ((n : Int) = 8 ∨ (n : Int) = 16) := by rcases hn with rfl | rfl <;> simp

/-- an element of the field -/
def El (m a : Int) : Prop := ∃ n x : Nat, Gf.Ok n ∧ m = n ∧ a = x ∧ x < 2 ^ n
theorem El.mk {n x : Nat} (hn : Gf.Ok n) (hx : x < 2 ^ n) : El n x := ⟨n, x, hn, rfl, rfl, hx⟩
theorem El.range {m a : Int} : El m a → ∃ n : Nat, Gf.Ok n ∧ m = n ∧ 0 ≤ a ∧ a < 2 ^ n := by
  rintro ⟨n, x, hn, rfl, rfl, hx⟩
  exact ⟨n, hn, rfl, by omega, by exact_mod_cast hx⟩

theorem bad_iff {n : Nat} (hn : Gf.Ok n) (a : Int) : badB (n : Int) a = false ↔ El n a := by
  constructor
  · intro h
    by_cases hc : 0 ≤ a ∧ a < 2 ^ n
    · refine ⟨n, a.toNat, hn, rfl, by omega, ?_⟩
      have : ((a.toNat : Nat) : Int) < ((2 ^ n : Nat) : Int) := by rw [Int.toNat_of_nonneg hc.1]; exact_mod_cast hc.2
      exact_mod_cast this
    · rw [bad_yes a hc] at h; cases h
  · rintro ⟨n', x, _, e, rfl, hx⟩
    have : n = n' := by omega
    subst this
    exact bad_not x hx

theorem all_one (m a : Int) : (El m a → field_all.f m [a] = some true) ∧ (¬ El m a → field_all.f m [a] = some false) := by
  unfold field_all.f allF
  by_cases hm : m = 8 ∨ m = 16
  · obtain ⟨n, rfl, hn⟩ := ok_int hm
    have h := bad_iff hn a
    constructor
    · intro he; simp [hm, h.2 he]
    · intro he
      have : badB (n : Int) a = true := by
        cases hb : badB (n : Int) a with
        | true => rfl
        | false => exact absurd (h.1 hb) he
      simp [this]
  · constructor
    · rintro ⟨n, x, hn, rfl, _⟩; exact absurd (ok_iff hn) hm
    · intro _; simp [hm]
theorem all_two (m a b : Int) : (El m a ∧ El m b → field_all.f m [a, b] = some true) ∧ (¬ (El m a ∧ El m b) → field_all.f m [a, b] = some false) := by
  unfold field_all.f allF
  by_cases hm : m = 8 ∨ m = 16
  · obtain ⟨n, rfl, hn⟩ := ok_int hm
    have h := bad_iff hn a
    have h' := bad_iff hn b
    constructor
    · intro he; simp [hm, h.2 he.1, h'.2 he.2]
    · intro he
      cases hb : badB (n : Int) a with
      | true => simp [hb]
      | false =>
        cases hb' : badB (n : Int) b with
        | true => simp [hb']
        | false => exact absurd ⟨h.1 hb, h'.1 hb'⟩ he
  · constructor
    · rintro ⟨⟨n, x, hn, rfl, _⟩, _⟩; exact absurd (ok_iff hn) hm
    · intro _; simp [hm]

/-! ### field.Mul, Inv, Valid -/
theorem Mul_ok {n x y : Nat} (hn : Gf.Ok n) (hx : x < 2 ^ n) (hy : y < 2 ^ n) (k : Nat) (hk : 100 ≤ k) : field_Mul.f k (n : Int) (x : Int) (y : Int) = some ((Gf.mul n x y : Int), 0) := by
  unfold field_Mul.f
  rw [(all_two _ _ _).1 ⟨El.mk hn hx, El.mk hn hy⟩, Option.bind_some, if_pos rfl, product_eq hn hx hy k (by omega), Option.bind_some]
theorem Mul_bad {m a b : Int} (h : ¬ (El m a ∧ El m b)) (k : Nat) : field_Mul.f k m a b = some (0, 1) := by
  unfold field_Mul.f
  rw [(all_two _ _ _).2 h, Option.bind_some, if_neg (by simp)]
theorem Inv_ok {n x : Nat} (hn : Gf.Ok n) (hx : x < 2 ^ n) (h0 : x ≠ 0) (k : Nat) (hk : 100 ≤ k) : field_Inv.f k (n : Int) (x : Int) = some ((Gf.inv n x : Int), 0) := by
  unfold field_Inv.f
  rw [(all_one _ _).1 (El.mk hn hx), Option.bind_some, if_pos rfl, if_neg (by omega), inverse_eq hn hx h0 k (by omega), Option.bind_some]
theorem Inv_zero {n : Nat} (hn : Gf.Ok n) (k : Nat) : field_Inv.f k (n : Int) 0 = some (0, 12) := by
  unfold field_Inv.f
  have h : El (n : Int) 0 := El.mk hn (x := 0) (Nat.two_pow_pos n)
  rw [(all_one _ _).1 h, Option.bind_some, if_pos rfl, if_pos rfl]
theorem Inv_bad {m a : Int} (h : ¬ El m a) (k : Nat) : field_Inv.f k m a = some (0, 1) := by
  unfold field_Inv.f
  rw [(all_one _ _).2 h, Option.bind_some, if_neg (by simp)]
theorem Valid_eq (m a : Int) : (El m a → field_Valid.f m a = some true) ∧ (¬ El m a → field_Valid.f m a = some false) := by
  unfold field_Valid.f
  exact ⟨fun h => by rw [(all_one _ _).1 h, Option.bind_some], fun h => by rw [(all_one _ _).2 h, Option.bind_some]⟩

theorem scale_sanity : field_Scale.f 16 2 (⟨#[128, 0]⟩ : ByteArray) = some (⟨#[16, 11]⟩, 0) := by
  unfold field_Scale.f
  decide +kernel

/-- the examples of the documentation -/
theorem sanity_ok (k : Nat) (hk : 100 ≤ k) : solventlaw05_sanity.f k = some true := by
  unfold solventlaw05_sanity.f
  have h1 : field_Mul.f k 8 2 128 = some (29, 0) := by
    have := Mul_ok (n := 8) (x := 2) (y := 128) (.inl rfl) (by decide) (by decide) k hk
    rw [show Gf.mul 8 2 128 = 29 by decide +kernel] at this
    exact this
  have h2 : field_Mul.f k 16 2 32768 = some (4107, 0) := by
    have := Mul_ok (n := 16) (x := 2) (y := 32768) (.inr rfl) (by decide) (by decide) k hk
    rw [show Gf.mul 16 2 32768 = 4107 by decide +kernel] at this
    exact this
  have h3 : field_Inv.f k 8 0 = some (0, 12) := Inv_zero (n := 8) (.inl rfl) k
  have h4 : field_Valid.f 8 255 = some true := (Valid_eq 8 255).1 (El.mk (n := 8) (x := 255) (.inl rfl) (by decide))
  have h5 : field_Valid.f 8 256 = some false := (Valid_eq 8 256).2 (by
    rintro ⟨n, x, hn, e, e2, hx⟩
    have : n = 8 := by omega
    subst this
    omega)
  have h6 : (⟨#[16, 11]⟩ : ByteArray).toList = [16, 11] := by decide +kernel
  rw [h1, Option.bind_some, h2, Option.bind_some, h3, Option.bind_some, scale_sanity, Option.bind_some, if_pos rfl, if_pos rfl, if_pos rfl, if_pos rfl, if_pos rfl, if_pos rfl, if_pos h6, h4, Option.bind_some, if_pos rfl, h5, Option.bind_some]
  rfl
end Go.Proofs.YtgmjaiknboafdaaDoor.H

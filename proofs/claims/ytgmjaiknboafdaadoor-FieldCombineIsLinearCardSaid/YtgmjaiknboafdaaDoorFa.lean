/- The machine's whole numbers as natural numbers; what field.product answers: the product in the field. -/
import Derived.Test.YtgmjaiknboafdaaDoorGg
import Derived.Test.YtgmjaiknboafdaaDoorP1
import Derived.Laws.BitsLemmas
import Derived.Laws.Bits64
namespace Go.Proofs.YtgmjaiknboafdaaDoor.H
open Go.RowKit Go.Proofs.YtgmjaiknboafdaaDoorW.PrintWords Go.Proofs.YtgmjaiknboafdaaDoorW.PrintLast Go.Proofs.YtgmjaiknboafdaaDoorW.PrintMore Go.Proofs.YtgmjaiknboafdaaDoor.P

theorem w64 {x : Int} (h0 : -9223372036854775808 ≤ x) (h : x ≤ 9223372036854775807) : wrap64 x = x := by unfold wrap64; omega
theorem xor_any (k : IntKind) (j : Nat) (hj : j ≤ k.bits) (hk : ∀ n : Int, 0 ≤ n → n < 2 ^ j → k.wrap n = n) (a b : Nat) (ha : a < 2 ^ j) (hb : b < 2 ^ j) :
    Go.bits .xor k a b = ((a ^^^ b : Nat) : Int) := by
  have hp : 2 ^ j ≤ 2 ^ k.bits := Nat.pow_le_pow_right (by decide) hj
  have ha' : a % 2 ^ k.bits = a := Nat.mod_eq_of_lt (Nat.lt_of_lt_of_le ha hp)
  have hb' : b % 2 ^ k.bits = b := Nat.mod_eq_of_lt (Nat.lt_of_lt_of_le hb hp)
  simp only [Go.bits, BitVec.ofInt_natCast, BitVec.toNat_xor, BitVec.toNat_ofNat, ha', hb']
  exact hk _ (Int.natCast_nonneg _) (by exact_mod_cast Nat.xor_lt_two_pow ha hb)
theorem xor_nat (a b : Nat) (ha : a < 2 ^ 62) (hb : b < 2 ^ 62) : Go.bits .xor .i64 (a : Int) (b : Int) = ((a ^^^ b : Nat) : Int) :=
  xor_any .i64 62 (by decide) (fun n h0 h1 => by rw [IntKind.wrap_i64]; omega) a b ha hb
theorem xor_u8 (a b : Nat) (ha : a < 2 ^ 8) (hb : b < 2 ^ 8) : Go.bits .xor .u8 (a : Int) (b : Int) = ((a ^^^ b : Nat) : Int) :=
  xor_any .u8 8 (by decide) (fun n h0 h1 => by rw [IntKind.wrap_u8]; omega) a b ha hb
theorem and1_nat (a : Nat) (ha : a < 2 ^ 62) : Go.bits .and .i64 (a : Int) 1 = ((a % 2 : Nat) : Int) := by
  have := (bits_nat .i64 62 (by decide) (fun n h0 h1 => by rw [IntKind.wrap_i64]; omega) a 1 ha (by decide)).1
  rw [Nat.and_one_is_mod] at this
  exact this
theorem shr_nat (a n : Nat) (hn : n ≤ 64) : shr .i64 (a : Int) (n : Int) = ((a / 2 ^ n : Nat) : Int) := by
  unfold shr
  have e : min (n : Int).toNat IntKind.i64.bits = n := by simp [IntKind.bits]; omega
  rw [e]
  simp
theorem shl_nat (a n : Nat) (hn : n ≤ 64) (h : a * 2 ^ n < 2 ^ 63) : shl .i64 (a : Int) (n : Int) = ((a * 2 ^ n : Nat) : Int) := by
  unfold shl
  have e : min (n : Int).toNat IntKind.i64.bits = n := by simp [IntKind.bits]; omega
  rw [e]
  have e2 : (a : Int) * 2 ^ n = ((a * 2 ^ n : Nat) : Int) := by simp
  rw [e2, IntKind.wrap_i64]
  have : 2 ^ 63 = 9223372036854775808 := by decide
  omega

theorem okm {m : Nat} (hm : Gf.Ok m) : m ≤ 16 ∧ 8 ≤ m := Gf.ok_le hm
theorem pow_le16 {m : Nat} (hm : Gf.Ok m) : 2 ^ m ≤ 65536 := by rcases hm with rfl | rfl <;> decide
theorem modulus_md {m : Nat} (hm : Gf.Ok m) : field_modulus.f (m : Int) = some (Gf.md m : Int) := by rcases hm with rfl | rfl <;> rfl
theorem md_lt {m : Nat} (hm : Gf.Ok m) : Gf.md m < 131072 := by rcases hm with rfl | rfl <;> decide

theorem T_go {m x : Nat} (hm : Gf.Ok m) (hx : x < 2 ^ m) : Gf.T m x = if x * 2 / 2 ^ m = 0 then x * 2 else (x * 2) ^^^ Gf.md m := by
  rw [Gf.T_eq hm hx, Nat.mul_comm]
  have hp := Nat.two_pow_pos m
  by_cases h : x * 2 < 2 ^ m
  · rw [if_pos h, if_pos (Nat.div_eq_of_lt h)]
  · rw [if_neg h, if_neg]
    intro e
    have := (Nat.div_eq_zero_iff_lt hp).1 e
    exact h this

theorem prod_loop {m a b : Nat} (hm : Gf.Ok m) (ha : a < 2 ^ m) (hb : b < 2 ^ m) (j : Nat) : ∀ (k : Nat), j ≤ m → j < k →
    field_product.l0 k (m : Int) (a : Int) (b : Int) (Gf.md m : Int) (Gf.op m (m - j) (b / 2 ^ j) a : Int) ((j : Int) - 1) = some (Gf.mul m a b : Int) := by
  have hp := pow_le16 hm
  have hm16 := okm hm
  have hmd := md_lt hm
  induction j with
  | zero =>
    intro k _ hk
    obtain ⟨k, rfl⟩ : ∃ q, k = q + 1 := ⟨k - 1, by omega⟩
    simp only [field_product.l0]
    rw [if_neg (by omega)]
    simp [Gf.mul]
  | succ j ih =>
    intro k hj hk
    obtain ⟨k, rfl⟩ : ∃ q, k = q + 1 := ⟨k - 1, by omega⟩
    obtain ⟨o, ho⟩ : ∃ o, Gf.op m (m - (j + 1)) (b / 2 ^ (j + 1)) a = o := ⟨_, rfl⟩
    have hol : o < 2 ^ m := by rw [← ho]; exact Gf.op_lt hm _ _ _ ha
    have hT := T_go hm hol
    have hTl := Gf.T_lt hm hol
    have step : Gf.op m (m - j) (b / 2 ^ j) a = Gf.T m o ^^^ (if b / 2 ^ j % 2 = 1 then a else 0) := by
      rw [show m - j = (m - (j + 1)) + 1 by omega, Gf.op_horner, Nat.div_div_eq_div_mul, ← Nat.pow_succ, ho]
    have hih := ih k (by omega) (by omega)
    rw [step] at hih
    rw [ho]
    have e1 : ((j + 1 : Nat) : Int) - 1 = (j : Int) := by omega
    rw [e1]
    simp only [field_product.l0]
    rw [if_pos (by omega), if_pos (by omega), if_pos (by omega : (0 : Int) ≤ (j : Int))]
    have e2 : wrap64 ((o : Int) * 2) = ((o * 2 : Nat) : Int) := by rw [w64 (by omega) (by omega)]; omega
    have e3 : wrap64 ((j : Int) - 1) = (j : Int) - 1 := w64 (by omega) (by omega)
    rw [e2, e3, shr_nat _ m (by omega), shr_nat b j (by omega), and1_nat _ (by have := Nat.div_le_self b (2 ^ j); omega)]
    have hx1 : Go.bits .xor .i64 ((o * 2 : Nat) : Int) (Gf.md m : Int) = ((o * 2 ^^^ Gf.md m : Nat) : Int) := xor_nat _ _ (by omega) (by omega)
    rw [hx1]
    have hbit := Nat.mod_two_eq_zero_or_one (b / 2 ^ j)
    by_cases hc : o * 2 / 2 ^ m = 0
    · rw [if_pos hc] at hT
      have c1 : ((o * 2 / 2 ^ m : Nat) : Int) = 0 := by omega
      rw [if_pos c1]
      rcases hbit with h | h
      · have c2 : ((b / 2 ^ j % 2 : Nat) : Int) = 0 := by omega
        rw [if_pos c2, ← hT]
        rw [if_neg (by omega), Nat.xor_zero] at hih
        exact hih
      · have c2 : ¬ ((b / 2 ^ j % 2 : Nat) : Int) = 0 := by omega
        rw [if_neg c2, ← hT, xor_nat _ _ (by omega) (by omega)]
        rw [if_pos h] at hih
        exact hih
    · rw [if_neg hc] at hT
      have c1 : ¬ ((o * 2 / 2 ^ m : Nat) : Int) = 0 := by omega
      rw [if_neg c1]
      rcases hbit with h | h
      · have c2 : ((b / 2 ^ j % 2 : Nat) : Int) = 0 := by omega
        rw [if_pos c2, ← hT]
        rw [if_neg (by omega), Nat.xor_zero] at hih
        exact hih
      · have c2 : ¬ ((b / 2 ^ j % 2 : Nat) : Int) = 0 := by omega
        rw [if_neg c2, ← hT, xor_nat _ _ (by omega) (by omega)]
        rw [if_pos h] at hih
        exact hih

/-- 17 rounds are enough. -/
theorem product_eq {m a b : Nat} (hm : Gf.Ok m) (ha : a < 2 ^ m) (hb : b < 2 ^ m) (k : Nat) (hk : 17 ≤ k) : field_product.f k (m : Int) (a : Int) (b : Int) = some (Gf.mul m a b : Int) := by
  have hm16 := okm hm
  unfold field_product.f
  rw [modulus_md hm, Option.bind_some, w64 (by omega) (by omega)]
  have := prod_loop hm ha hb m k (Nat.le_refl _) (by omega)
  rw [Nat.sub_self] at this
  exact this
end Go.Proofs.YtgmjaiknboafdaaDoor.H

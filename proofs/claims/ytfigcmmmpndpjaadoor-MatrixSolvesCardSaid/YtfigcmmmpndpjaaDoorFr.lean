/- Fr. -/
import Derived.Test.YtfigcmmmpndpjaaDoorUb
import Derived.Test.YtfigcmmmpndpjaaDoorP10
/- The reference of the package field: its product, and which inputs it takes. -/
namespace Go.Proofs.YtfigcmmmpndpjaaDoor.H
open Go.RowKit Go.Proofs.YtfigcmmmpndpjaaDoorW.PrintWords Go.Proofs.YtfigcmmmpndpjaaDoorW.PrintLast Go.Proofs.YtfigcmmmpndpjaaDoorW.PrintMore Go.Proofs.YtfigcmmmpndpjaaDoor.P
theorem lt62 {n x : Nat} (hn : Gf.Ok n) (hx : x < 2 ^ n) : x < 2 ^ 62 := by have := pow_le16 hn; omega
theorem shl_one {n : Nat} (hn : Gf.Ok n) : shl .i64 1 (n : Int) = ((2 ^ n : Nat) : Int) := by
  have hp := pow_le16 hn
  have := shl_nat 1 n (by have := okm hn; omega) (by omega)
  rw [Nat.one_mul] at this
  exact this
theorem poly_ok {n : Nat} (hn : Gf.Ok n) : solventref05_polynomial.f (n : Int) = some (Gf.md n : Int) := by rcases hn with rfl | rfl <;> rfl
theorem rValid (m a : Int) : (El m a → solventref05_Valid.f m a = some true) ∧ (¬ El m a → solventref05_Valid.f m a = some false) := by
  by_cases hm : m = 8 ∨ m = 16
  · obtain ⟨n, rfl, hn⟩ := ok_int hm
    have hmd : (Gf.md n : Int) ≠ 0 := by rcases hn with rfl | rfl <;> decide
    have key : solventref05_Valid.f (n : Int) a = if a ≥ 0 then some (decide (a < ((2 ^ n : Nat) : Int))) else some false := by
      unfold solventref05_Valid.f
      rw [poly_ok hn, Option.bind_some, if_neg hmd, if_pos (show (0 : Int) ≤ (n : Int) by omega), shl_one hn]
    constructor
    · rintro ⟨n', x, _, e, rfl, hx⟩
      have : n = n' := by omega
      subst this
      rw [key, if_pos (by omega)]
      simp only [Option.some.injEq, decide_eq_true_eq]
      exact_mod_cast hx
    · intro h
      rw [key]
      by_cases h0 : a ≥ 0
      · rw [if_pos h0]
        simp only [Option.some.injEq, decide_eq_false_iff_not]
        intro hc
        refine h ⟨n, a.toNat, hn, rfl, by omega, ?_⟩
        have : ((a.toNat : Nat) : Int) < ((2 ^ n : Nat) : Int) := by rw [Int.toNat_of_nonneg h0]; exact hc
        exact_mod_cast this
      · rw [if_neg h0]
  · have key : solventref05_Valid.f m a = some false := by
      unfold solventref05_Valid.f solventref05_polynomial.f
      rw [if_neg (fun e => hm (.inl e)), if_neg (fun e => hm (.inr e)), Option.bind_some, if_pos rfl]
    exact ⟨fun ⟨n, x, hn, e, _⟩ => absurd (e ▸ ok_iff hn) hm, fun _ => key⟩
theorem tdiv_nat (b : Nat) (h : b < 2 ^ 62) : wrap64 (Int.tdiv (b : Int) 2) = ((b / 2 : Nat) : Int) := by
  rw [Int.tdiv_eq_ediv_of_nonneg (by omega), w64 (by omega) (by omega)]
  omega
theorem tmod_nat (b : Nat) : Int.tmod (b : Int) 2 = ((b % 2 : Nat) : Int) := by
  rw [Int.tmod_eq_emod_of_nonneg (by omega)]
  omega
theorem two_nat (n a : Nat) (hp : 2 ^ n ≤ 65536) (ha : a < 2 ^ n) : wrap64 (2 * (a : Int)) = ((2 * a : Nat) : Int) := by
  rw [w64 (by omega) (by omega)]
  omega
theorem rtimes_loop {n : Nat} (hn : Gf.Ok n) (f : Nat) : ∀ (k a b out : Nat), a < 2 ^ n → out < 2 ^ n → b < 2 ^ f → f ≤ 60 → f < k →
    solventref05_times.l0 k (n : Int) (a : Int) (b : Int) (Gf.md n : Int) (out : Int) = some ((out ^^^ Gf.op n f b a : Nat) : Int) := by
  have hp := pow_le16 hn
  have hmd := md_lt hn
  induction f with
  | zero =>
    intro k a b out _ _ hb _ hk
    obtain ⟨k, rfl⟩ : ∃ q, k = q + 1 := ⟨k - 1, by omega⟩
    have : b = 0 := by simpa using hb
    subst this
    simp only [solventref05_times.l0]
    rw [if_neg (by simp)]
    simp [Gf.op]
  | succ f ih =>
    intro k a b out ha ho hb hf hk
    obtain ⟨k, rfl⟩ : ∃ q, k = q + 1 := ⟨k - 1, by omega⟩
    have hb' : b / 2 < 2 ^ f := by rw [Nat.pow_succ] at hb; omega
    have hb62 : b < 2 ^ 62 := Nat.lt_of_lt_of_le hb (Nat.pow_le_pow_right (by decide) (by omega))
    simp only [solventref05_times.l0]
    by_cases h0 : b = 0
    · subst h0
      rw [if_neg (by simp), Gf.op_zero, Nat.xor_zero]
    · have hb0 : (b : Int) > 0 := by omega
      have hT := Gf.T_eq hn ha
      have hTl := Gf.T_lt hn ha
      have e1 := two_nat n a hp ha
      have e2 := tdiv_nat b hb62
      have e3 := tmod_nat b
      clear hb62 hb
      have e4 : Go.bits .xor .i64 ((2 * a : Nat) : Int) (Gf.md n : Int) = ((2 * a ^^^ Gf.md n : Nat) : Int) := xor_nat _ _ (by omega) (by omega)
      have e5 : Go.bits .xor .i64 (out : Int) (a : Int) = ((out ^^^ a : Nat) : Int) := xor_nat _ _ (by omega) (by omega)
      have hoa : out ^^^ a < 2 ^ n := Nat.xor_lt_two_pow ho ha
      rw [if_pos hb0, e1, e2, e3, e4, e5, shl_one hn]
      clear e1 e2 e3 e4 e5 hb0
      have hpos : (0 : Int) ≤ (n : Int) := by omega
      rcases Nat.mod_two_eq_zero_or_one b with h | h
      · rw [if_neg (by omega), if_pos hpos]
        by_cases hc : 2 * a < 2 ^ n
        · rw [if_pos hc] at hT
          rw [if_neg (by omega), ← hT, ih k _ _ _ hTl ho hb' (by omega) (by omega)]
          simp [Gf.op, h]
        · rw [if_neg hc] at hT
          rw [if_pos (by omega), ← hT, ih k _ _ _ hTl ho hb' (by omega) (by omega)]
          simp [Gf.op, h]
      · rw [if_pos (by omega), if_pos hpos]
        by_cases hc : 2 * a < 2 ^ n
        · rw [if_pos hc] at hT
          rw [if_neg (by omega), ← hT, ih k _ _ _ hTl hoa hb' (by omega) (by omega)]
          simp [Gf.op, h, Nat.xor_assoc]
        · rw [if_neg hc] at hT
          rw [if_pos (by omega), ← hT, ih k _ _ _ hTl hoa hb' (by omega) (by omega)]
          simp [Gf.op, h, Nat.xor_assoc]
theorem rtimes_eq {n a b : Nat} (hn : Gf.Ok n) (ha : a < 2 ^ n) (hb : b < 2 ^ n) (k : Nat) (hk : 20 ≤ k) : solventref05_times.f k (n : Int) (a : Int) (b : Int) = some (Gf.mul n a b : Int) := by
  have := okm hn
  unfold solventref05_times.f
  rw [poly_ok hn, Option.bind_some]
  have h := rtimes_loop hn n k a b 0 ha (Nat.two_pow_pos n) hb (by omega) (by omega)
  rw [Nat.zero_xor] at h
  exact h
end Go.Proofs.YtfigcmmmpndpjaaDoor.H

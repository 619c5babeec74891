/- Fp. -/
import Derived.Test.YtfigcmmmpndpjaaDoorFr
import Derived.Test.YtfigcmmmpndpjaaDoorP11
/- The reference's power, inverse, product of elements. -/
namespace Go.Proofs.YtfigcmmmpndpjaaDoor.H
open Go.RowKit Go.Proofs.YtfigcmmmpndpjaaDoorW.PrintWords Go.Proofs.YtfigcmmmpndpjaaDoorW.PrintLast Go.Proofs.YtfigcmmmpndpjaaDoorW.PrintMore Go.Proofs.YtfigcmmmpndpjaaDoor.P
theorem ord_pos {n : Nat} (hn : Gf.Ok n) : 1 < 2 ^ n - 1 := by rcases hn with rfl | rfl <;> decide
theorem rpow_loop {n : Nat} (hn : Gf.Ok n) (f : Nat) : ∀ (k x e out : Nat), x < 2 ^ n → out < 2 ^ n → e < 2 ^ f → f ≤ 60 → f + 50 ≤ k →
    solventref05_power.l0 k (n : Int) (x : Int) (e : Int) (out : Int) = some (Gf.mul n out (Gf.pw n x e) : Int) := by
  induction f with
  | zero =>
    intro k x e out hx ho he _ hk
    obtain ⟨k, rfl⟩ : ∃ q, k = q + 1 := ⟨k - 1, by omega⟩
    have : e = 0 := by simpa using he
    subst this
    simp only [solventref05_power.l0]
    rw [if_neg (by simp)]
    simp only [Gf.pw]
    rw [Gf.mul_one hn ho]
  | succ f ih =>
    intro k x e out hx ho he hf hk
    obtain ⟨k, rfl⟩ : ∃ q, k = q + 1 := ⟨k - 1, by omega⟩
    have he' : e / 2 < 2 ^ f := by rw [Nat.pow_succ] at he; omega
    have he62 : e < 2 ^ 62 := Nat.lt_of_lt_of_le he (Nat.pow_le_pow_right (by decide) (by omega))
    simp only [solventref05_power.l0]
    by_cases h0 : e = 0
    · subst h0
      rw [if_neg (by simp)]
      simp only [Gf.pw]
      rw [Gf.mul_one hn ho]
    · have e2 := tdiv_nat e he62
      have e3 := tmod_nat e
      clear he62 he
      rw [if_pos (by omega), e2, e3]
      have hsq : Gf.pw n (Gf.mul n x x) (e / 2) = Gf.pw n x (2 * (e / 2)) := by
        rw [Gf.pw_mul hn hx]; congr 1; simp only [Gf.pw]; rw [Gf.one_mul hn hx]
      rcases Nat.mod_two_eq_zero_or_one e with h | h
      · rw [if_neg (by omega), rtimes_eq hn hx hx k (by omega), Option.bind_some, ih k _ _ _ (Gf.mul_lt hn x hx) ho he' (by omega) (by omega), hsq]
        congr 4
        omega
      · rw [if_pos (by omega), rtimes_eq hn ho hx k (by omega), Option.bind_some, rtimes_eq hn hx hx k (by omega), Option.bind_some, ih k _ _ _ (Gf.mul_lt hn x hx) (Gf.mul_lt hn x ho) he' (by omega) (by omega), hsq, Gf.mul_assoc hn ho hx]
        have e3 : Gf.mul n x (Gf.pw n x (2 * (e / 2))) = Gf.pw n x e := by
          have := Gf.pw_add hn hx 1 (2 * (e / 2))
          rw [show Gf.pw n x 1 = x by simp only [Gf.pw]; rw [Gf.one_mul hn hx]] at this
          rw [← this]
          congr 1
          omega
        rw [e3]
theorem rpow_eq {n x e : Nat} (hn : Gf.Ok n) (hx : x < 2 ^ n) (he : e < 2 ^ 60) (k : Nat) (hk : 120 ≤ k) : solventref05_power.f k (n : Int) (x : Int) (e : Int) = some (Gf.pw n x e : Int) := by
  unfold solventref05_power.f
  have := rpow_loop hn 60 k x e 1 hx (Gf.one_lt hn) he (by omega) (by omega)
  rw [Gf.one_mul hn (Gf.pw_lt hn hx _)] at this
  exact this
theorem rInv_ok {n x : Nat} (hn : Gf.Ok n) (hx : x < 2 ^ n) (h0 : x ≠ 0) (k : Nat) (hk : 200 ≤ k) : solventref05_Inv.f k (n : Int) (x : Int) = some ((Gf.inv n x : Int), 0) := by
  have hp := pow_le16 hn
  have ho := ord_pos hn
  unfold solventref05_Inv.f
  rw [(rValid _ _).1 (El.mk hn hx), Option.bind_some, if_pos rfl, if_neg (by omega), if_pos (show (0 : Int) ≤ (n : Int) by omega), shl_one hn, w64 (by omega) (by omega)]
  have e : ((2 ^ n : Nat) : Int) - 2 = ((2 ^ n - 2 : Nat) : Int) := by omega
  rw [e, rpow_eq hn hx (by omega) k (by omega), Option.bind_some]
  rfl
theorem rInv_zero {n : Nat} (hn : Gf.Ok n) (k : Nat) : solventref05_Inv.f k (n : Int) 0 = some (0, 12) := by
  have h : El (n : Int) 0 := El.mk hn (x := 0) (Nat.two_pow_pos n)
  unfold solventref05_Inv.f
  rw [(rValid _ _).1 h, Option.bind_some, if_pos rfl, if_pos rfl]
theorem rInv_bad {m a : Int} (h : ¬ El m a) (k : Nat) : solventref05_Inv.f k m a = some (0, 1) := by
  unfold solventref05_Inv.f
  rw [(rValid _ _).2 h, Option.bind_some, if_neg (by simp)]
theorem rtimes_ok {n x y : Nat} (hn : Gf.Ok n) (hx : x < 2 ^ n) (hy : y < 2 ^ n) (k : Nat) (hk : 200 ≤ k) : solventref06_times.f k (n : Int) (x : Int) (y : Int) = some (Gf.mul n x y : Int) := by
  unfold solventref06_times.f solventref05_Mul.f
  rw [(rValid _ _).1 (El.mk hn hx), Option.bind_some, (rValid _ _).1 (El.mk hn hy), Option.bind_some, if_pos rfl, if_pos rfl, rtimes_eq hn hx hy k (by omega), Option.bind_some, Option.bind_some]
end Go.Proofs.YtfigcmmmpndpjaaDoor.H

/- The field's axioms hold of what the functions of the package field answer. -/
import Derived.Test.YtgmjaiknboafdaaDoorFb
import Derived.Test.YtgmjaiknboafdaaDoorP7
namespace Go.Proofs.YtgmjaiknboafdaaDoor.H
open Go.RowKit Go.Proofs.YtgmjaiknboafdaaDoorW.PrintWords Go.Proofs.YtgmjaiknboafdaaDoorW.PrintLast Go.Proofs.YtgmjaiknboafdaaDoorW.PrintMore Go.Proofs.YtgmjaiknboafdaaDoor.P

theorem lt62 {n x : Nat} (hn : Gf.Ok n) (hx : x < 2 ^ n) : x < 2 ^ 62 := by have := pow_le16 hn; omega
theorem Add_ok {n x y : Nat} (hn : Gf.Ok n) (hx : x < 2 ^ n) (hy : y < 2 ^ n) : field_Add.f (n : Int) (x : Int) (y : Int) = some (((x ^^^ y : Nat) : Int), 0) := by
  unfold field_Add.f
  rw [(all_two _ _ _).1 ⟨El.mk hn hx, El.mk hn hy⟩, Option.bind_some, if_pos rfl, xor_nat _ _ (lt62 hn hx) (lt62 hn hy)]
theorem Add_bad {m a b : Int} (h : ¬ (El m a ∧ El m b)) : field_Add.f m a b = some (0, 1) := by
  unfold field_Add.f
  rw [(all_two _ _ _).2 h, Option.bind_some, if_neg (by simp)]
theorem Div_ok {n x y : Nat} (hn : Gf.Ok n) (hx : x < 2 ^ n) (hy : y < 2 ^ n) (h0 : y ≠ 0) (k : Nat) (hk : 100 ≤ k) : field_Div.f k (n : Int) (x : Int) (y : Int) = some ((Gf.mul n x (Gf.inv n y) : Int), 0) := by
  unfold field_Div.f
  rw [(all_two _ _ _).1 ⟨El.mk hn hx, El.mk hn hy⟩, Option.bind_some, if_pos rfl, if_neg (by omega), inverse_eq hn hy h0 k hk, Option.bind_some, product_eq hn hx (Gf.inv_lt hn hy) k (by omega), Option.bind_some]
theorem Div_zero {n x : Nat} (hn : Gf.Ok n) (hx : x < 2 ^ n) (k : Nat) : field_Div.f k (n : Int) (x : Int) 0 = some (0, 12) := by
  have h : El (n : Int) 0 := El.mk hn (x := 0) (Nat.two_pow_pos n)
  unfold field_Div.f
  rw [(all_two _ _ _).1 ⟨El.mk hn hx, h⟩, Option.bind_some, if_pos rfl, if_pos rfl]
theorem Div_bad {m a b : Int} (h : ¬ (El m a ∧ El m b)) (k : Nat) : field_Div.f k m a b = some (0, 1) := by
  unfold field_Div.f
  rw [(all_two _ _ _).2 h, Option.bind_some, if_neg (by simp)]

theorem shl_one {n : Nat} (hn : Gf.Ok n) : shl .i64 1 (n : Int) = ((2 ^ n : Nat) : Int) := by
  have hp := pow_le16 hn
  have := shl_nat 1 n (by have := okm hn; omega) (by omega)
  rw [Nat.one_mul] at this
  exact this

theorem axioms_round {n : Nat} (hn : Gf.Ok n) (i : Int) (hi : i < 2) (hM : wrap64 (8 + wrap64 (8 * i)) = (n : Int)) (a b c : Nat) (ha : a < 65536) (hb : b < 65536) (hc : c < 65536) (t : Bool) (k : Nat) (hk : 200 ≤ k) :
    solventlaw05_FieldAxioms.l0 (k + 2) (a : Int) (b : Int) (c : Int) t i = solventlaw05_FieldAxioms.l0 k (a : Int) (b : Int) (c : Int) t (wrap64 (i + 1)) := by
  have hp := Nat.two_pow_pos n
  have hp16 := pow_le16 hn
  have red : ∀ d : Nat, d < 65536 → Int.tmod (wrap64 (d : Int)) ((2 ^ n : Nat) : Int) = ((d % 2 ^ n : Nat) : Int) := fun d hd => by
    rw [w64 (by omega) (by omega), Int.tmod_eq_emod_of_nonneg (by omega)]
    exact (Int.natCast_emod d (2 ^ n)).symm
  have hx : a % 2 ^ n < 2 ^ n := Nat.mod_lt _ hp
  have hy : b % 2 ^ n < 2 ^ n := Nat.mod_lt _ hp
  have hz : c % 2 ^ n < 2 ^ n := Nat.mod_lt _ hp
  simp only [solventlaw05_FieldAxioms.l0]
  rw [if_pos hi, hM, if_pos (by omega), shl_one hn, if_neg (by omega), red a ha, red b hb, red c hc]
  generalize a % 2 ^ n = x at *
  generalize b % 2 ^ n = y at *
  generalize c % 2 ^ n = z at *
  have hk1 : 100 ≤ k + 1 := by omega
  have h1 := Gf.one_lt hn
  have hone : field_Mul.f (k + 1) (n : Int) (x : Int) 1 = some ((Gf.mul n x 1 : Int), 0) := Mul_ok hn hx h1 (k + 1) hk1
  rw [Mul_ok hn hx hy _ hk1, Option.bind_some, Mul_ok hn hy hx _ hk1, Option.bind_some, Mul_ok hn hy hz _ hk1, Option.bind_some]
  simp only
  rw [Mul_ok hn (Gf.mul_lt hn y hx) hz _ hk1, Option.bind_some, Mul_ok hn hx (Gf.mul_lt hn z hy) _ hk1, Option.bind_some, Add_ok hn hy hz, Option.bind_some]
  simp only
  rw [Mul_ok hn hx (Nat.xor_lt_two_pow hy hz) _ hk1, Option.bind_some, Mul_ok hn hx hz _ hk1, Option.bind_some]
  simp only
  rw [Add_ok hn (Gf.mul_lt hn y hx) (Gf.mul_lt hn z hx), Option.bind_some, hone, Option.bind_some, Add_ok hn hx hx, Option.bind_some]
  simp only
  rw [if_pos (by rw [Gf.mul_comm hn hx hy]), if_pos (by rw [Gf.mul_assoc hn hx hy]), if_pos (by rw [Gf.mul_xor]), if_pos (by rw [Gf.mul_one hn hx]), Nat.xor_self]
  simp only [solventlaw05_FieldAxioms.j1]
  rw [if_neg (by decide)]
  by_cases h0 : y = 0
  · subst h0
    have hd : field_Div.f k (n : Int) (Gf.mul n x 0 : Int) ((0 : Nat) : Int) = some (0, 12) := Div_zero hn (Gf.mul_lt hn 0 hx) k
    rw [hd, Option.bind_some, if_pos (show ((0 : Nat) : Int) = 0 from rfl), if_pos rfl]
  · rw [Div_ok hn (Gf.mul_lt hn y hx) hy h0 k (by omega), Option.bind_some, if_neg (by omega), if_pos rfl, if_pos (by rw [Gf.cancel hn hx hy h0])]

theorem axioms_pure (a b c : Int) (ha : (Lit.int .u16 a).wf = true) (hb : (Lit.int .u16 b).wf = true) (hc : (Lit.int .u16 c).wf = true) : ∃ k, solventlaw05_FieldAxioms.f k a b c = some true := by
  have rg : ∀ x : Int, (Lit.int .u16 x).wf = true → ∃ n : Nat, x = n ∧ n < 65536 := fun x h => by
    have : 0 ≤ x ∧ x ≤ 65535 := by
      simp [Lit.wf] at h
      exact ⟨Int.le_trans (by decide) h.1, Int.le_trans h.2 (by decide)⟩
    exact ⟨x.toNat, by omega, by omega⟩
  obtain ⟨a, rfl, ua⟩ := rg a ha
  obtain ⟨b, rfl, ub⟩ := rg b hb
  obtain ⟨c, rfl, uc⟩ := rg c hc
  refine ⟨301, ?_⟩
  unfold solventlaw05_FieldAxioms.f
  rw [sanity_ok 301 (by omega), Option.bind_some]
  rw [axioms_round (n := 8) (.inl rfl) 0 (by omega) (by unfold wrap64; omega) a b c ua ub uc true 299 (by omega)]
  rw [show wrap64 (0 + 1) = 1 by unfold wrap64; omega, axioms_round (n := 16) (.inr rfl) 1 (by omega) (by unfold wrap64; omega) a b c ua ub uc true 297 (by omega)]
  simp only [solventlaw05_FieldAxioms.l0]
  rw [if_neg (by unfold wrap64; omega)]
end Go.Proofs.YtgmjaiknboafdaaDoor.H

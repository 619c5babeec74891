/- The reference's functions answer what those of the package field answer. -/
import Derived.Test.YtgmjaiknboafdaaDoorFd
import Derived.Test.YtgmjaiknboafdaaDoorP9
namespace Go.Proofs.YtgmjaiknboafdaaDoor.H
open Go.RowKit Go.Proofs.YtgmjaiknboafdaaDoorW.PrintWords Go.Proofs.YtgmjaiknboafdaaDoorW.PrintLast Go.Proofs.YtgmjaiknboafdaaDoorW.PrintMore Go.Proofs.YtgmjaiknboafdaaDoor.P

theorem poly_ok {n : Nat} (hn : Gf.Ok n) : solventref05_polynomial.f (n : Int) = some (Gf.md n : Int) := by rcases hn with rfl | rfl <;> rfl
theorem rValid (m a : Int) : (El m a → solventref05_Valid.f m a = some true) ∧ (¬ El m a → solventref05_Valid.f m a = some false) := by
  by_cases hm : m = 8 ∨ m = 16
  · obtain ⟨n, rfl, hn⟩ := ok_int hm
    have hmd : (Gf.md n : Int) ≠ 0 := by rcases hn with rfl | rfl <;> decide
    have key : solventref05_Valid.f (n : Int) a = if a ≥ 0 then some (decide (a < ((2 ^ n : Nat) : Int))) else some false := by
      unfold solventref05_Valid.f
      rw [poly_ok hn, Option.bind_some, if_neg hmd, if_pos (show (0 : Int) ≤ (n : Int) by omega), shl_one hn]
    constructor
    · rintro ⟨n', x, _, e, rfl, hx⟩
      have : n = n' := by omega
      subst this
      rw [key, if_pos (by omega)]
      simp only [Option.some.injEq, decide_eq_true_eq]
      exact_mod_cast hx
    · intro h
      rw [key]
      by_cases h0 : a ≥ 0
      · rw [if_pos h0]
        simp only [Option.some.injEq, decide_eq_false_iff_not]
        intro hc
        refine h ⟨n, a.toNat, hn, rfl, by omega, ?_⟩
        have : ((a.toNat : Nat) : Int) < ((2 ^ n : Nat) : Int) := by rw [Int.toNat_of_nonneg h0]; exact hc
        exact_mod_cast this
      · rw [if_neg h0]
  · have key : solventref05_Valid.f m a = some false := by
      unfold solventref05_Valid.f solventref05_polynomial.f
      rw [if_neg (fun e => hm (.inl e)), if_neg (fun e => hm (.inr e)), Option.bind_some, if_pos rfl]
    exact ⟨fun ⟨n, x, hn, e, _⟩ => absurd (e ▸ ok_iff hn) hm, fun _ => key⟩

theorem tdiv_nat (b : Nat) (h : b < 2 ^ 62) : wrap64 (Int.tdiv (b : Int) 2) = ((b / 2 : Nat) : Int) := by
  rw [Int.tdiv_eq_ediv_of_nonneg (by omega), w64 (by omega) (by omega)]
  omega
theorem tmod_nat (b : Nat) : Int.tmod (b : Int) 2 = ((b % 2 : Nat) : Int) := by
  rw [Int.tmod_eq_emod_of_nonneg (by omega)]
  omega
theorem two_nat (n a : Nat) (hp : 2 ^ n ≤ 65536) (ha : a < 2 ^ n) : wrap64 (2 * (a : Int)) = ((2 * a : Nat) : Int) := by
  rw [w64 (by omega) (by omega)]
  omega

theorem rtimes_loop {n : Nat} (hn : Gf.Ok n) (f : Nat) : ∀ (k a b out : Nat), a < 2 ^ n → out < 2 ^ n → b < 2 ^ f → f ≤ 60 → f < k →
    solventref05_times.l0 k (n : Int) (a : Int) (b : Int) (Gf.md n : Int) (out : Int) = some ((out ^^^ Gf.op n f b a : Nat) : Int) := by
  have hp := pow_le16 hn
  have hmd := md_lt hn
  induction f with
  | zero =>
    intro k a b out _ _ hb _ hk
    obtain ⟨k, rfl⟩ : ∃ q, k = q + 1 := ⟨k - 1, by omega⟩
    have : b = 0 := by simpa using hb
    subst this
    simp only [solventref05_times.l0]
    rw [if_neg (by simp)]
    simp [Gf.op]
  | succ f ih =>
    intro k a b out ha ho hb hf hk
    obtain ⟨k, rfl⟩ : ∃ q, k = q + 1 := ⟨k - 1, by omega⟩
    have hb' : b / 2 < 2 ^ f := by rw [Nat.pow_succ] at hb; omega
    have hb62 : b < 2 ^ 62 := Nat.lt_of_lt_of_le hb (Nat.pow_le_pow_right (by decide) (by omega))
    simp only [solventref05_times.l0]
    by_cases h0 : b = 0
    · subst h0
      rw [if_neg (by simp), Gf.op_zero, Nat.xor_zero]
    · have hb0 : (b : Int) > 0 := by omega
      have hT := Gf.T_eq hn ha
      have hTl := Gf.T_lt hn ha
      have e1 := two_nat n a hp ha
      have e2 := tdiv_nat b hb62
      have e3 := tmod_nat b
      clear hb62 hb
      have e4 : Go.bits .xor .i64 ((2 * a : Nat) : Int) (Gf.md n : Int) = ((2 * a ^^^ Gf.md n : Nat) : Int) := xor_nat _ _ (by omega) (by omega)
      have e5 : Go.bits .xor .i64 (out : Int) (a : Int) = ((out ^^^ a : Nat) : Int) := xor_nat _ _ (by omega) (by omega)
      have hoa : out ^^^ a < 2 ^ n := Nat.xor_lt_two_pow ho ha
      rw [if_pos hb0, e1, e2, e3, e4, e5, shl_one hn]
      clear e1 e2 e3 e4 e5 hb0
      have hpos : (0 : Int) ≤ (n : Int) := by omega
      rcases Nat.mod_two_eq_zero_or_one b with h | h
      · rw [if_neg (by omega), if_pos hpos]
        by_cases hc : 2 * a < 2 ^ n
        · rw [if_pos hc] at hT
          rw [if_neg (by omega), ← hT, ih k _ _ _ hTl ho hb' (by omega) (by omega)]
          simp [Gf.op, h]
        · rw [if_neg hc] at hT
          rw [if_pos (by omega), ← hT, ih k _ _ _ hTl ho hb' (by omega) (by omega)]
          simp [Gf.op, h]
      · rw [if_pos (by omega), if_pos hpos]
        by_cases hc : 2 * a < 2 ^ n
        · rw [if_pos hc] at hT
          rw [if_neg (by omega), ← hT, ih k _ _ _ hTl hoa hb' (by omega) (by omega)]
          simp [Gf.op, h, Nat.xor_assoc]
        · rw [if_neg hc] at hT
          rw [if_pos (by omega), ← hT, ih k _ _ _ hTl hoa hb' (by omega) (by omega)]
          simp [Gf.op, h, Nat.xor_assoc]
theorem rtimes_eq {n a b : Nat} (hn : Gf.Ok n) (ha : a < 2 ^ n) (hb : b < 2 ^ n) (k : Nat) (hk : 20 ≤ k) : solventref05_times.f k (n : Int) (a : Int) (b : Int) = some (Gf.mul n a b : Int) := by
  have := okm hn
  unfold solventref05_times.f
  rw [poly_ok hn, Option.bind_some]
  have h := rtimes_loop hn n k a b 0 ha (Nat.two_pow_pos n) hb (by omega) (by omega)
  rw [Nat.zero_xor] at h
  exact h

theorem rpow_loop {n : Nat} (hn : Gf.Ok n) (f : Nat) : ∀ (k x e out : Nat), x < 2 ^ n → out < 2 ^ n → e < 2 ^ f → f ≤ 60 → f + 50 ≤ k →
    solventref05_power.l0 k (n : Int) (x : Int) (e : Int) (out : Int) = some (Gf.mul n out (Gf.pw n x e) : Int) := by
  induction f with
  | zero =>
    intro k x e out hx ho he _ hk
    obtain ⟨k, rfl⟩ : ∃ q, k = q + 1 := ⟨k - 1, by omega⟩
    have : e = 0 := by simpa using he
    subst this
    simp only [solventref05_power.l0]
    rw [if_neg (by simp)]
    simp only [Gf.pw]
    rw [Gf.mul_one hn ho]
  | succ f ih =>
    intro k x e out hx ho he hf hk
    obtain ⟨k, rfl⟩ : ∃ q, k = q + 1 := ⟨k - 1, by omega⟩
    have he' : e / 2 < 2 ^ f := by rw [Nat.pow_succ] at he; omega
    have he62 : e < 2 ^ 62 := Nat.lt_of_lt_of_le he (Nat.pow_le_pow_right (by decide) (by omega))
    simp only [solventref05_power.l0]
    by_cases h0 : e = 0
    · subst h0
      rw [if_neg (by simp)]
      simp only [Gf.pw]
      rw [Gf.mul_one hn ho]
    · have e2 := tdiv_nat e he62
      have e3 := tmod_nat e
      clear he62 he
      rw [if_pos (by omega), e2, e3]
      have hsq : Gf.pw n (Gf.mul n x x) (e / 2) = Gf.pw n x (2 * (e / 2)) := by
        rw [Gf.pw_mul hn hx]; congr 1; simp only [Gf.pw]; rw [Gf.one_mul hn hx]
      rcases Nat.mod_two_eq_zero_or_one e with h | h
      · rw [if_neg (by omega), rtimes_eq hn hx hx k (by omega), Option.bind_some, ih k _ _ _ (Gf.mul_lt hn x hx) ho he' (by omega) (by omega), hsq]
        congr 4
        omega
      · rw [if_pos (by omega), rtimes_eq hn ho hx k (by omega), Option.bind_some, rtimes_eq hn hx hx k (by omega), Option.bind_some, ih k _ _ _ (Gf.mul_lt hn x hx) (Gf.mul_lt hn x ho) he' (by omega) (by omega), hsq, Gf.mul_assoc hn ho hx]
        have e3 : Gf.mul n x (Gf.pw n x (2 * (e / 2))) = Gf.pw n x e := by
          have := Gf.pw_add hn hx 1 (2 * (e / 2))
          rw [show Gf.pw n x 1 = x by simp only [Gf.pw]; rw [Gf.one_mul hn hx]] at this
          rw [← this]
          congr 1
          omega
        rw [e3]
theorem rpow_eq {n x e : Nat} (hn : Gf.Ok n) (hx : x < 2 ^ n) (he : e < 2 ^ 60) (k : Nat) (hk : 120 ≤ k) : solventref05_power.f k (n : Int) (x : Int) (e : Int) = some (Gf.pw n x e : Int) := by
  unfold solventref05_power.f
  have := rpow_loop hn 60 k x e 1 hx (Gf.one_lt hn) he (by omega) (by omega)
  rw [Gf.one_mul hn (Gf.pw_lt hn hx _)] at this
  exact this

/-! ### Add, Mul, Inv, Div, Pow -/
theorem add_same (m a b : Int) : solventref05_Add.f m a b = field_Add.f m a b := by
  unfold solventref05_Add.f
  by_cases ha : El m a
  · by_cases hb : El m b
    · obtain ⟨n, x, hn, rfl, rfl, hx⟩ := ha
      obtain ⟨n', y, hn', e, rfl, hy⟩ := hb
      have : n = n' := by omega
      subst this
      rw [(rValid _ _).1 (El.mk hn hx), Option.bind_some, (rValid _ _).1 (El.mk hn hy), Option.bind_some, if_pos rfl, if_pos rfl, Add_ok hn hx hy, xor_nat _ _ (lt62 hn hx) (lt62 hn hy)]
    · rw [Add_bad (fun h => hb h.2), (rValid _ _).1 ha, Option.bind_some, (rValid _ _).2 hb, Option.bind_some, if_pos rfl, if_neg (by simp)]
  · rw [Add_bad (fun h => ha h.1), (rValid _ _).2 ha, Option.bind_some]
    by_cases hb : El m b
    · rw [(rValid _ _).1 hb, Option.bind_some, if_neg (by simp)]
    · rw [(rValid _ _).2 hb, Option.bind_some, if_neg (by simp)]
theorem mul_same (m a b : Int) (k : Nat) (hk : 200 ≤ k) : solventref05_Mul.f k m a b = field_Mul.f k m a b ∧ ∃ r, field_Mul.f k m a b = some r := by
  unfold solventref05_Mul.f
  by_cases ha : El m a
  · by_cases hb : El m b
    · obtain ⟨n, x, hn, rfl, rfl, hx⟩ := ha
      obtain ⟨n', y, hn', e, rfl, hy⟩ := hb
      have : n = n' := by omega
      subst this
      rw [(rValid _ _).1 (El.mk hn hx), Option.bind_some, (rValid _ _).1 (El.mk hn hy), Option.bind_some, if_pos rfl, if_pos rfl, Mul_ok hn hx hy k (by omega), rtimes_eq hn hx hy k (by omega), Option.bind_some]
      exact ⟨rfl, _, rfl⟩
    · rw [Mul_bad (fun h => hb h.2), (rValid _ _).1 ha, Option.bind_some, (rValid _ _).2 hb, Option.bind_some, if_pos rfl, if_neg (by simp)]
      exact ⟨rfl, _, rfl⟩
  · rw [Mul_bad (fun h => ha h.1), (rValid _ _).2 ha, Option.bind_some]
    by_cases hb : El m b
    · rw [(rValid _ _).1 hb, Option.bind_some, if_neg (by simp)]
      exact ⟨rfl, _, rfl⟩
    · rw [(rValid _ _).2 hb, Option.bind_some, if_neg (by simp)]
      exact ⟨rfl, _, rfl⟩
theorem rInv_ok {n x : Nat} (hn : Gf.Ok n) (hx : x < 2 ^ n) (h0 : x ≠ 0) (k : Nat) (hk : 200 ≤ k) : solventref05_Inv.f k (n : Int) (x : Int) = some ((Gf.inv n x : Int), 0) := by
  have hp := pow_le16 hn
  have ho := ord_pos hn
  unfold solventref05_Inv.f
  rw [(rValid _ _).1 (El.mk hn hx), Option.bind_some, if_pos rfl, if_neg (by omega), if_pos (show (0 : Int) ≤ (n : Int) by omega), shl_one hn, w64 (by omega) (by omega)]
  have e : ((2 ^ n : Nat) : Int) - 2 = ((2 ^ n - 2 : Nat) : Int) := by omega
  rw [e, rpow_eq hn hx (by omega) k (by omega), Option.bind_some]
  rfl
theorem rInv_zero {n : Nat} (hn : Gf.Ok n) (k : Nat) : solventref05_Inv.f k (n : Int) 0 = some (0, 12) := by
  have h : El (n : Int) 0 := El.mk hn (x := 0) (Nat.two_pow_pos n)
  unfold solventref05_Inv.f
  rw [(rValid _ _).1 h, Option.bind_some, if_pos rfl, if_pos rfl]
theorem rInv_bad {m a : Int} (h : ¬ El m a) (k : Nat) : solventref05_Inv.f k m a = some (0, 1) := by
  unfold solventref05_Inv.f
  rw [(rValid _ _).2 h, Option.bind_some, if_neg (by simp)]
theorem inv_same (m a : Int) (k : Nat) (hk : 200 ≤ k) : solventref05_Inv.f k m a = field_Inv.f k m a ∧ ∃ r, field_Inv.f k m a = some r := by
  by_cases ha : El m a
  · obtain ⟨n, x, hn, rfl, rfl, hx⟩ := ha
    by_cases h0 : x = 0
    · subst h0
      exact ⟨(rInv_zero hn k).trans (Inv_zero hn k).symm, _, Inv_zero hn k⟩
    · exact ⟨(rInv_ok hn hx h0 k hk).trans (Inv_ok hn hx h0 k (by omega)).symm, _, Inv_ok hn hx h0 k (by omega)⟩
  · exact ⟨(rInv_bad ha k).trans (Inv_bad ha k).symm, _, Inv_bad ha k⟩
theorem div_same (m a b : Int) (k : Nat) (hk : 250 ≤ k) : solventref05_Div.f k m a b = field_Div.f k m a b ∧ ∃ r, field_Div.f k m a b = some r := by
  obtain ⟨k, rfl⟩ : ∃ q, k = q + 1 := ⟨k - 1, by omega⟩
  unfold solventref05_Div.f
  by_cases ha : El m a
  · by_cases hb : El m b
    · obtain ⟨n, x, hn, rfl, rfl, hx⟩ := ha
      obtain ⟨n', y, hn', e, rfl, hy⟩ := hb
      have : n = n' := by omega
      subst this
      rw [(rValid _ _).1 (El.mk hn hx), Option.bind_some, (rValid _ _).1 (El.mk hn hy), Option.bind_some, if_pos rfl]
      simp only [solventref05_Div.j0, Bool.not_true]
      rw [if_neg (by decide)]
      by_cases h0 : y = 0
      · subst h0
        have h1 : solventref05_Inv.f k (n : Int) ((0 : Nat) : Int) = some (0, 12) := rInv_zero hn k
        have h2 : field_Div.f (k + 1) (n : Int) (x : Int) ((0 : Nat) : Int) = some (0, 12) := Div_zero hn hx (k + 1)
        rw [h1, Option.bind_some, h2, if_neg (by decide)]
        exact ⟨rfl, _, rfl⟩
      · rw [rInv_ok hn hy h0 k (by omega), Option.bind_some, if_pos rfl, rtimes_eq hn hx (Gf.inv_lt hn hy) k (by omega), Option.bind_some, Div_ok hn hx hy h0 (k + 1) (by omega)]
        exact ⟨rfl, _, rfl⟩
    · rw [Div_bad (fun h => hb h.2), (rValid _ _).1 ha, Option.bind_some, (rValid _ _).2 hb, Option.bind_some, if_pos rfl]
      simp only [solventref05_Div.j0, Bool.not_false]
      rw [if_pos trivial]
      exact ⟨rfl, _, rfl⟩
  · rw [Div_bad (fun h => ha h.1), (rValid _ _).2 ha, Option.bind_some]
    by_cases hb : El m b
    · rw [(rValid _ _).1 hb, Option.bind_some, if_neg (by simp)]
      simp only [solventref05_Div.j0]
      rw [if_pos trivial]
      exact ⟨rfl, _, rfl⟩
    · rw [(rValid _ _).2 hb, Option.bind_some, if_neg (by simp)]
      simp only [solventref05_Div.j0]
      rw [if_pos trivial]
      exact ⟨rfl, _, rfl⟩
theorem pow_same (m a e : Int) (k : Nat) (hk : 250 ≤ k) : solventref05_Pow.f k m a e = field_Pow.f k m a e ∧ ∃ r, field_Pow.f k m a e = some r := by
  obtain ⟨k, rfl⟩ : ∃ q, k = q + 1 := ⟨k - 1, by omega⟩
  unfold solventref05_Pow.f
  by_cases ha : El m a
  · obtain ⟨n, x, hn, rfl, rfl, hx⟩ := ha
    have h := ord_pos hn
    have hl := em_lt hn e
    rw [(rValid _ _).1 (El.mk hn hx), Option.bind_some, if_pos rfl]
    by_cases h0 : x = 0
    · subst h0
      have h2 : field_Pow.f (k + 1) (n : Int) ((0 : Nat) : Int) e = some (if e < 0 then (0, 12) else if 0 < e then (0, 0) else (1, 0)) := Pow_zero hn e (k + 1) (by omega)
      rw [h2, if_pos (show ((0 : Nat) : Int) = 0 from rfl)]
      simp only [solventref05_Pow.j0]
      by_cases h1 : e < 0
      · rw [if_pos (by simp [h1]), if_pos h1]
        exact ⟨rfl, _, rfl⟩
      · rw [if_neg (by simp [h1]), if_pos (show ((0 : Nat) : Int) = 0 from rfl), if_neg h1]
        by_cases h3 : 0 < e
        · rw [if_pos h3, if_pos h3]
          exact ⟨rfl, _, rfl⟩
        · have e0 : e = 0 := by omega
          subst e0
          rw [if_neg h3, if_neg h3, if_pos (show (0 : Int) ≤ (n : Int) by omega), q_go hn, if_neg (by omega), tmod_twice h.1 h.2, Int.zero_emod]
          have h4 := rpow_eq (x := 0) (e := 0) hn (Nat.two_pow_pos n) (by decide) k (by omega)
          have h5 : solventref05_power.f k (n : Int) ((0 : Nat) : Int) 0 = some 1 := h4
          rw [h5, Option.bind_some]
          exact ⟨rfl, _, rfl⟩
    · rw [Pow_ok hn hx h0 e (k + 1) (by omega), if_neg (by omega)]
      simp only [solventref05_Pow.j0]
      rw [if_neg (by decide), if_neg (by omega), if_pos (show (0 : Int) ≤ (n : Int) by omega), q_go hn, if_neg (by omega), tmod_twice h.1 h.2, ← em_cast hn, rpow_eq hn hx (by omega) k (by omega), Option.bind_some]
      exact ⟨rfl, _, rfl⟩
  · rw [(rValid _ _).2 ha, Option.bind_some, if_neg (by simp), Pow_bad ha]
    exact ⟨rfl, _, rfl⟩

theorem matches_pure (m a b : Int) (_hm : (Lit.int .i64 m).wf = true) (_ha : (Lit.int .i64 a).wf = true) (_hb : (Lit.int .i64 b).wf = true) : ∃ k, solventlaw05_FieldMatchesSpec.f k m a b = some true := by
  obtain ⟨k, hk⟩ : ∃ k : Nat, k = 400 := ⟨_, rfl⟩
  refine ⟨k, ?_⟩
  obtain ⟨e1, r1, f1⟩ := mul_same m a b k (by omega)
  obtain ⟨e2, r2, f2⟩ := inv_same m a k (by omega)
  obtain ⟨e3, r3, f3⟩ := div_same m a b k (by omega)
  obtain ⟨e4, r4, f4⟩ := pow_same m a b k (by omega)
  obtain ⟨r0, f0⟩ : ∃ r, field_Add.f m a b = some r := by
    unfold field_Add.f
    by_cases h : El m a ∧ El m b
    · rw [(all_two _ _ _).1 h]; exact ⟨_, rfl⟩
    · rw [(all_two _ _ _).2 h]; exact ⟨_, rfl⟩
  obtain ⟨v, hv1, hv2⟩ : ∃ v, field_Valid.f m a = some v ∧ solventref05_Valid.f m a = some v := by
    by_cases h : El m a
    · exact ⟨true, (Valid_eq m a).1 h, (rValid m a).1 h⟩
    · exact ⟨false, (Valid_eq m a).2 h, (rValid m a).2 h⟩
  unfold solventlaw05_FieldMatchesSpec.f
  rw [add_same, e1, e2, e3, e4, f0, f1, f2, f3, f4, hv1, hv2, sanity_ok k (by omega)]
  simp
end Go.Proofs.YtgmjaiknboafdaaDoor.H

/- Logarithms in the field: what field.Log and the reference's answer; the law of the logarithms. -/
import Derived.Test.YtgmjaiknboafdaaDoorFe
import Derived.Test.YtgmjaiknboafdaaDoorP10
namespace Go.Proofs.YtgmjaiknboafdaaDoor.H
open Go.RowKit Go.Proofs.YtgmjaiknboafdaaDoorW.PrintWords Go.Proofs.YtgmjaiknboafdaaDoorW.PrintLast Go.Proofs.YtgmjaiknboafdaaDoorW.PrintMore Go.Proofs.YtgmjaiknboafdaaDoor.P

theorem pw_two_succ {n : Nat} (hn : Gf.Ok n) (j : Nat) : Gf.pw n 2 (j + 1) = Gf.T n (Gf.pw n 2 j) := by
  simp only [Gf.pw]
  exact Gf.mul_two hn

theorem log_loop {n : Nat} (hn : Gf.Ok n) (l : Nat) (hl : l < 2 ^ n - 1) (d : Nat) : ∀ (k j : Nat), l = j + d → d < k →
    field_Log.l0 k (n : Int) (Gf.pw n 2 l : Int) (j : Int) (Gf.pw n 2 j : Int) = some ((l : Int), 0) := by
  have hp := pow_le16 hn
  have ho := ord_pos hn
  have hn16 := okm hn
  induction d with
  | zero =>
    intro k j hj hk
    obtain ⟨k, rfl⟩ : ∃ q, k = q + 1 := ⟨k - 1, by omega⟩
    have : j = l := by omega
    subst this
    simp only [field_Log.l0]
    rw [if_pos trivial]
  | succ d ih =>
    intro k j hj hk
    obtain ⟨k, rfl⟩ : ∃ q, k = q + 1 := ⟨k - 1, by omega⟩
    have hne : Gf.pw n 2 j ≠ Gf.pw n 2 l := Gf.two_inj hn (by show l < 2 ^ n - 1; exact hl) (by omega)
    have hx := Gf.pw_lt hn (Gf.two_lt hn) j
    have hT := T_go hn hx
    have hTl := Gf.T_lt hn hx
    have hih := ih k (j + 1) (by omega) (by omega)
    rw [pw_two_succ hn] at hih
    generalize Gf.pw n 2 j = x at *
    generalize Gf.pw n 2 l = y at *
    simp only [field_Log.l0]
    have e1 : wrap64 ((x : Int) * 2) = ((x * 2 : Nat) : Int) := by rw [w64 (by omega) (by omega)]; omega
    have e2 : wrap64 ((j : Int) + 1) = ((j + 1 : Nat) : Int) := by rw [w64 (by omega) (by omega)]; omega
    have hne' : ¬ (x : Int) = (y : Int) := by omega
    rw [if_neg hne', if_pos (by omega), e1, e2, shr_nat _ n (by omega)]
    by_cases hc : x * 2 / 2 ^ n = 0
    · rw [if_pos hc] at hT
      have c1 : ((x * 2 / 2 ^ n : Nat) : Int) = 0 := by omega
      rw [if_pos c1, ← hT]
      exact hih
    · rw [if_neg hc] at hT
      have c1 : ¬ ((x * 2 / 2 ^ n : Nat) : Int) = 0 := by omega
      have hmd := md_lt hn
      rw [if_neg c1, modulus_md hn, Option.bind_some, xor_nat _ _ (by omega) (by omega), ← hT]
      exact hih

theorem rlog_loop {n : Nat} (hn : Gf.Ok n) (l : Nat) (hl : l < 2 ^ n - 1) (d : Nat) : ∀ (k j : Nat), l = j + d → d + 30 < k →
    solventref05_Log.l0 k (n : Int) (Gf.pw n 2 l : Int) (Gf.pw n 2 j : Int) (j : Int) = some ((l : Int), 0) := by
  have hp := pow_le16 hn
  have ho := ord_pos hn
  have hn16 := okm hn
  induction d with
  | zero =>
    intro k j hj hk
    obtain ⟨k, rfl⟩ : ∃ q, k = q + 1 := ⟨k - 1, by omega⟩
    have : j = l := by omega
    subst this
    simp only [solventref05_Log.l0]
    rw [if_pos (by omega), q_go hn, if_pos (by omega), if_pos trivial]
  | succ d ih =>
    intro k j hj hk
    obtain ⟨k, rfl⟩ : ∃ q, k = q + 1 := ⟨k - 1, by omega⟩
    have hj1 : (j : Int) < ((2 ^ n - 1 : Nat) : Int) := by omega
    have hj0 : (0 : Int) ≤ (n : Int) := by omega
    have hne : Gf.pw n 2 j ≠ Gf.pw n 2 l := Gf.two_inj hn (by show l < 2 ^ n - 1; exact hl) (by omega)
    have hx := Gf.pw_lt hn (Gf.two_lt hn) j
    have hih := ih k (j + 1) (by omega) (by omega)
    have hs : Gf.pw n 2 (j + 1) = Gf.mul n (Gf.pw n 2 j) 2 := rfl
    rw [hs] at hih
    generalize Gf.pw n 2 j = x at *
    generalize Gf.pw n 2 l = y at *
    have ht : solventref05_times.f k (n : Int) (x : Int) 2 = some (Gf.mul n x 2 : Int) := rtimes_eq hn hx (Gf.two_lt hn) k (by omega)
    simp only [solventref05_Log.l0]
    have e2 : wrap64 ((j : Int) + 1) = ((j + 1 : Nat) : Int) := by rw [w64 (by omega) (by omega)]; omega
    have hne' : ¬ (x : Int) = (y : Int) := by omega
    rw [if_pos hj0, q_go hn, if_pos hj1, if_neg hne', ht, Option.bind_some, e2]
    exact hih

theorem Log_ok {n l : Nat} (hn : Gf.Ok n) (hl : l < 2 ^ n - 1) (k : Nat) (hk : 70000 ≤ k) : field_Log.f k (n : Int) (Gf.pw n 2 l : Int) = some ((l : Int), 0) := by
  have ho := ord_pos hn
  have hx := Gf.pw_lt hn (Gf.two_lt hn) l
  have h0 := Gf.two_ne_zero hn l (by show l ≤ 2 ^ n - 1; omega)
  unfold field_Log.f
  rw [(all_one _ _).1 (El.mk hn hx), Option.bind_some, if_pos rfl, if_neg (by omega)]
  exact log_loop hn l hl l k 0 (by omega) (by omega)
theorem rLog_ok {n l : Nat} (hn : Gf.Ok n) (hl : l < 2 ^ n - 1) (k : Nat) (hk : 70000 ≤ k) : solventref05_Log.f k (n : Int) (Gf.pw n 2 l : Int) = some ((l : Int), 0) := by
  have ho := ord_pos hn
  have hx := Gf.pw_lt hn (Gf.two_lt hn) l
  unfold solventref05_Log.f
  rw [(rValid _ _).1 (El.mk hn hx), Option.bind_some, if_pos rfl]
  exact rlog_loop hn l hl l k 0 (by omega) (by omega)
theorem Log_zero {n : Nat} (hn : Gf.Ok n) (k : Nat) : field_Log.f k (n : Int) 0 = some (0, 12) := by
  have h : El (n : Int) 0 := El.mk hn (x := 0) (Nat.two_pow_pos n)
  unfold field_Log.f
  rw [(all_one _ _).1 h, Option.bind_some, if_pos rfl, if_pos rfl]
theorem Log_bad {m a : Int} (h : ¬ El m a) (k : Nat) : field_Log.f k m a = some (0, 1) := by
  unfold field_Log.f
  rw [(all_one _ _).2 h, Option.bind_some, if_neg (by simp)]

theorem logs_round {n : Nat} (hn : Gf.Ok n) (i : Int) (hi : i < 2) (hM : wrap64 (8 + wrap64 (8 * i)) = (n : Int)) (a b : Nat) (ha : a < 65536) (hb : b < 65536) (t : Bool) (k : Nat) (hk : 80000 ≤ k) :
    solventlaw05_FieldLogarithms.l0 (k + 2) (a : Int) (b : Int) t i = solventlaw05_FieldLogarithms.l0 k (a : Int) (b : Int) t (wrap64 (i + 1)) := by
  have h := ord_pos hn
  have hp := pow_le16 hn
  have elem : ∀ c : Nat, c < 65536 → ∃ l, l < 2 ^ n - 1 ∧ wrap64 (1 + Int.tmod (wrap64 (c : Int)) ((2 ^ n - 1 : Nat) : Int)) = (Gf.pw n 2 l : Int) := by
    intro c hc
    have hx1 : c % (2 ^ n - 1) < 2 ^ n - 1 := Nat.mod_lt _ (by omega)
    obtain ⟨l, hl, e⟩ := Gf.two_gen hn (a := 1 + c % (2 ^ n - 1)) (by omega) (by omega)
    refine ⟨l, hl, ?_⟩
    rw [e, w64 (x := (c : Int)) (by omega) (by omega), Int.tmod_eq_emod_of_nonneg (by omega), ← Int.natCast_emod, w64 (by omega) (by omega)]
    omega
  obtain ⟨u, hu, eu⟩ := elem a ha
  obtain ⟨v, hv, ev⟩ := elem b hb
  have hux := Gf.pw_lt hn (Gf.two_lt hn) u
  have hvx := Gf.pw_lt hn (Gf.two_lt hn) v
  have hs : (u + v) % (2 ^ n - 1) < 2 ^ n - 1 := Nat.mod_lt _ (by omega)
  have hm : Gf.mul n (Gf.pw n 2 u) (Gf.pw n 2 v) = Gf.pw n 2 ((u + v) % (2 ^ n - 1)) := by
    rw [← Gf.pw_add hn (Gf.two_lt hn), pw_mod hn (Gf.two_lt hn) (by decide)]
  have hbad : ¬ El (n : Int) ((2 ^ n : Nat) : Int) := by
    rintro ⟨n', x, _, e, e2, hx⟩
    have : n = n' := by omega
    subst this
    omega
  have hpow : field_Pow.f (k + 1) (n : Int) 2 (u : Int) = some ((Gf.pw n 2 u : Int), 0) := by
    have := Pow_ok hn (Gf.two_lt hn) (by decide) (u : Int) (k + 1) (by omega)
    have e : em n (u : Int) = u := by
      unfold em
      rw [← Int.natCast_emod, Nat.mod_eq_of_lt hu]
      rfl
    rw [e] at this
    exact this
  simp only [solventlaw05_FieldLogarithms.l0]
  rw [if_pos hi, hM, if_pos (by omega), q_go hn, if_neg (by omega), eu, ev, shl_one hn]
  rw [Log_ok hn hu (k + 1) (by omega), Option.bind_some, Log_ok hn hv (k + 1) (by omega), Option.bind_some, Mul_ok hn hux hvx (k + 1) (by omega), Option.bind_some]
  simp only
  rw [hm, Log_ok hn hs (k + 1) (by omega), Option.bind_some, hpow, Option.bind_some, Log_zero hn, Option.bind_some, Log_bad hbad, Option.bind_some]
  rw [if_pos trivial, if_pos trivial, if_pos rfl, if_pos rfl, if_pos rfl]
  simp only [solventlaw05_FieldLogarithms.j1]
  rw [if_neg (by decide), rLog_ok hn hu k (by omega), Option.bind_some, if_neg (by omega), if_neg (by omega), if_pos rfl, if_pos trivial, if_neg (by omega), if_pos]
  rw [w64 (by omega) (by omega), Int.tmod_eq_emod_of_nonneg (by omega)]
  exact_mod_cast rfl

theorem logs_pure (a b : Int) (ha : (Lit.int .u16 a).wf = true) (hb : (Lit.int .u16 b).wf = true) : ∃ k, solventlaw05_FieldLogarithms.f k a b = some true := by
  obtain ⟨a, rfl, ua⟩ := rg_u16 a ha
  obtain ⟨b, rfl, ub⟩ := rg_u16 b hb
  obtain ⟨k, hk⟩ : ∃ k : Nat, k = 90000 := ⟨_, rfl⟩
  refine ⟨k + 5, ?_⟩
  unfold solventlaw05_FieldLogarithms.f
  rw [sanity_ok (k + 5) (by omega), Option.bind_some]
  rw [logs_round (n := 8) (.inl rfl) 0 (by omega) (by unfold wrap64; omega) a b ua ub true (k + 3) (by omega)]
  rw [show wrap64 (0 + 1) = 1 by unfold wrap64; omega, logs_round (n := 16) (.inr rfl) 1 (by omega) (by unfold wrap64; omega) a b ua ub true (k + 1) (by omega)]
  simp only [solventlaw05_FieldLogarithms.l0]
  rw [if_neg (by unfold wrap64; omega)]
end Go.Proofs.YtgmjaiknboafdaaDoor.H

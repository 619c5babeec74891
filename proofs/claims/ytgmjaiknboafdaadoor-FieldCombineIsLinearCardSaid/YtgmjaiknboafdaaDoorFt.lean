/- The reference's Scale, Xor, Combine answer what those of the package field answer. -/
import Derived.Test.YtgmjaiknboafdaaDoorFs
namespace Go.Proofs.YtgmjaiknboafdaaDoor.H
open Go.RowKit Go.Proofs.YtgmjaiknboafdaaDoorW.PrintWords Go.Proofs.YtgmjaiknboafdaaDoorW.PrintLast Go.Proofs.YtgmjaiknboafdaaDoorW.PrintMore Go.Proofs.YtgmjaiknboafdaaDoor.P
set_option linter.unusedVariables false

theorem bl_two (j : Nat) (f : Nat → Nat) : bl (2 * (j + 1)) f = bl (2 * j) f ++ [((f (2 * j) : Nat) : Int), ((f (2 * j + 1) : Nat) : Int)] := by
  rw [show 2 * (j + 1) = 2 * j + 1 + 1 by omega, bl_succ, bl_succ, List.append_assoc]
  rfl

theorem rscale8 {c : Nat} (hc : c < 256) (u : ByteArray) (hu : u.size ≤ 100000) (d : Nat) : ∀ (k i : Nat), u.size = i + d → d + 30 < k →
    solventref05_Scale.l0 k 8 (c : Int) u (bl i (sb 8 c (by_ u))) (i : Int) = some (strOfNums (bl u.size (sb 8 c (by_ u))), 0) := by
  induction d with
  | zero =>
    intro k i hi hk
    obtain ⟨k, rfl⟩ : ∃ q, k = q + 1 := ⟨k - 1, by omega⟩
    simp only [solventref05_Scale.l0]
    rw [if_neg (by omega)]
    rw [show u.size = i by omega]
  | succ d ih =>
    intro k i hi hk
    obtain ⟨k, rfl⟩ : ∃ q, k = q + 1 := ⟨k - 1, by omega⟩
    have hb := by_lt u i
    have ht := rtimes_eq (n := 8) (.inl rfl) hc (show by_ u i < 2 ^ 8 from hb) k (by omega)
    have ht' : solventref05_times.f k 8 (c : Int) (by_ u i : Int) = some (Gf.mul 8 c (by_ u i) : Int) := ht
    have hm := Gf.mul_lt (m := 8) (.inl rfl) (by_ u i) (show c < 2 ^ 8 from hc)
    have hih := ih k (i + 1) (by omega) (by omega)
    rw [bl_succ] at hih
    have e8 : sb 8 c (by_ u) i = Gf.mul 8 c (by_ u i) := by simp [sb]
    rw [e8] at hih
    simp only [solventref05_Scale.l0]
    rw [if_pos (by omega), if_pos trivial, if_pos (by omega), bt_by, w64 (by omega) (by omega), ht', Option.bind_some, if_pos (by rw [bl_len]; omega)]
    have e1 : wrap64 ((i : Int) + wrap64 (Int.tdiv 8 8)) = ((i + 1 : Nat) : Int) := by
      rw [show Int.tdiv 8 8 = 1 by decide, w64 (x := 1) (by omega) (by omega), w64 (by omega) (by omega)]; omega
    have e2 : ((Gf.mul 8 c (by_ u i) : Nat) : Int) % 256 = ((Gf.mul 8 c (by_ u i) : Nat) : Int) := by omega
    rw [e1, e2]
    exact hih

theorem rscale16 {c : Nat} (hc : c < 65536) (u : ByteArray) (hu : u.size ≤ 100000) (hev : u.size % 2 = 0) (d : Nat) : ∀ (k j : Nat), u.size = 2 * j + 2 * d → d + 30 < k →
    solventref05_Scale.l0 k 16 (c : Int) u (bl (2 * j) (sb 16 c (by_ u))) ((2 * j : Nat) : Int) = some (strOfNums (bl u.size (sb 16 c (by_ u))), 0) := by
  induction d with
  | zero =>
    intro k j hj hk
    obtain ⟨k, rfl⟩ : ∃ q, k = q + 1 := ⟨k - 1, by omega⟩
    simp only [solventref05_Scale.l0]
    rw [if_neg (by omega)]
    rw [show u.size = 2 * j by omega]
  | succ d ih =>
    intro k j hj hk
    obtain ⟨k, rfl⟩ : ∃ q, k = q + 1 := ⟨k - 1, by omega⟩
    have hb := by_lt u (2 * j)
    have hb1 := by_lt u (2 * j + 1)
    obtain ⟨x, hx⟩ : ∃ x, x = 256 * by_ u (2 * j) + by_ u (2 * j + 1) := ⟨_, rfl⟩
    have hx16 : x < 2 ^ 16 := by omega
    have ht := rtimes_eq (n := 16) (.inr rfl) (show c < 2 ^ 16 from hc) hx16 k (by omega)
    have ht' : solventref05_times.f k 16 (c : Int) (x : Int) = some (Gf.mul 16 c x : Int) := ht
    have hm := Gf.mul_lt (m := 16) (.inr rfl) x (show c < 2 ^ 16 from hc)
    have hih := ih k (j + 1) (by omega) (by omega)
    rw [bl_two] at hih
    have e0 : sb 16 c (by_ u) (2 * j) = Gf.mul 16 c x / 256 := by simp [sb, hx]
    have e1 : sb 16 c (by_ u) (2 * j + 1) = Gf.mul 16 c x % 256 := by simp [sb, hx]
    obtain ⟨r, hr⟩ : ∃ r, Gf.mul 16 c x = r := ⟨_, rfl⟩
    rw [hr] at ht' hm e0 e1
    rw [e0, e1] at hih
    clear ht hr e0 e1
    simp only [solventref05_Scale.l0]
    have p0 : ((2 * j : Nat) : Int) < (u.size : Int) := by omega
    have p1 : (0 : Int) ≤ ((2 * j : Nat) : Int) := by omega
    have p2 : (0 : Int) ≤ ((2 * j + 1 : Nat) : Int) := by omega
    have p3 : ((2 * j + 1 : Nat) : Int) < (u.size : Int) := by omega
    have i1 : wrap64 (((2 * j : Nat) : Int) + 1) = ((2 * j + 1 : Nat) : Int) := by rw [w64 (by omega) (by omega)]; omega
    have a1 : wrap64 (wrap64 (256 * wrap64 ((by_ u (2 * j) : Nat) : Int)) + wrap64 ((by_ u (2 * j + 1) : Nat) : Int)) = (x : Int) := by
      rw [w64 (x := ((by_ u (2 * j) : Nat) : Int)) (by omega) (by omega), w64 (x := ((by_ u (2 * j + 1) : Nat) : Int)) (by omega) (by omega), w64 (x := 256 * ((by_ u (2 * j) : Nat) : Int)) (by omega) (by omega), w64 (by omega) (by omega)]
      omega
    rw [if_pos p0, if_neg (by decide), if_pos p1, i1, if_pos p2, if_pos p3, bt_by, bt_by, a1, ht', Option.bind_some, Option.bind_some, if_pos (by rw [bl_len]; simp; omega)]
    have e3 : wrap64 (((2 * j : Nat) : Int) + wrap64 (Int.tdiv 16 8)) = ((2 * (j + 1) : Nat) : Int) := by
      rw [show Int.tdiv 16 8 = 2 by decide, w64 (x := 2) (by omega) (by omega), w64 (by omega) (by omega)]; omega
    have e4 : wrap64 (Int.tdiv (r : Int) 256) % 256 = ((r / 256 : Nat) : Int) := by
      rw [Int.tdiv_eq_ediv_of_nonneg (by omega), w64 (by omega) (by omega)]; omega
    have e5 : Int.tmod (r : Int) 256 % 256 = ((r % 256 : Nat) : Int) := by rw [Int.tmod_eq_emod_of_nonneg (by omega)]; omega
    rw [e3, e4, e5]
    exact hih

theorem rScale_ok {n c : Nat} (hn : Gf.Ok n) (hc : c < 2 ^ n) (u : ByteArray) (hu : u.size ≤ 100000) (hev : n = 16 → u.size % 2 = 0) (k : Nat) (hk : 100100 ≤ k) : solventref05_Scale.f k (n : Int) (c : Int) u = some (strOfNums (bl u.size (sb n c (by_ u))), 0) := by
  obtain ⟨k, rfl⟩ : ∃ q, k = q + 1 := ⟨k - 1, by omega⟩
  unfold solventref05_Scale.f
  rw [(rValid _ _).1 (El.mk hn hc), Option.bind_some, if_pos rfl]
  rcases hn with rfl | rfl
  · rw [if_neg (by decide)]
    simp only [solventref05_Scale.j0]
    rw [if_neg (by decide)]
    exact rscale8 hc u hu u.size k 0 (by omega) (by omega)
  · have h0 := hev rfl
    have hb : (((u.size : Int) % 2) == 1) = false := by simp; omega
    rw [if_pos (show ((16 : Nat) : Int) = 16 from rfl), hb]
    simp only [solventref05_Scale.j0]
    rw [if_neg (by decide)]
    exact rscale16 hc u hu h0 (u.size / 2) k 0 (by omega) (by omega)
theorem rScale_bad {m c : Int} (u : ByteArray) (h : ¬ (El m c ∧ (m = 16 → u.size % 2 = 0))) (k : Nat) (hk : 1 ≤ k) : solventref05_Scale.f k m c u = some (⟨#[]⟩, 1) := by
  obtain ⟨k, rfl⟩ : ∃ q, k = q + 1 := ⟨k - 1, by omega⟩
  unfold solventref05_Scale.f
  by_cases hv : El m c
  · have hm : m = 16 ∧ u.size % 2 = 1 := by
      refine ⟨?_, ?_⟩
      · exact Classical.byContradiction fun hne => h ⟨hv, fun e => absurd e hne⟩
      · have := h
        by_cases ho : u.size % 2 = 0
        · exact absurd ⟨hv, fun _ => ho⟩ h
        · omega
    obtain ⟨rfl, ho⟩ := hm
    have hb : (((u.size : Int) % 2) == 1) = true := by simp; omega
    rw [(rValid _ _).1 hv, Option.bind_some, if_pos rfl, if_pos rfl, hb]
    simp only [solventref05_Scale.j0]
    rw [if_pos trivial]
  · rw [(rValid _ _).2 hv, Option.bind_some, if_neg (by simp)]
    simp only [solventref05_Scale.j0]
    rw [if_pos trivial]

/-- the exclusive or of two strings of n bytes -/
def xb (a b : ByteArray) (i : Nat) : Nat := by_ a i ^^^ by_ b i
theorem xb_lt (a b : ByteArray) (i : Nat) : xb a b i < 256 := xor256 (by_lt a i) (by_lt b i)
theorem bx_eq (a b : ByteArray) (i : Nat) : Go.bits .xor .u8 (bt a (i : Int)) (bt b (i : Int)) = ((xb a b i : Nat) : Int) := by
  rw [bt_by, bt_by, xorU8 _ _ (by_lt a i) (by_lt b i)]; rfl
theorem rxor_loop (a b : ByteArray) (he : a.size = b.size) (hu : a.size ≤ 100000) (d : Nat) : ∀ (k i : Nat), a.size = i + d → d < k →
    solventref05_Xor.l0 k a b (bl i (xb a b)) (i : Int) = some (strOfNums (bl a.size (xb a b)), 0) := by
  induction d with
  | zero =>
    intro k i hi hk
    obtain ⟨k, rfl⟩ : ∃ q, k = q + 1 := ⟨k - 1, by omega⟩
    simp only [solventref05_Xor.l0]
    rw [if_neg (by omega), show a.size = i by omega]
  | succ d ih =>
    intro k i hi hk
    obtain ⟨k, rfl⟩ : ∃ q, k = q + 1 := ⟨k - 1, by omega⟩
    have hih := ih k (i + 1) (by omega) (by omega)
    rw [bl_succ] at hih
    simp only [solventref05_Xor.l0]
    rw [if_pos (by omega), if_pos (by omega), if_pos (by omega), if_pos (by rw [bl_len]; omega), bx_eq]
    have e1 : wrap64 ((i : Int) + 1) = ((i + 1 : Nat) : Int) := by rw [w64 (by omega) (by omega)]; omega
    rw [e1]
    exact hih
theorem rXor_ok (a b : ByteArray) (he : a.size = b.size) (hu : a.size ≤ 100000) (k : Nat) (hk : 100100 ≤ k) : solventref05_Xor.f k a b = some (strOfNums (bl a.size (xb a b)), 0) := by
  unfold solventref05_Xor.f
  rw [if_pos (by omega)]
  exact rxor_loop a b he hu a.size k 0 (by omega) (by omega)
theorem rXor_bad (a b : ByteArray) (he : ¬ a.size = b.size) (k : Nat) : solventref05_Xor.f k a b = some (⟨#[]⟩, 1) := by
  unfold solventref05_Xor.f
  rw [if_neg (by omega)]

theorem xorF_rd (a b : ByteArray) (n k : Nat) (hk : k ≤ n) : ∀ i : Nat, i < n → rd (xorF a b n k) (i : Int) = if i < k then ((xb a b i : Nat) : Int) else bt a (i : Int) := by
  induction k with
  | zero => intro i hi; simp [xorF, rd, hi]
  | succ k ih =>
    intro i hi
    simp only [xorF]
    rw [rd_set _ _ _ _ (by rw [xorF_len]; omega)]
    have h1 := ih (by omega) k (by omega)
    rw [if_neg (by omega)] at h1
    by_cases e : i = k
    · subst e
      rw [if_pos rfl, if_pos (by omega), h1, bx_eq]
    · rw [if_neg e, ih (by omega) i hi]
      by_cases h : i < k
      · rw [if_pos h, if_pos (by omega)]
      · rw [if_neg h, if_neg (by omega)]
theorem fXor_ok (a b : ByteArray) (he : a.size = b.size) (hu : a.size ≤ 100000) : field_Xor.f a b = some (strOfNums (bl a.size (xb a b)), 0) := by
  unfold field_Xor.f
  rw [if_pos he, if_pos (by omega)]
  congr 3
  exact bl_of _ _ _ (xorF_len _ _ _ _) fun i hi => by rw [xorF_rd a b _ _ (Nat.le_refl _) i hi, if_pos hi]
theorem fXor_bad (a b : ByteArray) (he : ¬ a.size = b.size) : field_Xor.f a b = some (⟨#[]⟩, 1) := by
  unfold field_Xor.f
  rw [if_neg he]
end Go.Proofs.YtgmjaiknboafdaaDoor.H

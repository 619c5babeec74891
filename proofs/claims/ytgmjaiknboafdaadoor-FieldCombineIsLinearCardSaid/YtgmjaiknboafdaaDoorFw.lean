/- Combining units is linear: the law of FieldCombineIsLinear, plain. -/
import Derived.Test.YtgmjaiknboafdaaDoorFv
import Derived.Test.YtgmjaiknboafdaaDoorQ3
namespace Go.Proofs.YtgmjaiknboafdaaDoor.H
open Go.RowKit Go.Proofs.YtgmjaiknboafdaaDoorW.PrintWords Go.Proofs.YtgmjaiknboafdaaDoorW.PrintLast Go.Proofs.YtgmjaiknboafdaaDoorW.PrintMore Go.Proofs.YtgmjaiknboafdaaDoor.P
set_option linter.unusedVariables false

/-! ### rows of bytes -/
def rowN (s : ByteArray) (i : Nat) : Nat := if i < s.size then by_ s i else 0
theorem rowN_lt (s : ByteArray) (i : Nat) : rowN s i < 256 := by
  have := by_lt s i
  unfold rowN; split <;> omega
theorem row_loop (s : ByteArray) (n : Nat) (hn : n ≤ 1000) (d : Nat) : ∀ (k i : Nat), n = i + d → d < k →
    Q.solventlaw05_row.l0 k s (n : Int) (bl i (rowN s)) (i : Int) = some (strOfNums (bl n (rowN s))) := by
  induction d with
  | zero =>
    intro k i hi hk
    obtain ⟨k, rfl⟩ : ∃ q, k = q + 1 := ⟨k - 1, by omega⟩
    simp only [Q.solventlaw05_row.l0]
    rw [if_neg (by omega), show n = i by omega]
  | succ d ih =>
    intro k i hi hk
    obtain ⟨k, rfl⟩ : ∃ q, k = q + 1 := ⟨k - 1, by omega⟩
    have hih := ih k (i + 1) (by omega) (by omega)
    rw [bl_succ] at hih
    have e1 : wrap64 ((i : Int) + 1) = ((i + 1 : Nat) : Int) := by rw [w64 (by omega) (by omega)]; omega
    simp only [Q.solventlaw05_row.l0]
    rw [if_pos (by omega), e1]
    by_cases h : i < s.size
    · rw [if_pos (by omega), if_pos (by omega), if_pos (by rw [bl_len]; omega)]
      have e : bt s (i : Int) = ((rowN s i : Nat) : Int) := by rw [bt_by]; simp [rowN, h]
      rw [e]; exact hih
    · rw [if_neg (by omega), if_pos (by rw [bl_len]; omega)]
      have e : (0 : Int) = ((rowN s i : Nat) : Int) := by simp [rowN, h]
      rw [e]; exact hih
theorem row_ok (s : ByteArray) (n : Nat) (hn : n ≤ 1000) (k : Nat) (hk : 1001 ≤ k) : Q.solventlaw05_row.f k s (n : Int) = some (strOfNums (bl n (rowN s))) := by
  unfold Q.solventlaw05_row.f
  exact row_loop s n hn n k 0 (by omega) (by omega)

/-! ### lists of units -/
/-- the list of F 0 .. F (n-1) -/
def ml {α : Type} (n : Nat) (F : Nat → α) : List α := (List.range n).map F
theorem ml_len {α : Type} (n : Nat) (F : Nat → α) : (ml n F).length = n := by simp [ml]
theorem ml_succ {α : Type} (n : Nat) (F : Nat → α) : ml (n + 1) F = ml n F ++ [F n] := by simp [ml, List.range_succ]
theorem ml_rdOf {α : Type} (z : α) (n : Nat) (F : Nat → α) (i : Nat) (h : i < n) : rdOf z (ml n F) (i : Int) = F i := by simp [ml, rdOf, h]
theorem ml_rd (n : Nat) (F : Nat → Int) (i : Nat) (h : i < n) : rd (ml n F) (i : Int) = F i := by simp [ml, rd, h]

/-! ### linear -/
theorem byte_xor {a b c d : Nat} (hb : b < 256) (hd : d < 256) : (256 * a + b) ^^^ (256 * c + d) = 256 * (a ^^^ c) + (b ^^^ d) := by
  have hx : b ^^^ d < 256 := xor256 hb hd
  apply Nat.eq_of_testBit_eq
  intro i
  have e (x y : Nat) (hy : y < 256) : (256 * x + y).testBit i = if i < 8 then y.testBit i else x.testBit (i - 8) := by
    have := Nat.testBit_two_pow_mul_add x (i := 8) (b := y) (by omega) i
    exact this
  rw [Nat.testBit_xor, e _ _ hb, e _ _ hd, e _ _ hx]
  split
  · rw [Nat.testBit_xor]
  · rw [Nat.testBit_xor]
theorem xor_div (a b : Nat) : (a ^^^ b) / 256 = (a / 256) ^^^ (b / 256) := by
  have := Nat.xor_div_two_pow (a := a) (b := b) (n := 8)
  exact this
theorem xor_mod (a b : Nat) : (a ^^^ b) % 256 = (a % 256) ^^^ (b % 256) := by
  have := Nat.xor_mod_two_pow (a := a) (b := b) (n := 8)
  exact this

theorem sb_add (n c : Nat) (u v : Nat → Nat) (hu : ∀ i, u i < 256) (hv : ∀ i, v i < 256) (i : Nat) :
    sb n c (fun j => u j ^^^ v j) i = sb n c u i ^^^ sb n c v i := by
  unfold sb
  by_cases h : n = 8
  · rw [if_pos h, if_pos h, if_pos h, Gf.mul_xor]
  · rw [if_neg h, if_neg h, if_neg h]
    split
    · rw [← byte_xor (hu _) (hv _), Gf.mul_xor, xor_div]
    · rw [← byte_xor (hu _) (hv _), Gf.mul_xor, xor_mod]

theorem xs_add (n : Nat) (co : Nat → Nat) (un vn : Nat → Nat → Nat) (hu : ∀ j i, un j i < 256) (hv : ∀ j i, vn j i < 256) (k i : Nat) :
    xs n co (fun j i => un j i ^^^ vn j i) k i = xs n co un k i ^^^ xs n co vn k i := by
  induction k with
  | zero => simp [xs]
  | succ k ih =>
    simp only [xs]
    rw [ih, sb_add n (co k) (un k) (vn k) (hu k) (hv k)]
    ac_rfl

theorem sb_sb {n c d : Nat} (hn : Gf.Ok n) (hc : c < 2 ^ n) (hd : d < 2 ^ n) (u : Nat → Nat) (hu : ∀ i, u i < 256) (i : Nat) :
    sb n d (sb n c u) i = sb n c (sb n d u) i := by
  have comm : ∀ x, Gf.mul n d (Gf.mul n c x) = Gf.mul n c (Gf.mul n d x) := fun x => by
    rw [← Gf.mul_assoc hn hd hc, ← Gf.mul_assoc hn hc hd, Gf.mul_comm hn hd hc]
  have re : ∀ r : Nat, 256 * (r / 256) + r % 256 = r := fun r => by omega
  rcases hn with rfl | rfl
  · simp only [sb, if_pos]
    exact comm _
  · by_cases h : i % 2 = 0
    · have h1 : ¬ (i + 1) % 2 = 0 := by omega
      simp only [sb, if_neg (show ¬ (16 : Nat) = 8 by decide), if_pos h, if_neg h1, Nat.add_sub_cancel]
      rw [re, re, comm]
    · have h1 : (i - 1) % 2 = 0 := by omega
      have h2 : i - 1 + 1 = i := by omega
      simp only [sb, if_neg (show ¬ (16 : Nat) = 8 by decide), if_neg h, if_pos h1, h2]
      rw [re, re, comm]
theorem sb_zero (n c : Nat) (i : Nat) : sb n c (fun _ => 0) i = 0 := by
  unfold sb; simp [Gf.mul_zero]
theorem xs_scale {n c : Nat} (hn : Gf.Ok n) (hc : c < 2 ^ n) (co : Nat → Nat) (un : Nat → Nat → Nat) (hu : ∀ j i, un j i < 256) (k : Nat) (hco : ∀ j, j < k → co j < 2 ^ n) (i : Nat) :
    xs n co (fun j => sb n c (un j)) k i = sb n c (xs n co un k) i := by
  induction k generalizing i with
  | zero => exact (sb_zero n c i).symm
  | succ k ih =>
    have ih := fun i => ih (fun j hj => hco j (by omega)) i
    simp only [xs]
    rw [ih, sb_sb hn hc (hco k (by omega)) (un k) (hu k)]
    exact (sb_add n c (xs n co un k) (sb n (co k) (un k)) (fun i => xs_lt hn co un k (fun j hj => hco j (by omega)) i) (fun i => sb_lt hn (hco k (by omega)) _ _) i).symm

/-- bytes beyond the unit's end matter not -/
theorem sb_congr {n c : Nat} (hn : Gf.Ok n) (u v : Nat → Nat) (L : Nat) (hL : L % 2 = 0) (h : ∀ i, i < L → u i = v i) (i : Nat) (hi : i < L) : sb n c u i = sb n c v i := by
  unfold sb
  by_cases h8 : n = 8
  · rw [if_pos h8, if_pos h8, h i hi]
  · rw [if_neg h8, if_neg h8]
    by_cases hp : i % 2 = 0
    · rw [if_pos hp, if_pos hp, h i hi, h (i + 1) (by omega)]
    · rw [if_neg hp, if_neg hp, h i hi, h (i - 1) (by omega)]
theorem xs_congr {n : Nat} (hn : Gf.Ok n) (co co' : Nat → Nat) (un vn : Nat → Nat → Nat) (L : Nat) (hL : L % 2 = 0) (k : Nat) (hco : ∀ j, j < k → co j = co' j) (h : ∀ j i, j < k → i < L → un j i = vn j i) (i : Nat) (hi : i < L) : xs n co un k i = xs n co' vn k i := by
  induction k with
  | zero => rfl
  | succ k ih =>
    simp only [xs]
    rw [ih (fun j hj => hco j (by omega)) (fun j i hj hi => h j i (by omega) hi), hco k (by omega), sb_congr hn (un k) (vn k) L hL (fun i hi => h k i (by omega) hi) i hi]

/-! ### what the package answers to lists of rows -/
theorem scale_ok {n c : Nat} (hn : Gf.Ok n) (hc : c < 2 ^ n) (u : ByteArray) (hu : u.size ≤ 100000) (hev : u.size % 2 = 0) :
    field_Scale.f (n : Int) (c : Int) u = some (strOfNums (bl u.size (sb n c (by_ u))), 0) := by
  obtain ⟨r, h1, h2⟩ := scale_same (n : Int) (c : Int) u hu 300000 (Nat.le_refl _)
  rw [rScale_ok hn hc u hu (fun _ => hev) 300000 (by omega)] at h2
  rw [h1, ← h2]

theorem scale_row {n c : Nat} (hn : Gf.Ok n) (hc : c < 2 ^ n) (L : Nat) (hL : L % 2 = 0) (hL2 : L ≤ 1000) (u : Nat → Nat) (hu : ∀ i, i < L → u i < 256) :
    field_Scale.f (n : Int) (c : Int) (strOfNums (bl L u)) = some (strOfNums (bl L (sb n c u)), 0) := by
  rw [scale_ok hn hc _ (by rw [str_size]; omega) (by rw [str_size]; exact hL), str_size]
  rw [bl_congr L _ _ fun i hi => sb_congr hn _ u L hL (fun i hi => str_by L u i hi (hu i hi)) i hi]
theorem xor_row (L : Nat) (hL2 : L ≤ 1000) (u v : Nat → Nat) (hu : ∀ i, i < L → u i < 256) (hv : ∀ i, i < L → v i < 256) :
    field_Xor.f (strOfNums (bl L u)) (strOfNums (bl L v)) = some (strOfNums (bl L fun i => u i ^^^ v i), 0) := by
  rw [fXor_ok _ _ (by rw [str_size, str_size]) (by rw [str_size]; omega), str_size]
  rw [bl_congr L _ _ fun i hi => by unfold xb; rw [str_by L u i hi (hu i hi), str_by L v i hi (hv i hi)]]

theorem comb_rows {n : Nat} (hn : Gf.Ok n) (N L : Nat) (hN : 0 < N) (hL : L % 2 = 0) (hL2 : L ≤ 1000) (co : Nat → Nat) (hco : ∀ j, co j < 2 ^ n) (un : Nat → Nat → Nat) (hu : ∀ j i, i < L → un j i < 256) :
    field_Combine.f (n : Int) (ml N fun j => ((co j : Nat) : Int)) (ml N fun j => strOfNums (bl L (un j))) = some (strOfNums (bl L (xs n co un N)), 0) := by
  have r0 : ∀ j : Nat, j < N → rdOf ByteArray.empty (ml N fun j => strOfNums (bl L (un j))) (j : Int) = strOfNums (bl L (un j)) := fun j hj => ml_rdOf _ _ _ _ hj
  have z0 : (rdOf ByteArray.empty (ml N fun j => strOfNums (bl L (un j))) 0).size = L := by
    have := r0 0 hN
    rw [show ((0 : Nat) : Int) = 0 from rfl] at this
    rw [this, str_size]
  have hg : Good (n : Int) (ml N fun j => ((co j : Nat) : Int)) (ml N fun j => strOfNums (bl L (un j))) := by
    refine ⟨by rw [ml_len]; exact hN, by rw [ml_len, ml_len], fun j hj => ?_, fun j hj => ?_, fun _ => by rw [z0]; exact hL⟩
    · rw [ml_len] at hj
      rw [ml_rd _ _ _ hj]
      exact El.mk hn (hco j)
    · rw [ml_len] at hj
      rw [r0 j hj, z0, str_size]
  rw [comb_good hn hg (by rw [z0]; omega), z0, ml_len]
  rw [bl_congr L _ _ fun i hi => xs_congr hn _ co _ un L hL N (fun j hj => by
      show (rd _ (j : Int)).toNat = co j
      rw [ml_rd _ _ _ hj]; rfl) (fun j i hj hi => by
      show by_ (rdOf _ _ (j : Int)) i = un j i
      rw [r0 j hj, str_by L _ i hi (hu j i hi)]) i hi]
end Go.Proofs.YtgmjaiknboafdaaDoor.H

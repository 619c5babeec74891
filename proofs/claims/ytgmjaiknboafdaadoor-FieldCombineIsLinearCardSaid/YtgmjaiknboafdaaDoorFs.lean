/- Units as lists of bytes: what field.Scale, Xor, Combine and the reference's answer. -/
import Derived.Test.YtgmjaiknboafdaaDoorFr
import Derived.Test.YtgmjaiknboafdaaDoorHd
import Derived.Test.YtgmjaiknboafdaaDoorHx
import Derived.Test.YtgmjaiknboafdaaDoorP5
namespace Go.Proofs.YtgmjaiknboafdaaDoor.H
open Go.RowKit Go.Proofs.YtgmjaiknboafdaaDoorW.PrintWords Go.Proofs.YtgmjaiknboafdaaDoorW.PrintLast Go.Proofs.YtgmjaiknboafdaaDoorW.PrintMore Go.Proofs.YtgmjaiknboafdaaDoor.P
set_option linter.unusedVariables false

/-- byte i of a string -/
def by_ (u : ByteArray) (i : Nat) : Nat := (bt u (i : Int)).toNat
theorem by_lt (u : ByteArray) (i : Nat) : by_ u i < 256 := by have := bt_range u (i : Int); unfold by_; omega
theorem bt_by (u : ByteArray) (i : Nat) : bt u (i : Int) = (by_ u i : Int) := by have := bt_range u (i : Int); unfold by_; omega

/-- a list of n bytes -/
def bl (n : Nat) (f : Nat → Nat) : List Int := (List.range n).map fun i => ((f i : Nat) : Int)
theorem bl_len (n : Nat) (f : Nat → Nat) : (bl n f).length = n := by simp [bl]
theorem bl_rd (n : Nat) (f : Nat → Nat) (i : Nat) (h : i < n) : rd (bl n f) (i : Int) = (f i : Int) := by simp [bl, rd, h]
theorem bl_succ (n : Nat) (f : Nat → Nat) : bl (n + 1) f = bl n f ++ [((f n : Nat) : Int)] := by simp [bl, List.range_succ]
theorem bl_congr (n : Nat) (f g : Nat → Nat) (h : ∀ i, i < n → f i = g i) : bl n f = bl n g := by
  unfold bl; exact List.map_congr_left fun i hi => by rw [h i (List.mem_range.1 hi)]
theorem bl_of (l : List Int) (n : Nat) (f : Nat → Nat) (hl : l.length = n) (h : ∀ i : Nat, i < n → rd l (i : Int) = (f i : Int)) : l = bl n f := by
  apply List.ext_getElem
  · rw [hl, bl_len]
  · intro i h1 h2
    have e := h i (by omega)
    have e2 := bl_rd n f i (by omega)
    simp only [rd, Int.toNat_natCast, List.getD_eq_getElem?_getD, List.getElem?_eq_getElem h1, List.getElem?_eq_getElem h2, Option.getD_some] at e e2
    rw [e, e2]
theorem str_size (n : Nat) (f : Nat → Nat) : (strOfNums (bl n f)).size = n := by rw [strOfNums_size, bl_len]
theorem str_by (n : Nat) (f : Nat → Nat) (i : Nat) (h : i < n) (hf : f i < 256) : by_ (strOfNums (bl n f)) i = f i := by
  have hs := str_size n f
  have e : (strOfNums (bl n f)).data[i]'(by have : (strOfNums (bl n f)).data.size = n := hs; omega) = UInt8.ofNat (f i) := by simp [strOfNums, bl]
  unfold by_ bt
  rw [dif_pos (show (i : Int).toNat < (strOfNums (bl n f)).size by rw [hs]; simpa using h)]
  have e2 : (strOfNums (bl n f))[(i : Int).toNat]'(by rw [hs]; simpa using h) = UInt8.ofNat (f i) := e
  rw [e2]
  simp
  omega

theorem xorU8 (a b : Nat) (ha : a < 256) (hb : b < 256) : Go.bits .xor .u8 (a : Int) (b : Int) = ((a ^^^ b : Nat) : Int) := xor_u8 a b ha hb
theorem xor256 {a b : Nat} (ha : a < 256) (hb : b < 256) : a ^^^ b < 256 := Nat.xor_lt_two_pow (n := 8) ha hb

/-- byte i of the multiple of a unit -/
def sb (n c : Nat) (u : Nat → Nat) (i : Nat) : Nat :=
  if n = 8 then Gf.mul 8 c (u i) else if i % 2 = 0 then Gf.mul 16 c (256 * u i + u (i + 1)) / 256 else Gf.mul 16 c (256 * u (i - 1) + u i) % 256
theorem sb_lt {n c : Nat} (hn : Gf.Ok n) (hc : c < 2 ^ n) (u : Nat → Nat) (i : Nat) : sb n c u i < 256 := by
  unfold sb
  rcases hn with rfl | rfl
  · rw [if_pos rfl]; exact Gf.mul_lt (m := 8) (.inl rfl) _ hc
  · rw [if_neg (by decide)]
    have := Gf.mul_lt (m := 16) (.inr rfl) (256 * u i + u (i + 1)) hc
    split <;> omega

theorem rd_set (S : List Int) (k i : Nat) (x : Int) (hk : k < S.length) : rd (S.set k x) (i : Int) = if i = k then x else rd S (i : Int) := by
  by_cases e : i = k
  · subst e; simp [rd, hk]
  · simp [rd, e, Ne.symm e]

theorem fold8 (c : Nat) (u : ByteArray) (S : List Int) (k : Nat) (hk : k ≤ S.length) : ∀ i : Nat, i < S.length →
    rd ((upto (fun j => j) k).foldl (step8 (c : Int) u) S) (i : Int) = if i < k then Go.bits .xor .u8 (rd S (i : Int)) ((sb 8 c (by_ u) i : Nat) : Int) else rd S (i : Int) := by
  induction k with
  | zero => intro i hi; simp [upto]
  | succ k ih =>
    intro i hi
    have hl := step8_len (c : Int) u (upto (fun j => j) k) S
    rw [upto_succ, List.foldl_append]
    simp only [List.foldl_cons, List.foldl_nil, step8]
    rw [rd_set _ _ _ _ (by omega)]
    have ih1 := ih (by omega) k (by omega)
    have ih2 := ih (by omega) i hi
    rw [if_neg (by omega)] at ih1
    by_cases e : i = k
    · subst e
      rw [if_pos rfl, if_pos (by omega), ih1]
      rfl
    · rw [if_neg e, ih2]
      by_cases h : i < k
      · rw [if_pos h, if_pos (by omega)]
      · rw [if_neg h, if_neg (by omega)]

theorem fold16 (c : Nat) (u : ByteArray) (S : List Int) (k : Nat) (hk : 2 * k ≤ S.length) : ∀ i : Nat, i < S.length →
    rd ((upto (fun j => j) k).foldl (step16 (c : Int) u) S) (i : Int) = if i < 2 * k then Go.bits .xor .u8 (rd S (i : Int)) ((sb 16 c (by_ u) i : Nat) : Int) else rd S (i : Int) := by
  induction k with
  | zero => intro i hi; simp [upto]
  | succ k ih =>
    intro i hi
    have hl := step16_len (c : Int) u (upto (fun j => j) k) S
    rw [upto_succ, List.foldl_append]
    simp only [List.foldl_cons, List.foldl_nil, step16]
    rw [rd_set _ _ _ _ (by simp; omega), rd_set _ _ _ _ (by omega)]
    have a0 := ih (by omega) (2 * k) (by omega)
    have a1 := ih (by omega) (2 * k + 1) (by omega)
    have a2 := ih (by omega) i hi
    rw [if_neg (by omega)] at a0
    rw [if_neg (by omega)] at a1
    have c0 : ((2 * k : Nat) : Int) = 2 * (k : Int) := by omega
    have c1 : ((2 * k + 1 : Nat) : Int) = 2 * (k : Int) + 1 := by omega
    have sy : (256 * bt u (2 * (k : Int)) + bt u (2 * (k : Int) + 1)).toNat = 256 * by_ u (2 * k) + by_ u (2 * k + 1) := by
      rw [← c1, ← c0, bt_by, bt_by]; omega
    rw [c0] at a0
    rw [c1] at a1
    rw [sy, a0, a1]
    by_cases e0 : i = 2 * k
    · subst e0
      rw [if_pos rfl, if_pos (by omega), c0]
      congr 1
      simp [sb]
    · rw [if_neg e0]
      by_cases e1 : i = 2 * k + 1
      · subst e1
        rw [if_pos rfl, if_pos (by omega), c1]
        congr 1
        simp [sb]
      · rw [if_neg e1, a2]
        by_cases h : i < 2 * k
        · rw [if_pos h, if_pos (by omega)]
        · rw [if_neg h, if_neg (by omega)]

theorem acc_rd {n c : Nat} (hn : Gf.Ok n) (u : ByteArray) (S : List Int) (hS : S.length = u.size) (hev : n = 16 → u.size % 2 = 0) (i : Nat) (hi : i < u.size) :
    rd (accF (n : Int) (c : Int) u S) (i : Int) = Go.bits .xor .u8 (rd S (i : Int)) ((sb n c (by_ u) i : Nat) : Int) := by
  unfold accF
  rcases hn with rfl | rfl
  · rw [if_pos (show ((8 : Nat) : Int) = 8 from rfl), fold8 c u S u.size (by omega) i (by omega), if_pos hi]
  · have := hev rfl
    rw [if_neg (by decide), fold16 c u S (u.size / 2) (by omega) i (by omega), if_pos (by omega)]

/-- byte i of the sum of the first k multiples -/
def xs (n : Nat) (co : Nat → Nat) (un : Nat → Nat → Nat) : Nat → Nat → Nat
  | 0, _ => 0
  | k + 1, i => xs n co un k i ^^^ sb n (co k) (un k) i
theorem xs_lt {n : Nat} (hn : Gf.Ok n) (co : Nat → Nat) (un : Nat → Nat → Nat) (k : Nat) (hco : ∀ j, j < k → co j < 2 ^ n) (i : Nat) : xs n co un k i < 256 := by
  induction k with
  | zero => simp [xs]
  | succ k ih => exact xor256 (ih fun j hj => hco j (by omega)) (sb_lt hn (hco k (by omega)) _ _)

def coN (l : List Int) (j : Nat) : Nat := (rd l (j : Int)).toNat
def unN (l : List ByteArray) (j : Nat) : Nat → Nat := by_ (rdOf ByteArray.empty l (j : Int))

theorem sum_eq {n : Nat} (hn : Gf.Ok n) (l1 : List Int) (l2 : List ByteArray) (len : Nat) (k : Nat) (hev : n = 16 → len % 2 = 0)
    (hco : ∀ j : Nat, j < k → 0 ≤ rd l1 (j : Int) ∧ rd l1 (j : Int) < 2 ^ n) (hun : ∀ j : Nat, j < k → (rdOf ByteArray.empty l2 (j : Int)).size = len) :
    sumF (n : Int) l1 l2 len k = bl len (xs n (coN l1) (unN l2) k) := by
  induction k with
  | zero =>
    apply bl_of
    · simp [sumF]
    · intro i hi; simp [sumF, rd, xs, hi]
  | succ k ih =>
    have ih := ih (fun j hj => hco j (by omega)) (fun j hj => hun j (by omega))
    have hs := hun k (by omega)
    have hc := hco k (by omega)
    have hcn : ∀ j, j < k + 1 → coN l1 j < 2 ^ n := fun j hj => by
      have := hco j hj
      unfold coN
      have h2 : (((rd l1 (j : Int)).toNat : Nat) : Int) < ((2 ^ n : Nat) : Int) := by rw [Int.toNat_of_nonneg this.1]; exact_mod_cast this.2
      exact_mod_cast h2
    apply bl_of
    · rw [sumF_len]
    · intro i hi
      simp only [sumF]
      have e : rd l1 (k : Int) = ((coN l1 k : Nat) : Int) := by unfold coN; omega
      rw [e, acc_rd hn _ _ (by rw [sumF_len, hs]) (by rw [hs]; exact hev) i (by omega), ih, bl_rd _ _ _ hi, xorU8 _ _ (xs_lt hn _ _ k (fun j hj => hcn j (by omega)) i) (sb_lt hn (hcn k (by omega)) _ _)]
      rfl
end Go.Proofs.YtgmjaiknboafdaaDoor.H

/- The law of FieldCombineIsLinear, plain. -/
import Derived.Test.YtgmjaiknboafdaaDoorFw
namespace Go.Proofs.YtgmjaiknboafdaaDoor.H
open Go.RowKit Go.Proofs.YtgmjaiknboafdaaDoorW.PrintWords Go.Proofs.YtgmjaiknboafdaaDoorW.PrintLast Go.Proofs.YtgmjaiknboafdaaDoorW.PrintMore Go.Proofs.YtgmjaiknboafdaaDoor.P
set_option linter.unusedVariables false

theorem linear_rg (x : Int) (h : (Lit.int .u16 x).wf = true) : ∃ n : Nat, x = n ∧ n < 65536 := by
  have : 0 ≤ x ∧ x ≤ 65535 := by
    simp [Lit.wf] at h
    exact ⟨Int.le_trans (by decide) h.1, Int.le_trans h.2 (by decide)⟩
  exact ⟨x.toNat, by omega, by omega⟩
theorem linear_red {m : Nat} (hm : Gf.Ok m) (d : Nat) (hd : d < 65536) : Int.tmod (wrap64 (d : Int)) ((2 ^ m : Nat) : Int) = ((d % 2 ^ m : Nat) : Int) := by
  rw [w64 (by omega) (by omega), Int.tmod_eq_emod_of_nonneg (by omega)]
  exact (Int.natCast_emod d (2 ^ m)).symm

/-- the coefficients, the rows -/
def lco (m : Nat) (l2 : List Int) (j : Nat) : Nat := (rd l2 (j : Int)).toNat % 2 ^ m
def lun (l : List ByteArray) (j : Nat) : Nat → Nat := rowN (rdOf ByteArray.empty l (j : Int))
theorem lun_lt (l : List ByteArray) (j i : Nat) : lun l j i < 256 := rowN_lt _ _

theorem linear_end {m c : Nat} (hm : Gf.Ok m) (hc : c < 2 ^ m) (l2 : List Int) (l3 l4 : List ByteArray) (L : Nat) (hL : L % 2 = 0) (hL2 : L ≤ 1000) (N : Nat) (hN : 0 < N) (k : Nat) (hk : 1 ≤ k) (wd : Bool) (c0 : Int) (b : Int) :
    Q.solventlaw05_FieldCombineIsLinear.l0 (k + 1) true (N : Int) (m : Int) (c : Int) (ml N fun j => ((lco m l2 j : Nat) : Int)) (ml N fun j => strOfNums (bl L (lun l3 j))) (ml N fun j => strOfNums (bl L (lun l4 j)))
      (ml N fun j => strOfNums (bl L fun i => lun l3 j i ^^^ lun l4 j i)) (ml N fun j => strOfNums (bl L (sb m c (lun l3 j)))) (N : Int) wd c0 l2 l3 l4 b = some true := by
  have hp := Nat.two_pow_pos m
  have hco : ∀ j, lco m l2 j < 2 ^ m := fun j => Nat.mod_lt _ hp
  have xl : ∀ (un : Nat → Nat → Nat) i, xs m (lco m l2) un N i < 256 := fun un i => xs_lt hm _ un N (fun j _ => hco j) i
  simp only [Q.solventlaw05_FieldCombineIsLinear.l0]
  rw [if_neg (by omega)]
  rw [comb_rows hm N L hN hL hL2 _ hco (lun l3) (fun j i _ => lun_lt _ _ _), Option.bind_some, comb_rows hm N L hN hL hL2 _ hco (lun l4) (fun j i _ => lun_lt _ _ _), Option.bind_some,
    comb_rows hm N L hN hL hL2 _ hco (fun j i => lun l3 j i ^^^ lun l4 j i) (fun j i _ => xor256 (lun_lt _ _ _) (lun_lt _ _ _)), Option.bind_some,
    comb_rows hm N L hN hL hL2 _ hco (fun j => sb m c (lun l3 j)) (fun j i _ => sb_lt hm hc _ _), Option.bind_some]
  simp only [if_true]
  obtain ⟨k, rfl⟩ : ∃ q, k = q + 1 := ⟨k - 1, by omega⟩
  simp only [Q.solventlaw05_FieldCombineIsLinear.j3]
  rw [if_neg (by decide), xor_row L hL2 _ _ (fun i _ => xl _ i) (fun i _ => xl _ i), Option.bind_some, scale_row hm hc L hL hL2 _ (fun i _ => xl _ i), Option.bind_some]
  simp only [if_true]
  rw [bl_congr L (xs m (lco m l2) (fun j i => lun l3 j i ^^^ lun l4 j i) N) _ fun i _ => xs_add m (lco m l2) (lun l3) (lun l4) (lun_lt l3) (lun_lt l4) N i]
  rw [bl_congr L (xs m (lco m l2) (fun j => sb m c (lun l3 j)) N) _ fun i _ => xs_scale hm hc (lco m l2) (lun l3) (lun_lt l3) N (fun j _ => hco j) i]
  rw [if_pos rfl]
  simp

theorem linear_loop {m c : Nat} (hm : Gf.Ok m) (hc : c < 2 ^ m) (l2 : List Int) (l3 l4 : List ByteArray) (h2 : ∀ n ∈ l2, (Lit.int .u16 n).wf = true) (b L : Nat) (hLb : L = 2 * b) (hb : b ≤ 32) (N : Nat) (hN : 0 < N) (hN8 : N ≤ 8)
    (n2 : N ≤ l2.length) (n3 : N ≤ l3.length) (n4 : N ≤ l4.length) (wd : Bool) (c0 : Int) (d : Nat) : ∀ (k i : Nat), N = i + d → d + 1010 < k →
    Q.solventlaw05_FieldCombineIsLinear.l0 k true (N : Int) (m : Int) (c : Int) (ml i fun j => ((lco m l2 j : Nat) : Int)) (ml i fun j => strOfNums (bl L (lun l3 j))) (ml i fun j => strOfNums (bl L (lun l4 j)))
      (ml i fun j => strOfNums (bl L fun i => lun l3 j i ^^^ lun l4 j i)) (ml i fun j => strOfNums (bl L (sb m c (lun l3 j)))) (i : Int) wd c0 l2 l3 l4 (b : Int) = some true := by
  induction d with
  | zero =>
    intro k i hi hk
    obtain ⟨k, rfl⟩ : ∃ q, k = q + 1 := ⟨k - 1, by omega⟩
    obtain rfl : N = i := by omega
    exact linear_end hm hc l2 l3 l4 L (by omega) (by omega) N hN k (by omega) wd c0 (b : Int)
  | succ d ih =>
    intro k i hi hk
    obtain ⟨k, rfl⟩ : ∃ q, k = q + 1 := ⟨k - 1, by omega⟩
    have hih := ih k (i + 1) (by omega) (by omega)
    rw [ml_succ, ml_succ, ml_succ, ml_succ, ml_succ] at hih
    have hp := Nat.two_pow_pos m
    have p0 : (i : Int) < (N : Int) := by omega
    have p1 : (0 : Int) ≤ (i : Int) := by omega
    have p2 : (i : Int) < (l2.length : Int) := by omega
    have p3 : (0 : Int) ≤ (m : Int) := by omega
    have p4 : ¬ ((2 ^ m : Nat) : Int) = 0 := by omega
    have p5 : (i : Int) < (l3.length : Int) := by omega
    have p6 : (i : Int) < (l4.length : Int) := by omega
    have hmem : rd l2 (i : Int) ∈ l2 := by simp [rd, List.getElem?_eq_getElem (show i < l2.length by omega)]
    obtain ⟨q, hq, hq2⟩ := linear_rg _ (h2 _ hmem)
    have q1 : ∀ {α : Type} (F : Nat → α), (ml i F).length < 8796093022208 := fun F => by rw [ml_len]; omega
    have q2 : ∀ {α : Type} (F : Nat → α), (ml i F).length < 17592186044416 := fun F => by rw [ml_len]; omega
    have r3 : Q.solventlaw05_row.f k (rdOf ByteArray.empty l3 (i : Int)) (L : Int) = some (strOfNums (bl L (lun l3 i))) := row_ok _ L (by omega) k (by omega)
    have r4 : Q.solventlaw05_row.f k (rdOf ByteArray.empty l4 (i : Int)) (L : Int) = some (strOfNums (bl L (lun l4 i))) := row_ok _ L (by omega) k (by omega)
    have rx := xor_row L (by omega) (lun l3 i) (lun l4 i) (fun i _ => lun_lt _ _ _) (fun i _ => lun_lt _ _ _)
    have rs := scale_row hm hc L (by omega) (by omega) (lun l3 i) (fun i _ => lun_lt _ _ _)
    have b1 := q2 fun j => ((lco m l2 j : Nat) : Int)
    have b2 := q1 fun j => strOfNums (bl L (lun l3 j))
    have b3 := q1 fun j => strOfNums (bl L (lun l4 j))
    have b4 := q1 fun j => strOfNums (bl L fun i => lun l3 j i ^^^ lun l4 j i)
    have b5 := q1 fun j => strOfNums (bl L (sb m c (lun l3 j)))
    have e1 : wrap64 ((i : Int) + 1) = ((i + 1 : Nat) : Int) := (w64 (by omega) (by omega)).trans (by omega)
    have e2 : wrap64 (2 * (b : Int)) = (L : Int) := by clear e1; rw [w64 (by omega) (by omega)]; omega
    have eco : Int.tmod (wrap64 (rd l2 (i : Int))) ((2 ^ m : Nat) : Int) = ((lco m l2 i : Nat) : Int) := by
      unfold lco
      rw [hq, linear_red hm q hq2]
      rfl
    clear q1 q2 ih h2 hmem hq hb hLb
    generalize ml i (fun j => ((lco m l2 j : Nat) : Int)) = z1 at *
    generalize ml i (fun j => strOfNums (bl L (lun l3 j))) = z2 at *
    generalize ml i (fun j => strOfNums (bl L (lun l4 j))) = z3 at *
    generalize ml i (fun j => strOfNums (bl L fun i => lun l3 j i ^^^ lun l4 j i)) = z4 at *
    generalize ml i (fun j => strOfNums (bl L (sb m c (lun l3 j)))) = z5 at *
    generalize strOfNums (bl L (lun l3 i)) = y3 at *
    generalize strOfNums (bl L (lun l4 i)) = y4 at *
    generalize strOfNums (bl L fun j => lun l3 i j ^^^ lun l4 i j) = y5 at *
    generalize strOfNums (bl L (sb m c (lun l3 i))) = y6 at *
    simp only [Q.solventlaw05_FieldCombineIsLinear.l0]
    rw [if_pos p0, if_pos p1, if_pos p2, if_pos p3, shl_one hm, if_neg p4, if_pos b1, if_pos p5, e2, r3, Option.bind_some, if_pos p6, r4, Option.bind_some, rx, Option.bind_some, rs, Option.bind_some, if_pos b2, if_pos b3, if_pos b4, if_pos b5, eco, e1]
    exact hih

theorem linear_pure (wd : Bool) (c : Int) (l2 : List Int) (l3 l4 : List ByteArray) (b : Int) (hc : (Lit.int .u16 c).wf = true) (h2 : ∀ n ∈ l2, (Lit.int .u16 n).wf = true) (_hb : (Lit.int .i64 b).wf = true) :
    ∃ k, Q.solventlaw05_FieldCombineIsLinear.f k wd c l2 l3 l4 b = some true := by
  obtain ⟨k, hk⟩ : ∃ k : Nat, k = 2000 := ⟨_, rfl⟩
  refine ⟨k + 3, ?_⟩
  unfold Q.solventlaw05_FieldCombineIsLinear.f
  rw [sanity_ok (k + 3) (by omega), Option.bind_some]
  obtain ⟨c, rfl, hc16⟩ := linear_rg c hc
  obtain ⟨x, hx, x2, x3, x4⟩ : ∃ x : Int, (mn (mn (l2.length : Int) (l3.length : Int)) (l4.length : Int)) = x ∧ x ≤ l2.length ∧ x ≤ l3.length ∧ x ≤ l4.length := by
    refine ⟨_, rfl, ?_, ?_, ?_⟩ <;> unfold mn <;> repeat' split
    all_goals omega
  rw [hx]
  have hj0 : ∀ bb, Q.solventlaw05_FieldCombineIsLinear.j0 (k + 3) true x true bb (c : Int) l2 l3 l4 b = some true := fun bb => by
    simp only [Q.solventlaw05_FieldCombineIsLinear.j0]
    rw [if_pos trivial]
  by_cases h1 : x < 1
  · rw [if_pos h1, hj0]
  rw [if_neg h1]
  by_cases h8 : x > 8
  · rw [if_pos h8, hj0]
  rw [if_neg h8]
  by_cases h0 : b < 0
  · rw [if_pos h0, hj0]
  rw [if_neg h0]
  by_cases h32 : b > 32
  · rw [decide_eq_true h32, hj0]
  rw [decide_eq_false h32]
  obtain ⟨N, rfl⟩ : ∃ N : Nat, x = N := ⟨x.toNat, by omega⟩
  obtain ⟨b, rfl⟩ : ∃ N : Nat, b = N := ⟨b.toNat, by omega⟩
  have go : ∀ m : Nat, Gf.Ok m → Q.solventlaw05_FieldCombineIsLinear.j1 (k + 2) true (N : Int) (m : Int) wd (c : Int) l2 l3 l4 (b : Int) = some true := fun m hm => by
    have hp := Nat.two_pow_pos m
    simp only [Q.solventlaw05_FieldCombineIsLinear.j1]
    rw [if_pos (by omega), shl_one hm, if_neg (by omega), linear_red hm c hc16]
    exact linear_loop hm (Nat.mod_lt _ hp) l2 l3 l4 h2 b (2 * b) rfl (by omega) N (by omega) (by omega) (by omega) (by omega) (by omega) wd (c : Int) N (k + 1) 0 (by omega) (by omega)
  simp only [Q.solventlaw05_FieldCombineIsLinear.j0]
  rw [if_neg (by decide)]
  cases wd with
  | true => rw [if_pos rfl]; exact go 16 (.inr rfl)
  | false => rw [if_neg (by decide)]; exact go 8 (.inl rfl)
end Go.Proofs.YtgmjaiknboafdaaDoor.H

/- Qr. -/
import Derived.Test.YtfigcmmmpndpjaaDoorUh
import Derived.Test.YtfigcmmmpndpjaaDoorP21
/- MatrixRanks: the law as plain answers. -/
namespace Go.Proofs.YtfigcmmmpndpjaaDoor.H
open Go.RowKit Go.Proofs.YtfigcmmmpndpjaaDoorW.PrintWords Go.Proofs.YtfigcmmmpndpjaaDoorW.PrintLast Go.Proofs.YtfigcmmmpndpjaaDoorW.PrintMore Go.Proofs.YtfigcmmmpndpjaaDoor.P
set_option linter.unusedVariables false
theorem ranks_j1 (k : Nat) (hk : 3000 ≤ k) {m r n : Nat} (hm : Gf.Ok m) (hr : r ≤ 32) (hn : n ≤ 32) {l : List Int} (hl : l.length = r * n) (hin : ∀ x ∈ l, 0 ≤ x ∧ x < 2 ^ m) (b0 b1 b2 : Int) (l' : List Int) :
    solventlaw06_MatrixRanks.j1 k (((Mx.redTo m r (Mx.el n l) n).2.length : Nat) : Int) false m r n l b0 b1 b2 l' = some true := by
  haveI : Mx.OkF m := ⟨hm⟩
  obtain ⟨k, rfl⟩ : ∃ q, k = q + 1 := ⟨k - 1, by omega⟩
  simp only [solventlaw06_MatrixRanks.j1]
  rw [if_neg (by simp)]
  have hA := el_in hl hin
  by_cases hM : validB m r n l = true ∧ validB b0 b1 b2 l' = true ∧ (m : Int) = b0 ∧ (n : Int) = b1
  · obtain ⟨hv, hv', e0, e1⟩ := hM
    subst e0 e1
    obtain ⟨m', n', c, _, em, en, rfl, _, hc, hl', hin'⟩ := valid_open hv'
    obtain rfl : m' = m := by omega
    obtain rfl : n' = n := by omega
    have hB := el_in hl' hin'
    have hD : Mx.In m' r c (Mx.dot m' n' (Mx.el n' l) (Mx.el c l')) := fun i j hi _ => Mx.dot_lt hm n' j fun k hk => hA i k hi hk
    have e : matrix_Mul.f k m' r n' l m' n' c l' = some ((m' : Int), (r : Int), (c : Int), Mx.cells r c (Mx.dot m' n' (Mx.el n' l) (Mx.el c l')), 0) := by
      unfold matrix_Mul.f
      rw [if_pos ⟨hv, hv', rfl, rfl⟩]
      simp only [Int.toNat_natCast]
    have hle := rank_mul (m := m') hA hB
    rw [e, Option.bind_some]
    simp only
    rw [if_pos trivial, rank_cells k hm hr hc hD, Option.bind_some, solventlaw06_sanity.f, Option.bind_some, if_pos rfl, if_pos (by omega), rank_is k hm hn hc hl' hin', Option.bind_some, decide_eq_true (by omega)]
  · have e : matrix_Mul.f k m r n l b0 b1 b2 l' = some (0, 0, 0, [], 1) := by
      unfold matrix_Mul.f
      rw [if_neg hM]
    rw [e, Option.bind_some, if_neg (by simp), solventlaw06_sanity.f, Option.bind_some]
theorem ranks_law (a0 a1 a2 : Int) (l : List Int) (b0 b1 b2 : Int) (l' : List Int) : ∃ k, solventlaw06_MatrixRanks.f k a0 a1 a2 l b0 b1 b2 l' = some true := by
  obtain ⟨k, hk⟩ := big
  refine ⟨k + 2, ?_⟩
  unfold solventlaw06_MatrixRanks.f
  rw [small_is, Option.bind_some, small_is, Option.bind_some, valid_eq (k + 2) (by omega), Option.bind_some]
  have hno : solventlaw06_MatrixRanks.j0 (k + 2) false a0 a1 a2 l b0 b1 b2 l' = some true := by
    simp only [solventlaw06_MatrixRanks.j0]
    rw [if_neg (by simp), solventlaw06_sanity.f, Option.bind_some]
  by_cases h1 : decide (a1 ≤ 12 ∧ a2 ≤ 12 ∧ (l.length : Int) ≤ 200) = true
  case neg => rw [if_neg h1]; exact hno
  rw [if_pos h1]
  by_cases h2 : decide (b1 ≤ 12 ∧ b2 ≤ 12 ∧ (l'.length : Int) ≤ 200) = true
  case neg => rw [if_neg h2]; exact hno
  rw [if_pos h2]
  cases hv : validB a0 a1 a2 l with
  | false => exact hno
  | true =>
    obtain ⟨m, r, c, hm, rfl, rfl, rfl, hr, hc, hl, hin⟩ := valid_open hv
    haveI : Mx.OkF m := ⟨hm⟩
    have hA := el_in hl hin
    have hT : Mx.In m c r (fun i j => Mx.el c l j i) := fun i j hi hj => hA j i hj hi
    have hps := (Mx.redTo_in hm hT (Nat.le_refl r)).2
    have ht := rank_tr (m := m) hA
    have hlen := piv_len (Mx.redTo m c (fun i j => Mx.el c l j i) r).2
    have hrow := piv_in (m := m) (r := c) (c := r) (f := fun i j => Mx.el c l j i)
    have hP : Mx.In m (piv (Mx.redTo m c (fun i j => Mx.el c l j i) r).2).length c (fun i j => Mx.el c l (rd (piv (Mx.redTo m c (fun i j => Mx.el c l j i) r).2) i).toNat j) := fun i j hi hj => by
      have := hrow _ (rd_mem hi)
      exact hA _ j (by omega) hj
    simp only [solventlaw06_MatrixRanks.j0]
    have ep : matrix_Pick.f m r c l (piv (Mx.redTo m c (fun i j => Mx.el c l j i) r).2) = some ((m : Int), ((piv (Mx.redTo m c (fun i j => Mx.el c l j i) r).2).length : Int), (c : Int), picked c l (piv (Mx.redTo m c (fun i j => Mx.el c l j i) r).2) (piv (Mx.redTo m c (fun i j => Mx.el c l j i) r).2).length, 0) := by
      unfold matrix_Pick.f
      rw [if_pos ⟨hv, by omega, hrow⟩]
      simp only [Int.toNat_natCast]
    rw [if_pos trivial, rank_is (k + 1) hm hr hc hl hin, Option.bind_some, tr_is hm hr hc hl hin, Option.bind_some, indep_is (k + 1) hm hr hc hl hin, Option.bind_some, ep, Option.bind_some]
    simp only
    rw [if_pos trivial, if_pos trivial, rank_cells (k + 1) hm hc hr hT, Option.bind_some, if_pos (by omega), if_pos (by omega)]
    have er : matrix_Rank.f (k + 1) m ((piv (Mx.redTo m c (fun i j => Mx.el c l j i) r).2).length : Int) c (picked c l (piv (Mx.redTo m c (fun i j => Mx.el c l j i) r).2) (piv (Mx.redTo m c (fun i j => Mx.el c l j i) r).2).length) = some (((Mx.redTo m r (Mx.el c l) c).2.length : Nat) : Int) := by
      refine (rank_cells (k + 1) hm (by omega) hc hP).trans ?_
      rw [← ht]
      have := rank_rows (m := m) hA (g := fun i j => Mx.el c l (rd (piv (Mx.redTo m c (fun i j => Mx.el c l j i) r).2) i).toNat j) (by rw [hlen] at hP; exact hP) (fun t j h1 h2 => by
        show Mx.el c l (rd (piv (Mx.redTo m c (fun i j => Mx.el c l j i) r).2) t).toNat j = _
        rw [piv_rd _ h1])
      rw [hlen, this]
    rw [er, Option.bind_some]
    have e : ((((Mx.redTo m r (Mx.el c l) c).2.length : Nat) : Int) != (((Mx.redTo m r (Mx.el c l) c).2.length : Nat) : Int)) = false := by simp
    rw [e]
    exact ranks_j1 (k + 1) (by omega) hm hr hc hl hin b0 b1 b2 l'
end Go.Proofs.YtfigcmmmpndpjaaDoor.H

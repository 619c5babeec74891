/- Qx. -/
import Derived.Test.YtfigcmmmpndpjaaDoorQv
import Derived.Test.YtfigcmmmpndpjaaDoorQw
/- MatrixSolves: what the two sides answer; the rank of both sides beside each other. -/
namespace Go.Proofs.YtfigcmmmpndpjaaDoor.H
open Go.RowKit Go.Proofs.YtfigcmmmpndpjaaDoorW.PrintWords Go.Proofs.YtfigcmmmpndpjaaDoorW.PrintLast Go.Proofs.YtfigcmmmpndpjaaDoorW.PrintMore Go.Proofs.YtfigcmmmpndpjaaDoor.P
set_option linter.unusedVariables false
theorem small_true {a b c : Int} {l : List Int} (h : solventlaw06_small.f a b c l = some true) : b ≤ 12 ∧ c ≤ 12 := by
  rw [small_is] at h
  simp only [Option.some.injEq, decide_eq_true_eq] at h
  exact ⟨h.1, h.2.1⟩
/-- the transposed sides below each other are both sides beside each other, transposed -/
theorem tr_stack {m r n d : Nat} {a b : List Int} (ha : Mat m r n a) (hb : Mat m r d b) :
    trL r n a ++ trL r d b = Mx.cells (n + d) r (fun i j => Mx.bes n (Mx.el n a) (Mx.el d b) j i) := by
  refine Mx.cells_ext (by rw [List.length_append, trL, trL, Mx.cells_len, Mx.cells_len, Nat.add_mul]) fun i j hi hj => ?_
  rw [List.getD_eq_getElem?_getD]
  by_cases h : i < n
  · have h1 := Mx.idx_lt h hj
    rw [List.getElem?_append_left (by rw [trL, Mx.cells_len]; exact h1), ← List.getD_eq_getElem?_getD, trL, Mx.cells_getD _ h hj]
    simp only [Mx.bes, if_pos h]
  · have e : i * r + j - (trL r n a).length = (i - n) * r + j := by
      rw [trL, Mx.cells_len, Nat.sub_mul]
      have : n * r ≤ i * r := Nat.mul_le_mul_right r (by omega)
      omega
    have h1 : n * r ≤ i * r := Nat.mul_le_mul_right r (by omega)
    rw [List.getElem?_append_right (by rw [trL, Mx.cells_len]; omega), e, ← List.getD_eq_getElem?_getD, trL, Mx.cells_getD _ (show i - n < d by omega) hj]
    simp only [Mx.bes, if_neg h]
theorem rank_stack (k : Nat) {m r n d : Nat} {a b : List Int} (ha : Mat m r n a) (hb : Mat m r d b) (hnd : n + d ≤ 32) :
    matrix_Rank.f k m ((n : Int) + (d : Int)) r (trL r n a ++ trL r d b) = some (((Mx.redTo m r (Mx.bes n (Mx.el n a) (Mx.el d b)) (n + d)).2.length : Nat) : Int) := by
  haveI : Mx.OkF m := ⟨ha.ok⟩
  have hB := Mx.bes_in ha.el hb.el
  have h := rank_cells k (m := m) (r := n + d) (c := r) ha.ok hnd ha.hr (F := fun i j => Mx.bes n (Mx.el n a) (Mx.el d b) j i) (fun i j hi hj => hB j i hj hi)
  rw [rank_tr hB] at h
  rw [tr_stack ha hb, ← h, Int.natCast_add]
end Go.Proofs.YtfigcmmmpndpjaaDoor.H

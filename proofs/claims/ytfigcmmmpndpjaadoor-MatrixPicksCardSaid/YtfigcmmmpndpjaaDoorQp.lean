/- Qp. -/
import Derived.Test.YtfigcmmmpndpjaaDoorUh
import Derived.Test.YtfigcmmmpndpjaaDoorP22
/- MatrixPicks: the law as plain answers. -/
namespace Go.Proofs.YtfigcmmmpndpjaaDoor.H
open Go.RowKit Go.Proofs.YtfigcmmmpndpjaaDoorW.PrintWords Go.Proofs.YtfigcmmmpndpjaaDoorW.PrintLast Go.Proofs.YtfigcmmmpndpjaaDoorW.PrintMore Go.Proofs.YtfigcmmmpndpjaaDoor.P
set_option linter.unusedVariables false
theorem dot_row {m n : Nat} {A A' B : Mx.Fn} {i i' j : Nat} (h : ∀ k, k < n → A i k = A' i' k) : Mx.dot m n A B i j = Mx.dot m n A' B i' j := by
  induction n with
  | zero => rfl
  | succ n ih =>
    simp only [Mx.dot]
    rw [ih fun k hk => h k (by omega), h n (by omega)]
/-- cells within the field -/
theorem cells_in {m r c : Nat} {F : Mx.Fn} (h : Mx.In m r c F) : ∀ x ∈ Mx.cells r c F, 0 ≤ x ∧ x < 2 ^ m := fun x hx => by
  obtain ⟨i, j, hi, hj, rfl⟩ := Mx.cells_mem hx
  exact ⟨by omega, by exact_mod_cast h i j hi hj⟩
theorem valid_cells_in {m r c : Nat} (hm : Gf.Ok m) (hr : r ≤ 32) (hc : c ≤ 32) {F : Mx.Fn} (h : Mx.In m r c F) : validB m r c (Mx.cells r c F) = true :=
  valid_mk hm hr hc (Mx.cells_len _ _ _) (cells_in h)
theorem dot_in {m r n c : Nat} (hm : Gf.Ok m) {A B : Mx.Fn} (hA : Mx.In m r n A) : Mx.In m r c (Mx.dot m n A B) := fun i j hi _ => Mx.dot_lt hm n j fun k hk => hA i k hi hk
theorem mul_is (k : Nat) {m r n c : Nat} (hm : Gf.Ok m) (hr : r ≤ 32) (hn : n ≤ 32) (hc : c ≤ 32) {l l' : List Int} (hl : l.length = r * n) (hin : ∀ x ∈ l, 0 ≤ x ∧ x < 2 ^ m) (hl' : l'.length = n * c) (hin' : ∀ x ∈ l', 0 ≤ x ∧ x < 2 ^ m) :
    matrix_Mul.f k m r n l m n c l' = some ((m : Int), (r : Int), (c : Int), Mx.cells r c (Mx.dot m n (Mx.el n l) (Mx.el c l')), 0) := by
  unfold matrix_Mul.f
  rw [if_pos ⟨valid_mk hm hr hn hl hin, valid_mk hm hn hc hl' hin', rfl, rfl⟩]
  simp only [Int.toNat_natCast]
theorem pick_is {m r c : Nat} (hm : Gf.Ok m) (hr : r ≤ 32) (hc : c ≤ 32) {l rows : List Int} (hl : l.length = r * c) (hin : ∀ x ∈ l, 0 ≤ x ∧ x < 2 ^ m) (hn : rows.length ≤ 32) (h : ∀ x ∈ rows, 0 ≤ x ∧ x < (r : Int)) :
    matrix_Pick.f m r c l rows = some ((m : Int), (rows.length : Int), (c : Int), picked c l rows rows.length, 0) := by
  unfold matrix_Pick.f
  rw [if_pos ⟨valid_mk hm hr hc hl hin, hn, h⟩]
  simp only [Int.toNat_natCast]
theorem row_ok {r : Nat} {rows : List Int} (h : ∀ x ∈ rows, 0 ≤ x ∧ x < (r : Int)) {i : Nat} (hi : i < rows.length) : (rd rows i).toNat < r := by
  have := h _ (rd_mem hi)
  omega
theorem picked_in {m r c : Nat} {l rows : List Int} (hl : l.length = r * c) (hin : ∀ x ∈ l, 0 ≤ x ∧ x < 2 ^ m) (h : ∀ x ∈ rows, 0 ≤ x ∧ x < (r : Int)) : Mx.In m rows.length c (fun i j => Mx.el c l (rd rows i).toNat j) := fun i j hi hj =>
  el_in hl hin _ j (row_ok h hi) hj
theorem picks_law (a0 a1 a2 : Int) (l : List Int) (b0 b1 b2 : Int) (l' : List Int) (rows : List Int) : ∃ k, solventlaw06_MatrixPicks.f k a0 a1 a2 l b0 b1 b2 l' rows = some true := by
  obtain ⟨k, hk⟩ := big
  refine ⟨k + 2, ?_⟩
  unfold solventlaw06_MatrixPicks.f
  rw [small_is, Option.bind_some, small_is, Option.bind_some]
  have key : ∀ x, solventlaw06_MatrixPicks.j0 (k + 2) rows x a0 a1 a2 l b0 b1 b2 l' = some true := by
    intro x
    have hnot : ∀ (c0 c1 c2 : Int) (lc : List Int) (d0 d1 d2 : Int) (ld : List Int), solventlaw06_MatrixPicks.j1 (k + 1) rows true b0 b1 b2 l' c0 c1 c2 lc d0 d1 d2 ld = some true := by
      intro c0 c1 c2 lc d0 d1 d2 ld
      simp only [solventlaw06_MatrixPicks.j1]
      rw [if_pos trivial, solventlaw06_sanity.f, Option.bind_some]
    simp only [solventlaw06_MatrixPicks.j0]
    by_cases hM : validB a0 a1 a2 l = true ∧ validB b0 b1 b2 l' = true ∧ a0 = b0 ∧ a2 = b1
    · obtain ⟨hv, hv', rfl, rfl⟩ := hM
      obtain ⟨m, r, n, hmo, rfl, rfl, rfl, hr, hn, hl, hin⟩ := valid_open hv
      obtain ⟨m', n', c, _, em, en, rfl, _, hc, hl', hin'⟩ := valid_open hv'
      obtain rfl : m' = m := by omega
      obtain rfl : n' = n := by omega
      rw [mul_is k.succ hmo hr hn hc hl hin hl' hin', Option.bind_some]
      by_cases hP : rows.length ≤ 32 ∧ ∀ x ∈ rows, 0 ≤ x ∧ x < (r : Int)
      · obtain ⟨hrn, hrw⟩ := hP
        rw [pick_is hmo hr hn hl hin hrn hrw, Option.bind_some]
        cases x with
        | false => rw [if_neg (by simp)]; exact hnot _ _ _ _ _ _ _ _
        | true =>
          rw [if_pos rfl, if_pos rfl]
          simp only [solventlaw06_MatrixPicks.j1]
          rw [if_neg (by simp), pick_is hmo hr hc (Mx.cells_len _ _ _) (cells_in (dot_in hmo (el_in hl hin))) hrn hrw, Option.bind_some,
            mul_is k hmo hrn hn hc (picked_len _ _ _ _) (cells_in (picked_in hl hin hrw)) hl' hin', Option.bind_some, solventlaw06_sanity.f, Option.bind_some, if_pos rfl, if_pos rfl, if_pos rfl]
          simp only
          rw [same_rfl (by omega) (by rw [picked_len]; have := row_max hrn hc; omega) rfl rfl rfl ?_, Option.bind_some]
          refine Mx.cells_congr fun i j hi hj => ?_
          rw [Mx.el_cells _ (row_ok hrw hi) hj]
          exact dot_row fun t ht => (Mx.el_cells (fun i j => Mx.el n' l (rd rows i).toNat j) hi ht).symm
      · have e : matrix_Pick.f m' r n' l rows = some (0, 0, 0, [], 1) := by
          unfold matrix_Pick.f
          rw [if_neg (fun h => hP h.2)]
        rw [e, Option.bind_some]
        cases x with
        | false => rw [if_neg (by simp)]; exact hnot _ _ _ _ _ _ _ _
        | true => rw [if_pos rfl, if_pos rfl]; exact hnot _ _ _ _ _ _ _ _
    · have e : matrix_Mul.f (k + 1) a0 a1 a2 l b0 b1 b2 l' = some (0, 0, 0, [], 1) := by
        unfold matrix_Mul.f
        rw [if_neg hM]
      have ⟨Y, hY⟩ : ∃ Y, matrix_Pick.f a0 a1 a2 l rows = some Y := ⟨_, rfl⟩
      rw [e, Option.bind_some, hY, Option.bind_some]
      cases x with
      | false => rw [if_neg (by simp)]; exact hnot _ _ _ _ _ _ _ _
      | true => rw [if_pos rfl, if_neg (by simp)]; exact hnot _ _ _ _ _ _ _ _
  split
  · exact key _
  · exact key _
end Go.Proofs.YtfigcmmmpndpjaaDoor.H

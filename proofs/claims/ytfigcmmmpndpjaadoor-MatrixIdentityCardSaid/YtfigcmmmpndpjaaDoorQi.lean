/- Qi. -/
import Derived.Test.YtfigcmmmpndpjaaDoorUh
import Derived.Test.YtfigcmmmpndpjaaDoorP9
/- MatrixIdentity: the law as plain answers. -/
namespace Go.Proofs.YtfigcmmmpndpjaaDoor.H
open Go.RowKit Go.Proofs.YtfigcmmmpndpjaaDoorW.PrintWords Go.Proofs.YtfigcmmmpndpjaaDoorW.PrintLast Go.Proofs.YtfigcmmmpndpjaaDoorW.PrintMore Go.Proofs.YtfigcmmmpndpjaaDoor.P
set_option linter.unusedVariables false
theorem dot_one_left {m n c : Nat} (hm : Gf.Ok m) {B : Mx.Fn} (hB : Mx.In m n c B) {i j : Nat} (hi : i < n) (hj : j < c) : Mx.dot m n (fun i j => if i = j then 1 else 0) B i j = B i j := by
  haveI : Mx.OkF m := ⟨hm⟩
  have hI : Mx.In m n n (fun i j => if i = j then 1 else 0) := fun a b _ _ => by
    have : 1 < 2 ^ m := by rcases hm with rfl | rfl <;> decide
    show (if a = b then 1 else 0) < 2 ^ m
    split <;> omega
  have hD : Mx.In m n c (Mx.dot m n (fun i j => if i = j then 1 else 0) B) := fun a b ha hb => Mx.dot_lt hm n b fun k hk => hI a k ha hk
  refine Mx.of_up hD hB ?_ hi hj
  refine (Mx.up_dot hI hB).trans ?_
  refine La.Eq.trans (La.mm_congr (B' := Mx.up m B) (A' := La.one) ?_ La.Eq.rfl') (La.one_mm _)
  intro a b ha hb
  apply Mx.El.ext
  rw [Mx.up_v hI ha hb]
  show _ = (if a = b then (1 : Mx.El m) else 0).v
  split <;> rfl
theorem mul_ident {m a b : Nat} (hm : Gf.Ok m) (ha : a ≤ 32) (hb : b ≤ 32) {l : List Int} (hl : l.length = a * b) (hin : ∀ x ∈ l, 0 ≤ x ∧ x < 2 ^ m) (k : Nat) :
    matrix_Mul.f k m a a (Mx.cells a a (fun i j => if i = j then 1 else 0)) m a b l = some ((m : Int), (a : Int), (b : Int), l, 0) := by
  have hI : validB m a a (Mx.cells a a (fun i j => if i = j then 1 else 0)) = true := by
    refine valid_mk hm ha ha (Mx.cells_len _ _ _) fun x hx => ?_
    obtain ⟨i, j, _, _, rfl⟩ := Mx.cells_mem hx
    have : 1 < 2 ^ m := by rcases hm with rfl | rfl <;> decide
    split
    · exact ⟨by decide, by exact_mod_cast this⟩
    · exact ⟨by decide, by exact_mod_cast (show 0 < 2 ^ m by omega)⟩
  unfold matrix_Mul.f
  rw [if_pos ⟨hI, valid_mk hm ha hb hl hin, rfl, rfl⟩]
  simp only [Int.toNat_natCast]
  congr 1
  simp only [Prod.mk.injEq, true_and, and_true]
  refine Eq.trans ?_ (Mx.cells_of hl fun x hx => (hin x hx).1).symm
  refine Mx.cells_congr fun i j hi hj => ?_
  refine Eq.trans (Mx.dot_congr (A' := fun i j => if i = j then 1 else 0) (B' := Mx.el b l) (fun k hk => Mx.el_cells _ hi hk) (fun k hk => rfl)) ?_
  exact dot_one_left hm (el_in hl hin) hi hj
theorem identity_law (a0 a1 a2 : Int) (l : List Int) (m n : Int) : ∃ k, solventlaw06_MatrixIdentity.f k a0 a1 a2 l m n = some true := by
  obtain ⟨k, hk⟩ := big
  refine ⟨k + 2, ?_⟩
  unfold solventlaw06_MatrixIdentity.f
  have hlen : ∀ x, matrix_Identity.f m n = some x → x.2.2.2.1.length ≤ 1024 := by
    intro x hx
    unfold matrix_Identity.f at hx
    cases hx
    split
    · rename_i h
      simp only [Mx.cells_len]
      exact row_max (by omega) (by omega)
    · simp
  obtain ⟨X, hX⟩ : ∃ X, matrix_Identity.f m n = some X := ⟨_, rfl⟩
  have hXl := hlen X hX
  have hsame : ∀ q, 3000 ≤ q → solventref06_Same.f q X.1 X.2.1 X.2.2.1 X.2.2.2.1 X.1 X.2.1 X.2.2.1 X.2.2.2.1 = some true := fun q hq => same_rfl hq (by omega) rfl rfl rfl rfl
  rw [ident_eq (k + 2) (by omega), hX, Option.bind_some, Option.bind_some, small_is, Option.bind_some]
  have hnot : ∀ q, 3500 ≤ q → ∀ (b0 b1 b2 : Int) (lb : List Int), solventlaw06_MatrixIdentity.j1 q X.2.2.2.2 X.2.2.2.2 true b0 b1 b2 lb X.1 X.2.1 X.2.2.1 X.2.2.2.1 X.1 X.2.1 X.2.2.1 X.2.2.2.1 = some true := by
    intro q hq b0 b1 b2 lb
    obtain ⟨q, rfl⟩ : ∃ p, q = p + 1 := ⟨q - 1, by omega⟩
    simp only [solventlaw06_MatrixIdentity.j1]
    rw [if_pos trivial, solventlaw06_sanity.f, Option.bind_some, if_pos rfl, hsame q (by omega), Option.bind_some, if_pos rfl]
    simp
  by_cases hs : decide (a1 ≤ 12 ∧ a2 ≤ 12 ∧ (l.length : Int) ≤ 200) = true
  · rw [if_pos hs, valid_eq (k + 2) (by omega), Option.bind_some]
    simp only [solventlaw06_MatrixIdentity.j0]
    cases hv : validB a0 a1 a2 l with
    | false => rw [if_neg (by simp)]; exact hnot _ (by omega) _ _ _ _
    | true =>
      rw [if_pos rfl]
      by_cases hm : m = a0
      · rw [if_pos hm]
        by_cases hn : n = a1
        · subst hm hn
          have e : (n != n) = false := by simp
          rw [e]
          simp only [solventlaw06_MatrixIdentity.j1]
          rw [if_neg (by simp)]
          obtain ⟨m', a, b, hmo, rfl, rfl, rfl, ha, hb, hl, hin⟩ := valid_open hv
          have hI : matrix_Identity.f (m' : Int) (a : Int) = some ((m' : Int), (a : Int), (a : Int), Mx.cells a a (fun i j => if i = j then 1 else 0), 0) := by
            unfold matrix_Identity.f
            rw [if_pos ⟨by rcases hmo with rfl | rfl <;> simp, by omega, by omega⟩]
            rfl
          obtain rfl := Option.some.inj (hX.symm.trans hI)
          simp only
          rw [mul_ident hmo ha hb hl hin, Option.bind_some, solventlaw06_sanity.f, Option.bind_some, if_pos rfl]
          have h2 := hsame k (by omega)
          simp only at h2
          rw [h2, Option.bind_some, if_pos rfl, if_pos rfl, if_pos trivial]
          simp only
          rw [same_self k _ _ _ _ (by have := row_max ha hb; omega) (by have := row_max ha hb; omega)]
          rfl
        · have e : (n != a1) = true := by simpa using hn
          rw [e]
          exact hnot _ (by omega) _ _ _ _
      · rw [if_neg hm]
        exact hnot _ (by omega) _ _ _ _
  · rw [if_neg hs]
    simp only [solventlaw06_MatrixIdentity.j0]
    rw [if_neg (by simp)]
    exact hnot _ (by omega) _ _ _ _
end Go.Proofs.YtfigcmmmpndpjaaDoor.H

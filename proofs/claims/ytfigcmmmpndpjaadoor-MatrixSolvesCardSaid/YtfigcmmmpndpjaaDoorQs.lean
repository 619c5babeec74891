/- Qs. -/
import Derived.Test.YtfigcmmmpndpjaaDoorQm
import Derived.Test.YtfigcmmmpndpjaaDoorHs
import Derived.Test.YtfigcmmmpndpjaaDoorP7
/- Solve and Inverse: what the package answers solves, and if it answers none, there is none. -/
namespace Go.Proofs.YtfigcmmmpndpjaaDoor.H
open Go.RowKit Go.Proofs.YtfigcmmmpndpjaaDoorW.PrintWords Go.Proofs.YtfigcmmmpndpjaaDoorW.PrintLast Go.Proofs.YtfigcmmmpndpjaaDoorW.PrintMore Go.Proofs.YtfigcmmmpndpjaaDoor.P
set_option linter.unusedVariables false
theorem inc_inj (ps : List Nat) (h : ps.Pairwise (· < ·)) {s t : Nat} (hs : s < t) (ht : t < ps.length) : ps.getD s 0 < ps.getD t 0 := by
  rw [List.getD_eq_getElem?_getD, List.getD_eq_getElem?_getD, List.getElem?_eq_getElem ht, List.getElem?_eq_getElem (by omega)]
  exact List.pairwise_iff_getElem.1 h s t (by omega) ht hs
theorem up_bes (m c : Nat) (A B : Mx.Fn) : Mx.up m (Mx.bes c A B) = Mx.beside c (Mx.up m A) (Mx.up m B) := by
  funext i j
  apply Mx.El.ext
  show Mx.bes c A B i j % 2 ^ m = (Mx.beside c (Mx.up m A) (Mx.up m B) i j).v
  unfold Mx.bes Mx.beside
  split <;> rfl
theorem up_sol {m : Nat} [Mx.OkF m] (R : Mx.Fn) (ps : List Nat) (h : ps.Pairwise (· < ·)) (c : Nat) (k j : Nat) : ∀ t, t ≤ ps.length → Mx.up m (Mx.solTo R ps c t) k j = La.sum t fun t => if ps.getD t 0 = k then Mx.up m R t (c + j) else 0 := by
  intro t
  induction t with
  | zero => intro _; apply Mx.El.ext; show 0 % 2 ^ m = 0; simp
  | succ t ih =>
    intro ht
    have e := ih (by omega)
    rw [La.sum_succ, ← e]
    by_cases hk : k = ps.getD t 0
    · rw [if_pos hk.symm, e, La.sum_zero, La.zero_add]
      · apply Mx.El.ext
        show (if k = ps.getD t 0 then R t (c + j) else Mx.solTo R ps c t k j) % 2 ^ m = R t (c + j) % 2 ^ m
        rw [if_pos hk]
      · intro s hs
        have := inc_inj ps h hs (by omega)
        rw [if_neg (by omega)]
    · rw [if_neg (Ne.symm hk), La.add_zero]
      apply Mx.El.ext
      show (if k = ps.getD t 0 then R t (c + j) else Mx.solTo R ps c t k j) % 2 ^ m = Mx.solTo R ps c t k j % 2 ^ m
      rw [if_neg hk]
theorem sol_in {m r c d : Nat} {R : Mx.Fn} (h : Mx.In m r (c + d) R) (ps : List Nat) : ∀ t, t ≤ r → Mx.In m c d (Mx.solTo R ps c t) := by
  intro t
  induction t with
  | zero => intro _ i j _ _; exact Nat.two_pow_pos m
  | succ t ih =>
    intro ht i j hi hj
    show (if i = ps.getD t 0 then R t (c + j) else Mx.solTo R ps c t i j) < 2 ^ m
    split
    · exact h t (c + j) (by omega) (by omega)
    · exact ih (by omega) i j hi hj
/-- the reduced form of both beside each other -/
def both (m r n d : Nat) (a b : List Int) : Mx.Fn × List Nat := solveR m r n d a b
/-- the solution's cells -/
def solL (m r n d : Nat) (a b : List Int) : List Int := Mx.cells n d (Mx.solTo (both m r n d a b).1 (both m r n d a b).2 n (both m r n d a b).2.length)
def noneB (m r n d : Nat) (a b : List Int) : Bool := leftB (both m r n d a b).1 (both m r n d a b).2.length r n d
theorem solve_at (k : Nat) {m r n d : Nat} {a b : List Int} (ha : Mat m r n a) (hb : Mat m r d b) :
    matrix_Solve.f k m r n a m r d b = some (if noneB m r n d a b = true then (0, 0, 0, [], 12) else ((m : Int), (n : Int), (d : Int), solL m r n d a b, 0)) := by
  unfold matrix_Solve.f
  rw [if_pos ⟨ha.valid, hb.valid, rfl, rfl⟩]
  simp only [Int.toNat_natCast]
  rfl
theorem solve_no (k : Nat) {a0 a1 a2 b0 b1 b2 : Int} {l l' : List Int} (h : ¬ (validB a0 a1 a2 l = true ∧ validB b0 b1 b2 l' = true ∧ a0 = b0 ∧ a1 = b1)) : matrix_Solve.f k a0 a1 a2 l b0 b1 b2 l' = some (0, 0, 0, [], 1) := by
  unfold matrix_Solve.f
  rw [if_neg h]
section
variable {m r n d : Nat} {a b : List Int}
theorem both_ech [Mx.OkF m] (ha : Mat m r n a) (hb : Mat m r d b) :
    ∃ U W, Mx.Ech r (n + d) n (Mx.beside n (Mx.up m (Mx.el n a)) (Mx.up m (Mx.el d b))) (Mx.up m (both m r n d a b).1) (both m r n d a b).2 U W := by
  have h := Mx.bes_in ha.el hb.el
  obtain ⟨U, W, e⟩ := to_ech (j := n) h (by omega)
  rw [up_bes] at e
  exact ⟨U, W, e⟩
theorem both_in (ha : Mat m r n a) (hb : Mat m r d b) : Mx.In m r (n + d) (both m r n d a b).1 ∧ (both m r n d a b).2.length ≤ r :=
  Mx.redTo_in ha.ok (Mx.bes_in ha.el hb.el) (by omega)
theorem sol_mat (ha : Mat m r n a) (hb : Mat m r d b) : Mat m n d (solL m r n d a b) :=
  .of ha.ok ha.hc hb.hc (sol_in (both_in ha hb).1 _ _ (both_in ha hb).2)
/-- the solution solves -/
theorem sol_mul (ha : Mat m r n a) (hb : Mat m r d b) (hz : noneB m r n d a b = false) : mulL m r n d a (solL m r n d a b) = b := by
  haveI : Mx.OkF m := ⟨ha.ok⟩
  refine Eq.trans ?_ hb.cells.symm
  refine Mx.cells_congr fun i j hi hj => ?_
  refine (Mx.dot_congr (A' := Mx.el n a) (fun k hk => rfl) fun k hk => Mx.el_cells _ hk hj).trans ?_
  have hS := sol_in (both_in ha hb).1 (both m r n d a b).2 _ (both_in ha hb).2
  refine Mx.of_up (dotIn (c := d) ha.ok ha.el) hb.el ?_ hi hj
  refine (Mx.up_dot ha.el hS).trans ?_
  obtain ⟨U, W, e⟩ := both_ech ha hb
  have hno : ¬ Mx.Left (both m r n d a b).1 (both m r n d a b).2.length r n d := fun h => by
    have := (leftB_iff _ _ _ _ _).2 h
    exact absurd (this.symm.trans hz) (by simp)
  have h := Mx.sol_ok e fun i j h1 h2 h3 => by
    apply Mx.El.ext
    show (both m r n d a b).1 i (n + j) % 2 ^ m = 0
    have : (both m r n d a b).1 i (n + j) = 0 := by
      cases hx : (both m r n d a b).1 i (n + j) with
      | zero => rfl
      | succ x => exact absurd ⟨i, h1, h2, j, h3, by omega⟩ hno
    rw [this, Nat.zero_mod]
  refine (La.mm_congr La.Eq.rfl' ?_).trans h
  intro k j _ _
  exact up_sol _ _ e.inc n k j _ (Nat.le_refl _)
/-- the first columns alone -/
theorem ech_left {K : Type} [La.Fld K] {n c d : Nat} {A B R U W : La.Mat K} {ps : List Nat} (h : Mx.Ech n (c + d) c (Mx.beside c A B) R ps U W) : Mx.Ech n c c A R ps U W :=
  ⟨fun i j hi hj => by
    rw [← h.ua i j hi (by omega)]
    show La.sum n (fun k => U i k * A k j) = La.sum n (fun k => U i k * Mx.beside c A B k j)
    exact La.sum_congr fun k _ => by simp only [Mx.beside, if_pos hj], h.wu, h.rn, h.lt, h.inc, h.unit, h.zero⟩
theorem both_rank (ha : Mat m r n a) (hb : Mat m r d b) : (Mx.redTo m r (Mx.el n a) n).2.length = (both m r n d a b).2.length := by
  haveI : Mx.OkF m := ⟨ha.ok⟩
  obtain ⟨U, W, e⟩ := both_ech ha hb
  exact rank_eq ha.el (ech_left e).red.rank
/-- if none solves, the rank of both is more -/
theorem none_more (ha : Mat m r n a) (hb : Mat m r d b) (hz : noneB m r n d a b = true) : (Mx.redTo m r (Mx.el n a) n).2.length < (Mx.redTo m r (Mx.bes n (Mx.el n a) (Mx.el d b)) (n + d)).2.length := by
  haveI : Mx.OkF m := ⟨ha.ok⟩
  obtain ⟨U, W, e⟩ := both_ech ha hb
  obtain ⟨i, h1, h2, j, h3, hne⟩ := (leftB_iff _ _ _ _ _).1 hz
  rw [both_rank ha hb]
  have hr := rank_of (Mx.bes_in ha.el hb.el)
  rw [up_bes] at hr
  refine Mx.rank_more (s := 0) e h1 h2 h3 (fun h0 => hne ?_) hr
  have := congrArg Mx.El.v h0
  rw [Mx.up_v (both_in ha hb).1 h2 (by omega)] at this
  exact this
end
end Go.Proofs.YtfigcmmmpndpjaaDoor.H

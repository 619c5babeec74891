/- Qv. -/
import Derived.Test.YtfigcmmmpndpjaaDoorQs
/- The inverse: there is one if and only if the rank is full; it inverts on both sides; its inverse is the matrix. -/
namespace Go.Proofs.YtfigcmmmpndpjaaDoor.H
open Go.RowKit Go.Proofs.YtfigcmmmpndpjaaDoorW.PrintWords Go.Proofs.YtfigcmmmpndpjaaDoorW.PrintLast Go.Proofs.YtfigcmmmpndpjaaDoorW.PrintMore Go.Proofs.YtfigcmmmpndpjaaDoor.P
set_option linter.unusedVariables false
def idL (n : Nat) : List Int := Mx.cells n n (fun i j => if i = j then 1 else 0)
theorem id_in {m n : Nat} (hm : Gf.Ok m) : Mx.In m n n (fun i j => if i = j then 1 else 0) := fun a b _ _ => by
  have : 1 < 2 ^ m := by rcases hm with rfl | rfl <;> decide
  show (if a = b then 1 else 0) < 2 ^ m
  split <;> omega
theorem id_mat {m n : Nat} (hm : Gf.Ok m) (hn : n ≤ 32) : Mat m n n (idL n) := .of hm hn hn (id_in hm)
theorem ident_at {m n : Nat} (hm : Gf.Ok m) (hn : n ≤ 32) : matrix_Identity.f m n = some ((m : Int), (n : Int), (n : Int), idL n, 0) := by
  unfold matrix_Identity.f
  rw [if_pos ⟨by rcases hm with rfl | rfl <;> simp, by omega, by omega⟩]
  simp only [Int.toNat_natCast]
  rfl
theorem up_id {m n : Nat} [o : Mx.OkF m] : La.Eq n n (Mx.up m (fun i j => if i = j then 1 else 0)) La.one := fun i j hi hj => by
  apply Mx.El.ext
  rw [Mx.up_v (id_in o.ok) hi hj]
  show _ = (if i = j then (1 : Mx.El m) else 0).v
  split <;> rfl
section
variable {m n : Nat} {a x y : List Int}
theorem one_iff [Mx.OkF m] (ha : Mat m n n a) (hx : Mat m n n x) : mulL m n n n a x = idL n ↔ La.Eq n n (La.mm n (Mx.up m (Mx.el n a)) (Mx.up m (Mx.el n x))) La.one := by
  constructor
  · intro h
    refine (Mx.up_dot ha.el hx.el).symm.trans ?_
    refine La.Eq.trans (Mx.up_eq fun i j hi hj => Mx.cells_inj h hi hj) up_id
  · intro h
    refine Mx.cells_congr fun i j hi hj => ?_
    exact Mx.of_up (dotIn (c := n) ha.ok ha.el) (id_in ha.ok) (((Mx.up_dot ha.el hx.el).trans h).trans up_id.symm) hi hj
/-- the inverse's cells -/
def invL (m n : Nat) (a : List Int) : List Int := solL m n n n a (idL n)
def rankN (m n c : Nat) (a : List Int) : Nat := (Mx.redTo m n (Mx.el c a) c).2.length
theorem rank_at (k : Nat) {r c : Nat} {l : List Int} (h : Mat m r c l) : matrix_Rank.f k m r c l = some ((rankN m r c l : Nat) : Int) := rank_is k h.ok h.hr h.hc h.len h.num
theorem rank_le {r c : Nat} {l : List Int} (h : Mat m r c l) : rankN m r c l ≤ r := (Mx.redTo_in h.ok h.el (Nat.le_refl c)).2
theorem full_none (ha : Mat m n n a) (hr : rankN m n n a = n) : noneB m n n n a (idL n) = false := by
  cases hz : noneB m n n n a (idL n) with
  | false => rfl
  | true =>
    obtain ⟨i, h1, h2, _⟩ := (leftB_iff _ _ _ _ _).1 hz
    have := both_rank ha (id_mat ha.ok ha.hr)
    have h3 : (both m n n n a (idL n)).2.length = n := this.symm.trans hr
    exact absurd (h3 ▸ h1) (by omega)
theorem inverse_no (k : Nat) (ha : Mat m n n a) (hr : rankN m n n a < n) : matrix_Inverse.f (k + 1) m n n a = some (0, 0, 0, [], 10) := by
  unfold matrix_Inverse.f matrix_Valid.f
  rw [Option.bind_some, if_pos ha.valid]
  have e : ((n : Int) != (n : Int)) = false := by simp
  rw [e]
  simp only [matrix_Inverse.j0]
  rw [if_neg (by simp), rank_at k ha, Option.bind_some, if_pos (by omega)]
theorem inverse_at (k : Nat) (ha : Mat m n n a) (hr : rankN m n n a = n) : matrix_Inverse.f (k + 1) m n n a = some ((m : Int), (n : Int), (n : Int), invL m n a, 0) := by
  unfold matrix_Inverse.f matrix_Valid.f
  rw [Option.bind_some, if_pos ha.valid]
  have e : ((n : Int) != (n : Int)) = false := by simp
  rw [e]
  simp only [matrix_Inverse.j0]
  rw [if_neg (by simp), rank_at k ha, Option.bind_some, if_neg (by omega), ident_at ha.ok ha.hr, Option.bind_some, solve_at k ha (id_mat ha.ok ha.hr), Option.bind_some, full_none ha hr]
  rfl
theorem inv_mat (ha : Mat m n n a) : Mat m n n (invL m n a) := sol_mat ha (id_mat ha.ok ha.hr)
theorem inv_right (ha : Mat m n n a) (hr : rankN m n n a = n) : mulL m n n n a (invL m n a) = idL n := sol_mul ha (id_mat ha.ok ha.hr) (full_none ha hr)
theorem inv_left (ha : Mat m n n a) (hr : rankN m n n a = n) : mulL m n n n (invL m n a) a = idL n := by
  haveI : Mx.OkF m := ⟨ha.ok⟩
  have h1 := (one_iff ha (inv_mat ha)).1 (inv_right ha hr)
  obtain ⟨U, W, e⟩ := to_ech ha.el (Nat.le_refl n)
  exact (one_iff (inv_mat ha) ha).2 (Mx.inv_two (Mx.left_of_full e hr) h1)
theorem inv_rank (ha : Mat m n n a) (hr : rankN m n n a = n) : rankN m n n (invL m n a) = n := by
  haveI : Mx.OkF m := ⟨ha.ok⟩
  exact rank_eq (inv_mat ha).el (Mx.rank_full ((one_iff (inv_mat ha) ha).1 (inv_left ha hr)))
theorem inv_back (ha : Mat m n n a) (hr : rankN m n n a = n) : invL m n (invL m n a) = a := by
  haveI : Mx.OkF m := ⟨ha.ok⟩
  have hx := inv_mat ha
  have h1 := (one_iff ha hx).1 (inv_right ha hr)
  have h2 := (one_iff hx (inv_mat hx)).1 (inv_right hx (inv_rank ha hr))
  have h3 := Mx.inv_inv h1 h2
  rw [(inv_mat hx).cells, ha.cells]
  refine Mx.cells_congr fun i j hi hj => ?_
  have := Mx.of_up (inv_mat hx).el ha.el h3 hi hj
  rw [← ha.cells]
  exact this
end
end Go.Proofs.YtfigcmmmpndpjaaDoor.H

/- Qm. -/
import Derived.Test.YtfigcmmmpndpjaaDoorUh
/- Products: of three matrices, transposed; what the package's functions answer at valid matrices. -/
namespace Go.Proofs.YtfigcmmmpndpjaaDoor.H
open Go.RowKit Go.Proofs.YtfigcmmmpndpjaaDoorW.PrintWords Go.Proofs.YtfigcmmmpndpjaaDoorW.PrintLast Go.Proofs.YtfigcmmmpndpjaaDoorW.PrintMore Go.Proofs.YtfigcmmmpndpjaaDoor.P
set_option linter.unusedVariables false
/-- a valid matrix: its numbers, its cells -/
structure Mat (m r c : Nat) (l : List Int) : Prop where
  ok : Gf.Ok m
  hr : r ≤ 32
  hc : c ≤ 32
  len : l.length = r * c
  num : ∀ x ∈ l, 0 ≤ x ∧ x < 2 ^ m
theorem Mat.valid {m r c : Nat} {l : List Int} (h : Mat m r c l) : validB m r c l = true := valid_mk h.ok h.hr h.hc h.len h.num
theorem Mat.open {f r c : Int} {l : List Int} (h : validB f r c l = true) : ∃ m a b : Nat, f = m ∧ r = a ∧ c = b ∧ Mat m a b l := by
  obtain ⟨m, a, b, hm, e1, e2, e3, ha, hb, hl, hin⟩ := valid_open h
  exact ⟨m, a, b, e1, e2, e3, hm, ha, hb, hl, hin⟩
theorem Mat.el {m r c : Nat} {l : List Int} (h : Mat m r c l) : Mx.In m r c (Mx.el c l) := el_in h.len h.num
theorem Mat.of {m r c : Nat} (hm : Gf.Ok m) (hr : r ≤ 32) (hc : c ≤ 32) {F : Mx.Fn} (h : Mx.In m r c F) : Mat m r c (Mx.cells r c F) :=
  ⟨hm, hr, hc, Mx.cells_len _ _ _, fun x hx => by
    obtain ⟨i, j, hi, hj, rfl⟩ := Mx.cells_mem hx
    exact ⟨by omega, by exact_mod_cast h i j hi hj⟩⟩
theorem Mat.max {m r c : Nat} {l : List Int} (h : Mat m r c l) : l.length ≤ 1024 := by rw [h.len]; exact row_max h.hr h.hc
theorem Mat.cells {m r c : Nat} {l : List Int} (h : Mat m r c l) : l = Mx.cells r c (Mx.el c l) := Mx.cells_of h.len fun x hx => (h.num x hx).1
theorem dotIn {m r n c : Nat} (hm : Gf.Ok m) {A B : Mx.Fn} (hA : Mx.In m r n A) : Mx.In m r c (Mx.dot m n A B) := fun i j hi _ => Mx.dot_lt hm n j fun k hk => hA i k hi hk
theorem trIn {m r c : Nat} {A : Mx.Fn} (hA : Mx.In m r c A) : Mx.In m c r (fun i j => A j i) := fun i j hi hj => hA j i hj hi
/-- the product's cells -/
def mulL (m r n c : Nat) (l l' : List Int) : List Int := Mx.cells r c (Mx.dot m n (Mx.el n l) (Mx.el c l'))
def trL (r c : Nat) (l : List Int) : List Int := Mx.cells c r (fun i j => Mx.el c l j i)
theorem mulL_mat {m r n c : Nat} {l l' : List Int} (h : Mat m r n l) (h' : Mat m n c l') : Mat m r c (mulL m r n c l l') := .of h.ok h.hr h'.hc (dotIn h.ok h.el)
theorem trL_mat {m r c : Nat} {l : List Int} (h : Mat m r c l) : Mat m c r (trL r c l) := .of h.ok h.hc h.hr (trIn h.el)
theorem mul_at (k : Nat) {m r n c : Nat} {l l' : List Int} (h : Mat m r n l) (h' : Mat m n c l') : matrix_Mul.f k m r n l m n c l' = some ((m : Int), (r : Int), (c : Int), mulL m r n c l l', 0) := by
  unfold matrix_Mul.f
  rw [if_pos ⟨h.valid, h'.valid, rfl, rfl⟩]
  simp only [Int.toNat_natCast]
  rfl
theorem mul_no (k : Nat) {a0 a1 a2 b0 b1 b2 : Int} {l l' : List Int} (h : ¬ (validB a0 a1 a2 l = true ∧ validB b0 b1 b2 l' = true ∧ a0 = b0 ∧ a2 = b1)) : matrix_Mul.f k a0 a1 a2 l b0 b1 b2 l' = some (0, 0, 0, [], 1) := by
  unfold matrix_Mul.f
  rw [if_neg h]
theorem mul_zero {k : Nat} {a0 a1 a2 b0 b1 b2 : Int} {l l' : List Int} {x1 x2 x3 : Int} {x4 : List Int} {x5 : Int} (h : matrix_Mul.f k a0 a1 a2 l b0 b1 b2 l' = some (x1, x2, x3, x4, x5)) (h0 : x5 = 0) : validB a0 a1 a2 l = true ∧ validB b0 b1 b2 l' = true ∧ a0 = b0 ∧ a2 = b1 := by
  subst h0
  by_cases hc : validB a0 a1 a2 l = true ∧ validB b0 b1 b2 l' = true ∧ a0 = b0 ∧ a2 = b1
  · exact hc
  · rw [mul_no k hc] at h
    simp at h
theorem tr_at {m r c : Nat} {l : List Int} (h : Mat m r c l) : matrix_Transpose.f m r c l = some ((m : Int), (c : Int), (r : Int), trL r c l, 0) := by
  unfold matrix_Transpose.f
  rw [if_pos h.valid]
  simp only [Int.toNat_natCast]
  rfl
theorem dot_assoc {m r n p q : Nat} (hm : Gf.Ok m) {A B C : Mx.Fn} (hA : Mx.In m r n A) (hB : Mx.In m n p B) (hC : Mx.In m p q C) {i j : Nat} (hi : i < r) (hj : j < q) :
    Mx.dot m p (Mx.dot m n A B) C i j = Mx.dot m n A (Mx.dot m p B C) i j := by
  haveI : Mx.OkF m := ⟨hm⟩
  have hAB : Mx.In m r p (Mx.dot m n A B) := dotIn hm hA
  have hBC : Mx.In m n q (Mx.dot m p B C) := dotIn hm hB
  refine Mx.of_up (dotIn (c := q) hm hAB) (dotIn (c := q) hm hA) ?_ hi hj
  refine (Mx.up_dot hAB hC).trans ?_
  refine (La.mm_congr (Mx.up_dot hA hB) La.Eq.rfl').trans ?_
  rw [La.mm_assoc]
  exact (La.mm_congr La.Eq.rfl' (Mx.up_dot hB hC).symm).trans (Mx.up_dot hA hBC).symm
theorem dot_tr {m r n c : Nat} (hm : Gf.Ok m) {A B : Mx.Fn} (hA : Mx.In m r n A) (hB : Mx.In m n c B) {i j : Nat} (hi : i < c) (hj : j < r) :
    Mx.dot m n A B j i = Mx.dot m n (fun i j => B j i) (fun i j => A j i) i j := by
  haveI : Mx.OkF m := ⟨hm⟩
  refine Mx.of_up (f := fun i j => Mx.dot m n A B j i) (trIn (dotIn (c := c) hm hA)) (dotIn (c := r) hm (trIn hB)) ?_ hi hj
  refine La.Eq.trans ?_ (Mx.up_dot (trIn hB) (trIn hA)).symm
  have h := (Mx.up_dot hA hB).tr
  rw [La.tr_mm] at h
  exact h
theorem mul_assoc_l {m r n p q : Nat} {a b c : List Int} (ha : Mat m r n a) (hb : Mat m n p b) (hc : Mat m p q c) : mulL m r p q (mulL m r n p a b) c = mulL m r n q a (mulL m n p q b c) := by
  refine Mx.cells_congr fun i j hi hj => ?_
  refine (Mx.dot_congr (A' := Mx.dot m n (Mx.el n a) (Mx.el p b)) (B' := Mx.el q c) (fun k hk => Mx.el_cells _ hi hk) fun k hk => rfl).trans ?_
  refine (dot_assoc ha.ok ha.el hb.el hc.el hi hj).trans ?_
  exact Mx.dot_congr (fun k hk => rfl) fun k hk => (Mx.el_cells _ hk hj).symm
theorem mul_tr_l {m r n p : Nat} {a b : List Int} (ha : Mat m r n a) (hb : Mat m n p b) : trL r p (mulL m r n p a b) = mulL m p n r (trL n p b) (trL r n a) := by
  refine Mx.cells_congr fun i j hi hj => ?_
  refine (Mx.el_cells _ hj hi).trans ?_
  refine (dot_tr ha.ok ha.el hb.el hi hj).trans ?_
  exact Mx.dot_congr (fun k hk => (Mx.el_cells (fun i j => Mx.el p b j i) hi hk).symm) fun k hk => (Mx.el_cells (fun i j => Mx.el n a j i) hk hj).symm
end Go.Proofs.YtfigcmmmpndpjaaDoor.H

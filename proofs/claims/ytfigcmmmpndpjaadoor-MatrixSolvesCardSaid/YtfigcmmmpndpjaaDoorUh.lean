/- Qa, Qk. -/
import Derived.Test.YtfigcmmmpndpjaaDoorUe
import Derived.Test.YtfigcmmmpndpjaaDoorUc
import Derived.Test.YtfigcmmmpndpjaaDoorUf
import Derived.Test.YtfigcmmmpndpjaaDoorUa
/- The reference's Valid, Same, Identity as plain answers. -/
namespace Go.Proofs.YtfigcmmmpndpjaaDoor.H
open Go.RowKit Go.Proofs.YtfigcmmmpndpjaaDoorW.PrintWords Go.Proofs.YtfigcmmmpndpjaaDoorW.PrintLast Go.Proofs.YtfigcmmmpndpjaaDoorW.PrintMore Go.Proofs.YtfigcmmmpndpjaaDoor.P
set_option linter.unusedVariables false
theorem big : ∃ k : Nat, 4000 ≤ k := ⟨4000, Nat.le_refl _⟩
/-! ### Same -/
theorem same_loop (m r c m' r' c' : Int) (l : List Int) (hl : l.length < 2 ^ 62) (n : Nat) : ∀ (i k : Nat), i + n = l.length → n < k → solventref06_Same.l0 k (i : Int) m r c l m' r' c' l = some true := by
  induction n with
  | zero =>
    intro i k hi hk
    obtain ⟨k, rfl⟩ : ∃ q, k = q + 1 := ⟨k - 1, by omega⟩
    simp only [solventref06_Same.l0]
    rw [if_neg (by omega)]
  | succ n ih =>
    intro i k hi hk
    obtain ⟨k, rfl⟩ : ∃ q, k = q + 1 := ⟨k - 1, by omega⟩
    simp only [solventref06_Same.l0]
    have e : wrap64 ((i : Int) + 1) = ((i + 1 : Nat) : Int) := by rw [w64 (by omega) (by omega)]; omega
    rw [if_pos (by omega), if_pos (by omega), if_pos (by omega), if_pos trivial, e]
    exact ih (i + 1) k (by omega) (by omega)
theorem same_self (k : Nat) (m r c : Int) (l : List Int) (hl : l.length < 2 ^ 62) (hk : l.length + 2 ≤ k) : solventref06_Same.f k m r c l m r c l = some true := by
  obtain ⟨k, rfl⟩ : ∃ q, k = q + 1 := ⟨k - 1, by omega⟩
  unfold solventref06_Same.f
  rw [if_pos rfl, if_pos rfl, if_pos rfl]
  simp only [solventref06_Same.j0]
  have e : ((l.length : Int) != (l.length : Int)) = false := by simp
  rw [e, if_neg (by simp)]
  exact same_loop m r c m r c l hl l.length 0 k (by omega) (by omega)
theorem same_rfl {k : Nat} (hk : 3000 ≤ k) {m r c m' r' c' : Int} {l l' : List Int} (hl : l.length ≤ 2048) (h1 : m = m') (h2 : r = r') (h3 : c = c') (h4 : l = l') : solventref06_Same.f k m r c l m' r' c' l' = some true := by
  subst h1 h2 h3 h4
  exact same_self k m r c l (by omega) (by omega)
/-! ### Valid -/
theorem shl1 {m : Nat} (hm : Gf.Ok m) : shl .i64 1 (m : Int) = ((2 ^ m : Nat) : Int) := by
  rcases hm with rfl | rfl <;> rfl
theorem out_iff (m : Nat) (x : Int) : outB (m : Int) x = true ↔ x < 0 ∨ ((2 ^ m : Nat) : Int) ≤ x := by
  unfold outB
  simp
theorem valid_loop {m : Nat} (hm : Gf.Ok m) (r c : Int) (l : List Int) (hl : l.length < 2 ^ 62) (n : Nat) : ∀ (i k : Nat), i + n = l.length → n < k → solventref06_Valid.l0 k (i : Int) m r c l = some (!(l.drop i).any (outB m)) := by
  induction n with
  | zero =>
    intro i k hi hk
    obtain ⟨k, rfl⟩ : ∃ q, k = q + 1 := ⟨k - 1, by omega⟩
    simp only [solventref06_Valid.l0]
    rw [if_neg (by omega), List.drop_eq_nil_of_le (by omega)]
    rfl
  | succ n ih =>
    intro i k hi hk
    obtain ⟨k, rfl⟩ : ∃ q, k = q + 1 := ⟨k - 1, by omega⟩
    simp only [solventref06_Valid.l0]
    have e : wrap64 ((i : Int) + 1) = ((i + 1 : Nat) : Int) := by rw [w64 (by omega) (by omega)]; omega
    have hlt : i < l.length := by omega
    have er : rd l (i : Int) = l[i] := by
      unfold rd
      rw [Int.toNat_natCast, List.getD_eq_getElem?_getD, List.getElem?_eq_getElem hlt]
      rfl
    rw [if_pos (by omega), if_pos (by omega), e, shl1 hm, er, List.drop_eq_getElem_cons hlt, List.any_cons]
    by_cases h1 : l[i] < 0
    · rw [if_pos h1, (out_iff m _).2 (.inl h1)]; rfl
    · rw [if_neg h1, if_pos (by omega)]
      by_cases h2 : l[i] ≥ ((2 ^ m : Nat) : Int)
      · rw [if_pos h2, (out_iff m _).2 (.inr h2)]; rfl
      · rw [if_neg h2]
        have : outB (m : Int) l[i] = false := by
          cases hb : outB (m : Int) l[i]
          · rfl
          · rcases (out_iff m _).1 hb with h | h
            · exact absurd h h1
            · exact absurd h h2
        rw [this, Bool.false_or]
        exact ih (i + 1) k (by omega) (by omega)
theorem valid_j0 (k : Nat) (hk : 3000 ≤ k) (x : Bool) {m : Nat} (hm : Gf.Ok m) (r c : Int) (l : List Int) (hl : x = false → l.length ≤ 1024) :
    solventref06_Valid.j0 k x m r c l = some (!x && !l.any (outB m)) := by
  obtain ⟨k, rfl⟩ : ∃ q, k = q + 1 := ⟨k - 1, by omega⟩
  simp only [solventref06_Valid.j0]
  cases x with
  | true => rw [if_pos rfl]; rfl
  | false =>
    have := hl rfl
    rw [if_neg (by simp)]
    refine (valid_loop hm r c l (by omega) l.length 0 k (by omega) (by omega)).trans ?_
    simp
theorem valid_j0t (k : Nat) (hk : 3000 ≤ k) (m r c : Int) (l : List Int) : solventref06_Valid.j0 k true m r c l = some false := by
  obtain ⟨k, rfl⟩ : ∃ q, k = q + 1 := ⟨k - 1, by omega⟩
  simp only [solventref06_Valid.j0]
  rw [if_pos trivial]
theorem valid_false {m r c : Int} {l : List Int} (h : ¬ ((m = 8 ∨ m = 16) ∧ 0 ≤ r ∧ 0 ≤ c ∧ r ≤ 32 ∧ c ≤ 32 ∧ (l.length : Int) = r * c)) : validB m r c l = false := by
  simp [validB, headB, h]
theorem valid_head {m : Nat} (hm : Gf.Ok m) (r c : Int) (l : List Int) (k : Nat) (hk : 3000 ≤ k) :
    (if r < 0 then (solventref06_Valid.j0 k true m r c l) else (if c < 0 then (solventref06_Valid.j0 k true m r c l) else (if r > 32 then (solventref06_Valid.j0 k true m r c l) else (if c > 32 then (solventref06_Valid.j0 k true m r c l) else (solventref06_Valid.j0 k ((l.length : Int) != (wrap64 (r * c))) m r c l))))) = some (validB m r c l) := by
  by_cases h1 : r < 0
  · rw [if_pos h1, valid_j0t k hk, valid_false (by omega)]
  rw [if_neg h1]
  by_cases h2 : c < 0
  · rw [if_pos h2, valid_j0t k hk, valid_false (by omega)]
  rw [if_neg h2]
  by_cases h3 : r > 32
  · rw [if_pos h3, valid_j0t k hk, valid_false (by omega)]
  rw [if_neg h3]
  by_cases h4 : c > 32
  · rw [if_pos h4, valid_j0t k hk, valid_false (by omega)]
  rw [if_neg h4]
  obtain ⟨a, rfl⟩ := Int.eq_ofNat_of_zero_le (Int.not_lt.1 h1)
  obtain ⟨b, rfl⟩ := Int.eq_ofNat_of_zero_le (Int.not_lt.1 h2)
  have hab := row_max (r := a) (c := b) (by omega) (by omega)
  rw [← Int.natCast_mul, w64 (by omega) (by omega)]
  rw [valid_j0 k hk _ hm _ _ _ (fun h => by have : (l.length : Int) = ((a * b : Nat) : Int) := by simpa using h
                                            omega)]
  have hm' : ((m : Int) = 8 ∨ (m : Int) = 16) := by rcases hm with rfl | rfl <;> simp
  have : headB (m : Int) a b l.length = !((l.length : Int) != ((a * b : Nat) : Int)) := by
    unfold headB
    rw [Int.natCast_mul]
    by_cases e : (l.length : Int) = (a : Int) * (b : Int)
    · rw [decide_eq_true ⟨hm', by omega, by omega, by omega, by omega, e⟩, e]; simp
    · rw [decide_eq_false (fun h => e h.2.2.2.2.2)]
      simp [e]
  rw [validB, this]
theorem valid_eq (k : Nat) (hk : 3000 ≤ k) (m r c : Int) (l : List Int) : solventref06_Valid.f k m r c l = some (validB m r c l) := by
  unfold solventref06_Valid.f
  by_cases h8 : m = 8
  · subst h8
    rw [if_pos rfl]
    exact valid_head (m := 8) (.inl rfl) r c l k hk
  rw [if_neg h8]
  by_cases h16 : m = 16
  · subst h16
    rw [if_pos rfl]
    exact valid_head (m := 16) (.inr rfl) r c l k hk
  rw [if_neg h16, valid_j0t k hk, valid_false (by omega)]
/-! ### Identity -/
theorem rzero_is (m : Int) (r c : Nat) (hr : r ≤ 64) (hc : c ≤ 64) : solventref06_Zero.f m r c = some (m, (r : Int), (c : Int), Mx.cells r c (fun _ _ => 0)) := by
  rw [← cells_zero]
  exact zero_is m r c hr hc
theorem idx_i {i c n j : Nat} (h : i * c + j < 4096) : wrap64 (wrap64 ((i : Int) * (c : Int)) + (j : Int)) = ((i * c + j : Nat) : Int) := by
  have e : wrap64 ((i : Int) * (c : Int)) = ((i * c : Nat) : Int) := by
    rw [← Int.natCast_mul, w64 (by omega) (by omega)]
  rw [e, w64 (by omega) (by omega), Int.natCast_add]
theorem ones_none (n : Nat) : Mx.cells n n (fun _ _ => 0) = Mx.cells n n (ones 0) := Mx.cells_congr fun i j _ _ => by simp [ones]
theorem ones_all (n : Nat) : Mx.cells n n (ones n) = Mx.cells n n (fun i j => if i = j then 1 else 0) := Mx.cells_congr fun i j hi _ => by simp [ones, hi]
theorem ident_loop (m : Int) (n : Nat) (hn : n ≤ 32) (t : Nat) : ∀ (i k : Nat), i + t = n → t < k →
    solventref06_Identity.l0 k n i m n n (Mx.cells n n (ones i)) = some (m, (n : Int), (n : Int), Mx.cells n n (ones n), 0) := by
  induction t with
  | zero =>
    intro i k hi hk
    obtain ⟨k, rfl⟩ : ∃ q, k = q + 1 := ⟨k - 1, by omega⟩
    simp only [solventref06_Identity.l0]
    have : i = n := by omega
    subst this
    rw [if_neg (by omega)]
  | succ t ih =>
    intro i k hi hk
    obtain ⟨k, rfl⟩ : ∃ q, k = q + 1 := ⟨k - 1, by omega⟩
    have hin : i < n := by omega
    have hlt : i * n + i < n * n := Mx.idx_lt hin hin
    have hnn := row_max hn hn
    simp only [solventref06_Identity.l0]
    have e : wrap64 ((i : Int) + 1) = ((i + 1 : Nat) : Int) := by rw [w64 (by omega) (by omega)]; omega
    rw [if_pos (by omega), idx_i (n := n) (by omega), if_pos (by omega), if_pos (by rw [Mx.cells_len]; omega), Int.toNat_natCast, e]
    have hs := Mx.cells_set (ones i) 1 hin hin
    rw [ones_succ] at hs
    rw [show ((1 : Int)) = ((1 : Nat) : Int) from rfl, hs]
    exact ih (i + 1) k (by omega) (by omega)
theorem ident_j0t (k : Nat) (hk : 3000 ≤ k) (m n : Int) : solventref06_Identity.j0 k m n true = some (0, 0, 0, [], 1) := by
  obtain ⟨k, rfl⟩ : ∃ q, k = q + 1 := ⟨k - 1, by omega⟩
  simp only [solventref06_Identity.j0]
  rw [if_pos trivial]
theorem ident_head (m : Int) (hm : m = 8 ∨ m = 16) (n : Int) (k : Nat) (hk : 3000 ≤ k) :
    (if n < 0 then (solventref06_Identity.j0 k m n true) else (solventref06_Identity.j0 k m n (decide (n > 32)))) = matrix_Identity.f m n := by
  unfold matrix_Identity.f
  by_cases h1 : n < 0
  · rw [if_pos h1, ident_j0t k hk, if_neg (by omega)]
  rw [if_neg h1]
  by_cases h2 : n > 32
  · rw [decide_eq_true h2, ident_j0t k hk, if_neg (by omega)]
  rw [decide_eq_false h2, if_pos ⟨hm, by omega, by omega⟩]
  obtain ⟨a, rfl⟩ := Int.eq_ofNat_of_zero_le (Int.not_lt.1 h1)
  obtain ⟨k, rfl⟩ : ∃ q, k = q + 1 := ⟨k - 1, by omega⟩
  simp only [solventref06_Identity.j0]
  rw [if_neg (by simp), rzero_is m a a (by omega) (by omega), Option.bind_some]
  simp only [Int.toNat_natCast]
  rw [ones_none, ← ones_all]
  exact ident_loop m a (by omega) a 0 k (by omega) (by omega)
theorem ident_eq (k : Nat) (hk : 3000 ≤ k) (m n : Int) : solventref06_Identity.f k m n = matrix_Identity.f m n := by
  unfold solventref06_Identity.f
  by_cases h8 : m = 8
  · subst h8
    rw [if_pos rfl]
    exact ident_head 8 (.inl rfl) n k hk
  rw [if_neg h8]
  by_cases h16 : m = 16
  · subst h16
    rw [if_pos rfl]
    exact ident_head 16 (.inr rfl) n k hk
  rw [if_neg h16, ident_j0t k hk]
  unfold matrix_Identity.f
  rw [if_neg (by omega)]
theorem small_is (a b c : Int) (l : List Int) : solventlaw06_small.f a b c l = some (decide (b ≤ 12 ∧ c ≤ 12 ∧ (l.length : Int) ≤ 200)) := by
  unfold solventlaw06_small.f
  by_cases h1 : b ≤ 12
  · rw [if_pos h1]
    by_cases h2 : c ≤ 12
    · rw [if_pos h2]; simp [h1, h2]
    · rw [if_neg h2]; simp [h2]
  · rw [if_neg h1]; simp [h1]
end Go.Proofs.YtfigcmmmpndpjaaDoor.H
/- The rank: of a matrix, its transpose, its independent rows, a product. -/
namespace Go.Proofs.YtfigcmmmpndpjaaDoor.H
open Go.RowKit Go.Proofs.YtfigcmmmpndpjaaDoorW.PrintWords Go.Proofs.YtfigcmmmpndpjaaDoorW.PrintLast Go.Proofs.YtfigcmmmpndpjaaDoorW.PrintMore Go.Proofs.YtfigcmmmpndpjaaDoor.P
set_option linter.unusedVariables false
theorem to_ech {m : Nat} [Mx.OkF m] {r c j : Nat} {f : Mx.Fn} (h : Mx.In m r c f) (hj : j ≤ c) : ∃ U W, Mx.Ech r c j (Mx.up m f) (Mx.up m (Mx.redTo m r f j).1) (Mx.redTo m r f j).2 U W := by
  have := (Mx.red_ech (A := Mx.up m f) j 0 f [] La.one La.one (by omega) h (Mx.Ech.start r c (Mx.up m f))).2
  rw [Nat.zero_add] at this
  exact this
theorem rank_of {m : Nat} [Mx.OkF m] {r c : Nat} {f : Mx.Fn} (h : Mx.In m r c f) : La.Rank r c (Mx.up m f) (Mx.redTo m r f c).2.length := by
  obtain ⟨U, W, e⟩ := to_ech h (Nat.le_refl c)
  exact e.red.rank
theorem rank_eq {m : Nat} [Mx.OkF m] {r c s : Nat} {f : Mx.Fn} (h : Mx.In m r c f) (k : La.Rank r c (Mx.up m f) s) : (Mx.redTo m r f c).2.length = s := (rank_of h).unique k
theorem rank_tr {m : Nat} [Mx.OkF m] {r c : Nat} {f : Mx.Fn} (h : Mx.In m r c f) : (Mx.redTo m c (fun i j => f j i) r).2.length = (Mx.redTo m r f c).2.length :=
  rank_eq (fun i j hi hj => h j i hj hi) (rank_of h).tr
theorem rank_congr {m : Nat} [Mx.OkF m] {r c : Nat} {f g : Mx.Fn} (hf : Mx.In m r c f) (hg : Mx.In m r c g) (e : ∀ i j, i < r → j < c → f i j = g i j) : (Mx.redTo m r f c).2.length = (Mx.redTo m r g c).2.length :=
  rank_eq hf (La.Rank.congr (Mx.up_eq fun i j hi hj => (e i j hi hj).symm) (rank_of hg))
theorem rank_is (k : Nat) {m r c : Nat} (hm : Gf.Ok m) (hr : r ≤ 32) (hc : c ≤ 32) {l : List Int} (hl : l.length = r * c) (hin : ∀ x ∈ l, 0 ≤ x ∧ x < 2 ^ m) :
    matrix_Rank.f k m r c l = some (((Mx.redTo m r (Mx.el c l) c).2.length : Nat) : Int) := by
  unfold matrix_Rank.f
  rw [if_pos (valid_mk hm hr hc hl hin)]
  simp only [Int.toNat_natCast]
theorem el_cells_in {m r c : Nat} {F : Mx.Fn} (h : Mx.In m r c F) : Mx.In m r c (Mx.el c (Mx.cells r c F)) := fun i j hi hj => by rw [Mx.el_cells _ hi hj]; exact h i j hi hj
theorem rank_cells (k : Nat) {m r c : Nat} (hm : Gf.Ok m) (hr : r ≤ 32) (hc : c ≤ 32) {F : Mx.Fn} (h : Mx.In m r c F) : matrix_Rank.f k m r c (Mx.cells r c F) = some (((Mx.redTo m r F c).2.length : Nat) : Int) := by
  haveI : Mx.OkF m := ⟨hm⟩
  rw [rank_is k hm hr hc (Mx.cells_len _ _ _) (fun x hx => by
    obtain ⟨i, j, hi, hj, rfl⟩ := Mx.cells_mem hx
    exact ⟨by omega, by exact_mod_cast h i j hi hj⟩), rank_congr (el_cells_in h) h fun i j hi hj => Mx.el_cells _ hi hj]
theorem piv_len (ps : List Nat) : (piv ps).length = ps.length := by simp [piv]
theorem piv_rd (ps : List Nat) {t : Nat} (h : t < ps.length) : (rd (piv ps) t).toNat = ps.getD t 0 := by
  simp [rd, piv, List.getD_eq_getElem?_getD, List.getElem?_map, List.getElem?_eq_getElem h]
theorem piv_in {m r c : Nat} {f : Mx.Fn} : ∀ x ∈ piv (Mx.redTo m r f c).2, 0 ≤ x ∧ x < (c : Int) := by
  intro x hx
  obtain ⟨p, hp, rfl⟩ := List.mem_map.1 hx
  have := Mx.red_lt m r c 0 f [] (fun p h => by simp at h) p hp
  exact ⟨by omega, by omega⟩
/-- the rows at the pivots of the transposed matrix are independent -/
theorem rank_rows {m : Nat} [Mx.OkF m] {r c : Nat} {f g : Mx.Fn} (h : Mx.In m r c f) (hg : Mx.In m (Mx.redTo m c (fun i j => f j i) r).2.length c g)
    (e : ∀ t j, t < (Mx.redTo m c (fun i j => f j i) r).2.length → j < c → g t j = f ((Mx.redTo m c (fun i j => f j i) r).2.getD t 0) j) :
    (Mx.redTo m (Mx.redTo m c (fun i j => f j i) r).2.length g c).2.length = (Mx.redTo m c (fun i j => f j i) r).2.length := by
  have hT : Mx.In m c r (fun i j => f j i) := fun i j hi hj => h j i hj hi
  obtain ⟨U, W, k⟩ := to_ech hT (Nat.le_refl r)
  refine rank_eq hg (La.Rank.congr ?_ (Mx.rank_picked (A := Mx.up m f) (J := r) k))
  intro t j ht hj
  apply Mx.El.ext
  show f _ j % 2 ^ m = g t j % 2 ^ m
  rw [e t j ht hj]
theorem rank_mul {m : Nat} [Mx.OkF m] {r n c : Nat} {A B : Mx.Fn} (hA : Mx.In m r n A) (hB : Mx.In m n c B) :
    (Mx.redTo m r (Mx.dot m n A B) c).2.length ≤ (Mx.redTo m r A n).2.length ∧ (Mx.redTo m r (Mx.dot m n A B) c).2.length ≤ (Mx.redTo m n B c).2.length := by
  have hD : Mx.In m r c (Mx.dot m n A B) := fun i j hi _ => Mx.dot_lt Mx.OkF.ok n j fun k hk => hA i k hi hk
  exact La.Rank.mul_le (rank_of hA) (rank_of hB) (La.Rank.congr (Mx.up_dot hA hB) (rank_of hD))
theorem indep_is (k : Nat) {m r c : Nat} (hm : Gf.Ok m) (hr : r ≤ 32) (hc : c ≤ 32) {l : List Int} (hl : l.length = r * c) (hin : ∀ x ∈ l, 0 ≤ x ∧ x < 2 ^ m) :
    matrix_Independent.f k m r c l = some (piv (Mx.redTo m c (fun i j => Mx.el c l j i) r).2) := by
  unfold matrix_Independent.f
  rw [if_pos (valid_mk hm hr hc hl hin)]
  simp only [Int.toNat_natCast]
theorem tr_is {m r c : Nat} (hm : Gf.Ok m) (hr : r ≤ 32) (hc : c ≤ 32) {l : List Int} (hl : l.length = r * c) (hin : ∀ x ∈ l, 0 ≤ x ∧ x < 2 ^ m) :
    matrix_Transpose.f m r c l = some ((m : Int), (c : Int), (r : Int), Mx.cells c r (fun i j => Mx.el c l j i), 0) := by
  unfold matrix_Transpose.f
  rw [if_pos (valid_mk hm hr hc hl hin)]
  simp only [Int.toNat_natCast]
end Go.Proofs.YtfigcmmmpndpjaaDoor.H

/- Qw. -/
import Derived.Test.YtfigcmmmpndpjaaDoorQt
import Derived.Test.YtfigcmmmpndpjaaDoorP14s
/- The reference's solution is the package's. -/
namespace Go.Proofs.YtfigcmmmpndpjaaDoor.H
open Go.RowKit Go.Proofs.YtfigcmmmpndpjaaDoorW.PrintWords Go.Proofs.YtfigcmmmpndpjaaDoorW.PrintLast Go.Proofs.YtfigcmmmpndpjaaDoorW.PrintMore Go.Proofs.YtfigcmmmpndpjaaDoor.P
set_option linter.unusedVariables false
set_option linter.unusedSectionVars false
theorem idx3 {i d c j : Nat} (h : i * d + c + j < 4096) : wrap64 (wrap64 (wrap64 ((i : Int) * (d : Int)) + (c : Int)) + (j : Int)) = ((i * d + c + j : Nat) : Int) := by
  rw [idx_i (n := 0) (by omega), w64 (by omega) (by omega)]
  exact (Int.natCast_add (i * d + c) j).symm
/-- both sides beside each other, the rows before i and of row i the columns before t -/
def bsTo (c : Nat) (A B : Mx.Fn) (i t : Nat) : Mx.Fn := fun i' k => if i' < i ∨ (i' = i ∧ k < t) then Mx.bes c A B i' k else 0
theorem bsTo_succ (c : Nat) (A B : Mx.Fn) (i t : Nat) : Mx.upd (bsTo c A B i t) i t (Mx.bes c A B i t) = bsTo c A B i (t + 1) := by
  funext i' k
  simp only [Mx.upd, bsTo]
  by_cases h : i' = i ∧ k = t
  · obtain ⟨rfl, rfl⟩ := h; simp
  · rw [if_neg h]
    by_cases h2 : i' < i ∨ (i' = i ∧ k < t)
    · rw [if_pos h2, if_pos (by omega)]
    · rw [if_neg h2, if_neg (by omega)]
theorem bsTo_row (c : Nat) (A B : Mx.Fn) (i r d : Nat) : Mx.cells r d (bsTo c A B i d) = Mx.cells r d (bsTo c A B (i + 1) 0) :=
  Mx.cells_congr fun i' k hi hk => by
    simp only [bsTo]
    by_cases h2 : i' < i ∨ (i' = i ∧ k < d)
    · rw [if_pos h2, if_pos (by omega)]
    · rw [if_neg h2, if_neg (by omega)]
theorem bsTo_all (c : Nat) (A B : Mx.Fn) (r d : Nat) : Mx.cells r d (bsTo c A B r 0) = Mx.cells r d (Mx.bes c A B) :=
  Mx.cells_congr fun i' k hi hk => by simp [bsTo, hi]
theorem bsTo_none (c : Nat) (A B : Mx.Fn) (r d : Nat) : Mx.cells r d (bsTo c A B 0 0) = Mx.cells r d (fun _ _ => 0) :=
  Mx.cells_congr fun i' k hi hk => by simp [bsTo]
/-- the solution, of the first i pivots, and of pivot i the columns before t -/
def slTo (R : Mx.Fn) (ps : List Nat) (c i t : Nat) : Mx.Fn := fun k j => if k = ps.getD i 0 ∧ j < t then R i (c + j) else Mx.solTo R ps c i k j
theorem slTo_succ (R : Mx.Fn) (ps : List Nat) (c i t : Nat) : Mx.upd (slTo R ps c i t) (ps.getD i 0) t (R i (c + t)) = slTo R ps c i (t + 1) := by
  funext k j
  simp only [Mx.upd, slTo]
  by_cases h : k = ps.getD i 0 ∧ j = t
  · obtain ⟨rfl, rfl⟩ := h; simp
  · rw [if_neg h]
    by_cases h2 : k = ps.getD i 0 ∧ j < t
    · rw [if_pos h2, if_pos ⟨h2.1, by omega⟩]
    · rw [if_neg h2, if_neg (by omega)]
theorem slTo_row (R : Mx.Fn) (ps : List Nat) (c i n d : Nat) : Mx.cells n d (slTo R ps c i d) = Mx.cells n d (Mx.solTo R ps c (i + 1)) :=
  Mx.cells_congr fun k j _ hj => by simp only [slTo, Mx.solTo, hj, and_true]
theorem slTo_zero (R : Mx.Fn) (ps : List Nat) (c i : Nat) : slTo R ps c i 0 = Mx.solTo R ps c i := by funext k j; simp [slTo]
section
variable {m r c d : Nat} {a b : List Int}
abbrev BesR := Int × Int × Int × List Int
theorem bes_l2 (ha : Mat m r c a) (hb : Mat m r d b) {R : BesR} {i : Nat} (hi : i < r)
    (hR : Big (fun K => solventref06_beside.l0 K ((i + 1 : Nat) : Int) m r c a m r d b m r ((c + d : Nat) : Int) (Mx.cells r (c + d) (bsTo c (Mx.el c a) (Mx.el d b) (i + 1) 0))) R) : ∀ n t, t + n = d →
    Big (fun K => solventref06_beside.l2 K i t m r c a m r d b m r ((c + d : Nat) : Int) (Mx.cells r (c + d) (bsTo c (Mx.el c a) (Mx.el d b) i (c + t)))) R := by
  have hr := ha.hr
  have hc := ha.hc
  have hd := hb.hc
  have hmx := max64 (r := r) (c := c + d) hr (by omega)
  have hmb := max64 (r := r) (c := d) hr (by omega)
  intro n
  induction n with
  | zero =>
    intro t ht
    obtain rfl : t = d := by omega
    refine hR.step fun K hK => ?_
    simp only [solventref06_beside.l2]
    rw [if_neg (by omega), up1 (by omega), bsTo_row]
  | succ n ih =>
    intro t ht
    have htd : t < d := by omega
    refine (ih (t + 1) (by omega)).step fun K hK => ?_
    have h1 := Mx.idx_lt hi (show c + t < c + d by omega)
    have h2 := Mx.idx_lt hi htd
    have e : (Mx.el d b i t) = Mx.bes c (Mx.el c a) (Mx.el d b) i (c + t) := by
      unfold Mx.bes
      rw [if_neg (by omega), Nat.add_sub_cancel_left]
    have ej : i * (c + d) + c + t = i * (c + d) + (c + t) := by omega
    simp only [solventref06_beside.l2]
    rw [if_pos (by omega), idx_i (n := 0) (by omega), if_pos (by omega), if_pos (by rw [hb.len]; omega), idx3 (by omega), ej, if_pos (by omega), if_pos (by rw [Mx.cells_len]; omega), up1 (by omega),
      rd_el hb.len hb.num hi htd, Int.toNat_natCast, Mx.cells_set _ _ hi (by omega), e, bsTo_succ]
    rfl
theorem bes_l1 (ha : Mat m r c a) (hb : Mat m r d b) {R : BesR} {i : Nat} (hi : i < r)
    (hR : Big (fun K => solventref06_beside.l0 K ((i + 1 : Nat) : Int) m r c a m r d b m r ((c + d : Nat) : Int) (Mx.cells r (c + d) (bsTo c (Mx.el c a) (Mx.el d b) (i + 1) 0))) R) : ∀ n t, t + n = c →
    Big (fun K => solventref06_beside.l1 K i t m r c a m r d b m r ((c + d : Nat) : Int) (Mx.cells r (c + d) (bsTo c (Mx.el c a) (Mx.el d b) i t))) R := by
  have hr := ha.hr
  have hc := ha.hc
  have hd := hb.hc
  have hmx := max64 (r := r) (c := c + d) hr (by omega)
  have hma := max64 (r := r) (c := c) hr (by omega)
  intro n
  induction n with
  | zero =>
    intro t ht
    obtain rfl : t = c := by omega
    refine (bes_l2 ha hb hi hR d 0 (by omega)).step fun K hK => ?_
    simp only [solventref06_beside.l1]
    rw [if_neg (by omega)]
    rfl
  | succ n ih =>
    intro t ht
    have htc : t < c := by omega
    refine (ih (t + 1) (by omega)).step fun K hK => ?_
    have h1 := Mx.idx_lt hi (show t < c + d by omega)
    have h2 := Mx.idx_lt hi htc
    have e : (Mx.el c a i t) = Mx.bes c (Mx.el c a) (Mx.el d b) i t := by
      unfold Mx.bes
      rw [if_pos htc]
    simp only [solventref06_beside.l1]
    rw [if_pos (by omega), idx_i (n := 0) (by omega), if_pos (by omega), if_pos (by rw [ha.len]; omega), idx_i (n := 0) (by omega), if_pos (by omega), if_pos (by rw [Mx.cells_len]; omega), up1 (by omega),
      rd_el ha.len ha.num hi htc, Int.toNat_natCast, Mx.cells_set _ _ hi (by omega), e, bsTo_succ]
theorem bes_l0 (ha : Mat m r c a) (hb : Mat m r d b) : ∀ n i, i + n = r →
    Big (fun K => solventref06_beside.l0 K i m r c a m r d b m r ((c + d : Nat) : Int) (Mx.cells r (c + d) (bsTo c (Mx.el c a) (Mx.el d b) i 0))) ((m : Int), (r : Int), ((c + d : Nat) : Int), Mx.cells r (c + d) (Mx.bes c (Mx.el c a) (Mx.el d b))) := by
  intro n
  induction n with
  | zero =>
    intro i hi
    obtain rfl : i = r := by omega
    refine Big.of fun K hK => ?_
    simp only [solventref06_beside.l0]
    rw [if_neg (by omega), bsTo_all]
  | succ n ih =>
    intro i hi
    refine (bes_l1 ha hb (show i < r by omega) (ih (i + 1) (by omega)) c 0 (by omega)).step fun K hK => ?_
    simp only [solventref06_beside.l0]
    rw [if_pos (by omega)]
    rfl
theorem beside_big (ha : Mat m r c a) (hb : Mat m r d b) :
    Big (fun K => solventref06_beside.f K m r c a m r d b) ((m : Int), (r : Int), ((c + d : Nat) : Int), Mx.cells r (c + d) (Mx.bes c (Mx.el c a) (Mx.el d b))) := by
  have hr := ha.hr
  have hc := ha.hc
  have hd := hb.hc
  refine (bes_l0 ha hb r 0 (by omega)).same fun K hK => ?_
  unfold solventref06_beside.f
  have e : wrap64 ((c : Int) + (d : Int)) = ((c + d : Nat) : Int) := by rw [w64 (by omega) (by omega)]; omega
  rw [e, rzero_is m r (c + d) (by omega) (by omega), Option.bind_some, bsTo_none]
  rfl
abbrev SolR := Int × Int × Int × List Int × Int
/-- the answer -/
def solA (m r c d : Nat) (R : Mx.Fn) (ps : List Nat) : SolR := if leftB R ps.length r c d = true then (0, 0, 0, [], 12) else ((m : Int), (c : Int), (d : Int), Mx.cells c d (Mx.solTo R ps c ps.length), 0)
/-- the pivot of a row, in the list -/
theorem rd_piv {ps : List Nat} {i : Nat} (hi : i < ps.length) : rd (piv ps) (i : Int) = ((ps.getD i 0 : Nat) : Int) := by
  unfold rd piv
  rw [Int.toNat_natCast, List.getD_eq_getElem?_getD, List.getElem?_map, List.getElem?_eq_getElem hi, List.getD_eq_getElem?_getD, List.getElem?_eq_getElem hi]
  rfl
variable {F : Mx.Fn} {ps : List Nat} (hr : r ≤ 32) (hc : c ≤ 32) (hd : d ≤ 32) (hps : ps.length ≤ r) (hlt : ∀ t, t < ps.length → ps.getD t 0 < c)
include hr hc hd hps hlt
theorem sol_l1 (a0 a1 : Int) (a3 : List Int) (b0 b1 : Int) (b3 : List Int) {R : SolR} {i : Nat} (hi : i < r) (hip : i < ps.length)
    (hR : Big (fun K => solventref06_Solve.l0 K (piv ps) ((i + 1 : Nat) : Int) a0 a1 c a3 b0 b1 d b3 m r ((c + d : Nat) : Int) (Mx.cells r (c + d) F) m c d (Mx.cells c d (Mx.solTo F ps c (i + 1)))) R) : ∀ n t, t + n = d →
    Big (fun K => solventref06_Solve.l1 K (piv ps) i t a0 a1 c a3 b0 b1 d b3 m r ((c + d : Nat) : Int) (Mx.cells r (c + d) F) m c d (Mx.cells c d (slTo F ps c i t))) R := by
  have hmx := max64 (r := r) (c := c + d) hr (by omega)
  have hma := max64 (r := c) (c := d) hc (by omega)
  intro n
  induction n with
  | zero =>
    intro t ht
    obtain rfl : t = d := by omega
    refine hR.step fun K hK => ?_
    simp only [solventref06_Solve.l1]
    rw [if_neg (by omega), up1 (by omega), slTo_row]
  | succ n ih =>
    intro t ht
    have htd : t < d := by omega
    refine (ih (t + 1) (by omega)).step fun K hK => ?_
    have h1 := Mx.idx_lt hi (show c + t < c + d by omega)
    have hp := hlt i hip
    have h2 := Mx.idx_lt hp htd
    have ej : i * (c + d) + c + t = i * (c + d) + (c + t) := by omega
    have hpl : (piv ps).length = ps.length := by simp [piv]
    simp only [solventref06_Solve.l1]
    rw [if_pos (by omega), idx3 (by omega), ej, if_pos (by omega), if_pos (by rw [Mx.cells_len]; omega), if_pos (by omega), if_pos (by omega), rd_piv hip, idx_i (n := 0) (by omega), if_pos (by omega), if_pos (by rw [Mx.cells_len]; omega),
      up1 (by omega), rd_cells _ hi (by omega), Int.toNat_natCast, Mx.cells_set _ _ hp htd, slTo_succ]
theorem sol_l1z (a0 a1 : Int) (a3 : List Int) (b0 b1 : Int) (b3 L : List Int) {R : SolR} {i : Nat} (hi : i < r) (hip : ps.length ≤ i) (e1 : (∃ j, j < d ∧ F i (c + j) ≠ 0) → R = (0, 0, 0, [], 12))
    (hR : (∀ j, j < d → F i (c + j) = 0) → Big (fun K => solventref06_Solve.l0 K (piv ps) ((i + 1 : Nat) : Int) a0 a1 c a3 b0 b1 d b3 m r ((c + d : Nat) : Int) (Mx.cells r (c + d) F) m c d L) R) : ∀ n t, t + n = d → (∀ j, j < t → F i (c + j) = 0) →
    Big (fun K => solventref06_Solve.l1 K (piv ps) i t a0 a1 c a3 b0 b1 d b3 m r ((c + d : Nat) : Int) (Mx.cells r (c + d) F) m c d L) R := by
  have hmx := max64 (r := r) (c := c + d) hr (by omega)
  have hpl : (piv ps).length = ps.length := by simp [piv]
  intro n
  induction n with
  | zero =>
    intro t ht hz
    obtain rfl : t = d := by omega
    refine (hR hz).step fun K hK => ?_
    simp only [solventref06_Solve.l1]
    rw [if_neg (by omega), up1 (by omega)]
  | succ n ih =>
    intro t ht hz
    have htd : t < d := by omega
    have h1 := Mx.idx_lt hi (show c + t < c + d by omega)
    have ej : i * (c + d) + c + t = i * (c + d) + (c + t) := by omega
    by_cases h0 : F i (c + t) = 0
    · refine (ih (t + 1) (by omega) (fun j hj => ?_)).step fun K hK => ?_
      · by_cases e : j = t
        · rw [e]; exact h0
        · exact hz j (by omega)
      · simp only [solventref06_Solve.l1]
        rw [if_pos (by omega), idx3 (by omega), ej, if_pos (by omega), if_pos (by rw [Mx.cells_len]; omega), if_neg (by omega), rd_cells _ hi (by omega), if_pos (by omega), up1 (by omega)]
    · refine Big.of fun K hK => ?_
      rw [e1 ⟨t, htd, h0⟩]
      simp only [solventref06_Solve.l1]
      rw [if_pos (by omega), idx3 (by omega), ej, if_pos (by omega), if_pos (by rw [Mx.cells_len]; omega), if_neg (by omega), rd_cells _ hi (by omega), if_neg (by omega)]
theorem sol_l0 (a0 a1 : Int) (a3 : List Int) (b0 b1 : Int) (b3 : List Int) : ∀ n i, i + n = r → (∀ i' j, ps.length ≤ i' → i' < i → j < d → F i' (c + j) = 0) →
    Big (fun K => solventref06_Solve.l0 K (piv ps) i a0 a1 c a3 b0 b1 d b3 m r ((c + d : Nat) : Int) (Mx.cells r (c + d) F) m c d (Mx.cells c d (Mx.solTo F ps c (min i ps.length)))) (solA m r c d F ps) := by
  intro n
  induction n with
  | zero =>
    intro i hi hz
    obtain rfl : i = r := by omega
    have hno : leftB F ps.length i c d = false := by
      cases h : leftB F ps.length i c d with
      | false => rfl
      | true =>
        obtain ⟨i', h1, h2, j, h3, h4⟩ := (leftB_iff _ _ _ _ _).1 h
        exact absurd (hz i' j h1 h2 h3) h4
    refine Big.of fun K hK => ?_
    simp only [solventref06_Solve.l0]
    rw [if_neg (by omega)]
    unfold solA
    rw [if_neg (by rw [hno]; simp), Nat.min_eq_right hps]
  | succ n ih =>
    intro i hi hz
    have hir : i < r := by omega
    have hstep : Big (fun K => solventref06_Solve.l1 K (piv ps) i 0 a0 a1 c a3 b0 b1 d b3 m r ((c + d : Nat) : Int) (Mx.cells r (c + d) F) m c d (Mx.cells c d (Mx.solTo F ps c (min i ps.length)))) (solA m r c d F ps) := by
      by_cases hip : i < ps.length
      · have h := ih (i + 1) (by omega) (fun i' j h1 h2 h3 => by omega)
        rw [Nat.min_eq_left (by omega)] at h
        have h1 := sol_l1 (m := m) (F := F) hr hc hd hps hlt a0 a1 a3 b0 b1 b3 hir hip h d 0 (by omega)
        rw [slTo_zero] at h1
        rw [Nat.min_eq_left (by omega)]
        exact h1
      · refine sol_l1z (m := m) (F := F) hr hc hd hps hlt a0 a1 a3 b0 b1 b3 _ hir (by omega) ?_ (fun h0 => ?_) d 0 (by omega) (fun j hj => by omega)
        · rintro ⟨j, h1, h2⟩
          unfold solA
          rw [if_pos ((leftB_iff _ _ _ _ _).2 ⟨i, by omega, hir, j, h1, h2⟩)]
        · have h := ih (i + 1) (by omega) (fun i' j h1 h2 h3 => by
            by_cases e : i' = i
            · rw [e]; exact h0 j h3
            · exact hz i' j h1 (by omega) h3)
          rw [Nat.min_eq_right (by omega)] at h
          rw [Nat.min_eq_right (by omega)]
          exact h
    refine hstep.step fun K hK => ?_
    simp only [solventref06_Solve.l0]
    rw [if_pos (by omega)]
end
theorem rsolve_at {m r n d : Nat} {a b : List Int} (ha : Mat m r n a) (hb : Mat m r d b) :
    Big (fun K => solventref06_Solve.f K m r n a m r d b) (if noneB m r n d a b = true then (0, 0, 0, [], 12) else ((m : Int), (n : Int), (d : Int), solL m r n d a b, 0)) := by
  have hin := both_in ha hb
  have hB := Mx.bes_in ha.el hb.el
  have hc := ha.hc
  have hd := hb.hc
  have hlt : ∀ t, t < (both m r n d a b).2.length → (both m r n d a b).2.getD t 0 < n := fun t ht => Mx.redTo_lt _ _ _ _ ht
  obtain ⟨k0, h0⟩ := sol_l0 (m := m) (F := (both m r n d a b).1) ha.hr ha.hc hb.hc hin.2 hlt m r a m r b r 0 (by omega) (fun i' j _ h _ => by omega)
  obtain ⟨k1, h1⟩ := beside_big ha hb
  obtain ⟨k2, h2⟩ := reduce_big ha.ok ha.hr (show n + d ≤ 64 by omega) hB (cols := n) (by omega)
  refine ⟨max (max k0 k1) (max k2 4000) + 1, fun k hk => ?_⟩
  obtain ⟨K, rfl⟩ : ∃ j, k = j + 1 := ⟨k - 1, by omega⟩
  show solventref06_Solve.f (K + 1) m r n a m r d b = some (solA m r n d (both m r n d a b).1 (both m r n d a b).2)
  unfold solventref06_Solve.f
  have e : ((r : Int) != (r : Int)) = false := by simp
  rw [valid_eq (K + 1) (by omega), ha.valid, Option.bind_some, valid_eq (K + 1) (by omega), hb.valid, Option.bind_some, if_pos rfl, if_pos rfl, if_pos rfl, e]
  simp only [solventref06_Solve.j0]
  rw [if_neg (by simp), show solventref06_beside.f K m r n a m r d b = some _ from h1 K (by omega), Option.bind_some, show solventref06_Reduce.f K m r ((n + d : Nat) : Int) (Mx.cells r (n + d) (Mx.bes n (Mx.el n a) (Mx.el d b))) n = some _ from h2 K (by omega), Option.bind_some, rzero_is m n d (by omega) (by omega), Option.bind_some]
  have h := h0 K (by omega)
  rw [Nat.zero_min] at h
  exact h
theorem rsolve_j0t (K : Nat) (hK : 1 ≤ K) (a0 a1 a2 : Int) (a3 : List Int) (b0 b1 b2 : Int) (b3 : List Int) : solventref06_Solve.j0 K true a0 a1 a2 a3 b0 b1 b2 b3 = some (0, 0, 0, [], 1) := by
  obtain ⟨K, rfl⟩ : ∃ j, K = j + 1 := ⟨K - 1, by omega⟩
  simp only [solventref06_Solve.j0]
  rw [if_pos trivial]
theorem rsolve_no {a0 a1 a2 b0 b1 b2 : Int} {l l' : List Int} (h : ¬ (validB a0 a1 a2 l = true ∧ validB b0 b1 b2 l' = true ∧ a0 = b0 ∧ a1 = b1)) : Big (fun K => solventref06_Solve.f K a0 a1 a2 l b0 b1 b2 l') (0, 0, 0, [], 1) := by
  refine ⟨4000, fun k hk => ?_⟩
  show solventref06_Solve.f k a0 a1 a2 l b0 b1 b2 l' = _
  unfold solventref06_Solve.f
  rw [valid_eq k (by omega), Option.bind_some, valid_eq k (by omega), Option.bind_some, rsolve_j0t k (by omega)]
  by_cases h1 : validB a0 a1 a2 l = true
  · rw [if_pos h1]
    by_cases h2 : validB b0 b1 b2 l' = true
    · rw [if_pos h2]
      by_cases h3 : a0 = b0
      · rw [if_pos h3]
        have : (a1 != b1) = true := by rw [bne_iff_ne]; exact fun e => h ⟨h1, h2, h3, e⟩
        rw [this, rsolve_j0t k (by omega)]
      · rw [if_neg h3]
    · rw [if_neg h2]
  · rw [if_neg h1]
end Go.Proofs.YtfigcmmmpndpjaaDoor.H

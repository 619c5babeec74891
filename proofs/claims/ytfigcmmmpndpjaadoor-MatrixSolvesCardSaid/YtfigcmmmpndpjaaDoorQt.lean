/- Qt. -/
import Derived.Test.YtfigcmmmpndpjaaDoorQs
import Derived.Test.YtfigcmmmpndpjaaDoorFp
import Derived.Test.YtfigcmmmpndpjaaDoorP12s
/- The reference's elimination is the package's. -/
namespace Go.Proofs.YtfigcmmmpndpjaaDoor.H
open Go.RowKit Go.Proofs.YtfigcmmmpndpjaaDoorW.PrintWords Go.Proofs.YtfigcmmmpndpjaaDoorW.PrintLast Go.Proofs.YtfigcmmmpndpjaaDoorW.PrintMore Go.Proofs.YtfigcmmmpndpjaaDoor.P
set_option linter.unusedVariables false
set_option linter.unusedSectionVars false
/-- with enough rounds, g answers r -/
def Big {α : Type} (g : Nat → Option α) (r : α) : Prop := ∃ k0, ∀ k, k0 ≤ k → g k = some r
theorem Big.step {α : Type} {f g : Nat → Option α} {r : α} (h : Big g r) (e : ∀ k, 4000 ≤ k → f (k + 1) = g k) : Big f r := by
  obtain ⟨k0, h0⟩ := h
  refine ⟨max k0 4000 + 1, fun k hk => ?_⟩
  obtain ⟨k, rfl⟩ : ∃ j, k = j + 1 := ⟨k - 1, by omega⟩
  rw [e k (by omega)]
  exact h0 k (by omega)
theorem Big.same {α : Type} {f g : Nat → Option α} {r : α} (h : Big g r) (e : ∀ k, 4000 ≤ k → f k = g k) : Big f r := by
  obtain ⟨k0, h0⟩ := h
  exact ⟨max k0 4000, fun k hk => by rw [e k (by omega)]; exact h0 k (by omega)⟩
theorem Big.of {α : Type} {f : Nat → Option α} {r : α} (e : ∀ k, 4000 ≤ k → f (k + 1) = some r) : Big f r :=
  ⟨4001, fun k hk => by obtain ⟨k, rfl⟩ : ∃ j, k = j + 1 := ⟨k - 1, by omega⟩; exact e k (by omega)⟩
theorem Big.bind {α β : Type} {g : Nat → Option α} {r : α} {f : α → Nat → Option β} {s : β} (h : Big g r) (h2 : Big (f r) s) : Big (fun k => (g k).bind fun x => f x k) s := by
  obtain ⟨k0, h0⟩ := h
  obtain ⟨k1, h1⟩ := h2
  exact ⟨max k0 k1, fun k hk => by simp only []; rw [h0 k (by omega), Option.bind_some]; exact h1 k (by omega)⟩
theorem rd_cells {r c i j : Nat} (F : Mx.Fn) (hi : i < r) (hj : j < c) : rd (Mx.cells r c F) ((i * c + j : Nat) : Int) = (F i j : Int) := by
  unfold rd
  rw [Int.toNat_natCast]
  exact Mx.cells_getD F hi hj
theorem max64 {r c : Nat} (hr : r ≤ 32) (hc : c ≤ 64) : r * c ≤ 2048 := Nat.le_trans (Nat.mul_le_mul hr hc) (by decide)
theorem up1 {i : Nat} (h : i < 4096) : wrap64 ((i : Int) + 1) = ((i + 1 : Nat) : Int) := by rw [w64 (by omega) (by omega)]; omega
/-- row i, its columns before t with f times row q added -/
def rowTo (m : Nat) (F : Mx.Fn) (q i f t : Nat) : Mx.Fn := fun i' k => if i' = i ∧ k < t then F i k ^^^ Gf.mul m f (F q k) else F i' k
theorem rowTo_succ (m : Nat) (F : Mx.Fn) (q i f t : Nat) : Mx.upd (rowTo m F q i f t) i t (F i t ^^^ Gf.mul m f (F q t)) = rowTo m F q i f (t + 1) := by
  funext i' k
  simp only [Mx.upd, rowTo]
  by_cases h : i' = i ∧ k = t
  · obtain ⟨rfl, rfl⟩ := h; simp
  · rw [if_neg h]
    by_cases h2 : i' = i ∧ k < t
    · rw [if_pos h2, if_pos ⟨h2.1, by omega⟩]
    · rw [if_neg h2, if_neg (by omega)]
/-- rows p and q exchanged, row q times s, as far as column t -/
def rswTo (m : Nat) (F : Mx.Fn) (p q s t : Nat) : Mx.Fn := fun i k => if k < t then Mx.sc m (Mx.swp F p q) q s i k else F i k
theorem rswTo_succ (m : Nat) (F : Mx.Fn) (p q s t : Nat) : Mx.upd (Mx.upd (rswTo m F p q s t) p t (F q t)) q t (Gf.mul m s (F p t)) = rswTo m F p q s (t + 1) := by
  funext i k
  by_cases hk : k = t
  · subst hk
    simp only [Mx.upd, rswTo, Nat.lt_irrefl, if_false, and_true, Nat.lt_succ_self, if_true, Mx.sc]
    by_cases h : i = q
    · subst h
      rw [if_pos rfl, if_pos rfl, Mx.swp_q]
    · rw [if_neg h, if_neg h]
      unfold Mx.swp
      by_cases h2 : i = p
      · rw [if_pos h2, if_pos h2]
      · rw [if_neg h2, if_neg h2, if_neg h]
  · simp only [Mx.upd, rswTo]
    rw [if_neg (fun h => hk h.2), if_neg (fun h => hk h.2)]
    by_cases h : k < t
    · rw [if_pos h, if_pos (by omega)]
    · rw [if_neg h, if_neg (by omega)]
section
variable {m r c : Nat} (hm : Gf.Ok m) (hr : r ≤ 32) (hc : c ≤ 64)
abbrev RedR := Int × Int × Int × List Int × List Int
include hm hr hc
theorem red_l5 {F : Mx.Fn} (hF : Mx.In m r c F) {q i f : Nat} (hq : q < r) (hi : i < r) (hne : i ≠ q) (hf : f < 2 ^ m) (xs : List Int) (cols j : Int) {R : RedR}
    (hR : Big (fun K => solventref06_Reduce.l4 K cols xs j q ((i + 1 : Nat) : Int) m r c (Mx.cells r c (rowTo m F q i f c))) R) : ∀ n t, t + n = c →
    Big (fun K => solventref06_Reduce.l5 K cols xs j q i f t m r c (Mx.cells r c (rowTo m F q i f t))) R := by
  have hmx := max64 hr hc
  intro n
  induction n with
  | zero =>
    intro t ht
    obtain rfl : t = c := by omega
    refine hR.step fun K hK => ?_
    simp only [solventref06_Reduce.l5]
    rw [if_neg (by omega), up1 (by omega)]
  | succ n ih =>
    intro t ht
    refine (ih (t + 1) (by omega)).step fun K hK => ?_
    have htc : t < c := by omega
    have h1 := Mx.idx_lt hi htc
    have h2 := Mx.idx_lt hq htc
    simp only [solventref06_Reduce.l5]
    have a1 : rowTo m F q i f t i t = F i t := by simp [rowTo]
    have a2 : rowTo m F q i f t q t = F q t := by simp [rowTo]
    rw [if_pos (by omega), idx_i (n := 0) (by omega), if_pos (by omega), if_pos (by rw [Mx.cells_len]; omega), idx_i (n := 0) (by omega), if_pos (by omega), if_pos (by rw [Mx.cells_len]; omega),
      rd_cells _ hq htc, rd_cells _ hi htc, a1, a2, rtimes_ok hm hf (hF q t hq htc) _ (by omega), Option.bind_some, up1 (by omega), Int.toNat_natCast]
    rw [xor_nat _ _ (lt62 hm (hF i t hi htc)) (lt62 hm (Gf.mul_lt hm _ hf)), Mx.cells_set _ _ hi htc, rowTo_succ]
theorem red_l4 {F : Mx.Fn} (hF : Mx.In m r c F) {q j : Nat} (hq : q < r) (hj : j < c) (xs : List Int) (hx : xs.length < 100) (cols : Int) {R : RedR}
    (hR : Big (fun K => solventref06_Reduce.l1 K cols (xs ++ [(j : Int)]) ((j + 1 : Nat) : Int) m r c (Mx.cells r c (Mx.elTo m F q j r))) R) : ∀ n i, i + n = r →
    Big (fun K => solventref06_Reduce.l4 K cols xs j q i m r c (Mx.cells r c (Mx.elTo m F q j i))) R := by
  have hmx := max64 hr hc
  intro n
  induction n with
  | zero =>
    intro i hi
    obtain rfl : i = r := by omega
    refine hR.step fun K hK => ?_
    simp only [solventref06_Reduce.l4]
    rw [if_neg (by omega), if_pos (by omega), up1 (by omega)]
  | succ n ih =>
    intro i hin
    have hi : i < r := by omega
    have h1 := Mx.idx_lt hi hj
    have e0 : Mx.elTo m F q j i i j = F i j := Mx.elTo_row m F q j i j
    have main : ∀ b : Bool, (b = true → Big (fun K => solventref06_Reduce.l4 K cols xs j q ((i + 1 : Nat) : Int) m r c (Mx.cells r c (Mx.elTo m F q j i))) R) →
        (b = false → Big (fun K => solventref06_Reduce.l5 K cols xs j q i (F i j) 0 m r c (Mx.cells r c (Mx.elTo m F q j i))) R) →
        Big (fun K => solventref06_Reduce.j7 K cols xs j q i (F i j) b m r c (Mx.cells r c (Mx.elTo m F q j i))) R := by
      intro b ht hf
      cases b with
      | true =>
        refine (ht rfl).step fun K hK => ?_
        simp only [solventref06_Reduce.j7]
        rw [if_pos trivial, up1 (by omega)]
      | false =>
        refine (hf rfl).step fun K hK => ?_
        simp only [solventref06_Reduce.j7]
        rw [if_neg (by simp)]
    by_cases hiq : i = q
    · refine (main true (fun _ => ?_) (fun h => by cases h)).step fun K hK => ?_
      · have := ih (i + 1) (by omega)
        subst hiq
        rwa [Mx.elTo_skip] at this
      · simp only [solventref06_Reduce.l4]
        rw [if_pos (by omega), idx_i (n := 0) (by omega), if_pos (by omega), if_pos (by rw [Mx.cells_len]; omega), if_pos (by omega), rd_cells _ hi hj, e0]
    · refine (main ((F i j : Int) == 0) (fun h => ?_) (fun h => ?_)).step fun K hK => ?_
      · have h0 : F i j = 0 := by have := eq_of_beq h; omega
        have e : Mx.elTo m F q j (i + 1) = Mx.elTo m F q j i := by
          funext i' k
          simp only [Mx.elTo]
          by_cases h2 : i' < i ∧ i' ≠ q
          · rw [if_pos h2, if_pos (by omega)]
          · rw [if_neg h2]
            by_cases h3 : i' < i + 1 ∧ i' ≠ q
            · rw [if_pos h3]
              obtain rfl : i' = i := by omega
              rw [h0, Gf.zero_mul, Nat.xor_zero]
            · rw [if_neg h3]
        have := ih (i + 1) (by omega)
        rwa [e] at this
      · have hG : Mx.In m r c (Mx.elTo m F q j i) := Mx.elTo_in hm hF hj
        have e1 : rowTo m (Mx.elTo m F q j i) q i (F i j) 0 = Mx.elTo m F q j i := by funext i' k; simp [rowTo]
        have e2 : Mx.cells r c (rowTo m (Mx.elTo m F q j i) q i (F i j) c) = Mx.cells r c (Mx.elTo m F q j (i + 1)) := Mx.cells_congr fun i' k _ hk => by
          simp only [rowTo, Mx.elTo_row, Mx.elTo_q]
          by_cases h2 : i' = i
          · subst h2
            rw [if_pos ⟨rfl, hk⟩]
            simp only [Mx.elTo]
            rw [if_pos ⟨Nat.lt_succ_self _, hiq⟩]
          · rw [if_neg (fun h => h2 h.1)]
            simp only [Mx.elTo]
            by_cases h3 : i' < i ∧ i' ≠ q
            · rw [if_pos h3, if_pos (by omega)]
            · rw [if_neg h3, if_neg (by omega)]
        have := red_l5 hm hr hc hG hq hi hiq (hF i j hi hj) xs cols j (R := R) (by rw [e2]; exact ih (i + 1) (by omega)) c 0 (by omega)
        rwa [e1] at this
      · simp only [solventref06_Reduce.l4]
        rw [if_pos (by omega), idx_i (n := 0) (by omega), if_pos (by omega), if_pos (by rw [Mx.cells_len]; omega), if_neg (by omega), rd_cells _ hi hj, e0]
theorem red_l3 {F : Mx.Fn} (hF : Mx.In m r c F) {p q s : Nat} (hp : p < r) (hq : q < r) (hs : s < 2 ^ m) (xs : List Int) (cols j : Int) {R : RedR}
    (hR : Big (fun K => solventref06_Reduce.l4 K cols xs j q 0 m r c (Mx.cells r c (rswTo m F p q s c))) R) : ∀ n t, t + n = c →
    Big (fun K => solventref06_Reduce.l3 K cols xs j q p s t m r c (Mx.cells r c (rswTo m F p q s t))) R := by
  have hmx := max64 hr hc
  intro n
  induction n with
  | zero =>
    intro t ht
    obtain rfl : t = c := by omega
    refine hR.step fun K hK => ?_
    simp only [solventref06_Reduce.l3]
    rw [if_neg (by omega)]
  | succ n ih =>
    intro t ht
    refine (ih (t + 1) (by omega)).step fun K hK => ?_
    have htc : t < c := by omega
    have h1 := Mx.idx_lt hp htc
    have h2 := Mx.idx_lt hq htc
    simp only [solventref06_Reduce.l3]
    have a1 : rswTo m F p q s t p t = F p t := by simp [rswTo]
    have a2 : rswTo m F p q s t q t = F q t := by simp [rswTo]
    rw [if_pos (by omega), idx_i (n := 0) (by omega), if_pos (by omega), if_pos (by rw [Mx.cells_len]; omega), idx_i (n := 0) (by omega), if_pos (by omega), if_pos (by rw [Mx.cells_len]; omega),
      rd_cells _ hp htc, rd_cells _ hq htc, a1, a2, rtimes_ok hm hs (hF p t hp htc) _ (by omega), Option.bind_some, up1 (by omega), Int.toNat_natCast, Int.toNat_natCast, Mx.cells_set _ _ hp htc, Mx.cells_set _ _ hq htc, rswTo_succ]
theorem red_l2 {F : Mx.Fn} {q j : Nat} (hj : j < c) (xs : List Int) (cols : Int) {R : RedR} : ∀ n p, p + n = r →
    (∀ i, p ≤ i → i ≤ r → (∀ k, p ≤ k → k < i → F k j = 0) → (i < r → F i j ≠ 0) → Big (fun K => solventref06_Reduce.j4 K cols xs j q i m r c (Mx.cells r c F)) R) →
    Big (fun K => solventref06_Reduce.l2 K cols xs j q p m r c (Mx.cells r c F)) R := by
  have hmx := max64 hr hc
  intro n
  induction n with
  | zero =>
    intro p hp hR
    obtain rfl : p = r := by omega
    refine (hR p (Nat.le_refl _) (Nat.le_refl _) (fun k _ _ => by omega) (fun h => by omega)).step fun K hK => ?_
    simp only [solventref06_Reduce.l2]
    rw [if_neg (by omega)]
  | succ n ih =>
    intro p hp hR
    have hpr : p < r := by omega
    have h1 := Mx.idx_lt hpr hj
    by_cases h0 : F p j = 0
    · refine (ih (p + 1) (by omega) (fun i h2 h3 h4 h5 => hR i (by omega) h3 (fun k k1 k2 => ?_) h5)).step fun K hK => ?_
      · by_cases e : k = p
        · rw [e]; exact h0
        · exact h4 k (by omega) k2
      · simp only [solventref06_Reduce.l2]
        rw [if_pos (by omega), idx_i (n := 0) (by omega), if_pos (by omega), if_pos (by rw [Mx.cells_len]; omega), rd_cells _ hpr hj, if_pos (by omega), up1 (by omega)]
    · refine (hR p (Nat.le_refl _) (by omega) (fun k _ _ => by omega) (fun _ => h0)).step fun K hK => ?_
      simp only [solventref06_Reduce.l2]
      rw [if_pos (by omega), idx_i (n := 0) (by omega), if_pos (by omega), if_pos (by rw [Mx.cells_len]; omega), rd_cells _ hpr hj, if_neg (by omega)]
theorem red_l1 {F : Mx.Fn} (hF : Mx.In m r c F) {cols : Nat} (hcols : cols ≤ c) : ∀ n j, j + n = cols →
    Big (fun K => solventref06_Reduce.l1 K cols (piv (Mx.redTo m r F j).2) j m r c (Mx.cells r c (Mx.redTo m r F j).1)) ((m : Int), (r : Int), (c : Int), Mx.cells r c (Mx.redTo m r F cols).1, piv (Mx.redTo m r F cols).2) := by
  have hmx := max64 hr hc
  intro n
  induction n with
  | zero =>
    intro j hj
    obtain rfl : j = cols := by omega
    have h2 : Big (fun K => solventref06_Reduce.j2 K (j : Int) (piv (Mx.redTo m r F j).2) j false m r c (Mx.cells r c (Mx.redTo m r F j).1)) ((m : Int), (r : Int), (c : Int), Mx.cells r c (Mx.redTo m r F j).1, piv (Mx.redTo m r F j).2) := by
      refine Big.of fun K hK => ?_
      simp only [solventref06_Reduce.j2]
      rw [if_neg (by simp)]
    refine h2.step fun K hK => ?_
    simp only [solventref06_Reduce.l1]
    rw [if_neg (by omega)]
  | succ n ih =>
    intro j hj
    obtain ⟨hG, hle⟩ := Mx.redTo_in (j := j) hm hF (by omega)
    have hn := ih (j + 1) (by omega)
    have hlen : (piv (Mx.redTo m r F j).2).length = (Mx.redTo m r F j).2.length := by simp [piv]
    have h2 : Big (fun K => solventref06_Reduce.j2 K (cols : Int) (piv (Mx.redTo m r F j).2) j (decide (((piv (Mx.redTo m r F j).2).length : Int) < (r : Int))) m r c (Mx.cells r c (Mx.redTo m r F j).1)) ((m : Int), (r : Int), (c : Int), Mx.cells r c (Mx.redTo m r F cols).1, piv (Mx.redTo m r F cols).2) := by
      by_cases hfull : (Mx.redTo m r F j).2.length < r
      · refine (red_l2 hm hr hc (F := (Mx.redTo m r F j).1) (q := (Mx.redTo m r F j).2.length) (j := j) (by omega) (piv (Mx.redTo m r F j).2) (cols : Int) (r - (Mx.redTo m r F j).2.length) (Mx.redTo m r F j).2.length (by omega) ?_).step fun K hK => ?_
        · intro i hi1 hi2 hz hne
          by_cases hir : i = r
          · subst hir
            have e : Mx.redTo m i F (j + 1) = Mx.redTo m i F j := Mx.redTo_skip hz hle
            rw [e] at hn
            refine hn.step fun K hK => ?_
            simp only [solventref06_Reduce.j4]
            rw [if_pos trivial, up1 (by omega)]
          · have hlt : i < r := by omega
            have e := Mx.redTo_step (m := m) (r := r) (f := F) hi1 hlt hz (hne hlt)
            rw [e] at hn
            have hx := hG i j hlt (by omega)
            have h1 := Mx.idx_lt hlt (show j < c by omega)
            have hsw := Mx.swp_in hG hlt hfull
            have hiv := Gf.inv_lt hm hx
            have hsc := Mx.sc_in (q := (Mx.redTo m r F j).2.length) hm hsw hiv
            have h4 := red_l4 hm hr hc hsc hfull (show j < c by omega) (piv (Mx.redTo m r F j).2) (by omega) (cols : Int) (R := ((m : Int), (r : Int), (c : Int), Mx.cells r c (Mx.redTo m r F cols).1, piv (Mx.redTo m r F cols).2)) (by
              rw [Mx.el_swp]
              have : piv ((Mx.redTo m r F j).2 ++ [j]) = piv (Mx.redTo m r F j).2 ++ [(j : Int)] := by simp [piv]
              rw [← this]
              exact hn) r 0 (by omega)
            have e3 : Mx.cells r c (rswTo m (Mx.redTo m r F j).1 i (Mx.redTo m r F j).2.length (Gf.inv m ((Mx.redTo m r F j).1 i j)) c) = Mx.cells r c (Mx.sc m (Mx.swp (Mx.redTo m r F j).1 i (Mx.redTo m r F j).2.length) (Mx.redTo m r F j).2.length (Gf.inv m ((Mx.redTo m r F j).1 i j))) :=
              Mx.cells_congr fun a b _ hb => by simp only [rswTo, if_pos hb]
            rw [Mx.elTo_zero] at h4
            have h3 := red_l3 hm hr hc hG (p := i) (q := (Mx.redTo m r F j).2.length) (s := Gf.inv m ((Mx.redTo m r F j).1 i j)) hlt hfull hiv (piv (Mx.redTo m r F j).2) (cols : Int) (j : Int) (R := ((m : Int), (r : Int), (c : Int), Mx.cells r c (Mx.redTo m r F cols).1, piv (Mx.redTo m r F cols).2)) (by rw [e3]; exact h4) c 0 (by omega)
            have e0 : rswTo m (Mx.redTo m r F j).1 i (Mx.redTo m r F j).2.length (Gf.inv m ((Mx.redTo m r F j).1 i j)) 0 = (Mx.redTo m r F j).1 := by funext a b; simp [rswTo]
            rw [e0] at h3
            refine h3.step fun K hK => ?_
            simp only [solventref06_Reduce.j4]
            rw [if_neg (by omega), idx_i (n := 0) (by omega), if_pos (by omega), if_pos (by rw [Mx.cells_len]; omega), rd_cells _ hlt (show j < c by omega), rInv_ok hm hx (hne hlt) _ (by omega), Option.bind_some]
            rfl
        · simp only [solventref06_Reduce.j2]
          rw [if_pos (by rw [hlen]; simpa using hfull), hlen]
      · have hge : (Mx.redTo m r F j).2.length = r := by omega
        have key : ∀ a b, a + b = cols → j ≤ a → Mx.redTo m r F (a + b) = Mx.redTo m r F j := by
          have k2 : ∀ b a, a = j + b → Mx.redTo m r F a = Mx.redTo m r F j := by
            intro b
            induction b with
            | zero => intro a ha; rw [ha, Nat.add_zero]
            | succ b ihb =>
              intro a ha
              have e := ihb (j + b) rfl
              have : Mx.redTo m r F (j + b + 1) = Mx.redTo m r F (j + b) := Mx.redTo_skip (fun i h1 h2 => by rw [e] at h1; omega) (by rw [e]; exact hle)
              rw [ha, ← Nat.add_assoc, this, e]
          intro a b hab ha
          exact k2 (a + b - j) (a + b) (by omega)
        have ec := key cols 0 (by omega) (by omega)
        rw [Nat.add_zero] at ec
        refine Big.of fun K hK => ?_
        simp only [solventref06_Reduce.j2]
        rw [if_neg (by rw [hlen]; simpa using hfull), ec]
    refine h2.step fun K hK => ?_
    simp only [solventref06_Reduce.l1]
    rw [if_pos (by omega)]
theorem red_l0 {l : List Int} (hl : l.length = r * c) (cols : Int) (a0 a1 a2 : Int) {R : RedR} (hR : Big (fun K => solventref06_Reduce.l1 K cols [] 0 m r c l) R) : ∀ n t, t + n = l.length →
    Big (fun K => solventref06_Reduce.l0 K cols t a0 a1 a2 l m r c (l.take t ++ List.replicate n 0)) R := by
  have hmx := max64 hr hc
  intro n
  induction n with
  | zero =>
    intro t ht
    obtain rfl : t = l.length := by omega
    refine hR.step fun K hK => ?_
    simp only [solventref06_Reduce.l0]
    rw [if_neg (by omega)]
    simp
  | succ n ih =>
    intro t ht
    refine (ih (t + 1) (by omega)).step fun K hK => ?_
    simp only [solventref06_Reduce.l0]
    have hlt : t < l.length := by omega
    rw [if_pos (by omega), if_pos (by omega), if_pos (by simp; omega), up1 (by omega), Int.toNat_natCast]
    congr 1
    have er : rd l (t : Int) = l[t] := by
      unfold rd
      rw [Int.toNat_natCast, List.getD_eq_getElem?_getD, List.getElem?_eq_getElem hlt]
      rfl
    rw [er, List.set_append_right _ _ (List.length_take_le _ _)]
    rw [show (List.take t l).length = t by simp; omega, Nat.sub_self, List.replicate_succ, List.set_cons_zero, List.take_succ_eq_append_getElem hlt, List.append_assoc]
    rfl
theorem reduce_big {F : Mx.Fn} (hF : Mx.In m r c F) {cols : Nat} (hcols : cols ≤ c) :
    Big (fun K => solventref06_Reduce.f K m r c (Mx.cells r c F) cols) ((m : Int), (r : Int), (c : Int), Mx.cells r c (Mx.redTo m r F cols).1, piv (Mx.redTo m r F cols).2) := by
  have h1 := red_l1 hm hr hc hF hcols cols 0 (by omega)
  have hl := Mx.cells_len r c F
  have h0 := red_l0 hm hr hc hl (cols : Int) (m : Int) (r : Int) (c : Int) (R := ((m : Int), (r : Int), (c : Int), Mx.cells r c (Mx.redTo m r F cols).1, piv (Mx.redTo m r F cols).2)) h1 (Mx.cells r c F).length 0 (by omega)
  refine h0.same fun K hK => ?_
  unfold solventref06_Reduce.f
  rw [rzero_is m r c (by omega) hc, Option.bind_some, ← cells_zero, hl]
  simp
end
end Go.Proofs.YtfigcmmmpndpjaaDoor.H

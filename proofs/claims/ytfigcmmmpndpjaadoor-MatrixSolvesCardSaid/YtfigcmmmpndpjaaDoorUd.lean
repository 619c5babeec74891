/- Hw, Hv, Hq, Hd, Hi, Ht. -/
import Derived.Test.YtfigcmmmpndpjaaDoorUb
import Derived.Test.YtfigcmmmpndpjaaDoorUa
import Derived.Outline
import Derived.Test.YtfigcmmmpndpjaaDoorUc
/- What matrix.row hands back: the cells of a row, in the same memory. -/
namespace Go.Proofs.YtfigcmmmpndpjaaDoor.H
open Go.RowKit Go.Proofs.YtfigcmmmpndpjaaDoorW.PrintWords Go.Proofs.YtfigcmmmpndpjaaDoorW.PrintLast Go.Proofs.YtfigcmmmpndpjaaDoorW.PrintMore
set_option linter.unusedVariables false
set_option linter.unusedSimpArgs false
/-- the slice A' of c cells lies p cells behind A -/
def RowAt (A : Option Addr) (p c : Nat) (A' : Option Addr) : Prop := 0 < c → A' = A.map (·.add p)
/-- what comes back from row -/
def RowBack (A : Option Addr) (p c : Nat) (w : World) (e : Ending) (w' : World) : Prop :=
  ∃ A' c', e = .returned (.slice A' c c') ∧ c ≤ c' ∧ RowAt A p c A' ∧ Below w.heap.size w w'
theorem ret_slice {A : Option Addr} {n n' c : Nat} (h : n = n') : Ending.returned (.slice A n c) = .returned (.slice A n' c) := by rw [h]
set_option maxRecDepth 100000 in
set_option maxHeartbeats 1000000 in
theorem row_some (f r : Int) (c n cap i : Nat) (ad : Addr) (w : World) (hc : c ≤ 64) (hi : i ≤ 64) (hn : (i + 1) * c ≤ n) (hcap : n ≤ cap) :
    Calls Tryd.prog 36 #[.agg #[.int .i64 f, .int .i64 r, .int .i64 c, .slice (some ad) n cap], .int .i64 i] w (RowBack (some ad) (i * c) c w) := by
  obtain ⟨p, hp⟩ : ∃ p, p = i * c := ⟨_, rfl⟩
  obtain ⟨q, hq⟩ : ∃ q, q = (i + 1) * c := ⟨_, rfl⟩
  have hpq : q = p + c := by rw [hp, hq, Nat.succ_mul]
  have hpl : p ≤ 64 * 64 := by rw [hp]; exact Nat.mul_le_mul hi hc
  have e1 : wrap64 ((i : Int) * (c : Int)) = (p : Int) := by
    rw [hp, Int.natCast_mul]; unfold wrap64; rw [← Int.natCast_mul, ← hp]; omega
  have e2 : wrap64 (((i : Int) + 1) * (c : Int)) = (q : Int) := by
    have : ((i : Int) + 1) * (c : Int) = ((q : Nat) : Int) := by rw [hq, Int.natCast_mul]; rfl
    rw [this]; unfold wrap64; omega
  rw [← hq] at hn
  rw [← hp]
  have h1 : p ≤ q := by omega
  have HQ := Aside0.mk hpq
  clear hp hq hpq
  go_enter Tryd.func36, Tryd.ntmps36
  go_wp2
  · go_ret
    have := HQ.out
    exact ⟨_, _, ret_slice (by omega), by omega, fun h => by omega, (Below.refl _ _).alloc (Nat.le_refl _) _⟩
  · go_ret
    have := HQ.out
    exact ⟨_, _, ret_slice (by omega), by omega, fun h => rfl, (Below.refl _ _).alloc (Nat.le_refl _) _⟩
set_option maxRecDepth 100000 in
set_option maxHeartbeats 1000000 in
theorem row_none (f r : Int) (cap i : Nat) (w : World) (hi : i ≤ 64) :
    Calls Tryd.prog 36 #[.agg #[.int .i64 f, .int .i64 r, .int .i64 0, .slice none 0 cap], .int .i64 i] w (RowBack none (i * 0) 0 w) := by
  rw [Nat.mul_zero]
  go_enter Tryd.func36, Tryd.ntmps36
  go_wp2
  all_goals
    go_ret
    exact ⟨_, _, rfl, Nat.zero_le _, fun h => absurd h (Nat.lt_irrefl 0), (Below.refl _ _).alloc (Nat.le_refl _) _⟩
theorem row_calls (f r : Int) (c n cap i : Nat) (A : Option Addr) (w : World) (hA : 0 < n → ∃ ad, A = some ad) (hc : c ≤ 64) (hi : i ≤ 64) (hn : (i + 1) * c ≤ n) (hcap : n ≤ cap) :
    Calls Tryd.prog 36 #[.agg #[.int .i64 f, .int .i64 r, .int .i64 c, .slice A n cap], .int .i64 i] w (RowBack A (i * c) c w) := by
  cases A with
  | some ad => exact row_some f r c n cap i ad w hc hi hn hcap
  | none =>
    have h0 : n = 0 := by
      rcases Nat.eq_zero_or_pos n with h | h
      · exact h
      · obtain ⟨ad, h⟩ := hA h; cases h
    subst h0
    have hc0 : c = 0 := by
      rcases Nat.eq_zero_or_pos c with h | h
      · exact h
      · rw [Nat.succ_mul] at hn; omega
    subst hc0
    exact row_none f r cap i w hi
end Go.Proofs.YtfigcmmmpndpjaaDoor.H
/- What matrix.Valid answers. -/
namespace Go.Proofs.YtfigcmmmpndpjaaDoor.H
open Go.RowKit Go.Proofs.YtfigcmmmpndpjaaDoorW.PrintWords Go.Proofs.YtfigcmmmpndpjaaDoorW.PrintLast Go.Proofs.YtfigcmmmpndpjaaDoorW.PrintMore
set_option linter.unusedVariables false
set_option linter.unusedSimpArgs false
/-- is x no element of the field? -/
def outB (m x : Int) : Bool := decide (x < 0) || decide (2 ^ m.toNat ≤ x)
set_option maxRecDepth 100000 in
set_option maxHeartbeats 1000000 in
theorem clo46 (m : Int) (hm : m = 8 ∨ m = 16) (x : Int) (b : Nat) (w : World) (hc : w.cell? ⟨b, 0, none⟩ = some (.int .i64 m)) : Calls Tryd.prog 46 #[.int .i64 x, .pointer (some ⟨b, 0, none⟩)] w fun e w' => e = .returned (.bool (outB m x)) ∧ w = w' := by
  rcases hm with rfl | rfl
  · go_enter Tryd.func46, Tryd.ntmps46
    go_wp2
    all_goals (go_ret; exact ⟨by simp [outB, *], rfl⟩)
  · go_enter Tryd.func46, Tryd.ntmps46
    go_wp2
    all_goals (go_ret; exact ⟨by simp [outB, *], rfl⟩)
set_option maxRecDepth 100000 in
set_option maxHeartbeats 1000000 in
theorem idx50m (m : Int) (hm : m = 8 ∨ m = 16) (A : Option Addr) (c : Nat) (xs : List Int) (b : Nat) (w : World) (hr : Kd.C (Kd.int .i64) w A xs.length xs) (hc : w.cell? ⟨b, 0, none⟩ = some (.int .i64 m)) :
    Calls Tryd.prog 50 #[.slice A xs.length c, .func (.func 46) #[] #[.pointer (some ⟨b, 0, none⟩)]] w fun e w' => e = .returned (.int .i64 (idxF (outB m) xs 0)) ∧ w = w' := by
  have hmax := Kd.C_max hr
  have HR := Aside0.mk hr
  have HC := Aside0.mk hc
  have HM := Aside0.mk hm
  clear hr hc hm
  go_enter Tryd.func50, Tryd.ntmps50
  go_wp2
  go_loop [8] (fun t => AtIdx (outB m) xs t) (fun t => xs.length - (intOf t).toNat)
  case atStart => exact ⟨0, Nat.zero_le _, rfl, rfl⟩
  case round =>
    obtain ⟨k, hk, rfl, he⟩ := hrel
    have HE := Aside0.mk he
    clear he
    by_cases hlt : k < xs.length
    · obtain ⟨ad, rfl, hx⟩ := Kd.at_int HR.out (k : Int) (by omega) (by omega)
      have hd := idxF_drop (outB m) xs 0 k hlt k
      have HD := Aside0.mk hd
      clear hd
      have hx' : w.cell? (ad.add k) = some (.int .i64 (rd xs k)) := hx
      clear hx
      cases hb : outB m (rd xs k) with
      | true =>
        go_wp2_with (go_at_call 46; refine (clo46 m HM.out _ b _ HC.out).mono ?_; rintro e w' ⟨rfl, rfl⟩)
        go_ret
        exact ⟨ret_int (by rw [HE.out, HD.out, if_pos (by simpa [rd] using hb)]), rfl⟩
      | false =>
        go_wp2_with (go_at_call 46; refine (clo46 m HM.out _ b _ HC.out).mono ?_; rintro e w' ⟨rfl, rfl⟩)
        go_round
        case rel => exact ⟨k + 1, by omega, by go_num, by rw [HE.out, HD.out, if_neg (by simp [rd] at hb; simp [hb])]; simp⟩
        case measure => simp [intOf]; omega
    · have hk' : k = xs.length := by omega
      subst hk'
      go_wp2
      go_ret
      exact ⟨ret_int (by rw [HE.out]; simp [idxF]), rfl⟩
set_option maxRecDepth 100000 in
set_option maxHeartbeats 1000000 in
theorem any40m (m : Int) (hm : m = 8 ∨ m = 16) (A : Option Addr) (c : Nat) (xs : List Int) (b : Nat) (w : World) (hr : Kd.C (Kd.int .i64) w A xs.length xs) (hc : w.cell? ⟨b, 0, none⟩ = some (.int .i64 m)) :
    Calls Tryd.prog 40 #[.slice A xs.length c, .func (.func 46) #[] #[.pointer (some ⟨b, 0, none⟩)]] w fun e w' => e = .returned (.bool (xs.any (outB m))) ∧ w = w' := by
  have HR := Aside0.mk hr
  have HC := Aside0.mk hc
  have HM := Aside0.mk hm
  have HI := Aside0.mk (idxF_any (outB m) xs 0 (by omega))
  clear hr hc hm
  go_enter Tryd.func40, Tryd.ntmps40
  go_wp2_with (go_at_call 50; refine (idx50m m HM.out _ _ _ b _ HR.out HC.out).mono ?_; rintro e w' ⟨rfl, rfl⟩)
  go_ret
  exact ⟨ret_bool HI.out, rfl⟩
/-- the first part of what is asked -/
def headB (f r c : Int) (n : Nat) : Bool := decide ((f = 8 ∨ f = 16) ∧ 0 ≤ r ∧ 0 ≤ c ∧ r ≤ 32 ∧ c ≤ 32 ∧ (n : Int) = r * c)
/-- is the matrix valid? -/
def validB (f r c : Int) (l : List Int) : Bool := headB f r c l.length && !l.any (outB f)
set_option maxRecDepth 100000 in
set_option maxHeartbeats 1000000 in
theorem valid_yes (f : Int) (r c : Nat) (hf : f = 8 ∨ f = 16) (hr : r ≤ 32) (hc : c ≤ 32) (A : Option Addr) (cap : Nat) (l : List Int) (hn : l.length = r * c) (w : World) (hl : Kd.C (Kd.int .i64) w A l.length l) :
    Calls Tryd.prog 28 #[.agg #[.int .i64 f, .int .i64 r, .int .i64 c, .slice A l.length cap]] w fun e w' => e = .returned (.bool (!l.any (outB f))) ∧ Below w.heap.size w w' := by
  obtain ⟨p, hp⟩ : ∃ p, p = r * c := ⟨_, rfl⟩
  have hpl : p ≤ 32 * 32 := by rw [hp]; exact Nat.mul_le_mul hr hc
  have e1 : wrap64 ((r : Int) * (c : Int)) = (l.length : Int) := by
    rw [hn, Int.natCast_mul]; unfold wrap64; rw [← Int.natCast_mul, ← hp]; omega
  have HL := Aside0.mk hl
  have HM := Aside0.mk hf
  have HN := Aside0.mk hn
  clear hl hn hp
  rcases hf with rfl | rfl
  all_goals
    go_enter Tryd.func28, Tryd.ntmps28
    go_wp2_with (go_at_call 40; refine (any40m _ HM.out _ _ _ w.heap.size _ (Kd.C_alloc HL.out _) ((cell_of_row _ _ 0 _ _ _ (heap_alloc_new w _)).trans rfl)).mono ?_; rintro e w' ⟨rfl, rfl⟩)
    all_goals
      go_ret
      exact ⟨rfl, (Below.refl _ _).alloc (Nat.le_refl _) _⟩
set_option maxRecDepth 100000 in
set_option maxHeartbeats 1000000 in
theorem valid_field (f : Int) (r c : Int) (h8 : ¬ f = 8) (h16 : ¬ f = 16) (A : Option Addr) (n cap : Nat) (w : World) :
    Calls Tryd.prog 28 #[.agg #[.int .i64 f, .int .i64 r, .int .i64 c, .slice A n cap]] w fun e w' => e = .returned (.bool false) ∧ Below w.heap.size w w' := by
  have b8 : (f != 8) = true := bne_iff_ne.mpr h8
  have b16 : (f != 16) = true := bne_iff_ne.mpr h16
  clear h8 h16
  go_enter Tryd.func28, Tryd.ntmps28
  go_wp2
  all_goals
    go_ret
    exact ⟨rfl, (Below.refl _ _).alloc (Nat.le_refl _) _⟩
set_option maxRecDepth 100000 in
set_option maxHeartbeats 2000000 in
theorem valid_low (f : Int) (r c : Int) (hf : f = 8 ∨ f = 16) (h : r < 0 ∨ c < 0) (A : Option Addr) (n cap : Nat) (w : World) :
    Calls Tryd.prog 28 #[.agg #[.int .i64 f, .int .i64 r, .int .i64 c, .slice A n cap]] w fun e w' => e = .returned (.bool false) ∧ Below w.heap.size w w' := by
  rcases hf with rfl | rfl <;> rcases h with h | h
  all_goals
    go_enter Tryd.func28, Tryd.ntmps28
    go_wp2
    all_goals
      go_ret
      exact ⟨rfl, (Below.refl _ _).alloc (Nat.le_refl _) _⟩
set_option maxRecDepth 100000 in
set_option maxHeartbeats 2000000 in
theorem valid_high (f : Int) (r c : Int) (hf : f = 8 ∨ f = 16) (h0 : 0 ≤ r) (h1 : 0 ≤ c) (h : 32 < r ∨ 32 < c) (A : Option Addr) (n cap : Nat) (w : World) :
    Calls Tryd.prog 28 #[.agg #[.int .i64 f, .int .i64 r, .int .i64 c, .slice A n cap]] w fun e w' => e = .returned (.bool false) ∧ Below w.heap.size w w' := by
  rcases hf with rfl | rfl <;> rcases h with h | h
  all_goals
    go_enter Tryd.func28, Tryd.ntmps28
    go_wp2
    all_goals
      go_ret
      exact ⟨rfl, (Below.refl _ _).alloc (Nat.le_refl _) _⟩
set_option maxRecDepth 100000 in
set_option maxHeartbeats 2000000 in
theorem valid_cells (f : Int) (r c : Nat) (hf : f = 8 ∨ f = 16) (hr : r ≤ 32) (hc : c ≤ 32) (A : Option Addr) (n cap : Nat) (hn : ¬ n = r * c) (w : World) :
    Calls Tryd.prog 28 #[.agg #[.int .i64 f, .int .i64 r, .int .i64 c, .slice A n cap]] w fun e w' => e = .returned (.bool false) ∧ Below w.heap.size w w' := by
  obtain ⟨p, hp⟩ : ∃ p, p = r * c := ⟨_, rfl⟩
  have hpl : p ≤ 32 * 32 := by rw [hp]; exact Nat.mul_le_mul hr hc
  have e1 : wrap64 ((r : Int) * (c : Int)) = (p : Int) := by
    rw [hp, Int.natCast_mul]; unfold wrap64; rw [← Int.natCast_mul, ← hp]; omega
  have hne : ((n : Int) != (p : Int)) = true := by rw [bne_iff_ne]; omega
  clear hp hn hpl
  rcases hf with rfl | rfl
  all_goals
    go_enter Tryd.func28, Tryd.ntmps28
    go_wp2
    all_goals
      go_ret
      exact ⟨rfl, (Below.refl _ _).alloc (Nat.le_refl _) _⟩
theorem valid_any (f r c : Int) (A : Option Addr) (cap : Nat) (l : List Int) (w : World) (hl : Kd.C (Kd.int .i64) w A l.length l) :
    Calls Tryd.prog 28 #[.agg #[.int .i64 f, .int .i64 r, .int .i64 c, .slice A l.length cap]] w fun e w' => e = .returned (.bool (validB f r c l)) ∧ Below w.heap.size w w' := by
  by_cases hf : f = 8 ∨ f = 16
  · by_cases hlow : r < 0 ∨ c < 0
    · have e : validB f r c l = false := by
        have : headB f r c l.length = false := by simp only [headB, decide_eq_false_iff_not]; omega
        simp [validB, this]
      rw [e]; exact valid_low f r c hf hlow A _ cap w
    · obtain ⟨a, rfl⟩ := Int.eq_ofNat_of_zero_le (show 0 ≤ r by omega)
      obtain ⟨b, rfl⟩ := Int.eq_ofNat_of_zero_le (show 0 ≤ c by omega)
      by_cases hh : 32 < a ∨ 32 < b
      · have e : validB f a b l = false := by
          have : headB f a b l.length = false := by simp only [headB, decide_eq_false_iff_not]; omega
          simp [validB, this]
        rw [e]; exact valid_high f a b hf (by omega) (by omega) (by omega) A _ cap w
      · by_cases hn : l.length = a * b
        · have e : validB f a b l = !l.any (outB f) := by
            have : headB f a b l.length = true := by
              simp only [headB, decide_eq_true_eq]
              exact ⟨hf, by omega, by omega, by omega, by omega, by rw [hn, Int.natCast_mul]⟩
            simp [validB, this]
          rw [e]; exact valid_yes f a b hf (by omega) (by omega) A cap l hn w hl
        · have e : validB f a b l = false := by
            have : headB f a b l.length = false := by
              simp only [headB, decide_eq_false_iff_not]
              intro h
              exact hn (by have := h.2.2.2.2.2; rw [← Int.natCast_mul] at this; omega)
            simp [validB, this]
          rw [e]; exact valid_cells f a b hf (by omega) (by omega) A _ cap hn w
  · have e : validB f r c l = false := by
      have : headB f r c l.length = false := by simp only [headB, decide_eq_false_iff_not]; intro h; exact hf h.1
      simp [validB, this]
    rw [e]; exact valid_field f r c (fun h => hf (.inl h)) (fun h => hf (.inr h)) A _ cap w
def matrix_Valid.f (a0_0 a0_1 a0_2 : Int) (l0_3 : List Int) : Option Bool := some (validB a0_0 a0_1 a0_2 l0_3)
theorem matrix_Valid.calls (a0_0 : Int) (a0_1 : Int) (a0_2 : Int) (A0_3 : Option Addr) (c0_3 : Nat) (l0_3 : List Int) (r : Bool) (w : World) (hr0_3 : Kd.C (Kd.int .i64) w A0_3 l0_3.length l0_3) (hc0_3 : l0_3.length ≤ c0_3) (h : matrix_Valid.f a0_0 a0_1 a0_2 l0_3 = some r) :
    Calls Tryd.prog 28 #[.agg #[.int .i64 a0_0, .int .i64 a0_1, .int .i64 a0_2, .slice A0_3 l0_3.length c0_3]] w fun e w' => e = .returned (.bool r) ∧ Below w.heap.size w w' := by
  cases h
  exact valid_any a0_0 a0_1 a0_2 A0_3 c0_3 l0_3 w hr0_3
end Go.Proofs.YtfigcmmmpndpjaaDoor.H
/- What matrix.At answers. -/
namespace Go.Proofs.YtfigcmmmpndpjaaDoor.H
open Go.RowKit Go.Proofs.YtfigcmmmpndpjaaDoorW.PrintWords Go.Proofs.YtfigcmmmpndpjaaDoorW.PrintLast Go.Proofs.YtfigcmmmpndpjaaDoorW.PrintMore
set_option linter.unusedVariables false
set_option linter.unusedSimpArgs false
/-- the four cells of a struct that lies in a block -/
theorem blk4 {w : World} {g : Nat} {v0 v1 v2 v3 : Value} {t : TypeId} (h : w.heap[g]? = some (.cells #[v0, v1, v2, v3] t (0, 0))) :
    w.cell? ⟨g, 0, none⟩ = some v0 ∧ w.cell? ⟨g, 1, none⟩ = some v1 ∧ w.cell? ⟨g, 2, none⟩ = some v2 ∧ w.cell? ⟨g, 3, none⟩ = some v3 :=
  ⟨(blk_cell h 0).trans rfl, (blk_cell h 1).trans rfl, (blk_cell h 2).trans rfl, (blk_cell h 3).trans rfl⟩
theorem valid_is (v : Bool) (f r c : Int) (A : Option Addr) (cap : Nat) (l : List Int) (w : World) (hl : Kd.C (Kd.int .i64) w A l.length l) (hv : validB f r c l = v) :
    Calls Tryd.prog 28 #[.agg #[.int .i64 f, .int .i64 r, .int .i64 c, .slice A l.length cap]] w fun e w' => e = .returned (.bool v) ∧ Below w.heap.size w w' := by
  subst hv
  exact valid_any f r c A cap l w hl
/-- a valid matrix: what its numbers are -/
theorem valid_open {f r c : Int} {l : List Int} (h : validB f r c l = true) : ∃ (m a b : Nat), Gf.Ok m ∧ f = m ∧ r = a ∧ c = b ∧ a ≤ 32 ∧ b ≤ 32 ∧ l.length = a * b ∧ ∀ x ∈ l, 0 ≤ x ∧ x < 2 ^ m := by
  simp only [validB, headB, Bool.and_eq_true, decide_eq_true_eq, Bool.not_eq_true', List.any_eq_false] at h
  obtain ⟨⟨hf, h0, h1, h2, h3, h4⟩, h5⟩ := h
  obtain ⟨a, rfl⟩ := Int.eq_ofNat_of_zero_le h0
  obtain ⟨b, rfl⟩ := Int.eq_ofNat_of_zero_le h1
  have hl : l.length = a * b := by rw [← Int.natCast_mul] at h4; omega
  rcases hf with rfl | rfl
  · refine ⟨8, a, b, .inl rfl, rfl, rfl, rfl, by omega, by omega, hl, fun x hx => ?_⟩
    have := h5 x hx
    simp [outB] at this
    omega
  · refine ⟨16, a, b, .inr rfl, rfl, rfl, rfl, by omega, by omega, hl, fun x hx => ?_⟩
    have := h5 x hx
    simp [outB] at this
    omega
theorem valid_mk {m a b : Nat} {l : List Int} (hm : Gf.Ok m) (ha : a ≤ 32) (hb : b ≤ 32) (hl : l.length = a * b) (h : ∀ x ∈ l, 0 ≤ x ∧ x < 2 ^ m) : validB m a b l = true := by
  simp only [validB, headB, Bool.and_eq_true, decide_eq_true_eq, Bool.not_eq_true', List.any_eq_false]
  refine ⟨⟨by rcases hm with rfl | rfl <;> simp, by omega, by omega, by omega, by omega, by rw [hl, Int.natCast_mul]⟩, fun x hx => ?_⟩
  have := h x hx
  rcases hm with rfl | rfl <;> simp [outB] <;> omega
set_option maxRecDepth 100000 in
set_option maxHeartbeats 2000000 in
theorem at_invalid (f r c i j : Int) (A : Option Addr) (cap : Nat) (l : List Int) (w : World) (hl : Kd.C (Kd.int .i64) w A l.length l) (hv : validB f r c l = false) :
    Calls Tryd.prog 29 #[.agg #[.int .i64 f, .int .i64 r, .int .i64 c, .slice A l.length cap], .int .i64 i, .int .i64 j] w fun e w' => e = .returned (.int .i64 0) ∧ Below w.heap.size w w' := by
  have HL := Aside0.mk hl
  have HV := Aside0.mk hv
  clear hl hv
  go_enter Tryd.func29, Tryd.ntmps29
  go_wp2_with (go_at_call 28; refine (valid_is false f r c A cap l _ (Kd.C_alloc HL.out _) HV.out).mono ?_; rintro e w1 ⟨rfl, hb⟩; have HB := Aside0.mk (below_then (below_alloc (Below.refl w.heap.size w) _) (by simp) hb); clear hb)
  all_goals
    go_ret
    exact ⟨rfl, HB.out⟩
set_option maxRecDepth 100000 in
set_option maxHeartbeats 2000000 in
theorem at_out (f i j : Int) (r c : Nat) (A : Option Addr) (cap : Nat) (l : List Int) (w : World) (hl : Kd.C (Kd.int .i64) w A l.length l) (hv : validB f r c l = true) (h : i < 0 ∨ j < 0 ∨ (r : Int) ≤ i ∨ (c : Int) ≤ j) :
    Calls Tryd.prog 29 #[.agg #[.int .i64 f, .int .i64 r, .int .i64 c, .slice A l.length cap], .int .i64 i, .int .i64 j] w fun e w' => e = .returned (.int .i64 0) ∧ Below w.heap.size w w' := by
  have HL := Aside0.mk hl
  have HV := Aside0.mk hv
  clear hl hv
  have h : (i < 0 ∧ i ≤ j) ∨ (j < i ∧ j < 0) ∨ (0 ≤ i ∧ 0 ≤ j ∧ (r : Int) ≤ i ∧ i ≤ j) ∨ (0 ≤ i ∧ 0 ≤ j ∧ (r : Int) ≤ i ∧ j < i) ∨ (0 ≤ i ∧ 0 ≤ j ∧ i < (r : Int) ∧ (c : Int) ≤ j ∧ i ≤ j) ∨ (0 ≤ i ∧ 0 ≤ j ∧ i < (r : Int) ∧ (c : Int) ≤ j ∧ j < i) := by omega
  rcases h with ⟨h1, h2⟩ | ⟨h1, h2⟩ | ⟨h1, h2, h3, h4⟩ | ⟨h1, h2, h3, h4⟩ | ⟨h1, h2, h3, h4, h5⟩ | ⟨h1, h2, h3, h4, h5⟩
  all_goals
    go_enter Tryd.func29, Tryd.ntmps29
    go_wp2_with (go_at_call 28; refine (valid_is true f r c A cap l _ (Kd.C_alloc HL.out _) HV.out).mono ?_; rintro e w1 ⟨rfl, hb⟩; have HB := Aside0.mk (below_then (below_alloc (Below.refl w.heap.size w) _) (by simp) hb); obtain ⟨k0, k1, k2, k3⟩ := blk4 ((hb.block w.heap.size (by simp)).trans (heap_alloc_new w _)); clear hb)
    all_goals
      go_ret
      exact ⟨rfl, HB.out⟩
theorem row_max {r c : Nat} (hr : r ≤ 32) (hc : c ≤ 32) : r * c ≤ 1024 := Nat.le_trans (Nat.mul_le_mul hr hc) (by decide)
theorem row_fits {r c i : Nat} (hi : i < r) : (i + 1) * c ≤ r * c := Nat.mul_le_mul_right c hi
/-- the k-th cell of a row that was handed back -/
theorem row_cell {w : World} {A A' : Option Addr} {c i k n : Nat} {l : List Int} (hl : Kd.C (Kd.int .i64) w A l.length l) (hR : RowAt A (i * c) c A') (hk : k < c) (hn : (i + 1) * c ≤ l.length) :
    ∃ ad, A' = some ad ∧ w.cell? (ad.add k) = some (.int .i64 (rd l ((i * c + k : Nat) : Int))) := by
  have hlt : i * c + k < l.length := by rw [Nat.succ_mul] at hn; omega
  obtain ⟨ad, rfl, hx⟩ := Kd.at_int hl ((i * c + k : Nat) : Int) (by omega) (by omega)
  refine ⟨ad.add (i * c), hR (by omega), ?_⟩
  have e : (ad.add (i * c)).add k = ad.add (i * c + k) := by
    unfold Addr.add; split <;> split <;> simp_all <;> omega
  rw [e]
  exact hx
set_option maxRecDepth 100000 in
set_option maxHeartbeats 2000000 in
theorem at_in (f : Int) (r c i j : Nat) (hr : r ≤ 32) (hc : c ≤ 32) (hi : i < r) (hj : j < c) (A : Option Addr) (cap : Nat) (l : List Int) (hcap : l.length ≤ cap) (w : World) (hl : Kd.C (Kd.int .i64) w A l.length l) (hn : l.length = r * c) (hv : validB f r c l = true) :
    Calls Tryd.prog 29 #[.agg #[.int .i64 f, .int .i64 r, .int .i64 c, .slice A l.length cap], .int .i64 i, .int .i64 j] w fun e w' => e = .returned (.int .i64 (rd l ((i * c + j : Nat) : Int))) ∧ Below w.heap.size w w' := by
  have HL := Aside0.mk hl
  have HV := Aside0.mk hv
  have HF := Aside0.mk (show (i + 1) * c ≤ l.length by rw [hn]; exact row_fits hi)
  have HP := Aside0.mk hcap
  clear hl hv hn hcap
  go_enter Tryd.func29, Tryd.ntmps29
  go_wp2_with (go_at_call 28; refine (valid_is true f r c A cap l _ (Kd.C_alloc HL.out _) HV.out).mono ?_; rintro e w1 ⟨rfl, hb⟩; have HB := Aside0.mk (below_then (below_alloc (Below.refl w.heap.size w) _) (by simp) hb); obtain ⟨k0, k1, k2, k3⟩ := blk4 ((hb.block w.heap.size (by simp)).trans (heap_alloc_new w _)); have HL1 := Aside0.mk (Kd.C_below HL.out HB.out); clear hb)
  go_wp2_with (go_at_call 36; refine (row_calls f r c l.length cap i A _ (fun h => (by obtain ⟨ad, e, _⟩ := Kd.at_int HL.out 0 (by omega) (by omega); exact ⟨ad, e⟩)) (by omega) (by omega) HF.out HP.out).mono ?_; rintro e w2 ⟨A', c', rfl, hc', hR, hb2⟩; obtain ⟨ad, rfl, hx⟩ := row_cell (k := j) (n := 0) (Kd.C_below HL1.out hb2) hR hj HF.out; have HB2 := Aside0.mk (below_then HB.out (HB.out.size) hb2); clear hR hb2)
  all_goals
    go_ret
    exact ⟨ret_int (by rw [Int.natCast_add, Int.natCast_mul]), HB2.out⟩
def matrix_At.f (a0_0 a0_1 a0_2 : Int) (l0_3 : List Int) (a1 a2 : Int) : Option Int :=
  some (if validB a0_0 a0_1 a0_2 l0_3 = true ∧ 0 ≤ a1 ∧ 0 ≤ a2 ∧ a1 < a0_1 ∧ a2 < a0_2 then rd l0_3 ((a1.toNat * a0_2.toNat + a2.toNat : Nat) : Int) else 0)
theorem matrix_At.calls (a0_0 : Int) (a0_1 : Int) (a0_2 : Int) (A0_3 : Option Addr) (c0_3 : Nat) (l0_3 : List Int) (a1 : Int) (a2 : Int) (r : Int) (w : World) (hr0_3 : Kd.C (Kd.int .i64) w A0_3 l0_3.length l0_3) (hc0_3 : l0_3.length ≤ c0_3) (h : matrix_At.f a0_0 a0_1 a0_2 l0_3 a1 a2 = some r) :
    Calls Tryd.prog 29 #[.agg #[.int .i64 a0_0, .int .i64 a0_1, .int .i64 a0_2, .slice A0_3 l0_3.length c0_3], .int .i64 a1, .int .i64 a2] w fun e w' => e = .returned (.int .i64 r) ∧ Below w.heap.size w w' := by
  unfold matrix_At.f at h
  cases hv : validB a0_0 a0_1 a0_2 l0_3 with
  | false =>
    rw [hv] at h
    simp at h
    subst h
    exact at_invalid a0_0 a0_1 a0_2 a1 a2 A0_3 c0_3 l0_3 w hr0_3 hv
  | true =>
    obtain ⟨m, a, b, hm, rfl, rfl, rfl, ha, hb, hl, hin⟩ := valid_open hv
    rw [hv] at h
    by_cases ho : 0 ≤ a1 ∧ 0 ≤ a2 ∧ a1 < a ∧ a2 < b
    · rw [if_pos ⟨rfl, ho⟩] at h
      obtain ⟨i, rfl⟩ := Int.eq_ofNat_of_zero_le ho.1
      obtain ⟨j, rfl⟩ := Int.eq_ofNat_of_zero_le ho.2.1
      cases h
      exact at_in m a b i j ha hb (by omega) (by omega) A0_3 c0_3 l0_3 hc0_3 w hr0_3 hl hv
    · rw [if_neg (fun h2 => ho h2.2)] at h
      cases h
      exact at_out m a1 a2 a b A0_3 c0_3 l0_3 w hr0_3 hv (by omega)
end Go.Proofs.YtfigcmmmpndpjaaDoor.H
/- What matrix.add does: a multiple of a row is added to another one, in memory. -/
namespace Go.Proofs.YtfigcmmmpndpjaaDoor.H
open Go.RowKit Go.Proofs.YtfigcmmmpndpjaaDoorW.PrintWords Go.Proofs.YtfigcmmmpndpjaaDoorW.PrintLast Go.Proofs.YtfigcmmmpndpjaaDoorW.PrintMore Go.Proofs.YtfigcmmmpndpjaaDoor.P
set_option linter.unusedVariables false
set_option linter.unusedSimpArgs false
/-- the cells l lie in a block of the call's own, from its begin on, and may be written -/
abbrev Own (w : World) (base : Nat) (A : Option Addr) (n cap : Nat) (l : List Int) : Prop := Kd.R (Kd.int .i64) 3 w base (fun _ => True) (.slice A n cap) l
theorem rdOf_int (l : List Int) (i : Int) : rdOf (0 : Int) l i = rd l i := rfl
theorem own_blk (w : World) (base : Nat) (A : Option Addr) (n cap : Nat) (l : List Int) (h : Own w base A n cap l) (hn : 0 < n) : ∃ g, A = some ⟨g, 0, none⟩ ∧ base ≤ g ∧ g < w.heap.size := by
  have hl : n = l.length := (Kd.R_reads' h).1
  obtain ⟨g, cap', e, h1, h2, _⟩ := Kd.R_form h (by omega)
  injection e with e1 e2 e3
  exact ⟨g, e1, h1, h2⟩
theorem own_cell {w : World} {base g n cap : Nat} {l : List Int} (h : Own w base (some ⟨g, 0, none⟩) n cap l) (k : Nat) (hk : k < n) :
    w.cell? ⟨g, k, none⟩ = some (.int .i64 (rd l k)) ∧ w.frozen? ⟨g, k, none⟩ = false :=
  Kd.R_celln (0 : Int) h (k : Int) (by omega) (by omega)
theorem own_put {w : World} {base g n cap : Nat} {l : List Int} (h : Own w base (some ⟨g, 0, none⟩) n cap l) (k : Nat) (x : Int) :
    Own (w.setCell ⟨g, k, none⟩ (.int .i64 x)) base (some ⟨g, 0, none⟩) n cap (l.set k x) := Kd.R_putn h (k : Int) x
theorem gb_set (W : World) (g i : Nat) (v : Value) : W.grownBy (W.setCell ⟨g, i, none⟩ v) (some g) :=
  ⟨rfl, rfl, rfl, by simp, fun k _ hr => heap_setCell_other W ⟨g, i, none⟩ k v (by rintro rfl; exact hr rfl)⟩
theorem gb_trans {a b c : World} {g : Nat} (h : a.grownBy b (some g)) (k : b.grownBy c (some g)) : a.grownBy c (some g) :=
  ⟨k.os.trans h.os, k.tape.trans h.tape, k.output.trans h.output, Nat.le_trans h.size k.size, fun i hi hr => (k.block i (Nat.lt_of_lt_of_le hi h.size) hr).trans (h.block i hi hr)⟩
theorem gb_of_below {w W : World} (h : Below w.heap.size w W) (g : Nat) : w.grownBy W (some g) := ⟨h.os, h.tape, h.output, h.size, fun i hi _ => h.block i hi⟩
theorem gb_ff {w W : World} {g : Nat} (h : w.grownBy W (some g)) (hg : 0 < g) (hf : FF w) : FF W := by
  have hl := hf.lt
  obtain ⟨t, fr, hf⟩ := hf
  exact ⟨t, fr, (h.block 0 hl (by simp; omega)).trans hf⟩
theorem gb_drewN {w W : World} {g : Nat} (h : w.grownBy W (some g)) (n : Nat) : w.grownBy (W.drewN n) (some g) := ⟨h.os, h.tape, h.output, h.size, h.block⟩
theorem gb_drew {w W : World} {g : Nat} (h : w.grownBy W (some g)) : w.grownBy W.drew (some g) := ⟨h.os, h.tape, h.output, h.size, h.block⟩
theorem keep_cz {w w1 : World} (hb : Below w.heap.size w w1) {a : Addr} {v : Value} (hc : w.cell? a = some v) (hz : w.frozen? a = false) : w1.cell? a = some v ∧ w1.frozen? a = false :=
  ⟨pw_cell_below hb hc, (hb.frozen (p := a) (World.block_lt_of_cell? w a hc)).trans hz⟩
/-- f times the numbers G, added to row i -/
def addRow (m : Nat) (F : Mx.Fn) (i f : Nat) (G : Nat → Nat) : Mx.Fn := fun i' k => if i' = i then F i k ^^^ Gf.mul m f (G k) else F i' k
/-- the same up to column n -/
def addTo (m : Nat) (F : Mx.Fn) (i f : Nat) (G : Nat → Nat) (n : Nat) : Mx.Fn := fun i' k => if i' = i ∧ k < n then F i k ^^^ Gf.mul m f (G k) else F i' k
theorem addTo_succ (m : Nat) (F : Mx.Fn) (i f : Nat) (G : Nat → Nat) (n : Nat) : Mx.upd (addTo m F i f G n) i n (F i n ^^^ Gf.mul m f (G n)) = addTo m F i f G (n + 1) := by
  funext i' k
  simp only [Mx.upd, addTo]
  by_cases h1 : i' = i
  · subst h1
    by_cases h2 : k = n
    · subst h2; simp
    · by_cases h3 : k < n
      · rw [if_neg (by simp [h2]), if_pos ⟨rfl, h3⟩, if_pos ⟨rfl, by omega⟩]
      · rw [if_neg (by simp [h2]), if_neg (by simp [h3]), if_neg (by omega)]
  · rw [if_neg (by simp [h1]), if_neg (by simp [h1]), if_neg (by simp [h1])]
theorem addTo_zero (m : Nat) (F : Mx.Fn) (i f : Nat) (G : Nat → Nat) : addTo m F i f G 0 = F := by
  funext i' k; simp [addTo]
theorem addTo_all (m : Nat) (F : Mx.Fn) (i f : Nat) (G : Nat → Nat) (r c : Nat) : Mx.cells r c (addTo m F i f G c) = Mx.cells r c (addRow m F i f G) :=
  Mx.cells_congr fun i' k _ hk => by
    simp only [addTo, addRow]
    by_cases h1 : i' = i
    · subst h1; rw [if_pos ⟨rfl, hk⟩, if_pos rfl]
    · rw [if_neg (by simp [h1]), if_neg h1]
theorem addTo_other (m : Nat) (F : Mx.Fn) (i f : Nat) (G : Nat → Nat) (n i' k : Nat) (h : i' ≠ i) : addTo m F i f G n i' k = F i' k := by simp [addTo, h]
theorem below_undrew {B : Nat} {w w1 : World} (h : Below B w.drew w1) : Below B w w1 := ⟨h.os, h.tape, h.output, h.size, h.block⟩
/-- one more number is in its place -/
theorem add_step {m r c cap i f g k x base : Nat} {F : Mx.Fn} {G : Nat → Nat} {w wr w1 : World} (hi : i < r) (hk : k < c) (hx : x = F i k ^^^ Gf.mul m f (G k)) (h : w.grownBy wr (some g))
    (hA : Own wr base (some ⟨g, 0, none⟩) (r * c) cap (Mx.cells r c (addTo m F i f G k))) (hb : Below wr.heap.size wr w1) :
    w.grownBy (w1.setCell ⟨g, i * c + k, none⟩ (.int .i64 (x : Int))) (some g) ∧ Own (w1.setCell ⟨g, i * c + k, none⟩ (.int .i64 (x : Int))) base (some ⟨g, 0, none⟩) (r * c) cap (Mx.cells r c (addTo m F i f G (k + 1))) := by
  refine ⟨gb_trans (gb_trans h (gb_of_below hb g)) (gb_set _ _ _ _), ?_⟩
  have := own_put (Kd.R_below hA hb) (i * c + k) (x : Int)
  rw [Mx.cells_set _ _ hi hk, hx, addTo_succ] at this
  rw [hx]
  exact this
/-- the numbers G can be read at A2, whatever is written into row i of the cells at A -/
def Src (w : World) (base : Nat) (A : Option Addr) (r c cap i : Nat) (F : Mx.Fn) (A2 : Option Addr) (G : Nat → Nat) : Prop :=
  ∀ (W : World) (F' : Mx.Fn), (∀ g, A = some ⟨g, 0, none⟩ → w.grownBy W (some g)) → Own W base A (r * c) cap (Mx.cells r c F') → (∀ i' k, i' ≠ i → F' i' k = F i' k) →
    ∀ k, k < c → ∃ ad, A2 = some ad ∧ W.cell? (ad.add k) = some (.int .i64 (G k : Int))
set_option maxRecDepth 100000 in
set_option maxHeartbeats 2000000 in
theorem add_some (m r c cap i f g o c1 c2 : Nat) (hm : Gf.Ok m) (hr : r ≤ 32) (hc : c ≤ 64) (hc0 : 0 < c) (hi : i < r) (ho : o = i * c) (F : Mx.Fn) (hF : Mx.In m r c F) (hf : f < 2 ^ m) (G : Nat → Nat) (hG : ∀ k, k < c → G k < 2 ^ m) (base : Nat) (hb0 : 0 < base) (ad2 : Addr)
    (w : World) (hff : FF w) (hA : Own w base (some ⟨g, 0, none⟩) (r * c) cap (Mx.cells r c F)) (hS : Src w base (some ⟨g, 0, none⟩) r c cap i F (some ad2) G) :
    Calls Tryd.prog 38 #[.int .i64 m, .slice (some ⟨g, o, none⟩) c c1, .slice (some ad2) c c2, .int .i64 f] w fun e w' => e = .returned (.tuple #[]) ∧
      w.grownBy w' (some g) ∧ Own w' base (some ⟨g, 0, none⟩) (r * c) cap (Mx.cells r c (addRow m F i f G)) := by
  have HF := Aside0.mk hff
  have HA := Aside0.mk hA
  have HS := Aside0.mk hS
  have HO := Aside0.mk ho
  have HM := Aside0.mk hm
  clear hff hA hS ho hm
  go_enter Tryd.func38, Tryd.ntmps38
  go_wp2
  go_loopw [12] (fun i_ wr => ∃ k : Nat, k ≤ c ∧ i_ = .int .i64 k ∧ Aside0 (w.grownBy wr (some g)) ∧ Aside0 (Own wr base (some ⟨g, 0, none⟩) (r * c) cap (Mx.cells r c (addTo m F i f G k)))) (fun i_ _ => c - (intOf i_).toNat)
  case atStart => exact ⟨0, Nat.zero_le _, rfl, ⟨gb_of_below (Below.refl _ _) g⟩, ⟨by rw [addTo_zero]; exact HA.out⟩⟩
  case round =>
    obtain ⟨k, hk, rfl, HGB, HAr⟩ := hrel
    have hgb : 0 < g := by
      have := Kd.R_base HA.out g rfl
      omega
    by_cases hlt : k < c
    · have hF0 : addTo m F i f G k i k = F i k := by simp [addTo]
      have hok : o + k < r * c := by rw [HO.out]; exact Mx.idx_lt hi hlt
      obtain ⟨ht0, hz⟩ := own_cell HAr.out (o + k) hok
      have ht : wr.cell? ⟨g, o + k, none⟩ = some (.int .i64 (F i k)) := by
        rw [ht0]
        have : rd (Mx.cells r c (addTo m F i f G k)) ((o + k : Nat) : Int) = (F i k : Int) := by
          rw [HO.out, ← hF0]
          exact Mx.cells_getD _ hi hlt
        rw [this]
      clear ht0
      obtain ⟨ad', e, hs⟩ := HS.out wr (addTo m F i f G k) (fun g' e => by cases e; exact HGB.out) HAr.out (fun i' k' h => addTo_other _ _ _ _ _ _ _ _ h) k hlt
      obtain rfl := Option.some.inj e
      clear e
      have HFr := Aside0.mk (gb_ff HGB.out hgb HF.out)
      have HX := Aside0.mk (times_ok HM.out hf (hG k hlt) 100 (by omega))
      have hpr : Gf.mul m f (G k) < 2 ^ 62 := Nat.lt_of_lt_of_le (Gf.mul_lt HM.out (G k) hf) (Nat.le_trans (pow_le16 HM.out) (by decide))
      have hFk : F i k < 2 ^ 62 := Nat.lt_of_lt_of_le (hF i k hi hlt) (Nat.le_trans (pow_le16 HM.out) (by decide))
      have HXor := Aside0.mk (xor_nat (F i k) (Gf.mul m f (G k)) hFk hpr)
      obtain ⟨p, hp⟩ : ∃ p, p = Gf.mul m f (G k) := ⟨_, rfl⟩
      rw [← hp] at HX HXor
      have HP := Aside0.mk hp
      clear hF0 hp hpr hFk hF hf hG
      go_wp2
      go_region_with (go_at_call 47; refine (matrix_times.calls 100 m f (G k) p _ (by exact HFr.out) HX.out).mono ?_; rintro e w1 ⟨rfl, hb⟩; obtain ⟨ht1, hz1⟩ := keep_cz hb ht hz)
      all_goals
        go_wp2
        go_roundw
        case rel =>
          have := add_step (x := F i k ^^^ p) hi hlt (by rw [HP.out]) HGB.out HAr.out (below_undrew hb)
          rw [← HO.out] at this
          rw [← HXor.out] at this
          exact ⟨k + 1, by omega, by go_num, ⟨this.1⟩, ⟨this.2⟩⟩
        case measure => simp [intOf]; omega
    · obtain rfl : k = c := by omega
      go_wp2
      go_end0
      have := HAr.out
      rw [addTo_all] at this
      exact ⟨rfl, HGB.out, this⟩
set_option maxRecDepth 100000 in
set_option maxHeartbeats 2000000 in
theorem add_none (m f : Int) (A1 A2 : Option Addr) (c1 c2 : Nat) (w : World) :
    Calls Tryd.prog 38 #[.int .i64 m, .slice A1 0 c1, .slice A2 0 c2, .int .i64 f] w fun e w' => e = .returned (.tuple #[]) ∧ w = w' := by
  go_enter Tryd.func38, Tryd.ntmps38
  go_wp2
  refine wp_loop_rounds 1 ?_
  rw [rounds_succ]
  go_wp2
  go_end0
  exact ⟨rfl, rfl⟩
/-- what becomes of memory: the block at A alone is written -/
def GrownAt (w : World) (A : Option Addr) (n : Nat) (w' : World) : Prop := (∀ g, A = some ⟨g, 0, none⟩ → w.grownBy w' (some g)) ∧ (n = 0 → w = w')
theorem add_calls (m r c cap i f c1 c2 : Nat) (hm : Gf.Ok m) (hr : r ≤ 32) (hc : c ≤ 64) (hi : i < r) (F : Mx.Fn) (hF : Mx.In m r c F) (hf : f < 2 ^ m) (G : Nat → Nat) (hG : ∀ k, k < c → G k < 2 ^ m) (base : Nat) (hb0 : 0 < base) (A A1 A2 : Option Addr)
    (w : World) (hff : FF w) (hA : Own w base A (r * c) cap (Mx.cells r c F)) (hR : RowAt A (i * c) c A1) (hS : Src w base A r c cap i F A2 G) :
    Calls Tryd.prog 38 #[.int .i64 m, .slice A1 c c1, .slice A2 c c2, .int .i64 f] w fun e w' => e = .returned (.tuple #[]) ∧
      GrownAt w A c w' ∧ Own w' base A (r * c) cap (Mx.cells r c (addRow m F i f G)) := by
  rcases Nat.eq_zero_or_pos c with rfl | hc0
  · refine (add_none m f A1 A2 c1 c2 w).mono ?_
    rintro e w' ⟨rfl, rfl⟩
    refine ⟨rfl, ⟨fun g _ => gb_of_below (Below.refl _ _) g, fun _ => rfl⟩, ?_⟩
    rw [← addTo_all, addTo_zero]
    exact hA
  · obtain ⟨g, rfl, _, _⟩ := own_blk w base A _ cap _ hA (Nat.mul_pos (by omega) hc0)
    obtain rfl : A1 = some ⟨g, i * c, none⟩ := by
      rw [hR hc0]
      exact congrArg some (add_plain g _)
    obtain ⟨ad2, rfl, _⟩ := hS w F (fun g' e => by cases e; exact gb_of_below (Below.refl _ _) _) hA (fun _ _ _ => rfl) 0 hc0
    refine (add_some m r c cap i f g (i * c) c1 c2 hm hr hc hc0 hi rfl F hF hf G hG base hb0 ad2 w hff hA hS).mono ?_
    rintro e w' ⟨rfl, h1, h2⟩
    exact ⟨rfl, ⟨fun g' e => by cases e; exact h1, fun h => by omega⟩, h2⟩
end Go.Proofs.YtfigcmmmpndpjaaDoor.H
/- What matrix.Identity answers. -/
namespace Go.Proofs.YtfigcmmmpndpjaaDoor.H
open Go.RowKit Go.Proofs.YtfigcmmmpndpjaaDoorW.PrintWords Go.Proofs.YtfigcmmmpndpjaaDoorW.PrintLast Go.Proofs.YtfigcmmmpndpjaaDoorW.PrintMore Go.Proofs.YtfigcmmmpndpjaaDoor.P
set_option linter.unusedVariables false
set_option linter.unusedSimpArgs false
/-- A matrix that the call makes: its struct in block gc, its cells in a block of their own; the result's struct, still zero, in block gb. -/
structure Made (w W : World) (gb gc m r c : Nat) (A : Option Addr) (cap : Nat) (F : Mx.Fn) : Prop where
  below : Below w.heap.size w W
  lob : w.heap.size ≤ gb
  loc : w.heap.size ≤ gc
  ne : gb ≠ gc
  res : W.heap[gb]? = some (.cells #[.int .i64 0, .int .i64 0, .int .i64 0, .slice none 0 0] 24 (0, 0))
  mat : W.heap[gc]? = some (.cells #[.int .i64 m, .int .i64 r, .int .i64 c, .slice A (r * c) cap] 24 (0, 0))
  own : Own W w.heap.size A (r * c) cap (Mx.cells r c F)
theorem own_ne {W : World} {base n cap g t : Nat} {A : Option Addr} {l : List Int} {cs : Array Value} (h : Own W base A n cap l) (hb : W.heap[g]? = some (.cells cs t (0, 0))) (ht : 3 ≠ t) {g' : Nat} (e : A = some ⟨g', 0, none⟩) : g ≠ g' := by
  intro h2
  subst h2
  subst e
  exact Kd.R_ne h hb ht rfl
theorem Made.next {w W W2 : World} {gb gc m r c cap : Nat} {A : Option Addr} {F : Mx.Fn} (h : Made w W gb gc m r c A cap F) (hb : Below W.heap.size W W2) : Made w W2 gb gc m r c A cap F :=
  ⟨below_step h.below hb, h.lob, h.loc, h.ne, blk_below h.res hb, blk_below h.mat hb, Kd.R_below h.own hb⟩
theorem Made.drewN {w W : World} {gb gc m r c cap : Nat} {A : Option Addr} {F : Mx.Fn} (h : Made w W gb gc m r c A cap F) (n : Nat) : Made w (W.drewN n) gb gc m r c A cap F := h.next (pw_below_drewN (Below.refl _ _) n)
theorem Made.drew {w W : World} {gb gc m r c cap : Nat} {A : Option Addr} {F : Mx.Fn} (h : Made w W gb gc m r c A cap F) : Made w W.drew gb gc m r c A cap F := h.next (below_drew (Below.refl _ _))
theorem Made.put {w W : World} {gb gc m r c cap i j x g : Nat} {F : Mx.Fn} (h : Made w W gb gc m r c (some ⟨g, 0, none⟩) cap F) (hi : i < r) (hj : j < c) :
    Made w (W.setCell ⟨g, i * c + j, none⟩ (.int .i64 (x : Int))) gb gc m r c (some ⟨g, 0, none⟩) cap (Mx.upd F i j x) := by
  refine ⟨below_set h.below (Kd.R_base h.own g rfl), h.lob, h.loc, h.ne, ?_, ?_, ?_⟩
  · exact blk_far h.res (own_ne h.own h.res (by decide) rfl) _
  · exact blk_far h.mat (own_ne h.own h.mat (by decide) rfl) _
  · have := own_put h.own (i * c + j) (x : Int)
    rwa [Mx.cells_set _ _ hi hj] at this
theorem Made.grown {w W W2 : World} {gb gc m r c cap : Nat} {A : Option Addr} {F F' : Mx.Fn} (h : Made w W gb gc m r c A cap F) (hr : 0 < r) (hg : GrownAt W A c W2) (ho : Own W2 w.heap.size A (r * c) cap (Mx.cells r c F')) : Made w W2 gb gc m r c A cap F' := by
  rcases Nat.eq_zero_or_pos c with hc | hc
  · have e := hg.2 hc
    subst e
    exact ⟨h.below, h.lob, h.loc, h.ne, h.res, h.mat, ho⟩
  · obtain ⟨g, rfl, hlo, _⟩ := own_blk W _ A _ cap _ h.own (Nat.mul_pos hr hc)
    have k := hg.1 g rfl
    exact ⟨pw_below_grown h.below (some g) h.below.size k (fun j e => by cases e; exact hlo), h.lob, h.loc, h.ne, blk_grown h.res k (fun e => own_ne h.own h.res (by decide) rfl (Option.some.inj e)), blk_grown h.mat k (fun e => own_ne h.own h.mat (by decide) rfl (Option.some.inj e)), ho⟩
/-- the struct is brought into the result -/
def outW (W : World) (gb m r c : Nat) (A : Option Addr) (n cap : Nat) : World := (((W.setCell ⟨gb, 0, none⟩ (.int .i64 m)).setCell ⟨gb, 1, none⟩ (.int .i64 r)).setCell ⟨gb, 2, none⟩ (.int .i64 c)).setCell ⟨gb, 3, none⟩ (.slice A n cap)
theorem Made.fin {w W : World} {gb gc m r c cap : Nat} {A : Option Addr} {F : Mx.Fn} (h : Made w W gb gc m r c A cap F) :
    (outW W gb m r c A (r * c) cap).heap[gb]? = some (.cells #[.int .i64 m, .int .i64 r, .int .i64 c, .slice A (r * c) cap] 24 (0, 0)) ∧ Own (outW W gb m r c A (r * c) cap) w.heap.size A (r * c) cap (Mx.cells r c F) ∧ Below w.heap.size w (outW W gb m r c A (r * c) cap) := by
  refine ⟨?_, ?_, ?_⟩
  · exact blk_put (blk_put (blk_put (blk_put h.res 0 (.int .i64 m) rfl) 1 (.int .i64 r) rfl) 2 (.int .i64 c) rfl) 3 (.slice A (r * c) cap) rfl
  · have k := Kd.R_types h.own h.res (by decide)
    exact Kd.R_mono (Kd.R_far (p := ⟨gb, 3, none⟩) (Kd.R_far (p := ⟨gb, 2, none⟩) (Kd.R_far (p := ⟨gb, 1, none⟩) (Kd.R_far (p := ⟨gb, 0, none⟩) k (fun _ hk => hk.2) _) (fun _ hk => hk.2) _) (fun _ hk => hk.2) _) (fun _ hk => hk.2) _) (fun _ _ => trivial)
  · exact below_set (below_set (below_set (below_set h.below h.lob) h.lob) h.lob) h.lob
/-- a matrix of zeros that was just made -/
theorem cells_zero (r c : Nat) : List.replicate (r * c) (0 : Int) = Mx.cells r c (fun _ _ => 0) :=
  Mx.cells_ext (by simp) fun i j hi hj => by simp [List.getD, Mx.idx_lt hi hj]
theorem zero_is (m : Int) (r c : Nat) (hr : r ≤ 64) (hc : c ≤ 64) : matrix_zero.f m r c = some (m, (r : Int), (c : Int), List.replicate (r * c) 0) := by
  have h : r * c ≤ 4096 := Nat.mul_le_mul hr hc
  have e1 : wrap64 ((r : Int) * (c : Int)) = ((r * c : Nat) : Int) := by
    rw [← Int.natCast_mul]; unfold wrap64; omega
  unfold matrix_zero.f
  rw [e1, if_pos (by omega), Int.toNat_natCast, if_pos (by omega)]
/-- what matrix.Identity answers -/
def matrix_Identity.f (a0 a1 : Int) : Option (Int × Int × Int × List Int × Int) :=
  some (if (a0 = 8 ∨ a0 = 16) ∧ 0 ≤ a1 ∧ a1 ≤ 32 then (a0, a1, a1, Mx.cells a1.toNat a1.toNat (fun i j => if i = j then 1 else 0), 0) else (0, 0, 0, [], 1))
/-- a matrix and an error come back -/
def Back (w : World) (r1 r2 r3 : Int) (r4 : List Int) (r5 : Int) (e : Ending) (w' : World) : Prop :=
  ∃ v3_ : Value, e = .returned (.tuple #[.agg #[.int .i64 r1, .int .i64 r2, .int .i64 r3, v3_], .int .i64 r5]) ∧ Kd.R (Kd.int .i64) 3 w' w.heap.size (fun _ => True) v3_ r4 ∧ Below w.heap.size w w'
set_option maxRecDepth 100000 in
set_option maxHeartbeats 2000000 in
theorem ident_bad (m n : Int) (h : ¬ ((m = 8 ∨ m = 16) ∧ 0 ≤ n ∧ n ≤ 32)) (w : World) : Calls Tryd.prog 10 #[.int .i64 m, .int .i64 n] w (Back w 0 0 0 [] 1) := by
  have h : ((m != 8) = true ∧ (m != 16) = true) ∨ (m = 8 ∧ n < 0) ∨ (m = 8 ∧ 0 ≤ n ∧ 32 < n) ∨ (m = 16 ∧ n < 0) ∨ (m = 16 ∧ 0 ≤ n ∧ 32 < n) := by simp only [bne_iff_ne]; omega
  rcases h with ⟨h1, h2⟩ | ⟨rfl, h1⟩ | ⟨rfl, h1, h2⟩ | ⟨rfl, h1⟩ | ⟨rfl, h1, h2⟩
  all_goals
    go_enter Tryd.func10, Tryd.ntmps10
    go_wp2
    refine bodyPost_ret (results_ct rfl _ _ w.heap.size 24 #[.int .i64 0, .int .i64 0, .int .i64 0, .slice none 0 0] (0, 0) _ rfl ?_ Tryd.underlying24 rfl (by kernel_rfl)) rfl ?_
    · exact heap_alloc_new w _
    · exact ⟨_, rfl, Kd.R_nil _ _ _ _ _, below_alloc (Below.refl _ _) _⟩
/-- the ones before row k -/
def ones (k : Nat) : Mx.Fn := fun i j => if i = j ∧ i < k then 1 else 0
theorem ones_succ (k : Nat) : Mx.upd (ones k) k k 1 = ones (k + 1) := by
  funext i j
  simp only [Mx.upd, ones]
  by_cases h : i = k ∧ j = k
  · obtain ⟨rfl, rfl⟩ := h; simp
  · rw [if_neg h]
    by_cases h2 : i = j
    · subst h2
      by_cases h3 : i < k
      · rw [if_pos ⟨rfl, h3⟩, if_pos ⟨rfl, by omega⟩]
      · rw [if_neg (by simp [h3]), if_neg (by simp; omega)]
    · rw [if_neg (by simp [h2]), if_neg (by simp [h2])]
/-- the struct of what was just made -/
theorem made_new {w W0 w1 W2 : World} {gb m r c cap : Nat} {A : Option Addr} {F : Mx.Fn} (hb0 : Below w.heap.size w W0) (hres : W0.heap[gb]? = some (.cells #[.int .i64 0, .int .i64 0, .int .i64 0, .slice none 0 0] 24 (0, 0))) (hlo : w.heap.size ≤ gb)
    (hb : Below W0.heap.size W0 w1) (ho : Own w1 W0.heap.size A (r * c) cap (Mx.cells r c F)) (hW : W2 = w1.alloc (.cells #[.int .i64 m, .int .i64 r, .int .i64 c, .slice A (r * c) cap] 24 (0, 0))) : Made w W2 gb w1.heap.size m r c A cap F := by
  subst hW
  have hg := blk_lt hres
  have hs := hb.size
  have hs0 := hb0.size
  have hbel : Below w1.heap.size w1 (w1.alloc (.cells #[.int .i64 m, .int .i64 r, .int .i64 c, .slice A (r * c) cap] 24 (0, 0))) := below_alloc (Below.refl _ _) _
  exact ⟨below_step (below_step hb0 hb) hbel, hlo, by omega, by omega, blk_below (blk_below hres hb) hbel, heap_alloc_new w1 _, Kd.R_lower (Kd.R_below ho hbel) hs0⟩
/-- a row of one's own cells, as row hands it back -/
theorem row_own {W : World} {base cap r c i k g : Nat} {A' : Option Addr} {F : Mx.Fn} (hA : Own W base (some ⟨g, 0, none⟩) (r * c) cap (Mx.cells r c F)) (hR : RowAt (some ⟨g, 0, none⟩) (i * c) c A') (hi : i < r) (hk : k < c) :
    ∃ p, p = i * c ∧ A' = some ⟨g, p, none⟩ ∧ W.cell? ⟨g, p + k, none⟩ = some (.int .i64 (F i k : Int)) ∧ W.frozen? ⟨g, p + k, none⟩ = false := by
  refine ⟨i * c, rfl, ?_, ?_, ?_⟩
  · rw [hR (by omega)]
    exact congrArg some (add_plain g _)
  · have h := (own_cell hA (i * c + k) (Mx.idx_lt hi hk)).1
    have e : rd (Mx.cells r c F) ((i * c + k : Nat) : Int) = (F i k : Int) := Mx.cells_getD F hi hk
    rwa [e] at h
  · exact (own_cell hA (i * c + k) (Mx.idx_lt hi hk)).2
set_option maxRecDepth 100000 in
set_option maxHeartbeats 2000000 in
theorem ident_ok (m n : Nat) (hm : Gf.Ok m) (hn : n ≤ 32) (w : World) : Calls Tryd.prog 10 #[.int .i64 m, .int .i64 n] w (Back w m n n (Mx.cells n n (fun i j => if i = j then 1 else 0)) 0) := by
  have HZ := Aside0.mk (zero_is m n n (by omega) (by omega))
  have HE := Aside0.mk (show Mx.cells n n (ones n) = Mx.cells n n (fun i j => if i = j then 1 else 0) from Mx.cells_congr fun i j hi _ => by simp [ones, hi])
  have HM := Aside0.mk hm
  rcases hm with rfl | rfl
  all_goals
    go_enter Tryd.func10, Tryd.ntmps10
    go_wp2_with (go_at_call 35; refine (matrix_zero.calls _ n n _ n n (List.replicate (n * n) 0) _ HZ.out).mono ?_; rintro e w1 ⟨v, rfl, ho, hb⟩; obtain ⟨A, cap, rfl⟩ := Kd.R_slice ho; have HO := Aside0.mk ho; have HB := Aside0.mk hb; clear ho hb)
    have hlen : (List.replicate (n * n) (0 : Int)).length = n * n := List.length_replicate
    have ho := HO.out
    rw [hlen, cells_zero] at ho
    have HO1 := Aside0.mk ho
    clear ho hlen HO
    go_loopw [28] (fun i_ wr => ∃ k : Nat, k ≤ n ∧ i_ = .int .i64 k ∧ Aside0 (Made w wr w.heap.size w1.heap.size _ n n A cap (ones k))) (fun i_ _ => n - (intOf i_).toNat)
    case atStart =>
      refine ⟨0, Nat.zero_le _, rfl, ⟨made_new (W0 := w.alloc (.cells #[.int .i64 0, .int .i64 0, .int .i64 0, .slice none 0 0] 24 (0, 0))) (below_alloc (Below.refl _ _) _) (heap_alloc_new w _) (Nat.le_refl _) HB.out ?_ rfl⟩⟩
      have e : ones 0 = fun _ _ => 0 := by funext i j; simp [ones]
      rw [e]
      exact HO1.out
    case round =>
      obtain ⟨k, hk, rfl, HMd⟩ := hrel
      obtain ⟨k0, k1, k2, k3⟩ := blk4 HMd.out.mat
      by_cases hlt : k < n
      · obtain ⟨g, rfl, hg1, hg2⟩ := own_blk _ _ _ _ _ _ HMd.out.own (Nat.mul_pos (Nat.lt_of_le_of_lt (Nat.zero_le _) hlt) (Nat.lt_of_le_of_lt (Nat.zero_le _) hlt))
        have HC := Aside0.mk (Kd.R_reads' HMd.out.own).2.1
        have HF := Aside0.mk (row_fits (c := n) hlt)
        go_wp2_with (go_at_call 36; refine (row_calls _ n n (n * n) cap k (some ⟨g, 0, none⟩) _ (fun _ => ⟨_, rfl⟩) (by omega) (by omega) HF.out HC.out).mono ?_; rintro e w2 ⟨A', c', rfl, hc', hR, hb2⟩; obtain ⟨p, hp, rfl, hx, hz⟩ := row_own (Kd.R_below HMd.out.own hb2) hR hlt hlt; have HP := Aside0.mk hp; clear hp)
        go_roundw
        case rel =>
          refine ⟨k + 1, by omega, by go_num, ⟨?_⟩⟩
          have := (HMd.out.next hb2).put (x := 1) hlt hlt
          rw [ones_succ, ← HP.out] at this
          exact this
        case measure => simp [intOf]; omega
      · obtain rfl : k = n := by omega
        obtain ⟨j0, j1, j2, j3⟩ := blk4 HMd.out.res
        have z0 := blk_frozen HMd.out.res 0
        have z1 := blk_frozen HMd.out.res 1
        have z2 := blk_frozen HMd.out.res 2
        have z3 := blk_frozen HMd.out.res 3
        go_wp2
        obtain ⟨f1, f2, f3⟩ := HMd.out.fin
        refine bodyPost_ret (results_ct rfl _ _ w.heap.size 24 #[.int .i64 _, .int .i64 k, .int .i64 k, .slice A (k * k) cap] (0, 0) _ rfl f1 Tryd.underlying24 rfl (by kernel_rfl)) rfl ?_
        rw [HE.out] at f2
        exact ⟨_, rfl, f2, f3⟩
theorem matrix_Identity.calls (a0 a1 : Int) (r1 : Int) (r2 : Int) (r3 : Int) (r4 : List Int) (r5 : Int) (w : World) (h : matrix_Identity.f a0 a1 = some (r1, r2, r3, r4, r5)) :
    Calls Tryd.prog 10 #[.int .i64 a0, .int .i64 a1] w fun e w' => ∃ v3_ : Value, e = .returned (.tuple #[.agg #[.int .i64 r1, .int .i64 r2, .int .i64 r3, v3_], .int .i64 r5]) ∧ Kd.R (Kd.int .i64) 3 w' w.heap.size (fun _ => True) v3_ r4 ∧ Below w.heap.size w w' := by
  unfold matrix_Identity.f at h
  by_cases hc : (a0 = 8 ∨ a0 = 16) ∧ 0 ≤ a1 ∧ a1 ≤ 32
  · rw [if_pos hc] at h
    simp only [Option.some.injEq, Prod.mk.injEq] at h
    obtain ⟨rfl, rfl, rfl, rfl, rfl⟩ := h
    obtain ⟨m, rfl, hm⟩ := ok_int hc.1
    obtain ⟨n, rfl⟩ := Int.eq_ofNat_of_zero_le hc.2.1
    exact ident_ok m n hm (by omega) w
  · rw [if_neg hc] at h
    simp only [Option.some.injEq, Prod.mk.injEq] at h
    obtain ⟨rfl, rfl, rfl, rfl, rfl⟩ := h
    exact ident_bad a0 a1 hc w
end Go.Proofs.YtfigcmmmpndpjaaDoor.H
/- What matrix.Transpose answers. -/
namespace Go.Proofs.YtfigcmmmpndpjaaDoor.H
open Go.RowKit Go.Proofs.YtfigcmmmpndpjaaDoorW.PrintWords Go.Proofs.YtfigcmmmpndpjaaDoorW.PrintLast Go.Proofs.YtfigcmmmpndpjaaDoorW.PrintMore Go.Proofs.YtfigcmmmpndpjaaDoor.P
set_option linter.unusedVariables false
set_option linter.unusedSimpArgs false
/-- the transposed matrix, as far as row i, column j of the given one -/
def trTo (F : Mx.Fn) (i j : Nat) : Mx.Fn := fun i' j' => if j' < i ∨ (j' = i ∧ i' < j) then F j' i' else 0
theorem trTo_succ (F : Mx.Fn) (i j : Nat) : Mx.upd (trTo F i j) j i (F i j) = trTo F i (j + 1) := by
  funext i' j'
  simp only [Mx.upd, trTo]
  by_cases h : i' = j ∧ j' = i
  · obtain ⟨rfl, rfl⟩ := h; simp
  · rw [if_neg h]
    by_cases h2 : j' < i ∨ (j' = i ∧ i' < j)
    · rw [if_pos h2, if_pos (by omega)]
    · rw [if_neg h2, if_neg (by omega)]
theorem trTo_row (F : Mx.Fn) (i r c : Nat) : Mx.cells c r (trTo F i c) = Mx.cells c r (trTo F (i + 1) 0) :=
  Mx.cells_congr fun i' j' hi hj => by
    simp only [trTo]
    by_cases h2 : j' < i ∨ (j' = i ∧ i' < c)
    · rw [if_pos h2, if_pos (by omega)]
    · rw [if_neg h2, if_neg (by omega)]
theorem trTo_all (F : Mx.Fn) (r c : Nat) : Mx.cells c r (trTo F r 0) = Mx.cells c r (fun i j => F j i) :=
  Mx.cells_congr fun i' j' hi hj => by simp [trTo, hj]
theorem trTo_none (F : Mx.Fn) (r c : Nat) : Mx.cells c r (trTo F 0 0) = Mx.cells c r (fun _ _ => 0) :=
  Mx.cells_congr fun i' j' hi hj => by simp [trTo]
theorem Made.congr {w W : World} {gb gc m r c cap : Nat} {A : Option Addr} {F F' : Mx.Fn} (h : Made w W gb gc m r c A cap F) (e : Mx.cells r c F = Mx.cells r c F') : Made w W gb gc m r c A cap F' :=
  ⟨h.below, h.lob, h.loc, h.ne, h.res, h.mat, e ▸ h.own⟩
/-- a valid matrix's cells are its elements -/
theorem rd_el {r c i j m : Nat} {l : List Int} (hl : l.length = r * c) (h : ∀ x ∈ l, 0 ≤ x ∧ x < 2 ^ m) (hi : i < r) (hj : j < c) : rd l ((i * c + j : Nat) : Int) = (Mx.el c l i j : Int) := by
  have hlt : i * c + j < l.length := by rw [hl]; exact Mx.idx_lt hi hj
  unfold Mx.el rd
  rw [Int.toNat_natCast, Int.toNat_of_nonneg]
  rw [List.getD_eq_getElem?_getD, List.getElem?_eq_getElem hlt]
  exact (h _ (List.getElem_mem hlt)).1
theorem el_in {r c m : Nat} {l : List Int} (hl : l.length = r * c) (h : ∀ x ∈ l, 0 ≤ x ∧ x < 2 ^ m) : Mx.In m r c (Mx.el c l) := by
  intro i j hi hj
  have hlt : i * c + j < l.length := by rw [hl]; exact Mx.idx_lt hi hj
  unfold Mx.el
  rw [List.getD_eq_getElem?_getD, List.getElem?_eq_getElem hlt]
  have := h _ (List.getElem_mem hlt)
  have h2 : ((l[i * c + j]).toNat : Int) < ((2 ^ m : Nat) : Int) := by
    rw [Int.toNat_of_nonneg this.1]; exact_mod_cast this.2
  exact_mod_cast h2
/-- the zero struct is brought into the result -/
theorem bad_fin {w W : World} {gb : Nat} (hb : Below w.heap.size w W) (hlo : w.heap.size ≤ gb) (hres : W.heap[gb]? = some (.cells #[.int .i64 0, .int .i64 0, .int .i64 0, .slice none 0 0] 24 (0, 0))) :
    ((((W.setCell ⟨gb, 0, none⟩ (.int .i64 0)).setCell ⟨gb, 1, none⟩ (.int .i64 0)).setCell ⟨gb, 2, none⟩ (.int .i64 0)).setCell ⟨gb, 3, none⟩ (.slice none 0 0)).heap[gb]? = some (.cells #[.int .i64 0, .int .i64 0, .int .i64 0, .slice none 0 0] 24 (0, 0)) ∧
      Below w.heap.size w ((((W.setCell ⟨gb, 0, none⟩ (.int .i64 0)).setCell ⟨gb, 1, none⟩ (.int .i64 0)).setCell ⟨gb, 2, none⟩ (.int .i64 0)).setCell ⟨gb, 3, none⟩ (.slice none 0 0)) :=
  ⟨blk_put (blk_put (blk_put (blk_put hres 0 (.int .i64 0) rfl) 1 (.int .i64 0) rfl) 2 (.int .i64 0) rfl) 3 (.slice none 0 0) rfl, below_set (below_set (below_set (below_set hb hlo) hlo) hlo) hlo⟩
/-- what matrix.Transpose answers -/
def matrix_Transpose.f (a0_0 a0_1 a0_2 : Int) (l0_3 : List Int) : Option (Int × Int × Int × List Int × Int) :=
  some (if validB a0_0 a0_1 a0_2 l0_3 = true then (a0_0, a0_2, a0_1, Mx.cells a0_2.toNat a0_1.toNat (fun i j => Mx.el a0_2.toNat l0_3 j i), 0) else (0, 0, 0, [], 1))
set_option maxRecDepth 100000 in
set_option maxHeartbeats 2000000 in
theorem tr_bad (f r c : Int) (A : Option Addr) (cap : Nat) (l : List Int) (w : World) (hl : Kd.C (Kd.int .i64) w A l.length l) (hv : validB f r c l = false) :
    Calls Tryd.prog 19 #[.agg #[.int .i64 f, .int .i64 r, .int .i64 c, .slice A l.length cap]] w (Back w 0 0 0 [] 1) := by
  have HL := Aside0.mk hl
  have HV := Aside0.mk hv
  clear hl hv
  go_enter Tryd.func19, Tryd.ntmps19
  go_wp2_with (go_at_call 28; refine (valid_is false f r c A cap l _ (Kd.C_alloc (Kd.C_alloc HL.out _) _) HV.out).mono ?_; rintro e w1 ⟨rfl, hb⟩; have HB := Aside0.mk hb; have hr := blk_below (heap_alloc_new (w.alloc (.cells #[.int .i64 f, .int .i64 r, .int .i64 c, .slice A l.length cap] 24 (0, 0))) (.cells #[.int .i64 0, .int .i64 0, .int .i64 0, .slice none 0 0] 24 (0, 0))) hb; rw [World.size_alloc] at hr; have HRes := Aside0.mk hr; obtain ⟨j0, j1, j2, j3⟩ := blk4 hr; have z0 := blk_frozen hr 0; have z1 := blk_frozen hr 1; have z2 := blk_frozen hr 2; have z3 := blk_frozen hr 3; clear hb hr)
  obtain ⟨f1, f2⟩ := bad_fin (w := w) (gb := w.heap.size + 1) (below_step (below_alloc (below_alloc (Below.refl _ _) _) _) HB.out) (by omega) HRes.out
  refine bodyPost_ret (results_ct rfl _ _ (w.heap.size + 1) 24 #[.int .i64 0, .int .i64 0, .int .i64 0, .slice none 0 0] (0, 0) _ rfl f1 Tryd.underlying24 rfl (by kernel_rfl)) rfl ?_
  exact ⟨_, rfl, Kd.R_nil _ _ _ _ _, f2⟩
set_option maxRecDepth 100000 in
set_option maxHeartbeats 4000000 in
theorem tr_ok (m r c : Nat) (hm : Gf.Ok m) (hr : r ≤ 32) (hc : c ≤ 32) (A : Option Addr) (cap : Nat) (l : List Int) (hcap : l.length ≤ cap) (hn : l.length = r * c) (hin : ∀ x ∈ l, 0 ≤ x ∧ x < 2 ^ m) (w : World) (hl : Kd.C (Kd.int .i64) w A l.length l) :
    Calls Tryd.prog 19 #[.agg #[.int .i64 m, .int .i64 r, .int .i64 c, .slice A l.length cap]] w (Back w m c r (Mx.cells c r (fun i j => Mx.el c l j i)) 0) := by
  have HL := Aside0.mk hl
  have HV := Aside0.mk (valid_mk hm hr hc hn hin)
  have HZ := Aside0.mk (zero_is m c r (by omega) (by omega))
  have HN := Aside0.mk hn
  have HI := Aside0.mk hin
  have HP := Aside0.mk hcap
  have hA : 0 < l.length → ∃ ad, A = some ad := fun h => by obtain ⟨ad, e, _⟩ := Kd.at_int hl 0 (by omega) (by omega); exact ⟨ad, e⟩
  have HA := Aside0.mk hA
  clear hl hn hin hcap hA
  go_enter Tryd.func19, Tryd.ntmps19
  go_wp2_with (first | (go_at_call 28; refine (valid_is true m r c A cap l _ (Kd.C_alloc (Kd.C_alloc HL.out _) _) HV.out).mono ?_; rintro e w1 ⟨rfl, hb⟩; have HB1 := Aside0.mk (below_step (below_alloc (below_alloc (Below.refl w.heap.size w) _) _) hb); have hr0 := blk_below (heap_alloc_new (w.alloc (.cells #[.int .i64 m, .int .i64 r, .int .i64 c, .slice A l.length cap] 24 (0, 0))) (.cells #[.int .i64 0, .int .i64 0, .int .i64 0, .slice none 0 0] 24 (0, 0))) hb; rw [World.size_alloc] at hr0; have HRes := Aside0.mk hr0; have ha0 := blk_below (blk_alloc (heap_alloc_new w (.cells #[.int .i64 m, .int .i64 r, .int .i64 c, .slice A l.length cap] 24 (0, 0))) _) hb; have HBox := Aside0.mk ha0; obtain ⟨k0, k1, k2, k3⟩ := blk4 ha0; clear hb hr0 ha0) | (go_at_call 35; refine (matrix_zero.calls _ c r _ c r (List.replicate (c * r) 0) _ HZ.out).mono ?_; rintro e w2 ⟨v, rfl, ho, hb⟩; obtain ⟨A2, cap2, rfl⟩ := Kd.R_slice ho; have HO := Aside0.mk ho; have HB := Aside0.mk hb; clear ho hb k0 k1 k2 k3; have HBox2 := Aside0.mk (blk_below HBox.out HB.out); obtain ⟨k0, k1, k2, k3⟩ := blk4 HBox2.out; have hz : w.heap.size < w2.heap.size := blk_lt HBox2.out))
  have hlen : (List.replicate (c * r) (0 : Int)).length = c * r := List.length_replicate
  have ho := HO.out
  rw [hlen, cells_zero] at ho
  have HO1 := Aside0.mk ho
  clear ho hlen HO k0 k1 k2 k3 hz
  obtain ⟨F, hF⟩ : ∃ F, F = Mx.el c l := ⟨_, rfl⟩
  have HFe := Aside0.mk hF
  clear hF
  go_loopw [21] (fun i_ wr => ∃ i : Nat, i ≤ r ∧ i_ = .int .i64 i ∧ Aside0 (Made w wr (w.heap.size + 1) w2.heap.size m c r A2 cap2 (trTo F i 0)) ∧ Aside0 (wr.heap[w.heap.size]? = some (.cells #[.int .i64 m, .int .i64 r, .int .i64 c, .slice A l.length cap] 24 (0, 0)))) (fun i_ _ => r - (intOf i_).toNat)
  case atStart =>
    refine ⟨0, Nat.zero_le _, rfl, ⟨(made_new HB1.out HRes.out (Nat.le_succ _) HB.out HO1.out rfl).congr (trTo_none F r c).symm⟩, ⟨blk_alloc HBox2.out _⟩⟩
  case round =>
    obtain ⟨i, hi, rfl, HMd, HBx⟩ := hrel
    obtain ⟨wo, rfl⟩ : ∃ wo : World, wo = wr := ⟨_, rfl⟩
    by_cases hlt : i < r
    · obtain ⟨k0, k1, k2, k3⟩ := blk4 HBx.out
      have HF := Aside0.mk (show (i + 1) * c ≤ l.length by rw [HN.out]; exact row_fits hlt)
      go_wp2_with (go_at_call 36; refine (row_calls m r c l.length cap i A _ HA.out (by omega) (by omega) HF.out HP.out).mono ?_; rintro e w3 ⟨A', c', rfl, hc', hR, hb3⟩; have HR := Aside0.mk hR; have HM3 := Aside0.mk (HMd.out.next hb3); have HB3 := Aside0.mk (blk_below HBx.out hb3); clear hR hb3 k0 k1 k2 k3)
      go_loopw [28] (fun j_ wq => ∃ j : Nat, j ≤ c ∧ j_ = .int .i64 j ∧ Aside0 (Made w wq (w.heap.size + 1) w2.heap.size m c r A2 cap2 (trTo F i j)) ∧ Aside0 (wq.heap[w.heap.size]? = some (.cells #[.int .i64 m, .int .i64 r, .int .i64 c, .slice A l.length cap] 24 (0, 0)))) (fun j_ _ => c - (intOf j_).toNat)
      case atStart => exact ⟨0, Nat.zero_le _, rfl, HM3, HB3⟩
      case round =>
        obtain ⟨j, hj, rfl, HMq, HBq⟩ := hrel
        by_cases hlj : j < c
        · obtain ⟨k0, k1, k2, k3⟩ := blk4 HMq.out.mat
          obtain ⟨ad, rfl, hx⟩ := row_cell (k := j) (n := 0) (Kd.C_below HL.out HMq.out.below) HR.out hlj HF.out
          rw [rd_el HN.out HI.out hlt hlj, ← HFe.out] at hx
          obtain ⟨g, rfl, hg1, hg2⟩ := own_blk _ _ _ _ _ _ HMq.out.own (Nat.mul_pos (Nat.lt_of_le_of_lt (Nat.zero_le _) hlj) (Nat.lt_of_le_of_lt (Nat.zero_le _) hlt))
          have HC := Aside0.mk (Kd.R_reads' HMq.out.own).2.1
          have HG := Aside0.mk (row_fits (c := r) hlj)
          go_wp2_with (go_at_call 36; refine (row_calls m c r (c * r) cap2 j (some ⟨g, 0, none⟩) _ (fun _ => ⟨_, rfl⟩) (by omega) (by omega) HG.out HC.out).mono ?_; rintro e w4 ⟨A4, c4, rfl, hc4, hR4, hb4⟩; obtain ⟨p, hp, rfl, hx4, hz4⟩ := row_own (Kd.R_below HMq.out.own hb4) hR4 hlj hlt; have HPp := Aside0.mk hp; clear hp k0 k1 k2 k3)
          go_roundw
          case rel =>
            have h1 := (HMq.out.next hb4).put (x := F i j) hlj hlt
            rw [trTo_succ, ← HPp.out] at h1
            refine ⟨j + 1, by omega, by go_num, ⟨h1⟩, ⟨?_⟩⟩
            refine blk_far (blk_below HBq.out hb4) (own_ne (HMq.out.next hb4).own (blk_below HBq.out hb4) (by decide) rfl) _
          case measure => simp [intOf]; omega
        · obtain rfl : j = c := by omega
          go_wp2
          go_roundw
          case rel => exact ⟨i + 1, by omega, by go_num, ⟨HMq.out.congr (trTo_row F i r j)⟩, HBq⟩
          case measure => simp [intOf]; omega
    · obtain rfl : i = r := by omega
      obtain ⟨k0, k1, k2, k3⟩ := blk4 HMd.out.mat
      obtain ⟨j0, j1, j2, j3⟩ := blk4 HMd.out.res
      have z0 := blk_frozen HMd.out.res 0
      have z1 := blk_frozen HMd.out.res 1
      have z2 := blk_frozen HMd.out.res 2
      have z3 := blk_frozen HMd.out.res 3
      go_wp2
      obtain ⟨f1, f2, f3⟩ := (HMd.out.congr (trTo_all F i c)).fin
      refine bodyPost_ret (results_ct rfl _ _ (w.heap.size + 1) 24 #[.int .i64 m, .int .i64 c, .int .i64 i, .slice A2 (c * i) cap2] (0, 0) _ rfl f1 Tryd.underlying24 rfl (by kernel_rfl)) rfl ?_
      rw [HFe.out] at f2
      exact ⟨_, rfl, f2, f3⟩
theorem matrix_Transpose.calls (a0_0 : Int) (a0_1 : Int) (a0_2 : Int) (A0_3 : Option Addr) (c0_3 : Nat) (l0_3 : List Int) (r1 : Int) (r2 : Int) (r3 : Int) (r4 : List Int) (r5 : Int) (w : World) (hr0_3 : Kd.C (Kd.int .i64) w A0_3 l0_3.length l0_3) (hc0_3 : l0_3.length ≤ c0_3) (h : matrix_Transpose.f a0_0 a0_1 a0_2 l0_3 = some (r1, r2, r3, r4, r5)) :
    Calls Tryd.prog 19 #[.agg #[.int .i64 a0_0, .int .i64 a0_1, .int .i64 a0_2, .slice A0_3 l0_3.length c0_3]] w fun e w' => ∃ v3_ : Value, e = .returned (.tuple #[.agg #[.int .i64 r1, .int .i64 r2, .int .i64 r3, v3_], .int .i64 r5]) ∧ Kd.R (Kd.int .i64) 3 w' w.heap.size (fun _ => True) v3_ r4 ∧ Below w.heap.size w w' := by
  unfold matrix_Transpose.f at h
  cases hv : validB a0_0 a0_1 a0_2 l0_3 with
  | false =>
    rw [hv, if_neg (by decide)] at h
    simp only [Option.some.injEq, Prod.mk.injEq] at h
    obtain ⟨rfl, rfl, rfl, rfl, rfl⟩ := h
    exact tr_bad a0_0 a0_1 a0_2 A0_3 c0_3 l0_3 w hr0_3 hv
  | true =>
    obtain ⟨m, a, b, hm, rfl, rfl, rfl, ha, hb, hl, hin⟩ := valid_open hv
    rw [hv, if_pos rfl] at h
    simp only [Option.some.injEq, Prod.mk.injEq] at h
    obtain ⟨rfl, rfl, rfl, rfl, rfl⟩ := h
    exact tr_ok m a b hm ha hb A0_3 c0_3 l0_3 hc0_3 hl hin w hr0_3
end Go.Proofs.YtfigcmmmpndpjaaDoor.H

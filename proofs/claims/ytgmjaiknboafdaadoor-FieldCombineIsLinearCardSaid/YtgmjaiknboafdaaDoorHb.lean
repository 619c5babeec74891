/- What field.all answers: is each number an element of the field? -/
import Derived.Test.YtgmjaiknboafdaaDoorHa
import Derived.LoopTactic
import Derived.Lib.Hide
namespace Go.Proofs.YtgmjaiknboafdaaDoor.H
open Go.RowKit Go.Proofs.YtgmjaiknboafdaaDoorW.PrintWords Go.Proofs.YtgmjaiknboafdaaDoorW.PrintLast Go.Proofs.YtgmjaiknboafdaaDoorW.PrintMore
set_option linter.unusedVariables false
set_option linter.unusedSimpArgs false

/-- is x none of the elements 0, .., 2^m - 1? -/
def badB (m x : Int) : Bool := decide (x < 0) || x / 2 ^ m.toNat != 0

set_option maxRecDepth 100000 in
set_option maxHeartbeats 1000000 in
theorem clo42 (m : Int) (hm : m = 8 ∨ m = 16) (x : Int) (b : Addr) (w : World) (hc : w.cell? b = some (.int .i64 m)) : Calls Tryd.prog 42 #[.int .i64 x, .pointer (some b)] w fun e w' => e = .returned (.bool (badB m x)) ∧ w = w' := by
  rcases hm with rfl | rfl
  · go_enter Tryd.func42, Tryd.ntmps42
    go_wp2
    all_goals (go_ret; exact ⟨by simp [badB, *], rfl⟩)
  · go_enter Tryd.func42, Tryd.ntmps42
    go_wp2
    all_goals (go_ret; exact ⟨by simp [badB, *], rfl⟩)

/-- the index of the first element that meets p, or -1 -/
def idxF {α : Type} (p : α → Bool) : List α → Int → Int
  | [], _ => -1
  | x :: xs, i => if p x then i else idxF p xs (i + 1)

theorem idxF_drop {α : Type} (p : α → Bool) (xs : List α) (d : α) (k : Nat) (hk : k < xs.length) (i : Int) : idxF p (xs.drop k) i = if p (xs.getD k d) then i else idxF p (xs.drop (k + 1)) (i + 1) := by
  rw [List.drop_eq_getElem_cons hk, idxF]
  simp [List.getD, List.getElem?_eq_getElem hk]
theorem idxF_any {α : Type} (p : α → Bool) (xs : List α) : ∀ i : Int, 0 ≤ i → (decide (0 ≤ idxF p xs i)) = xs.any p := by
  induction xs with
  | nil => intro i _; simp [idxF]
  | cons x xs ih =>
    intro i hi
    by_cases h : p x = true
    · have e : idxF p (x :: xs) i = i := by simp [idxF, h]
      simp [e, h, hi]
    · have e : idxF p (x :: xs) i = idxF p xs (i + 1) := by simp [idxF, h]
      have := ih (i + 1) (by omega)
      simp only [e, this]
      simp [h]

theorem ret_int {k : IntKind} {a b : Int} (h : a = b) : Ending.returned (.int k a) = .returned (.int k b) := by rw [h]
theorem ret_bool {a b : Bool} (h : a = b) : Ending.returned (.bool a) = .returned (.bool b) := by rw [h]

/-- What holds at the head of the loop's rounds. -/
def AtIdx {α : Type} (p : α → Bool) (xs : List α) (t : Value) : Prop := ∃ k : Nat, k ≤ xs.length ∧ t = .int .i64 k ∧ idxF p xs 0 = idxF p (xs.drop k) k

set_option maxRecDepth 100000 in
set_option maxHeartbeats 1000000 in
theorem idx48 (m : Int) (hm : m = 8 ∨ m = 16) (A : Option Addr) (c : Nat) (xs : List Int) (b : Addr) (w : World) (hr : Kd.C (Kd.int .i64) w A xs.length xs) (hc : w.cell? b = some (.int .i64 m)) :
    Calls Tryd.prog 48 #[.slice A xs.length c, .func (.func 42) #[] #[.pointer (some b)]] w fun e w' => e = .returned (.int .i64 (idxF (badB m) xs 0)) ∧ w = w' := by
  have hmax := Kd.C_max hr
  have HR := Aside0.mk hr
  have HC := Aside0.mk hc
  have HM := Aside0.mk hm
  clear hr hc hm
  go_enter Tryd.func48, Tryd.ntmps48
  go_wp2
  go_loop [8] (fun t => AtIdx (badB m) xs t) (fun t => xs.length - (intOf t).toNat)
  case atStart => exact ⟨0, Nat.zero_le _, rfl, rfl⟩
  case round =>
    obtain ⟨k, hk, rfl, he⟩ := hrel
    have HE := Aside0.mk he
    clear he
    by_cases hlt : k < xs.length
    · obtain ⟨ad, rfl, hx⟩ := Kd.at_int HR.out (k : Int) (by omega) (by omega)
      have hd := idxF_drop (badB m) xs 0 k hlt k
      have HD := Aside0.mk hd
      clear hd
      have hx' : w.cell? (ad.add k) = some (.int .i64 (rd xs k)) := hx
      clear hx
      cases hb : badB m (rd xs k) with
      | true =>
        go_wp2_with (go_at_call 42; refine (clo42 m HM.out _ b _ HC.out).mono ?_; rintro e w' ⟨rfl, rfl⟩)
        go_ret
        exact ⟨ret_int (by rw [HE.out, HD.out, if_pos (by simpa [rd] using hb)]), rfl⟩
      | false =>
        go_wp2_with (go_at_call 42; refine (clo42 m HM.out _ b _ HC.out).mono ?_; rintro e w' ⟨rfl, rfl⟩)
        go_round
        case rel => exact ⟨k + 1, by omega, by go_num, by rw [HE.out, HD.out, if_neg (by simp [rd] at hb; simp [hb])]; simp⟩
        case measure => simp [intOf]; omega
    · have hk' : k = xs.length := by omega
      subst hk'
      go_wp2
      go_ret
      exact ⟨ret_int (by rw [HE.out]; simp [idxF]), rfl⟩

set_option maxRecDepth 100000 in
set_option maxHeartbeats 1000000 in
theorem any41 (m : Int) (hm : m = 8 ∨ m = 16) (A : Option Addr) (c : Nat) (xs : List Int) (b : Addr) (w : World) (hr : Kd.C (Kd.int .i64) w A xs.length xs) (hc : w.cell? b = some (.int .i64 m)) :
    Calls Tryd.prog 41 #[.slice A xs.length c, .func (.func 42) #[] #[.pointer (some b)]] w fun e w' => e = .returned (.bool (xs.any (badB m))) ∧ w = w' := by
  have HR := Aside0.mk hr
  have HC := Aside0.mk hc
  have HM := Aside0.mk hm
  have HI := Aside0.mk (idxF_any (badB m) xs 0 (by omega))
  clear hr hc hm
  go_enter Tryd.func41, Tryd.ntmps41
  go_wp2_with (go_at_call 48; refine (idx48 m HM.out _ _ _ b _ HR.out HC.out).mono ?_; rintro e w' ⟨rfl, rfl⟩)
  go_ret
  exact ⟨ret_bool HI.out, rfl⟩

/-- what field.all answers: m is that of a field, and all numbers are its elements -/
def allF (m : Int) (xs : List Int) : Bool := decide (m = 8 ∨ m = 16) && !xs.any (badB m)

set_option maxRecDepth 100000 in
set_option maxHeartbeats 1000000 in
theorem all31 (m : Int) (A : Option Addr) (c : Nat) (xs : List Int) (w : World) (hff : FF w) (hr : Kd.C (Kd.int .i64) w A xs.length xs) :
    Calls Tryd.prog 31 #[.int .i64 m, .slice A xs.length c] w fun e w' => e = .returned (.bool (allF m xs)) ∧ Below w.heap.size w w' := by
  by_cases hm : m = 8 ∨ m = 16
  · obtain ⟨r, hfm, hr0⟩ : ∃ r, field_modulus.f m = some r ∧ r ≠ 0 := by rcases hm with rfl | rfl <;> exact ⟨_, rfl, by decide⟩
    have hb0 : (r != 0) = true := bne_iff_ne.mpr hr0
    have HA := Aside0.mk (show allF m xs = !xs.any (badB m) by simp [allF, hm])
    have HR := Aside0.mk hr
    have HM := Aside0.mk hm
    have HF := Aside0.mk hff
    have HX := Aside0.mk hfm
    clear hr hm hff hfm hr0
    go_enter Tryd.func31, Tryd.ntmps31
    go_wp2_with (go_at_call 40; refine (field_modulus.calls m r _ (FF.alloc HF.out _) HX.out).mono ?_; rintro e w1 ⟨rfl, hb⟩)
    have hcell : w1.cell? ⟨w.heap.size, 0, none⟩ = some (.int .i64 m) := pw_cell_below hb ((cell_of_row _ _ 0 _ _ _ (heap_alloc_new w _)).trans rfl)
    have hR1 : Kd.C (Kd.int .i64) w1 A xs.length xs := Kd.C_below (Kd.C_alloc HR.out _) hb
    refine (any41 m HM.out _ _ _ _ _ hR1 hcell).mono ?_
    rintro e w2 ⟨rfl, rfl⟩
    have HB := Aside0.mk (below_then (below_alloc (Below.refl w.heap.size w) _) (by simp) hb)
    clear hb hcell hR1
    go_wp2
    go_ret
    exact ⟨ret_bool HA.out.symm, HB.out⟩
  · have hfm : field_modulus.f m = some 0 := by
      unfold field_modulus.f
      rw [if_neg (fun e => hm (.inl e)), if_neg (fun e => hm (.inr e))]
    have HA := Aside0.mk (show allF m xs = false by simp [allF, hm])
    have HF := Aside0.mk hff
    have HX := Aside0.mk hfm
    clear hr hm hff hfm
    go_enter Tryd.func31, Tryd.ntmps31
    go_wp2_with (go_at_call 40; refine (field_modulus.calls m 0 _ (FF.alloc HF.out _) HX.out).mono ?_; rintro e w1 ⟨rfl, hb⟩)
    have HB := Aside0.mk (below_then (below_alloc (Below.refl w.heap.size w) _) (by simp) hb)
    clear hb
    go_ret
    exact ⟨ret_bool HA.out.symm, HB.out⟩

def field_all.f (a0 : Int) (l1 : List Int) : Option Bool := some (allF a0 l1)
theorem field_all.calls (a0 : Int) (A1 : Option Addr) (c1 : Nat) (l1 : List Int) (r : Bool) (w : World) (hff : FF w) (hr1 : Kd.C (Kd.int .i64) w A1 l1.length l1) (_hc1 : l1.length ≤ c1) (h : field_all.f a0 l1 = some r) :
    Calls Tryd.prog 31 #[.int .i64 a0, .slice A1 l1.length c1] w fun e w' => e = .returned (.bool r) ∧ Below w.heap.size w w' := by
  cases h
  exact all31 a0 A1 c1 l1 w hff hr1
end Go.Proofs.YtgmjaiknboafdaaDoor.H

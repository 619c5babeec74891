/- Plain functions that answer as the Go functions do, each with the proof that the machine's call does so. Written by a program of this session (wip/pr.py, around the kit's print.py). -/
import Derived.Test.YtgmjaiknboafdaaDoorP0
import Derived.Test.YtgmjaiknboafdaaDoorHb
namespace Go.Proofs.YtgmjaiknboafdaaDoor.P
open Go.RowKit Go.Proofs.YtgmjaiknboafdaaDoor.H Go.Proofs.YtgmjaiknboafdaaDoorW.PrintWords Go.Proofs.YtgmjaiknboafdaaDoorW.PrintLast Go.Proofs.YtgmjaiknboafdaaDoorW.PrintMore
attribute [local go_sem] max2_int min2_int max_two min_two max_three min_three max_four min_four   -- for this text's walks alone
set_option linter.unusedVariables false
set_option linter.unusedSimpArgs false

/-! ### field_product: function 36 -/
def field_product.l0 : Nat → Int → Int → Int → Int → Int → Int → Option (Int)
  | 0, _, _, _, _, _, _ => none
  | k + 1, x0, x1, x2, x7, x8, x9 => if x9 ≥ 0 then (if 0 ≤ x0 then (if (shr .i64 (wrap64 (x8 * 2)) x0) = 0 then (if 0 ≤ x9 then (if (Go.bits .and .i64 (shr .i64 x2 x9) 1) = 0 then (field_product.l0 k x0 x1 x2 x7 (wrap64 (x8 * 2)) (wrap64 (x9 - 1))) else (field_product.l0 k x0 x1 x2 x7 (Go.bits .xor .i64 (wrap64 (x8 * 2)) x1) (wrap64 (x9 - 1)))) else (none)) else (if 0 ≤ x9 then (if (Go.bits .and .i64 (shr .i64 x2 x9) 1) = 0 then (field_product.l0 k x0 x1 x2 x7 (Go.bits .xor .i64 (wrap64 (x8 * 2)) x7) (wrap64 (x9 - 1))) else (field_product.l0 k x0 x1 x2 x7 (Go.bits .xor .i64 (Go.bits .xor .i64 (wrap64 (x8 * 2)) x7) x1) (wrap64 (x9 - 1)))) else (none))) else (none)) else (some x8)
def field_product.f (k : Nat) (a0 : Int) (a1 : Int) (a2 : Int) : Option (Int) := (field_modulus.f a0).bind fun t101 => (field_product.l0 k a0 a1 a2 t101 0 (wrap64 (a0 - 1)))
theorem field_product.mono_l : ∀ k, (∀ y0 y1 y2 y3 y4 y5, LeO (field_product.l0 k y0 y1 y2 y3 y4 y5) (field_product.l0 (k + 1) y0 y1 y2 y3 y4 y5))
  | 0 => fun _ _ _ _ _ _ r h => by simp [field_product.l0] at h
  | k + 1 => by
    have ih0 := field_product.mono_l k
    · intro y0 y1 y2 y3 y4 y5
      unfold field_product.l0
      repeat' first
      | (with_reducible exact ih0 _ _ _ _ _ _)
      | (with_reducible exact LeO.refl _)
      | (with_reducible exact LeO.none _)
      | (with_reducible refine LeO.ite ?_ ?_)
      | (with_reducible refine LeO.bind ?_ (fun _ => ?_))
      | exact ih0 _ _ _ _ _ _
      | exact LeO.none _
      | refine LeO.ite ?_ ?_
      | refine LeO.bind ?_ (fun _ => ?_)
theorem field_product.mono : ∀ a0 a1 a2 k, LeO (field_product.f k a0 a1 a2) (field_product.f (k + 1) a0 a1 a2) := by
  intro a0 a1 a2 k
  have ih0 := field_product.mono_l k
  unfold field_product.f
  repeat' first
      | (with_reducible exact ih0 _ _ _ _ _ _)
      | (with_reducible exact LeO.refl _)
      | (with_reducible exact LeO.none _)
      | (with_reducible refine LeO.ite ?_ ?_)
      | (with_reducible refine LeO.bind ?_ (fun _ => ?_))
      | exact ih0 _ _ _ _ _ _
      | exact LeO.none _
      | refine LeO.ite ?_ ?_
      | refine LeO.bind ?_ (fun _ => ?_)
set_option maxHeartbeats 8000000 in
set_option maxRecDepth 100000 in
theorem field_product.calls (k : Nat) (a0 : Int) (a1 : Int) (a2 : Int) (r : Int) (w : World) (hff : FF w) (h : field_product.f k a0 a1 a2 = some r) :
    Calls Tryd.prog 36 #[.int .i64 a0, .int .i64 a1, .int .i64 a2] w fun e w' => e = .returned (.int .i64 r) ∧ Below w.heap.size w w' := by
  have HF := Aside0.mk hff
  clear hff
  have HB := Aside0.mk (Below.refl w.heap.size w)
  have H : ((field_modulus.f a0).bind fun t101 => (field_product.l0 k a0 a1 a2 t101 0 (wrap64 (a0 - 1)))) = some r := h
  clear h
  replace H := Option.bind_eq_some_iff.mp H
  obtain ⟨t101, A40, H⟩ := H
  replace H : (field_product.l0 k a0 a1 a2 t101 0 (wrap64 (a0 - 1))) = some r := H
  have A4 := Aside0.mk A40
  clear A40
  have H' := Aside0.mk H
  clear H
  go_enter Tryd.func36, Tryd.ntmps36
  go_wp2_with (first | ((with_reducible refine gate_callee (f := 40) rfl ?_); refine goesL_ (some 11) rfl rfl Tryd.func40 (by kernel_rfl) rfl #[.int .i64 a0] rfl (by (try simp only [List.map_toArray, List.map_cons, List.map_nil]); first | done | rfl | (simp only [List.length_drop, List.length_take]; rfl)) ?_; (with_reducible refine (field_modulus.calls a0 t101 _ ?side1 A4.out).mono ?_); (case side1 => refine FF.below HF.out ?_; repeat (first | (with_reducible first | exact HB.out | apply below_alloc | apply pw_below_drewN | apply below_drew1) | exact HB.out)); rintro e w5 ⟨rfl, hb⟩; refine ⟨_, rfl, ?_⟩; have n0_ := Aside0.mk (below_step (by repeat (first | (with_reducible first | exact HB.out | apply below_alloc | apply pw_below_drewN | apply below_drew1) | exact HB.out)) hb); clear HB; have HB := n0_; clear n0_; (try clear hb); (try clear hb2); (try clear hk); (try clear hi)))
  go_loopg [8, 9] k (fun kq v8 v9 w' => ∃ (x8_1 : Int) (x9_1 : Int), v8 = .int .i64 x8_1 ∧ v9 = .int .i64 x9_1 ∧ Aside0 (field_product.l0 kq a0 a1 a2 t101 x8_1 x9_1 = some r) ∧ Aside0 (kq ≤ k) ∧ Aside0 (Below w.heap.size w w'))
  case atStart => exact ⟨(0), (wrap64 (a0 - 1)), (by first | rfl | (simp; done) | (simp [*]; done)), (by first | rfl | (simp; done) | (simp [*]; done)), H', ⟨Nat.le_refl _⟩, ⟨by repeat (first | (with_reducible first | exact HB.out | apply below_alloc | apply pw_below_drewN | apply below_drew1) | exact HB.out)⟩⟩
  case round =>
    clear H'
    try clear p2
    try clear c3
    try clear c4
    obtain ⟨x8_1, x9_1, rfl, rfl, HA, HK1, HB⟩ := hrel
    cases gk with
    | zero => exact absurd HA.out (by simp [field_product.l0])
    | succ k1 =>
      have H := HA.out
      clear HA
      simp only [field_product.l0] at H
      by_cases c6 : x9_1 ≥ 0
      · rw [if_pos c6] at H
        have c6b0 : decide (0 ≤ x9_1) = true := decide_eq_true c6
        clear c6
        by_cases c7 : 0 ≤ a0
        · rw [if_pos c7] at H
          have c7b0 := eq_true c7
          have c7b1 : decide (0 ≤ a0) = true := decide_eq_true c7
          clear c7
          obtain ⟨ji8, hji8⟩ : ∃ j_ : Int, (shr .i64 (wrap64 (x8_1 * 2)) a0) = j_ := ⟨_, rfl⟩
          replace H : (if (ji8) = 0 then (if 0 ≤ x9_1 then (if (Go.bits .and .i64 (shr .i64 a2 x9_1) 1) = 0 then (field_product.l0 k1 a0 a1 a2 t101 (wrap64 (x8_1 * 2)) (wrap64 (x9_1 - 1))) else (field_product.l0 k1 a0 a1 a2 t101 (Go.bits .xor .i64 (wrap64 (x8_1 * 2)) a1) (wrap64 (x9_1 - 1)))) else (none)) else (if 0 ≤ x9_1 then (if (Go.bits .and .i64 (shr .i64 a2 x9_1) 1) = 0 then (field_product.l0 k1 a0 a1 a2 t101 (Go.bits .xor .i64 (wrap64 (x8_1 * 2)) t101) (wrap64 (x9_1 - 1))) else (field_product.l0 k1 a0 a1 a2 t101 (Go.bits .xor .i64 (Go.bits .xor .i64 (wrap64 (x8_1 * 2)) t101) a1) (wrap64 (x9_1 - 1)))) else (none))) = some r := by first | (rw [hji8] at H; exact H) | (simp only [hji8] at H ⊢; exact H)
          have hji8_ : ((wrap64 (x8_1 * 2)) / 2 ^ min a0.toNat 64) = ji8 := hji8
          have hji8z : a0 ≤ 64 → ((wrap64 (x8_1 * 2)) / 2 ^ a0.toNat) = ji8 := shr_small hji8
          by_cases c9 : (ji8) = 0
          · rw [if_pos c9] at H
            have c9b0 : ((ji8) == 0) = true := beq_iff_eq.mpr c9
            have c9b1 : ((ji8) != 0) = false := bne_eq_false_iff_eq.mpr c9
            clear c9
            by_cases c10 : 0 ≤ x9_1
            · rw [if_pos c10] at H
              have c10b0 := eq_true c10
              have c10b1 : decide (0 ≤ x9_1) = true := decide_eq_true c10
              clear c10
              obtain ⟨ji11, hji11⟩ : ∃ j_ : Int, (shr .i64 a2 x9_1) = j_ := ⟨_, rfl⟩
              replace H : (if (Go.bits .and .i64 (ji11) 1) = 0 then (field_product.l0 k1 a0 a1 a2 t101 (wrap64 (x8_1 * 2)) (wrap64 (x9_1 - 1))) else (field_product.l0 k1 a0 a1 a2 t101 (Go.bits .xor .i64 (wrap64 (x8_1 * 2)) a1) (wrap64 (x9_1 - 1)))) = some r := by first | (rw [hji11] at H; exact H) | (simp only [hji11] at H ⊢; exact H)
              have hji11_ : (a2 / 2 ^ min x9_1.toNat 64) = ji11 := hji11
              have hji11z : x9_1 ≤ 64 → (a2 / 2 ^ x9_1.toNat) = ji11 := shr_small hji11
              by_cases c12 : (Go.bits .and .i64 (ji11) 1) = 0
              · rw [if_pos c12] at H
                have c12b0 : ((Go.bits .and .i64 (ji11) 1) == 0) = true := beq_iff_eq.mpr c12
                have c12b1 : ((Go.bits .and .i64 (ji11) 1) != 0) = false := bne_eq_false_iff_eq.mpr c12
                clear c12
                have H' := Aside0.mk H
                clear H
                go_wp2
                go_roundg k1
                case measure => have := HK1.out; omega
                case rel => exact ⟨(wrap64 (x8_1 * 2)), (wrap64 (x9_1 - 1)), (by first | rfl | (simp; done) | (simp [*]; done)), (by first | rfl | (simp; done) | (simp [*]; done)), H', ⟨by have := HK1.out; omega⟩, ⟨by repeat (first | (with_reducible first | exact HB.out | apply below_alloc | apply pw_below_drewN | apply below_drew1) | exact HB.out)⟩⟩
              · rw [if_neg c12] at H
                have c12b0 : ((Go.bits .and .i64 (ji11) 1) == 0) = false := beq_eq_false_iff_ne.mpr c12
                have c12b1 : ((Go.bits .and .i64 (ji11) 1) != 0) = true := bne_iff_ne.mpr c12
                have H' := Aside0.mk H
                clear H
                go_wp2
                go_roundg k1
                case measure => have := HK1.out; omega
                case rel => exact ⟨(Go.bits .xor .i64 (wrap64 (x8_1 * 2)) a1), (wrap64 (x9_1 - 1)), (by first | rfl | (simp; done) | (simp [*]; done)), (by first | rfl | (simp; done) | (simp [*]; done)), H', ⟨by have := HK1.out; omega⟩, ⟨by repeat (first | (with_reducible first | exact HB.out | apply below_alloc | apply pw_below_drewN | apply below_drew1) | exact HB.out)⟩⟩
            · rw [if_neg c10] at H
              exact absurd H (by simp)
          · rw [if_neg c9] at H
            have c9b0 : ((ji8) == 0) = false := beq_eq_false_iff_ne.mpr c9
            have c9b1 : ((ji8) != 0) = true := bne_iff_ne.mpr c9
            by_cases c13 : 0 ≤ x9_1
            · rw [if_pos c13] at H
              have c13b0 := eq_true c13
              have c13b1 : decide (0 ≤ x9_1) = true := decide_eq_true c13
              clear c13
              obtain ⟨ji14, hji14⟩ : ∃ j_ : Int, (shr .i64 a2 x9_1) = j_ := ⟨_, rfl⟩
              replace H : (if (Go.bits .and .i64 (ji14) 1) = 0 then (field_product.l0 k1 a0 a1 a2 t101 (Go.bits .xor .i64 (wrap64 (x8_1 * 2)) t101) (wrap64 (x9_1 - 1))) else (field_product.l0 k1 a0 a1 a2 t101 (Go.bits .xor .i64 (Go.bits .xor .i64 (wrap64 (x8_1 * 2)) t101) a1) (wrap64 (x9_1 - 1)))) = some r := by first | (rw [hji14] at H; exact H) | (simp only [hji14] at H ⊢; exact H)
              have hji14_ : (a2 / 2 ^ min x9_1.toNat 64) = ji14 := hji14
              have hji14z : x9_1 ≤ 64 → (a2 / 2 ^ x9_1.toNat) = ji14 := shr_small hji14
              by_cases c15 : (Go.bits .and .i64 (ji14) 1) = 0
              · rw [if_pos c15] at H
                have c15b0 : ((Go.bits .and .i64 (ji14) 1) == 0) = true := beq_iff_eq.mpr c15
                have c15b1 : ((Go.bits .and .i64 (ji14) 1) != 0) = false := bne_eq_false_iff_eq.mpr c15
                clear c15
                have H' := Aside0.mk H
                clear H
                go_wp2
                go_roundg k1
                case measure => have := HK1.out; omega
                case rel => exact ⟨(Go.bits .xor .i64 (wrap64 (x8_1 * 2)) t101), (wrap64 (x9_1 - 1)), (by first | rfl | (simp; done) | (simp [*]; done)), (by first | rfl | (simp; done) | (simp [*]; done)), H', ⟨by have := HK1.out; omega⟩, ⟨by repeat (first | (with_reducible first | exact HB.out | apply below_alloc | apply pw_below_drewN | apply below_drew1) | exact HB.out)⟩⟩
              · rw [if_neg c15] at H
                have c15b0 : ((Go.bits .and .i64 (ji14) 1) == 0) = false := beq_eq_false_iff_ne.mpr c15
                have c15b1 : ((Go.bits .and .i64 (ji14) 1) != 0) = true := bne_iff_ne.mpr c15
                have H' := Aside0.mk H
                clear H
                go_wp2
                go_roundg k1
                case measure => have := HK1.out; omega
                case rel => exact ⟨(Go.bits .xor .i64 (Go.bits .xor .i64 (wrap64 (x8_1 * 2)) t101) a1), (wrap64 (x9_1 - 1)), (by first | rfl | (simp; done) | (simp [*]; done)), (by first | rfl | (simp; done) | (simp [*]; done)), H', ⟨by have := HK1.out; omega⟩, ⟨by repeat (first | (with_reducible first | exact HB.out | apply below_alloc | apply pw_below_drewN | apply below_drew1) | exact HB.out)⟩⟩
            · rw [if_neg c13] at H
              exact absurd H (by simp)
        · rw [if_neg c7] at H
          exact absurd H (by simp)
      · rw [if_neg c6] at H
        have c6b0 : decide (0 ≤ x9_1) = false := decide_eq_false c6
        clear c6
        obtain rfl := Option.some.inj H
        go_wp2
        go_ret
        exact ⟨by first | rfl | (simp [errW_none, errW_some] <;> rfl) | (simp [*, errW_none, errW_some] <;> rfl), by repeat (first | (with_reducible first | exact HB.out | apply below_alloc | apply pw_below_drewN | apply below_drew1) | exact HB.out)⟩

end Go.Proofs.YtgmjaiknboafdaaDoor.P

/- Plain functions that answer as the Go functions do, each with the proof that the machine's call does so. Written by a program of this session (wip/pr.py, around the kit's print.py). -/
import Derived.Test.YtgmjaiknboafdaaDoorP0
import Derived.Test.YtgmjaiknboafdaaDoorP1
import Derived.Test.YtgmjaiknboafdaaDoorP3
import Derived.Test.YtgmjaiknboafdaaDoorHb
namespace Go.Proofs.YtgmjaiknboafdaaDoor.P
open Go.RowKit Go.Proofs.YtgmjaiknboafdaaDoor.H Go.Proofs.YtgmjaiknboafdaaDoorW.PrintWords Go.Proofs.YtgmjaiknboafdaaDoorW.PrintLast Go.Proofs.YtgmjaiknboafdaaDoorW.PrintMore
attribute [local go_sem] max2_int min2_int max_two min_two max_three min_three max_four min_four   -- for this text's walks alone
set_option linter.unusedVariables false
set_option linter.unusedSimpArgs false

/-! ### field_Add: function 18 -/
def field_Add.f (a0 : Int) (a1 : Int) (a2 : Int) : Option (Int × Int) := (field_all.f a0 (([a1, a2] : List Int))).bind fun t234 => (if t234 = true then (some (Go.bits .xor .i64 a1 a2, 0)) else (some (0, 1)))
set_option maxHeartbeats 8000000 in
set_option maxRecDepth 100000 in
theorem field_Add.calls (a0 : Int) (a1 : Int) (a2 : Int) (r1 : Int) (r2 : Int) (w : World) (hff : FF w) (h : field_Add.f a0 a1 a2 = some (r1, r2)) :
    Calls Tryd.prog 18 #[.int .i64 a0, .int .i64 a1, .int .i64 a2] w fun e w' => e = .returned (.tuple #[.int .i64 r1, .int .i64 r2]) ∧ Below w.heap.size w w' := by
  have HF := Aside0.mk hff
  clear hff
  have HB := Aside0.mk (Below.refl w.heap.size w)
  have H : ((field_all.f a0 (([a1, a2] : List Int))).bind fun t234 => (if t234 = true then (some (Go.bits .xor .i64 a1 a2, 0)) else (some (0, 1)))) = some (r1, r2) := h
  clear h
  obtain ⟨y231, hy231⟩ : ∃ y_ : List Int, y_ = (([a1, a2] : List Int)) := ⟨_, rfl⟩
  replace H : ((field_all.f a0 y231).bind fun t234 => (if t234 = true then (some (Go.bits .xor .i64 a1 a2, 0)) else (some (0, 1)))) = some (r1, r2) := by first | (rw [hy231]; with_reducible exact H) | (have H2_ := (Option.bind_some _ _).symm.trans H; rw [hy231]; with_reducible exact H2_) | (have H2_ := (Option.bind_some _ _).symm.trans H; with_reducible exact H2_) | with_reducible exact H | (rw [hy231]; exact H) | exact H
  have Ny231 := Aside0.mk hy231
  clear hy231
  replace H := Option.bind_eq_some_iff.mp H
  obtain ⟨t234, A40, H⟩ := H
  replace H : (if t234 = true then (some (Go.bits .xor .i64 a1 a2, 0)) else (some (0, 1))) = some (r1, r2) := H
  have A4 := Aside0.mk A40
  clear A40
  by_cases c5 : t234 = true
  · subst c5
    have H1 : (some (Go.bits .xor .i64 a1 a2, 0)) = some (r1, r2) := by rw [if_pos rfl] at H; exact H
    clear H
    have H := H1
    clear H1
    simp only [Option.some.injEq, Prod.mk.injEq] at H
    obtain ⟨rfl, rfl⟩ := H
    go_enter Tryd.func18, Tryd.ntmps18
    go_wp2_with (first | ((with_reducible refine gate_dst (N := 11) rfl ?_); refine Kd.R_lit (Kd.int .i64) _ 3 ?hg (N := 11) ?hd (xs := ([a1, a2] : List Int)) (inner := [.int .i64 a1, .int .i64 a2]) (ok := fun _ => True) (okp := fun _ => True) ?hr ?hp (fun _ hk => hk) trivial (Below.refl _ _) (Nat.le_refl _) (by simp) ?_; (case hd => rfl); (case hg => rfl); (case hr => first | (go_simp; done) | (go_simp; rfl)); (case hp => exact (Reps.one (show Kd.M (Kd.int .i64) _ _ _ a1 [.int .i64 a1] from rfl) (Reps.one (show Kd.M (Kd.int .i64) _ _ _ a2 [.int .i64 a2] from rfl) (Reps.none _ _)))); intro v232 w6 ho7 hb hg_ hnew_; clear hg_ hnew_; (first | rw [← Ny231.out] at ho7 | (simp only [Int.reduceToNat] at ho7; rw [← Ny231.out] at ho7)); have n0_ := Aside0.mk (Kd.R_lower ho7 (below_size (by repeat (first | (with_reducible first | exact HB.out | apply below_alloc | apply pw_below_drewN | apply below_drew1) | exact HB.out)))); have n1_ := Aside0.mk (below_step (by repeat (first | (with_reducible first | exact HB.out | apply below_alloc | apply pw_below_drewN | apply below_drew1) | exact HB.out)) hb); clear HB; have HO233 := n0_; have HB := n1_; clear n0_ n1_; clear hb ho7; obtain ⟨Ao8, co8, eo8⟩ := Kd.R_slice HO233.out; subst eo8) | ((with_reducible refine gate_callee (f := 31) rfl ?_); refine goesL_ (some 12) rfl rfl Tryd.func31 (by kernel_rfl) rfl #[.int .i64 a0, .slice Ao8 y231.length co8] rfl (by (try simp only [List.map_toArray, List.map_cons, List.map_nil]); first | done | rfl | (simp only [List.length_drop, List.length_take]; rfl)) ?_; (with_reducible refine (field_all.calls a0 _ _ y231 true _ ?side1 ?side2 ?side3 A4.out).mono ?_); (case side1 => refine FF.below HF.out ?_; repeat (first | (with_reducible first | exact HB.out | apply below_alloc | apply pw_below_drewN | apply below_drew1) | exact HB.out)); (case side2 => repeat (first | exact (Kd.R_reads' HO233.out).2.2 | (with_reducible refine Kd.C_alloc ?_ _) | (with_reducible refine Kd.C_drewN ?_ _) | (with_reducible refine Kd.C_drew ?_))); (case side3 => exact (Kd.R_reads' HO233.out).2.1); rintro e w9 ⟨rfl, hb⟩; refine ⟨_, rfl, ?_⟩; have n0_ := Aside0.mk (Kd.R_below (by (with_reducible repeat (first | apply Kd.R_alloc | apply Kd.R_drewN | apply Kd.R_drew)); exact HO233.out) hb); have n1_ := Aside0.mk (below_step (by repeat (first | (with_reducible first | exact HB.out | apply below_alloc | apply pw_below_drewN | apply below_drew1) | exact HB.out)) hb); clear HO233; clear HB; have HO233 := n0_; have HB := n1_; clear n0_ n1_; (try clear hb); (try clear hb2); (try clear hk); (try clear hi)))
    go_ret2
    exact ⟨by first | rfl | (simp [errW_none, errW_some] <;> rfl) | (simp [*, errW_none, errW_some] <;> rfl), by repeat (first | (with_reducible first | exact HB.out | apply below_alloc | apply pw_below_drewN | apply below_drew1) | exact HB.out)⟩
  · replace c5 := Bool.eq_false_iff.mpr c5
    subst c5
    have H1 : (some (0, 1)) = some (r1, r2) := by rw [if_neg (show ¬ (false = true) by decide)] at H; exact H
    clear H
    have H := H1
    clear H1
    simp only [Option.some.injEq, Prod.mk.injEq] at H
    obtain ⟨rfl, rfl⟩ := H
    go_enter Tryd.func18, Tryd.ntmps18
    go_wp2_with (first | ((with_reducible refine gate_dst (N := 11) rfl ?_); refine Kd.R_lit (Kd.int .i64) _ 3 ?hg (N := 11) ?hd (xs := ([a1, a2] : List Int)) (inner := [.int .i64 a1, .int .i64 a2]) (ok := fun _ => True) (okp := fun _ => True) ?hr ?hp (fun _ hk => hk) trivial (Below.refl _ _) (Nat.le_refl _) (by simp) ?_; (case hd => rfl); (case hg => rfl); (case hr => first | (go_simp; done) | (go_simp; rfl)); (case hp => exact (Reps.one (show Kd.M (Kd.int .i64) _ _ _ a1 [.int .i64 a1] from rfl) (Reps.one (show Kd.M (Kd.int .i64) _ _ _ a2 [.int .i64 a2] from rfl) (Reps.none _ _)))); intro v232 w10 ho11 hb hg_ hnew_; clear hg_ hnew_; (first | rw [← Ny231.out] at ho11 | (simp only [Int.reduceToNat] at ho11; rw [← Ny231.out] at ho11)); have n0_ := Aside0.mk (Kd.R_lower ho11 (below_size (by repeat (first | (with_reducible first | exact HB.out | apply below_alloc | apply pw_below_drewN | apply below_drew1) | exact HB.out)))); have n1_ := Aside0.mk (below_step (by repeat (first | (with_reducible first | exact HB.out | apply below_alloc | apply pw_below_drewN | apply below_drew1) | exact HB.out)) hb); clear HB; have HO233 := n0_; have HB := n1_; clear n0_ n1_; clear hb ho11; obtain ⟨Ao12, co12, eo12⟩ := Kd.R_slice HO233.out; subst eo12) | ((with_reducible refine gate_callee (f := 31) rfl ?_); refine goesL_ (some 12) rfl rfl Tryd.func31 (by kernel_rfl) rfl #[.int .i64 a0, .slice Ao12 y231.length co12] rfl (by (try simp only [List.map_toArray, List.map_cons, List.map_nil]); first | done | rfl | (simp only [List.length_drop, List.length_take]; rfl)) ?_; (with_reducible refine (field_all.calls a0 _ _ y231 false _ ?side1 ?side2 ?side3 A4.out).mono ?_); (case side1 => refine FF.below HF.out ?_; repeat (first | (with_reducible first | exact HB.out | apply below_alloc | apply pw_below_drewN | apply below_drew1) | exact HB.out)); (case side2 => repeat (first | exact (Kd.R_reads' HO233.out).2.2 | (with_reducible refine Kd.C_alloc ?_ _) | (with_reducible refine Kd.C_drewN ?_ _) | (with_reducible refine Kd.C_drew ?_))); (case side3 => exact (Kd.R_reads' HO233.out).2.1); rintro e w13 ⟨rfl, hb⟩; refine ⟨_, rfl, ?_⟩; have n0_ := Aside0.mk (Kd.R_below (by (with_reducible repeat (first | apply Kd.R_alloc | apply Kd.R_drewN | apply Kd.R_drew)); exact HO233.out) hb); have n1_ := Aside0.mk (below_step (by repeat (first | (with_reducible first | exact HB.out | apply below_alloc | apply pw_below_drewN | apply below_drew1) | exact HB.out)) hb); clear HO233; clear HB; have HO233 := n0_; have HB := n1_; clear n0_ n1_; (try clear hb); (try clear hb2); (try clear hk); (try clear hi)))
    go_ret2
    exact ⟨by first | rfl | (simp [errW_none, errW_some] <;> rfl) | (simp [*, errW_none, errW_some] <;> rfl), by repeat (first | (with_reducible first | exact HB.out | apply below_alloc | apply pw_below_drewN | apply below_drew1) | exact HB.out)⟩

/-! ### field_Div: function 19 -/
def field_Div.f (k : Nat) (a0 : Int) (a1 : Int) (a2 : Int) : Option (Int × Int) := (field_all.f a0 (([a1, a2] : List Int))).bind fun t238 => (if t238 = true then (if a2 = 0 then (some (0, 12)) else ((field_inverse.f k a0 a2).bind fun t239 => ((field_product.f k a0 a1 t239).bind fun t240 => (some (t240, 0))))) else (some (0, 1)))
theorem field_Div.mono : ∀ a0 a1 a2 k, LeO (field_Div.f k a0 a1 a2) (field_Div.f (k + 1) a0 a1 a2) := by
  intro a0 a1 a2 k
  unfold field_Div.f
  repeat' first
      | (with_reducible exact field_inverse.mono _ _ _)
      | (with_reducible exact field_product.mono _ _ _ _)
      | (with_reducible exact LeO.refl _)
      | (with_reducible exact LeO.none _)
      | (with_reducible refine LeO.ite ?_ ?_)
      | (with_reducible refine LeO.bind ?_ (fun _ => ?_))
      | exact field_inverse.mono _ _ _
      | exact field_product.mono _ _ _ _
      | exact LeO.none _
      | refine LeO.ite ?_ ?_
      | refine LeO.bind ?_ (fun _ => ?_)
set_option maxHeartbeats 8000000 in
set_option maxRecDepth 100000 in
theorem field_Div.calls (k : Nat) (a0 : Int) (a1 : Int) (a2 : Int) (r1 : Int) (r2 : Int) (w : World) (hff : FF w) (h : field_Div.f k a0 a1 a2 = some (r1, r2)) :
    Calls Tryd.prog 19 #[.int .i64 a0, .int .i64 a1, .int .i64 a2] w fun e w' => e = .returned (.tuple #[.int .i64 r1, .int .i64 r2]) ∧ Below w.heap.size w w' := by
  have HF := Aside0.mk hff
  clear hff
  have HB := Aside0.mk (Below.refl w.heap.size w)
  have H : ((field_all.f a0 (([a1, a2] : List Int))).bind fun t238 => (if t238 = true then (if a2 = 0 then (some (0, 12)) else ((field_inverse.f k a0 a2).bind fun t239 => ((field_product.f k a0 a1 t239).bind fun t240 => (some (t240, 0))))) else (some (0, 1)))) = some (r1, r2) := h
  clear h
  obtain ⟨y235, hy235⟩ : ∃ y_ : List Int, y_ = (([a1, a2] : List Int)) := ⟨_, rfl⟩
  replace H : ((field_all.f a0 y235).bind fun t238 => (if t238 = true then (if a2 = 0 then (some (0, 12)) else ((field_inverse.f k a0 a2).bind fun t239 => ((field_product.f k a0 a1 t239).bind fun t240 => (some (t240, 0))))) else (some (0, 1)))) = some (r1, r2) := by first | (rw [hy235]; with_reducible exact H) | (have H2_ := (Option.bind_some _ _).symm.trans H; rw [hy235]; with_reducible exact H2_) | (have H2_ := (Option.bind_some _ _).symm.trans H; with_reducible exact H2_) | with_reducible exact H | (rw [hy235]; exact H) | exact H
  have Ny235 := Aside0.mk hy235
  clear hy235
  replace H := Option.bind_eq_some_iff.mp H
  obtain ⟨t238, A40, H⟩ := H
  replace H : (if t238 = true then (if a2 = 0 then (some (0, 12)) else ((field_inverse.f k a0 a2).bind fun t239 => ((field_product.f k a0 a1 t239).bind fun t240 => (some (t240, 0))))) else (some (0, 1))) = some (r1, r2) := H
  have A4 := Aside0.mk A40
  clear A40
  by_cases c5 : t238 = true
  · subst c5
    have H1 : (if a2 = 0 then (some (0, 12)) else ((field_inverse.f k a0 a2).bind fun t239 => ((field_product.f k a0 a1 t239).bind fun t240 => (some (t240, 0))))) = some (r1, r2) := by rw [if_pos rfl] at H; exact H
    clear H
    have H := H1
    clear H1
    by_cases c6 : a2 = 0
    · rw [if_pos c6] at H
      have c6b0 : (a2 == 0) = true := beq_iff_eq.mpr c6
      have c6b1 : (a2 != 0) = false := bne_eq_false_iff_eq.mpr c6
      clear c6
      simp only [Option.some.injEq, Prod.mk.injEq] at H
      obtain ⟨rfl, rfl⟩ := H
      go_enter Tryd.func19, Tryd.ntmps19
      go_wp2_with (first | ((with_reducible refine gate_dst (N := 12) rfl ?_); refine Kd.R_lit (Kd.int .i64) _ 3 ?hg (N := 12) ?hd (xs := ([a1, a2] : List Int)) (inner := [.int .i64 a1, .int .i64 a2]) (ok := fun _ => True) (okp := fun _ => True) ?hr ?hp (fun _ hk => hk) trivial (Below.refl _ _) (Nat.le_refl _) (by simp) ?_; (case hd => rfl); (case hg => rfl); (case hr => first | (go_simp; done) | (go_simp; rfl)); (case hp => exact (Reps.one (show Kd.M (Kd.int .i64) _ _ _ a1 [.int .i64 a1] from rfl) (Reps.one (show Kd.M (Kd.int .i64) _ _ _ a2 [.int .i64 a2] from rfl) (Reps.none _ _)))); intro v236 w7 ho8 hb hg_ hnew_; clear hg_ hnew_; (first | rw [← Ny235.out] at ho8 | (simp only [Int.reduceToNat] at ho8; rw [← Ny235.out] at ho8)); have n0_ := Aside0.mk (Kd.R_lower ho8 (below_size (by repeat (first | (with_reducible first | exact HB.out | apply below_alloc | apply pw_below_drewN | apply below_drew1) | exact HB.out)))); have n1_ := Aside0.mk (below_step (by repeat (first | (with_reducible first | exact HB.out | apply below_alloc | apply pw_below_drewN | apply below_drew1) | exact HB.out)) hb); clear HB; have HO237 := n0_; have HB := n1_; clear n0_ n1_; clear hb ho8; obtain ⟨Ao9, co9, eo9⟩ := Kd.R_slice HO237.out; subst eo9) | ((with_reducible refine gate_callee (f := 31) rfl ?_); refine goesL_ (some 13) rfl rfl Tryd.func31 (by kernel_rfl) rfl #[.int .i64 a0, .slice Ao9 y235.length co9] rfl (by (try simp only [List.map_toArray, List.map_cons, List.map_nil]); first | done | rfl | (simp only [List.length_drop, List.length_take]; rfl)) ?_; (with_reducible refine (field_all.calls a0 _ _ y235 true _ ?side1 ?side2 ?side3 A4.out).mono ?_); (case side1 => refine FF.below HF.out ?_; repeat (first | (with_reducible first | exact HB.out | apply below_alloc | apply pw_below_drewN | apply below_drew1) | exact HB.out)); (case side2 => repeat (first | exact (Kd.R_reads' HO237.out).2.2 | (with_reducible refine Kd.C_alloc ?_ _) | (with_reducible refine Kd.C_drewN ?_ _) | (with_reducible refine Kd.C_drew ?_))); (case side3 => exact (Kd.R_reads' HO237.out).2.1); rintro e w10 ⟨rfl, hb⟩; refine ⟨_, rfl, ?_⟩; have n0_ := Aside0.mk (Kd.R_below (by (with_reducible repeat (first | apply Kd.R_alloc | apply Kd.R_drewN | apply Kd.R_drew)); exact HO237.out) hb); have n1_ := Aside0.mk (below_step (by repeat (first | (with_reducible first | exact HB.out | apply below_alloc | apply pw_below_drewN | apply below_drew1) | exact HB.out)) hb); clear HO237; clear HB; have HO237 := n0_; have HB := n1_; clear n0_ n1_; (try clear hb); (try clear hb2); (try clear hk); (try clear hi)))
      go_ret2
      exact ⟨by first | rfl | (simp [errW_none, errW_some] <;> rfl) | (simp [*, errW_none, errW_some] <;> rfl), by repeat (first | (with_reducible first | exact HB.out | apply below_alloc | apply pw_below_drewN | apply below_drew1) | exact HB.out)⟩
    · rw [if_neg c6] at H
      have c6b0 : (a2 == 0) = false := beq_eq_false_iff_ne.mpr c6
      have c6b1 : (a2 != 0) = true := bne_iff_ne.mpr c6
      replace H := Option.bind_eq_some_iff.mp H
      obtain ⟨t239, A110, H⟩ := H
      replace H : ((field_product.f k a0 a1 t239).bind fun t240 => (some (t240, 0))) = some (r1, r2) := H
      have A11 := Aside0.mk A110
      clear A110
      replace H := Option.bind_eq_some_iff.mp H
      obtain ⟨t240, A120, H⟩ := H
      replace H : (some (t240, 0)) = some (r1, r2) := H
      have A12 := Aside0.mk A120
      clear A120
      simp only [Option.some.injEq, Prod.mk.injEq] at H
      obtain ⟨rfl, rfl⟩ := H
      go_enter Tryd.func19, Tryd.ntmps19
      go_wp2_with (first | ((with_reducible refine gate_dst (N := 12) rfl ?_); refine Kd.R_lit (Kd.int .i64) _ 3 ?hg (N := 12) ?hd (xs := ([a1, a2] : List Int)) (inner := [.int .i64 a1, .int .i64 a2]) (ok := fun _ => True) (okp := fun _ => True) ?hr ?hp (fun _ hk => hk) trivial (Below.refl _ _) (Nat.le_refl _) (by simp) ?_; (case hd => rfl); (case hg => rfl); (case hr => first | (go_simp; done) | (go_simp; rfl)); (case hp => exact (Reps.one (show Kd.M (Kd.int .i64) _ _ _ a1 [.int .i64 a1] from rfl) (Reps.one (show Kd.M (Kd.int .i64) _ _ _ a2 [.int .i64 a2] from rfl) (Reps.none _ _)))); intro v236 w13 ho14 hb hg_ hnew_; clear hg_ hnew_; (first | rw [← Ny235.out] at ho14 | (simp only [Int.reduceToNat] at ho14; rw [← Ny235.out] at ho14)); have n0_ := Aside0.mk (Kd.R_lower ho14 (below_size (by repeat (first | (with_reducible first | exact HB.out | apply below_alloc | apply pw_below_drewN | apply below_drew1) | exact HB.out)))); have n1_ := Aside0.mk (below_step (by repeat (first | (with_reducible first | exact HB.out | apply below_alloc | apply pw_below_drewN | apply below_drew1) | exact HB.out)) hb); clear HB; have HO237 := n0_; have HB := n1_; clear n0_ n1_; clear hb ho14; obtain ⟨Ao15, co15, eo15⟩ := Kd.R_slice HO237.out; subst eo15) | ((with_reducible refine gate_callee (f := 31) rfl ?_); refine goesL_ (some 13) rfl rfl Tryd.func31 (by kernel_rfl) rfl #[.int .i64 a0, .slice Ao15 y235.length co15] rfl (by (try simp only [List.map_toArray, List.map_cons, List.map_nil]); first | done | rfl | (simp only [List.length_drop, List.length_take]; rfl)) ?_; (with_reducible refine (field_all.calls a0 _ _ y235 true _ ?side1 ?side2 ?side3 A4.out).mono ?_); (case side1 => refine FF.below HF.out ?_; repeat (first | (with_reducible first | exact HB.out | apply below_alloc | apply pw_below_drewN | apply below_drew1) | exact HB.out)); (case side2 => repeat (first | exact (Kd.R_reads' HO237.out).2.2 | (with_reducible refine Kd.C_alloc ?_ _) | (with_reducible refine Kd.C_drewN ?_ _) | (with_reducible refine Kd.C_drew ?_))); (case side3 => exact (Kd.R_reads' HO237.out).2.1); rintro e w16 ⟨rfl, hb⟩; refine ⟨_, rfl, ?_⟩; have n0_ := Aside0.mk (Kd.R_below (by (with_reducible repeat (first | apply Kd.R_alloc | apply Kd.R_drewN | apply Kd.R_drew)); exact HO237.out) hb); have n1_ := Aside0.mk (below_step (by repeat (first | (with_reducible first | exact HB.out | apply below_alloc | apply pw_below_drewN | apply below_drew1) | exact HB.out)) hb); clear HO237; clear HB; have HO237 := n0_; have HB := n1_; clear n0_ n1_; (try clear hb); (try clear hb2); (try clear hk); (try clear hi)) | ((with_reducible refine gate_callee (f := 37) rfl ?_); refine goesL_ (some 22) rfl rfl Tryd.func37 (by kernel_rfl) rfl #[.int .i64 a0, .int .i64 a2] rfl (by (try simp only [List.map_toArray, List.map_cons, List.map_nil]); first | done | rfl | (simp only [List.length_drop, List.length_take]; rfl)) ?_; (with_reducible refine (field_inverse.calls k a0 a2 t239 _ ?side1 A11.out).mono ?_); (case side1 => refine FF.below HF.out ?_; repeat (first | (with_reducible first | exact HB.out | apply below_alloc | apply pw_below_drewN | apply below_drew1) | exact HB.out)); rintro e w17 ⟨rfl, hb⟩; refine ⟨_, rfl, ?_⟩; have n0_ := Aside0.mk (Kd.R_below (by (with_reducible repeat (first | apply Kd.R_alloc | apply Kd.R_drewN | apply Kd.R_drew)); exact HO237.out) hb); have n1_ := Aside0.mk (below_step (by repeat (first | (with_reducible first | exact HB.out | apply below_alloc | apply pw_below_drewN | apply below_drew1) | exact HB.out)) hb); clear HO237; clear HB; have HO237 := n0_; have HB := n1_; clear n0_ n1_; (try clear hb); (try clear hb2); (try clear hk); (try clear hi)) | ((with_reducible refine gate_callee (f := 36) rfl ?_); refine goesL_ (some 23) rfl rfl Tryd.func36 (by kernel_rfl) rfl #[.int .i64 a0, .int .i64 a1, .int .i64 t239] rfl (by (try simp only [List.map_toArray, List.map_cons, List.map_nil]); first | done | rfl | (simp only [List.length_drop, List.length_take]; rfl)) ?_; (with_reducible refine (field_product.calls k a0 a1 t239 t240 _ ?side1 A12.out).mono ?_); (case side1 => refine FF.below HF.out ?_; repeat (first | (with_reducible first | exact HB.out | apply below_alloc | apply pw_below_drewN | apply below_drew1) | exact HB.out)); rintro e w18 ⟨rfl, hb⟩; refine ⟨_, rfl, ?_⟩; have n0_ := Aside0.mk (Kd.R_below (by (with_reducible repeat (first | apply Kd.R_alloc | apply Kd.R_drewN | apply Kd.R_drew)); exact HO237.out) hb); have n1_ := Aside0.mk (below_step (by repeat (first | (with_reducible first | exact HB.out | apply below_alloc | apply pw_below_drewN | apply below_drew1) | exact HB.out)) hb); clear HO237; clear HB; have HO237 := n0_; have HB := n1_; clear n0_ n1_; (try clear hb); (try clear hb2); (try clear hk); (try clear hi)))
      go_ret2
      exact ⟨by first | rfl | (simp [errW_none, errW_some] <;> rfl) | (simp [*, errW_none, errW_some] <;> rfl), by repeat (first | (with_reducible first | exact HB.out | apply below_alloc | apply pw_below_drewN | apply below_drew1) | exact HB.out)⟩
  · replace c5 := Bool.eq_false_iff.mpr c5
    subst c5
    have H1 : (some (0, 1)) = some (r1, r2) := by rw [if_neg (show ¬ (false = true) by decide)] at H; exact H
    clear H
    have H := H1
    clear H1
    simp only [Option.some.injEq, Prod.mk.injEq] at H
    obtain ⟨rfl, rfl⟩ := H
    go_enter Tryd.func19, Tryd.ntmps19
    go_wp2_with (first | ((with_reducible refine gate_dst (N := 12) rfl ?_); refine Kd.R_lit (Kd.int .i64) _ 3 ?hg (N := 12) ?hd (xs := ([a1, a2] : List Int)) (inner := [.int .i64 a1, .int .i64 a2]) (ok := fun _ => True) (okp := fun _ => True) ?hr ?hp (fun _ hk => hk) trivial (Below.refl _ _) (Nat.le_refl _) (by simp) ?_; (case hd => rfl); (case hg => rfl); (case hr => first | (go_simp; done) | (go_simp; rfl)); (case hp => exact (Reps.one (show Kd.M (Kd.int .i64) _ _ _ a1 [.int .i64 a1] from rfl) (Reps.one (show Kd.M (Kd.int .i64) _ _ _ a2 [.int .i64 a2] from rfl) (Reps.none _ _)))); intro v236 w19 ho20 hb hg_ hnew_; clear hg_ hnew_; (first | rw [← Ny235.out] at ho20 | (simp only [Int.reduceToNat] at ho20; rw [← Ny235.out] at ho20)); have n0_ := Aside0.mk (Kd.R_lower ho20 (below_size (by repeat (first | (with_reducible first | exact HB.out | apply below_alloc | apply pw_below_drewN | apply below_drew1) | exact HB.out)))); have n1_ := Aside0.mk (below_step (by repeat (first | (with_reducible first | exact HB.out | apply below_alloc | apply pw_below_drewN | apply below_drew1) | exact HB.out)) hb); clear HB; have HO237 := n0_; have HB := n1_; clear n0_ n1_; clear hb ho20; obtain ⟨Ao21, co21, eo21⟩ := Kd.R_slice HO237.out; subst eo21) | ((with_reducible refine gate_callee (f := 31) rfl ?_); refine goesL_ (some 13) rfl rfl Tryd.func31 (by kernel_rfl) rfl #[.int .i64 a0, .slice Ao21 y235.length co21] rfl (by (try simp only [List.map_toArray, List.map_cons, List.map_nil]); first | done | rfl | (simp only [List.length_drop, List.length_take]; rfl)) ?_; (with_reducible refine (field_all.calls a0 _ _ y235 false _ ?side1 ?side2 ?side3 A4.out).mono ?_); (case side1 => refine FF.below HF.out ?_; repeat (first | (with_reducible first | exact HB.out | apply below_alloc | apply pw_below_drewN | apply below_drew1) | exact HB.out)); (case side2 => repeat (first | exact (Kd.R_reads' HO237.out).2.2 | (with_reducible refine Kd.C_alloc ?_ _) | (with_reducible refine Kd.C_drewN ?_ _) | (with_reducible refine Kd.C_drew ?_))); (case side3 => exact (Kd.R_reads' HO237.out).2.1); rintro e w22 ⟨rfl, hb⟩; refine ⟨_, rfl, ?_⟩; have n0_ := Aside0.mk (Kd.R_below (by (with_reducible repeat (first | apply Kd.R_alloc | apply Kd.R_drewN | apply Kd.R_drew)); exact HO237.out) hb); have n1_ := Aside0.mk (below_step (by repeat (first | (with_reducible first | exact HB.out | apply below_alloc | apply pw_below_drewN | apply below_drew1) | exact HB.out)) hb); clear HO237; clear HB; have HO237 := n0_; have HB := n1_; clear n0_ n1_; (try clear hb); (try clear hb2); (try clear hk); (try clear hi)))
    go_ret2
    exact ⟨by first | rfl | (simp [errW_none, errW_some] <;> rfl) | (simp [*, errW_none, errW_some] <;> rfl), by repeat (first | (with_reducible first | exact HB.out | apply below_alloc | apply pw_below_drewN | apply below_drew1) | exact HB.out)⟩

/-! ### solventlaw05_FieldAxioms: function 5 -/
mutual
def solventlaw05_FieldAxioms.l0 : Nat → Int → Int → Int → Bool → Int → Option (Bool)
  | 0, _, _, _, _, _ => none
  | k + 1, x0, x1, x2, x7, x8 => if x8 < 2 then (if 0 ≤ (wrap64 (8 + (wrap64 (8 * x8)))) then (if (shl .i64 1 (wrap64 (8 + (wrap64 (8 * x8))))) = 0 then (none) else ((field_Mul.f k (wrap64 (8 + (wrap64 (8 * x8)))) (Int.tmod (wrap64 (x0)) (shl .i64 1 (wrap64 (8 + (wrap64 (8 * x8)))))) (Int.tmod (wrap64 (x1)) (shl .i64 1 (wrap64 (8 + (wrap64 (8 * x8))))))).bind fun bt242 => ((field_Mul.f k (wrap64 (8 + (wrap64 (8 * x8)))) (Int.tmod (wrap64 (x1)) (shl .i64 1 (wrap64 (8 + (wrap64 (8 * x8)))))) (Int.tmod (wrap64 (x0)) (shl .i64 1 (wrap64 (8 + (wrap64 (8 * x8))))))).bind fun bt244 => ((field_Mul.f k (wrap64 (8 + (wrap64 (8 * x8)))) (Int.tmod (wrap64 (x1)) (shl .i64 1 (wrap64 (8 + (wrap64 (8 * x8)))))) (Int.tmod (wrap64 (x2)) (shl .i64 1 (wrap64 (8 + (wrap64 (8 * x8))))))).bind fun bt246 => ((field_Mul.f k (wrap64 (8 + (wrap64 (8 * x8)))) bt242.1 (Int.tmod (wrap64 (x2)) (shl .i64 1 (wrap64 (8 + (wrap64 (8 * x8))))))).bind fun bt248 => ((field_Mul.f k (wrap64 (8 + (wrap64 (8 * x8)))) (Int.tmod (wrap64 (x0)) (shl .i64 1 (wrap64 (8 + (wrap64 (8 * x8)))))) bt246.1).bind fun bt250 => ((field_Add.f (wrap64 (8 + (wrap64 (8 * x8)))) (Int.tmod (wrap64 (x1)) (shl .i64 1 (wrap64 (8 + (wrap64 (8 * x8)))))) (Int.tmod (wrap64 (x2)) (shl .i64 1 (wrap64 (8 + (wrap64 (8 * x8))))))).bind fun bt252 => ((field_Mul.f k (wrap64 (8 + (wrap64 (8 * x8)))) (Int.tmod (wrap64 (x0)) (shl .i64 1 (wrap64 (8 + (wrap64 (8 * x8)))))) bt252.1).bind fun bt254 => ((field_Mul.f k (wrap64 (8 + (wrap64 (8 * x8)))) (Int.tmod (wrap64 (x0)) (shl .i64 1 (wrap64 (8 + (wrap64 (8 * x8)))))) (Int.tmod (wrap64 (x2)) (shl .i64 1 (wrap64 (8 + (wrap64 (8 * x8))))))).bind fun bt256 => ((field_Add.f (wrap64 (8 + (wrap64 (8 * x8)))) bt242.1 bt256.1).bind fun bt258 => ((field_Mul.f k (wrap64 (8 + (wrap64 (8 * x8)))) (Int.tmod (wrap64 (x0)) (shl .i64 1 (wrap64 (8 + (wrap64 (8 * x8)))))) 1).bind fun bt260 => ((field_Add.f (wrap64 (8 + (wrap64 (8 * x8)))) (Int.tmod (wrap64 (x0)) (shl .i64 1 (wrap64 (8 + (wrap64 (8 * x8)))))) (Int.tmod (wrap64 (x0)) (shl .i64 1 (wrap64 (8 + (wrap64 (8 * x8))))))).bind fun bt262 => (if bt242.1 = bt244.1 then (if bt248.1 = bt250.1 then (if bt254.1 = bt258.1 then (if bt260.1 = (Int.tmod (wrap64 (x0)) (shl .i64 1 (wrap64 (8 + (wrap64 (8 * x8)))))) then (solventlaw05_FieldAxioms.j1 k x0 x1 x2 x7 x8 (wrap64 (8 + (wrap64 (8 * x8)))) (Int.tmod (wrap64 (x0)) (shl .i64 1 (wrap64 (8 + (wrap64 (8 * x8)))))) (Int.tmod (wrap64 (x1)) (shl .i64 1 (wrap64 (8 + (wrap64 (8 * x8)))))) bt242.1 (bt262.1 != 0)) else (solventlaw05_FieldAxioms.j1 k x0 x1 x2 x7 x8 (wrap64 (8 + (wrap64 (8 * x8)))) (Int.tmod (wrap64 (x0)) (shl .i64 1 (wrap64 (8 + (wrap64 (8 * x8)))))) (Int.tmod (wrap64 (x1)) (shl .i64 1 (wrap64 (8 + (wrap64 (8 * x8)))))) bt242.1 true)) else (solventlaw05_FieldAxioms.j1 k x0 x1 x2 x7 x8 (wrap64 (8 + (wrap64 (8 * x8)))) (Int.tmod (wrap64 (x0)) (shl .i64 1 (wrap64 (8 + (wrap64 (8 * x8)))))) (Int.tmod (wrap64 (x1)) (shl .i64 1 (wrap64 (8 + (wrap64 (8 * x8)))))) bt242.1 true)) else (solventlaw05_FieldAxioms.j1 k x0 x1 x2 x7 x8 (wrap64 (8 + (wrap64 (8 * x8)))) (Int.tmod (wrap64 (x0)) (shl .i64 1 (wrap64 (8 + (wrap64 (8 * x8)))))) (Int.tmod (wrap64 (x1)) (shl .i64 1 (wrap64 (8 + (wrap64 (8 * x8)))))) bt242.1 true)) else (solventlaw05_FieldAxioms.j1 k x0 x1 x2 x7 x8 (wrap64 (8 + (wrap64 (8 * x8)))) (Int.tmod (wrap64 (x0)) (shl .i64 1 (wrap64 (8 + (wrap64 (8 * x8)))))) (Int.tmod (wrap64 (x1)) (shl .i64 1 (wrap64 (8 + (wrap64 (8 * x8)))))) bt242.1 true)))))))))))))) else (none)) else (some x7)
def solventlaw05_FieldAxioms.j1 : Nat → Int → Int → Int → Bool → Int → Int → Int → Int → Int → Bool → Option (Bool)
  | 0, _, _, _, _, _, _, _, _, _, _ => none
  | k + 1, x0, x1, x2, x7, x8, x9, x10, x11, x13, x157 => if x157 = true then (some false) else ((field_Div.f k x9 x13 x11).bind fun bt264 => (if x11 = 0 then (if bt264.2 = 12 then (solventlaw05_FieldAxioms.l0 k x0 x1 x2 x7 (wrap64 (x8 + 1))) else (some false)) else (if bt264.2 = 0 then (if bt264.1 = x10 then (solventlaw05_FieldAxioms.l0 k x0 x1 x2 x7 (wrap64 (x8 + 1))) else (some false)) else (some false))))
end
def solventlaw05_FieldAxioms.f (k : Nat) (a0 : Int) (a1 : Int) (a2 : Int) : Option (Bool) := (solventlaw05_sanity.f k).bind fun t241 => (solventlaw05_FieldAxioms.l0 k a0 a1 a2 t241 0)
theorem solventlaw05_FieldAxioms.mono_l : ∀ k, (∀ y0 y1 y2 y3 y4, LeO (solventlaw05_FieldAxioms.l0 k y0 y1 y2 y3 y4) (solventlaw05_FieldAxioms.l0 (k + 1) y0 y1 y2 y3 y4)) ∧ (∀ y0 y1 y2 y3 y4 y5 y6 y7 y8 y9, LeO (solventlaw05_FieldAxioms.j1 k y0 y1 y2 y3 y4 y5 y6 y7 y8 y9) (solventlaw05_FieldAxioms.j1 (k + 1) y0 y1 y2 y3 y4 y5 y6 y7 y8 y9))
  | 0 => ⟨fun _ _ _ _ _ r h => by simp [solventlaw05_FieldAxioms.l0] at h, fun _ _ _ _ _ _ _ _ _ _ r h => by simp [solventlaw05_FieldAxioms.j1] at h⟩
  | k + 1 => by
    obtain ⟨ih0, ih1⟩ := solventlaw05_FieldAxioms.mono_l k
    refine ⟨?_, ?_⟩
    · intro y0 y1 y2 y3 y4
      unfold solventlaw05_FieldAxioms.l0
      repeat' first
      | (with_reducible exact ih0 _ _ _ _ _)
      | (with_reducible exact ih1 _ _ _ _ _ _ _ _ _ _)
      | (with_reducible exact field_Div.mono _ _ _ _)
      | (with_reducible exact field_Mul.mono _ _ _ _)
      | (with_reducible exact solventlaw05_sanity.mono _)
      | (with_reducible exact LeO.refl _)
      | (with_reducible exact LeO.none _)
      | (with_reducible refine LeO.ite ?_ ?_)
      | (with_reducible refine LeO.bind ?_ (fun _ => ?_))
      | exact ih0 _ _ _ _ _
      | exact ih1 _ _ _ _ _ _ _ _ _ _
      | exact field_Div.mono _ _ _ _
      | exact field_Mul.mono _ _ _ _
      | exact solventlaw05_sanity.mono _
      | exact LeO.none _
      | refine LeO.ite ?_ ?_
      | refine LeO.bind ?_ (fun _ => ?_)
    · intro y0 y1 y2 y3 y4 y5 y6 y7 y8 y9
      unfold solventlaw05_FieldAxioms.j1
      repeat' first
      | (with_reducible exact ih0 _ _ _ _ _)
      | (with_reducible exact ih1 _ _ _ _ _ _ _ _ _ _)
      | (with_reducible exact field_Div.mono _ _ _ _)
      | (with_reducible exact field_Mul.mono _ _ _ _)
      | (with_reducible exact solventlaw05_sanity.mono _)
      | (with_reducible exact LeO.refl _)
      | (with_reducible exact LeO.none _)
      | (with_reducible refine LeO.ite ?_ ?_)
      | (with_reducible refine LeO.bind ?_ (fun _ => ?_))
      | exact ih0 _ _ _ _ _
      | exact ih1 _ _ _ _ _ _ _ _ _ _
      | exact field_Div.mono _ _ _ _
      | exact field_Mul.mono _ _ _ _
      | exact solventlaw05_sanity.mono _
      | exact LeO.none _
      | refine LeO.ite ?_ ?_
      | refine LeO.bind ?_ (fun _ => ?_)
theorem solventlaw05_FieldAxioms.mono : ∀ a0 a1 a2 k, LeO (solventlaw05_FieldAxioms.f k a0 a1 a2) (solventlaw05_FieldAxioms.f (k + 1) a0 a1 a2) := by
  intro a0 a1 a2 k
  obtain ⟨ih0, ih1⟩ := solventlaw05_FieldAxioms.mono_l k
  unfold solventlaw05_FieldAxioms.f
  repeat' first
      | (with_reducible exact ih0 _ _ _ _ _)
      | (with_reducible exact ih1 _ _ _ _ _ _ _ _ _ _)
      | (with_reducible exact field_Div.mono _ _ _ _)
      | (with_reducible exact field_Mul.mono _ _ _ _)
      | (with_reducible exact solventlaw05_sanity.mono _)
      | (with_reducible exact LeO.refl _)
      | (with_reducible exact LeO.none _)
      | (with_reducible refine LeO.ite ?_ ?_)
      | (with_reducible refine LeO.bind ?_ (fun _ => ?_))
      | exact ih0 _ _ _ _ _
      | exact ih1 _ _ _ _ _ _ _ _ _ _
      | exact field_Div.mono _ _ _ _
      | exact field_Mul.mono _ _ _ _
      | exact solventlaw05_sanity.mono _
      | exact LeO.none _
      | refine LeO.ite ?_ ?_
      | refine LeO.bind ?_ (fun _ => ?_)
set_option maxHeartbeats 8000000 in
set_option maxRecDepth 100000 in
theorem solventlaw05_FieldAxioms.calls (k : Nat) (a0 : Int) (a1 : Int) (a2 : Int) (r : Bool) (w : World) (hff : FF w) (h : solventlaw05_FieldAxioms.f k a0 a1 a2 = some r) :
    Calls Tryd.prog 5 #[.int .u16 a0, .int .u16 a1, .int .u16 a2] w fun e w' => e = .returned (.bool r) ∧ Below w.heap.size w w' := by
  have HF := Aside0.mk hff
  clear hff
  have HB := Aside0.mk (Below.refl w.heap.size w)
  have H : ((solventlaw05_sanity.f k).bind fun t241 => (solventlaw05_FieldAxioms.l0 k a0 a1 a2 t241 0)) = some r := h
  clear h
  replace H := Option.bind_eq_some_iff.mp H
  obtain ⟨t241, A40, H⟩ := H
  replace H : (solventlaw05_FieldAxioms.l0 k a0 a1 a2 t241 0) = some r := H
  have A4 := Aside0.mk A40
  clear A40
  have H' := Aside0.mk H
  clear H
  go_enter Tryd.func5, Tryd.ntmps5
  go_wp2_with (first | ((with_reducible refine gate_callee (f := 9) rfl ?_); refine goesL_ (some 37) rfl rfl Tryd.func9 (by kernel_rfl) rfl #[] rfl (by (try simp only [List.map_toArray, List.map_cons, List.map_nil]); first | done | rfl | (simp only [List.length_drop, List.length_take]; rfl)) ?_; (with_reducible refine (solventlaw05_sanity.calls k  t241 _ ?side1 A4.out).mono ?_); (case side1 => refine FF.below HF.out ?_; repeat (first | (with_reducible first | exact HB.out | apply below_alloc | apply pw_below_drewN | apply below_drew1) | exact HB.out)); rintro e w5 ⟨rfl, hb⟩; refine ⟨_, rfl, ?_⟩; have n0_ := Aside0.mk (below_step (by repeat (first | (with_reducible first | exact HB.out | apply below_alloc | apply pw_below_drewN | apply below_drew1) | exact HB.out)) hb); clear HB; have HB := n0_; clear n0_; (try clear hb); (try clear hb2); (try clear hk); (try clear hi)))
  go_loopg [8] k (fun kq v8 w' => ∃ (x8_1 : Int), v8 = .int .i64 x8_1 ∧ Aside0 (solventlaw05_FieldAxioms.l0 kq a0 a1 a2 t241 x8_1 = some r) ∧ Aside0 (kq ≤ k) ∧ Aside0 (Below w.heap.size w w'))
  case atStart => exact ⟨(0), (by first | rfl | (simp; done) | (simp [*]; done)), H', ⟨Nat.le_refl _⟩, ⟨by repeat (first | (with_reducible first | exact HB.out | apply below_alloc | apply pw_below_drewN | apply below_drew1) | exact HB.out)⟩⟩
  case round =>
    clear H'
    try clear p2
    try clear c5
    obtain ⟨x8_1, rfl, HA, HK1, HB⟩ := hrel
    cases gk with
    | zero => exact absurd HA.out (by simp [solventlaw05_FieldAxioms.l0])
    | succ k1 =>
      have H := HA.out
      clear HA
      simp only [solventlaw05_FieldAxioms.l0] at H
      by_cases c6 : x8_1 < 2
      · rw [if_pos c6] at H
        have c6b0 : decide (x8_1 < 2) = true := decide_eq_true c6
        clear c6
        obtain ⟨ji7, hji7⟩ : ∃ j_ : Int, (wrap64 (8 + (wrap64 (8 * x8_1)))) = j_ := ⟨_, rfl⟩
        replace H : (if 0 ≤ (ji7) then (if (shl .i64 1 (ji7)) = 0 then (none) else ((field_Mul.f k1 (ji7) (Int.tmod (wrap64 (a0)) (shl .i64 1 (ji7))) (Int.tmod (wrap64 (a1)) (shl .i64 1 (ji7)))).bind fun bt242 => ((field_Mul.f k1 (ji7) (Int.tmod (wrap64 (a1)) (shl .i64 1 (ji7))) (Int.tmod (wrap64 (a0)) (shl .i64 1 (ji7)))).bind fun bt244 => ((field_Mul.f k1 (ji7) (Int.tmod (wrap64 (a1)) (shl .i64 1 (ji7))) (Int.tmod (wrap64 (a2)) (shl .i64 1 (ji7)))).bind fun bt246 => ((field_Mul.f k1 (ji7) bt242.1 (Int.tmod (wrap64 (a2)) (shl .i64 1 (ji7)))).bind fun bt248 => ((field_Mul.f k1 (ji7) (Int.tmod (wrap64 (a0)) (shl .i64 1 (ji7))) bt246.1).bind fun bt250 => ((field_Add.f (ji7) (Int.tmod (wrap64 (a1)) (shl .i64 1 (ji7))) (Int.tmod (wrap64 (a2)) (shl .i64 1 (ji7)))).bind fun bt252 => ((field_Mul.f k1 (ji7) (Int.tmod (wrap64 (a0)) (shl .i64 1 (ji7))) bt252.1).bind fun bt254 => ((field_Mul.f k1 (ji7) (Int.tmod (wrap64 (a0)) (shl .i64 1 (ji7))) (Int.tmod (wrap64 (a2)) (shl .i64 1 (ji7)))).bind fun bt256 => ((field_Add.f (ji7) bt242.1 bt256.1).bind fun bt258 => ((field_Mul.f k1 (ji7) (Int.tmod (wrap64 (a0)) (shl .i64 1 (ji7))) 1).bind fun bt260 => ((field_Add.f (ji7) (Int.tmod (wrap64 (a0)) (shl .i64 1 (ji7))) (Int.tmod (wrap64 (a0)) (shl .i64 1 (ji7)))).bind fun bt262 => (if bt242.1 = bt244.1 then (if bt248.1 = bt250.1 then (if bt254.1 = bt258.1 then (if bt260.1 = (Int.tmod (wrap64 (a0)) (shl .i64 1 (ji7))) then (solventlaw05_FieldAxioms.j1 k1 a0 a1 a2 t241 x8_1 ji7 (Int.tmod (wrap64 (a0)) (shl .i64 1 (ji7))) (Int.tmod (wrap64 (a1)) (shl .i64 1 (ji7))) bt242.1 (bt262.1 != 0)) else (solventlaw05_FieldAxioms.j1 k1 a0 a1 a2 t241 x8_1 ji7 (Int.tmod (wrap64 (a0)) (shl .i64 1 (ji7))) (Int.tmod (wrap64 (a1)) (shl .i64 1 (ji7))) bt242.1 true)) else (solventlaw05_FieldAxioms.j1 k1 a0 a1 a2 t241 x8_1 ji7 (Int.tmod (wrap64 (a0)) (shl .i64 1 (ji7))) (Int.tmod (wrap64 (a1)) (shl .i64 1 (ji7))) bt242.1 true)) else (solventlaw05_FieldAxioms.j1 k1 a0 a1 a2 t241 x8_1 ji7 (Int.tmod (wrap64 (a0)) (shl .i64 1 (ji7))) (Int.tmod (wrap64 (a1)) (shl .i64 1 (ji7))) bt242.1 true)) else (solventlaw05_FieldAxioms.j1 k1 a0 a1 a2 t241 x8_1 ji7 (Int.tmod (wrap64 (a0)) (shl .i64 1 (ji7))) (Int.tmod (wrap64 (a1)) (shl .i64 1 (ji7))) bt242.1 true)))))))))))))) else (none)) = some r := by first | (rw [hji7] at H; exact H) | (simp only [hji7] at H ⊢; exact H)
        have hji7w : (IntKind.i64.wrap (8 + (wrap64 (8 * x8_1)))) = ji7 := (i64_w _).trans hji7
        by_cases c8 : 0 ≤ (ji7)
        · rw [if_pos c8] at H
          have c8b0 := eq_true c8
          have c8b1 : decide (0 ≤ (ji7)) = true := decide_eq_true c8
          clear c8
          obtain ⟨ji9, hji9⟩ : ∃ j_ : Int, (shl .i64 1 (ji7)) = j_ := ⟨_, rfl⟩
          replace H : (if (ji9) = 0 then (none) else ((field_Mul.f k1 (ji7) (Int.tmod (wrap64 (a0)) (ji9)) (Int.tmod (wrap64 (a1)) (ji9))).bind fun bt242 => ((field_Mul.f k1 (ji7) (Int.tmod (wrap64 (a1)) (ji9)) (Int.tmod (wrap64 (a0)) (ji9))).bind fun bt244 => ((field_Mul.f k1 (ji7) (Int.tmod (wrap64 (a1)) (ji9)) (Int.tmod (wrap64 (a2)) (ji9))).bind fun bt246 => ((field_Mul.f k1 (ji7) bt242.1 (Int.tmod (wrap64 (a2)) (ji9))).bind fun bt248 => ((field_Mul.f k1 (ji7) (Int.tmod (wrap64 (a0)) (ji9)) bt246.1).bind fun bt250 => ((field_Add.f (ji7) (Int.tmod (wrap64 (a1)) (ji9)) (Int.tmod (wrap64 (a2)) (ji9))).bind fun bt252 => ((field_Mul.f k1 (ji7) (Int.tmod (wrap64 (a0)) (ji9)) bt252.1).bind fun bt254 => ((field_Mul.f k1 (ji7) (Int.tmod (wrap64 (a0)) (ji9)) (Int.tmod (wrap64 (a2)) (ji9))).bind fun bt256 => ((field_Add.f (ji7) bt242.1 bt256.1).bind fun bt258 => ((field_Mul.f k1 (ji7) (Int.tmod (wrap64 (a0)) (ji9)) 1).bind fun bt260 => ((field_Add.f (ji7) (Int.tmod (wrap64 (a0)) (ji9)) (Int.tmod (wrap64 (a0)) (ji9))).bind fun bt262 => (if bt242.1 = bt244.1 then (if bt248.1 = bt250.1 then (if bt254.1 = bt258.1 then (if bt260.1 = (Int.tmod (wrap64 (a0)) (ji9)) then (solventlaw05_FieldAxioms.j1 k1 a0 a1 a2 t241 x8_1 ji7 (Int.tmod (wrap64 (a0)) (ji9)) (Int.tmod (wrap64 (a1)) (ji9)) bt242.1 (bt262.1 != 0)) else (solventlaw05_FieldAxioms.j1 k1 a0 a1 a2 t241 x8_1 ji7 (Int.tmod (wrap64 (a0)) (ji9)) (Int.tmod (wrap64 (a1)) (ji9)) bt242.1 true)) else (solventlaw05_FieldAxioms.j1 k1 a0 a1 a2 t241 x8_1 ji7 (Int.tmod (wrap64 (a0)) (ji9)) (Int.tmod (wrap64 (a1)) (ji9)) bt242.1 true)) else (solventlaw05_FieldAxioms.j1 k1 a0 a1 a2 t241 x8_1 ji7 (Int.tmod (wrap64 (a0)) (ji9)) (Int.tmod (wrap64 (a1)) (ji9)) bt242.1 true)) else (solventlaw05_FieldAxioms.j1 k1 a0 a1 a2 t241 x8_1 ji7 (Int.tmod (wrap64 (a0)) (ji9)) (Int.tmod (wrap64 (a1)) (ji9)) bt242.1 true)))))))))))))) = some r := by first | (rw [hji9] at H; exact H) | (simp only [hji9] at H ⊢; exact H)
          have hji9_ : (IntKind.i64.wrap (1 * 2 ^ min (ji7).toNat 64)) = ji9 := hji9
          have hji9z : (ji7) ≤ 64 → (IntKind.i64.wrap (1 * 2 ^ (ji7).toNat)) = ji9 := shl_small hji9
          have hji9u : (IntKind.i64.wrap (2 ^ min (ji7).toNat 64)) = ji9 := by have h_ := hji9_; rw [Int.one_mul] at h_; exact h_
          have hji9v : (ji7) ≤ 64 → (IntKind.i64.wrap (2 ^ (ji7).toNat)) = ji9 := fun hle_ => by have h_ := hji9z hle_; rw [Int.one_mul] at h_; exact h_
          have hji9y : (wrap64 (1 * 2 ^ min (ji7).toNat 64)) = ji9 := (i64_w _).symm.trans hji9_
          have hji9x : (ji7) ≤ 64 → (wrap64 (1 * 2 ^ (ji7).toNat)) = ji9 := fun h_ => (i64_w _).symm.trans (hji9z h_)
          by_cases c10 : (ji9) = 0
          · rw [if_pos c10] at H
            exact absurd H (by simp)
          · rw [if_neg c10] at H
            have c10b0 : ((ji9) == 0) = false := beq_eq_false_iff_ne.mpr c10
            have c10b1 : ((ji9) != 0) = true := bne_iff_ne.mpr c10
            have c11b0 := eq_true (of_decide_eq_true (by first | (with_reducible assumption) | assumption) : 0 ≤ (ji7))
            have c13b0 := eq_true (of_decide_eq_true (by first | (with_reducible assumption) | assumption) : 0 ≤ (ji7))
            replace H := Option.bind_eq_some_iff.mp H
            obtain ⟨⟨t242, t243⟩, A150, H⟩ := H
            replace H : ((field_Mul.f k1 (ji7) (Int.tmod (wrap64 (a1)) (ji9)) (Int.tmod (wrap64 (a0)) (ji9))).bind fun bt244 => ((field_Mul.f k1 (ji7) (Int.tmod (wrap64 (a1)) (ji9)) (Int.tmod (wrap64 (a2)) (ji9))).bind fun bt246 => ((field_Mul.f k1 (ji7) t242 (Int.tmod (wrap64 (a2)) (ji9))).bind fun bt248 => ((field_Mul.f k1 (ji7) (Int.tmod (wrap64 (a0)) (ji9)) bt246.1).bind fun bt250 => ((field_Add.f (ji7) (Int.tmod (wrap64 (a1)) (ji9)) (Int.tmod (wrap64 (a2)) (ji9))).bind fun bt252 => ((field_Mul.f k1 (ji7) (Int.tmod (wrap64 (a0)) (ji9)) bt252.1).bind fun bt254 => ((field_Mul.f k1 (ji7) (Int.tmod (wrap64 (a0)) (ji9)) (Int.tmod (wrap64 (a2)) (ji9))).bind fun bt256 => ((field_Add.f (ji7) t242 bt256.1).bind fun bt258 => ((field_Mul.f k1 (ji7) (Int.tmod (wrap64 (a0)) (ji9)) 1).bind fun bt260 => ((field_Add.f (ji7) (Int.tmod (wrap64 (a0)) (ji9)) (Int.tmod (wrap64 (a0)) (ji9))).bind fun bt262 => (if t242 = bt244.1 then (if bt248.1 = bt250.1 then (if bt254.1 = bt258.1 then (if bt260.1 = (Int.tmod (wrap64 (a0)) (ji9)) then (solventlaw05_FieldAxioms.j1 k1 a0 a1 a2 t241 x8_1 ji7 (Int.tmod (wrap64 (a0)) (ji9)) (Int.tmod (wrap64 (a1)) (ji9)) t242 (bt262.1 != 0)) else (solventlaw05_FieldAxioms.j1 k1 a0 a1 a2 t241 x8_1 ji7 (Int.tmod (wrap64 (a0)) (ji9)) (Int.tmod (wrap64 (a1)) (ji9)) t242 true)) else (solventlaw05_FieldAxioms.j1 k1 a0 a1 a2 t241 x8_1 ji7 (Int.tmod (wrap64 (a0)) (ji9)) (Int.tmod (wrap64 (a1)) (ji9)) t242 true)) else (solventlaw05_FieldAxioms.j1 k1 a0 a1 a2 t241 x8_1 ji7 (Int.tmod (wrap64 (a0)) (ji9)) (Int.tmod (wrap64 (a1)) (ji9)) t242 true)) else (solventlaw05_FieldAxioms.j1 k1 a0 a1 a2 t241 x8_1 ji7 (Int.tmod (wrap64 (a0)) (ji9)) (Int.tmod (wrap64 (a1)) (ji9)) t242 true)))))))))))) = some r := H
            have A15 := Aside0.mk A150
            clear A150
            replace H := Option.bind_eq_some_iff.mp H
            obtain ⟨⟨t244, t245⟩, A160, H⟩ := H
            replace H : ((field_Mul.f k1 (ji7) (Int.tmod (wrap64 (a1)) (ji9)) (Int.tmod (wrap64 (a2)) (ji9))).bind fun bt246 => ((field_Mul.f k1 (ji7) t242 (Int.tmod (wrap64 (a2)) (ji9))).bind fun bt248 => ((field_Mul.f k1 (ji7) (Int.tmod (wrap64 (a0)) (ji9)) bt246.1).bind fun bt250 => ((field_Add.f (ji7) (Int.tmod (wrap64 (a1)) (ji9)) (Int.tmod (wrap64 (a2)) (ji9))).bind fun bt252 => ((field_Mul.f k1 (ji7) (Int.tmod (wrap64 (a0)) (ji9)) bt252.1).bind fun bt254 => ((field_Mul.f k1 (ji7) (Int.tmod (wrap64 (a0)) (ji9)) (Int.tmod (wrap64 (a2)) (ji9))).bind fun bt256 => ((field_Add.f (ji7) t242 bt256.1).bind fun bt258 => ((field_Mul.f k1 (ji7) (Int.tmod (wrap64 (a0)) (ji9)) 1).bind fun bt260 => ((field_Add.f (ji7) (Int.tmod (wrap64 (a0)) (ji9)) (Int.tmod (wrap64 (a0)) (ji9))).bind fun bt262 => (if t242 = t244 then (if bt248.1 = bt250.1 then (if bt254.1 = bt258.1 then (if bt260.1 = (Int.tmod (wrap64 (a0)) (ji9)) then (solventlaw05_FieldAxioms.j1 k1 a0 a1 a2 t241 x8_1 ji7 (Int.tmod (wrap64 (a0)) (ji9)) (Int.tmod (wrap64 (a1)) (ji9)) t242 (bt262.1 != 0)) else (solventlaw05_FieldAxioms.j1 k1 a0 a1 a2 t241 x8_1 ji7 (Int.tmod (wrap64 (a0)) (ji9)) (Int.tmod (wrap64 (a1)) (ji9)) t242 true)) else (solventlaw05_FieldAxioms.j1 k1 a0 a1 a2 t241 x8_1 ji7 (Int.tmod (wrap64 (a0)) (ji9)) (Int.tmod (wrap64 (a1)) (ji9)) t242 true)) else (solventlaw05_FieldAxioms.j1 k1 a0 a1 a2 t241 x8_1 ji7 (Int.tmod (wrap64 (a0)) (ji9)) (Int.tmod (wrap64 (a1)) (ji9)) t242 true)) else (solventlaw05_FieldAxioms.j1 k1 a0 a1 a2 t241 x8_1 ji7 (Int.tmod (wrap64 (a0)) (ji9)) (Int.tmod (wrap64 (a1)) (ji9)) t242 true))))))))))) = some r := H
            have A16 := Aside0.mk A160
            clear A160
            replace H := Option.bind_eq_some_iff.mp H
            obtain ⟨⟨t246, t247⟩, A170, H⟩ := H
            replace H : ((field_Mul.f k1 (ji7) t242 (Int.tmod (wrap64 (a2)) (ji9))).bind fun bt248 => ((field_Mul.f k1 (ji7) (Int.tmod (wrap64 (a0)) (ji9)) t246).bind fun bt250 => ((field_Add.f (ji7) (Int.tmod (wrap64 (a1)) (ji9)) (Int.tmod (wrap64 (a2)) (ji9))).bind fun bt252 => ((field_Mul.f k1 (ji7) (Int.tmod (wrap64 (a0)) (ji9)) bt252.1).bind fun bt254 => ((field_Mul.f k1 (ji7) (Int.tmod (wrap64 (a0)) (ji9)) (Int.tmod (wrap64 (a2)) (ji9))).bind fun bt256 => ((field_Add.f (ji7) t242 bt256.1).bind fun bt258 => ((field_Mul.f k1 (ji7) (Int.tmod (wrap64 (a0)) (ji9)) 1).bind fun bt260 => ((field_Add.f (ji7) (Int.tmod (wrap64 (a0)) (ji9)) (Int.tmod (wrap64 (a0)) (ji9))).bind fun bt262 => (if t242 = t244 then (if bt248.1 = bt250.1 then (if bt254.1 = bt258.1 then (if bt260.1 = (Int.tmod (wrap64 (a0)) (ji9)) then (solventlaw05_FieldAxioms.j1 k1 a0 a1 a2 t241 x8_1 ji7 (Int.tmod (wrap64 (a0)) (ji9)) (Int.tmod (wrap64 (a1)) (ji9)) t242 (bt262.1 != 0)) else (solventlaw05_FieldAxioms.j1 k1 a0 a1 a2 t241 x8_1 ji7 (Int.tmod (wrap64 (a0)) (ji9)) (Int.tmod (wrap64 (a1)) (ji9)) t242 true)) else (solventlaw05_FieldAxioms.j1 k1 a0 a1 a2 t241 x8_1 ji7 (Int.tmod (wrap64 (a0)) (ji9)) (Int.tmod (wrap64 (a1)) (ji9)) t242 true)) else (solventlaw05_FieldAxioms.j1 k1 a0 a1 a2 t241 x8_1 ji7 (Int.tmod (wrap64 (a0)) (ji9)) (Int.tmod (wrap64 (a1)) (ji9)) t242 true)) else (solventlaw05_FieldAxioms.j1 k1 a0 a1 a2 t241 x8_1 ji7 (Int.tmod (wrap64 (a0)) (ji9)) (Int.tmod (wrap64 (a1)) (ji9)) t242 true)))))))))) = some r := H
            have A17 := Aside0.mk A170
            clear A170
            replace H := Option.bind_eq_some_iff.mp H
            obtain ⟨⟨t248, t249⟩, A180, H⟩ := H
            replace H : ((field_Mul.f k1 (ji7) (Int.tmod (wrap64 (a0)) (ji9)) t246).bind fun bt250 => ((field_Add.f (ji7) (Int.tmod (wrap64 (a1)) (ji9)) (Int.tmod (wrap64 (a2)) (ji9))).bind fun bt252 => ((field_Mul.f k1 (ji7) (Int.tmod (wrap64 (a0)) (ji9)) bt252.1).bind fun bt254 => ((field_Mul.f k1 (ji7) (Int.tmod (wrap64 (a0)) (ji9)) (Int.tmod (wrap64 (a2)) (ji9))).bind fun bt256 => ((field_Add.f (ji7) t242 bt256.1).bind fun bt258 => ((field_Mul.f k1 (ji7) (Int.tmod (wrap64 (a0)) (ji9)) 1).bind fun bt260 => ((field_Add.f (ji7) (Int.tmod (wrap64 (a0)) (ji9)) (Int.tmod (wrap64 (a0)) (ji9))).bind fun bt262 => (if t242 = t244 then (if t248 = bt250.1 then (if bt254.1 = bt258.1 then (if bt260.1 = (Int.tmod (wrap64 (a0)) (ji9)) then (solventlaw05_FieldAxioms.j1 k1 a0 a1 a2 t241 x8_1 ji7 (Int.tmod (wrap64 (a0)) (ji9)) (Int.tmod (wrap64 (a1)) (ji9)) t242 (bt262.1 != 0)) else (solventlaw05_FieldAxioms.j1 k1 a0 a1 a2 t241 x8_1 ji7 (Int.tmod (wrap64 (a0)) (ji9)) (Int.tmod (wrap64 (a1)) (ji9)) t242 true)) else (solventlaw05_FieldAxioms.j1 k1 a0 a1 a2 t241 x8_1 ji7 (Int.tmod (wrap64 (a0)) (ji9)) (Int.tmod (wrap64 (a1)) (ji9)) t242 true)) else (solventlaw05_FieldAxioms.j1 k1 a0 a1 a2 t241 x8_1 ji7 (Int.tmod (wrap64 (a0)) (ji9)) (Int.tmod (wrap64 (a1)) (ji9)) t242 true)) else (solventlaw05_FieldAxioms.j1 k1 a0 a1 a2 t241 x8_1 ji7 (Int.tmod (wrap64 (a0)) (ji9)) (Int.tmod (wrap64 (a1)) (ji9)) t242 true))))))))) = some r := H
            have A18 := Aside0.mk A180
            clear A180
            replace H := Option.bind_eq_some_iff.mp H
            obtain ⟨⟨t250, t251⟩, A190, H⟩ := H
            replace H : ((field_Add.f (ji7) (Int.tmod (wrap64 (a1)) (ji9)) (Int.tmod (wrap64 (a2)) (ji9))).bind fun bt252 => ((field_Mul.f k1 (ji7) (Int.tmod (wrap64 (a0)) (ji9)) bt252.1).bind fun bt254 => ((field_Mul.f k1 (ji7) (Int.tmod (wrap64 (a0)) (ji9)) (Int.tmod (wrap64 (a2)) (ji9))).bind fun bt256 => ((field_Add.f (ji7) t242 bt256.1).bind fun bt258 => ((field_Mul.f k1 (ji7) (Int.tmod (wrap64 (a0)) (ji9)) 1).bind fun bt260 => ((field_Add.f (ji7) (Int.tmod (wrap64 (a0)) (ji9)) (Int.tmod (wrap64 (a0)) (ji9))).bind fun bt262 => (if t242 = t244 then (if t248 = t250 then (if bt254.1 = bt258.1 then (if bt260.1 = (Int.tmod (wrap64 (a0)) (ji9)) then (solventlaw05_FieldAxioms.j1 k1 a0 a1 a2 t241 x8_1 ji7 (Int.tmod (wrap64 (a0)) (ji9)) (Int.tmod (wrap64 (a1)) (ji9)) t242 (bt262.1 != 0)) else (solventlaw05_FieldAxioms.j1 k1 a0 a1 a2 t241 x8_1 ji7 (Int.tmod (wrap64 (a0)) (ji9)) (Int.tmod (wrap64 (a1)) (ji9)) t242 true)) else (solventlaw05_FieldAxioms.j1 k1 a0 a1 a2 t241 x8_1 ji7 (Int.tmod (wrap64 (a0)) (ji9)) (Int.tmod (wrap64 (a1)) (ji9)) t242 true)) else (solventlaw05_FieldAxioms.j1 k1 a0 a1 a2 t241 x8_1 ji7 (Int.tmod (wrap64 (a0)) (ji9)) (Int.tmod (wrap64 (a1)) (ji9)) t242 true)) else (solventlaw05_FieldAxioms.j1 k1 a0 a1 a2 t241 x8_1 ji7 (Int.tmod (wrap64 (a0)) (ji9)) (Int.tmod (wrap64 (a1)) (ji9)) t242 true)))))))) = some r := H
            have A19 := Aside0.mk A190
            clear A190
            replace H := Option.bind_eq_some_iff.mp H
            obtain ⟨⟨t252, t253⟩, A200, H⟩ := H
            replace H : ((field_Mul.f k1 (ji7) (Int.tmod (wrap64 (a0)) (ji9)) t252).bind fun bt254 => ((field_Mul.f k1 (ji7) (Int.tmod (wrap64 (a0)) (ji9)) (Int.tmod (wrap64 (a2)) (ji9))).bind fun bt256 => ((field_Add.f (ji7) t242 bt256.1).bind fun bt258 => ((field_Mul.f k1 (ji7) (Int.tmod (wrap64 (a0)) (ji9)) 1).bind fun bt260 => ((field_Add.f (ji7) (Int.tmod (wrap64 (a0)) (ji9)) (Int.tmod (wrap64 (a0)) (ji9))).bind fun bt262 => (if t242 = t244 then (if t248 = t250 then (if bt254.1 = bt258.1 then (if bt260.1 = (Int.tmod (wrap64 (a0)) (ji9)) then (solventlaw05_FieldAxioms.j1 k1 a0 a1 a2 t241 x8_1 ji7 (Int.tmod (wrap64 (a0)) (ji9)) (Int.tmod (wrap64 (a1)) (ji9)) t242 (bt262.1 != 0)) else (solventlaw05_FieldAxioms.j1 k1 a0 a1 a2 t241 x8_1 ji7 (Int.tmod (wrap64 (a0)) (ji9)) (Int.tmod (wrap64 (a1)) (ji9)) t242 true)) else (solventlaw05_FieldAxioms.j1 k1 a0 a1 a2 t241 x8_1 ji7 (Int.tmod (wrap64 (a0)) (ji9)) (Int.tmod (wrap64 (a1)) (ji9)) t242 true)) else (solventlaw05_FieldAxioms.j1 k1 a0 a1 a2 t241 x8_1 ji7 (Int.tmod (wrap64 (a0)) (ji9)) (Int.tmod (wrap64 (a1)) (ji9)) t242 true)) else (solventlaw05_FieldAxioms.j1 k1 a0 a1 a2 t241 x8_1 ji7 (Int.tmod (wrap64 (a0)) (ji9)) (Int.tmod (wrap64 (a1)) (ji9)) t242 true))))))) = some r := H
            have A20 := Aside0.mk A200
            clear A200
            replace H := Option.bind_eq_some_iff.mp H
            obtain ⟨⟨t254, t255⟩, A210, H⟩ := H
            replace H : ((field_Mul.f k1 (ji7) (Int.tmod (wrap64 (a0)) (ji9)) (Int.tmod (wrap64 (a2)) (ji9))).bind fun bt256 => ((field_Add.f (ji7) t242 bt256.1).bind fun bt258 => ((field_Mul.f k1 (ji7) (Int.tmod (wrap64 (a0)) (ji9)) 1).bind fun bt260 => ((field_Add.f (ji7) (Int.tmod (wrap64 (a0)) (ji9)) (Int.tmod (wrap64 (a0)) (ji9))).bind fun bt262 => (if t242 = t244 then (if t248 = t250 then (if t254 = bt258.1 then (if bt260.1 = (Int.tmod (wrap64 (a0)) (ji9)) then (solventlaw05_FieldAxioms.j1 k1 a0 a1 a2 t241 x8_1 ji7 (Int.tmod (wrap64 (a0)) (ji9)) (Int.tmod (wrap64 (a1)) (ji9)) t242 (bt262.1 != 0)) else (solventlaw05_FieldAxioms.j1 k1 a0 a1 a2 t241 x8_1 ji7 (Int.tmod (wrap64 (a0)) (ji9)) (Int.tmod (wrap64 (a1)) (ji9)) t242 true)) else (solventlaw05_FieldAxioms.j1 k1 a0 a1 a2 t241 x8_1 ji7 (Int.tmod (wrap64 (a0)) (ji9)) (Int.tmod (wrap64 (a1)) (ji9)) t242 true)) else (solventlaw05_FieldAxioms.j1 k1 a0 a1 a2 t241 x8_1 ji7 (Int.tmod (wrap64 (a0)) (ji9)) (Int.tmod (wrap64 (a1)) (ji9)) t242 true)) else (solventlaw05_FieldAxioms.j1 k1 a0 a1 a2 t241 x8_1 ji7 (Int.tmod (wrap64 (a0)) (ji9)) (Int.tmod (wrap64 (a1)) (ji9)) t242 true)))))) = some r := H
            have A21 := Aside0.mk A210
            clear A210
            replace H := Option.bind_eq_some_iff.mp H
            obtain ⟨⟨t256, t257⟩, A220, H⟩ := H
            replace H : ((field_Add.f (ji7) t242 t256).bind fun bt258 => ((field_Mul.f k1 (ji7) (Int.tmod (wrap64 (a0)) (ji9)) 1).bind fun bt260 => ((field_Add.f (ji7) (Int.tmod (wrap64 (a0)) (ji9)) (Int.tmod (wrap64 (a0)) (ji9))).bind fun bt262 => (if t242 = t244 then (if t248 = t250 then (if t254 = bt258.1 then (if bt260.1 = (Int.tmod (wrap64 (a0)) (ji9)) then (solventlaw05_FieldAxioms.j1 k1 a0 a1 a2 t241 x8_1 ji7 (Int.tmod (wrap64 (a0)) (ji9)) (Int.tmod (wrap64 (a1)) (ji9)) t242 (bt262.1 != 0)) else (solventlaw05_FieldAxioms.j1 k1 a0 a1 a2 t241 x8_1 ji7 (Int.tmod (wrap64 (a0)) (ji9)) (Int.tmod (wrap64 (a1)) (ji9)) t242 true)) else (solventlaw05_FieldAxioms.j1 k1 a0 a1 a2 t241 x8_1 ji7 (Int.tmod (wrap64 (a0)) (ji9)) (Int.tmod (wrap64 (a1)) (ji9)) t242 true)) else (solventlaw05_FieldAxioms.j1 k1 a0 a1 a2 t241 x8_1 ji7 (Int.tmod (wrap64 (a0)) (ji9)) (Int.tmod (wrap64 (a1)) (ji9)) t242 true)) else (solventlaw05_FieldAxioms.j1 k1 a0 a1 a2 t241 x8_1 ji7 (Int.tmod (wrap64 (a0)) (ji9)) (Int.tmod (wrap64 (a1)) (ji9)) t242 true))))) = some r := H
            have A22 := Aside0.mk A220
            clear A220
            replace H := Option.bind_eq_some_iff.mp H
            obtain ⟨⟨t258, t259⟩, A230, H⟩ := H
            replace H : ((field_Mul.f k1 (ji7) (Int.tmod (wrap64 (a0)) (ji9)) 1).bind fun bt260 => ((field_Add.f (ji7) (Int.tmod (wrap64 (a0)) (ji9)) (Int.tmod (wrap64 (a0)) (ji9))).bind fun bt262 => (if t242 = t244 then (if t248 = t250 then (if t254 = t258 then (if bt260.1 = (Int.tmod (wrap64 (a0)) (ji9)) then (solventlaw05_FieldAxioms.j1 k1 a0 a1 a2 t241 x8_1 ji7 (Int.tmod (wrap64 (a0)) (ji9)) (Int.tmod (wrap64 (a1)) (ji9)) t242 (bt262.1 != 0)) else (solventlaw05_FieldAxioms.j1 k1 a0 a1 a2 t241 x8_1 ji7 (Int.tmod (wrap64 (a0)) (ji9)) (Int.tmod (wrap64 (a1)) (ji9)) t242 true)) else (solventlaw05_FieldAxioms.j1 k1 a0 a1 a2 t241 x8_1 ji7 (Int.tmod (wrap64 (a0)) (ji9)) (Int.tmod (wrap64 (a1)) (ji9)) t242 true)) else (solventlaw05_FieldAxioms.j1 k1 a0 a1 a2 t241 x8_1 ji7 (Int.tmod (wrap64 (a0)) (ji9)) (Int.tmod (wrap64 (a1)) (ji9)) t242 true)) else (solventlaw05_FieldAxioms.j1 k1 a0 a1 a2 t241 x8_1 ji7 (Int.tmod (wrap64 (a0)) (ji9)) (Int.tmod (wrap64 (a1)) (ji9)) t242 true)))) = some r := H
            have A23 := Aside0.mk A230
            clear A230
            replace H := Option.bind_eq_some_iff.mp H
            obtain ⟨⟨t260, t261⟩, A240, H⟩ := H
            replace H : ((field_Add.f (ji7) (Int.tmod (wrap64 (a0)) (ji9)) (Int.tmod (wrap64 (a0)) (ji9))).bind fun bt262 => (if t242 = t244 then (if t248 = t250 then (if t254 = t258 then (if t260 = (Int.tmod (wrap64 (a0)) (ji9)) then (solventlaw05_FieldAxioms.j1 k1 a0 a1 a2 t241 x8_1 ji7 (Int.tmod (wrap64 (a0)) (ji9)) (Int.tmod (wrap64 (a1)) (ji9)) t242 (bt262.1 != 0)) else (solventlaw05_FieldAxioms.j1 k1 a0 a1 a2 t241 x8_1 ji7 (Int.tmod (wrap64 (a0)) (ji9)) (Int.tmod (wrap64 (a1)) (ji9)) t242 true)) else (solventlaw05_FieldAxioms.j1 k1 a0 a1 a2 t241 x8_1 ji7 (Int.tmod (wrap64 (a0)) (ji9)) (Int.tmod (wrap64 (a1)) (ji9)) t242 true)) else (solventlaw05_FieldAxioms.j1 k1 a0 a1 a2 t241 x8_1 ji7 (Int.tmod (wrap64 (a0)) (ji9)) (Int.tmod (wrap64 (a1)) (ji9)) t242 true)) else (solventlaw05_FieldAxioms.j1 k1 a0 a1 a2 t241 x8_1 ji7 (Int.tmod (wrap64 (a0)) (ji9)) (Int.tmod (wrap64 (a1)) (ji9)) t242 true))) = some r := H
            have A24 := Aside0.mk A240
            clear A240
            replace H := Option.bind_eq_some_iff.mp H
            obtain ⟨⟨t262, t263⟩, A250, H⟩ := H
            replace H : (if t242 = t244 then (if t248 = t250 then (if t254 = t258 then (if t260 = (Int.tmod (wrap64 (a0)) (ji9)) then (solventlaw05_FieldAxioms.j1 k1 a0 a1 a2 t241 x8_1 ji7 (Int.tmod (wrap64 (a0)) (ji9)) (Int.tmod (wrap64 (a1)) (ji9)) t242 (t262 != 0)) else (solventlaw05_FieldAxioms.j1 k1 a0 a1 a2 t241 x8_1 ji7 (Int.tmod (wrap64 (a0)) (ji9)) (Int.tmod (wrap64 (a1)) (ji9)) t242 true)) else (solventlaw05_FieldAxioms.j1 k1 a0 a1 a2 t241 x8_1 ji7 (Int.tmod (wrap64 (a0)) (ji9)) (Int.tmod (wrap64 (a1)) (ji9)) t242 true)) else (solventlaw05_FieldAxioms.j1 k1 a0 a1 a2 t241 x8_1 ji7 (Int.tmod (wrap64 (a0)) (ji9)) (Int.tmod (wrap64 (a1)) (ji9)) t242 true)) else (solventlaw05_FieldAxioms.j1 k1 a0 a1 a2 t241 x8_1 ji7 (Int.tmod (wrap64 (a0)) (ji9)) (Int.tmod (wrap64 (a1)) (ji9)) t242 true)) = some r := H
            have A25 := Aside0.mk A250
            clear A250
            have HC26 := Aside0.mk H
            clear H
            go_upto_region 20 with (first | ((with_reducible refine gate_callee (f := 17) rfl ?_); refine goesL_ (some 64) rfl rfl Tryd.func17 (by kernel_rfl) rfl #[.int .i64 ji7, .int .i64 (Int.tmod (wrap64 (a0)) (ji9)), .int .i64 (Int.tmod (wrap64 (a1)) (ji9))] rfl (by (try simp only [List.map_toArray, List.map_cons, List.map_nil]); first | done | (simp only [hji7, hji9]; rfl) | rfl | (simp only [List.length_drop, List.length_take]; rfl)) ?_; (with_reducible refine (field_Mul.calls k1 ji7 (Int.tmod (wrap64 (a0)) (ji9)) (Int.tmod (wrap64 (a1)) (ji9)) t242 t243 _ ?side1 A15.out).mono ?_); (case side1 => refine FF.below HF.out ?_; repeat (first | (with_reducible first | exact HB.out | apply below_alloc | apply pw_below_drewN | apply below_drew1) | exact HB.out)); rintro e w27 ⟨rfl, hb⟩; refine ⟨_, rfl, ?_⟩; have n0_ := Aside0.mk (below_step (by repeat (first | (with_reducible first | exact HB.out | apply below_alloc | apply pw_below_drewN | apply below_drew1) | exact HB.out)) hb); clear HB; have HB := n0_; clear n0_; (try clear hb); (try clear hb2); (try clear hk); (try clear hi)) | ((with_reducible refine gate_callee (f := 17) rfl ?_); refine goesL_ (some 71) rfl rfl Tryd.func17 (by kernel_rfl) rfl #[.int .i64 ji7, .int .i64 (Int.tmod (wrap64 (a1)) (ji9)), .int .i64 (Int.tmod (wrap64 (a0)) (ji9))] rfl (by (try simp only [List.map_toArray, List.map_cons, List.map_nil]); first | done | (simp only [hji7, hji9]; rfl) | rfl | (simp only [List.length_drop, List.length_take]; rfl)) ?_; (with_reducible refine (field_Mul.calls k1 ji7 (Int.tmod (wrap64 (a1)) (ji9)) (Int.tmod (wrap64 (a0)) (ji9)) t244 t245 _ ?side1 A16.out).mono ?_); (case side1 => refine FF.below HF.out ?_; repeat (first | (with_reducible first | exact HB.out | apply below_alloc | apply pw_below_drewN | apply below_drew1) | exact HB.out)); rintro e w28 ⟨rfl, hb⟩; refine ⟨_, rfl, ?_⟩; have n0_ := Aside0.mk (below_step (by repeat (first | (with_reducible first | exact HB.out | apply below_alloc | apply pw_below_drewN | apply below_drew1) | exact HB.out)) hb); clear HB; have HB := n0_; clear n0_; (try clear hb); (try clear hb2); (try clear hk); (try clear hi)) | ((with_reducible refine gate_callee (f := 17) rfl ?_); refine goesL_ (some 78) rfl rfl Tryd.func17 (by kernel_rfl) rfl #[.int .i64 ji7, .int .i64 (Int.tmod (wrap64 (a1)) (ji9)), .int .i64 (Int.tmod (wrap64 (a2)) (ji9))] rfl (by (try simp only [List.map_toArray, List.map_cons, List.map_nil]); first | done | (simp only [hji7, hji9]; rfl) | rfl | (simp only [List.length_drop, List.length_take]; rfl)) ?_; (with_reducible refine (field_Mul.calls k1 ji7 (Int.tmod (wrap64 (a1)) (ji9)) (Int.tmod (wrap64 (a2)) (ji9)) t246 t247 _ ?side1 A17.out).mono ?_); (case side1 => refine FF.below HF.out ?_; repeat (first | (with_reducible first | exact HB.out | apply below_alloc | apply pw_below_drewN | apply below_drew1) | exact HB.out)); rintro e w29 ⟨rfl, hb⟩; refine ⟨_, rfl, ?_⟩; have n0_ := Aside0.mk (below_step (by repeat (first | (with_reducible first | exact HB.out | apply below_alloc | apply pw_below_drewN | apply below_drew1) | exact HB.out)) hb); clear HB; have HB := n0_; clear n0_; (try clear hb); (try clear hb2); (try clear hk); (try clear hi)) | ((with_reducible refine gate_callee (f := 17) rfl ?_); refine goesL_ (some 85) rfl rfl Tryd.func17 (by kernel_rfl) rfl #[.int .i64 ji7, .int .i64 t242, .int .i64 (Int.tmod (wrap64 (a2)) (ji9))] rfl (by (try simp only [List.map_toArray, List.map_cons, List.map_nil]); first | done | (simp only [hji7, hji9]; rfl) | rfl | (simp only [List.length_drop, List.length_take]; rfl)) ?_; (with_reducible refine (field_Mul.calls k1 ji7 t242 (Int.tmod (wrap64 (a2)) (ji9)) t248 t249 _ ?side1 A18.out).mono ?_); (case side1 => refine FF.below HF.out ?_; repeat (first | (with_reducible first | exact HB.out | apply below_alloc | apply pw_below_drewN | apply below_drew1) | exact HB.out)); rintro e w30 ⟨rfl, hb⟩; refine ⟨_, rfl, ?_⟩; have n0_ := Aside0.mk (below_step (by repeat (first | (with_reducible first | exact HB.out | apply below_alloc | apply pw_below_drewN | apply below_drew1) | exact HB.out)) hb); clear HB; have HB := n0_; clear n0_; (try clear hb); (try clear hb2); (try clear hk); (try clear hi)) | ((with_reducible refine gate_callee (f := 17) rfl ?_); refine goesL_ (some 92) rfl rfl Tryd.func17 (by kernel_rfl) rfl #[.int .i64 ji7, .int .i64 (Int.tmod (wrap64 (a0)) (ji9)), .int .i64 t246] rfl (by (try simp only [List.map_toArray, List.map_cons, List.map_nil]); first | done | (simp only [hji7, hji9]; rfl) | rfl | (simp only [List.length_drop, List.length_take]; rfl)) ?_; (with_reducible refine (field_Mul.calls k1 ji7 (Int.tmod (wrap64 (a0)) (ji9)) t246 t250 t251 _ ?side1 A19.out).mono ?_); (case side1 => refine FF.below HF.out ?_; repeat (first | (with_reducible first | exact HB.out | apply below_alloc | apply pw_below_drewN | apply below_drew1) | exact HB.out)); rintro e w31 ⟨rfl, hb⟩; refine ⟨_, rfl, ?_⟩; have n0_ := Aside0.mk (below_step (by repeat (first | (with_reducible first | exact HB.out | apply below_alloc | apply pw_below_drewN | apply below_drew1) | exact HB.out)) hb); clear HB; have HB := n0_; clear n0_; (try clear hb); (try clear hb2); (try clear hk); (try clear hi)) | ((with_reducible refine gate_callee (f := 18) rfl ?_); refine goesL_ (some 99) rfl rfl Tryd.func18 (by kernel_rfl) rfl #[.int .i64 ji7, .int .i64 (Int.tmod (wrap64 (a1)) (ji9)), .int .i64 (Int.tmod (wrap64 (a2)) (ji9))] rfl (by (try simp only [List.map_toArray, List.map_cons, List.map_nil]); first | done | (simp only [hji7, hji9]; rfl) | rfl | (simp only [List.length_drop, List.length_take]; rfl)) ?_; (with_reducible refine (field_Add.calls ji7 (Int.tmod (wrap64 (a1)) (ji9)) (Int.tmod (wrap64 (a2)) (ji9)) t252 t253 _ ?side1 A20.out).mono ?_); (case side1 => refine FF.below HF.out ?_; repeat (first | (with_reducible first | exact HB.out | apply below_alloc | apply pw_below_drewN | apply below_drew1) | exact HB.out)); rintro e w32 ⟨rfl, hb⟩; refine ⟨_, rfl, ?_⟩; have n0_ := Aside0.mk (below_step (by repeat (first | (with_reducible first | exact HB.out | apply below_alloc | apply pw_below_drewN | apply below_drew1) | exact HB.out)) hb); clear HB; have HB := n0_; clear n0_; (try clear hb); (try clear hb2); (try clear hk); (try clear hi)) | ((with_reducible refine gate_callee (f := 17) rfl ?_); refine goesL_ (some 106) rfl rfl Tryd.func17 (by kernel_rfl) rfl #[.int .i64 ji7, .int .i64 (Int.tmod (wrap64 (a0)) (ji9)), .int .i64 t252] rfl (by (try simp only [List.map_toArray, List.map_cons, List.map_nil]); first | done | (simp only [hji7, hji9]; rfl) | rfl | (simp only [List.length_drop, List.length_take]; rfl)) ?_; (with_reducible refine (field_Mul.calls k1 ji7 (Int.tmod (wrap64 (a0)) (ji9)) t252 t254 t255 _ ?side1 A21.out).mono ?_); (case side1 => refine FF.below HF.out ?_; repeat (first | (with_reducible first | exact HB.out | apply below_alloc | apply pw_below_drewN | apply below_drew1) | exact HB.out)); rintro e w33 ⟨rfl, hb⟩; refine ⟨_, rfl, ?_⟩; have n0_ := Aside0.mk (below_step (by repeat (first | (with_reducible first | exact HB.out | apply below_alloc | apply pw_below_drewN | apply below_drew1) | exact HB.out)) hb); clear HB; have HB := n0_; clear n0_; (try clear hb); (try clear hb2); (try clear hk); (try clear hi)) | ((with_reducible refine gate_callee (f := 17) rfl ?_); refine goesL_ (some 113) rfl rfl Tryd.func17 (by kernel_rfl) rfl #[.int .i64 ji7, .int .i64 (Int.tmod (wrap64 (a0)) (ji9)), .int .i64 (Int.tmod (wrap64 (a2)) (ji9))] rfl (by (try simp only [List.map_toArray, List.map_cons, List.map_nil]); first | done | (simp only [hji7, hji9]; rfl) | rfl | (simp only [List.length_drop, List.length_take]; rfl)) ?_; (with_reducible refine (field_Mul.calls k1 ji7 (Int.tmod (wrap64 (a0)) (ji9)) (Int.tmod (wrap64 (a2)) (ji9)) t256 t257 _ ?side1 A22.out).mono ?_); (case side1 => refine FF.below HF.out ?_; repeat (first | (with_reducible first | exact HB.out | apply below_alloc | apply pw_below_drewN | apply below_drew1) | exact HB.out)); rintro e w34 ⟨rfl, hb⟩; refine ⟨_, rfl, ?_⟩; have n0_ := Aside0.mk (below_step (by repeat (first | (with_reducible first | exact HB.out | apply below_alloc | apply pw_below_drewN | apply below_drew1) | exact HB.out)) hb); clear HB; have HB := n0_; clear n0_; (try clear hb); (try clear hb2); (try clear hk); (try clear hi)) | ((with_reducible refine gate_callee (f := 18) rfl ?_); refine goesL_ (some 120) rfl rfl Tryd.func18 (by kernel_rfl) rfl #[.int .i64 ji7, .int .i64 t242, .int .i64 t256] rfl (by (try simp only [List.map_toArray, List.map_cons, List.map_nil]); first | done | (simp only [hji7]; rfl) | rfl | (simp only [List.length_drop, List.length_take]; rfl)) ?_; (with_reducible refine (field_Add.calls ji7 t242 t256 t258 t259 _ ?side1 A23.out).mono ?_); (case side1 => refine FF.below HF.out ?_; repeat (first | (with_reducible first | exact HB.out | apply below_alloc | apply pw_below_drewN | apply below_drew1) | exact HB.out)); rintro e w35 ⟨rfl, hb⟩; refine ⟨_, rfl, ?_⟩; have n0_ := Aside0.mk (below_step (by repeat (first | (with_reducible first | exact HB.out | apply below_alloc | apply pw_below_drewN | apply below_drew1) | exact HB.out)) hb); clear HB; have HB := n0_; clear n0_; (try clear hb); (try clear hb2); (try clear hk); (try clear hi)) | ((with_reducible refine gate_callee (f := 17) rfl ?_); refine goesL_ (some 126) rfl rfl Tryd.func17 (by kernel_rfl) rfl #[.int .i64 ji7, .int .i64 (Int.tmod (wrap64 (a0)) (ji9)), .int .i64 1] rfl (by (try simp only [List.map_toArray, List.map_cons, List.map_nil]); first | done | (simp only [hji7, hji9]; rfl) | rfl | (simp only [List.length_drop, List.length_take]; rfl)) ?_; (with_reducible refine (field_Mul.calls k1 ji7 (Int.tmod (wrap64 (a0)) (ji9)) 1 t260 t261 _ ?side1 A24.out).mono ?_); (case side1 => refine FF.below HF.out ?_; repeat (first | (with_reducible first | exact HB.out | apply below_alloc | apply pw_below_drewN | apply below_drew1) | exact HB.out)); rintro e w36 ⟨rfl, hb⟩; refine ⟨_, rfl, ?_⟩; have n0_ := Aside0.mk (below_step (by repeat (first | (with_reducible first | exact HB.out | apply below_alloc | apply pw_below_drewN | apply below_drew1) | exact HB.out)) hb); clear HB; have HB := n0_; clear n0_; (try clear hb); (try clear hb2); (try clear hk); (try clear hi)) | ((with_reducible refine gate_callee (f := 18) rfl ?_); refine goesL_ (some 133) rfl rfl Tryd.func18 (by kernel_rfl) rfl #[.int .i64 ji7, .int .i64 (Int.tmod (wrap64 (a0)) (ji9)), .int .i64 (Int.tmod (wrap64 (a0)) (ji9))] rfl (by (try simp only [List.map_toArray, List.map_cons, List.map_nil]); first | done | (simp only [hji7, hji9]; rfl) | rfl | (simp only [List.length_drop, List.length_take]; rfl)) ?_; (with_reducible refine (field_Add.calls ji7 (Int.tmod (wrap64 (a0)) (ji9)) (Int.tmod (wrap64 (a0)) (ji9)) t262 t263 _ ?side1 A25.out).mono ?_); (case side1 => refine FF.below HF.out ?_; repeat (first | (with_reducible first | exact HB.out | apply below_alloc | apply pw_below_drewN | apply below_drew1) | exact HB.out)); rintro e w37 ⟨rfl, hb⟩; refine ⟨_, rfl, ?_⟩; have n0_ := Aside0.mk (below_step (by repeat (first | (with_reducible first | exact HB.out | apply below_alloc | apply pw_below_drewN | apply below_drew1) | exact HB.out)) hb); clear HB; have HB := n0_; clear n0_; (try clear hb); (try clear hb2); (try clear hk); (try clear hi)))
            (try simp only [Act.put, List.setIfInBounds_toArray, List.set_cons_zero, List.set_cons_succ])
            go_cut [157] (fun v157 wc => ∃ (kq : Nat) (x157_25 : Bool), v157 = .bool x157_25 ∧ Aside0 (solventlaw05_FieldAxioms.j1 kq a0 a1 a2 t241 x8_1 ji7 (Int.tmod (wrap64 (a0)) (ji9)) (Int.tmod (wrap64 (a1)) (ji9)) t242 x157_25 = some r) ∧ Aside0 (kq ≤ k1) ∧ Aside0 (Below w.heap.size w wc))
            case first =>
              have H := HC26.out
              clear HC26
              by_cases c38 : t242 = t244
              · rw [if_pos c38] at H
                have c38b0 : (t242 == t244) = true := beq_iff_eq.mpr c38
                have c38b1 : (t242 != t244) = false := bne_eq_false_iff_eq.mpr c38
                clear c38
                (first | rw [c38b0] | (simp only [i64_w, i32_w]; rw [c38b0]) | skip)
                by_cases c39 : t248 = t250
                · rw [if_pos c39] at H
                  have c39b0 : (t248 == t250) = true := beq_iff_eq.mpr c39
                  have c39b1 : (t248 != t250) = false := bne_eq_false_iff_eq.mpr c39
                  clear c39
                  by_cases c40 : t254 = t258
                  · rw [if_pos c40] at H
                    have c40b0 : (t254 == t258) = true := beq_iff_eq.mpr c40
                    have c40b1 : (t254 != t258) = false := bne_eq_false_iff_eq.mpr c40
                    clear c40
                    by_cases c41 : t260 = (Int.tmod (wrap64 (a0)) (ji9))
                    · rw [if_pos c41] at H
                      have c41b0 : (t260 == (Int.tmod (wrap64 (a0)) (ji9))) = true := beq_iff_eq.mpr c41
                      have c41b1 : (t260 != (Int.tmod (wrap64 (a0)) (ji9))) = false := bne_eq_false_iff_eq.mpr c41
                      clear c41
                      have H' := Aside0.mk H
                      clear H
                      go_wp2
                      go_meet
                      case rel => exact ⟨_, ((t262 != 0)), (by first | rfl | (simp; done) | (simp [*]; done)), H', ⟨by have := HK1.out; first | omega | exact Nat.le_refl _⟩, ⟨by repeat (first | (with_reducible first | exact HB.out | apply below_alloc | apply pw_below_drewN | apply below_drew1) | exact HB.out)⟩⟩
                    · rw [if_neg c41] at H
                      have c41b0 : (t260 == (Int.tmod (wrap64 (a0)) (ji9))) = false := beq_eq_false_iff_ne.mpr c41
                      have c41b1 : (t260 != (Int.tmod (wrap64 (a0)) (ji9))) = true := bne_iff_ne.mpr c41
                      have H' := Aside0.mk H
                      clear H
                      go_wp2
                      go_meet
                      case rel => exact ⟨_, (true), (by first | rfl | (simp; done) | (simp [*]; done)), H', ⟨by have := HK1.out; first | omega | exact Nat.le_refl _⟩, ⟨by repeat (first | (with_reducible first | exact HB.out | apply below_alloc | apply pw_below_drewN | apply below_drew1) | exact HB.out)⟩⟩
                  · rw [if_neg c40] at H
                    have c40b0 : (t254 == t258) = false := beq_eq_false_iff_ne.mpr c40
                    have c40b1 : (t254 != t258) = true := bne_iff_ne.mpr c40
                    have H' := Aside0.mk H
                    clear H
                    go_wp2
                    go_meet
                    case rel => exact ⟨_, (true), (by first | rfl | (simp; done) | (simp [*]; done)), H', ⟨by have := HK1.out; first | omega | exact Nat.le_refl _⟩, ⟨by repeat (first | (with_reducible first | exact HB.out | apply below_alloc | apply pw_below_drewN | apply below_drew1) | exact HB.out)⟩⟩
                · rw [if_neg c39] at H
                  have c39b0 : (t248 == t250) = false := beq_eq_false_iff_ne.mpr c39
                  have c39b1 : (t248 != t250) = true := bne_iff_ne.mpr c39
                  have H' := Aside0.mk H
                  clear H
                  go_wp2
                  go_meet
                  case rel => exact ⟨_, (true), (by first | rfl | (simp; done) | (simp [*]; done)), H', ⟨by have := HK1.out; first | omega | exact Nat.le_refl _⟩, ⟨by repeat (first | (with_reducible first | exact HB.out | apply below_alloc | apply pw_below_drewN | apply below_drew1) | exact HB.out)⟩⟩
              · rw [if_neg c38] at H
                have c38b0 : (t242 == t244) = false := beq_eq_false_iff_ne.mpr c38
                have c38b1 : (t242 != t244) = true := bne_iff_ne.mpr c38
                (first | rw [c38b0] | (simp only [i64_w, i32_w]; rw [c38b0]) | skip)
                have H' := Aside0.mk H
                clear H
                go_wp2
                go_meet
                case rel => exact ⟨_, (true), (by first | rfl | (simp; done) | (simp [*]; done)), H', ⟨by have := HK1.out; first | omega | exact Nat.le_refl _⟩, ⟨by repeat (first | (with_reducible first | exact HB.out | apply below_alloc | apply pw_below_drewN | apply below_drew1) | exact HB.out)⟩⟩
            case rest =>
              clear HC26
              try clear c1
              try clear p2
              try clear c3
              try clear c4
              try clear c5
              try clear c6
              try clear c6b0
              try clear p6
              try clear c8
              try clear c8b0
              try clear c8b1
              try clear c9
              try clear c10
              try clear c10b0
              try clear c10b1
              try clear c11
              try clear c11b0
              try clear c12
              try clear c12b0
              try clear c13
              try clear c13b0
              try clear c14
              try clear c14b0
              try clear c17
              try clear c18
              try clear c38
              try clear c38b0
              try clear c38b1
              try clear c39
              try clear c39b0
              try clear c39b1
              try clear c40
              try clear c40b0
              try clear c40b1
              try clear c41
              try clear c41b0
              try clear c41b1
              try clear p2
              obtain ⟨kq, x157_25, rfl, HA, HJ25, HB⟩ := hcut
              cases kq with
              | zero => exact absurd HA.out (by simp [solventlaw05_FieldAxioms.j1])
              | succ kj25 =>
                have H := HA.out
                clear HA
                simp only [solventlaw05_FieldAxioms.j1] at H
                by_cases c42 : x157_25 = true
                · subst c42
                  have H1 : (some false) = some r := by rw [if_pos rfl] at H; exact H
                  clear H
                  have H := H1
                  clear H1
                  obtain rfl := Option.some.inj H
                  go_wp2
                  go_ret
                  exact ⟨by first | rfl | (simp [errW_none, errW_some] <;> rfl) | (simp only [← hji7, ← hji9]; first | rfl | (simp [errW_none, errW_some] <;> rfl)) | (simp [*, errW_none, errW_some] <;> rfl), by repeat (first | (with_reducible first | exact HB.out | apply below_alloc | apply pw_below_drewN | apply below_drew1) | exact HB.out)⟩
                · replace c42 := Bool.eq_false_iff.mpr c42
                  subst c42
                  have H1 : ((field_Div.f kj25 ji7 t242 (Int.tmod (wrap64 (a1)) (ji9))).bind fun bt264 => (if (Int.tmod (wrap64 (a1)) (ji9)) = 0 then (if bt264.2 = 12 then (solventlaw05_FieldAxioms.l0 kj25 a0 a1 a2 t241 (wrap64 (x8_1 + 1))) else (some false)) else (if bt264.2 = 0 then (if bt264.1 = (Int.tmod (wrap64 (a0)) (ji9)) then (solventlaw05_FieldAxioms.l0 kj25 a0 a1 a2 t241 (wrap64 (x8_1 + 1))) else (some false)) else (some false)))) = some r := by rw [if_neg (show ¬ (false = true) by decide)] at H; exact H
                  clear H
                  have H := H1
                  clear H1
                  replace H := Option.bind_eq_some_iff.mp H
                  obtain ⟨⟨t264, t265⟩, A430, H⟩ := H
                  replace H : (if (Int.tmod (wrap64 (a1)) (ji9)) = 0 then (if t265 = 12 then (solventlaw05_FieldAxioms.l0 kj25 a0 a1 a2 t241 (wrap64 (x8_1 + 1))) else (some false)) else (if t265 = 0 then (if t264 = (Int.tmod (wrap64 (a0)) (ji9)) then (solventlaw05_FieldAxioms.l0 kj25 a0 a1 a2 t241 (wrap64 (x8_1 + 1))) else (some false)) else (some false))) = some r := H
                  have A43 := Aside0.mk A430
                  clear A430
                  by_cases c44 : (Int.tmod (wrap64 (a1)) (ji9)) = 0
                  · rw [if_pos c44] at H
                    have c44b0 : ((Int.tmod (wrap64 (a1)) (ji9)) == 0) = true := beq_iff_eq.mpr c44
                    have c44b1 : ((Int.tmod (wrap64 (a1)) (ji9)) != 0) = false := bne_eq_false_iff_eq.mpr c44
                    clear c44
                    by_cases c45 : t265 = 12
                    · rw [if_pos c45] at H
                      have c45b0 : (t265 == 12) = true := beq_iff_eq.mpr c45
                      have c45b1 : (t265 != 12) = false := bne_eq_false_iff_eq.mpr c45
                      clear c45
                      have H' := Aside0.mk H
                      clear H
                      go_wp2_with (first | ((with_reducible refine gate_callee (f := 19) rfl ?_); refine goesL_ (some 162) rfl rfl Tryd.func19 (by kernel_rfl) rfl #[.int .i64 ji7, .int .i64 t242, .int .i64 (Int.tmod (wrap64 (a1)) (ji9))] rfl (by (try simp only [List.map_toArray, List.map_cons, List.map_nil]); first | done | (simp only [hji7, hji9]; rfl) | rfl | (simp only [List.length_drop, List.length_take]; rfl)) ?_; (with_reducible refine (field_Div.calls kj25 ji7 t242 (Int.tmod (wrap64 (a1)) (ji9)) t264 t265 _ ?side1 A43.out).mono ?_); (case side1 => refine FF.below HF.out ?_; repeat (first | (with_reducible first | exact HB.out | apply below_alloc | apply pw_below_drewN | apply below_drew1) | exact HB.out)); rintro e w46 ⟨rfl, hb⟩; refine ⟨_, rfl, ?_⟩; have n0_ := Aside0.mk (below_step (by repeat (first | (with_reducible first | exact HB.out | apply below_alloc | apply pw_below_drewN | apply below_drew1) | exact HB.out)) hb); clear HB; have HB := n0_; clear n0_; (try clear hb); (try clear hb2); (try clear hk); (try clear hi)))
                      go_roundg kj25
                      case measure => have := HK1.out; have := HJ25.out; omega
                      case rel => exact ⟨(wrap64 (x8_1 + 1)), (by first | rfl | (simp; done) | (simp [*]; done)), H', ⟨by have := HK1.out; have := HJ25.out; omega⟩, ⟨by repeat (first | (with_reducible first | exact HB.out | apply below_alloc | apply pw_below_drewN | apply below_drew1) | exact HB.out)⟩⟩
                    · rw [if_neg c45] at H
                      have c45b0 : (t265 == 12) = false := beq_eq_false_iff_ne.mpr c45
                      have c45b1 : (t265 != 12) = true := bne_iff_ne.mpr c45
                      obtain rfl := Option.some.inj H
                      go_wp2_with (first | ((with_reducible refine gate_callee (f := 19) rfl ?_); refine goesL_ (some 162) rfl rfl Tryd.func19 (by kernel_rfl) rfl #[.int .i64 ji7, .int .i64 t242, .int .i64 (Int.tmod (wrap64 (a1)) (ji9))] rfl (by (try simp only [List.map_toArray, List.map_cons, List.map_nil]); first | done | (simp only [hji7, hji9]; rfl) | rfl | (simp only [List.length_drop, List.length_take]; rfl)) ?_; (with_reducible refine (field_Div.calls kj25 ji7 t242 (Int.tmod (wrap64 (a1)) (ji9)) t264 t265 _ ?side1 A43.out).mono ?_); (case side1 => refine FF.below HF.out ?_; repeat (first | (with_reducible first | exact HB.out | apply below_alloc | apply pw_below_drewN | apply below_drew1) | exact HB.out)); rintro e w47 ⟨rfl, hb⟩; refine ⟨_, rfl, ?_⟩; have n0_ := Aside0.mk (below_step (by repeat (first | (with_reducible first | exact HB.out | apply below_alloc | apply pw_below_drewN | apply below_drew1) | exact HB.out)) hb); clear HB; have HB := n0_; clear n0_; (try clear hb); (try clear hb2); (try clear hk); (try clear hi)))
                      go_ret
                      exact ⟨by first | rfl | (simp [errW_none, errW_some] <;> rfl) | (simp only [← hji7, ← hji9]; first | rfl | (simp [errW_none, errW_some] <;> rfl)) | (simp [*, errW_none, errW_some] <;> rfl), by repeat (first | (with_reducible first | exact HB.out | apply below_alloc | apply pw_below_drewN | apply below_drew1) | exact HB.out)⟩
                  · rw [if_neg c44] at H
                    have c44b0 : ((Int.tmod (wrap64 (a1)) (ji9)) == 0) = false := beq_eq_false_iff_ne.mpr c44
                    have c44b1 : ((Int.tmod (wrap64 (a1)) (ji9)) != 0) = true := bne_iff_ne.mpr c44
                    by_cases c48 : t265 = 0
                    · rw [if_pos c48] at H
                      have c48b0 : (t265 == 0) = true := beq_iff_eq.mpr c48
                      have c48b1 : (t265 != 0) = false := bne_eq_false_iff_eq.mpr c48
                      clear c48
                      by_cases c49 : t264 = (Int.tmod (wrap64 (a0)) (ji9))
                      · rw [if_pos c49] at H
                        have c49b0 : (t264 == (Int.tmod (wrap64 (a0)) (ji9))) = true := beq_iff_eq.mpr c49
                        have c49b1 : (t264 != (Int.tmod (wrap64 (a0)) (ji9))) = false := bne_eq_false_iff_eq.mpr c49
                        clear c49
                        have H' := Aside0.mk H
                        clear H
                        go_wp2_with (first | ((with_reducible refine gate_callee (f := 19) rfl ?_); refine goesL_ (some 162) rfl rfl Tryd.func19 (by kernel_rfl) rfl #[.int .i64 ji7, .int .i64 t242, .int .i64 (Int.tmod (wrap64 (a1)) (ji9))] rfl (by (try simp only [List.map_toArray, List.map_cons, List.map_nil]); first | done | (simp only [hji7, hji9]; rfl) | rfl | (simp only [List.length_drop, List.length_take]; rfl)) ?_; (with_reducible refine (field_Div.calls kj25 ji7 t242 (Int.tmod (wrap64 (a1)) (ji9)) t264 t265 _ ?side1 A43.out).mono ?_); (case side1 => refine FF.below HF.out ?_; repeat (first | (with_reducible first | exact HB.out | apply below_alloc | apply pw_below_drewN | apply below_drew1) | exact HB.out)); rintro e w50 ⟨rfl, hb⟩; refine ⟨_, rfl, ?_⟩; have n0_ := Aside0.mk (below_step (by repeat (first | (with_reducible first | exact HB.out | apply below_alloc | apply pw_below_drewN | apply below_drew1) | exact HB.out)) hb); clear HB; have HB := n0_; clear n0_; (try clear hb); (try clear hb2); (try clear hk); (try clear hi)))
                        go_roundg kj25
                        case measure => have := HK1.out; have := HJ25.out; omega
                        case rel => exact ⟨(wrap64 (x8_1 + 1)), (by first | rfl | (simp; done) | (simp [*]; done)), H', ⟨by have := HK1.out; have := HJ25.out; omega⟩, ⟨by repeat (first | (with_reducible first | exact HB.out | apply below_alloc | apply pw_below_drewN | apply below_drew1) | exact HB.out)⟩⟩
                      · rw [if_neg c49] at H
                        have c49b0 : (t264 == (Int.tmod (wrap64 (a0)) (ji9))) = false := beq_eq_false_iff_ne.mpr c49
                        have c49b1 : (t264 != (Int.tmod (wrap64 (a0)) (ji9))) = true := bne_iff_ne.mpr c49
                        obtain rfl := Option.some.inj H
                        go_wp2_with (first | ((with_reducible refine gate_callee (f := 19) rfl ?_); refine goesL_ (some 162) rfl rfl Tryd.func19 (by kernel_rfl) rfl #[.int .i64 ji7, .int .i64 t242, .int .i64 (Int.tmod (wrap64 (a1)) (ji9))] rfl (by (try simp only [List.map_toArray, List.map_cons, List.map_nil]); first | done | (simp only [hji7, hji9]; rfl) | rfl | (simp only [List.length_drop, List.length_take]; rfl)) ?_; (with_reducible refine (field_Div.calls kj25 ji7 t242 (Int.tmod (wrap64 (a1)) (ji9)) t264 t265 _ ?side1 A43.out).mono ?_); (case side1 => refine FF.below HF.out ?_; repeat (first | (with_reducible first | exact HB.out | apply below_alloc | apply pw_below_drewN | apply below_drew1) | exact HB.out)); rintro e w51 ⟨rfl, hb⟩; refine ⟨_, rfl, ?_⟩; have n0_ := Aside0.mk (below_step (by repeat (first | (with_reducible first | exact HB.out | apply below_alloc | apply pw_below_drewN | apply below_drew1) | exact HB.out)) hb); clear HB; have HB := n0_; clear n0_; (try clear hb); (try clear hb2); (try clear hk); (try clear hi)))
                        go_ret
                        exact ⟨by first | rfl | (simp [errW_none, errW_some] <;> rfl) | (simp only [← hji7, ← hji9]; first | rfl | (simp [errW_none, errW_some] <;> rfl)) | (simp [*, errW_none, errW_some] <;> rfl), by repeat (first | (with_reducible first | exact HB.out | apply below_alloc | apply pw_below_drewN | apply below_drew1) | exact HB.out)⟩
                    · rw [if_neg c48] at H
                      have c48b0 : (t265 == 0) = false := beq_eq_false_iff_ne.mpr c48
                      have c48b1 : (t265 != 0) = true := bne_iff_ne.mpr c48
                      obtain rfl := Option.some.inj H
                      go_wp2_with (first | ((with_reducible refine gate_callee (f := 19) rfl ?_); refine goesL_ (some 162) rfl rfl Tryd.func19 (by kernel_rfl) rfl #[.int .i64 ji7, .int .i64 t242, .int .i64 (Int.tmod (wrap64 (a1)) (ji9))] rfl (by (try simp only [List.map_toArray, List.map_cons, List.map_nil]); first | done | (simp only [hji7, hji9]; rfl) | rfl | (simp only [List.length_drop, List.length_take]; rfl)) ?_; (with_reducible refine (field_Div.calls kj25 ji7 t242 (Int.tmod (wrap64 (a1)) (ji9)) t264 t265 _ ?side1 A43.out).mono ?_); (case side1 => refine FF.below HF.out ?_; repeat (first | (with_reducible first | exact HB.out | apply below_alloc | apply pw_below_drewN | apply below_drew1) | exact HB.out)); rintro e w52 ⟨rfl, hb⟩; refine ⟨_, rfl, ?_⟩; have n0_ := Aside0.mk (below_step (by repeat (first | (with_reducible first | exact HB.out | apply below_alloc | apply pw_below_drewN | apply below_drew1) | exact HB.out)) hb); clear HB; have HB := n0_; clear n0_; (try clear hb); (try clear hb2); (try clear hk); (try clear hi)))
                      go_ret
                      exact ⟨by first | rfl | (simp [errW_none, errW_some] <;> rfl) | (simp only [← hji7, ← hji9]; first | rfl | (simp [errW_none, errW_some] <;> rfl)) | (simp [*, errW_none, errW_some] <;> rfl), by repeat (first | (with_reducible first | exact HB.out | apply below_alloc | apply pw_below_drewN | apply below_drew1) | exact HB.out)⟩
        · rw [if_neg c8] at H
          exact absurd H (by simp)
      · rw [if_neg c6] at H
        have c6b0 : decide (x8_1 < 2) = false := decide_eq_false c6
        clear c6
        obtain rfl := Option.some.inj H
        go_wp2
        go_ret
        exact ⟨by first | rfl | (simp [errW_none, errW_some] <;> rfl) | (simp [*, errW_none, errW_some] <;> rfl), by repeat (first | (with_reducible first | exact HB.out | apply below_alloc | apply pw_below_drewN | apply below_drew1) | exact HB.out)⟩

/-! ### field_Pow: function 20 -/
mutual
def field_Pow.j1 : Nat → Int → Int → Int → Option (Int × Int)
  | 0, _, _, _ => none
  | k + 1, x0, x1, x2 => if 0 ≤ x0 then (if (wrap64 ((shl .i64 1 x0) - 1)) = 0 then (none) else (field_Pow.l0 k x0 x1 (Int.tmod (wrap64 ((Int.tmod x2 (wrap64 ((shl .i64 1 x0) - 1))) + (wrap64 ((shl .i64 1 x0) - 1)))) (wrap64 ((shl .i64 1 x0) - 1))) 1)) else (none)
def field_Pow.l0 : Nat → Int → Int → Int → Int → Option (Int × Int)
  | 0, _, _, _, _ => none
  | k + 1, x0, x1, x2, x9 => if x2 > 0 then (if (Go.bits .and .i64 x2 1) = 0 then ((field_product.f k x0 x1 x1).bind fun t270 => (field_Pow.l0 k x0 t270 (x2 / 2) x9)) else ((field_product.f k x0 x9 x1).bind fun t271 => ((field_product.f k x0 x1 x1).bind fun t272 => (field_Pow.l0 k x0 t272 (x2 / 2) t271)))) else (some (x9, 0))
def field_Pow.j0 : Nat → Int → Int → Int → Bool → Option (Int × Int)
  | 0, _, _, _, _ => none
  | k + 1, x0, x1, x2, x16 => if x16 = true then (some (0, 12)) else (if x1 = 0 then (if x2 > 0 then (some (0, 0)) else (field_Pow.j1 k x0 x1 x2)) else (field_Pow.j1 k x0 x1 x2))
end
def field_Pow.f (k : Nat) (a0 : Int) (a1 : Int) (a2 : Int) : Option (Int × Int) := (field_all.f a0 (([a1] : List Int))).bind fun t269 => (if t269 = true then (if a1 = 0 then (field_Pow.j0 k a0 a1 a2 (decide (a2 < 0))) else (field_Pow.j0 k a0 a1 a2 false)) else (some (0, 1)))
theorem field_Pow.mono_l : ∀ k, (∀ y0 y1 y2, LeO (field_Pow.j1 k y0 y1 y2) (field_Pow.j1 (k + 1) y0 y1 y2)) ∧ (∀ y0 y1 y2 y3, LeO (field_Pow.l0 k y0 y1 y2 y3) (field_Pow.l0 (k + 1) y0 y1 y2 y3)) ∧ (∀ y0 y1 y2 y3, LeO (field_Pow.j0 k y0 y1 y2 y3) (field_Pow.j0 (k + 1) y0 y1 y2 y3))
  | 0 => ⟨fun _ _ _ r h => by simp [field_Pow.j1] at h, fun _ _ _ _ r h => by simp [field_Pow.l0] at h, fun _ _ _ _ r h => by simp [field_Pow.j0] at h⟩
  | k + 1 => by
    obtain ⟨ih0, ih1, ih2⟩ := field_Pow.mono_l k
    refine ⟨?_, ?_, ?_⟩
    · intro y0 y1 y2
      unfold field_Pow.j1
      repeat' first
      | (with_reducible exact ih0 _ _ _)
      | (with_reducible exact ih1 _ _ _ _)
      | (with_reducible exact ih2 _ _ _ _)
      | (with_reducible exact field_product.mono _ _ _ _)
      | (with_reducible exact LeO.refl _)
      | (with_reducible exact LeO.none _)
      | (with_reducible refine LeO.ite ?_ ?_)
      | (with_reducible refine LeO.bind ?_ (fun _ => ?_))
      | exact ih0 _ _ _
      | exact ih1 _ _ _ _
      | exact ih2 _ _ _ _
      | exact field_product.mono _ _ _ _
      | exact LeO.none _
      | refine LeO.ite ?_ ?_
      | refine LeO.bind ?_ (fun _ => ?_)
    · intro y0 y1 y2 y3
      unfold field_Pow.l0
      repeat' first
      | (with_reducible exact ih0 _ _ _)
      | (with_reducible exact ih1 _ _ _ _)
      | (with_reducible exact ih2 _ _ _ _)
      | (with_reducible exact field_product.mono _ _ _ _)
      | (with_reducible exact LeO.refl _)
      | (with_reducible exact LeO.none _)
      | (with_reducible refine LeO.ite ?_ ?_)
      | (with_reducible refine LeO.bind ?_ (fun _ => ?_))
      | exact ih0 _ _ _
      | exact ih1 _ _ _ _
      | exact ih2 _ _ _ _
      | exact field_product.mono _ _ _ _
      | exact LeO.none _
      | refine LeO.ite ?_ ?_
      | refine LeO.bind ?_ (fun _ => ?_)
    · intro y0 y1 y2 y3
      unfold field_Pow.j0
      repeat' first
      | (with_reducible exact ih0 _ _ _)
      | (with_reducible exact ih1 _ _ _ _)
      | (with_reducible exact ih2 _ _ _ _)
      | (with_reducible exact field_product.mono _ _ _ _)
      | (with_reducible exact LeO.refl _)
      | (with_reducible exact LeO.none _)
      | (with_reducible refine LeO.ite ?_ ?_)
      | (with_reducible refine LeO.bind ?_ (fun _ => ?_))
      | exact ih0 _ _ _
      | exact ih1 _ _ _ _
      | exact ih2 _ _ _ _
      | exact field_product.mono _ _ _ _
      | exact LeO.none _
      | refine LeO.ite ?_ ?_
      | refine LeO.bind ?_ (fun _ => ?_)
theorem field_Pow.mono : ∀ a0 a1 a2 k, LeO (field_Pow.f k a0 a1 a2) (field_Pow.f (k + 1) a0 a1 a2) := by
  intro a0 a1 a2 k
  obtain ⟨ih0, ih1, ih2⟩ := field_Pow.mono_l k
  unfold field_Pow.f
  repeat' first
      | (with_reducible exact ih0 _ _ _)
      | (with_reducible exact ih1 _ _ _ _)
      | (with_reducible exact ih2 _ _ _ _)
      | (with_reducible exact field_product.mono _ _ _ _)
      | (with_reducible exact LeO.refl _)
      | (with_reducible exact LeO.none _)
      | (with_reducible refine LeO.ite ?_ ?_)
      | (with_reducible refine LeO.bind ?_ (fun _ => ?_))
      | exact ih0 _ _ _
      | exact ih1 _ _ _ _
      | exact ih2 _ _ _ _
      | exact field_product.mono _ _ _ _
      | exact LeO.none _
      | refine LeO.ite ?_ ?_
      | refine LeO.bind ?_ (fun _ => ?_)
set_option maxHeartbeats 8000000 in
set_option maxRecDepth 100000 in
theorem field_Pow.calls (k : Nat) (a0 : Int) (a1 : Int) (a2 : Int) (r1 : Int) (r2 : Int) (w : World) (hff : FF w) (h : field_Pow.f k a0 a1 a2 = some (r1, r2)) :
    Calls Tryd.prog 20 #[.int .i64 a0, .int .i64 a1, .int .i64 a2] w fun e w' => e = .returned (.tuple #[.int .i64 r1, .int .i64 r2]) ∧ Below w.heap.size w w' := by
  have HF := Aside0.mk hff
  clear hff
  have HB := Aside0.mk (Below.refl w.heap.size w)
  have H : ((field_all.f a0 (([a1] : List Int))).bind fun t269 => (if t269 = true then (if a1 = 0 then (field_Pow.j0 k a0 a1 a2 (decide (a2 < 0))) else (field_Pow.j0 k a0 a1 a2 false)) else (some (0, 1)))) = some (r1, r2) := h
  clear h
  have HC4 := Aside0.mk H
  clear H
  go_enter Tryd.func20, Tryd.ntmps20
  go_upto_block 0 with (fail)
  go_cut [] (fun wc => ∃ (kq : Nat), Aside0 (field_Pow.j1 kq a0 a1 a2 = some (r1, r2)) ∧ Aside0 (kq ≤ k) ∧ Aside0 (Below w.heap.size w wc))
  case first =>
    have H := HC4.out
    clear HC4
    obtain ⟨y266, hy266⟩ : ∃ y_ : List Int, y_ = (([a1] : List Int)) := ⟨_, rfl⟩
    replace H : ((field_all.f a0 y266).bind fun t269 => (if t269 = true then (if a1 = 0 then (field_Pow.j0 k a0 a1 a2 (decide (a2 < 0))) else (field_Pow.j0 k a0 a1 a2 false)) else (some (0, 1)))) = some (r1, r2) := by first | (rw [hy266]; with_reducible exact H) | (have H2_ := (Option.bind_some _ _).symm.trans H; rw [hy266]; with_reducible exact H2_) | (have H2_ := (Option.bind_some _ _).symm.trans H; with_reducible exact H2_) | with_reducible exact H | (rw [hy266]; exact H) | exact H
    have Ny266 := Aside0.mk hy266
    clear hy266
    replace H := Option.bind_eq_some_iff.mp H
    obtain ⟨t269, A50, H⟩ := H
    replace H : (if t269 = true then (if a1 = 0 then (field_Pow.j0 k a0 a1 a2 (decide (a2 < 0))) else (field_Pow.j0 k a0 a1 a2 false)) else (some (0, 1))) = some (r1, r2) := H
    have A5 := Aside0.mk A50
    clear A50
    by_cases c6 : t269 = true
    · subst c6
      have H1 : (if a1 = 0 then (field_Pow.j0 k a0 a1 a2 (decide (a2 < 0))) else (field_Pow.j0 k a0 a1 a2 false)) = some (r1, r2) := by rw [if_pos rfl] at H; exact H
      clear H
      have H := H1
      clear H1
      have HC7 := Aside0.mk H
      clear H
      go_upto_region 3 with (first | ((with_reducible refine gate_dst (N := 13) rfl ?_); refine Kd.R_lit (Kd.int .i64) _ 3 ?hg (N := 13) ?hd (xs := ([a1] : List Int)) (inner := [.int .i64 a1]) (ok := fun _ => True) (okp := fun _ => True) ?hr ?hp (fun _ hk => hk) trivial (Below.refl _ _) (Nat.le_refl _) (by simp) ?_; (case hd => rfl); (case hg => rfl); (case hr => first | (go_simp; done) | (go_simp; rfl)); (case hp => exact (Reps.one (show Kd.M (Kd.int .i64) _ _ _ a1 [.int .i64 a1] from rfl) (Reps.none _ _))); intro v267 w8 ho9 hb hg_ hnew_; clear hg_ hnew_; (first | rw [← Ny266.out] at ho9 | (simp only [Int.reduceToNat] at ho9; rw [← Ny266.out] at ho9)); have n0_ := Aside0.mk (Kd.R_lower ho9 (below_size (by repeat (first | (with_reducible first | exact HB.out | apply below_alloc | apply pw_below_drewN | apply below_drew1) | exact HB.out)))); have n1_ := Aside0.mk (below_step (by repeat (first | (with_reducible first | exact HB.out | apply below_alloc | apply pw_below_drewN | apply below_drew1) | exact HB.out)) hb); clear HB; have HO268 := n0_; have HB := n1_; clear n0_ n1_; clear hb ho9; obtain ⟨Ao10, co10, eo10⟩ := Kd.R_slice HO268.out; subst eo10) | ((with_reducible refine gate_callee (f := 31) rfl ?_); refine goesL_ (some 14) rfl rfl Tryd.func31 (by kernel_rfl) rfl #[.int .i64 a0, .slice Ao10 y266.length co10] rfl (by (try simp only [List.map_toArray, List.map_cons, List.map_nil]); first | done | rfl | (simp only [List.length_drop, List.length_take]; rfl)) ?_; (with_reducible refine (field_all.calls a0 _ _ y266 true _ ?side1 ?side2 ?side3 A5.out).mono ?_); (case side1 => refine FF.below HF.out ?_; repeat (first | (with_reducible first | exact HB.out | apply below_alloc | apply pw_below_drewN | apply below_drew1) | exact HB.out)); (case side2 => repeat (first | exact (Kd.R_reads' HO268.out).2.2 | (with_reducible refine Kd.C_alloc ?_ _) | (with_reducible refine Kd.C_drewN ?_ _) | (with_reducible refine Kd.C_drew ?_))); (case side3 => exact (Kd.R_reads' HO268.out).2.1); rintro e w11 ⟨rfl, hb⟩; refine ⟨_, rfl, ?_⟩; have n0_ := Aside0.mk (Kd.R_below (by (with_reducible repeat (first | apply Kd.R_alloc | apply Kd.R_drewN | apply Kd.R_drew)); exact HO268.out) hb); have n1_ := Aside0.mk (below_step (by repeat (first | (with_reducible first | exact HB.out | apply below_alloc | apply pw_below_drewN | apply below_drew1) | exact HB.out)) hb); clear HO268; clear HB; have HO268 := n0_; have HB := n1_; clear n0_ n1_; (try clear hb); (try clear hb2); (try clear hk); (try clear hi)))
      (try simp only [Act.put, List.setIfInBounds_toArray, List.set_cons_zero, List.set_cons_succ])
      go_cut [16] (fun v16 wc => ∃ (kq : Nat) (x16_6 : Bool), v16 = .bool x16_6 ∧ Aside0 (field_Pow.j0 kq a0 a1 a2 x16_6 = some (r1, r2)) ∧ Aside0 (kq ≤ k) ∧ Aside0 (Below w.heap.size w wc))
      case first =>
        have H := HC7.out
        clear HC7
        by_cases c12 : a1 = 0
        · rw [if_pos c12] at H
          have c12b0 : (a1 == 0) = true := beq_iff_eq.mpr c12
          have c12b1 : (a1 != 0) = false := bne_eq_false_iff_eq.mpr c12
          clear c12
          (first | rw [c12b0] | (simp only [i64_w, i32_w]; rw [c12b0]) | skip)
          have H' := Aside0.mk H
          clear H
          go_wp2
          go_meet
          case rel => exact ⟨_, (decide (a2 < 0)), (by first | rfl | (simp; done) | (simp [*]; done)), H', ⟨by first | omega | exact Nat.le_refl _⟩, ⟨by repeat (first | (with_reducible first | exact HB.out | apply below_alloc | apply pw_below_drewN | apply below_drew1) | exact HB.out)⟩⟩
        · rw [if_neg c12] at H
          have c12b0 : (a1 == 0) = false := beq_eq_false_iff_ne.mpr c12
          have c12b1 : (a1 != 0) = true := bne_iff_ne.mpr c12
          (first | rw [c12b0] | (simp only [i64_w, i32_w]; rw [c12b0]) | skip)
          have H' := Aside0.mk H
          clear H
          go_wp2
          go_meet
          case rel => exact ⟨_, (false), (by first | rfl | (simp; done) | (simp [*]; done)), H', ⟨by first | omega | exact Nat.le_refl _⟩, ⟨by repeat (first | (with_reducible first | exact HB.out | apply below_alloc | apply pw_below_drewN | apply below_drew1) | exact HB.out)⟩⟩
      case rest =>
        clear HC7
        try clear c1
        try clear c2
        try clear p2
        try clear c3
        try clear c6
        try clear c12
        try clear c12b0
        try clear c12b1
        obtain ⟨kq, x16_6, rfl, HA, HJ6, HB⟩ := hcut
        cases kq with
        | zero => exact absurd HA.out (by simp [field_Pow.j0])
        | succ kj6 =>
          have H := HA.out
          clear HA
          simp only [field_Pow.j0] at H
          by_cases c13 : x16_6 = true
          · subst c13
            have H1 : (some (0, 12)) = some (r1, r2) := by rw [if_pos rfl] at H; exact H
            clear H
            have H := H1
            clear H1
            simp only [Option.some.injEq, Prod.mk.injEq] at H
            obtain ⟨rfl, rfl⟩ := H
            go_wp2
            go_ret2
            exact ⟨by first | rfl | (simp [errW_none, errW_some] <;> rfl) | (simp [*, errW_none, errW_some] <;> rfl), by repeat (first | (with_reducible first | exact HB.out | apply below_alloc | apply pw_below_drewN | apply below_drew1) | exact HB.out)⟩
          · replace c13 := Bool.eq_false_iff.mpr c13
            subst c13
            have H1 : (if a1 = 0 then (if a2 > 0 then (some (0, 0)) else (field_Pow.j1 kj6 a0 a1 a2)) else (field_Pow.j1 kj6 a0 a1 a2)) = some (r1, r2) := by rw [if_neg (show ¬ (false = true) by decide)] at H; exact H
            clear H
            have H := H1
            clear H1
            by_cases c14 : a1 = 0
            · rw [if_pos c14] at H
              have c14b0 : (a1 == 0) = true := beq_iff_eq.mpr c14
              have c14b1 : (a1 != 0) = false := bne_eq_false_iff_eq.mpr c14
              clear c14
              by_cases c15 : a2 > 0
              · rw [if_pos c15] at H
                have c15b0 : decide (0 < a2) = true := decide_eq_true c15
                clear c15
                simp only [Option.some.injEq, Prod.mk.injEq] at H
                obtain ⟨rfl, rfl⟩ := H
                go_wp2
                go_ret2
                exact ⟨by first | rfl | (simp [errW_none, errW_some] <;> rfl) | (simp [*, errW_none, errW_some] <;> rfl), by repeat (first | (with_reducible first | exact HB.out | apply below_alloc | apply pw_below_drewN | apply below_drew1) | exact HB.out)⟩
              · rw [if_neg c15] at H
                have c15b0 : decide (0 < a2) = false := decide_eq_false c15
                clear c15
                have H' := Aside0.mk H
                clear H
                go_wp2
                go_meet
                case rel => exact ⟨_, H', ⟨by have := HJ6.out; first | omega | exact Nat.le_refl _⟩, ⟨by repeat (first | (with_reducible first | exact HB.out | apply below_alloc | apply pw_below_drewN | apply below_drew1) | exact HB.out)⟩⟩
            · rw [if_neg c14] at H
              have c14b0 : (a1 == 0) = false := beq_eq_false_iff_ne.mpr c14
              have c14b1 : (a1 != 0) = true := bne_iff_ne.mpr c14
              have H' := Aside0.mk H
              clear H
              go_wp2
              go_meet
              case rel => exact ⟨_, H', ⟨by have := HJ6.out; first | omega | exact Nat.le_refl _⟩, ⟨by repeat (first | (with_reducible first | exact HB.out | apply below_alloc | apply pw_below_drewN | apply below_drew1) | exact HB.out)⟩⟩
    · replace c6 := Bool.eq_false_iff.mpr c6
      subst c6
      have H1 : (some (0, 1)) = some (r1, r2) := by rw [if_neg (show ¬ (false = true) by decide)] at H; exact H
      clear H
      have H := H1
      clear H1
      simp only [Option.some.injEq, Prod.mk.injEq] at H
      obtain ⟨rfl, rfl⟩ := H
      go_wp2_with (first | ((with_reducible refine gate_dst (N := 13) rfl ?_); refine Kd.R_lit (Kd.int .i64) _ 3 ?hg (N := 13) ?hd (xs := ([a1] : List Int)) (inner := [.int .i64 a1]) (ok := fun _ => True) (okp := fun _ => True) ?hr ?hp (fun _ hk => hk) trivial (Below.refl _ _) (Nat.le_refl _) (by simp) ?_; (case hd => rfl); (case hg => rfl); (case hr => first | (go_simp; done) | (go_simp; rfl)); (case hp => exact (Reps.one (show Kd.M (Kd.int .i64) _ _ _ a1 [.int .i64 a1] from rfl) (Reps.none _ _))); intro v267 w16 ho17 hb hg_ hnew_; clear hg_ hnew_; (first | rw [← Ny266.out] at ho17 | (simp only [Int.reduceToNat] at ho17; rw [← Ny266.out] at ho17)); have n0_ := Aside0.mk (Kd.R_lower ho17 (below_size (by repeat (first | (with_reducible first | exact HB.out | apply below_alloc | apply pw_below_drewN | apply below_drew1) | exact HB.out)))); have n1_ := Aside0.mk (below_step (by repeat (first | (with_reducible first | exact HB.out | apply below_alloc | apply pw_below_drewN | apply below_drew1) | exact HB.out)) hb); clear HB; have HO268 := n0_; have HB := n1_; clear n0_ n1_; clear hb ho17; obtain ⟨Ao18, co18, eo18⟩ := Kd.R_slice HO268.out; subst eo18) | ((with_reducible refine gate_callee (f := 31) rfl ?_); refine goesL_ (some 14) rfl rfl Tryd.func31 (by kernel_rfl) rfl #[.int .i64 a0, .slice Ao18 y266.length co18] rfl (by (try simp only [List.map_toArray, List.map_cons, List.map_nil]); first | done | rfl | (simp only [List.length_drop, List.length_take]; rfl)) ?_; (with_reducible refine (field_all.calls a0 _ _ y266 false _ ?side1 ?side2 ?side3 A5.out).mono ?_); (case side1 => refine FF.below HF.out ?_; repeat (first | (with_reducible first | exact HB.out | apply below_alloc | apply pw_below_drewN | apply below_drew1) | exact HB.out)); (case side2 => repeat (first | exact (Kd.R_reads' HO268.out).2.2 | (with_reducible refine Kd.C_alloc ?_ _) | (with_reducible refine Kd.C_drewN ?_ _) | (with_reducible refine Kd.C_drew ?_))); (case side3 => exact (Kd.R_reads' HO268.out).2.1); rintro e w19 ⟨rfl, hb⟩; refine ⟨_, rfl, ?_⟩; have n0_ := Aside0.mk (Kd.R_below (by (with_reducible repeat (first | apply Kd.R_alloc | apply Kd.R_drewN | apply Kd.R_drew)); exact HO268.out) hb); have n1_ := Aside0.mk (below_step (by repeat (first | (with_reducible first | exact HB.out | apply below_alloc | apply pw_below_drewN | apply below_drew1) | exact HB.out)) hb); clear HO268; clear HB; have HO268 := n0_; have HB := n1_; clear n0_ n1_; (try clear hb); (try clear hb2); (try clear hk); (try clear hi)))
      go_ret2
      exact ⟨by first | rfl | (simp [errW_none, errW_some] <;> rfl) | (simp [*, errW_none, errW_some] <;> rfl), by repeat (first | (with_reducible first | exact HB.out | apply below_alloc | apply pw_below_drewN | apply below_drew1) | exact HB.out)⟩
  case rest =>
    clear HC4
    try clear c1
    try clear c2
    try clear p2
    try clear c3
    try clear c6
    try clear c12
    try clear c12b0
    try clear c12b1
    try clear c13
    try clear c14
    try clear c14b0
    try clear c14b1
    try clear c15
    try clear c15b0
    try clear p2
    obtain ⟨kq, HA, HJ3, HB⟩ := hcut
    cases kq with
    | zero => exact absurd HA.out (by simp [field_Pow.j1])
    | succ kj3 =>
      have H := HA.out
      clear HA
      simp only [field_Pow.j1] at H
      by_cases c20 : 0 ≤ a0
      · rw [if_pos c20] at H
        have c20b0 := eq_true c20
        have c20b1 : decide (0 ≤ a0) = true := decide_eq_true c20
        clear c20
        obtain ⟨ji21, hji21⟩ : ∃ j_ : Int, (shl .i64 1 a0) = j_ := ⟨_, rfl⟩
        replace H : (if (wrap64 ((ji21) - 1)) = 0 then (none) else (field_Pow.l0 kj3 a0 a1 (Int.tmod (wrap64 ((Int.tmod a2 (wrap64 ((ji21) - 1))) + (wrap64 ((ji21) - 1)))) (wrap64 ((ji21) - 1))) 1)) = some (r1, r2) := by first | (rw [hji21] at H; exact H) | (simp only [hji21] at H ⊢; exact H)
        have hji21_ : (IntKind.i64.wrap (1 * 2 ^ min a0.toNat 64)) = ji21 := hji21
        have hji21z : a0 ≤ 64 → (IntKind.i64.wrap (1 * 2 ^ a0.toNat)) = ji21 := shl_small hji21
        have hji21u : (IntKind.i64.wrap (2 ^ min a0.toNat 64)) = ji21 := by have h_ := hji21_; rw [Int.one_mul] at h_; exact h_
        have hji21v : a0 ≤ 64 → (IntKind.i64.wrap (2 ^ a0.toNat)) = ji21 := fun hle_ => by have h_ := hji21z hle_; rw [Int.one_mul] at h_; exact h_
        have hji21y : (wrap64 (1 * 2 ^ min a0.toNat 64)) = ji21 := (i64_w _).symm.trans hji21_
        have hji21x : a0 ≤ 64 → (wrap64 (1 * 2 ^ a0.toNat)) = ji21 := fun h_ => (i64_w _).symm.trans (hji21z h_)
        by_cases c22 : (wrap64 ((ji21) - 1)) = 0
        · rw [if_pos c22] at H
          exact absurd H (by simp)
        · rw [if_neg c22] at H
          have c22b0 : ((wrap64 ((ji21) - 1)) == 0) = false := beq_eq_false_iff_ne.mpr c22
          have c22b1 : ((wrap64 ((ji21) - 1)) != 0) = true := bne_iff_ne.mpr c22
          have H' := Aside0.mk H
          clear H
          go_wp2
          go_loopg [1, 2, 9] kj3 (fun kq v1 v2 v9 w' => ∃ (x1_2 : Int) (x2_2 : Int) (x9_2 : Int), v1 = .int .i64 x1_2 ∧ v2 = .int .i64 x2_2 ∧ v9 = .int .i64 x9_2 ∧ Aside0 (field_Pow.l0 kq a0 x1_2 x2_2 x9_2 = some (r1, r2)) ∧ Aside0 (kq ≤ kj3) ∧ Aside0 (Below w.heap.size w w'))
          case atStart => exact ⟨(a1), (Int.tmod (wrap64 ((Int.tmod a2 (wrap64 ((ji21) - 1))) + (wrap64 ((ji21) - 1)))) (wrap64 ((ji21) - 1))), (1), (by first | rfl | (simp; done) | (simp [*]; done)), (by first | rfl | (simp; done) | (simp only [← hji21] <;> (first | rfl | simp)) | (simp [*]; done)), (by first | rfl | (simp; done) | (simp [*]; done)), H', ⟨Nat.le_refl _⟩, ⟨by repeat (first | (with_reducible first | exact HB.out | apply below_alloc | apply pw_below_drewN | apply below_drew1) | exact HB.out)⟩⟩
          case round =>
            clear H'
            try clear c1
            try clear c2
            try clear p2
            try clear c3
            try clear c6
            try clear p6
            try clear c12
            try clear c12b0
            try clear c12b1
            try clear c13
            try clear c14
            try clear c14b0
            try clear c14b1
            try clear c15
            try clear c15b0
            try clear c20
            try clear c20b0
            try clear c20b1
            try clear c22
            try clear c22b0
            try clear c22b1
            try clear p2
            obtain ⟨x1_2, x2_2, x9_2, rfl, rfl, rfl, HA, HK2, HB⟩ := hrel
            cases gk with
            | zero => exact absurd HA.out (by simp [field_Pow.l0])
            | succ k2 =>
              have H := HA.out
              clear HA
              simp only [field_Pow.l0] at H
              by_cases c23 : x2_2 > 0
              · rw [if_pos c23] at H
                have c23b0 : decide (0 < x2_2) = true := decide_eq_true c23
                clear c23
                by_cases c24 : (Go.bits .and .i64 x2_2 1) = 0
                · rw [if_pos c24] at H
                  have c24b0 : ((Go.bits .and .i64 x2_2 1) == 0) = true := beq_iff_eq.mpr c24
                  have c24b1 : ((Go.bits .and .i64 x2_2 1) != 0) = false := bne_eq_false_iff_eq.mpr c24
                  clear c24
                  replace H := Option.bind_eq_some_iff.mp H
                  obtain ⟨t270, A250, H⟩ := H
                  replace H : (field_Pow.l0 k2 a0 t270 (x2_2 / 2) x9_2) = some (r1, r2) := H
                  have A25 := Aside0.mk A250
                  clear A250
                  have H' := Aside0.mk H
                  clear H
                  go_wp2_with (first | ((with_reducible refine gate_callee (f := 36) rfl ?_); refine goesL_ (some 54) rfl rfl Tryd.func36 (by kernel_rfl) rfl #[.int .i64 a0, .int .i64 x1_2, .int .i64 x1_2] rfl (by (try simp only [List.map_toArray, List.map_cons, List.map_nil]); first | done | rfl | (simp only [List.length_drop, List.length_take]; rfl)) ?_; (with_reducible refine (field_product.calls k2 a0 x1_2 x1_2 t270 _ ?side1 A25.out).mono ?_); (case side1 => refine FF.below HF.out ?_; repeat (first | (with_reducible first | exact HB.out | apply below_alloc | apply pw_below_drewN | apply below_drew1) | exact HB.out)); rintro e w26 ⟨rfl, hb⟩; refine ⟨_, rfl, ?_⟩; have n0_ := Aside0.mk (below_step (by repeat (first | (with_reducible first | exact HB.out | apply below_alloc | apply pw_below_drewN | apply below_drew1) | exact HB.out)) hb); clear HB; have HB := n0_; clear n0_; (try clear hb); (try clear hb2); (try clear hk); (try clear hi)))
                  go_roundg k2
                  case measure => have := HJ3.out; have := HK2.out; omega
                  case rel => exact ⟨(t270), (x2_2 / 2), (x9_2), (by first | rfl | (simp; done) | (simp [*]; done)), (by first | rfl | (simp; done) | (simp [*]; done)), (by first | rfl | (simp; done) | (simp [*]; done)), H', ⟨by have := HJ3.out; have := HK2.out; omega⟩, ⟨by repeat (first | (with_reducible first | exact HB.out | apply below_alloc | apply pw_below_drewN | apply below_drew1) | exact HB.out)⟩⟩
                · rw [if_neg c24] at H
                  have c24b0 : ((Go.bits .and .i64 x2_2 1) == 0) = false := beq_eq_false_iff_ne.mpr c24
                  have c24b1 : ((Go.bits .and .i64 x2_2 1) != 0) = true := bne_iff_ne.mpr c24
                  replace H := Option.bind_eq_some_iff.mp H
                  obtain ⟨t271, A270, H⟩ := H
                  replace H : ((field_product.f k2 a0 x1_2 x1_2).bind fun t272 => (field_Pow.l0 k2 a0 t272 (x2_2 / 2) t271)) = some (r1, r2) := H
                  have A27 := Aside0.mk A270
                  clear A270
                  replace H := Option.bind_eq_some_iff.mp H
                  obtain ⟨t272, A280, H⟩ := H
                  replace H : (field_Pow.l0 k2 a0 t272 (x2_2 / 2) t271) = some (r1, r2) := H
                  have A28 := Aside0.mk A280
                  clear A280
                  have H' := Aside0.mk H
                  clear H
                  go_wp2_with (first | ((with_reducible refine gate_callee (f := 36) rfl ?_); refine goesL_ (some 50) rfl rfl Tryd.func36 (by kernel_rfl) rfl #[.int .i64 a0, .int .i64 x9_2, .int .i64 x1_2] rfl (by (try simp only [List.map_toArray, List.map_cons, List.map_nil]); first | done | rfl | (simp only [List.length_drop, List.length_take]; rfl)) ?_; (with_reducible refine (field_product.calls k2 a0 x9_2 x1_2 t271 _ ?side1 A27.out).mono ?_); (case side1 => refine FF.below HF.out ?_; repeat (first | (with_reducible first | exact HB.out | apply below_alloc | apply pw_below_drewN | apply below_drew1) | exact HB.out)); rintro e w29 ⟨rfl, hb⟩; refine ⟨_, rfl, ?_⟩; have n0_ := Aside0.mk (below_step (by repeat (first | (with_reducible first | exact HB.out | apply below_alloc | apply pw_below_drewN | apply below_drew1) | exact HB.out)) hb); clear HB; have HB := n0_; clear n0_; (try clear hb); (try clear hb2); (try clear hk); (try clear hi)) | ((with_reducible refine gate_callee (f := 36) rfl ?_); refine goesL_ (some 54) rfl rfl Tryd.func36 (by kernel_rfl) rfl #[.int .i64 a0, .int .i64 x1_2, .int .i64 x1_2] rfl (by (try simp only [List.map_toArray, List.map_cons, List.map_nil]); first | done | rfl | (simp only [List.length_drop, List.length_take]; rfl)) ?_; (with_reducible refine (field_product.calls k2 a0 x1_2 x1_2 t272 _ ?side1 A28.out).mono ?_); (case side1 => refine FF.below HF.out ?_; repeat (first | (with_reducible first | exact HB.out | apply below_alloc | apply pw_below_drewN | apply below_drew1) | exact HB.out)); rintro e w30 ⟨rfl, hb⟩; refine ⟨_, rfl, ?_⟩; have n0_ := Aside0.mk (below_step (by repeat (first | (with_reducible first | exact HB.out | apply below_alloc | apply pw_below_drewN | apply below_drew1) | exact HB.out)) hb); clear HB; have HB := n0_; clear n0_; (try clear hb); (try clear hb2); (try clear hk); (try clear hi)))
                  go_roundg k2
                  case measure => have := HJ3.out; have := HK2.out; omega
                  case rel => exact ⟨(t272), (x2_2 / 2), (t271), (by first | rfl | (simp; done) | (simp [*]; done)), (by first | rfl | (simp; done) | (simp [*]; done)), (by first | rfl | (simp; done) | (simp [*]; done)), H', ⟨by have := HJ3.out; have := HK2.out; omega⟩, ⟨by repeat (first | (with_reducible first | exact HB.out | apply below_alloc | apply pw_below_drewN | apply below_drew1) | exact HB.out)⟩⟩
              · rw [if_neg c23] at H
                have c23b0 : decide (0 < x2_2) = false := decide_eq_false c23
                clear c23
                simp only [Option.some.injEq, Prod.mk.injEq] at H
                obtain ⟨rfl, rfl⟩ := H
                go_wp2
                go_ret2
                exact ⟨by first | rfl | (simp [errW_none, errW_some] <;> rfl) | (simp only [← hji21]; first | rfl | (simp [errW_none, errW_some] <;> rfl)) | (simp [*, errW_none, errW_some] <;> rfl), by repeat (first | (with_reducible first | exact HB.out | apply below_alloc | apply pw_below_drewN | apply below_drew1) | exact HB.out)⟩
      · rw [if_neg c20] at H
        exact absurd H (by simp)

end Go.Proofs.YtgmjaiknboafdaaDoor.P

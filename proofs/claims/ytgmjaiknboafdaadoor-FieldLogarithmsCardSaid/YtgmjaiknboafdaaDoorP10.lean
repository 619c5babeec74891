/- Plain functions that answer as the Go functions do, each with the proof that the machine's call does so. Written by a program of this session (wip/pr.py, around the kit's print.py). -/
import Derived.Test.YtgmjaiknboafdaaDoorP0
import Derived.Test.YtgmjaiknboafdaaDoorP3
import Derived.Test.YtgmjaiknboafdaaDoorP7
import Derived.Test.YtgmjaiknboafdaaDoorP9
namespace Go.Proofs.YtgmjaiknboafdaaDoor.P
open Go.RowKit Go.Proofs.YtgmjaiknboafdaaDoor.H Go.Proofs.YtgmjaiknboafdaaDoorW.PrintWords Go.Proofs.YtgmjaiknboafdaaDoorW.PrintLast Go.Proofs.YtgmjaiknboafdaaDoorW.PrintMore
attribute [local go_sem] max2_int min2_int max_two min_two max_three min_three max_four min_four   -- for this text's walks alone
set_option linter.unusedVariables false
set_option linter.unusedSimpArgs false

/-! ### solventlaw05_FieldLogarithms: function 8 -/
mutual
def solventlaw05_FieldLogarithms.l0 : Nat → Int → Int → Bool → Int → Option (Bool)
  | 0, _, _, _, _ => none
  | k + 1, x0, x1, x5, x6 => if x6 < 2 then (if 0 ≤ (wrap64 (8 + (wrap64 (8 * x6)))) then (if (wrap64 ((shl .i64 1 (wrap64 (8 + (wrap64 (8 * x6))))) - 1)) = 0 then (none) else ((field_Log.f k (wrap64 (8 + (wrap64 (8 * x6)))) (wrap64 (1 + (Int.tmod (wrap64 (x0)) (wrap64 ((shl .i64 1 (wrap64 (8 + (wrap64 (8 * x6))))) - 1)))))).bind fun bt337 => ((field_Log.f k (wrap64 (8 + (wrap64 (8 * x6)))) (wrap64 (1 + (Int.tmod (wrap64 (x1)) (wrap64 ((shl .i64 1 (wrap64 (8 + (wrap64 (8 * x6))))) - 1)))))).bind fun bt339 => ((field_Mul.f k (wrap64 (8 + (wrap64 (8 * x6)))) (wrap64 (1 + (Int.tmod (wrap64 (x0)) (wrap64 ((shl .i64 1 (wrap64 (8 + (wrap64 (8 * x6))))) - 1))))) (wrap64 (1 + (Int.tmod (wrap64 (x1)) (wrap64 ((shl .i64 1 (wrap64 (8 + (wrap64 (8 * x6))))) - 1)))))).bind fun bt341 => ((field_Log.f k (wrap64 (8 + (wrap64 (8 * x6)))) bt341.1).bind fun bt343 => ((field_Pow.f k (wrap64 (8 + (wrap64 (8 * x6)))) 2 bt337.1).bind fun bt345 => ((field_Log.f k (wrap64 (8 + (wrap64 (8 * x6)))) 0).bind fun bt347 => ((field_Log.f k (wrap64 (8 + (wrap64 (8 * x6)))) (shl .i64 1 (wrap64 (8 + (wrap64 (8 * x6)))))).bind fun bt349 => (if bt337.2 = 0 then (if bt339.2 = 0 then (if bt343.2 = 0 then (if bt345.2 = 0 then (if bt347.2 = 12 then (solventlaw05_FieldLogarithms.j1 k x0 x1 x5 x6 (wrap64 (8 + (wrap64 (8 * x6)))) (wrap64 ((shl .i64 1 (wrap64 (8 + (wrap64 (8 * x6))))) - 1)) (wrap64 (1 + (Int.tmod (wrap64 (x0)) (wrap64 ((shl .i64 1 (wrap64 (8 + (wrap64 (8 * x6))))) - 1))))) bt337.1 bt339.1 bt343.1 bt345.1 (bt349.2 != 1)) else (solventlaw05_FieldLogarithms.j1 k x0 x1 x5 x6 (wrap64 (8 + (wrap64 (8 * x6)))) (wrap64 ((shl .i64 1 (wrap64 (8 + (wrap64 (8 * x6))))) - 1)) (wrap64 (1 + (Int.tmod (wrap64 (x0)) (wrap64 ((shl .i64 1 (wrap64 (8 + (wrap64 (8 * x6))))) - 1))))) bt337.1 bt339.1 bt343.1 bt345.1 true)) else (solventlaw05_FieldLogarithms.j1 k x0 x1 x5 x6 (wrap64 (8 + (wrap64 (8 * x6)))) (wrap64 ((shl .i64 1 (wrap64 (8 + (wrap64 (8 * x6))))) - 1)) (wrap64 (1 + (Int.tmod (wrap64 (x0)) (wrap64 ((shl .i64 1 (wrap64 (8 + (wrap64 (8 * x6))))) - 1))))) bt337.1 bt339.1 bt343.1 bt345.1 true)) else (solventlaw05_FieldLogarithms.j1 k x0 x1 x5 x6 (wrap64 (8 + (wrap64 (8 * x6)))) (wrap64 ((shl .i64 1 (wrap64 (8 + (wrap64 (8 * x6))))) - 1)) (wrap64 (1 + (Int.tmod (wrap64 (x0)) (wrap64 ((shl .i64 1 (wrap64 (8 + (wrap64 (8 * x6))))) - 1))))) bt337.1 bt339.1 bt343.1 bt345.1 true)) else (solventlaw05_FieldLogarithms.j1 k x0 x1 x5 x6 (wrap64 (8 + (wrap64 (8 * x6)))) (wrap64 ((shl .i64 1 (wrap64 (8 + (wrap64 (8 * x6))))) - 1)) (wrap64 (1 + (Int.tmod (wrap64 (x0)) (wrap64 ((shl .i64 1 (wrap64 (8 + (wrap64 (8 * x6))))) - 1))))) bt337.1 bt339.1 bt343.1 bt345.1 true)) else (solventlaw05_FieldLogarithms.j1 k x0 x1 x5 x6 (wrap64 (8 + (wrap64 (8 * x6)))) (wrap64 ((shl .i64 1 (wrap64 (8 + (wrap64 (8 * x6))))) - 1)) (wrap64 (1 + (Int.tmod (wrap64 (x0)) (wrap64 ((shl .i64 1 (wrap64 (8 + (wrap64 (8 * x6))))) - 1))))) bt337.1 bt339.1 bt343.1 bt345.1 true)))))))))) else (none)) else (some x5)
def solventlaw05_FieldLogarithms.j1 : Nat → Int → Int → Bool → Int → Int → Int → Int → Int → Int → Int → Int → Bool → Option (Bool)
  | 0, _, _, _, _, _, _, _, _, _, _, _, _ => none
  | k + 1, x0, x1, x5, x6, x7, x8, x9, x11, x13, x17, x19, x112 => if x112 = true then (some false) else ((solventref05_Log.f k x7 x9).bind fun bt351 => (if x11 < 0 then (some false) else (if x11 ≥ x8 then (some false) else (if x11 = bt351.1 then (if x19 = x9 then (if x8 = 0 then (none) else (if x17 = (Int.tmod (wrap64 (x11 + x13)) x8) then (solventlaw05_FieldLogarithms.l0 k x0 x1 x5 (wrap64 (x6 + 1))) else (some false))) else (some false)) else (some false)))))
end
def solventlaw05_FieldLogarithms.f (k : Nat) (a0 : Int) (a1 : Int) : Option (Bool) := (solventlaw05_sanity.f k).bind fun t336 => (solventlaw05_FieldLogarithms.l0 k a0 a1 t336 0)
theorem solventlaw05_FieldLogarithms.mono_l : ∀ k, (∀ y0 y1 y2 y3, LeO (solventlaw05_FieldLogarithms.l0 k y0 y1 y2 y3) (solventlaw05_FieldLogarithms.l0 (k + 1) y0 y1 y2 y3)) ∧ (∀ y0 y1 y2 y3 y4 y5 y6 y7 y8 y9 y10 y11, LeO (solventlaw05_FieldLogarithms.j1 k y0 y1 y2 y3 y4 y5 y6 y7 y8 y9 y10 y11) (solventlaw05_FieldLogarithms.j1 (k + 1) y0 y1 y2 y3 y4 y5 y6 y7 y8 y9 y10 y11))
  | 0 => ⟨fun _ _ _ _ r h => by simp [solventlaw05_FieldLogarithms.l0] at h, fun _ _ _ _ _ _ _ _ _ _ _ _ r h => by simp [solventlaw05_FieldLogarithms.j1] at h⟩
  | k + 1 => by
    obtain ⟨ih0, ih1⟩ := solventlaw05_FieldLogarithms.mono_l k
    refine ⟨?_, ?_⟩
    · intro y0 y1 y2 y3
      unfold solventlaw05_FieldLogarithms.l0
      repeat' first
      | (with_reducible exact ih0 _ _ _ _)
      | (with_reducible exact ih1 _ _ _ _ _ _ _ _ _ _ _ _)
      | (with_reducible exact field_Log.mono _ _ _)
      | (with_reducible exact field_Mul.mono _ _ _ _)
      | (with_reducible exact field_Pow.mono _ _ _ _)
      | (with_reducible exact solventlaw05_sanity.mono _)
      | (with_reducible exact solventref05_Log.mono _ _ _)
      | (with_reducible exact LeO.refl _)
      | (with_reducible exact LeO.none _)
      | (with_reducible refine LeO.ite ?_ ?_)
      | (with_reducible refine LeO.bind ?_ (fun _ => ?_))
      | exact ih0 _ _ _ _
      | exact ih1 _ _ _ _ _ _ _ _ _ _ _ _
      | exact field_Log.mono _ _ _
      | exact field_Mul.mono _ _ _ _
      | exact field_Pow.mono _ _ _ _
      | exact solventlaw05_sanity.mono _
      | exact solventref05_Log.mono _ _ _
      | exact LeO.none _
      | refine LeO.ite ?_ ?_
      | refine LeO.bind ?_ (fun _ => ?_)
    · intro y0 y1 y2 y3 y4 y5 y6 y7 y8 y9 y10 y11
      unfold solventlaw05_FieldLogarithms.j1
      repeat' first
      | (with_reducible exact ih0 _ _ _ _)
      | (with_reducible exact ih1 _ _ _ _ _ _ _ _ _ _ _ _)
      | (with_reducible exact field_Log.mono _ _ _)
      | (with_reducible exact field_Mul.mono _ _ _ _)
      | (with_reducible exact field_Pow.mono _ _ _ _)
      | (with_reducible exact solventlaw05_sanity.mono _)
      | (with_reducible exact solventref05_Log.mono _ _ _)
      | (with_reducible exact LeO.refl _)
      | (with_reducible exact LeO.none _)
      | (with_reducible refine LeO.ite ?_ ?_)
      | (with_reducible refine LeO.bind ?_ (fun _ => ?_))
      | exact ih0 _ _ _ _
      | exact ih1 _ _ _ _ _ _ _ _ _ _ _ _
      | exact field_Log.mono _ _ _
      | exact field_Mul.mono _ _ _ _
      | exact field_Pow.mono _ _ _ _
      | exact solventlaw05_sanity.mono _
      | exact solventref05_Log.mono _ _ _
      | exact LeO.none _
      | refine LeO.ite ?_ ?_
      | refine LeO.bind ?_ (fun _ => ?_)
theorem solventlaw05_FieldLogarithms.mono : ∀ a0 a1 k, LeO (solventlaw05_FieldLogarithms.f k a0 a1) (solventlaw05_FieldLogarithms.f (k + 1) a0 a1) := by
  intro a0 a1 k
  obtain ⟨ih0, ih1⟩ := solventlaw05_FieldLogarithms.mono_l k
  unfold solventlaw05_FieldLogarithms.f
  repeat' first
      | (with_reducible exact ih0 _ _ _ _)
      | (with_reducible exact ih1 _ _ _ _ _ _ _ _ _ _ _ _)
      | (with_reducible exact field_Log.mono _ _ _)
      | (with_reducible exact field_Mul.mono _ _ _ _)
      | (with_reducible exact field_Pow.mono _ _ _ _)
      | (with_reducible exact solventlaw05_sanity.mono _)
      | (with_reducible exact solventref05_Log.mono _ _ _)
      | (with_reducible exact LeO.refl _)
      | (with_reducible exact LeO.none _)
      | (with_reducible refine LeO.ite ?_ ?_)
      | (with_reducible refine LeO.bind ?_ (fun _ => ?_))
      | exact ih0 _ _ _ _
      | exact ih1 _ _ _ _ _ _ _ _ _ _ _ _
      | exact field_Log.mono _ _ _
      | exact field_Mul.mono _ _ _ _
      | exact field_Pow.mono _ _ _ _
      | exact solventlaw05_sanity.mono _
      | exact solventref05_Log.mono _ _ _
      | exact LeO.none _
      | refine LeO.ite ?_ ?_
      | refine LeO.bind ?_ (fun _ => ?_)
set_option maxHeartbeats 8000000 in
set_option maxRecDepth 100000 in
theorem solventlaw05_FieldLogarithms.calls (k : Nat) (a0 : Int) (a1 : Int) (r : Bool) (w : World) (hff : FF w) (h : solventlaw05_FieldLogarithms.f k a0 a1 = some r) :
    Calls Tryd.prog 8 #[.int .u16 a0, .int .u16 a1] w fun e w' => e = .returned (.bool r) ∧ Below w.heap.size w w' := by
  have HF := Aside0.mk hff
  clear hff
  have HB := Aside0.mk (Below.refl w.heap.size w)
  have H : ((solventlaw05_sanity.f k).bind fun t336 => (solventlaw05_FieldLogarithms.l0 k a0 a1 t336 0)) = some r := h
  clear h
  replace H := Option.bind_eq_some_iff.mp H
  obtain ⟨t336, A30, H⟩ := H
  replace H : (solventlaw05_FieldLogarithms.l0 k a0 a1 t336 0) = some r := H
  have A3 := Aside0.mk A30
  clear A30
  have H' := Aside0.mk H
  clear H
  go_enter Tryd.func8, Tryd.ntmps8
  go_wp2_with (first | ((with_reducible refine gate_callee (f := 9) rfl ?_); refine goesL_ (some 27) rfl rfl Tryd.func9 (by kernel_rfl) rfl #[] rfl (by (try simp only [List.map_toArray, List.map_cons, List.map_nil]); first | done | rfl | (simp only [List.length_drop, List.length_take]; rfl)) ?_; (with_reducible refine (solventlaw05_sanity.calls k  t336 _ ?side1 A3.out).mono ?_); (case side1 => refine FF.below HF.out ?_; repeat (first | (with_reducible first | exact HB.out | apply below_alloc | apply pw_below_drewN | apply below_drew1) | exact HB.out)); rintro e w4 ⟨rfl, hb⟩; refine ⟨_, rfl, ?_⟩; have n0_ := Aside0.mk (below_step (by repeat (first | (with_reducible first | exact HB.out | apply below_alloc | apply pw_below_drewN | apply below_drew1) | exact HB.out)) hb); clear HB; have HB := n0_; clear n0_; (try clear hb); (try clear hb2); (try clear hk); (try clear hi)))
  go_loopg [6] k (fun kq v6 w' => ∃ (x6_1 : Int), v6 = .int .i64 x6_1 ∧ Aside0 (solventlaw05_FieldLogarithms.l0 kq a0 a1 t336 x6_1 = some r) ∧ Aside0 (kq ≤ k) ∧ Aside0 (Below w.heap.size w w'))
  case atStart => exact ⟨(0), (by first | rfl | (simp; done) | (simp [*]; done)), H', ⟨Nat.le_refl _⟩, ⟨by repeat (first | (with_reducible first | exact HB.out | apply below_alloc | apply pw_below_drewN | apply below_drew1) | exact HB.out)⟩⟩
  case round =>
    clear H'
    try clear p2
    obtain ⟨x6_1, rfl, HA, HK1, HB⟩ := hrel
    cases gk with
    | zero => exact absurd HA.out (by simp [solventlaw05_FieldLogarithms.l0])
    | succ k1 =>
      have H := HA.out
      clear HA
      simp only [solventlaw05_FieldLogarithms.l0] at H
      by_cases c5 : x6_1 < 2
      · rw [if_pos c5] at H
        have c5b0 : decide (x6_1 < 2) = true := decide_eq_true c5
        clear c5
        obtain ⟨ji6, hji6⟩ : ∃ j_ : Int, (wrap64 (8 + (wrap64 (8 * x6_1)))) = j_ := ⟨_, rfl⟩
        replace H : (if 0 ≤ (ji6) then (if (wrap64 ((shl .i64 1 (ji6)) - 1)) = 0 then (none) else ((field_Log.f k1 (ji6) (wrap64 (1 + (Int.tmod (wrap64 (a0)) (wrap64 ((shl .i64 1 (ji6)) - 1)))))).bind fun bt337 => ((field_Log.f k1 (ji6) (wrap64 (1 + (Int.tmod (wrap64 (a1)) (wrap64 ((shl .i64 1 (ji6)) - 1)))))).bind fun bt339 => ((field_Mul.f k1 (ji6) (wrap64 (1 + (Int.tmod (wrap64 (a0)) (wrap64 ((shl .i64 1 (ji6)) - 1))))) (wrap64 (1 + (Int.tmod (wrap64 (a1)) (wrap64 ((shl .i64 1 (ji6)) - 1)))))).bind fun bt341 => ((field_Log.f k1 (ji6) bt341.1).bind fun bt343 => ((field_Pow.f k1 (ji6) 2 bt337.1).bind fun bt345 => ((field_Log.f k1 (ji6) 0).bind fun bt347 => ((field_Log.f k1 (ji6) (shl .i64 1 (ji6))).bind fun bt349 => (if bt337.2 = 0 then (if bt339.2 = 0 then (if bt343.2 = 0 then (if bt345.2 = 0 then (if bt347.2 = 12 then (solventlaw05_FieldLogarithms.j1 k1 a0 a1 t336 x6_1 ji6 (wrap64 ((shl .i64 1 (ji6)) - 1)) (wrap64 (1 + (Int.tmod (wrap64 (a0)) (wrap64 ((shl .i64 1 (ji6)) - 1))))) bt337.1 bt339.1 bt343.1 bt345.1 (bt349.2 != 1)) else (solventlaw05_FieldLogarithms.j1 k1 a0 a1 t336 x6_1 ji6 (wrap64 ((shl .i64 1 (ji6)) - 1)) (wrap64 (1 + (Int.tmod (wrap64 (a0)) (wrap64 ((shl .i64 1 (ji6)) - 1))))) bt337.1 bt339.1 bt343.1 bt345.1 true)) else (solventlaw05_FieldLogarithms.j1 k1 a0 a1 t336 x6_1 ji6 (wrap64 ((shl .i64 1 (ji6)) - 1)) (wrap64 (1 + (Int.tmod (wrap64 (a0)) (wrap64 ((shl .i64 1 (ji6)) - 1))))) bt337.1 bt339.1 bt343.1 bt345.1 true)) else (solventlaw05_FieldLogarithms.j1 k1 a0 a1 t336 x6_1 ji6 (wrap64 ((shl .i64 1 (ji6)) - 1)) (wrap64 (1 + (Int.tmod (wrap64 (a0)) (wrap64 ((shl .i64 1 (ji6)) - 1))))) bt337.1 bt339.1 bt343.1 bt345.1 true)) else (solventlaw05_FieldLogarithms.j1 k1 a0 a1 t336 x6_1 ji6 (wrap64 ((shl .i64 1 (ji6)) - 1)) (wrap64 (1 + (Int.tmod (wrap64 (a0)) (wrap64 ((shl .i64 1 (ji6)) - 1))))) bt337.1 bt339.1 bt343.1 bt345.1 true)) else (solventlaw05_FieldLogarithms.j1 k1 a0 a1 t336 x6_1 ji6 (wrap64 ((shl .i64 1 (ji6)) - 1)) (wrap64 (1 + (Int.tmod (wrap64 (a0)) (wrap64 ((shl .i64 1 (ji6)) - 1))))) bt337.1 bt339.1 bt343.1 bt345.1 true)))))))))) else (none)) = some r := by first | (rw [hji6] at H; exact H) | (simp only [hji6] at H ⊢; exact H)
        have hji6w : (IntKind.i64.wrap (8 + (wrap64 (8 * x6_1)))) = ji6 := (i64_w _).trans hji6
        by_cases c7 : 0 ≤ (ji6)
        · rw [if_pos c7] at H
          have c7b0 := eq_true c7
          have c7b1 : decide (0 ≤ (ji6)) = true := decide_eq_true c7
          clear c7
          obtain ⟨ji8, hji8⟩ : ∃ j_ : Int, (shl .i64 1 (ji6)) = j_ := ⟨_, rfl⟩
          replace H : (if (wrap64 ((ji8) - 1)) = 0 then (none) else ((field_Log.f k1 (ji6) (wrap64 (1 + (Int.tmod (wrap64 (a0)) (wrap64 ((ji8) - 1)))))).bind fun bt337 => ((field_Log.f k1 (ji6) (wrap64 (1 + (Int.tmod (wrap64 (a1)) (wrap64 ((ji8) - 1)))))).bind fun bt339 => ((field_Mul.f k1 (ji6) (wrap64 (1 + (Int.tmod (wrap64 (a0)) (wrap64 ((ji8) - 1))))) (wrap64 (1 + (Int.tmod (wrap64 (a1)) (wrap64 ((ji8) - 1)))))).bind fun bt341 => ((field_Log.f k1 (ji6) bt341.1).bind fun bt343 => ((field_Pow.f k1 (ji6) 2 bt337.1).bind fun bt345 => ((field_Log.f k1 (ji6) 0).bind fun bt347 => ((field_Log.f k1 (ji6) (ji8)).bind fun bt349 => (if bt337.2 = 0 then (if bt339.2 = 0 then (if bt343.2 = 0 then (if bt345.2 = 0 then (if bt347.2 = 12 then (solventlaw05_FieldLogarithms.j1 k1 a0 a1 t336 x6_1 ji6 (wrap64 ((ji8) - 1)) (wrap64 (1 + (Int.tmod (wrap64 (a0)) (wrap64 ((ji8) - 1))))) bt337.1 bt339.1 bt343.1 bt345.1 (bt349.2 != 1)) else (solventlaw05_FieldLogarithms.j1 k1 a0 a1 t336 x6_1 ji6 (wrap64 ((ji8) - 1)) (wrap64 (1 + (Int.tmod (wrap64 (a0)) (wrap64 ((ji8) - 1))))) bt337.1 bt339.1 bt343.1 bt345.1 true)) else (solventlaw05_FieldLogarithms.j1 k1 a0 a1 t336 x6_1 ji6 (wrap64 ((ji8) - 1)) (wrap64 (1 + (Int.tmod (wrap64 (a0)) (wrap64 ((ji8) - 1))))) bt337.1 bt339.1 bt343.1 bt345.1 true)) else (solventlaw05_FieldLogarithms.j1 k1 a0 a1 t336 x6_1 ji6 (wrap64 ((ji8) - 1)) (wrap64 (1 + (Int.tmod (wrap64 (a0)) (wrap64 ((ji8) - 1))))) bt337.1 bt339.1 bt343.1 bt345.1 true)) else (solventlaw05_FieldLogarithms.j1 k1 a0 a1 t336 x6_1 ji6 (wrap64 ((ji8) - 1)) (wrap64 (1 + (Int.tmod (wrap64 (a0)) (wrap64 ((ji8) - 1))))) bt337.1 bt339.1 bt343.1 bt345.1 true)) else (solventlaw05_FieldLogarithms.j1 k1 a0 a1 t336 x6_1 ji6 (wrap64 ((ji8) - 1)) (wrap64 (1 + (Int.tmod (wrap64 (a0)) (wrap64 ((ji8) - 1))))) bt337.1 bt339.1 bt343.1 bt345.1 true)))))))))) = some r := by first | (rw [hji8] at H; exact H) | (simp only [hji8] at H ⊢; exact H)
          have hji8_ : (IntKind.i64.wrap (1 * 2 ^ min (ji6).toNat 64)) = ji8 := hji8
          have hji8z : (ji6) ≤ 64 → (IntKind.i64.wrap (1 * 2 ^ (ji6).toNat)) = ji8 := shl_small hji8
          have hji8u : (IntKind.i64.wrap (2 ^ min (ji6).toNat 64)) = ji8 := by have h_ := hji8_; rw [Int.one_mul] at h_; exact h_
          have hji8v : (ji6) ≤ 64 → (IntKind.i64.wrap (2 ^ (ji6).toNat)) = ji8 := fun hle_ => by have h_ := hji8z hle_; rw [Int.one_mul] at h_; exact h_
          have hji8y : (wrap64 (1 * 2 ^ min (ji6).toNat 64)) = ji8 := (i64_w _).symm.trans hji8_
          have hji8x : (ji6) ≤ 64 → (wrap64 (1 * 2 ^ (ji6).toNat)) = ji8 := fun h_ => (i64_w _).symm.trans (hji8z h_)
          by_cases c9 : (wrap64 ((ji8) - 1)) = 0
          · rw [if_pos c9] at H
            exact absurd H (by simp)
          · rw [if_neg c9] at H
            have c9b0 : ((wrap64 ((ji8) - 1)) == 0) = false := beq_eq_false_iff_ne.mpr c9
            have c9b1 : ((wrap64 ((ji8) - 1)) != 0) = true := bne_iff_ne.mpr c9
            replace H := Option.bind_eq_some_iff.mp H
            obtain ⟨⟨t337, t338⟩, A100, H⟩ := H
            replace H : ((field_Log.f k1 (ji6) (wrap64 (1 + (Int.tmod (wrap64 (a1)) (wrap64 ((ji8) - 1)))))).bind fun bt339 => ((field_Mul.f k1 (ji6) (wrap64 (1 + (Int.tmod (wrap64 (a0)) (wrap64 ((ji8) - 1))))) (wrap64 (1 + (Int.tmod (wrap64 (a1)) (wrap64 ((ji8) - 1)))))).bind fun bt341 => ((field_Log.f k1 (ji6) bt341.1).bind fun bt343 => ((field_Pow.f k1 (ji6) 2 t337).bind fun bt345 => ((field_Log.f k1 (ji6) 0).bind fun bt347 => ((field_Log.f k1 (ji6) (ji8)).bind fun bt349 => (if t338 = 0 then (if bt339.2 = 0 then (if bt343.2 = 0 then (if bt345.2 = 0 then (if bt347.2 = 12 then (solventlaw05_FieldLogarithms.j1 k1 a0 a1 t336 x6_1 ji6 (wrap64 ((ji8) - 1)) (wrap64 (1 + (Int.tmod (wrap64 (a0)) (wrap64 ((ji8) - 1))))) t337 bt339.1 bt343.1 bt345.1 (bt349.2 != 1)) else (solventlaw05_FieldLogarithms.j1 k1 a0 a1 t336 x6_1 ji6 (wrap64 ((ji8) - 1)) (wrap64 (1 + (Int.tmod (wrap64 (a0)) (wrap64 ((ji8) - 1))))) t337 bt339.1 bt343.1 bt345.1 true)) else (solventlaw05_FieldLogarithms.j1 k1 a0 a1 t336 x6_1 ji6 (wrap64 ((ji8) - 1)) (wrap64 (1 + (Int.tmod (wrap64 (a0)) (wrap64 ((ji8) - 1))))) t337 bt339.1 bt343.1 bt345.1 true)) else (solventlaw05_FieldLogarithms.j1 k1 a0 a1 t336 x6_1 ji6 (wrap64 ((ji8) - 1)) (wrap64 (1 + (Int.tmod (wrap64 (a0)) (wrap64 ((ji8) - 1))))) t337 bt339.1 bt343.1 bt345.1 true)) else (solventlaw05_FieldLogarithms.j1 k1 a0 a1 t336 x6_1 ji6 (wrap64 ((ji8) - 1)) (wrap64 (1 + (Int.tmod (wrap64 (a0)) (wrap64 ((ji8) - 1))))) t337 bt339.1 bt343.1 bt345.1 true)) else (solventlaw05_FieldLogarithms.j1 k1 a0 a1 t336 x6_1 ji6 (wrap64 ((ji8) - 1)) (wrap64 (1 + (Int.tmod (wrap64 (a0)) (wrap64 ((ji8) - 1))))) t337 bt339.1 bt343.1 bt345.1 true)))))))) = some r := H
            have A10 := Aside0.mk A100
            clear A100
            replace H := Option.bind_eq_some_iff.mp H
            obtain ⟨⟨t339, t340⟩, A110, H⟩ := H
            replace H : ((field_Mul.f k1 (ji6) (wrap64 (1 + (Int.tmod (wrap64 (a0)) (wrap64 ((ji8) - 1))))) (wrap64 (1 + (Int.tmod (wrap64 (a1)) (wrap64 ((ji8) - 1)))))).bind fun bt341 => ((field_Log.f k1 (ji6) bt341.1).bind fun bt343 => ((field_Pow.f k1 (ji6) 2 t337).bind fun bt345 => ((field_Log.f k1 (ji6) 0).bind fun bt347 => ((field_Log.f k1 (ji6) (ji8)).bind fun bt349 => (if t338 = 0 then (if t340 = 0 then (if bt343.2 = 0 then (if bt345.2 = 0 then (if bt347.2 = 12 then (solventlaw05_FieldLogarithms.j1 k1 a0 a1 t336 x6_1 ji6 (wrap64 ((ji8) - 1)) (wrap64 (1 + (Int.tmod (wrap64 (a0)) (wrap64 ((ji8) - 1))))) t337 t339 bt343.1 bt345.1 (bt349.2 != 1)) else (solventlaw05_FieldLogarithms.j1 k1 a0 a1 t336 x6_1 ji6 (wrap64 ((ji8) - 1)) (wrap64 (1 + (Int.tmod (wrap64 (a0)) (wrap64 ((ji8) - 1))))) t337 t339 bt343.1 bt345.1 true)) else (solventlaw05_FieldLogarithms.j1 k1 a0 a1 t336 x6_1 ji6 (wrap64 ((ji8) - 1)) (wrap64 (1 + (Int.tmod (wrap64 (a0)) (wrap64 ((ji8) - 1))))) t337 t339 bt343.1 bt345.1 true)) else (solventlaw05_FieldLogarithms.j1 k1 a0 a1 t336 x6_1 ji6 (wrap64 ((ji8) - 1)) (wrap64 (1 + (Int.tmod (wrap64 (a0)) (wrap64 ((ji8) - 1))))) t337 t339 bt343.1 bt345.1 true)) else (solventlaw05_FieldLogarithms.j1 k1 a0 a1 t336 x6_1 ji6 (wrap64 ((ji8) - 1)) (wrap64 (1 + (Int.tmod (wrap64 (a0)) (wrap64 ((ji8) - 1))))) t337 t339 bt343.1 bt345.1 true)) else (solventlaw05_FieldLogarithms.j1 k1 a0 a1 t336 x6_1 ji6 (wrap64 ((ji8) - 1)) (wrap64 (1 + (Int.tmod (wrap64 (a0)) (wrap64 ((ji8) - 1))))) t337 t339 bt343.1 bt345.1 true))))))) = some r := H
            have A11 := Aside0.mk A110
            clear A110
            replace H := Option.bind_eq_some_iff.mp H
            obtain ⟨⟨t341, t342⟩, A120, H⟩ := H
            replace H : ((field_Log.f k1 (ji6) t341).bind fun bt343 => ((field_Pow.f k1 (ji6) 2 t337).bind fun bt345 => ((field_Log.f k1 (ji6) 0).bind fun bt347 => ((field_Log.f k1 (ji6) (ji8)).bind fun bt349 => (if t338 = 0 then (if t340 = 0 then (if bt343.2 = 0 then (if bt345.2 = 0 then (if bt347.2 = 12 then (solventlaw05_FieldLogarithms.j1 k1 a0 a1 t336 x6_1 ji6 (wrap64 ((ji8) - 1)) (wrap64 (1 + (Int.tmod (wrap64 (a0)) (wrap64 ((ji8) - 1))))) t337 t339 bt343.1 bt345.1 (bt349.2 != 1)) else (solventlaw05_FieldLogarithms.j1 k1 a0 a1 t336 x6_1 ji6 (wrap64 ((ji8) - 1)) (wrap64 (1 + (Int.tmod (wrap64 (a0)) (wrap64 ((ji8) - 1))))) t337 t339 bt343.1 bt345.1 true)) else (solventlaw05_FieldLogarithms.j1 k1 a0 a1 t336 x6_1 ji6 (wrap64 ((ji8) - 1)) (wrap64 (1 + (Int.tmod (wrap64 (a0)) (wrap64 ((ji8) - 1))))) t337 t339 bt343.1 bt345.1 true)) else (solventlaw05_FieldLogarithms.j1 k1 a0 a1 t336 x6_1 ji6 (wrap64 ((ji8) - 1)) (wrap64 (1 + (Int.tmod (wrap64 (a0)) (wrap64 ((ji8) - 1))))) t337 t339 bt343.1 bt345.1 true)) else (solventlaw05_FieldLogarithms.j1 k1 a0 a1 t336 x6_1 ji6 (wrap64 ((ji8) - 1)) (wrap64 (1 + (Int.tmod (wrap64 (a0)) (wrap64 ((ji8) - 1))))) t337 t339 bt343.1 bt345.1 true)) else (solventlaw05_FieldLogarithms.j1 k1 a0 a1 t336 x6_1 ji6 (wrap64 ((ji8) - 1)) (wrap64 (1 + (Int.tmod (wrap64 (a0)) (wrap64 ((ji8) - 1))))) t337 t339 bt343.1 bt345.1 true)))))) = some r := H
            have A12 := Aside0.mk A120
            clear A120
            replace H := Option.bind_eq_some_iff.mp H
            obtain ⟨⟨t343, t344⟩, A130, H⟩ := H
            replace H : ((field_Pow.f k1 (ji6) 2 t337).bind fun bt345 => ((field_Log.f k1 (ji6) 0).bind fun bt347 => ((field_Log.f k1 (ji6) (ji8)).bind fun bt349 => (if t338 = 0 then (if t340 = 0 then (if t344 = 0 then (if bt345.2 = 0 then (if bt347.2 = 12 then (solventlaw05_FieldLogarithms.j1 k1 a0 a1 t336 x6_1 ji6 (wrap64 ((ji8) - 1)) (wrap64 (1 + (Int.tmod (wrap64 (a0)) (wrap64 ((ji8) - 1))))) t337 t339 t343 bt345.1 (bt349.2 != 1)) else (solventlaw05_FieldLogarithms.j1 k1 a0 a1 t336 x6_1 ji6 (wrap64 ((ji8) - 1)) (wrap64 (1 + (Int.tmod (wrap64 (a0)) (wrap64 ((ji8) - 1))))) t337 t339 t343 bt345.1 true)) else (solventlaw05_FieldLogarithms.j1 k1 a0 a1 t336 x6_1 ji6 (wrap64 ((ji8) - 1)) (wrap64 (1 + (Int.tmod (wrap64 (a0)) (wrap64 ((ji8) - 1))))) t337 t339 t343 bt345.1 true)) else (solventlaw05_FieldLogarithms.j1 k1 a0 a1 t336 x6_1 ji6 (wrap64 ((ji8) - 1)) (wrap64 (1 + (Int.tmod (wrap64 (a0)) (wrap64 ((ji8) - 1))))) t337 t339 t343 bt345.1 true)) else (solventlaw05_FieldLogarithms.j1 k1 a0 a1 t336 x6_1 ji6 (wrap64 ((ji8) - 1)) (wrap64 (1 + (Int.tmod (wrap64 (a0)) (wrap64 ((ji8) - 1))))) t337 t339 t343 bt345.1 true)) else (solventlaw05_FieldLogarithms.j1 k1 a0 a1 t336 x6_1 ji6 (wrap64 ((ji8) - 1)) (wrap64 (1 + (Int.tmod (wrap64 (a0)) (wrap64 ((ji8) - 1))))) t337 t339 t343 bt345.1 true))))) = some r := H
            have A13 := Aside0.mk A130
            clear A130
            replace H := Option.bind_eq_some_iff.mp H
            obtain ⟨⟨t345, t346⟩, A140, H⟩ := H
            replace H : ((field_Log.f k1 (ji6) 0).bind fun bt347 => ((field_Log.f k1 (ji6) (ji8)).bind fun bt349 => (if t338 = 0 then (if t340 = 0 then (if t344 = 0 then (if t346 = 0 then (if bt347.2 = 12 then (solventlaw05_FieldLogarithms.j1 k1 a0 a1 t336 x6_1 ji6 (wrap64 ((ji8) - 1)) (wrap64 (1 + (Int.tmod (wrap64 (a0)) (wrap64 ((ji8) - 1))))) t337 t339 t343 t345 (bt349.2 != 1)) else (solventlaw05_FieldLogarithms.j1 k1 a0 a1 t336 x6_1 ji6 (wrap64 ((ji8) - 1)) (wrap64 (1 + (Int.tmod (wrap64 (a0)) (wrap64 ((ji8) - 1))))) t337 t339 t343 t345 true)) else (solventlaw05_FieldLogarithms.j1 k1 a0 a1 t336 x6_1 ji6 (wrap64 ((ji8) - 1)) (wrap64 (1 + (Int.tmod (wrap64 (a0)) (wrap64 ((ji8) - 1))))) t337 t339 t343 t345 true)) else (solventlaw05_FieldLogarithms.j1 k1 a0 a1 t336 x6_1 ji6 (wrap64 ((ji8) - 1)) (wrap64 (1 + (Int.tmod (wrap64 (a0)) (wrap64 ((ji8) - 1))))) t337 t339 t343 t345 true)) else (solventlaw05_FieldLogarithms.j1 k1 a0 a1 t336 x6_1 ji6 (wrap64 ((ji8) - 1)) (wrap64 (1 + (Int.tmod (wrap64 (a0)) (wrap64 ((ji8) - 1))))) t337 t339 t343 t345 true)) else (solventlaw05_FieldLogarithms.j1 k1 a0 a1 t336 x6_1 ji6 (wrap64 ((ji8) - 1)) (wrap64 (1 + (Int.tmod (wrap64 (a0)) (wrap64 ((ji8) - 1))))) t337 t339 t343 t345 true)))) = some r := H
            have A14 := Aside0.mk A140
            clear A140
            replace H := Option.bind_eq_some_iff.mp H
            obtain ⟨⟨t347, t348⟩, A150, H⟩ := H
            replace H : ((field_Log.f k1 (ji6) (ji8)).bind fun bt349 => (if t338 = 0 then (if t340 = 0 then (if t344 = 0 then (if t346 = 0 then (if t348 = 12 then (solventlaw05_FieldLogarithms.j1 k1 a0 a1 t336 x6_1 ji6 (wrap64 ((ji8) - 1)) (wrap64 (1 + (Int.tmod (wrap64 (a0)) (wrap64 ((ji8) - 1))))) t337 t339 t343 t345 (bt349.2 != 1)) else (solventlaw05_FieldLogarithms.j1 k1 a0 a1 t336 x6_1 ji6 (wrap64 ((ji8) - 1)) (wrap64 (1 + (Int.tmod (wrap64 (a0)) (wrap64 ((ji8) - 1))))) t337 t339 t343 t345 true)) else (solventlaw05_FieldLogarithms.j1 k1 a0 a1 t336 x6_1 ji6 (wrap64 ((ji8) - 1)) (wrap64 (1 + (Int.tmod (wrap64 (a0)) (wrap64 ((ji8) - 1))))) t337 t339 t343 t345 true)) else (solventlaw05_FieldLogarithms.j1 k1 a0 a1 t336 x6_1 ji6 (wrap64 ((ji8) - 1)) (wrap64 (1 + (Int.tmod (wrap64 (a0)) (wrap64 ((ji8) - 1))))) t337 t339 t343 t345 true)) else (solventlaw05_FieldLogarithms.j1 k1 a0 a1 t336 x6_1 ji6 (wrap64 ((ji8) - 1)) (wrap64 (1 + (Int.tmod (wrap64 (a0)) (wrap64 ((ji8) - 1))))) t337 t339 t343 t345 true)) else (solventlaw05_FieldLogarithms.j1 k1 a0 a1 t336 x6_1 ji6 (wrap64 ((ji8) - 1)) (wrap64 (1 + (Int.tmod (wrap64 (a0)) (wrap64 ((ji8) - 1))))) t337 t339 t343 t345 true))) = some r := H
            have A15 := Aside0.mk A150
            clear A150
            have c16b0 := eq_true (of_decide_eq_true (by first | (with_reducible assumption) | assumption) : 0 ≤ (ji6))
            replace H := Option.bind_eq_some_iff.mp H
            obtain ⟨⟨t349, t350⟩, A180, H⟩ := H
            replace H : (if t338 = 0 then (if t340 = 0 then (if t344 = 0 then (if t346 = 0 then (if t348 = 12 then (solventlaw05_FieldLogarithms.j1 k1 a0 a1 t336 x6_1 ji6 (wrap64 ((ji8) - 1)) (wrap64 (1 + (Int.tmod (wrap64 (a0)) (wrap64 ((ji8) - 1))))) t337 t339 t343 t345 (t350 != 1)) else (solventlaw05_FieldLogarithms.j1 k1 a0 a1 t336 x6_1 ji6 (wrap64 ((ji8) - 1)) (wrap64 (1 + (Int.tmod (wrap64 (a0)) (wrap64 ((ji8) - 1))))) t337 t339 t343 t345 true)) else (solventlaw05_FieldLogarithms.j1 k1 a0 a1 t336 x6_1 ji6 (wrap64 ((ji8) - 1)) (wrap64 (1 + (Int.tmod (wrap64 (a0)) (wrap64 ((ji8) - 1))))) t337 t339 t343 t345 true)) else (solventlaw05_FieldLogarithms.j1 k1 a0 a1 t336 x6_1 ji6 (wrap64 ((ji8) - 1)) (wrap64 (1 + (Int.tmod (wrap64 (a0)) (wrap64 ((ji8) - 1))))) t337 t339 t343 t345 true)) else (solventlaw05_FieldLogarithms.j1 k1 a0 a1 t336 x6_1 ji6 (wrap64 ((ji8) - 1)) (wrap64 (1 + (Int.tmod (wrap64 (a0)) (wrap64 ((ji8) - 1))))) t337 t339 t343 t345 true)) else (solventlaw05_FieldLogarithms.j1 k1 a0 a1 t336 x6_1 ji6 (wrap64 ((ji8) - 1)) (wrap64 (1 + (Int.tmod (wrap64 (a0)) (wrap64 ((ji8) - 1))))) t337 t339 t343 t345 true)) = some r := H
            have A18 := Aside0.mk A180
            clear A180
            have HC19 := Aside0.mk H
            clear H
            go_upto_region 16 with (first | ((with_reducible refine gate_callee (f := 29) rfl ?_); refine goesL_ (some 51) rfl rfl Tryd.func29 (by kernel_rfl) rfl #[.int .i64 ji6, .int .i64 (wrap64 (1 + (Int.tmod (wrap64 (a0)) (wrap64 ((ji8) - 1)))))] rfl (by (try simp only [List.map_toArray, List.map_cons, List.map_nil]); first | done | (simp only [hji6, hji8]; rfl) | rfl | (simp only [List.length_drop, List.length_take]; rfl)) ?_; (with_reducible refine (field_Log.calls k1 ji6 (wrap64 (1 + (Int.tmod (wrap64 (a0)) (wrap64 ((ji8) - 1))))) t337 t338 _ ?side1 A10.out).mono ?_); (case side1 => refine FF.below HF.out ?_; repeat (first | (with_reducible first | exact HB.out | apply below_alloc | apply pw_below_drewN | apply below_drew1) | exact HB.out)); rintro e w20 ⟨rfl, hb⟩; refine ⟨_, rfl, ?_⟩; have n0_ := Aside0.mk (below_step (by repeat (first | (with_reducible first | exact HB.out | apply below_alloc | apply pw_below_drewN | apply below_drew1) | exact HB.out)) hb); clear HB; have HB := n0_; clear n0_; (try clear hb); (try clear hb2); (try clear hk); (try clear hi)) | ((with_reducible refine gate_callee (f := 29) rfl ?_); refine goesL_ (some 57) rfl rfl Tryd.func29 (by kernel_rfl) rfl #[.int .i64 ji6, .int .i64 (wrap64 (1 + (Int.tmod (wrap64 (a1)) (wrap64 ((ji8) - 1)))))] rfl (by (try simp only [List.map_toArray, List.map_cons, List.map_nil]); first | done | (simp only [hji6, hji8]; rfl) | rfl | (simp only [List.length_drop, List.length_take]; rfl)) ?_; (with_reducible refine (field_Log.calls k1 ji6 (wrap64 (1 + (Int.tmod (wrap64 (a1)) (wrap64 ((ji8) - 1))))) t339 t340 _ ?side1 A11.out).mono ?_); (case side1 => refine FF.below HF.out ?_; repeat (first | (with_reducible first | exact HB.out | apply below_alloc | apply pw_below_drewN | apply below_drew1) | exact HB.out)); rintro e w21 ⟨rfl, hb⟩; refine ⟨_, rfl, ?_⟩; have n0_ := Aside0.mk (below_step (by repeat (first | (with_reducible first | exact HB.out | apply below_alloc | apply pw_below_drewN | apply below_drew1) | exact HB.out)) hb); clear HB; have HB := n0_; clear n0_; (try clear hb); (try clear hb2); (try clear hk); (try clear hi)) | ((with_reducible refine gate_callee (f := 17) rfl ?_); refine goesL_ (some 64) rfl rfl Tryd.func17 (by kernel_rfl) rfl #[.int .i64 ji6, .int .i64 (wrap64 (1 + (Int.tmod (wrap64 (a0)) (wrap64 ((ji8) - 1))))), .int .i64 (wrap64 (1 + (Int.tmod (wrap64 (a1)) (wrap64 ((ji8) - 1)))))] rfl (by (try simp only [List.map_toArray, List.map_cons, List.map_nil]); first | done | (simp only [hji6, hji8]; rfl) | rfl | (simp only [List.length_drop, List.length_take]; rfl)) ?_; (with_reducible refine (field_Mul.calls k1 ji6 (wrap64 (1 + (Int.tmod (wrap64 (a0)) (wrap64 ((ji8) - 1))))) (wrap64 (1 + (Int.tmod (wrap64 (a1)) (wrap64 ((ji8) - 1))))) t341 t342 _ ?side1 A12.out).mono ?_); (case side1 => refine FF.below HF.out ?_; repeat (first | (with_reducible first | exact HB.out | apply below_alloc | apply pw_below_drewN | apply below_drew1) | exact HB.out)); rintro e w22 ⟨rfl, hb⟩; refine ⟨_, rfl, ?_⟩; have n0_ := Aside0.mk (below_step (by repeat (first | (with_reducible first | exact HB.out | apply below_alloc | apply pw_below_drewN | apply below_drew1) | exact HB.out)) hb); clear HB; have HB := n0_; clear n0_; (try clear hb); (try clear hb2); (try clear hk); (try clear hi)) | ((with_reducible refine gate_callee (f := 29) rfl ?_); refine goesL_ (some 70) rfl rfl Tryd.func29 (by kernel_rfl) rfl #[.int .i64 ji6, .int .i64 t341] rfl (by (try simp only [List.map_toArray, List.map_cons, List.map_nil]); first | done | (simp only [hji6]; rfl) | rfl | (simp only [List.length_drop, List.length_take]; rfl)) ?_; (with_reducible refine (field_Log.calls k1 ji6 t341 t343 t344 _ ?side1 A13.out).mono ?_); (case side1 => refine FF.below HF.out ?_; repeat (first | (with_reducible first | exact HB.out | apply below_alloc | apply pw_below_drewN | apply below_drew1) | exact HB.out)); rintro e w23 ⟨rfl, hb⟩; refine ⟨_, rfl, ?_⟩; have n0_ := Aside0.mk (below_step (by repeat (first | (with_reducible first | exact HB.out | apply below_alloc | apply pw_below_drewN | apply below_drew1) | exact HB.out)) hb); clear HB; have HB := n0_; clear n0_; (try clear hb); (try clear hb2); (try clear hk); (try clear hi)) | ((with_reducible refine gate_callee (f := 20) rfl ?_); refine goesL_ (some 76) rfl rfl Tryd.func20 (by kernel_rfl) rfl #[.int .i64 ji6, .int .i64 2, .int .i64 t337] rfl (by (try simp only [List.map_toArray, List.map_cons, List.map_nil]); first | done | (simp only [hji6]; rfl) | rfl | (simp only [List.length_drop, List.length_take]; rfl)) ?_; (with_reducible refine (field_Pow.calls k1 ji6 2 t337 t345 t346 _ ?side1 A14.out).mono ?_); (case side1 => refine FF.below HF.out ?_; repeat (first | (with_reducible first | exact HB.out | apply below_alloc | apply pw_below_drewN | apply below_drew1) | exact HB.out)); rintro e w24 ⟨rfl, hb⟩; refine ⟨_, rfl, ?_⟩; have n0_ := Aside0.mk (below_step (by repeat (first | (with_reducible first | exact HB.out | apply below_alloc | apply pw_below_drewN | apply below_drew1) | exact HB.out)) hb); clear HB; have HB := n0_; clear n0_; (try clear hb); (try clear hb2); (try clear hk); (try clear hi)) | ((with_reducible refine gate_callee (f := 29) rfl ?_); refine goesL_ (some 81) rfl rfl Tryd.func29 (by kernel_rfl) rfl #[.int .i64 ji6, .int .i64 0] rfl (by (try simp only [List.map_toArray, List.map_cons, List.map_nil]); first | done | (simp only [hji6]; rfl) | rfl | (simp only [List.length_drop, List.length_take]; rfl)) ?_; (with_reducible refine (field_Log.calls k1 ji6 0 t347 t348 _ ?side1 A15.out).mono ?_); (case side1 => refine FF.below HF.out ?_; repeat (first | (with_reducible first | exact HB.out | apply below_alloc | apply pw_below_drewN | apply below_drew1) | exact HB.out)); rintro e w25 ⟨rfl, hb⟩; refine ⟨_, rfl, ?_⟩; have n0_ := Aside0.mk (below_step (by repeat (first | (with_reducible first | exact HB.out | apply below_alloc | apply pw_below_drewN | apply below_drew1) | exact HB.out)) hb); clear HB; have HB := n0_; clear n0_; (try clear hb); (try clear hb2); (try clear hk); (try clear hi)) | ((with_reducible refine gate_callee (f := 29) rfl ?_); refine goesL_ (some 88) rfl rfl Tryd.func29 (by kernel_rfl) rfl #[.int .i64 ji6, .int .i64 ji8] rfl (by (try simp only [List.map_toArray, List.map_cons, List.map_nil]); first | done | (simp only [hji6, hji8]; rfl) | rfl | (simp only [List.length_drop, List.length_take]; rfl)) ?_; (with_reducible refine (field_Log.calls k1 ji6 ji8 t349 t350 _ ?side1 A18.out).mono ?_); (case side1 => refine FF.below HF.out ?_; repeat (first | (with_reducible first | exact HB.out | apply below_alloc | apply pw_below_drewN | apply below_drew1) | exact HB.out)); rintro e w26 ⟨rfl, hb⟩; refine ⟨_, rfl, ?_⟩; have n0_ := Aside0.mk (below_step (by repeat (first | (with_reducible first | exact HB.out | apply below_alloc | apply pw_below_drewN | apply below_drew1) | exact HB.out)) hb); clear HB; have HB := n0_; clear n0_; (try clear hb); (try clear hb2); (try clear hk); (try clear hi)))
            (try simp only [Act.put, List.setIfInBounds_toArray, List.set_cons_zero, List.set_cons_succ])
            go_cut [112] (fun v112 wc => ∃ (kq : Nat) (x112_18 : Bool), v112 = .bool x112_18 ∧ Aside0 (solventlaw05_FieldLogarithms.j1 kq a0 a1 t336 x6_1 ji6 (wrap64 ((ji8) - 1)) (wrap64 (1 + (Int.tmod (wrap64 (a0)) (wrap64 ((ji8) - 1))))) t337 t339 t343 t345 x112_18 = some r) ∧ Aside0 (kq ≤ k1) ∧ Aside0 (Below w.heap.size w wc))
            case first =>
              have H := HC19.out
              clear HC19
              by_cases c27 : t338 = 0
              · rw [if_pos c27] at H
                have c27b0 : (t338 == 0) = true := beq_iff_eq.mpr c27
                have c27b1 : (t338 != 0) = false := bne_eq_false_iff_eq.mpr c27
                clear c27
                (first | rw [c27b0] | (simp only [i64_w, i32_w]; rw [c27b0]) | skip)
                by_cases c28 : t340 = 0
                · rw [if_pos c28] at H
                  have c28b0 : (t340 == 0) = true := beq_iff_eq.mpr c28
                  have c28b1 : (t340 != 0) = false := bne_eq_false_iff_eq.mpr c28
                  clear c28
                  by_cases c29 : t344 = 0
                  · rw [if_pos c29] at H
                    have c29b0 : (t344 == 0) = true := beq_iff_eq.mpr c29
                    have c29b1 : (t344 != 0) = false := bne_eq_false_iff_eq.mpr c29
                    clear c29
                    by_cases c30 : t346 = 0
                    · rw [if_pos c30] at H
                      have c30b0 : (t346 == 0) = true := beq_iff_eq.mpr c30
                      have c30b1 : (t346 != 0) = false := bne_eq_false_iff_eq.mpr c30
                      clear c30
                      by_cases c31 : t348 = 12
                      · rw [if_pos c31] at H
                        have c31b0 : (t348 == 12) = true := beq_iff_eq.mpr c31
                        have c31b1 : (t348 != 12) = false := bne_eq_false_iff_eq.mpr c31
                        clear c31
                        have H' := Aside0.mk H
                        clear H
                        go_wp2
                        go_meet
                        case rel => exact ⟨_, ((t350 != 1)), (by first | rfl | (simp; done) | (simp [*]; done)), H', ⟨by have := HK1.out; first | omega | exact Nat.le_refl _⟩, ⟨by repeat (first | (with_reducible first | exact HB.out | apply below_alloc | apply pw_below_drewN | apply below_drew1) | exact HB.out)⟩⟩
                      · rw [if_neg c31] at H
                        have c31b0 : (t348 == 12) = false := beq_eq_false_iff_ne.mpr c31
                        have c31b1 : (t348 != 12) = true := bne_iff_ne.mpr c31
                        have H' := Aside0.mk H
                        clear H
                        go_wp2
                        go_meet
                        case rel => exact ⟨_, (true), (by first | rfl | (simp; done) | (simp [*]; done)), H', ⟨by have := HK1.out; first | omega | exact Nat.le_refl _⟩, ⟨by repeat (first | (with_reducible first | exact HB.out | apply below_alloc | apply pw_below_drewN | apply below_drew1) | exact HB.out)⟩⟩
                    · rw [if_neg c30] at H
                      have c30b0 : (t346 == 0) = false := beq_eq_false_iff_ne.mpr c30
                      have c30b1 : (t346 != 0) = true := bne_iff_ne.mpr c30
                      have H' := Aside0.mk H
                      clear H
                      go_wp2
                      go_meet
                      case rel => exact ⟨_, (true), (by first | rfl | (simp; done) | (simp [*]; done)), H', ⟨by have := HK1.out; first | omega | exact Nat.le_refl _⟩, ⟨by repeat (first | (with_reducible first | exact HB.out | apply below_alloc | apply pw_below_drewN | apply below_drew1) | exact HB.out)⟩⟩
                  · rw [if_neg c29] at H
                    have c29b0 : (t344 == 0) = false := beq_eq_false_iff_ne.mpr c29
                    have c29b1 : (t344 != 0) = true := bne_iff_ne.mpr c29
                    have H' := Aside0.mk H
                    clear H
                    go_wp2
                    go_meet
                    case rel => exact ⟨_, (true), (by first | rfl | (simp; done) | (simp [*]; done)), H', ⟨by have := HK1.out; first | omega | exact Nat.le_refl _⟩, ⟨by repeat (first | (with_reducible first | exact HB.out | apply below_alloc | apply pw_below_drewN | apply below_drew1) | exact HB.out)⟩⟩
                · rw [if_neg c28] at H
                  have c28b0 : (t340 == 0) = false := beq_eq_false_iff_ne.mpr c28
                  have c28b1 : (t340 != 0) = true := bne_iff_ne.mpr c28
                  have H' := Aside0.mk H
                  clear H
                  go_wp2
                  go_meet
                  case rel => exact ⟨_, (true), (by first | rfl | (simp; done) | (simp [*]; done)), H', ⟨by have := HK1.out; first | omega | exact Nat.le_refl _⟩, ⟨by repeat (first | (with_reducible first | exact HB.out | apply below_alloc | apply pw_below_drewN | apply below_drew1) | exact HB.out)⟩⟩
              · rw [if_neg c27] at H
                have c27b0 : (t338 == 0) = false := beq_eq_false_iff_ne.mpr c27
                have c27b1 : (t338 != 0) = true := bne_iff_ne.mpr c27
                (first | rw [c27b0] | (simp only [i64_w, i32_w]; rw [c27b0]) | skip)
                have H' := Aside0.mk H
                clear H
                go_wp2
                go_meet
                case rel => exact ⟨_, (true), (by first | rfl | (simp; done) | (simp [*]; done)), H', ⟨by have := HK1.out; first | omega | exact Nat.le_refl _⟩, ⟨by repeat (first | (with_reducible first | exact HB.out | apply below_alloc | apply pw_below_drewN | apply below_drew1) | exact HB.out)⟩⟩
            case rest =>
              clear HC19
              try clear c1
              try clear c2
              try clear p2
              try clear c3
              try clear c5
              try clear c5b0
              try clear p6
              try clear c7
              try clear c7b0
              try clear c7b1
              try clear c8
              try clear c9
              try clear c9b0
              try clear c9b1
              try clear c16
              try clear c16b0
              try clear c17
              try clear c17b0
              try clear c20
              try clear c27
              try clear c27b0
              try clear c27b1
              try clear c28
              try clear c28b0
              try clear c28b1
              try clear c29
              try clear c29b0
              try clear c29b1
              try clear c30
              try clear c30b0
              try clear c30b1
              try clear c31
              try clear c31b0
              try clear c31b1
              try clear p2
              obtain ⟨kq, x112_18, rfl, HA, HJ18, HB⟩ := hcut
              cases kq with
              | zero => exact absurd HA.out (by simp [solventlaw05_FieldLogarithms.j1])
              | succ kj18 =>
                have H := HA.out
                clear HA
                simp only [solventlaw05_FieldLogarithms.j1] at H
                by_cases c32 : x112_18 = true
                · subst c32
                  have H1 : (some false) = some r := by rw [if_pos rfl] at H; exact H
                  clear H
                  have H := H1
                  clear H1
                  obtain rfl := Option.some.inj H
                  go_wp2
                  go_ret
                  exact ⟨by first | rfl | (simp [errW_none, errW_some] <;> rfl) | (simp only [← hji6, ← hji8]; first | rfl | (simp [errW_none, errW_some] <;> rfl)) | (simp [*, errW_none, errW_some] <;> rfl), by repeat (first | (with_reducible first | exact HB.out | apply below_alloc | apply pw_below_drewN | apply below_drew1) | exact HB.out)⟩
                · replace c32 := Bool.eq_false_iff.mpr c32
                  subst c32
                  have H1 : ((solventref05_Log.f kj18 ji6 (wrap64 (1 + (Int.tmod (wrap64 (a0)) (wrap64 ((ji8) - 1)))))).bind fun bt351 => (if t337 < 0 then (some false) else (if t337 ≥ (wrap64 ((ji8) - 1)) then (some false) else (if t337 = bt351.1 then (if t345 = (wrap64 (1 + (Int.tmod (wrap64 (a0)) (wrap64 ((ji8) - 1))))) then (if (wrap64 ((ji8) - 1)) = 0 then (none) else (if t343 = (Int.tmod (wrap64 (t337 + t339)) (wrap64 ((ji8) - 1))) then (solventlaw05_FieldLogarithms.l0 kj18 a0 a1 t336 (wrap64 (x6_1 + 1))) else (some false))) else (some false)) else (some false))))) = some r := by rw [if_neg (show ¬ (false = true) by decide)] at H; exact H
                  clear H
                  have H := H1
                  clear H1
                  replace H := Option.bind_eq_some_iff.mp H
                  obtain ⟨⟨t351, t352⟩, A330, H⟩ := H
                  replace H : (if t337 < 0 then (some false) else (if t337 ≥ (wrap64 ((ji8) - 1)) then (some false) else (if t337 = t351 then (if t345 = (wrap64 (1 + (Int.tmod (wrap64 (a0)) (wrap64 ((ji8) - 1))))) then (if (wrap64 ((ji8) - 1)) = 0 then (none) else (if t343 = (Int.tmod (wrap64 (t337 + t339)) (wrap64 ((ji8) - 1))) then (solventlaw05_FieldLogarithms.l0 kj18 a0 a1 t336 (wrap64 (x6_1 + 1))) else (some false))) else (some false)) else (some false)))) = some r := H
                  have A33 := Aside0.mk A330
                  clear A330
                  by_cases c34 : t337 < 0
                  · rw [if_pos c34] at H
                    have c34b0 : decide (t337 < 0) = true := decide_eq_true c34
                    clear c34
                    obtain rfl := Option.some.inj H
                    go_wp2_with (first | ((with_reducible refine gate_callee (f := 30) rfl ?_); refine goesL_ (some 116) rfl rfl Tryd.func30 (by kernel_rfl) rfl #[.int .i64 ji6, .int .i64 (wrap64 (1 + (Int.tmod (wrap64 (a0)) (wrap64 ((ji8) - 1)))))] rfl (by (try simp only [List.map_toArray, List.map_cons, List.map_nil]); first | done | (simp only [hji6, hji8]; rfl) | rfl | (simp only [List.length_drop, List.length_take]; rfl)) ?_; (with_reducible refine (solventref05_Log.calls kj18 ji6 (wrap64 (1 + (Int.tmod (wrap64 (a0)) (wrap64 ((ji8) - 1))))) t351 t352 _ A33.out).mono ?_); rintro e w' ⟨rfl, ⟨nd, rfl⟩⟩; refine ⟨_, rfl, ?_⟩))
                    go_ret
                    exact ⟨by first | rfl | (simp [errW_none, errW_some] <;> rfl) | (simp only [← hji6, ← hji8]; first | rfl | (simp [errW_none, errW_some] <;> rfl)) | (simp [*, errW_none, errW_some] <;> rfl), by repeat (first | (with_reducible first | exact HB.out | apply below_alloc | apply pw_below_drewN | apply below_drew1) | exact HB.out)⟩
                  · rw [if_neg c34] at H
                    have c34b0 : decide (t337 < 0) = false := decide_eq_false c34
                    clear c34
                    by_cases c35 : t337 ≥ (wrap64 ((ji8) - 1))
                    · rw [if_pos c35] at H
                      have c35b0 : decide ((wrap64 ((ji8) - 1)) ≤ t337) = true := decide_eq_true c35
                      clear c35
                      obtain rfl := Option.some.inj H
                      go_wp2_with (first | ((with_reducible refine gate_callee (f := 30) rfl ?_); refine goesL_ (some 116) rfl rfl Tryd.func30 (by kernel_rfl) rfl #[.int .i64 ji6, .int .i64 (wrap64 (1 + (Int.tmod (wrap64 (a0)) (wrap64 ((ji8) - 1)))))] rfl (by (try simp only [List.map_toArray, List.map_cons, List.map_nil]); first | done | (simp only [hji6, hji8]; rfl) | rfl | (simp only [List.length_drop, List.length_take]; rfl)) ?_; (with_reducible refine (solventref05_Log.calls kj18 ji6 (wrap64 (1 + (Int.tmod (wrap64 (a0)) (wrap64 ((ji8) - 1))))) t351 t352 _ A33.out).mono ?_); rintro e w' ⟨rfl, ⟨nd, rfl⟩⟩; refine ⟨_, rfl, ?_⟩))
                      go_ret
                      exact ⟨by first | rfl | (simp [errW_none, errW_some] <;> rfl) | (simp only [← hji6, ← hji8]; first | rfl | (simp [errW_none, errW_some] <;> rfl)) | (simp [*, errW_none, errW_some] <;> rfl), by repeat (first | (with_reducible first | exact HB.out | apply below_alloc | apply pw_below_drewN | apply below_drew1) | exact HB.out)⟩
                    · rw [if_neg c35] at H
                      have c35b0 : decide ((wrap64 ((ji8) - 1)) ≤ t337) = false := decide_eq_false c35
                      clear c35
                      by_cases c36 : t337 = t351
                      · rw [if_pos c36] at H
                        have c36b0 : (t337 == t351) = true := beq_iff_eq.mpr c36
                        have c36b1 : (t337 != t351) = false := bne_eq_false_iff_eq.mpr c36
                        clear c36
                        by_cases c37 : t345 = (wrap64 (1 + (Int.tmod (wrap64 (a0)) (wrap64 ((ji8) - 1)))))
                        · rw [if_pos c37] at H
                          have c37b0 : (t345 == (wrap64 (1 + (Int.tmod (wrap64 (a0)) (wrap64 ((ji8) - 1)))))) = true := beq_iff_eq.mpr c37
                          have c37b1 : (t345 != (wrap64 (1 + (Int.tmod (wrap64 (a0)) (wrap64 ((ji8) - 1)))))) = false := bne_eq_false_iff_eq.mpr c37
                          clear c37
                          by_cases c38 : (wrap64 ((ji8) - 1)) = 0
                          · rw [if_pos c38] at H
                            exact absurd H (by simp)
                          · rw [if_neg c38] at H
                            have c38b0 : ((wrap64 ((ji8) - 1)) == 0) = false := beq_eq_false_iff_ne.mpr c38
                            have c38b1 : ((wrap64 ((ji8) - 1)) != 0) = true := bne_iff_ne.mpr c38
                            by_cases c39 : t343 = (Int.tmod (wrap64 (t337 + t339)) (wrap64 ((ji8) - 1)))
                            · rw [if_pos c39] at H
                              have c39b0 : (t343 == (Int.tmod (wrap64 (t337 + t339)) (wrap64 ((ji8) - 1)))) = true := beq_iff_eq.mpr c39
                              have c39b1 : (t343 != (Int.tmod (wrap64 (t337 + t339)) (wrap64 ((ji8) - 1)))) = false := bne_eq_false_iff_eq.mpr c39
                              clear c39
                              have H' := Aside0.mk H
                              clear H
                              go_wp2_with (first | ((with_reducible refine gate_callee (f := 30) rfl ?_); refine goesL_ (some 116) rfl rfl Tryd.func30 (by kernel_rfl) rfl #[.int .i64 ji6, .int .i64 (wrap64 (1 + (Int.tmod (wrap64 (a0)) (wrap64 ((ji8) - 1)))))] rfl (by (try simp only [List.map_toArray, List.map_cons, List.map_nil]); first | done | (simp only [hji6, hji8]; rfl) | rfl | (simp only [List.length_drop, List.length_take]; rfl)) ?_; (with_reducible refine (solventref05_Log.calls kj18 ji6 (wrap64 (1 + (Int.tmod (wrap64 (a0)) (wrap64 ((ji8) - 1))))) t351 t352 _ A33.out).mono ?_); rintro e w' ⟨rfl, ⟨nd, rfl⟩⟩; refine ⟨_, rfl, ?_⟩))
                              go_roundg kj18
                              case measure => have := HK1.out; have := HJ18.out; omega
                              case rel => exact ⟨(wrap64 (x6_1 + 1)), (by first | rfl | (simp; done) | (simp [*]; done)), H', ⟨by have := HK1.out; have := HJ18.out; omega⟩, ⟨by repeat (first | (with_reducible first | exact HB.out | apply below_alloc | apply pw_below_drewN | apply below_drew1) | exact HB.out)⟩⟩
                            · rw [if_neg c39] at H
                              have c39b0 : (t343 == (Int.tmod (wrap64 (t337 + t339)) (wrap64 ((ji8) - 1)))) = false := beq_eq_false_iff_ne.mpr c39
                              have c39b1 : (t343 != (Int.tmod (wrap64 (t337 + t339)) (wrap64 ((ji8) - 1)))) = true := bne_iff_ne.mpr c39
                              obtain rfl := Option.some.inj H
                              go_wp2_with (first | ((with_reducible refine gate_callee (f := 30) rfl ?_); refine goesL_ (some 116) rfl rfl Tryd.func30 (by kernel_rfl) rfl #[.int .i64 ji6, .int .i64 (wrap64 (1 + (Int.tmod (wrap64 (a0)) (wrap64 ((ji8) - 1)))))] rfl (by (try simp only [List.map_toArray, List.map_cons, List.map_nil]); first | done | (simp only [hji6, hji8]; rfl) | rfl | (simp only [List.length_drop, List.length_take]; rfl)) ?_; (with_reducible refine (solventref05_Log.calls kj18 ji6 (wrap64 (1 + (Int.tmod (wrap64 (a0)) (wrap64 ((ji8) - 1))))) t351 t352 _ A33.out).mono ?_); rintro e w' ⟨rfl, ⟨nd, rfl⟩⟩; refine ⟨_, rfl, ?_⟩))
                              go_ret
                              exact ⟨by first | rfl | (simp [errW_none, errW_some] <;> rfl) | (simp only [← hji6, ← hji8]; first | rfl | (simp [errW_none, errW_some] <;> rfl)) | (simp [*, errW_none, errW_some] <;> rfl), by repeat (first | (with_reducible first | exact HB.out | apply below_alloc | apply pw_below_drewN | apply below_drew1) | exact HB.out)⟩
                        · rw [if_neg c37] at H
                          have c37b0 : (t345 == (wrap64 (1 + (Int.tmod (wrap64 (a0)) (wrap64 ((ji8) - 1)))))) = false := beq_eq_false_iff_ne.mpr c37
                          have c37b1 : (t345 != (wrap64 (1 + (Int.tmod (wrap64 (a0)) (wrap64 ((ji8) - 1)))))) = true := bne_iff_ne.mpr c37
                          obtain rfl := Option.some.inj H
                          go_wp2_with (first | ((with_reducible refine gate_callee (f := 30) rfl ?_); refine goesL_ (some 116) rfl rfl Tryd.func30 (by kernel_rfl) rfl #[.int .i64 ji6, .int .i64 (wrap64 (1 + (Int.tmod (wrap64 (a0)) (wrap64 ((ji8) - 1)))))] rfl (by (try simp only [List.map_toArray, List.map_cons, List.map_nil]); first | done | (simp only [hji6, hji8]; rfl) | rfl | (simp only [List.length_drop, List.length_take]; rfl)) ?_; (with_reducible refine (solventref05_Log.calls kj18 ji6 (wrap64 (1 + (Int.tmod (wrap64 (a0)) (wrap64 ((ji8) - 1))))) t351 t352 _ A33.out).mono ?_); rintro e w' ⟨rfl, ⟨nd, rfl⟩⟩; refine ⟨_, rfl, ?_⟩))
                          go_ret
                          exact ⟨by first | rfl | (simp [errW_none, errW_some] <;> rfl) | (simp only [← hji6, ← hji8]; first | rfl | (simp [errW_none, errW_some] <;> rfl)) | (simp [*, errW_none, errW_some] <;> rfl), by repeat (first | (with_reducible first | exact HB.out | apply below_alloc | apply pw_below_drewN | apply below_drew1) | exact HB.out)⟩
                      · rw [if_neg c36] at H
                        have c36b0 : (t337 == t351) = false := beq_eq_false_iff_ne.mpr c36
                        have c36b1 : (t337 != t351) = true := bne_iff_ne.mpr c36
                        obtain rfl := Option.some.inj H
                        go_wp2_with (first | ((with_reducible refine gate_callee (f := 30) rfl ?_); refine goesL_ (some 116) rfl rfl Tryd.func30 (by kernel_rfl) rfl #[.int .i64 ji6, .int .i64 (wrap64 (1 + (Int.tmod (wrap64 (a0)) (wrap64 ((ji8) - 1)))))] rfl (by (try simp only [List.map_toArray, List.map_cons, List.map_nil]); first | done | (simp only [hji6, hji8]; rfl) | rfl | (simp only [List.length_drop, List.length_take]; rfl)) ?_; (with_reducible refine (solventref05_Log.calls kj18 ji6 (wrap64 (1 + (Int.tmod (wrap64 (a0)) (wrap64 ((ji8) - 1))))) t351 t352 _ A33.out).mono ?_); rintro e w' ⟨rfl, ⟨nd, rfl⟩⟩; refine ⟨_, rfl, ?_⟩))
                        go_ret
                        exact ⟨by first | rfl | (simp [errW_none, errW_some] <;> rfl) | (simp only [← hji6, ← hji8]; first | rfl | (simp [errW_none, errW_some] <;> rfl)) | (simp [*, errW_none, errW_some] <;> rfl), by repeat (first | (with_reducible first | exact HB.out | apply below_alloc | apply pw_below_drewN | apply below_drew1) | exact HB.out)⟩
        · rw [if_neg c7] at H
          exact absurd H (by simp)
      · rw [if_neg c5] at H
        have c5b0 : decide (x6_1 < 2) = false := decide_eq_false c5
        clear c5
        obtain rfl := Option.some.inj H
        go_wp2
        go_ret
        exact ⟨by first | rfl | (simp [errW_none, errW_some] <;> rfl) | (simp [*, errW_none, errW_some] <;> rfl), by repeat (first | (with_reducible first | exact HB.out | apply below_alloc | apply pw_below_drewN | apply below_drew1) | exact HB.out)⟩

end Go.Proofs.YtgmjaiknboafdaaDoor.P

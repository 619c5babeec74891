/- Hs. -/
import Derived.Test.YtfigcmmmpndpjaaDoorUf
/- What matrix.Solve answers. -/
namespace Go.Proofs.YtfigcmmmpndpjaaDoor.H
open Go.RowKit Go.Proofs.YtfigcmmmpndpjaaDoorW.PrintWords Go.Proofs.YtfigcmmmpndpjaaDoorW.PrintLast Go.Proofs.YtfigcmmmpndpjaaDoorW.PrintMore Go.Proofs.YtfigcmmmpndpjaaDoor.P
set_option linter.unusedVariables false
set_option linter.unusedSimpArgs false
set_option maxRecDepth 100000 in
set_option maxHeartbeats 4000000 in
theorem solve_bad1 (f r c f' r' c' : Int) (A A' : Option Addr) (cap cap' : Nat) (l l' : List Int) (w : World) (hl : Kd.C (Kd.int .i64) w A l.length l) (hl' : Kd.C (Kd.int .i64) w A' l'.length l') (hv : validB f r c l = false) :
    Calls Tryd.prog 17 #[.agg #[.int .i64 f, .int .i64 r, .int .i64 c, .slice A l.length cap], .agg #[.int .i64 f', .int .i64 r', .int .i64 c', .slice A' l'.length cap']] w (Back w 0 0 0 [] 1) := by
  have HL := Aside0.mk hl
  have HV := Aside0.mk hv
  have H3 := Aside0.mk (three_box w f r c A l.length cap f' r' c' A' l'.length cap')
  clear hl hv hl'
  go_enter Tryd.func17, Tryd.ntmps17
  go_wp2_with (go_at_call 28; refine (valid_is false f r c A cap l _ (Kd.C_below HL.out H3.out.1.below) HV.out).mono ?_; rintro e w1 ⟨rfl, hb⟩; have HB := Aside0.mk (H3.out.1.next hb); have hr := blk_below H3.out.2 hb; have HRes := Aside0.mk hr; obtain ⟨j0, j1, j2, j3⟩ := blk4 hr; have z0 := blk_frozen hr 0; have z1 := blk_frozen hr 1; have z2 := blk_frozen hr 2; have z3 := blk_frozen hr 3; clear hb hr)
  obtain ⟨f1, f2⟩ := bad_fin (w := w) (gb := w.heap.size + 1 + 1) HB.out.below (by omega) HRes.out
  refine bodyPost_ret (results_ct rfl _ _ (w.heap.size + 1 + 1) 24 #[.int .i64 0, .int .i64 0, .int .i64 0, .slice none 0 0] (0, 0) _ rfl f1 Tryd.underlying24 rfl (by kernel_rfl)) rfl ?_
  exact ⟨_, rfl, Kd.R_nil _ _ _ _ _, f2⟩
set_option maxRecDepth 100000 in
set_option maxHeartbeats 4000000 in
theorem solve_bad2 (f r c f' r' c' : Int) (A A' : Option Addr) (cap cap' : Nat) (l l' : List Int) (w : World) (hl : Kd.C (Kd.int .i64) w A l.length l) (hl' : Kd.C (Kd.int .i64) w A' l'.length l') (hv : validB f r c l = true) (hv' : validB f' r' c' l' = false) :
    Calls Tryd.prog 17 #[.agg #[.int .i64 f, .int .i64 r, .int .i64 c, .slice A l.length cap], .agg #[.int .i64 f', .int .i64 r', .int .i64 c', .slice A' l'.length cap']] w (Back w 0 0 0 [] 1) := by
  have HL := Aside0.mk hl
  have HV := Aside0.mk hv
  have HL' := Aside0.mk hl'
  have HV' := Aside0.mk hv'
  have H3 := Aside0.mk (three_box w f r c A l.length cap f' r' c' A' l'.length cap')
  clear hl hv hl' hv'
  go_enter Tryd.func17, Tryd.ntmps17
  go_wp2_with fail
  refine (valid_is true f r c A cap l _ (Kd.C_below HL.out H3.out.1.below) HV.out).mono ?_
  rintro e w1 ⟨rfl, hb⟩
  have HB := Aside0.mk (H3.out.1.next hb)
  have HRes := Aside0.mk (blk_below H3.out.2 hb)
  obtain ⟨k0, k1, k2, k3⟩ := blk4 HB.out.a
  obtain ⟨l0, l1, l2, l3⟩ := blk4 HB.out.b
  clear hb
  go_wp2_with fail
  refine (valid_is false f' r' c' A' cap' l' _ (Kd.C_below HL'.out HB.out.below) HV'.out).mono ?_
  rintro e w2 ⟨rfl, hb⟩
  have HB2 := Aside0.mk (HB.out.next hb)
  have HRes2 := Aside0.mk (blk_below HRes.out hb)
  clear hb k0 k1 k2 k3 l0 l1 l2 l3
  obtain ⟨k0, k1, k2, k3⟩ := blk4 HB2.out.a
  obtain ⟨l0, l1, l2, l3⟩ := blk4 HB2.out.b
  obtain ⟨j0, j1, j2, j3⟩ := blk4 HRes2.out
  have z0 := blk_frozen HRes2.out 0
  have z1 := blk_frozen HRes2.out 1
  have z2 := blk_frozen HRes2.out 2
  have z3 := blk_frozen HRes2.out 3
  go_wp2_with fail
  all_goals
    obtain ⟨f1, f2⟩ := bad_fin (w := w) (gb := w.heap.size + 1 + 1) HB2.out.below (by omega) HRes2.out
    refine bodyPost_ret (results_ct rfl _ _ (w.heap.size + 1 + 1) 24 #[.int .i64 0, .int .i64 0, .int .i64 0, .slice none 0 0] (0, 0) _ rfl f1 Tryd.underlying24 rfl (by kernel_rfl)) rfl ?_
    exact ⟨_, rfl, Kd.R_nil _ _ _ _ _, f2⟩
set_option maxRecDepth 100000 in
set_option maxHeartbeats 4000000 in
theorem solve_bad3 (f r c f' r' c' : Int) (A A' : Option Addr) (cap cap' : Nat) (l l' : List Int) (w : World) (hl : Kd.C (Kd.int .i64) w A l.length l) (hl' : Kd.C (Kd.int .i64) w A' l'.length l') (hv : validB f r c l = true) (hv' : validB f' r' c' l' = true) (hf : ¬ (f = f' ∧ r = r')) :
    Calls Tryd.prog 17 #[.agg #[.int .i64 f, .int .i64 r, .int .i64 c, .slice A l.length cap], .agg #[.int .i64 f', .int .i64 r', .int .i64 c', .slice A' l'.length cap']] w (Back w 0 0 0 [] 1) := by
  have HL := Aside0.mk hl
  have HV := Aside0.mk hv
  have HL' := Aside0.mk hl'
  have HV' := Aside0.mk hv'
  have H3 := Aside0.mk (three_box w f r c A l.length cap f' r' c' A' l'.length cap')
  have hc : (f != f') = true ∨ ((f != f') = false ∧ (r != r') = true) := by
    simp only [bne_iff_ne, bne_eq_false_iff_eq]
    by_cases h : f = f'
    · exact .inr ⟨h, fun h2 => hf ⟨h, h2⟩⟩
    · exact .inl h
  clear hf
  rcases hc with hc | ⟨hc, hc2⟩
  all_goals
    clear hl hv hl' hv'
    go_enter Tryd.func17, Tryd.ntmps17
    go_wp2_with fail
    refine (valid_is true f r c A cap l _ (Kd.C_below HL.out H3.out.1.below) HV.out).mono ?_
    rintro e w1 ⟨rfl, hb⟩
    have HB := Aside0.mk (H3.out.1.next hb)
    have HRes := Aside0.mk (blk_below H3.out.2 hb)
    obtain ⟨k0, k1, k2, k3⟩ := blk4 HB.out.a
    obtain ⟨l0, l1, l2, l3⟩ := blk4 HB.out.b
    clear hb
    go_wp2_with fail
    refine (valid_is true f' r' c' A' cap' l' _ (Kd.C_below HL'.out HB.out.below) HV'.out).mono ?_
    rintro e w2 ⟨rfl, hb⟩
    have HB2 := Aside0.mk (HB.out.next hb)
    have HRes2 := Aside0.mk (blk_below HRes.out hb)
    clear hb k0 k1 k2 k3 l0 l1 l2 l3
    obtain ⟨k0, k1, k2, k3⟩ := blk4 HB2.out.a
    obtain ⟨l0, l1, l2, l3⟩ := blk4 HB2.out.b
    obtain ⟨j0, j1, j2, j3⟩ := blk4 HRes2.out
    have z0 := blk_frozen HRes2.out 0
    have z1 := blk_frozen HRes2.out 1
    have z2 := blk_frozen HRes2.out 2
    have z3 := blk_frozen HRes2.out 3
    go_wp2_with fail
    all_goals
      obtain ⟨f1, f2⟩ := bad_fin (w := w) (gb := w.heap.size + 1 + 1) HB2.out.below (by omega) HRes2.out
      refine bodyPost_ret (results_ct rfl _ _ (w.heap.size + 1 + 1) 24 #[.int .i64 0, .int .i64 0, .int .i64 0, .slice none 0 0] (0, 0) _ rfl f1 Tryd.underlying24 rfl (by kernel_rfl)) rfl ?_
      exact ⟨_, rfl, Kd.R_nil _ _ _ _ _, f2⟩
set_option maxRecDepth 100000 in
set_option maxHeartbeats 1000000 in
theorem clo41 (x : Int) (w : World) : Calls Tryd.prog 41 #[.int .i64 x] w fun e w' => e = .returned (.bool (x != 0)) ∧ w = w' := by
  go_enter Tryd.func41, Tryd.ntmps41
  go_wp2
  go_ret
  exact ⟨rfl, rfl⟩
set_option maxRecDepth 100000 in
set_option maxHeartbeats 1000000 in
theorem idx50s (A : Option Addr) (c : Nat) (xs : List Int) (w : World) (hr : Kd.C (Kd.int .i64) w A xs.length xs) :
    Calls Tryd.prog 50 #[.slice A xs.length c, .func (.func 41) #[] #[]] w fun e w' => e = .returned (.int .i64 (idxF (fun x => x != 0) xs 0)) ∧ w = w' := by
  have hmax := Kd.C_max hr
  have HR := Aside0.mk hr
  clear hr
  go_enter Tryd.func50, Tryd.ntmps50
  go_wp2
  go_loop [8] (fun t => AtIdx (fun x => x != 0) xs t) (fun t => xs.length - (intOf t).toNat)
  case atStart => exact ⟨0, Nat.zero_le _, rfl, rfl⟩
  case round =>
    obtain ⟨k, hk, rfl, he⟩ := hrel
    have HE := Aside0.mk he
    clear he
    by_cases hlt : k < xs.length
    · obtain ⟨ad, rfl, hx⟩ := Kd.at_int HR.out (k : Int) (by omega) (by omega)
      have hd := idxF_drop (fun x : Int => x != 0) xs 0 k hlt k
      have HD := Aside0.mk hd
      clear hd
      have hx' : w.cell? (ad.add k) = some (.int .i64 (rd xs k)) := hx
      clear hx
      cases hb : (rd xs k != 0) with
      | true =>
        go_wp2_with (go_at_call 41; refine (clo41 _ _).mono ?_; rintro e w' ⟨rfl, rfl⟩)
        go_ret
        exact ⟨ret_int (by rw [HE.out, HD.out, if_pos (by simpa [rd] using hb)]), rfl⟩
      | false =>
        go_wp2_with (go_at_call 41; refine (clo41 _ _).mono ?_; rintro e w' ⟨rfl, rfl⟩)
        go_round
        case rel => exact ⟨k + 1, by omega, by go_num, by rw [HE.out, HD.out, if_neg (by simp [rd] at hb; simp [hb])]; simp⟩
        case measure => simp [intOf]; omega
    · have hk' : k = xs.length := by omega
      subst hk'
      go_wp2
      go_ret
      exact ⟨ret_int (by rw [HE.out]; simp [idxF]), rfl⟩
set_option maxRecDepth 100000 in
set_option maxHeartbeats 1000000 in
theorem any40s (A : Option Addr) (n c : Nat) (xs : List Int) (hn : xs.length = n) (w : World) (hr : ReadsInt w .i64 A n xs) :
    Calls Tryd.prog 40 #[.slice A n c, .func (.func 41) #[] #[]] w fun e w' => e = .returned (.bool (xs.any (fun x => x != 0))) ∧ w = w' := by
  subst hn
  have HR := Aside0.mk (show Kd.C (Kd.int .i64) w A xs.length xs from Kd.C_of_reads hr)
  have HI := Aside0.mk (idxF_any (fun x : Int => x != 0) xs 0 (by omega))
  clear hr
  go_enter Tryd.func40, Tryd.ntmps40
  go_wp2_with (go_at_call 50; refine (idx50s _ _ _ _ HR.out).mono ?_; rintro e w' ⟨rfl, rfl⟩)
  go_ret
  exact ⟨ret_bool HI.out, rfl⟩
/-- what holds while the solution is read off -/
structure Sol2 (w W : World) (gB gX hx m r ac bc cc : Nat) (A3 : Option Addr) (cap3 : Nat) (R : Mx.Fn) (A5 : Option Addr) (cap5 : Nat) (G : Mx.Fn) (v : Value) (ps : List Nat) (A : Option Addr) (n cap : Nat) : Prop where
  below : Below w.heap.size w W
  lr : w.heap.size + 1 + 1 < hx
  lB : gB < hx
  lX : hx ≤ gX
  a : W.heap[w.heap.size]? = some (.cells #[.int .i64 m, .int .i64 r, .int .i64 ac, .slice A n cap] 24 (0, 0))
  res : W.heap[w.heap.size + 1 + 1]? = some (.cells #[.int .i64 0, .int .i64 0, .int .i64 0, .slice none 0 0] 24 (0, 0))
  bm : W.heap[gB]? = some (.cells #[.int .i64 m, .int .i64 r, .int .i64 cc, .slice A3 (r * cc) cap3] 24 (0, 0))
  bo : Kd.R (Kd.int .i64) 3 W w.heap.size (fun k => k < hx) (.slice A3 (r * cc) cap3) (Mx.cells r cc R)
  pv : Kd.R (Kd.int .i64) 3 W w.heap.size (fun k => k < hx) v (piv ps)
  xm : W.heap[gX]? = some (.cells #[.int .i64 m, .int .i64 ac, .int .i64 bc, .slice A5 (ac * bc) cap5] 24 (0, 0))
  xo : Own W hx A5 (ac * bc) cap5 (Mx.cells ac bc G)
theorem Sol2.next {w W W2 : World} {gB gX hx m r ac bc cc : Nat} {A3 : Option Addr} {cap3 : Nat} {R : Mx.Fn} {A5 : Option Addr} {cap5 : Nat} {G : Mx.Fn} {v : Value} {ps : List Nat} {A : Option Addr} {n cap : Nat} (h : Sol2 w W gB gX hx m r ac bc cc A3 cap3 R A5 cap5 G v ps A n cap) (hb : Below W.heap.size W W2) : Sol2 w W2 gB gX hx m r ac bc cc A3 cap3 R A5 cap5 G v ps A n cap :=
  ⟨below_step h.below hb, h.lr, h.lB, h.lX, blk_below h.a hb, blk_below h.res hb, blk_below h.bm hb, Kd.R_below h.bo hb, Kd.R_below h.pv hb, blk_below h.xm hb, Kd.R_below h.xo hb⟩
theorem Sol2.drew {w W : World} {gB gX hx m r ac bc cc : Nat} {A3 : Option Addr} {cap3 : Nat} {R : Mx.Fn} {A5 : Option Addr} {cap5 : Nat} {G : Mx.Fn} {v : Value} {ps : List Nat} {A : Option Addr} {n cap : Nat} (h : Sol2 w W gB gX hx m r ac bc cc A3 cap3 R A5 cap5 G v ps A n cap) : Sol2 w W.drew gB gX hx m r ac bc cc A3 cap3 R A5 cap5 G v ps A n cap := h.next (below_drew (Below.refl _ _))
theorem Sol2.turn {w W W2 : World} {gB gX hx m r ac bc cc : Nat} {A3 : Option Addr} {cap3 : Nat} {R : Mx.Fn} {A5 : Option Addr} {cap5 : Nat} {G G' : Mx.Fn} {v : Value} {ps : List Nat} {A : Option Addr} {n cap : Nat} (h : Sol2 w W gB gX hx m r ac bc cc A3 cap3 R A5 cap5 G v ps A n cap) (hg : W.grownBy W2 (A5.map (·.block))) (ho : Own W2 hx A5 (ac * bc) cap5 (Mx.cells ac bc G')) : Sol2 w W2 gB gX hx m r ac bc cc A3 cap3 R A5 cap5 G' v ps A n cap := by
  have hlr := h.lr
  have hne : some gX ≠ A5.map (·.block) := fun e => by
    cases A5 with
    | none => cases e
    | some ad => exact Kd.R_ne h.xo h.xm (by decide) e
  have hlow : ∀ k, k < hx → some k ≠ A5.map (·.block) := fun k hk e => by
    have := grownA_hi (w' := W2) h.xo k e.symm
    omega
  exact ⟨grownA_below h.below h.xo (by omega) hg, h.lr, h.lB, h.lX, grownA_blk h.xo hg (by omega) h.a, grownA_blk h.xo hg (by omega) h.res, grownA_blk h.xo hg h.lB h.bm, Kd.R_grown h.bo hg hlow, Kd.R_grown h.pv hg hlow, blk_grown h.xm hg hne, ho⟩
theorem Sol2.congr {w W : World} {gB gX hx m r ac bc cc : Nat} {A3 : Option Addr} {cap3 : Nat} {R : Mx.Fn} {A5 : Option Addr} {cap5 : Nat} {G G' : Mx.Fn} {v : Value} {ps : List Nat} {A : Option Addr} {n cap : Nat} (h : Sol2 w W gB gX hx m r ac bc cc A3 cap3 R A5 cap5 G v ps A n cap) (e : Mx.cells ac bc G = Mx.cells ac bc G') : Sol2 w W gB gX hx m r ac bc cc A3 cap3 R A5 cap5 G' v ps A n cap :=
  ⟨h.below, h.lr, h.lB, h.lX, h.a, h.res, h.bm, h.bo, h.pv, h.xm, e ▸ h.xo⟩
theorem Sol2.both {w W : World} {gB gX hx m r ac bc cc : Nat} {A3 : Option Addr} {cap3 : Nat} {R : Mx.Fn} {A5 : Option Addr} {cap5 : Nat} {G : Mx.Fn} {v : Value} {ps : List Nat} {A : Option Addr} {n cap : Nat} (h : Sol2 w W gB gX hx m r ac bc cc A3 cap3 R A5 cap5 G v ps A n cap) : Own W w.heap.size A3 (r * cc) cap3 (Mx.cells r cc R) := Kd.R_mono h.bo (fun _ _ => trivial)
/-- the right side of a row, read -/
theorem Sol2.right {w W : World} {gB gX hx m r ac bc cc : Nat} {A3 : Option Addr} {cap3 : Nat} {R : Mx.Fn} {A5 : Option Addr} {cap5 : Nat} {G : Mx.Fn} {v : Value} {ps : List Nat} {A : Option Addr} {n cap : Nat} (h : Sol2 w W gB gX hx m r ac bc cc A3 cap3 R A5 cap5 G v ps A n cap) {i : Nat} (hi : i < r) (hcc : cc = ac + bc) {A6 : Option Addr} (hR : RowAt A3 (i * cc + ac) bc A6) :
    ∀ j, j < bc → ∃ ad, A6 = some ad ∧ W.cell? (ad.add j) = some (.int .i64 (R i (ac + j) : Int)) := fun j hj => by
  obtain ⟨g, e, _, _⟩ := own_blk _ _ _ _ _ _ h.both (Nat.mul_pos (by omega) (by omega))
  subst e
  have h1 := (own_cell h.both (i * cc + (ac + j)) (Mx.idx_lt hi (by omega))).1
  have e : rd (Mx.cells r cc R) ((i * cc + (ac + j) : Nat) : Int) = (R i (ac + j) : Int) := Mx.cells_getD _ hi (by omega)
  rw [e] at h1
  refine ⟨_, (hR (by omega)).trans (congrArg some (add_plain g _)), ?_⟩
  have e2 : (⟨g, i * cc + ac, none⟩ : Addr).add j = ⟨g, i * cc + (ac + j), none⟩ := by unfold Addr.add; split <;> simp_all <;> omega
  rw [e2]
  exact h1
theorem Sol2.fin {w W : World} {gB gX hx m r ac bc cc : Nat} {A3 : Option Addr} {cap3 : Nat} {R : Mx.Fn} {A5 : Option Addr} {cap5 : Nat} {G : Mx.Fn} {v : Value} {ps : List Nat} {A : Option Addr} {n cap : Nat} (h : Sol2 w W gB gX hx m r ac bc cc A3 cap3 R A5 cap5 G v ps A n cap) :
    (outW W (w.heap.size + 1 + 1) m ac bc A5 (ac * bc) cap5).heap[w.heap.size + 1 + 1]? = some (.cells #[.int .i64 m, .int .i64 ac, .int .i64 bc, .slice A5 (ac * bc) cap5] 24 (0, 0)) ∧ Own (outW W (w.heap.size + 1 + 1) m ac bc A5 (ac * bc) cap5) w.heap.size A5 (ac * bc) cap5 (Mx.cells ac bc G) ∧ Below w.heap.size w (outW W (w.heap.size + 1 + 1) m ac bc A5 (ac * bc) cap5) := by
  have hlr := h.lr
  refine ⟨?_, ?_, ?_⟩
  · exact blk_put (blk_put (blk_put (blk_put h.res 0 (.int .i64 m) rfl) 1 (.int .i64 ac) rfl) 2 (.int .i64 bc) rfl) 3 (.slice A5 (ac * bc) cap5) rfl
  · have k := Kd.R_types (Kd.R_lower (base' := w.heap.size) h.xo (by omega)) h.res (by decide)
    exact Kd.R_mono (Kd.R_far (p := ⟨w.heap.size + 1 + 1, 3, none⟩) (Kd.R_far (p := ⟨w.heap.size + 1 + 1, 2, none⟩) (Kd.R_far (p := ⟨w.heap.size + 1 + 1, 1, none⟩) (Kd.R_far (p := ⟨w.heap.size + 1 + 1, 0, none⟩) k (fun _ hk => hk.2) _) (fun _ hk => hk.2) _) (fun _ hk => hk.2) _) (fun _ hk => hk.2) _) (fun _ _ => trivial)
  · exact below_set (below_set (below_set (below_set h.below (by omega)) (by omega)) (by omega)) (by omega)
def rightL (R : Mx.Fn) (i ac bc : Nat) : List Int := (List.range bc).map fun j => ((R i (ac + j) : Nat) : Int)
theorem rightL_reads {W : World} {A6 : Option Addr} {R : Mx.Fn} {i ac bc : Nat} (hb : bc ≤ 64) (h : ∀ j, j < bc → ∃ ad, A6 = some ad ∧ W.cell? (ad.add j) = some (.int .i64 (R i (ac + j) : Int))) : ReadsInt W .i64 A6 bc (rightL R i ac bc) := by
  refine ⟨by simp [rightL], by omega, fun h0 => ?_⟩
  obtain ⟨ad, e, _⟩ := h 0 h0
  refine ⟨ad, e, fun k hk => ?_⟩
  obtain ⟨ad', e', hx⟩ := h k hk
  rw [e] at e'
  cases e'
  rw [hx]
  simp [rightL, hk]
theorem rightL_any (R : Mx.Fn) (i ac bc : Nat) : ((rightL R i ac bc).any fun x => x != 0) = true ↔ ∃ j, j < bc ∧ R i (ac + j) ≠ 0 := by
  simp only [rightL, List.any_eq_true, List.mem_map, List.mem_range]
  constructor
  · rintro ⟨x, ⟨j, hj, rfl⟩, hx⟩
    refine ⟨j, hj, fun e => ?_⟩
    rw [e] at hx
    simp at hx
  · rintro ⟨j, hj, hx⟩
    refine ⟨_, ⟨j, hj, rfl⟩, ?_⟩
    rw [bne_iff_ne]
    omega
theorem Box2.drew' {w w1 : World} {f r c : Int} {A : Option Addr} {n cap : Nat} {f' r' c' : Int} {A' : Option Addr} {n' cap' : Nat} (h : Box2 w w1 f r c A n cap f' r' c' A' n' cap') : Box2 w w1.drew f r c A n cap f' r' c' A' n' cap' := h.drew
theorem copy_dst {A3 A5 : Option Addr} {q c : Nat} (h : 0 < c → ∃ g, A3 = some ⟨g, 0, none⟩) (hR : RowAt A3 q c A5) (hc : 0 < c) : A5 = some ⟨(A3.map (·.block)).getD 0, q, none⟩ := by
  obtain ⟨g, e⟩ := h hc
  subst e
  exact (hR hc).trans (congrArg some (add_plain g _))
theorem copy_blk {A3 : Option Addr} {c n : Nat} (h : 0 < c → ∃ g, A3 = some ⟨g, 0, none⟩) (hn : 0 < n → 0 < c) : 0 < n → A3 = some ⟨(A3.map (·.block)).getD 0, 0, none⟩ := fun h0 => by
  obtain ⟨g, e⟩ := h (hn h0)
  subst e
  rfl
theorem copy_src {w W : World} {A A5 : Option Addr} {r c i m : Nat} {l : List Int} {F : Mx.Fn} (hl : Kd.C (Kd.int .i64) w A l.length l) (hb : Below w.heap.size w W) (hR : RowAt A (i * c) c A5) (hfit : (i + 1) * c ≤ l.length) (hn : l.length = r * c) (hin : ∀ x ∈ l, 0 ≤ x ∧ x < 2 ^ m) (hi : i < r) (hF : F = Mx.el c l) :
    ∀ j, j < c → ∃ ad, A5 = some ad ∧ W.cell? (ad.add j) = some (.int .i64 (F i j : Int)) := fun j hj => by
  obtain ⟨ad, e, hx⟩ := row_cell (k := j) (n := 0) (Kd.C_below hl hb) hR hj hfit
  rw [rd_el hn hin hi hj, ← hF] at hx
  exact ⟨ad, e, hx⟩
theorem copy_room {W : World} {base cap r c i j d : Nat} {A3 : Option Addr} {F : Mx.Fn} (ho : Own W base A3 (r * c) cap (Mx.cells r c F)) (h : 0 < c → ∃ g, A3 = some ⟨g, 0, none⟩) (hi : i < r) (hj : d + j < c) : (W.cell? ⟨(A3.map (·.block)).getD 0, i * c + d + j, none⟩).isSome = true ∧ W.frozen? ⟨(A3.map (·.block)).getD 0, i * c + d + j, none⟩ = false := by
  obtain ⟨g, e⟩ := h (by omega)
  subst e
  obtain ⟨h1, h2⟩ := own_cell ho (i * c + (d + j)) (Mx.idx_lt hi hj)
  rw [Nat.add_assoc]
  exact ⟨by rw [show (Option.map (fun x : Addr => x.block) (some ⟨g, 0, none⟩)).getD 0 = g from rfl, h1]; rfl, h2⟩
theorem own_puts_any {W : World} {base r c cap i d n : Nat} {A : Option Addr} {F : Mx.Fn} {G : Nat → Nat} (h : Own W base A (r * c) cap (Mx.cells r c F)) (hi : i < r) (hd : d + n ≤ c) {g : Nat} (hA : 0 < n → A = some ⟨g, 0, none⟩) :
    ∃ W2, W2 = W.setCells g (i * c + d) (numCells n G) ∧ W.grownBy W2 (A.map (·.block)) ∧ Own W2 base A (r * c) cap (Mx.cells r c (paste F i d n G)) := by
  rcases Nat.eq_zero_or_pos n with h0 | hp
  · subst h0
    refine ⟨_, rfl, World.grownBy.refl W _, ?_⟩
    rw [paste_zero]
    exact h
  · have e := hA hp
    subst e
    obtain ⟨h1, h2⟩ := own_puts hi n d G F W hd h
    exact ⟨_, rfl, h2, h1⟩
theorem copy_room0 {W : World} {base cap r c i j : Nat} {A3 : Option Addr} {F : Mx.Fn} (ho : Own W base A3 (r * c) cap (Mx.cells r c F)) (h : 0 < c → ∃ g, A3 = some ⟨g, 0, none⟩) (hi : i < r) (hj : j < c) : (W.cell? ⟨(A3.map (·.block)).getD 0, i * c + j, none⟩).isSome = true ∧ W.frozen? ⟨(A3.map (·.block)).getD 0, i * c + j, none⟩ = false :=
  copy_room (d := 0) ho h hi (by omega)
/-- what is asked of a system, and its answer -/
def SolveEnd (m r ac bc : Nat) (R : Mx.Fn × List Nat) (w : World) (e : Ending) (w' : World) : Prop :=
  (Mx.Left R.1 R.2.length r ac bc ∧ Back w 0 0 0 [] 12 e w') ∨ (¬ Mx.Left R.1 R.2.length r ac bc ∧ Back w m ac bc (Mx.cells ac bc (Mx.solTo R.1 R.2 ac R.2.length)) 0 e w')
set_option maxRecDepth 100000 in
set_option maxHeartbeats 16000000 in
theorem solve_ok (m r ac bc : Nat) (hm : Gf.Ok m) (hr : r ≤ 32) (hac : ac ≤ 32) (hbc : bc ≤ 32) (A A' : Option Addr) (cap cap' : Nat) (l l' : List Int) (hcap : l.length ≤ cap) (hcap' : l'.length ≤ cap') (hln : l.length = r * ac) (hln' : l'.length = r * bc)
    (hin : ∀ x ∈ l, 0 ≤ x ∧ x < 2 ^ m) (hin' : ∀ x ∈ l', 0 ≤ x ∧ x < 2 ^ m) (w : World) (hff : FF w) (hl : Kd.C (Kd.int .i64) w A l.length l) (hl' : Kd.C (Kd.int .i64) w A' l'.length l') :
    Calls Tryd.prog 17 #[.agg #[.int .i64 m, .int .i64 r, .int .i64 ac, .slice A l.length cap], .agg #[.int .i64 m, .int .i64 r, .int .i64 bc, .slice A' l'.length cap']] w
      (SolveEnd m r ac bc (Mx.redTo m r (Mx.bes ac (Mx.el ac l) (Mx.el bc l')) ac) w) := by
  obtain ⟨cc, hcc⟩ : ∃ cc, cc = ac + bc := ⟨_, rfl⟩
  have hccl : cc ≤ 64 := by omega
  have HCC := Aside0.mk hcc
  have HL := Aside0.mk hl
  have HL' := Aside0.mk hl'
  have HV := Aside0.mk (valid_mk hm hr hac hln hin)
  have HV' := Aside0.mk (valid_mk hm hr hbc hln' hin')
  have H3 := Aside0.mk (three_box w m r ac A l.length cap m r bc A' l'.length cap')
  have HZ := Aside0.mk (zero_is m r cc (by omega) (by omega))
  have HZ2 := Aside0.mk (zero_is m ac bc (by omega) (by omega))
  have HN := Aside0.mk hln
  have HN' := Aside0.mk hln'
  have HI := Aside0.mk hin
  have HI' := Aside0.mk hin'
  have HP := Aside0.mk hcap
  have HP' := Aside0.mk hcap'
  have HF := Aside0.mk hff
  have HW0 := Aside0.mk hff.lt
  have HM := Aside0.mk hm
  have hA : 0 < l.length → ∃ ad, A = some ad := fun h => by obtain ⟨ad, e, _⟩ := Kd.at_int hl 0 (by omega) (by omega); exact ⟨ad, e⟩
  have HA := Aside0.mk hA
  have hA' : 0 < l'.length → ∃ ad, A' = some ad := fun h => by obtain ⟨ad, e, _⟩ := Kd.at_int hl' 0 (by omega) (by omega); exact ⟨ad, e⟩
  have HA' := Aside0.mk hA'
  have hsum : (ac : Int) + (bc : Int) = (cc : Int) := by omega
  have HSum := Aside0.mk hsum
  obtain ⟨FA, hFA⟩ : ∃ F, F = Mx.el ac l := ⟨_, rfl⟩
  obtain ⟨FB, hFB⟩ : ∃ F, F = Mx.el bc l' := ⟨_, rfl⟩
  rw [← hFA, ← hFB]
  have HFA := Aside0.mk hFA
  have HFB := Aside0.mk hFB
  have HBes := Aside0.mk (show Mx.In m r cc (Mx.bes ac FA FB) from by rw [hcc, hFA, hFB]; exact Mx.bes_in (el_in hln hin) (el_in hln' hin'))
  clear hl hl' hln hln' hin hin' hcap hcap' hff hm hA hA' hcc hsum hFA hFB
  go_enter Tryd.func17, Tryd.ntmps17
  go_wp2_with fail
  refine (valid_is true m r ac A cap l _ (Kd.C_below HL.out H3.out.1.below) HV.out).mono ?_
  rintro e w1 ⟨rfl, hb⟩
  have HB := Aside0.mk (H3.out.1.next hb)
  have HRes := Aside0.mk (blk_below H3.out.2 hb)
  obtain ⟨k0, k1, k2, k3⟩ := blk4 HB.out.a
  obtain ⟨l0, l1, l2, l3⟩ := blk4 HB.out.b
  clear hb
  go_wp2_with fail
  refine (valid_is true m r bc A' cap' l' _ (Kd.C_below HL'.out HB.out.below) HV'.out).mono ?_
  rintro e w2 ⟨rfl, hb⟩
  have HB2 := Aside0.mk (HB.out.next hb)
  have HRes2 := Aside0.mk (blk_below HRes.out hb)
  clear hb k0 k1 k2 k3 l0 l1 l2 l3
  obtain ⟨k0, k1, k2, k3⟩ := blk4 HB2.out.a
  obtain ⟨l0, l1, l2, l3⟩ := blk4 HB2.out.b
  have hsum := HSum.out
  go_wp2_with fail
  refine (matrix_zero.calls _ r cc _ r cc (List.replicate (r * cc) 0) _ HZ.out).mono ?_
  rintro e w3 ⟨v, rfl, ho, hb⟩
  obtain ⟨A3, cap3, rfl⟩ := Kd.R_slice ho
  have hlen : (List.replicate (r * cc) (0 : Int)).length = r * cc := List.length_replicate
  rw [hlen, cells_zero] at ho
  have HO1 := Aside0.mk ho
  have HB3 := Aside0.mk hb
  have HX3 := Aside0.mk (HB2.out.next hb)
  clear ho hb k0 k1 k2 k3 l0 l1 l2 l3 hlen hsum
  rw [List.length_replicate]
  obtain ⟨k0, k1, k2, k3⟩ := blk4 HX3.out.a
  obtain ⟨l0, l1, l2, l3⟩ := blk4 HX3.out.b
  have hz : w.heap.size < w3.heap.size := blk_lt HX3.out.a
  have hz2 : w.heap.size + 1 < w3.heap.size := blk_lt HX3.out.b
  go_wp2_with fail
  clear k0 k1 k2 k3 l0 l1 l2 l3 hz hz2
  go_loopw [47] (fun i_ wr => ∃ i : Nat, i ≤ r ∧ i_ = .int .i64 i ∧ Aside0 (Made w wr (w.heap.size + 1 + 1) w3.heap.size m r cc A3 cap3 (Mx.besTo ac FA FB i)) ∧ Aside0 (Box2 w wr m r ac A l.length cap m r bc A' l'.length cap')) (fun i_ _ => r - (intOf i_).toNat)
  case atStart =>
    refine ⟨0, Nat.zero_le _, rfl, ⟨(made_new HB2.out.below HRes2.out (by omega) HB3.out HO1.out rfl).congr (Mx.besTo_none ac FA FB r cc).symm⟩, ⟨HX3.out.next (below_alloc (Below.refl _ _) _)⟩⟩
  case round =>
    obtain ⟨i, hi, rfl, HMd, HBx⟩ := hrel
    by_cases hlt : i < r
    · have HRi := Aside0.mk (row_fits (c := cc) hlt)
      have HRa := Aside0.mk (show (i + 1) * ac ≤ l.length by rw [HN.out]; exact row_fits hlt)
      have HRb := Aside0.mk (show (i + 1) * bc ≤ l'.length by rw [HN'.out]; exact row_fits hlt)
      have HC3 := Aside0.mk (Kd.R_reads' HMd.out.own).2.1
      have HA3 := Aside0.mk (show 0 < r * cc → ∃ ad, A3 = some ad from fun h => by obtain ⟨g, e, _⟩ := own_blk _ _ _ _ _ _ HMd.out.own h; exact ⟨_, e⟩)
      have HA3g := Aside0.mk (show 0 < cc → ∃ g, A3 = some ⟨g, 0, none⟩ from fun h => by obtain ⟨g, e, _⟩ := own_blk _ _ _ _ _ _ HMd.out.own (Nat.mul_pos (Nat.lt_of_le_of_lt (Nat.zero_le _) hlt) h); exact ⟨_, e⟩)
      go_upto_region 7 with (fail)
      have HSk := Aside0.mk (show ∀ W, Made w W (w.heap.size + 1 + 1) w3.heap.size m r cc A3 cap3 (Mx.besTo ac FA FB i) → Box2 w W m r ac A l.length cap m r bc A' l'.length cap' → W.cell? ⟨w3.heap.size, 0, none⟩ = some (.int .i64 m) ∧ W.cell? ⟨w3.heap.size, 1, none⟩ = some (.int .i64 r) ∧ W.cell? ⟨w3.heap.size, 2, none⟩ = some (.int .i64 cc) ∧ W.cell? ⟨w3.heap.size, 3, none⟩ = some (.slice A3 (r * cc) cap3) ∧ W.cell? ⟨w.heap.size, 0, none⟩ = some (.int .i64 m) ∧ W.cell? ⟨w.heap.size, 1, none⟩ = some (.int .i64 r) ∧ W.cell? ⟨w.heap.size, 2, none⟩ = some (.int .i64 ac) ∧ W.cell? ⟨w.heap.size, 3, none⟩ = some (.slice A l.length cap) from fun W h k => ⟨(blk4 h.mat).1, (blk4 h.mat).2.1, (blk4 h.mat).2.2.1, (blk4 h.mat).2.2.2, (blk4 k.a).1, (blk4 k.a).2.1, (blk4 k.a).2.2.1, (blk4 k.a).2.2.2⟩)
      refine start_ (n := 7) (S := fun w' => w'.cell? ⟨w3.heap.size, 0, none⟩ = some (.int .i64 m) ∧ w'.cell? ⟨w3.heap.size, 1, none⟩ = some (.int .i64 r) ∧ w'.cell? ⟨w3.heap.size, 2, none⟩ = some (.int .i64 cc) ∧ w'.cell? ⟨w3.heap.size, 3, none⟩ = some (.slice A3 (r * cc) cap3) ∧ w'.cell? ⟨w.heap.size, 0, none⟩ = some (.int .i64 m) ∧ w'.cell? ⟨w.heap.size, 1, none⟩ = some (.int .i64 r) ∧ w'.cell? ⟨w.heap.size, 2, none⟩ = some (.int .i64 ac) ∧ w'.cell? ⟨w.heap.size, 3, none⟩ = some (.slice A l.length cap)) (ds := [6]) #[false, false, false, false, false, false, false] (by kernel_rfl) rfl rfl (HSk.out _ HMd.out.drew (HBx.out.drew)) (fun hHeld => ?_)
      have HMd' := Aside0.mk HMd.out.drew
      have HBx' := Aside0.mk HBx.out.drew
      clear HMd HBx
      have HMd := HMd'
      have HBx := HBx'
      clear HMd' HBx'
      generalize wr.drew = wd at HMd HBx hHeld ⊢
      refine pure_ (i := 1) (N := some 51) (v := ?_) (a' := ?_) #[false, true, false, false, false, false, false] rfl rfl (by kernel_rfl) (fun _ _ _ h => h) (Or.inl ⟨by rfl, ?_⟩) ?_ ?_
      rotate_left
      · intro w'
        go_simp
        with_reducible rfl
      rotate_left
      · simp only [Act.put, List.setIfInBounds_toArray, List.set_cons_zero, List.set_cons_succ, i64_w, i32_w]
        rfl
      refine pure_ (i := 4) (N := some 54) (v := ?_) (a' := ?_) #[false, true, false, false, true, false, false] rfl rfl (by kernel_rfl) (fun _ _ _ h => h) (Or.inl ⟨by rfl, ?_⟩) ?_ ?_
      rotate_left
      · intro w'
        go_simp
        with_reducible rfl
      rotate_left
      · simp only [Act.put, List.setIfInBounds_toArray, List.set_cons_zero, List.set_cons_succ, i64_w, i32_w]
        rfl
      refine take_ (i := 0) (N := some 50) (v := ?_) (a' := ?_) #[true, true, false, false, true, false, false] rfl rfl (by kernel_rfl) (fun _ _ _ h => h) (Or.inl ⟨by rfl, ?_⟩) hHeld ?_ ?_
      rotate_left
      · rintro w' ⟨s0, s1, s2, s3, s4, s5, s6, s7⟩
        go_simp
        with_reducible rfl
      rotate_left
      · simp only [Act.put, List.setIfInBounds_toArray, List.set_cons_zero, List.set_cons_succ, i64_w, i32_w]
        rfl
      refine take_ (i := 3) (N := some 53) (v := ?_) (a' := ?_) #[true, true, false, true, true, false, false] rfl rfl (by kernel_rfl) (fun _ _ _ h => h) (Or.inl ⟨by rfl, ?_⟩) hHeld ?_ ?_
      rotate_left
      · rintro w' ⟨s0, s1, s2, s3, s4, s5, s6, s7⟩
        go_simp
        with_reducible rfl
      rotate_left
      · simp only [Act.put, List.setIfInBounds_toArray, List.set_cons_zero, List.set_cons_succ, i64_w, i32_w]
        rfl
      refine one_ (i := 2) (N := some 52) #[true, true, true, true, true, false, false] rfl rfl (by kernel_rfl) (by decide) (fun K hK => ?_)
      refine goes_ Tryd.func36 (by kernel_rfl) rfl #[.agg #[.int .i64 m, .int .i64 r, .int .i64 cc, .slice A3 (r * cc) cap3], .int .i64 i] (by rfl) rfl rfl (by (try simp only [List.map_toArray, List.map_cons, List.map_nil]); first | done | rfl) ?_
      refine (row_calls m r cc (r * cc) cap3 i A3 _ HA3.out (by omega) (by omega) HRi.out HC3.out).mono ?_
      rintro e wq ⟨A5a, c5a, rfl, hc5a, hR5, hb⟩
      have HR5a := Aside0.mk hR5
      have HMd' := Aside0.mk (HMd.out.next hb)
      have HBx' := Aside0.mk (HBx.out.next hb)
      clear HMd HBx
      have HMd := HMd'
      have HBx := HBx'
      clear HMd' HBx'
      clear hb hR5
      refine ⟨_, rfl, ?_⟩
      refine hK.out _ _ (HSk.out _ HMd.out HBx.out) (fun hHeld => ?_)
      clear hK K
      refine norm_ (a' := ?_) ?_ ?_
      rotate_left
      · show Act.put _ (some 52) _ = _
        simp only [Act.put, List.setIfInBounds_toArray, List.set_cons_zero, List.set_cons_succ, i64_w, i32_w]
        rfl
      refine one_ (i := 5) (N := some 55) #[true, true, true, true, true, true, false] rfl rfl (by kernel_rfl) (by decide) (fun K hK => ?_)
      refine goes_ Tryd.func36 (by kernel_rfl) rfl #[.agg #[.int .i64 m, .int .i64 r, .int .i64 ac, .slice A l.length cap], .int .i64 i] (by rfl) rfl rfl (by (try simp only [List.map_toArray, List.map_cons, List.map_nil]); first | done | rfl) ?_
      refine (row_calls m r ac l.length cap i A _ HA.out (by omega) (by omega) HRa.out HP.out).mono ?_
      rintro e wq ⟨A5b, c5b, rfl, hc5b, hR5, hb⟩
      have HR5b := Aside0.mk hR5
      have HMd' := Aside0.mk (HMd.out.next hb)
      have HBx' := Aside0.mk (HBx.out.next hb)
      clear HMd HBx
      have HMd := HMd'
      have HBx := HBx'
      clear HMd' HBx'
      clear hb hR5
      refine ⟨_, rfl, ?_⟩
      refine hK.out _ _ (HSk.out _ HMd.out HBx.out) (fun hHeld => ?_)
      clear hK K
      refine norm_ (a' := ?_) ?_ ?_
      rotate_left
      · show Act.put _ (some 55) _ = _
        simp only [Act.put, List.setIfInBounds_toArray, List.set_cons_zero, List.set_cons_succ, i64_w, i32_w]
        rfl
      refine last_ (i := 6) (N := some 56) #[true, true, true, true, true, true, true] rfl rfl (by kernel_rfl) (by decide) (fun K hK => ?_)
      refine step_copy_nums (by rfl) _ _ (by rfl) A5a A5b cc c5a ac c5b (by rfl) (by rfl) ((A3.map (·.block)).getD 0) (i * cc) ac (FA i) (by rw [HCC.out]; exact (Nat.min_eq_left (Nat.le_add_right _ _)).symm) ?_ ?_ ?_ ?_
      · exact fun h0 => copy_dst HA3g.out HR5a.out (by have := HCC.out; omega)
      · exact copy_src HL.out HMd.out.below HR5b.out HRa.out HN.out HI.out hlt HFA.out
      · exact fun j hj => copy_room0 HMd.out.own HA3g.out hlt (by have := HCC.out; omega)
      obtain ⟨W2, hW2, hg2, ho2⟩ := HMd.out.puts (G := FA i) (d := 0) (n := ac) hlt (by have := HCC.out; omega) (copy_blk HA3g.out (by have := HCC.out; omega))
      rw [Nat.add_zero] at hW2
      rw [← hW2]
      have HBx' := Aside0.mk (HBx.out.turn HMd.out.own hg2)
      have HMd' := Aside0.mk (HMd.out.turn hg2 ho2)
      clear HMd HBx hg2 ho2 hW2 HSk
      have HMd := HMd'
      have HBx := HBx'
      clear HMd' HBx'
      refine hK.out _ _ ?_
      clear hK K
      refine norm_ (a' := ?_) ?_ ?_
      rotate_left
      · show Act.put _ (some 56) _ = _
        simp only [Act.put, List.setIfInBounds_toArray, List.set_cons_zero, List.set_cons_succ, i64_w, i32_w]
        rfl
      refine done_ (by kernel_rfl) ?_
      clear HR5a HR5b
      go_upto_region 8 with (fail)
      have HSk := Aside0.mk (show ∀ W, Made w W (w.heap.size + 1 + 1) w3.heap.size m r cc A3 cap3 (paste (Mx.besTo ac FA FB i) i 0 ac (FA i)) → Box2 w W m r ac A l.length cap m r bc A' l'.length cap' → W.cell? ⟨w3.heap.size, 0, none⟩ = some (.int .i64 m) ∧ W.cell? ⟨w3.heap.size, 1, none⟩ = some (.int .i64 r) ∧ W.cell? ⟨w3.heap.size, 2, none⟩ = some (.int .i64 cc) ∧ W.cell? ⟨w3.heap.size, 3, none⟩ = some (.slice A3 (r * cc) cap3) ∧ W.cell? ⟨w.heap.size, 2, none⟩ = some (.int .i64 ac) ∧ W.cell? ⟨w.heap.size + 1, 0, none⟩ = some (.int .i64 m) ∧ W.cell? ⟨w.heap.size + 1, 1, none⟩ = some (.int .i64 r) ∧ W.cell? ⟨w.heap.size + 1, 2, none⟩ = some (.int .i64 bc) ∧ W.cell? ⟨w.heap.size + 1, 3, none⟩ = some (.slice A' l'.length cap') from fun W h k => ⟨(blk4 h.mat).1, (blk4 h.mat).2.1, (blk4 h.mat).2.2.1, (blk4 h.mat).2.2.2, (blk4 k.a).2.2.1, (blk4 k.b).1, (blk4 k.b).2.1, (blk4 k.b).2.2.1, (blk4 k.b).2.2.2⟩)
      refine start_ (n := 10) (S := fun w' => w'.cell? ⟨w3.heap.size, 0, none⟩ = some (.int .i64 m) ∧ w'.cell? ⟨w3.heap.size, 1, none⟩ = some (.int .i64 r) ∧ w'.cell? ⟨w3.heap.size, 2, none⟩ = some (.int .i64 cc) ∧ w'.cell? ⟨w3.heap.size, 3, none⟩ = some (.slice A3 (r * cc) cap3) ∧ w'.cell? ⟨w.heap.size, 2, none⟩ = some (.int .i64 ac) ∧ w'.cell? ⟨w.heap.size + 1, 0, none⟩ = some (.int .i64 m) ∧ w'.cell? ⟨w.heap.size + 1, 1, none⟩ = some (.int .i64 r) ∧ w'.cell? ⟨w.heap.size + 1, 2, none⟩ = some (.int .i64 bc) ∧ w'.cell? ⟨w.heap.size + 1, 3, none⟩ = some (.slice A' l'.length cap')) (ds := [9]) #[false, false, false, false, false, false, false, false, false, false] (by kernel_rfl) rfl rfl (HSk.out _ HMd.out.drew (HBx.out.drew)) (fun hHeld => ?_)
      have HMd' := Aside0.mk HMd.out.drew
      have HBx' := Aside0.mk HBx.out.drew
      clear HMd HBx
      have HMd := HMd'
      have HBx := HBx'
      clear HMd' HBx'
      generalize W2.drew = wd at HMd HBx hHeld ⊢
      refine pure_ (i := 1) (N := some 58) (v := ?_) (a' := ?_) #[false, true, false, false, false, false, false, false, false, false] rfl rfl (by kernel_rfl) (fun _ _ _ h => h) (Or.inl ⟨by rfl, ?_⟩) ?_ ?_
      rotate_left
      · intro w'
        go_simp
        with_reducible rfl
      rotate_left
      · simp only [Act.put, List.setIfInBounds_toArray, List.set_cons_zero, List.set_cons_succ, i64_w, i32_w]
        rfl
      refine pure_ (i := 3) (N := some 60) (v := ?_) (a' := ?_) #[false, true, false, true, false, false, false, false, false, false] rfl rfl (by kernel_rfl) (fun _ _ _ h => h) (Or.inl ⟨by rfl, ?_⟩) ?_ ?_
      rotate_left
      · intro w'
        go_simp
        with_reducible rfl
      rotate_left
      · simp only [Act.put, List.setIfInBounds_toArray, List.set_cons_zero, List.set_cons_succ, i64_w, i32_w]
        rfl
      refine pure_ (i := 7) (N := some 64) (v := ?_) (a' := ?_) #[false, true, false, true, false, false, false, true, false, false] rfl rfl (by kernel_rfl) (fun _ _ _ h => h) (Or.inl ⟨by rfl, ?_⟩) ?_ ?_
      rotate_left
      · intro w'
        go_simp
        with_reducible rfl
      rotate_left
      · simp only [Act.put, List.setIfInBounds_toArray, List.set_cons_zero, List.set_cons_succ, i64_w, i32_w]
        rfl
      refine take_ (i := 0) (N := some 57) (v := ?_) (a' := ?_) #[true, true, false, true, false, false, false, true, false, false] rfl rfl (by kernel_rfl) (fun _ _ _ h => h) (Or.inl ⟨by rfl, ?_⟩) hHeld ?_ ?_
      rotate_left
      · rintro w' ⟨s0, s1, s2, s3, s4, s5, s6, s7, s8⟩
        go_simp
        with_reducible rfl
      rotate_left
      · simp only [Act.put, List.setIfInBounds_toArray, List.set_cons_zero, List.set_cons_succ, i64_w, i32_w]
        rfl
      refine take_ (i := 4) (N := some 61) (v := ?_) (a' := ?_) #[true, true, false, true, true, false, false, true, false, false] rfl rfl (by kernel_rfl) (fun _ _ _ h => h) (Or.inl ⟨by rfl, ?_⟩) hHeld ?_ ?_
      rotate_left
      · rintro w' ⟨s0, s1, s2, s3, s4, s5, s6, s7, s8⟩
        go_simp
        with_reducible rfl
      rotate_left
      · simp only [Act.put, List.setIfInBounds_toArray, List.set_cons_zero, List.set_cons_succ, i64_w, i32_w]
        rfl
      refine take_ (i := 6) (N := some 63) (v := ?_) (a' := ?_) #[true, true, false, true, true, false, true, true, false, false] rfl rfl (by kernel_rfl) (fun _ _ _ h => h) (Or.inl ⟨by rfl, ?_⟩) hHeld ?_ ?_
      rotate_left
      · rintro w' ⟨s0, s1, s2, s3, s4, s5, s6, s7, s8⟩
        go_simp
        with_reducible rfl
      rotate_left
      · simp only [Act.put, List.setIfInBounds_toArray, List.set_cons_zero, List.set_cons_succ, i64_w, i32_w]
        rfl
      refine one_ (i := 2) (N := some 59) #[true, true, true, true, true, false, true, true, false, false] rfl rfl (by kernel_rfl) (by decide) (fun K hK => ?_)
      refine goes_ Tryd.func36 (by kernel_rfl) rfl #[.agg #[.int .i64 m, .int .i64 r, .int .i64 cc, .slice A3 (r * cc) cap3], .int .i64 i] (by rfl) rfl rfl (by (try simp only [List.map_toArray, List.map_cons, List.map_nil]); first | done | rfl) ?_
      refine (row_calls m r cc (r * cc) cap3 i A3 _ HA3.out (by omega) (by omega) HRi.out HC3.out).mono ?_
      rintro e wq ⟨A5a, c5a, rfl, hc5a, hR5, hb⟩
      have HR5a := Aside0.mk hR5
      have HMd' := Aside0.mk (HMd.out.next hb)
      have HBx' := Aside0.mk (HBx.out.next hb)
      clear HMd HBx
      have HMd := HMd'
      have HBx := HBx'
      clear HMd' HBx'
      clear hb hR5
      refine ⟨_, rfl, ?_⟩
      refine hK.out _ _ (HSk.out _ HMd.out HBx.out) (fun hHeld => ?_)
      obtain ⟨A6, hcut, hR6⟩ := cut_row (m := ac) (b := bc) HR5a.out HCC.out hc5a
      have HR6 := Aside0.mk hR6
      clear hR6
      clear hK K
      refine norm_ (a' := ?_) ?_ ?_
      rotate_left
      · show Act.put _ (some 59) _ = _
        simp only [Act.put, List.setIfInBounds_toArray, List.set_cons_zero, List.set_cons_succ, i64_w, i32_w]
        rfl
      refine pure_ (i := 5) (N := some 62) (v := ?_) (a' := ?_) #[true, true, true, true, true, true, true, true, false, false] rfl rfl (by kernel_rfl) (fun _ _ _ h => h) (Or.inl ⟨by rfl, ?_⟩) ?_ ?_
      rotate_left
      · intro w'
        go_simp
        with_reducible rfl
      rotate_left
      · simp only [Act.put, List.setIfInBounds_toArray, List.set_cons_zero, List.set_cons_succ, i64_w, i32_w]
        rfl
      refine one_ (i := 8) (N := some 65) #[true, true, true, true, true, true, true, true, true, false] rfl rfl (by kernel_rfl) (by decide) (fun K hK => ?_)
      refine goes_ Tryd.func36 (by kernel_rfl) rfl #[.agg #[.int .i64 m, .int .i64 r, .int .i64 bc, .slice A' l'.length cap'], .int .i64 i] (by rfl) rfl rfl (by (try simp only [List.map_toArray, List.map_cons, List.map_nil]); first | done | rfl) ?_
      refine (row_calls m r bc l'.length cap' i A' _ HA'.out (by omega) (by omega) HRb.out HP'.out).mono ?_
      rintro e wq ⟨A5b, c5b, rfl, hc5b, hR5, hb⟩
      have HR5b := Aside0.mk hR5
      have HMd' := Aside0.mk (HMd.out.next hb)
      have HBx' := Aside0.mk (HBx.out.next hb)
      clear HMd HBx
      have HMd := HMd'
      have HBx := HBx'
      clear HMd' HBx'
      clear hb hR5
      refine ⟨_, rfl, ?_⟩
      refine hK.out _ _ (HSk.out _ HMd.out HBx.out) (fun hHeld => ?_)
      clear hK K
      refine norm_ (a' := ?_) ?_ ?_
      rotate_left
      · show Act.put _ (some 65) _ = _
        simp only [Act.put, List.setIfInBounds_toArray, List.set_cons_zero, List.set_cons_succ, i64_w, i32_w]
        rfl
      refine last_ (i := 9) (N := some 66) #[true, true, true, true, true, true, true, true, true, true] rfl rfl (by kernel_rfl) (by decide) (fun K hK => ?_)
      refine step_copy_nums (by rfl) _ _ (by rfl) A6 A5b bc (c5a - ac) bc c5b (by rfl) (by rfl) ((A3.map (·.block)).getD 0) (i * cc + ac) bc (FB i) (Nat.min_self _).symm ?_ ?_ ?_ ?_
      · exact fun h0 => copy_dst (by have := HA3g.out; have h2 := HCC.out; exact fun _ => this (by omega)) HR6.out h0
      · exact copy_src HL'.out HMd.out.below HR5b.out HRb.out HN'.out HI'.out hlt HFB.out
      · exact fun j hj => copy_room HMd.out.own HA3g.out hlt (by have := HCC.out; omega)
      obtain ⟨W2, hW2, hg2, ho2⟩ := HMd.out.puts (G := FB i) (d := ac) (n := bc) hlt (by have := HCC.out; omega) (copy_blk HA3g.out (by have := HCC.out; omega))
      rw [← hW2]
      have HBx' := Aside0.mk (HBx.out.turn HMd.out.own hg2)
      have HMd' := Aside0.mk (HMd.out.turn hg2 ho2)
      clear HMd HBx hg2 ho2 hW2 HSk hcut
      have HMd := HMd'
      have HBx := HBx'
      clear HMd' HBx'
      refine hK.out _ _ ?_
      clear hK K
      refine norm_ (a' := ?_) ?_ ?_
      rotate_left
      · show Act.put _ (some 66) _ = _
        simp only [Act.put, List.setIfInBounds_toArray, List.set_cons_zero, List.set_cons_succ, i64_w, i32_w]
        rfl
      refine done_ (by kernel_rfl) ?_
      go_wp2
      go_roundw
      case rel => exact ⟨i + 1, by omega, by go_num, ⟨HMd.out.congr (by rw [HCC.out]; exact bes_step ac bc r i FA FB hlt)⟩, HBx⟩
      case measure => simp [intOf]; omega
    · obtain rfl : i = r := by omega
      have HMe := Aside0.mk (HMd.out.congr (Mx.besTo_all ac FA FB i cc))
      clear HMd
      obtain ⟨R, hR⟩ : ∃ R, R = Mx.redTo m i (Mx.bes ac FA FB) ac := ⟨_, rfl⟩
      rw [← hR]
      have HRe := Aside0.mk hR
      clear hR
      obtain ⟨k0, k1, k2, k3⟩ := blk4 HMe.out.mat
      obtain ⟨x0, x1, x2, x3⟩ := blk4 HBx.out.a
      go_wp2_with fail
      refine (reduce_calls m i cc cap3 ac w.heap.size HM.out hr hccl (by have := HCC.out; omega) A3 (Mx.bes ac FA FB) HBes.out HW0.out _ (HF.out.below HMe.out.below) HMe.out.own).mono ?_
      rw [← HRe.out]
      rintro e w4 ⟨vp, rfl, hg, ho, hp⟩
      obtain ⟨Ap, cp, rfl⟩ := Kd.R_slice hp
      have HPv := Aside0.mk (Kd.R_lower hp HMe.out.below.size)
      have HBx4 := Aside0.mk (HBx.out.turn HMe.out.own hg)
      have HM4 := Aside0.mk (HMe.out.turn hg ho)
      clear hg ho hp HBx HMe k0 k1 k2 k3 x0 x1 x2 x3
      obtain ⟨k0, k1, k2, k3⟩ := blk4 HM4.out.mat
      obtain ⟨x0, x1, x2, x3⟩ := blk4 HBx4.out.a
      obtain ⟨y0, y1, y2, y3⟩ := blk4 HBx4.out.b
      go_wp2_with fail
      refine (matrix_zero.calls _ ac bc _ ac bc (List.replicate (ac * bc) 0) _ HZ2.out).mono ?_
      rintro e w5 ⟨v5, rfl, ho, hb⟩
      obtain ⟨A5, cap5, rfl⟩ := Kd.R_slice ho
      have hlen : (List.replicate (ac * bc) (0 : Int)).length = ac * bc := List.length_replicate
      rw [hlen, cells_zero] at ho
      rw [List.length_replicate]
      have HS5 := Aside0.mk (show Sol2 w (w5.alloc (.cells #[.int .i64 m, .int .i64 ac, .int .i64 bc, .slice A5 (ac * bc) cap5] 24 (0, 0))) w3.heap.size w5.heap.size w4.heap.size m i ac bc cc A3 cap3 R.1 A5 cap5 (Mx.solTo R.1 R.2 ac 0) (.slice Ap (piv R.2).length cp) R.2 A l.length cap from by
        have hbel : Below w5.heap.size w5 (w5.alloc (.cells #[.int .i64 m, .int .i64 ac, .int .i64 bc, .slice A5 (ac * bc) cap5] 24 (0, 0))) := below_alloc (Below.refl _ _) _
        have hB := blk_lt HM4.out.mat
        have hRs := blk_lt HM4.out.res
        refine ⟨below_step (below_step HM4.out.below hb) hbel, hRs, hB, hb.size, blk_below (blk_below HBx4.out.a hb) hbel, blk_below (blk_below HM4.out.res hb) hbel, blk_below (blk_below HM4.out.mat hb) hbel, ?_, ?_, heap_alloc_new w5 _, Kd.R_below ho hbel⟩
        · exact Kd.R_below (Kd.R_below (Kd.R_mono (Kd.R_bound HM4.out.own) (fun k hk => hk.2.2.1)) hb) hbel
        · exact Kd.R_below (Kd.R_below (Kd.R_mono (Kd.R_bound HPv.out) (fun k hk => hk.2.2.1)) hb) hbel)
      have hz : w3.heap.size < w5.heap.size := Nat.lt_of_lt_of_le (blk_lt HM4.out.mat) hb.size
      have HK5 := Aside0.mk (blk_below HM4.out.mat hb)
      clear ho hb hlen k0 k1 k2 k3 x0 x1 x2 x3 y0 y1 y2 y3 HPv HBx4 HM4
      obtain ⟨k0, k1, k2, k3⟩ := blk4 HK5.out
      have hpl : (piv R.2).length = R.2.length := by simp [piv]
      obtain ⟨np, hnp⟩ : ∃ np, np = R.2.length := ⟨_, rfl⟩
      rw [hpl, ← hnp] at HS5
      rw [hpl, ← hnp]
      have HNp := Aside0.mk hnp
      have hnpr : np ≤ i := by rw [hnp, HRe.out]; exact (Mx.redTo_in HM.out HBes.out (by have := HCC.out; omega)).2
      clear hpl hnp
      go_wp2_with fail
      clear k0 k1 k2 k3 hz
      go_loopw [81] (fun i_ wr => ∃ t : Nat, t ≤ i ∧ i_ = .int .i64 t ∧ Aside0 (Sol2 w wr w3.heap.size w5.heap.size w4.heap.size m i ac bc cc A3 cap3 R.1 A5 cap5 (Mx.solTo R.1 R.2 ac (min t np)) (.slice Ap np cp) R.2 A l.length cap) ∧ Aside0 (∀ q, np ≤ q → q < t → ∀ j, j < bc → R.1 q (ac + j) = 0)) (fun i_ _ => i - (intOf i_).toNat)
      case atStart => exact ⟨0, Nat.zero_le _, rfl, ⟨by rw [Nat.zero_min]; exact HS5.out⟩, ⟨fun q h1 h2 => by omega⟩⟩
      case round =>
        clear HS5
        obtain ⟨t, ht, rfl, HS, HZr⟩ := hrel
        by_cases hlt : t < i
        · have HRi := Aside0.mk (row_fits (c := cc) hlt)
          have HC3 := Aside0.mk (Kd.R_reads' HS.out.bo).2.1
          have HA3 := Aside0.mk (show 0 < i * cc → ∃ ad, A3 = some ad from fun h => by obtain ⟨g, e, _⟩ := own_blk _ _ _ _ _ _ HS.out.both h; exact ⟨_, e⟩)
          go_upto_region 15 with (fail)
          have HSk := Aside0.mk (show ∀ W, Sol2 w W w3.heap.size w5.heap.size w4.heap.size m i ac bc cc A3 cap3 R.1 A5 cap5 (Mx.solTo R.1 R.2 ac (min t np)) (.slice Ap np cp) R.2 A l.length cap → W.cell? ⟨w3.heap.size, 0, none⟩ = some (.int .i64 m) ∧ W.cell? ⟨w3.heap.size, 1, none⟩ = some (.int .i64 i) ∧ W.cell? ⟨w3.heap.size, 2, none⟩ = some (.int .i64 cc) ∧ W.cell? ⟨w3.heap.size, 3, none⟩ = some (.slice A3 (i * cc) cap3) ∧ W.cell? ⟨w.heap.size, 2, none⟩ = some (.int .i64 ac) from fun W h => ⟨(blk4 h.bm).1, (blk4 h.bm).2.1, (blk4 h.bm).2.2.1, (blk4 h.bm).2.2.2, (blk4 h.a).2.2.1⟩)
          refine start_ (n := 7) (S := fun w' => w'.cell? ⟨w3.heap.size, 0, none⟩ = some (.int .i64 m) ∧ w'.cell? ⟨w3.heap.size, 1, none⟩ = some (.int .i64 i) ∧ w'.cell? ⟨w3.heap.size, 2, none⟩ = some (.int .i64 cc) ∧ w'.cell? ⟨w3.heap.size, 3, none⟩ = some (.slice A3 (i * cc) cap3) ∧ w'.cell? ⟨w.heap.size, 2, none⟩ = some (.int .i64 ac)) (ds := ([] : List Nat)) #[false, false, false, false, false, false, false] (by kernel_rfl) rfl rfl (HSk.out _ HS.out.drew) (fun hHeld => ?_)
          have HS' := Aside0.mk HS.out.drew
          clear HS
          have HS := HS'
          clear HS'
          generalize wr.drew = wd at HS hHeld ⊢
          refine pure_ (i := 1) (N := some 85) (v := ?_) (a' := ?_) #[false, true, false, false, false, false, false] rfl rfl (by kernel_rfl) (fun _ _ _ h => h) (Or.inl ⟨by rfl, ?_⟩) ?_ ?_
          rotate_left
          · intro w'
            go_simp
            with_reducible rfl
          rotate_left
          · simp only [Act.put, List.setIfInBounds_toArray, List.set_cons_zero, List.set_cons_succ, i64_w, i32_w]
            rfl
          refine pure_ (i := 3) (N := some 87) (v := ?_) (a' := ?_) #[false, true, false, true, false, false, false] rfl rfl (by kernel_rfl) (fun _ _ _ h => h) (Or.inl ⟨by rfl, ?_⟩) ?_ ?_
          rotate_left
          · intro w'
            go_simp
            with_reducible rfl
          rotate_left
          · simp only [Act.put, List.setIfInBounds_toArray, List.set_cons_zero, List.set_cons_succ, i64_w, i32_w]
            rfl
          refine take_ (i := 0) (N := some 84) (v := ?_) (a' := ?_) #[true, true, false, true, false, false, false] rfl rfl (by kernel_rfl) (fun _ _ _ h => h) (Or.inl ⟨by rfl, ?_⟩) hHeld ?_ ?_
          rotate_left
          · rintro w' ⟨s0, s1, s2, s3, s4⟩
            go_simp
            with_reducible rfl
          rotate_left
          · simp only [Act.put, List.setIfInBounds_toArray, List.set_cons_zero, List.set_cons_succ, i64_w, i32_w]
            rfl
          refine take_ (i := 4) (N := some 88) (v := ?_) (a' := ?_) #[true, true, false, true, true, false, false] rfl rfl (by kernel_rfl) (fun _ _ _ h => h) (Or.inl ⟨by rfl, ?_⟩) hHeld ?_ ?_
          rotate_left
          · rintro w' ⟨s0, s1, s2, s3, s4⟩
            go_simp
            with_reducible rfl
          rotate_left
          · simp only [Act.put, List.setIfInBounds_toArray, List.set_cons_zero, List.set_cons_succ, i64_w, i32_w]
            rfl
          refine one_ (i := 2) (N := some 86) #[true, true, true, true, true, false, false] rfl rfl (by kernel_rfl) (by decide) (fun K hK => ?_)
          refine goes_ Tryd.func36 (by kernel_rfl) rfl #[.agg #[.int .i64 m, .int .i64 i, .int .i64 cc, .slice A3 (i * cc) cap3], .int .i64 t] (by rfl) rfl rfl (by (try simp only [List.map_toArray, List.map_cons, List.map_nil]); first | done | rfl) ?_
          refine (row_calls m i cc (i * cc) cap3 t A3 _ HA3.out (by omega) (by omega) HRi.out HC3.out).mono ?_
          rintro e wq ⟨A5a, c5a, rfl, hc5a, hR5, hb⟩
          have HR5a := Aside0.mk hR5
          have HS' := Aside0.mk (HS.out.next hb)
          clear HS
          have HS := HS'
          clear HS'
          clear hb hR5
          refine ⟨_, rfl, ?_⟩
          refine hK.out _ _ (HSk.out _ HS.out) (fun hHeld => ?_)
          obtain ⟨A6, hcut, hR6⟩ := cut_row (m := ac) (b := bc) HR5a.out HCC.out hc5a
          have HR6 := Aside0.mk hR6
          clear hR6
          clear hK K
          refine norm_ (a' := ?_) ?_ ?_
          rotate_left
          · show Act.put _ (some 86) _ = _
            simp only [Act.put, List.setIfInBounds_toArray, List.set_cons_zero, List.set_cons_succ, i64_w, i32_w]
            rfl
          refine pure_ (i := 5) (N := some 89) (v := ?_) (a' := ?_) #[true, true, true, true, true, true, false] rfl rfl (by kernel_rfl) (fun _ _ _ h => h) (Or.inl ⟨by rfl, ?_⟩) ?_ ?_
          rotate_left
          · intro w'
            go_simp
            with_reducible rfl
          rotate_left
          · simp only [Act.put, List.setIfInBounds_toArray, List.set_cons_zero, List.set_cons_succ, i64_w, i32_w]
            rfl
          refine pure_ (i := 6) (N := some 11) (v := ?_) (a' := ?_) #[true, true, true, true, true, true, true] rfl rfl (by kernel_rfl) (fun _ _ _ h => h) (Or.inl ⟨by rfl, ?_⟩) ?_ ?_
          rotate_left
          · intro w'
            go_simp
            with_reducible rfl
          rotate_left
          · simp only [Act.put, List.setIfInBounds_toArray, List.set_cons_zero, List.set_cons_succ, i64_w, i32_w]
            rfl
          refine done_ (by kernel_rfl) ?_
          clear HSk hcut
          by_cases htn : t < np
          · obtain ⟨pt, hpt⟩ : ∃ pt, pt = R.2.getD t 0 := ⟨_, rfl⟩
            have HPt := Aside0.mk hpt
            have hptl : pt < ac := by rw [hpt, HRe.out]; exact Mx.redTo_lt m i _ ac (by rw [← HRe.out, ← HNp.out]; exact htn)
            have HRx := Aside0.mk (row_fits (c := bc) hptl)
            have HC5 := Aside0.mk (Kd.R_reads' HS.out.xo).2.1
            have HA5 := Aside0.mk (show 0 < ac * bc → ∃ ad, A5 = some ad from fun h => by obtain ⟨g, e, _⟩ := own_blk _ _ _ _ _ _ HS.out.xo h; exact ⟨_, e⟩)
            have HA5g := Aside0.mk (show 0 < bc → ∃ g, A5 = some ⟨g, 0, none⟩ from fun h => by obtain ⟨g, e, _⟩ := own_blk _ _ _ _ _ _ HS.out.xo (Nat.mul_pos (Nat.lt_of_le_of_lt (Nat.zero_le _) hptl) h); exact ⟨_, e⟩)
            have HPv := Aside0.mk (Kd.R_mono HS.out.pv (fun _ _ => trivial) : Kd.R (Kd.int .i64) 3 _ w.heap.size (fun _ => True) (.slice Ap np cp) (piv R.2))
            obtain ⟨gp, hAp, _, _⟩ := own_blk _ _ _ _ _ _ HPv.out (Nat.lt_of_le_of_lt (Nat.zero_le _) htn)
            subst hAp
            have HPc := Aside0.mk (show ∀ W G, Sol2 w W w3.heap.size w5.heap.size w4.heap.size m i ac bc cc A3 cap3 R.1 A5 cap5 G (.slice (some ⟨gp, 0, none⟩) np cp) R.2 A l.length cap → W.cell? ⟨gp, t, none⟩ = some (.int .i64 (pt : Int)) from fun W G h => by
              have h1 := (own_cell (Kd.R_mono h.pv (fun _ _ => trivial) : Kd.R (Kd.int .i64) 3 _ w.heap.size (fun _ => True) (.slice (some ⟨gp, 0, none⟩) np cp) (piv R.2)) t htn).1
              rw [h1]
              congr 2
              rw [HPt.out]
              have hlt2 : t < R.2.length := by rw [← HNp.out]; exact htn
              simp [rd, piv, List.getElem?_map, List.getElem?_eq_getElem hlt2])
            clear hpt HPv
            go_upto_region 17 with (fail)
            have HSk := Aside0.mk (show ∀ W, Sol2 w W w3.heap.size w5.heap.size w4.heap.size m i ac bc cc A3 cap3 R.1 A5 cap5 (Mx.solTo R.1 R.2 ac (min t np)) (.slice (some ⟨gp, 0, none⟩) np cp) R.2 A l.length cap → W.cell? ⟨w5.heap.size, 0, none⟩ = some (.int .i64 m) ∧ W.cell? ⟨w5.heap.size, 1, none⟩ = some (.int .i64 ac) ∧ W.cell? ⟨w5.heap.size, 2, none⟩ = some (.int .i64 bc) ∧ W.cell? ⟨w5.heap.size, 3, none⟩ = some (.slice A5 (ac * bc) cap5) ∧ W.cell? ⟨gp, t, none⟩ = some (.int .i64 (pt : Int)) from fun W h => ⟨(blk4 h.xm).1, (blk4 h.xm).2.1, (blk4 h.xm).2.2.1, (blk4 h.xm).2.2.2, HPc.out _ _ h⟩)
            refine start_ (n := 8) (S := fun w' => w'.cell? ⟨w5.heap.size, 0, none⟩ = some (.int .i64 m) ∧ w'.cell? ⟨w5.heap.size, 1, none⟩ = some (.int .i64 ac) ∧ w'.cell? ⟨w5.heap.size, 2, none⟩ = some (.int .i64 bc) ∧ w'.cell? ⟨w5.heap.size, 3, none⟩ = some (.slice A5 (ac * bc) cap5) ∧ w'.cell? ⟨gp, t, none⟩ = some (.int .i64 (pt : Int))) (ds := [7]) #[false, false, false, false, false, false, false, false] (by kernel_rfl) rfl rfl (HSk.out _ HS.out.drew) (fun hHeld => ?_)
            have HS' := Aside0.mk HS.out.drew
            clear HS
            have HS := HS'
            clear HS'
            generalize wq.drew = wd at HS hHeld ⊢
            refine pure_ (i := 1) (N := some 96) (v := ?_) (a' := ?_) #[false, true, false, false, false, false, false, false] rfl rfl (by kernel_rfl) (fun _ _ _ h => h) (Or.inl ⟨by rfl, ?_⟩) ?_ ?_
            rotate_left
            · intro w'
              go_simp
              with_reducible rfl
            rotate_left
            · simp only [Act.put, List.setIfInBounds_toArray, List.set_cons_zero, List.set_cons_succ, i64_w, i32_w]
              rfl
            refine pure_ (i := 2) (N := some 97) (v := ?_) (a' := ?_) #[false, true, true, false, false, false, false, false] rfl rfl (by kernel_rfl) (fun _ _ _ h => h) (Or.inl ⟨by rfl, ?_⟩) ?_ ?_
            rotate_left
            · intro w'
              go_simp
              with_reducible rfl
            rotate_left
            · simp only [Act.put, List.setIfInBounds_toArray, List.set_cons_zero, List.set_cons_succ, i64_w, i32_w]
              rfl
            refine pure_ (i := 6) (N := some 101) (v := ?_) (a' := ?_) #[false, true, true, false, false, false, true, false] rfl rfl (by kernel_rfl) (fun _ _ _ h => h) (Or.inl ⟨by rfl, ?_⟩) ?_ ?_
            rotate_left
            · intro w'
              go_simp
              with_reducible rfl
            rotate_left
            · simp only [Act.put, List.setIfInBounds_toArray, List.set_cons_zero, List.set_cons_succ, i64_w, i32_w]
              rfl
            refine take_ (i := 0) (N := some 95) (v := ?_) (a' := ?_) #[true, true, true, false, false, false, true, false] rfl rfl (by kernel_rfl) (fun _ _ _ h => h) (Or.inl ⟨by rfl, ?_⟩) hHeld ?_ ?_
            rotate_left
            · rintro w' ⟨s0, s1, s2, s3, s4⟩
              go_simp
              with_reducible rfl
            rotate_left
            · simp only [Act.put, List.setIfInBounds_toArray, List.set_cons_zero, List.set_cons_succ, i64_w, i32_w]
              rfl
            refine pure_ (i := 3) (N := some 98) (v := ?_) (a' := ?_) #[true, true, true, true, false, false, true, false] rfl rfl (by kernel_rfl) (fun _ _ _ h => h) (Or.inl ⟨by rfl, ?_⟩) ?_ ?_
            rotate_left
            · intro w'
              go_simp
              with_reducible rfl
            rotate_left
            · simp only [Act.put, List.setIfInBounds_toArray, List.set_cons_zero, List.set_cons_succ, i64_w, i32_w]
              rfl
            refine take_ (i := 4) (N := some 99) (v := ?_) (a' := ?_) #[true, true, true, true, true, false, true, false] rfl rfl (by kernel_rfl) (fun _ _ _ h => h) (Or.inl ⟨by rfl, ?_⟩) hHeld ?_ ?_
            rotate_left
            · rintro w' ⟨s0, s1, s2, s3, s4⟩
              go_simp
              with_reducible rfl
            rotate_left
            · simp only [Act.put, List.setIfInBounds_toArray, List.set_cons_zero, List.set_cons_succ, i64_w, i32_w]
              rfl
            refine one_ (i := 5) (N := some 100) #[true, true, true, true, true, true, true, false] rfl rfl (by kernel_rfl) (by decide) (fun K hK => ?_)
            refine goes_ Tryd.func36 (by kernel_rfl) rfl #[.agg #[.int .i64 m, .int .i64 ac, .int .i64 bc, .slice A5 (ac * bc) cap5], .int .i64 pt] (by rfl) rfl rfl (by (try simp only [List.map_toArray, List.map_cons, List.map_nil]); first | done | rfl) ?_
            refine (row_calls m ac bc (ac * bc) cap5 pt A5 _ HA5.out (by omega) (by omega) HRx.out HC5.out).mono ?_
            rintro e wq ⟨A5b, c5b, rfl, hc5b, hR5, hb⟩
            have HR5b := Aside0.mk hR5
            have HS' := Aside0.mk (HS.out.next hb)
            clear HS
            have HS := HS'
            clear HS'
            clear hb hR5
            refine ⟨_, rfl, ?_⟩
            refine hK.out _ _ (HSk.out _ HS.out) (fun hHeld => ?_)
            clear hK K
            refine norm_ (a' := ?_) ?_ ?_
            rotate_left
            · show Act.put _ (some 100) _ = _
              simp only [Act.put, List.setIfInBounds_toArray, List.set_cons_zero, List.set_cons_succ, i64_w, i32_w]
              rfl
            refine last_ (i := 7) (N := some 102) #[true, true, true, true, true, true, true, true] rfl rfl (by kernel_rfl) (by decide) (fun K hK => ?_)
            refine step_copy_nums (by rfl) _ _ (by rfl) A5b A6 bc c5b bc (c5a - ac) (by rfl) (by rfl) ((A5.map (·.block)).getD 0) (pt * bc) bc (fun j => R.1 t (ac + j)) (Nat.min_self _).symm ?_ ?_ ?_ ?_
            · exact fun h0 => copy_dst HA5g.out HR5b.out h0
            · exact HS.out.right hlt HCC.out HR6.out
            · exact fun j hj => copy_room0 HS.out.xo HA5g.out hptl hj
            obtain ⟨W2, hW2, hg2, ho2⟩ := own_puts_any (i := pt) (d := 0) (n := bc) (G := fun j => R.1 t (ac + j)) HS.out.xo hptl (by omega) (copy_blk HA5g.out (fun h => h))
            rw [Nat.add_zero] at hW2
            rw [← hW2]
            have HS' := Aside0.mk (HS.out.turn hg2 ho2)
            clear HS hg2 ho2 hW2 HSk
            have HS := HS'
            clear HS'
            refine hK.out _ _ ?_
            clear hK K
            refine norm_ (a' := ?_) ?_ ?_
            rotate_left
            · show Act.put _ (some 102) _ = _
              simp only [Act.put, List.setIfInBounds_toArray, List.set_cons_zero, List.set_cons_succ, i64_w, i32_w]
              rfl
            refine done_ (by kernel_rfl) ?_
            go_wp2
            go_roundw
            case rel =>
              refine ⟨t + 1, by omega, by go_num, ⟨HS.out.congr ?_⟩, ⟨fun q h1 h2 => by omega⟩⟩
              rw [HPt.out, Nat.min_eq_left (Nat.le_of_lt htn), Nat.min_eq_left (show t + 1 ≤ np from htn)]
              exact sol_step R.1 R.2 ac bc ac t
            case measure => simp [intOf]; omega
          · have HRt := Aside0.mk (rightL_reads (show bc ≤ 64 by omega) (HS.out.right hlt HCC.out HR6.out))
            by_cases hany : ((rightL R.1 t ac bc).any fun x => x != 0) = true
            · have HY := Aside0.mk hany
              have HLf := Aside0.mk (show Mx.Left R.1 R.2.length i ac bc from ⟨t, by rw [← HNp.out]; omega, hlt, (rightL_any R.1 t ac bc).1 hany⟩)
              clear hany
              obtain ⟨j0, j1, j2, j3⟩ := blk4 HS.out.res
              have z0 := blk_frozen HS.out.res 0
              have z1 := blk_frozen HS.out.res 1
              have z2 := blk_frozen HS.out.res 2
              have z3 := blk_frozen HS.out.res 3
              go_wp2_with fail
              refine (any40s _ bc _ (rightL R.1 t ac bc) (by simp [rightL]) _ HRt.out).mono ?_
              rw [HY.out]
              rintro e w' ⟨rfl, rfl⟩
              go_wp2_with fail
              obtain ⟨f1, f2⟩ := bad_fin (w := w) (gb := w.heap.size + 1 + 1) HS.out.below (by omega) HS.out.res
              refine bodyPost_ret (results_ct rfl _ _ (w.heap.size + 1 + 1) 24 #[.int .i64 0, .int .i64 0, .int .i64 0, .slice none 0 0] (0, 0) _ rfl f1 Tryd.underlying24 rfl (by kernel_rfl)) rfl ?_
              have e := HRe.out
              clear HRe
              subst e
              exact .inl ⟨HLf.out, _, rfl, Kd.R_nil _ _ _ _ _, f2⟩
            · have hno : ((rightL R.1 t ac bc).any fun x => x != 0) = false := by simpa using hany
              have HNo := Aside0.mk hno
              have HNa := Aside0.mk (show ¬ ∃ j, j < bc ∧ R.1 t (ac + j) ≠ 0 from fun h => hany ((rightL_any R.1 t ac bc).2 h))
              clear hany hno
              go_wp2_with fail
              refine (any40s _ bc _ (rightL R.1 t ac bc) (by simp [rightL]) _ HRt.out).mono ?_
              rw [HNo.out]
              rintro e w' ⟨rfl, rfl⟩
              go_wp2_with fail
              go_roundw
              case rel =>
                refine ⟨t + 1, by omega, by go_num, ⟨?_⟩, ⟨fun q h1 h2 j hj => ?_⟩⟩
                · rw [Nat.min_eq_right (show np ≤ t + 1 by omega)]
                  have h1 := HS.out
                  rw [Nat.min_eq_right (show np ≤ t by omega)] at h1
                  exact h1
                · by_cases e : q = t
                  · subst e; exact Classical.byContradiction fun hn => HNa.out ⟨j, hj, hn⟩
                  · exact HZr.out q h1 (by omega) j hj
              case measure => simp [intOf]; omega
        · obtain rfl : t = i := by omega
          obtain ⟨k0, k1, k2, k3⟩ := blk4 HS.out.xm
          obtain ⟨j0, j1, j2, j3⟩ := blk4 HS.out.res
          have z0 := blk_frozen HS.out.res 0
          have z1 := blk_frozen HS.out.res 1
          have z2 := blk_frozen HS.out.res 2
          have z3 := blk_frozen HS.out.res 3
          have HLf := Aside0.mk (show ¬ Mx.Left R.1 R.2.length t ac bc from fun ⟨q, h1, h2, j, hj, hne⟩ => hne (HZr.out q (by rw [HNp.out]; exact h1) h2 j hj))
          go_wp2_with fail
          have hfin := HS.out
          rw [Nat.min_eq_right hnpr, HNp.out] at hfin
          have hs := hfin.below.size
          have hlr := hfin.lr
          have hwx : w.heap.size ≤ w4.heap.size := by omega
          obtain ⟨f1, f2, f3⟩ := Sol2.fin hfin
          refine bodyPost_ret (results_ct rfl _ _ (w.heap.size + 1 + 1) 24 #[.int .i64 m, .int .i64 ac, .int .i64 bc, .slice A5 (ac * bc) cap5] (0, 0) _ rfl f1 Tryd.underlying24 rfl (by kernel_rfl)) rfl ?_
          have e := HRe.out
          clear HRe
          subst e
          exact .inr ⟨HLf.out, _, rfl, f2, f3⟩
/-- is a right side left over? -/
def leftB (R : Mx.Fn) (n r c d : Nat) : Bool := (List.range r).any fun i => decide (n ≤ i) && (List.range d).any fun j => R i (c + j) != 0
theorem leftB_iff (R : Mx.Fn) (n r c d : Nat) : leftB R n r c d = true ↔ Mx.Left R n r c d := by
  simp only [leftB, Mx.Left, List.any_eq_true, List.mem_range, Bool.and_eq_true, decide_eq_true_eq, bne_iff_ne]
  constructor
  · rintro ⟨i, hi, hn, j, hj, h⟩; exact ⟨i, hn, hi, j, hj, h⟩
  · rintro ⟨i, hn, hi, j, hj, h⟩; exact ⟨i, hi, hn, j, hj, h⟩
/-- both sides, eliminated -/
def solveR (m r ac bc : Nat) (l l' : List Int) : Mx.Fn × List Nat := Mx.redTo m r (Mx.bes ac (Mx.el ac l) (Mx.el bc l')) ac
/-- what matrix.Solve answers -/
def matrix_Solve.f (k : Nat) (a0_0 a0_1 a0_2 : Int) (l0_3 : List Int) (a1_0 a1_1 a1_2 : Int) (l1_3 : List Int) : Option (Int × Int × Int × List Int × Int) :=
  some (if validB a0_0 a0_1 a0_2 l0_3 = true ∧ validB a1_0 a1_1 a1_2 l1_3 = true ∧ a0_0 = a1_0 ∧ a0_1 = a1_1 then
    (if leftB (solveR a0_0.toNat a0_1.toNat a0_2.toNat a1_2.toNat l0_3 l1_3).1 (solveR a0_0.toNat a0_1.toNat a0_2.toNat a1_2.toNat l0_3 l1_3).2.length a0_1.toNat a0_2.toNat a1_2.toNat = true then (0, 0, 0, [], 12)
     else (a0_0, a0_2, a1_2, Mx.cells a0_2.toNat a1_2.toNat (Mx.solTo (solveR a0_0.toNat a0_1.toNat a0_2.toNat a1_2.toNat l0_3 l1_3).1 (solveR a0_0.toNat a0_1.toNat a0_2.toNat a1_2.toNat l0_3 l1_3).2 a0_2.toNat (solveR a0_0.toNat a0_1.toNat a0_2.toNat a1_2.toNat l0_3 l1_3).2.length), 0))
    else (0, 0, 0, [], 1))
theorem matrix_Solve.mono (a0_0 a0_1 a0_2 : Int) (l0_3 : List Int) (a1_0 a1_1 a1_2 : Int) (l1_3 : List Int) (k : Nat) : LeO (matrix_Solve.f k a0_0 a0_1 a0_2 l0_3 a1_0 a1_1 a1_2 l1_3) (matrix_Solve.f (k + 1) a0_0 a0_1 a0_2 l0_3 a1_0 a1_1 a1_2 l1_3) := LeO.refl _
theorem matrix_Solve.calls (k : Nat) (a0_0 : Int) (a0_1 : Int) (a0_2 : Int) (A0_3 : Option Addr) (c0_3 : Nat) (l0_3 : List Int) (a1_0 : Int) (a1_1 : Int) (a1_2 : Int) (A1_3 : Option Addr) (c1_3 : Nat) (l1_3 : List Int) (r1 : Int) (r2 : Int) (r3 : Int) (r4 : List Int) (r5 : Int) (w : World) (hff : FF w)
    (hr0_3 : Kd.C (Kd.int .i64) w A0_3 l0_3.length l0_3) (hc0_3 : l0_3.length ≤ c0_3) (hr1_3 : Kd.C (Kd.int .i64) w A1_3 l1_3.length l1_3) (hc1_3 : l1_3.length ≤ c1_3) (h : matrix_Solve.f k a0_0 a0_1 a0_2 l0_3 a1_0 a1_1 a1_2 l1_3 = some (r1, r2, r3, r4, r5)) :
    Calls Tryd.prog 17 #[.agg #[.int .i64 a0_0, .int .i64 a0_1, .int .i64 a0_2, .slice A0_3 l0_3.length c0_3], .agg #[.int .i64 a1_0, .int .i64 a1_1, .int .i64 a1_2, .slice A1_3 l1_3.length c1_3]] w fun e w' =>
      ∃ v3_ : Value, e = .returned (.tuple #[.agg #[.int .i64 r1, .int .i64 r2, .int .i64 r3, v3_], .int .i64 r5]) ∧ Kd.R (Kd.int .i64) 3 w' w.heap.size (fun _ => True) v3_ r4 ∧ Below w.heap.size w w' := by
  unfold matrix_Solve.f at h
  by_cases hc : validB a0_0 a0_1 a0_2 l0_3 = true ∧ validB a1_0 a1_1 a1_2 l1_3 = true ∧ a0_0 = a1_0 ∧ a0_1 = a1_1
  · rw [if_pos hc] at h
    obtain ⟨h1, h2, rfl, rfl⟩ := hc
    obtain ⟨m, a, b, hm, rfl, rfl, rfl, ha, hb, hl, hin⟩ := valid_open h1
    obtain ⟨m', a', b', hm', e1, e2, rfl, ha', hb', hl', hin'⟩ := valid_open h2
    obtain rfl : m = m' := by omega
    obtain rfl : a = a' := by omega
    refine (solve_ok m a b b' hm ha hb hb' A0_3 A1_3 c0_3 c1_3 l0_3 l1_3 hc0_3 hc1_3 hl hl' hin hin' w hff hr0_3 hr1_3).mono fun e w' hs => ?_
    unfold solveR at h
    simp only [Int.toNat_natCast] at h
    rcases hs with ⟨hL, hs⟩ | ⟨hL, hs⟩
    · rw [if_pos ((leftB_iff _ _ _ _ _).2 hL)] at h
      simp only [Option.some.injEq, Prod.mk.injEq] at h
      obtain ⟨rfl, rfl, rfl, rfl, rfl⟩ := h
      exact hs
    · rw [if_neg (fun h => hL ((leftB_iff _ _ _ _ _).1 h))] at h
      simp only [Option.some.injEq, Prod.mk.injEq] at h
      obtain ⟨rfl, rfl, rfl, rfl, rfl⟩ := h
      exact hs
  · rw [if_neg hc] at h
    simp only [Option.some.injEq, Prod.mk.injEq] at h
    obtain ⟨rfl, rfl, rfl, rfl, rfl⟩ := h
    cases hv : validB a0_0 a0_1 a0_2 l0_3 with
    | false => exact solve_bad1 _ _ _ _ _ _ _ _ _ _ _ _ w hr0_3 hr1_3 hv
    | true =>
      cases hv' : validB a1_0 a1_1 a1_2 l1_3 with
      | false => exact solve_bad2 _ _ _ _ _ _ _ _ _ _ _ _ w hr0_3 hr1_3 hv hv'
      | true => exact solve_bad3 _ _ _ _ _ _ _ _ _ _ _ _ w hr0_3 hr1_3 hv hv' (fun h2 => hc ⟨hv, hv', h2⟩)
end Go.Proofs.YtfigcmmmpndpjaaDoor.H

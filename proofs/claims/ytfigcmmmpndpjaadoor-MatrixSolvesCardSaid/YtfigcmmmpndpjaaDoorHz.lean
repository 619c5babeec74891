/- Hz. -/
import Derived.Test.YtfigcmmmpndpjaaDoorHs
import Derived.Test.YtfigcmmmpndpjaaDoorUc
import Derived.Test.YtfigcmmmpndpjaaDoorP7
/- What the examples of the statements answer. -/
namespace Go.Proofs.YtfigcmmmpndpjaaDoor.H
open Go.RowKit Go.Proofs.YtfigcmmmpndpjaaDoorW.PrintWords Go.Proofs.YtfigcmmmpndpjaaDoorW.PrintLast Go.Proofs.YtfigcmmmpndpjaaDoorW.PrintMore Go.Proofs.YtfigcmmmpndpjaaDoor.P
set_option linter.unusedVariables false
set_option linter.unusedSimpArgs false
theorem ex_mul : matrix_Mul.f 0 8 2 2 [1, 2, 3, 4] 8 2 1 [5, 6] = some (8, 2, 1, [9, 23], 0) := by decide +kernel
theorem ex_inv1 : matrix_Inverse.f 5 8 2 2 [1, 1, 1, 1] = some (0, 0, 0, [], 10) := by decide +kernel
theorem ex_inv2 : matrix_Inverse.f 5 8 2 2 [1, 1, 0, 1] = some (8, 2, 2, [1, 1, 0, 1], 0) := by decide +kernel
theorem ex_solve1 : matrix_Solve.f 0 8 1 2 [1, 1] 8 1 1 [7] = some (8, 2, 1, [7, 0], 0) := by decide +kernel
theorem ex_solve2 : matrix_Solve.f 0 8 2 1 [1, 1] 8 2 1 [1, 2] = some (0, 0, 0, [], 12) := by decide +kernel
theorem ex_rank : matrix_Rank.f 0 8 2 2 [1, 2, 2, 4] = some 1 := by decide +kernel
theorem ex_ind : matrix_Independent.f 0 8 4 2 [0, 0, 1, 1, 2, 2, 0, 3] = some [1, 3] := by decide +kernel
theorem ex_ints : solventlaw06_ints.f 5 [1, 3] [1, 3] = some true := by decide +kernel
theorem ex_same1 : solventref06_Same.f 9 8 2 1 [9, 23] 8 2 1 [9, 23] = some true := by decide +kernel
theorem ex_same2 : solventref06_Same.f 9 8 2 2 [1, 1, 0, 1] 8 2 2 [1, 1, 0, 1] = some true := by decide +kernel
theorem ex_same3 : solventref06_Same.f 9 8 2 1 [7, 0] 8 2 1 [7, 0] = some true := by decide +kernel
theorem ex_valid1 : validB 8 2 2 [1, 2, 3, 4] = true := by decide +kernel
theorem ex_valid2 : validB 8 2 2 [] = false := by decide +kernel
theorem ex_at : matrix_At.f 8 2 2 [1, 2, 3, 4] 1 0 = some 3 := by decide +kernel
set_option maxRecDepth 100000 in
set_option maxHeartbeats 1000000 in
theorem of_calls (m r c : Int) (A : Option Addr) (n cap : Nat) (w : World) : Calls Tryd.prog 21 #[.int .i64 m, .int .i64 r, .int .i64 c, .slice A n cap] w fun e w' => e = .returned (.agg #[.int .i64 m, .int .i64 r, .int .i64 c, .slice A n cap]) ∧ Below w.heap.size w w' := by
  go_enter Tryd.func21, Tryd.ntmps21
  go_wp2
  refine bodyPost_ret (results_cell_row rfl _ _ w.heap.size 24 #[.int .i64 m, .int .i64 r, .int .i64 c, .slice A n cap] (0, 0) _ rfl (heap_alloc_new w _) Tryd.underlying24 rfl (by kernel_rfl)) rfl ?_
  exact ⟨rfl, below_alloc (Below.refl _ _) _⟩
theorem valid_lit (A : Option Addr) (w : World) (h : Kd.C (Kd.int .i64) w A 4 [1, 2, 3, 4]) : Calls Tryd.prog 28 #[.agg #[.int .i64 8, .int .i64 2, .int .i64 2, .slice A 4 4]] w fun e w' => e = .returned (.bool true) ∧ Below w.heap.size w w' := valid_is true 8 2 2 A 4 [1, 2, 3, 4] w h ex_valid1
theorem valid_none (w : World) : Calls Tryd.prog 28 #[.agg #[.int .i64 8, .int .i64 2, .int .i64 2, .slice none 0 0]] w fun e w' => e = .returned (.bool false) ∧ Below w.heap.size w w' := valid_is false 8 2 2 none 0 [] w (Kd.C_nil _ _) ex_valid2
/-- what has been laid so far: structs in blocks of the call's own, lists that can be read -/
structure San (w W : World) (L : List (Nat × Array Value)) (M : List (Value × List Int)) : Prop where
  below : Below w.heap.size w W
  lo : ∀ p ∈ L, w.heap.size ≤ p.1
  blk : ∀ p ∈ L, W.heap[p.1]? = some (.cells p.2 24 (0, 0))
  rd : ∀ p ∈ M, Kd.R (Kd.int .i64) 3 W w.heap.size (fun _ => True) p.1 p.2
theorem San.start (w : World) : San w w [] [] := ⟨Below.refl _ _, fun p h => by simp at h, fun p h => by simp at h, fun p h => by simp at h⟩
theorem San.next {w W W2 : World} {L : List (Nat × Array Value)} {M : List (Value × List Int)} (h : San w W L M) (hb : Below W.heap.size W W2) : San w W2 L M :=
  ⟨below_step h.below hb, h.lo, fun p hp => blk_below (h.blk p hp) hb, fun p hp => Kd.R_below (h.rd p hp) hb⟩
theorem San.drew {w W : World} {L : List (Nat × Array Value)} {M : List (Value × List Int)} (h : San w W L M) : San w W.drew L M := h.next (below_drew (Below.refl _ _))
theorem San.sub {w W : World} {L L2 : List (Nat × Array Value)} {M M2 : List (Value × List Int)} (h : San w W L M) (hL : ∀ p ∈ L2, p ∈ L) (hM : ∀ p ∈ M2, p ∈ M) : San w W L2 M2 :=
  ⟨h.below, fun p hp => h.lo p (hL p hp), fun p hp => h.blk p (hL p hp), fun p hp => h.rd p (hM p hp)⟩
/-- a literal of numbers has been laid -/
theorem San.lit {w W : World} {L : List (Nat × Array Value)} {M : List (Value × List Int)} (h : San w W L M) (g : Nat) (hg : g = W.heap.size) (xs : List Int) (n : Nat) (hl : xs.length = n) (hn : n ≤ 64) (cs : Array Value) (hc : cs = (nums .i64 xs).toArray) :
    San w (W.alloc (.cells cs 3 (0, 0))) L ((.slice (some ⟨g, 0, none⟩) n n, xs) :: M) := by
  subst hc
  subst hg
  subst hl
  have hk := h.next (below_alloc (Below.refl _ _) (.cells (nums .i64 xs).toArray 3 (0, 0)))
  refine ⟨hk.below, hk.lo, hk.blk, fun p hp => ?_⟩
  rcases List.mem_cons.1 hp with rfl | hp
  · have ho := own_lit W W.heap.size 3 .i64 xs (Nat.le_refl _) (by omega)
    exact Kd.R_lower (Kd.R_of_own ho (fun _ _ => trivial)) h.below.size
  · exact hk.rd p hp
/-- a struct has been laid -/
theorem San.box {w W : World} {L : List (Nat × Array Value)} {M : List (Value × List Int)} (h : San w W L M) (g : Nat) (hg : g = W.heap.size) (cs : Array Value) : San w (W.alloc (.cells cs 24 (0, 0))) ((g, cs) :: L) M := by
  subst hg
  have hk := h.next (below_alloc (Below.refl _ _) (.cells cs 24 (0, 0)))
  refine ⟨hk.below, fun p hp => ?_, fun p hp => ?_, hk.rd⟩
  · rcases List.mem_cons.1 hp with rfl | hp
    · exact h.below.size
    · exact hk.lo p hp
  · rcases List.mem_cons.1 hp with rfl | hp
    · exact heap_alloc_new W _
    · exact hk.blk p hp
/-- a struct's cell has been written -/
theorem San.set {w W : World} {L : List (Nat × Array Value)} {M : List (Value × List Int)} {g : Nat} {cs cs' : Array Value} (h : San w W ((g, cs) :: L) M) (hne : ∀ p ∈ L, p.1 ≠ g) (j : Nat) (u : Value) (hc : cs.setIfInBounds j u = cs') : San w (W.setCell ⟨g, j, none⟩ u) ((g, cs') :: L) M := by
  have h0 := h.blk _ (List.mem_cons_self ..)
  refine ⟨below_set h.below (h.lo _ (List.mem_cons_self ..)), fun p hp => ?_, fun p hp => ?_, fun p hp => Kd.R_set (h.rd p hp) h0 (by decide) j u⟩
  · rcases List.mem_cons.1 hp with rfl | hp
    · exact h.lo (g, cs) (List.mem_cons_self ..)
    · exact h.lo p (List.mem_cons_of_mem _ hp)
  · rcases List.mem_cons.1 hp with rfl | hp
    · exact blk_put h0 j u hc
    · exact blk_far (h.blk p (List.mem_cons_of_mem _ hp)) (hne p hp) _
/-- what came back can be read -/
theorem San.got {w W : World} {L : List (Nat × Array Value)} {M : List (Value × List Int)} (h : San w W L M) {v : Value} {base : Nat} {xs : List Int} (hr : Kd.R (Kd.int .i64) 3 W base (fun _ => True) v xs) (hb : w.heap.size ≤ base) : San w W L ((v, xs) :: M) := by
  refine ⟨h.below, h.lo, h.blk, fun p hp => ?_⟩
  rcases List.mem_cons.1 hp with rfl | hp
  · exact Kd.R_lower hr hb
  · exact h.rd p hp
theorem San.read {w W : World} {L : List (Nat × Array Value)} {M : List (Value × List Int)} (h : San w W L M) {A : Option Addr} {n c : Nat} {xs : List Int} (hm : (.slice A n c, xs) ∈ M) : Kd.C (Kd.int .i64) W A xs.length xs := (Kd.R_reads' (h.rd _ hm)).2.2
theorem San.cap {w W : World} {L : List (Nat × Array Value)} {M : List (Value × List Int)} (h : San w W L M) {A : Option Addr} {n c : Nat} {xs : List Int} (hm : (.slice A n c, xs) ∈ M) : xs.length ≤ c := by
  have h1 := Kd.R_reads' (h.rd _ hm)
  rw [← h1.1]
  exact h1.2.1
theorem blk4v {w : World} {g : Nat} {cs : Array Value} {v0 v1 v2 v3 : Value} {t : TypeId} (h : w.heap[g]? = some (.cells cs t (0, 0))) (e : cs = #[v0, v1, v2, v3]) :
    w.cell? ⟨g, 0, none⟩ = some v0 ∧ w.cell? ⟨g, 1, none⟩ = some v1 ∧ w.cell? ⟨g, 2, none⟩ = some v2 ∧ w.cell? ⟨g, 3, none⟩ = some v3 := blk4 (e ▸ h)
/-- a zero struct -/
abbrev Zs : Array Value := #[.int .i64 0, .int .i64 0, .int .i64 0, .slice none 0 0]
set_option maxRecDepth 100000 in
set_option maxHeartbeats 16000000 in
theorem sanity_calls (w : World) (hff : FF w) : Calls Tryd.prog 14 #[] w fun e w' => e = .returned (.bool true) ∧ Below w.heap.size w w' := by
  have HF := Aside0.mk hff
  have HS := Aside0.mk (San.start w)
  clear hff
  go_enter Tryd.func14, Tryd.ntmps14
  go_wp2_with fail
  refine (of_calls 8 2 2 _ _ _ _).mono ?_
  rintro e w1 ⟨rfl, hb⟩
  have HS1 := Aside0.mk ((HS.out.lit w.heap.size rfl [1, 2, 3, 4] 4 rfl (by decide) _ rfl).next hb)
  clear hb
  go_upto_region 2 with (fail)
  obtain ⟨bA, hbA⟩ : ∃ b, b = w1.heap.size := ⟨_, rfl⟩
  have HS2 := Aside0.mk (HS1.out.box bA hbA #[.int .i64 8, .int .i64 2, .int .i64 2, .slice (some ⟨w.heap.size, 0, none⟩) 4 4])
  rw [← hbA]
  generalize w1.alloc (.cells #[.int .i64 8, .int .i64 2, .int .i64 2, .slice (some ⟨w.heap.size, 0, none⟩) 4 4] 24 (0, 0)) = W2 at HS2 ⊢
  clear hbA
  obtain ⟨k0, k1, k2, k3⟩ := blk4 (HS2.out.blk _ (List.mem_cons_self ..))
  have n0 := World.new_ne _ _ k0
  have hlt : bA < W2.heap.size := blk_lt (HS2.out.blk _ (List.mem_cons_self ..))
  have n2 : W2.heap.size + 1 ≠ bA := by omega
  go_cut [2, 3] (fun v2 v3 wc => ∃ (gP : Nat) (Ap : Option Addr) (cp : Nat), v2 = .pointer (some ⟨gP, 0, none⟩) ∧ v3 = .int .i64 0 ∧ Aside0 (gP ≠ bA) ∧ Aside0 (San w wc [(gP, #[.int .i64 8, .int .i64 2, .int .i64 1, .slice Ap 2 cp]), (bA, #[.int .i64 8, .int .i64 2, .int .i64 2, .slice (some ⟨w.heap.size, 0, none⟩) 4 4])] [(.slice Ap 2 cp, [9, 23]), (.slice (some ⟨w.heap.size, 0, none⟩) 4 4, [1, 2, 3, 4])]))
  case first =>
    go_region_held3 (fun w' => w'.cell? ⟨bA, 0, none⟩ = some (.int .i64 8) ∧ w'.cell? ⟨bA, 1, none⟩ = some (.int .i64 2) ∧ w'.cell? ⟨bA, 2, none⟩ = some (.int .i64 2) ∧ w'.cell? ⟨bA, 3, none⟩ = some (.slice (some ⟨w.heap.size, 0, none⟩) 4 4)) (first | go_keep) (first | (go_at_call 21; (with_reducible refine (of_calls 8 2 1 _ _ _ _).mono ?_); rintro e w3 ⟨rfl, hb⟩; (first | (have HS3 := Aside0.mk ((HS2.out.drew.lit W2.heap.size (by simp) [5, 6] 2 rfl (by decide) _ rfl).next hb)) | (have HS3 := Aside0.mk (((HS2.out.drew.box W2.heap.size (by simp) Zs).lit (W2.heap.size + 1) (by simp) [5, 6] 2 rfl (by decide) _ rfl).next hb)) | (have HS3 := Aside0.mk (((HS2.out.drew.lit W2.heap.size (by simp) [5, 6] 2 rfl (by decide) _ rfl).box (W2.heap.size + 1) (by simp) Zs).next hb))); clear hb k0 k1 k2 k3; obtain ⟨k0, k1, k2, k3⟩ := blk4 (HS3.out.blk (bA, #[.int .i64 8, .int .i64 2, .int .i64 2, .slice (some ⟨w.heap.size, 0, none⟩) 4 4]) (by simp)); have n0 := World.new_ne _ _ k0) | (go_at_call 16; (first | (have HS3' := HS3; (refine (matrix_Mul.calls 0 8 2 2 _ _ [1, 2, 3, 4] 8 2 1 _ _ [5, 6] 8 2 1 [9, 23] 0 _ (FF.below HF.out HS3'.out.below) (HS3'.out.read (List.mem_cons_of_mem _ (List.mem_cons_self ..))) (by decide) (HS3'.out.read (List.mem_cons_self ..)) (by decide) ex_mul).mono ?_)) | (have HS3' := Aside0.mk (HS3.out.box _ rfl Zs); (refine (matrix_Mul.calls 0 8 2 2 _ _ [1, 2, 3, 4] 8 2 1 _ _ [5, 6] 8 2 1 [9, 23] 0 _ (FF.below HF.out HS3'.out.below) (HS3'.out.read (List.mem_cons_of_mem _ (List.mem_cons_self ..))) (by decide) (HS3'.out.read (List.mem_cons_self ..)) (by decide) ex_mul).mono ?_))); rintro e w4 ⟨v, rfl, ho, hb⟩; obtain ⟨Ap, cp, rfl⟩ := Kd.R_slice ho; replace ho : Kd.R (Kd.int .i64) 3 w4 _ (fun _ => True) (.slice Ap 2 cp) [9, 23] := ho; have HS4 := Aside0.mk ((HS3'.out.next hb).got ho HS3'.out.below.size); clear hb ho k0 k1 k2 k3; obtain ⟨k0, k1, k2, k3⟩ := blk4 (HS4.out.blk (bA, #[.int .i64 8, .int .i64 2, .int .i64 2, .slice (some ⟨w.heap.size, 0, none⟩) 4 4]) (by simp)); have n0 := World.new_ne _ _ k0; obtain ⟨q0, q1, q2, q3⟩ := blk4v (HS4.out.blk _ (List.mem_cons_self ..)) rfl; have f0 := blk_frozen (HS4.out.blk _ (List.mem_cons_self ..)) 0; have f1 := blk_frozen (HS4.out.blk _ (List.mem_cons_self ..)) 1; have f2 := blk_frozen (HS4.out.blk _ (List.mem_cons_self ..)) 2; have f3 := blk_frozen (HS4.out.blk _ (List.mem_cons_self ..)) 3))
    all_goals
      go_wp2
      go_meet
      case rel =>
        first
          | exact ⟨w4.heap.size, Ap, cp, rfl, rfl, ⟨n0⟩, ⟨(HS4.out.box _ rfl _).sub (by simp) (by simp)⟩⟩
          | exact ⟨w3.heap.size, Ap, cp, rfl, rfl, ⟨by assumption⟩, ⟨((((HS4.out.set (by simp; omega) 0 _ rfl).set (by simp; omega) 1 _ rfl).set (by simp; omega) 2 _ rfl).set (by simp; omega) 3 _ rfl).sub (by simp) (by simp)⟩⟩
          | exact ⟨W2.heap.size, Ap, cp, rfl, rfl, ⟨by assumption⟩, ⟨((((HS4.out.set (by simp; omega) 0 _ rfl).set (by simp; omega) 1 _ rfl).set (by simp; omega) 2 _ rfl).set (by simp; omega) 3 _ rfl).sub (by simp) (by simp)⟩⟩
          | exact ⟨W2.heap.size + 1, Ap, cp, rfl, rfl, ⟨n2⟩, ⟨((((HS4.out.set (by simp; omega) 0 _ rfl).set (by simp; omega) 1 _ rfl).set (by simp; omega) 2 _ rfl).set (by simp; omega) 3 _ rfl).sub (by simp) (by simp)⟩⟩
  case rest =>
    obtain ⟨gP, Ap, cp, rfl, rfl, HNe, HS5⟩ := hcut
    clear HS HS1 HS2 hlt n2
    go_wp2_with fail
    refine (of_calls 8 2 2 _ _ _ _).mono ?_
    rintro e u1 ⟨rfl, hb⟩
    have HS6 := Aside0.mk ((HS5.out.lit wc.heap.size rfl [1, 1, 1, 1] 4 rfl (by decide) _ rfl).next hb)
    clear hb
    go_wp2_with fail
    refine (matrix_Inverse.calls 5 8 2 2 _ _ [1, 1, 1, 1] 0 0 0 [] 10 _ (FF.below HF.out HS6.out.below) (HS6.out.read (List.mem_cons_self ..)) (by decide) ex_inv1).mono ?_
    rintro e u2 ⟨v, rfl, ho, hb⟩
    obtain ⟨Af, cf, rfl⟩ := Kd.R_slice ho
    replace ho : Kd.R (Kd.int .i64) 3 u2 _ (fun _ => True) (.slice Af 0 cf) [] := ho
    have HS7 := Aside0.mk (HS6.out.next hb)
    clear hb
    clear ho
    go_wp2_with fail
    refine (of_calls 8 2 2 _ _ _ _).mono ?_
    rintro e u3 ⟨rfl, hb⟩
    have HS8 := Aside0.mk (((HS7.out.box u2.heap.size (by simp) #[.int .i64 0, .int .i64 0, .int .i64 0, .slice Af 0 cf]).lit (u2.heap.size + 1) (by simp) [1, 1, 0, 1] 4 rfl (by decide) _ rfl).next hb)
    clear hb
    go_wp2_with fail
    refine (matrix_Inverse.calls 5 8 2 2 _ _ [1, 1, 0, 1] 8 2 2 [1, 1, 0, 1] 0 _ (FF.below HF.out (HS8.out.box u3.heap.size (by simp) #[.int .i64 8, .int .i64 2, .int .i64 2, .slice (some ⟨u2.heap.size + 1, 0, none⟩) 4 4]).below) ((HS8.out.box u3.heap.size (by simp) #[.int .i64 8, .int .i64 2, .int .i64 2, .slice (some ⟨u2.heap.size + 1, 0, none⟩) 4 4]).read (List.mem_cons_self ..)) (by decide) ex_inv2).mono ?_
    rintro e u4 ⟨v, rfl, ho, hb⟩
    obtain ⟨Av, cv, rfl⟩ := Kd.R_slice ho
    replace ho : Kd.R (Kd.int .i64) 3 u4 _ (fun _ => True) (.slice Av 4 cv) [1, 1, 0, 1] := ho
    have HS9 := Aside0.mk (((HS8.out.box u3.heap.size (by simp) #[.int .i64 8, .int .i64 2, .int .i64 2, .slice (some ⟨u2.heap.size + 1, 0, none⟩) 4 4]).next hb).got ho (HS8.out.box u3.heap.size (by simp) #[.int .i64 8, .int .i64 2, .int .i64 2, .slice (some ⟨u2.heap.size + 1, 0, none⟩) 4 4]).below.size)
    clear hb
    go_wp2_with fail
    refine (of_calls 8 1 2 _ _ _ _).mono ?_
    rintro e u5 ⟨rfl, hb⟩
    have HS10 := Aside0.mk (((HS9.out.box u4.heap.size (by simp) #[.int .i64 8, .int .i64 2, .int .i64 2, .slice Av 4 cv]).lit (u4.heap.size + 1) (by simp) [1, 1] 2 rfl (by decide) _ rfl).next hb)
    clear hb
    go_wp2_with fail
    refine (of_calls 8 1 1 _ _ _ _).mono ?_
    rintro e u6 ⟨rfl, hb⟩
    have HS11 := Aside0.mk ((HS10.out.lit u5.heap.size rfl [7] 1 rfl (by decide) _ rfl).next hb)
    clear hb
    go_wp2_with fail
    refine (matrix_Solve.calls 0 8 1 2 _ _ [1, 1] 8 1 1 _ _ [7] 8 2 1 [7, 0] 0 _ (FF.below HF.out HS11.out.below) (HS11.out.read (List.mem_cons_of_mem _ (List.mem_cons_self ..))) (by decide) (HS11.out.read (List.mem_cons_self ..)) (by decide) ex_solve1).mono ?_
    rintro e u7 ⟨v, rfl, ho, hb⟩
    obtain ⟨Ax, cx, rfl⟩ := Kd.R_slice ho
    replace ho : Kd.R (Kd.int .i64) 3 u7 _ (fun _ => True) (.slice Ax 2 cx) [7, 0] := ho
    have HS12 := Aside0.mk ((HS11.out.next hb).got ho HS11.out.below.size)
    clear hb
    go_wp2_with fail
    refine (of_calls 8 2 1 _ _ _ _).mono ?_
    rintro e u8 ⟨rfl, hb⟩
    have HS13 := Aside0.mk (((HS12.out.box u7.heap.size (by simp) #[.int .i64 8, .int .i64 2, .int .i64 1, .slice Ax 2 cx]).lit (u7.heap.size + 1) (by simp) [1, 1] 2 rfl (by decide) _ rfl).next hb)
    clear hb
    go_wp2_with fail
    refine (of_calls 8 2 1 _ _ _ _).mono ?_
    rintro e u9 ⟨rfl, hb⟩
    have HS14 := Aside0.mk ((HS13.out.lit u8.heap.size rfl [1, 2] 2 rfl (by decide) _ rfl).next hb)
    clear hb
    go_wp2_with fail
    refine (matrix_Solve.calls 0 8 2 1 _ _ [1, 1] 8 2 1 _ _ [1, 2] 0 0 0 [] 12 _ (FF.below HF.out HS14.out.below) (HS14.out.read (List.mem_cons_of_mem _ (List.mem_cons_self ..))) (by decide) (HS14.out.read (List.mem_cons_self ..)) (by decide) ex_solve2).mono ?_
    rintro e u10 ⟨v, rfl, ho, hb⟩
    obtain ⟨Ak, ck, rfl⟩ := Kd.R_slice ho
    replace ho : Kd.R (Kd.int .i64) 3 u10 _ (fun _ => True) (.slice Ak 0 ck) [] := ho
    have HS15 := Aside0.mk (HS14.out.next hb)
    clear hb
    clear ho
    go_wp2_with fail
    refine (of_calls 8 2 2 _ _ _ _).mono ?_
    rintro e u11 ⟨rfl, hb⟩
    have HS16 := Aside0.mk (((HS15.out.box u10.heap.size (by simp) #[.int .i64 0, .int .i64 0, .int .i64 0, .slice Ak 0 ck]).lit (u10.heap.size + 1) (by simp) [1, 2, 2, 4] 4 rfl (by decide) _ rfl).next hb)
    clear hb
    go_wp2_with fail
    refine (matrix_Rank.calls 0 8 2 2 _ _ [1, 2, 2, 4] 1 _ (FF.below HF.out HS16.out.below) (HS16.out.read (List.mem_cons_self ..)) (by decide) ex_rank).mono ?_
    rintro e u12 ⟨rfl, hb⟩
    have HS17 := Aside0.mk (HS16.out.next hb)
    clear hb
    go_wp2_with fail
    refine (of_calls 8 4 2 _ _ _ _).mono ?_
    rintro e u13 ⟨rfl, hb⟩
    have HS18 := Aside0.mk ((HS17.out.lit u12.heap.size rfl [0, 0, 1, 1, 2, 2, 0, 3] 8 rfl (by decide) _ rfl).next hb)
    clear hb
    go_wp2_with fail
    refine (matrix_Independent.calls 0 8 4 2 _ _ [0, 0, 1, 1, 2, 2, 0, 3] [1, 3] _ (FF.below HF.out HS18.out.below) (HS18.out.read (List.mem_cons_self ..)) (by decide) ex_ind).mono ?_
    rintro e u14 ⟨v, rfl, ho, hb⟩
    obtain ⟨Ai, ci, rfl⟩ := Kd.R_slice ho
    replace ho : Kd.R (Kd.int .i64) 3 u14 _ (fun _ => True) (.slice Ai 2 ci) [1, 3] := ho
    have HS19 := Aside0.mk ((HS18.out.next hb).got ho HS18.out.below.size)
    clear hb
    have hci : 2 ≤ ci := HS19.out.cap (List.mem_cons_self ..)
    go_wp2_with fail
    refine (solventlaw06_ints.calls 5 _ _ [1, 3] _ _ [1, 3] true _ ((HS19.out.lit u14.heap.size rfl [1, 3] 2 rfl (by decide) _ rfl).read (List.mem_cons_of_mem _ (List.mem_cons_self ..))) hci ((HS19.out.lit u14.heap.size rfl [1, 3] 2 rfl (by decide) _ rfl).read (List.mem_cons_self ..)) (by decide) ex_ints).mono ?_
    rintro e u15 ⟨rfl, hd⟩
    have hb := hd.below
    clear hd
    have HS20 := Aside0.mk ((HS19.out.lit u14.heap.size rfl [1, 3] 2 rfl (by decide) _ rfl).next hb)
    clear hb
    clear HS5 HS6 HS7 HS8 HS9 HS10 HS11 HS12 HS13 HS14 HS15 HS16 HS17 HS18 HS19
    go_upto_region 9 with (fail)
    have HL := Aside0.mk (HS20.out.sub (L2 := [(bA, #[.int .i64 8, .int .i64 2, .int .i64 2, .slice (some ⟨w.heap.size, 0, none⟩) 4 4]), (gP, #[.int .i64 8, .int .i64 2, .int .i64 1, .slice Ap 2 cp]), (u3.heap.size, #[.int .i64 8, .int .i64 2, .int .i64 2, .slice (some ⟨u2.heap.size + 1, 0, none⟩) 4 4]), (u4.heap.size, #[.int .i64 8, .int .i64 2, .int .i64 2, .slice Av 4 cv]), (u7.heap.size, #[.int .i64 8, .int .i64 2, .int .i64 1, .slice Ax 2 cx])]) (M2 := [(.slice (some ⟨w.heap.size, 0, none⟩) 4 4, [1, 2, 3, 4]), (.slice Ap 2 cp, [9, 23]), (.slice (some ⟨u2.heap.size + 1, 0, none⟩) 4 4, [1, 1, 0, 1]), (.slice Av 4 cv, [1, 1, 0, 1]), (.slice Ax 2 cx, [7, 0])]) (by simp) (by simp))
    clear HS20
    have HC := Aside0.mk (show ∀ W, San w W [(bA, #[.int .i64 8, .int .i64 2, .int .i64 2, .slice (some ⟨w.heap.size, 0, none⟩) 4 4]), (gP, #[.int .i64 8, .int .i64 2, .int .i64 1, .slice Ap 2 cp]), (u3.heap.size, #[.int .i64 8, .int .i64 2, .int .i64 2, .slice (some ⟨u2.heap.size + 1, 0, none⟩) 4 4]), (u4.heap.size, #[.int .i64 8, .int .i64 2, .int .i64 2, .slice Av 4 cv]), (u7.heap.size, #[.int .i64 8, .int .i64 2, .int .i64 1, .slice Ax 2 cx])] [(.slice (some ⟨w.heap.size, 0, none⟩) 4 4, [1, 2, 3, 4]), (.slice Ap 2 cp, [9, 23]), (.slice (some ⟨u2.heap.size + 1, 0, none⟩) 4 4, [1, 1, 0, 1]), (.slice Av 4 cv, [1, 1, 0, 1]), (.slice Ax 2 cx, [7, 0])] → W.cell? ⟨bA, 0, none⟩ = some (.int .i64 8) ∧ W.cell? ⟨bA, 1, none⟩ = some (.int .i64 2) ∧ W.cell? ⟨bA, 2, none⟩ = some (.int .i64 2) ∧ W.cell? ⟨bA, 3, none⟩ = some (.slice (some ⟨w.heap.size, 0, none⟩) 4 4) ∧ W.cell? ⟨gP, 0, none⟩ = some (.int .i64 8) ∧ W.cell? ⟨gP, 1, none⟩ = some (.int .i64 2) ∧ W.cell? ⟨gP, 2, none⟩ = some (.int .i64 1) ∧ W.cell? ⟨gP, 3, none⟩ = some (.slice Ap 2 cp) ∧ W.cell? ⟨u3.heap.size, 0, none⟩ = some (.int .i64 8) ∧ W.cell? ⟨u3.heap.size, 1, none⟩ = some (.int .i64 2) ∧ W.cell? ⟨u3.heap.size, 2, none⟩ = some (.int .i64 2) ∧ W.cell? ⟨u3.heap.size, 3, none⟩ = some (.slice (some ⟨u2.heap.size + 1, 0, none⟩) 4 4) ∧ W.cell? ⟨u4.heap.size, 0, none⟩ = some (.int .i64 8) ∧ W.cell? ⟨u4.heap.size, 1, none⟩ = some (.int .i64 2) ∧ W.cell? ⟨u4.heap.size, 2, none⟩ = some (.int .i64 2) ∧ W.cell? ⟨u4.heap.size, 3, none⟩ = some (.slice Av 4 cv) ∧ W.cell? ⟨u7.heap.size, 0, none⟩ = some (.int .i64 8) ∧ W.cell? ⟨u7.heap.size, 1, none⟩ = some (.int .i64 2) ∧ W.cell? ⟨u7.heap.size, 2, none⟩ = some (.int .i64 1) ∧ W.cell? ⟨u7.heap.size, 3, none⟩ = some (.slice Ax 2 cx) from fun W h => by
      obtain ⟨a0, a1, a2, a3⟩ := blk4 (h.blk (bA, #[.int .i64 8, .int .i64 2, .int .i64 2, .slice (some ⟨w.heap.size, 0, none⟩) 4 4]) (by simp))
      obtain ⟨p0, p1, p2, p3⟩ := blk4 (h.blk (gP, #[.int .i64 8, .int .i64 2, .int .i64 1, .slice Ap 2 cp]) (by simp))
      obtain ⟨u0, u1, u2, u3⟩ := blk4 (h.blk (u3.heap.size, #[.int .i64 8, .int .i64 2, .int .i64 2, .slice (some ⟨u2.heap.size + 1, 0, none⟩) 4 4]) (by simp))
      obtain ⟨v0, v1, v2, v3⟩ := blk4 (h.blk (u4.heap.size, #[.int .i64 8, .int .i64 2, .int .i64 2, .slice Av 4 cv]) (by simp))
      obtain ⟨x0, x1, x2, x3⟩ := blk4 (h.blk (u7.heap.size, #[.int .i64 8, .int .i64 2, .int .i64 1, .slice Ax 2 cx]) (by simp))
      exact ⟨a0, a1, a2, a3, p0, p1, p2, p3, u0, u1, u2, u3, v0, v1, v2, v3, x0, x1, x2, x3⟩)
    go_region_held3 (fun w' => w'.cell? ⟨bA, 0, none⟩ = some (.int .i64 8) ∧ w'.cell? ⟨bA, 1, none⟩ = some (.int .i64 2) ∧ w'.cell? ⟨bA, 2, none⟩ = some (.int .i64 2) ∧ w'.cell? ⟨bA, 3, none⟩ = some (.slice (some ⟨w.heap.size, 0, none⟩) 4 4) ∧ w'.cell? ⟨gP, 0, none⟩ = some (.int .i64 8) ∧ w'.cell? ⟨gP, 1, none⟩ = some (.int .i64 2) ∧ w'.cell? ⟨gP, 2, none⟩ = some (.int .i64 1) ∧ w'.cell? ⟨gP, 3, none⟩ = some (.slice Ap 2 cp) ∧ w'.cell? ⟨u3.heap.size, 0, none⟩ = some (.int .i64 8) ∧ w'.cell? ⟨u3.heap.size, 1, none⟩ = some (.int .i64 2) ∧ w'.cell? ⟨u3.heap.size, 2, none⟩ = some (.int .i64 2) ∧ w'.cell? ⟨u3.heap.size, 3, none⟩ = some (.slice (some ⟨u2.heap.size + 1, 0, none⟩) 4 4) ∧ w'.cell? ⟨u4.heap.size, 0, none⟩ = some (.int .i64 8) ∧ w'.cell? ⟨u4.heap.size, 1, none⟩ = some (.int .i64 2) ∧ w'.cell? ⟨u4.heap.size, 2, none⟩ = some (.int .i64 2) ∧ w'.cell? ⟨u4.heap.size, 3, none⟩ = some (.slice Av 4 cv) ∧ w'.cell? ⟨u7.heap.size, 0, none⟩ = some (.int .i64 8) ∧ w'.cell? ⟨u7.heap.size, 1, none⟩ = some (.int .i64 2) ∧ w'.cell? ⟨u7.heap.size, 2, none⟩ = some (.int .i64 1) ∧ w'.cell? ⟨u7.heap.size, 3, none⟩ = some (.slice Ax 2 cx)) (first | exact HC.out _ HL.out | exact HC.out _ HL.out.drew | exact HC.out _ (HLa.out.sub (fun p hp => hp) (fun p hp => List.mem_cons_of_mem _ hp)) | exact HC.out _ (HLb.out.sub (fun p hp => hp) (fun p hp => List.mem_cons_of_mem _ hp)) | exact HC.out _ (HL.out.next (below_alloc (Below.refl _ _) _)) | exact HC.out _ (HL.out.drew.next (below_alloc (Below.refl _ _) _))) (first | (go_at_call 21; (with_reducible refine (of_calls 8 2 1 _ _ _ _).mono ?_); rintro e z ⟨rfl, hb⟩; (first | (have HLa := Aside0.mk ((HL.out.drew.lit _ rfl [9, 23] 2 rfl (by decide) _ rfl).next hb)) | (have HLa := Aside0.mk ((HL.out.lit _ rfl [9, 23] 2 rfl (by decide) _ rfl).next hb)) | (have HLb := Aside0.mk ((HL.out.lit _ rfl [7, 0] 2 rfl (by decide) _ rfl).next hb))); clear hb) | (go_at_call 15; (refine (solventref06_Same.calls 9 8 2 1 Ap cp [9, 23] 8 2 1 _ _ [9, 23] true _ (HLa.out.read (List.mem_cons_of_mem _ (List.mem_cons_of_mem _ (List.mem_cons_self ..)))) (HLa.out.cap (List.mem_cons_of_mem _ (List.mem_cons_of_mem _ (List.mem_cons_self ..)))) (HLa.out.read (List.mem_cons_self ..)) (by decide) ex_same1).mono ?_); rintro e z ⟨rfl, hb⟩; have HN := Aside0.mk ((HLa.out.next hb).sub (fun p hp => hp) (fun p hp => List.mem_cons_of_mem _ hp)); clear HL HLa hb; have HL := HN; clear HN) | (go_at_call 15; (refine (solventref06_Same.calls 9 8 2 1 Ax cx [7, 0] 8 2 1 _ _ [7, 0] true _ (HLb.out.read (List.mem_cons_of_mem _ (List.mem_cons_of_mem _ (List.mem_cons_of_mem _ (List.mem_cons_of_mem _ (List.mem_cons_of_mem _ (List.mem_cons_self ..))))))) (HLb.out.cap (List.mem_cons_of_mem _ (List.mem_cons_of_mem _ (List.mem_cons_of_mem _ (List.mem_cons_of_mem _ (List.mem_cons_of_mem _ (List.mem_cons_self ..))))))) (HLb.out.read (List.mem_cons_self ..)) (by decide) ex_same3).mono ?_); rintro e z ⟨rfl, hb⟩; have HN := Aside0.mk ((HLb.out.next hb).sub (fun p hp => hp) (fun p hp => List.mem_cons_of_mem _ hp)); clear HL HLb hb; have HL := HN; clear HN) | (go_at_call 15; (refine (solventref06_Same.calls 9 8 2 2 Av cv [1, 1, 0, 1] 8 2 2 _ _ [1, 1, 0, 1] true _ (HL.out.read (List.mem_cons_of_mem _ (List.mem_cons_of_mem _ (List.mem_cons_of_mem _ (List.mem_cons_self ..))))) (HL.out.cap (List.mem_cons_of_mem _ (List.mem_cons_of_mem _ (List.mem_cons_of_mem _ (List.mem_cons_self ..))))) (HL.out.read (List.mem_cons_of_mem _ (List.mem_cons_of_mem _ (List.mem_cons_self ..)))) (by decide) ex_same2).mono ?_); rintro e z ⟨rfl, hb⟩; have HN := Aside0.mk (HL.out.next hb); clear HL hb; have HL := HN; clear HN) | (go_at_call 28; (with_reducible refine (valid_none _).mono ?_); rintro e z ⟨rfl, hb⟩; have HN := Aside0.mk (HL.out.next hb); clear HL hb; have HL := HN; clear HN) | (go_at_call 28; (with_reducible refine (valid_lit _ _ (HL.out.read (List.mem_cons_self ..))).mono ?_); rintro e z ⟨rfl, hb⟩; have HN := Aside0.mk (HL.out.next hb); clear HL hb; have HL := HN; clear HN) | (go_at_call 21; (with_reducible refine (of_calls 8 2 2 none 0 0 _).mono ?_); rintro e z ⟨rfl, hb⟩; have HN := Aside0.mk (HL.out.next hb); clear HL hb; have HL := HN; clear HN) | (go_at_call 29; (refine (matrix_At.calls 8 2 2 _ _ [1, 2, 3, 4] 1 0 3 _ (HL.out.read (List.mem_cons_self ..)) (by decide) ex_at).mono ?_); rintro e z ⟨rfl, hb⟩; have HN := Aside0.mk (HL.out.next hb); clear HL hb; have HL := HN; clear HN))
    all_goals
      go_wp2
      go_ret
      exact ⟨rfl, HL.out.below⟩
/-- the examples hold -/
def solventlaw06_sanity.f (k : Nat) : Option Bool := some true
theorem solventlaw06_sanity.mono (k : Nat) : LeO (solventlaw06_sanity.f k) (solventlaw06_sanity.f (k + 1)) := LeO.refl _
theorem solventlaw06_sanity.calls (k : Nat) (r : Bool) (w : World) (hff : FF w) (h : solventlaw06_sanity.f k = some r) : Calls Tryd.prog 14 #[] w fun e w' => e = .returned (.bool r) ∧ Below w.heap.size w w' := by
  cases h
  exact sanity_calls w hff
end Go.Proofs.YtfigcmmmpndpjaaDoor.H

/- Jc. -/
import Derived.Test.YtfigcmmmpndpjaaDoorQx
import Derived.Test.YtfigcmmmpndpjaaDoorHz
/- MatrixSolves: the law walked. -/
namespace Go.Proofs.YtfigcmmmpndpjaaDoor.H
open Go.RowKit Go.Proofs.YtfigcmmmpndpjaaDoorW.PrintWords Go.Proofs.YtfigcmmmpndpjaaDoorW.PrintLast Go.Proofs.YtfigcmmmpndpjaaDoorW.PrintMore Go.Proofs.YtfigcmmmpndpjaaDoor.P
set_option linter.unusedVariables false
set_option linter.unusedSimpArgs false
/-- a row has been appended to nil -/
theorem San.app0 {w W w1 : World} {L : List (Nat × Array Value)} {M : List (Value × List Int)} (h : San w W L M) {v1 : Value} {ys : List Int} (hg : W.grownBy w1 none) (hb : Below w.heap.size w w1)
    (ho : w1.ownsRow w.heap.size 3 1 v1 ys.length (nums .i64 ys)) : San w w1 L ((v1, ys) :: M) := by
  refine ⟨hb, h.lo, fun p hp => blk_grown (h.blk p hp) hg (by simp), fun p hp => ?_⟩
  rcases List.mem_cons.1 hp with rfl | hp
  · exact Kd.R_of_own ho (fun _ _ => trivial)
  · exact Kd.R_grown (h.rd p hp) hg (fun k _ => by simp)
/-- a row has been appended to one's own -/
theorem San.app {w W w1 : World} {L : List (Nat × Array Value)} {M : List (Value × List Int)} (h : San w W L M) {v v1 : Value} {xs zs : List Int} (hv : (v, xs) ∈ M) (hg : W.grownBy w1 v.ownBlock) (hb : Below w.heap.size w w1)
    (ho : w1.ownsRow w.heap.size 3 1 v1 zs.length (nums .i64 zs)) : San w w1 L [(v1, zs)] := by
  refine ⟨hb, h.lo, fun p hp => blk_grown (h.blk p hp) hg (Kd.R_ne (h.rd _ hv) (h.blk p hp) (by decide)), fun p hp => ?_⟩
  obtain rfl := List.mem_singleton.1 hp
  exact Kd.R_of_own ho (fun _ _ => trivial)
set_option maxRecDepth 100000 in
set_option maxHeartbeats 16000000 in
theorem solves_calls (a0_0 a0_1 a0_2 : Int) (A0 : Option Addr) (c0 : Nat) (l0 : List Int) (a1_0 a1_1 a1_2 : Int) (A1 : Option Addr) (c1 : Nat) (l1 : List Int) (w : World) (hff : FF w) (r0 : Kd.C (Kd.int .i64) w A0 l0.length l0) (m0 : l0.length ≤ c0) (r1 : Kd.C (Kd.int .i64) w A1 l1.length l1) (m1 : l1.length ≤ c1) :
    Calls Tryd.prog 4 #[.agg #[.int .i64 a0_0, .int .i64 a0_1, .int .i64 a0_2, .slice A0 l0.length c0], .agg #[.int .i64 a1_0, .int .i64 a1_1, .int .i64 a1_2, .slice A1 l1.length c1]] w fun e w' => e = .returned (.bool true) ∧ Below w.heap.size w w' := by
  have HF := Aside0.mk hff
  have HR0 := Aside0.mk r0
  have HC0 := Aside0.mk m0
  have HR1 := Aside0.mk r1
  have HC1 := Aside0.mk m1
  have HS0 := Aside0.mk (San.start w)
  clear hff r0 m0 r1 m1
  go_enter Tryd.func4, Tryd.ntmps4
  go_upto_region 1 with (fail)
  obtain ⟨p0, hp0⟩ : ∃ b, b = w.heap.size := ⟨_, rfl⟩
  obtain ⟨p1, hp1⟩ : ∃ b, b = w.heap.size + 1 := ⟨_, rfl⟩
  have HS1 := Aside0.mk ((HS0.out.box p0 hp0 #[.int .i64 a0_0, .int .i64 a0_1, .int .i64 a0_2, .slice A0 l0.length c0]).box p1 (by rw [hp1]; simp) #[.int .i64 a1_0, .int .i64 a1_1, .int .i64 a1_2, .slice A1 l1.length c1])
  rw [← hp1, ← hp0]
  generalize (w.alloc (.cells #[.int .i64 a0_0, .int .i64 a0_1, .int .i64 a0_2, .slice A0 l0.length c0] 24 (0, 0))).alloc (.cells #[.int .i64 a1_0, .int .i64 a1_1, .int .i64 a1_2, .slice A1 l1.length c1] 24 (0, 0)) = W0 at HS1 ⊢
  clear hp0 hp1 HS0
  go_cut [5] (fun v5 wc => ∃ fits : Bool, v5 = .bool fits ∧ (fits = true → a0_2 ≤ 12 ∧ a1_2 ≤ 12) ∧ Aside0 (San w wc [(p1, #[.int .i64 a1_0, .int .i64 a1_1, .int .i64 a1_2, .slice A1 l1.length c1]), (p0, #[.int .i64 a0_0, .int .i64 a0_1, .int .i64 a0_2, .slice A0 l0.length c0])] []))
  case first =>
    obtain ⟨s0, h0⟩ : ∃ s, solventlaw06_small.f a0_0 a0_1 a0_2 l0 = some s := ⟨_, small_is _ _ _ _⟩
    obtain ⟨s1, h1⟩ : ∃ s, solventlaw06_small.f a1_0 a1_1 a1_2 l1 = some s := ⟨_, small_is _ _ _ _⟩
    obtain ⟨p0_0, p0_1, p0_2, p0_3⟩ := blk4 (HS1.out.blk (p0, #[.int .i64 a0_0, .int .i64 a0_1, .int .i64 a0_2, .slice A0 l0.length c0]) (List.mem_cons_of_mem _ (List.mem_cons_self ..)))
    have zp0 : p0 < W0.heap.size := blk_lt (HS1.out.blk (p0, #[.int .i64 a0_0, .int .i64 a0_1, .int .i64 a0_2, .slice A0 l0.length c0]) (List.mem_cons_of_mem _ (List.mem_cons_self ..)))
    obtain ⟨p1_0, p1_1, p1_2, p1_3⟩ := blk4 (HS1.out.blk (p1, #[.int .i64 a1_0, .int .i64 a1_1, .int .i64 a1_2, .slice A1 l1.length c1]) (List.mem_cons_self ..))
    have zp1 : p1 < W0.heap.size := blk_lt (HS1.out.blk (p1, #[.int .i64 a1_0, .int .i64 a1_1, .int .i64 a1_2, .slice A1 l1.length c1]) (List.mem_cons_self ..))
    cases s0 with
    | false =>
      go_wp2_with fail
      refine (solventlaw06_small.calls a0_0 a0_1 a0_2 A0 c0 l0 false _ (Kd.C_below HR0.out HS1.out.below) HC0.out h0).mono ?_
      rintro e u0 ⟨rfl, hb⟩
      have HS2 := Aside0.mk (HS1.out.next hb)
      clear HS1
      clear hb
      go_wp2
      go_meet
      case rel => exact ⟨false, rfl, (fun h => by cases h), HS2⟩
    | true =>
      go_wp2_with fail
      refine (solventlaw06_small.calls a0_0 a0_1 a0_2 A0 c0 l0 true _ (Kd.C_below HR0.out HS1.out.below) HC0.out h0).mono ?_
      rintro e u0 ⟨rfl, hb⟩
      have HS2 := Aside0.mk (HS1.out.next hb)
      clear HS1
      clear hb
      obtain ⟨p1_0, p1_1, p1_2, p1_3⟩ := blk4 (HS2.out.blk (p1, #[.int .i64 a1_0, .int .i64 a1_1, .int .i64 a1_2, .slice A1 l1.length c1]) (List.mem_cons_self ..))
      have zp1 : p1 < u0.heap.size := blk_lt (HS2.out.blk (p1, #[.int .i64 a1_0, .int .i64 a1_1, .int .i64 a1_2, .slice A1 l1.length c1]) (List.mem_cons_self ..))
      cases s1 with
      | false =>
        go_wp2_with fail
        refine (solventlaw06_small.calls a1_0 a1_1 a1_2 A1 c1 l1 false _ (Kd.C_below HR1.out HS2.out.below) HC1.out h1).mono ?_
        rintro e u1 ⟨rfl, hb⟩
        have HS3 := Aside0.mk (HS2.out.next hb)
        clear HS2
        clear hb
        go_wp2
        go_meet
        case rel => exact ⟨false, rfl, (fun h => by cases h), HS3⟩
      | true =>
        go_wp2_with fail
        refine (solventlaw06_small.calls a1_0 a1_1 a1_2 A1 c1 l1 true _ (Kd.C_below HR1.out HS2.out.below) HC1.out h1).mono ?_
        rintro e u1 ⟨rfl, hb⟩
        have HS3 := Aside0.mk (HS2.out.next hb)
        clear HS2
        clear hb
        go_wp2
        go_meet
        case rel => exact ⟨true, rfl, (fun _ => ⟨(small_true h0).2, (small_true h1).2⟩), HS3⟩
  case rest =>
    obtain ⟨fits, rfl, hok, HS2⟩ := hcut
    clear HS1
    cases fits with
    | false =>
      clear hok
      obtain ⟨k, hk⟩ := big
      go_wp2_with fail
      refine (solventlaw06_sanity.calls k true _ (FF.below HF.out HS2.out.below) rfl).mono ?_
      rintro e u3 ⟨rfl, hb⟩
      have HS3 := Aside0.mk (HS2.out.next hb)
      clear HS2
      clear hb
      go_wp2
      go_ret
      exact ⟨rfl, HS3.out.below⟩
    | true =>
      obtain ⟨s0, s1⟩ := hok rfl
      clear hok
      by_cases hall : validB a0_0 a0_1 a0_2 l0 = true ∧ validB a1_0 a1_1 a1_2 l1 = true ∧ a0_0 = a1_0 ∧ a0_1 = a1_1
      case neg =>
        obtain ⟨k0, hk0⟩ := rsolve_no hall
        obtain ⟨k, hk, hk1⟩ : ∃ k, 4000 ≤ k ∧ k0 ≤ k := ⟨max k0 4000, by omega, by omega⟩
        have Q1 := Aside0.mk (solve_no k hall)
        have Q2 := Aside0.mk (hk0 k hk1)
        have S1 := Aside0.mk (same_rfl (k := k) (by omega) (m := 0) (r := 0) (c := 0) (l := []) (l' := []) (by simp) rfl rfl rfl rfl)
        clear hall hk0 hk hk1 s0 s1
        obtain ⟨p0_0, p0_1, p0_2, p0_3⟩ := blk4 (HS2.out.blk (p0, #[.int .i64 a0_0, .int .i64 a0_1, .int .i64 a0_2, .slice A0 l0.length c0]) (List.mem_cons_of_mem _ (List.mem_cons_self ..)))
        have zp0 : p0 < wc.heap.size := blk_lt (HS2.out.blk (p0, #[.int .i64 a0_0, .int .i64 a0_1, .int .i64 a0_2, .slice A0 l0.length c0]) (List.mem_cons_of_mem _ (List.mem_cons_self ..)))
        obtain ⟨p1_0, p1_1, p1_2, p1_3⟩ := blk4 (HS2.out.blk (p1, #[.int .i64 a1_0, .int .i64 a1_1, .int .i64 a1_2, .slice A1 l1.length c1]) (List.mem_cons_self ..))
        have zp1 : p1 < wc.heap.size := blk_lt (HS2.out.blk (p1, #[.int .i64 a1_0, .int .i64 a1_1, .int .i64 a1_2, .slice A1 l1.length c1]) (List.mem_cons_self ..))
        go_wp2_with fail
        refine (matrix_Solve.calls k a0_0 a0_1 a0_2 A0 c0 l0 a1_0 a1_1 a1_2 A1 c1 l1 0 0 0 [] 1 _ (FF.below HF.out HS2.out.below) (Kd.C_below HR0.out HS2.out.below) HC0.out (Kd.C_below HR1.out HS2.out.below) HC1.out Q1.out).mono ?_
        rintro e u1 ⟨v, rfl, ho, hb⟩
        obtain ⟨Ax, cx, rfl⟩ := Kd.R_slice ho
        replace ho : Kd.R (Kd.int .i64) 3 u1 _ (fun _ => True) (.slice Ax 0 cx) [] := ho
        have HS3 := Aside0.mk ((HS2.out.next hb).got ho HS2.out.below.size)
        clear HS2
        clear hb ho
        go_upto_region 5 with (fail)
        obtain ⟨gx, hgx⟩ : ∃ b, b = u1.heap.size := ⟨_, rfl⟩
        have HS4 := Aside0.mk (HS3.out.box gx hgx #[.int .i64 0, .int .i64 0, .int .i64 0, .slice Ax 0 cx])
        clear HS3
        rw [← hgx]
        generalize u1.alloc (.cells #[.int .i64 0, .int .i64 0, .int .i64 0, .slice Ax 0 cx] 24 (0, 0)) = Wgx at HS4 ⊢
        clear hgx
        clear p0_0 p0_1 p0_2 p0_3 zp0
        clear p1_0 p1_1 p1_2 p1_3 zp1
        obtain ⟨p0_0, p0_1, p0_2, p0_3⟩ := blk4 (HS4.out.blk (p0, #[.int .i64 a0_0, .int .i64 a0_1, .int .i64 a0_2, .slice A0 l0.length c0]) (List.mem_cons_of_mem _ (List.mem_cons_of_mem _ (List.mem_cons_self ..))))
        have zp0 : p0 < Wgx.heap.size := blk_lt (HS4.out.blk (p0, #[.int .i64 a0_0, .int .i64 a0_1, .int .i64 a0_2, .slice A0 l0.length c0]) (List.mem_cons_of_mem _ (List.mem_cons_of_mem _ (List.mem_cons_self ..))))
        obtain ⟨p1_0, p1_1, p1_2, p1_3⟩ := blk4 (HS4.out.blk (p1, #[.int .i64 a1_0, .int .i64 a1_1, .int .i64 a1_2, .slice A1 l1.length c1]) (List.mem_cons_of_mem _ (List.mem_cons_self ..)))
        have zp1 : p1 < Wgx.heap.size := blk_lt (HS4.out.blk (p1, #[.int .i64 a1_0, .int .i64 a1_1, .int .i64 a1_2, .slice A1 l1.length c1]) (List.mem_cons_of_mem _ (List.mem_cons_self ..)))
        go_wp2_with fail
        refine (solventref06_Solve.calls k a0_0 a0_1 a0_2 A0 c0 l0 a1_0 a1_1 a1_2 A1 c1 l1 0 0 0 [] 1 _ (Kd.C_below HR0.out HS4.out.below) HC0.out (Kd.C_below HR1.out HS4.out.below) HC1.out Q2.out).mono ?_
        rintro e u2 ⟨v, rfl, ho, hb⟩
        obtain ⟨Ay, cy, rfl⟩ := Kd.R_slice ho
        replace ho : Kd.R (Kd.int .i64) 3 u2 _ (fun _ => True) (.slice Ay 0 cy) [] := ho
        have HS5 := Aside0.mk ((HS4.out.next hb).got ho HS4.out.below.size)
        clear HS4
        clear hb ho
        go_upto_region 6 with (fail)
        obtain ⟨gy, hgy⟩ : ∃ b, b = u2.heap.size := ⟨_, rfl⟩
        have HS6 := Aside0.mk (HS5.out.box gy hgy #[.int .i64 0, .int .i64 0, .int .i64 0, .slice Ay 0 cy])
        clear HS5
        rw [← hgy]
        generalize u2.alloc (.cells #[.int .i64 0, .int .i64 0, .int .i64 0, .slice Ay 0 cy] 24 (0, 0)) = Wgy at HS6 ⊢
        clear hgy
        clear p0_0 p0_1 p0_2 p0_3 zp0
        clear p1_0 p1_1 p1_2 p1_3 zp1
        obtain ⟨gx_0, gx_1, gx_2, gx_3⟩ := blk4 (HS6.out.blk (gx, #[.int .i64 0, .int .i64 0, .int .i64 0, .slice Ax 0 cx]) (List.mem_cons_of_mem _ (List.mem_cons_self ..)))
        have zgx : gx < Wgy.heap.size := blk_lt (HS6.out.blk (gx, #[.int .i64 0, .int .i64 0, .int .i64 0, .slice Ax 0 cx]) (List.mem_cons_of_mem _ (List.mem_cons_self ..)))
        obtain ⟨gy_0, gy_1, gy_2, gy_3⟩ := blk4 (HS6.out.blk (gy, #[.int .i64 0, .int .i64 0, .int .i64 0, .slice Ay 0 cy]) (List.mem_cons_self ..))
        have zgy : gy < Wgy.heap.size := blk_lt (HS6.out.blk (gy, #[.int .i64 0, .int .i64 0, .int .i64 0, .slice Ay 0 cy]) (List.mem_cons_self ..))
        go_wp2_with fail
        refine (solventref06_Same.calls k 0 0 0 Ax cx [] 0 0 0 Ay cy [] true _ (HS6.out.read (List.mem_cons_of_mem _ (List.mem_cons_self ..))) (HS6.out.cap (List.mem_cons_of_mem _ (List.mem_cons_self ..))) (HS6.out.read (List.mem_cons_self ..)) (HS6.out.cap (List.mem_cons_self ..)) S1.out).mono ?_
        rintro e u3 ⟨rfl, hb⟩
        have HS7 := Aside0.mk (HS6.out.next hb)
        clear HS6
        clear hb
        go_wp2_with fail
        refine (solventlaw06_sanity.calls k true _ (FF.below HF.out HS7.out.below) rfl).mono ?_
        rintro e u4 ⟨rfl, hb⟩
        have HS8 := Aside0.mk (HS7.out.next hb)
        clear HS7
        clear hb
        go_wp2
        go_ret
        exact ⟨rfl, HS8.out.below⟩
      case pos =>
        obtain ⟨v0, v1, e0, e1⟩ := hall
        obtain ⟨m, r, n, rfl, rfl, rfl, M0⟩ := Mat.open v0
        obtain ⟨m', r', d, h1, h2, rfl, M1⟩ := Mat.open v1
        subst h1 h2
        obtain rfl : m = m' := by omega
        obtain rfl : r = r' := by omega
        clear v0 v1 e0 e1
        obtain ⟨k0, hk0⟩ := rsolve_at M0 M1
        obtain ⟨k, hk, hk1⟩ : ∃ k, 4000 ≤ k ∧ k0 ≤ k := ⟨max k0 4000, by omega, by omega⟩
        have q1 := solve_at k M0 M1
        have q2 := hk0 k hk1
        clear hk0 hk1
        cases hz : noneB m r n d l0 l1 with
        | false =>
          rw [hz, if_neg (by simp)] at q1 q2
          obtain ⟨x, hx⟩ : ∃ x, x = solL m r n d l0 l1 := ⟨_, rfl⟩
          have Mx_ : Mat m n d x := hx ▸ sol_mat M0 M1
          have q3 := mul_at k M0 Mx_
          rw [show mulL m r n d l0 x = l1 by rw [hx]; exact sol_mul M0 M1 hz] at q3
          rw [← hx] at q1 q2
          have Q1 := Aside0.mk q1
          have Q2 := Aside0.mk q2
          have Q3 := Aside0.mk q3
          have S1 := Aside0.mk (same_rfl (k := k) (by omega) (m := m) (r := n) (c := d) (l := x) (l' := x) (by have := Mx_.max; omega) rfl rfl rfl rfl)
          have S2 := Aside0.mk (same_rfl (k := k) (by omega) (m := m) (r := r) (c := d) (l := l1) (l' := l1) (by have := M1.max; omega) rfl rfl rfl rfl)
          clear q1 q2 q3 hz hx Mx_ M0 M1 hk s0 s1
          obtain ⟨p0_0, p0_1, p0_2, p0_3⟩ := blk4 (HS2.out.blk (p0, #[.int .i64 m, .int .i64 r, .int .i64 n, .slice A0 l0.length c0]) (List.mem_cons_of_mem _ (List.mem_cons_self ..)))
          have zp0 : p0 < wc.heap.size := blk_lt (HS2.out.blk (p0, #[.int .i64 m, .int .i64 r, .int .i64 n, .slice A0 l0.length c0]) (List.mem_cons_of_mem _ (List.mem_cons_self ..)))
          obtain ⟨p1_0, p1_1, p1_2, p1_3⟩ := blk4 (HS2.out.blk (p1, #[.int .i64 m, .int .i64 r, .int .i64 d, .slice A1 l1.length c1]) (List.mem_cons_self ..))
          have zp1 : p1 < wc.heap.size := blk_lt (HS2.out.blk (p1, #[.int .i64 m, .int .i64 r, .int .i64 d, .slice A1 l1.length c1]) (List.mem_cons_self ..))
          go_wp2_with fail
          refine (matrix_Solve.calls k m r n A0 c0 l0 m r d A1 c1 l1 m n d x 0 _ (FF.below HF.out HS2.out.below) (Kd.C_below HR0.out HS2.out.below) HC0.out (Kd.C_below HR1.out HS2.out.below) HC1.out Q1.out).mono ?_
          rintro e u1 ⟨v, rfl, ho, hb⟩
          obtain ⟨Ax, cx, rfl⟩ := Kd.R_slice ho
          replace ho : Kd.R (Kd.int .i64) 3 u1 _ (fun _ => True) (.slice Ax (x).length cx) x := ho
          have HS3 := Aside0.mk ((HS2.out.next hb).got ho HS2.out.below.size)
          clear HS2
          clear hb ho
          go_upto_region 5 with (fail)
          obtain ⟨gx, hgx⟩ : ∃ b, b = u1.heap.size := ⟨_, rfl⟩
          have HS4 := Aside0.mk (HS3.out.box gx hgx #[.int .i64 m, .int .i64 n, .int .i64 d, .slice Ax (x).length cx])
          clear HS3
          rw [← hgx]
          generalize u1.alloc (.cells #[.int .i64 m, .int .i64 n, .int .i64 d, .slice Ax (x).length cx] 24 (0, 0)) = Wgx at HS4 ⊢
          clear hgx
          clear p0_0 p0_1 p0_2 p0_3 zp0
          clear p1_0 p1_1 p1_2 p1_3 zp1
          obtain ⟨p0_0, p0_1, p0_2, p0_3⟩ := blk4 (HS4.out.blk (p0, #[.int .i64 m, .int .i64 r, .int .i64 n, .slice A0 l0.length c0]) (List.mem_cons_of_mem _ (List.mem_cons_of_mem _ (List.mem_cons_self ..))))
          have zp0 : p0 < Wgx.heap.size := blk_lt (HS4.out.blk (p0, #[.int .i64 m, .int .i64 r, .int .i64 n, .slice A0 l0.length c0]) (List.mem_cons_of_mem _ (List.mem_cons_of_mem _ (List.mem_cons_self ..))))
          obtain ⟨p1_0, p1_1, p1_2, p1_3⟩ := blk4 (HS4.out.blk (p1, #[.int .i64 m, .int .i64 r, .int .i64 d, .slice A1 l1.length c1]) (List.mem_cons_of_mem _ (List.mem_cons_self ..)))
          have zp1 : p1 < Wgx.heap.size := blk_lt (HS4.out.blk (p1, #[.int .i64 m, .int .i64 r, .int .i64 d, .slice A1 l1.length c1]) (List.mem_cons_of_mem _ (List.mem_cons_self ..)))
          go_wp2_with fail
          refine (solventref06_Solve.calls k m r n A0 c0 l0 m r d A1 c1 l1 m n d x 0 _ (Kd.C_below HR0.out HS4.out.below) HC0.out (Kd.C_below HR1.out HS4.out.below) HC1.out Q2.out).mono ?_
          rintro e u2 ⟨v, rfl, ho, hb⟩
          obtain ⟨Ay, cy, rfl⟩ := Kd.R_slice ho
          replace ho : Kd.R (Kd.int .i64) 3 u2 _ (fun _ => True) (.slice Ay (x).length cy) x := ho
          have HS5 := Aside0.mk ((HS4.out.next hb).got ho HS4.out.below.size)
          clear HS4
          clear hb ho
          go_upto_region 6 with (fail)
          obtain ⟨gy, hgy⟩ : ∃ b, b = u2.heap.size := ⟨_, rfl⟩
          have HS6 := Aside0.mk (HS5.out.box gy hgy #[.int .i64 m, .int .i64 n, .int .i64 d, .slice Ay (x).length cy])
          clear HS5
          rw [← hgy]
          generalize u2.alloc (.cells #[.int .i64 m, .int .i64 n, .int .i64 d, .slice Ay (x).length cy] 24 (0, 0)) = Wgy at HS6 ⊢
          clear hgy
          clear p0_0 p0_1 p0_2 p0_3 zp0
          clear p1_0 p1_1 p1_2 p1_3 zp1
          obtain ⟨gx_0, gx_1, gx_2, gx_3⟩ := blk4 (HS6.out.blk (gx, #[.int .i64 m, .int .i64 n, .int .i64 d, .slice Ax (x).length cx]) (List.mem_cons_of_mem _ (List.mem_cons_self ..)))
          have zgx : gx < Wgy.heap.size := blk_lt (HS6.out.blk (gx, #[.int .i64 m, .int .i64 n, .int .i64 d, .slice Ax (x).length cx]) (List.mem_cons_of_mem _ (List.mem_cons_self ..)))
          obtain ⟨gy_0, gy_1, gy_2, gy_3⟩ := blk4 (HS6.out.blk (gy, #[.int .i64 m, .int .i64 n, .int .i64 d, .slice Ay (x).length cy]) (List.mem_cons_self ..))
          have zgy : gy < Wgy.heap.size := blk_lt (HS6.out.blk (gy, #[.int .i64 m, .int .i64 n, .int .i64 d, .slice Ay (x).length cy]) (List.mem_cons_self ..))
          go_wp2_with fail
          refine (solventref06_Same.calls k m n d Ax cx x m n d Ay cy x true _ (HS6.out.read (List.mem_cons_of_mem _ (List.mem_cons_self ..))) (HS6.out.cap (List.mem_cons_of_mem _ (List.mem_cons_self ..))) (HS6.out.read (List.mem_cons_self ..)) (HS6.out.cap (List.mem_cons_self ..)) S1.out).mono ?_
          rintro e u3 ⟨rfl, hb⟩
          have HS7 := Aside0.mk (HS6.out.next hb)
          clear HS6
          clear hb
          clear gx_0 gx_1 gx_2 gx_3 zgx
          clear gy_0 gy_1 gy_2 gy_3 zgy
          go_upto_region 9 with (fail)
          obtain ⟨p0_0, p0_1, p0_2, p0_3⟩ := blk4 (HS7.out.blk (p0, #[.int .i64 m, .int .i64 r, .int .i64 n, .slice A0 l0.length c0]) (List.mem_cons_of_mem _ (List.mem_cons_of_mem _ (List.mem_cons_of_mem _ (List.mem_cons_self ..)))))
          have zp0 : p0 < u3.heap.size := blk_lt (HS7.out.blk (p0, #[.int .i64 m, .int .i64 r, .int .i64 n, .slice A0 l0.length c0]) (List.mem_cons_of_mem _ (List.mem_cons_of_mem _ (List.mem_cons_of_mem _ (List.mem_cons_self ..)))))
          obtain ⟨gx_0, gx_1, gx_2, gx_3⟩ := blk4 (HS7.out.blk (gx, #[.int .i64 m, .int .i64 n, .int .i64 d, .slice Ax (x).length cx]) (List.mem_cons_of_mem _ (List.mem_cons_self ..)))
          have zgx : gx < u3.heap.size := blk_lt (HS7.out.blk (gx, #[.int .i64 m, .int .i64 n, .int .i64 d, .slice Ax (x).length cx]) (List.mem_cons_of_mem _ (List.mem_cons_self ..)))
          go_wp2_with fail
          refine (matrix_Mul.calls k m r n A0 c0 l0 m n d Ax cx x m r d l1 0 _ (FF.below HF.out HS7.out.below) (Kd.C_below HR0.out HS7.out.below) HC0.out (HS7.out.read (List.mem_cons_of_mem _ (List.mem_cons_self ..))) (HS7.out.cap (List.mem_cons_of_mem _ (List.mem_cons_self ..))) Q3.out).mono ?_
          rintro e u4 ⟨v, rfl, ho, hb⟩
          obtain ⟨Ap, cp, rfl⟩ := Kd.R_slice ho
          replace ho : Kd.R (Kd.int .i64) 3 u4 _ (fun _ => True) (.slice Ap (l1).length cp) l1 := ho
          have HS8 := Aside0.mk ((HS7.out.next hb).got ho HS7.out.below.size)
          clear HS7
          clear hb ho
          go_upto_region 10 with (fail)
          obtain ⟨gp, hgp⟩ : ∃ b, b = u4.heap.size := ⟨_, rfl⟩
          have HS9 := Aside0.mk (HS8.out.box gp hgp #[.int .i64 m, .int .i64 r, .int .i64 d, .slice Ap (l1).length cp])
          clear HS8
          rw [← hgp]
          generalize u4.alloc (.cells #[.int .i64 m, .int .i64 r, .int .i64 d, .slice Ap (l1).length cp] 24 (0, 0)) = Wgp at HS9 ⊢
          clear hgp
          clear p0_0 p0_1 p0_2 p0_3 zp0
          clear gx_0 gx_1 gx_2 gx_3 zgx
          go_wp2_with fail
          refine (solventlaw06_sanity.calls k true _ (FF.below HF.out HS9.out.below) rfl).mono ?_
          rintro e u5 ⟨rfl, hb⟩
          have HS10 := Aside0.mk (HS9.out.next hb)
          clear HS9
          clear hb
          obtain ⟨gp_0, gp_1, gp_2, gp_3⟩ := blk4 (HS10.out.blk (gp, #[.int .i64 m, .int .i64 r, .int .i64 d, .slice Ap (l1).length cp]) (List.mem_cons_self ..))
          have zgp : gp < u5.heap.size := blk_lt (HS10.out.blk (gp, #[.int .i64 m, .int .i64 r, .int .i64 d, .slice Ap (l1).length cp]) (List.mem_cons_self ..))
          obtain ⟨p1_0, p1_1, p1_2, p1_3⟩ := blk4 (HS10.out.blk (p1, #[.int .i64 m, .int .i64 r, .int .i64 d, .slice A1 l1.length c1]) (List.mem_cons_of_mem _ (List.mem_cons_of_mem _ (List.mem_cons_of_mem _ (List.mem_cons_self ..)))))
          have zp1 : p1 < u5.heap.size := blk_lt (HS10.out.blk (p1, #[.int .i64 m, .int .i64 r, .int .i64 d, .slice A1 l1.length c1]) (List.mem_cons_of_mem _ (List.mem_cons_of_mem _ (List.mem_cons_of_mem _ (List.mem_cons_self ..)))))
          go_wp2_with fail
          refine (solventref06_Same.calls k m r d Ap cp l1 m r d A1 c1 l1 true _ (HS10.out.read (List.mem_cons_self ..)) (HS10.out.cap (List.mem_cons_self ..)) (Kd.C_below HR1.out HS10.out.below) HC1.out S2.out).mono ?_
          rintro e u6 ⟨rfl, hb⟩
          have HS11 := Aside0.mk (HS10.out.next hb)
          clear HS10
          clear hb
          go_wp2
          go_ret
          exact ⟨rfl, HS11.out.below⟩
        | true =>
          rw [hz, if_pos rfl] at q1 q2
          have q3 := tr_at M0
          have q4 := tr_at M1
          have q5 := rank_stack k M0 M1 (by omega)
          have q6 := rank_at k M0
          have q7 := none_more M0 M1 hz
          have Q8 := Aside0.mk (show (trL r n l0).length ≤ 1024 from (trL_mat M0).max)
          have Q9 := Aside0.mk (show (trL r d l1).length ≤ 1024 from (trL_mat M1).max)
          obtain ⟨ta, hta⟩ : ∃ x, x = trL r n l0 := ⟨_, rfl⟩
          obtain ⟨tb, htb⟩ : ∃ x, x = trL r d l1 := ⟨_, rfl⟩
          rw [← hta] at q3 q5 Q8
          rw [← htb] at q4 q5 Q9
          obtain ⟨rk, hrk⟩ : ∃ x, x = rankN m r n l0 := ⟨_, rfl⟩
          rw [← hrk] at q6
          obtain ⟨rs, hrs⟩ : ∃ x, x = (Mx.redTo m r (Mx.bes n (Mx.el n l0) (Mx.el d l1)) (n + d)).2.length := ⟨_, rfl⟩
          rw [← hrs] at q5 q7
          replace q7 : rk < rs := hrk ▸ q7
          have e1 : decide (rk < rs) = true := decide_eq_true q7
          have e2 := M0.hc
          have e3 := M1.hc
          have e4 : IntKind.i64.wrap ((n : Int) + (d : Int)) = (n : Int) + (d : Int) := IntWalk.i64_in _ (by omega)
          have Q1 := Aside0.mk q1
          have Q2 := Aside0.mk q2
          have Q3 := Aside0.mk q3
          have Q4 := Aside0.mk q4
          have Q5 := Aside0.mk q5
          have Q6 := Aside0.mk q6
          have E1 := Aside0.mk e1
          have E4 := Aside0.mk e4
          have S1 := Aside0.mk (same_rfl (k := k) (by omega) (m := 0) (r := 0) (c := 0) (l := []) (l' := []) (by simp) rfl rfl rfl rfl)
          clear q1 q2 q3 q4 q5 q6 q7 hz hta htb hrk hrs M0 M1 hk s0 s1 e1 e2 e3 e4
          obtain ⟨p0_0, p0_1, p0_2, p0_3⟩ := blk4 (HS2.out.blk (p0, #[.int .i64 m, .int .i64 r, .int .i64 n, .slice A0 l0.length c0]) (List.mem_cons_of_mem _ (List.mem_cons_self ..)))
          have zp0 : p0 < wc.heap.size := blk_lt (HS2.out.blk (p0, #[.int .i64 m, .int .i64 r, .int .i64 n, .slice A0 l0.length c0]) (List.mem_cons_of_mem _ (List.mem_cons_self ..)))
          obtain ⟨p1_0, p1_1, p1_2, p1_3⟩ := blk4 (HS2.out.blk (p1, #[.int .i64 m, .int .i64 r, .int .i64 d, .slice A1 l1.length c1]) (List.mem_cons_self ..))
          have zp1 : p1 < wc.heap.size := blk_lt (HS2.out.blk (p1, #[.int .i64 m, .int .i64 r, .int .i64 d, .slice A1 l1.length c1]) (List.mem_cons_self ..))
          go_wp2_with fail
          refine (matrix_Solve.calls k m r n A0 c0 l0 m r d A1 c1 l1 0 0 0 [] 12 _ (FF.below HF.out HS2.out.below) (Kd.C_below HR0.out HS2.out.below) HC0.out (Kd.C_below HR1.out HS2.out.below) HC1.out Q1.out).mono ?_
          rintro e u1 ⟨v, rfl, ho, hb⟩
          obtain ⟨Ax, cx, rfl⟩ := Kd.R_slice ho
          replace ho : Kd.R (Kd.int .i64) 3 u1 _ (fun _ => True) (.slice Ax 0 cx) [] := ho
          have HS3 := Aside0.mk ((HS2.out.next hb).got ho HS2.out.below.size)
          clear HS2
          clear hb ho
          go_upto_region 5 with (fail)
          obtain ⟨gx, hgx⟩ : ∃ b, b = u1.heap.size := ⟨_, rfl⟩
          have HS4 := Aside0.mk (HS3.out.box gx hgx #[.int .i64 0, .int .i64 0, .int .i64 0, .slice Ax 0 cx])
          clear HS3
          rw [← hgx]
          generalize u1.alloc (.cells #[.int .i64 0, .int .i64 0, .int .i64 0, .slice Ax 0 cx] 24 (0, 0)) = Wgx at HS4 ⊢
          clear hgx
          clear p0_0 p0_1 p0_2 p0_3 zp0
          clear p1_0 p1_1 p1_2 p1_3 zp1
          obtain ⟨p0_0, p0_1, p0_2, p0_3⟩ := blk4 (HS4.out.blk (p0, #[.int .i64 m, .int .i64 r, .int .i64 n, .slice A0 l0.length c0]) (List.mem_cons_of_mem _ (List.mem_cons_of_mem _ (List.mem_cons_self ..))))
          have zp0 : p0 < Wgx.heap.size := blk_lt (HS4.out.blk (p0, #[.int .i64 m, .int .i64 r, .int .i64 n, .slice A0 l0.length c0]) (List.mem_cons_of_mem _ (List.mem_cons_of_mem _ (List.mem_cons_self ..))))
          obtain ⟨p1_0, p1_1, p1_2, p1_3⟩ := blk4 (HS4.out.blk (p1, #[.int .i64 m, .int .i64 r, .int .i64 d, .slice A1 l1.length c1]) (List.mem_cons_of_mem _ (List.mem_cons_self ..)))
          have zp1 : p1 < Wgx.heap.size := blk_lt (HS4.out.blk (p1, #[.int .i64 m, .int .i64 r, .int .i64 d, .slice A1 l1.length c1]) (List.mem_cons_of_mem _ (List.mem_cons_self ..)))
          go_wp2_with fail
          refine (solventref06_Solve.calls k m r n A0 c0 l0 m r d A1 c1 l1 0 0 0 [] 12 _ (Kd.C_below HR0.out HS4.out.below) HC0.out (Kd.C_below HR1.out HS4.out.below) HC1.out Q2.out).mono ?_
          rintro e u2 ⟨v, rfl, ho, hb⟩
          obtain ⟨Ay, cy, rfl⟩ := Kd.R_slice ho
          replace ho : Kd.R (Kd.int .i64) 3 u2 _ (fun _ => True) (.slice Ay 0 cy) [] := ho
          have HS5 := Aside0.mk ((HS4.out.next hb).got ho HS4.out.below.size)
          clear HS4
          clear hb ho
          go_upto_region 6 with (fail)
          obtain ⟨gy, hgy⟩ : ∃ b, b = u2.heap.size := ⟨_, rfl⟩
          have HS6 := Aside0.mk (HS5.out.box gy hgy #[.int .i64 0, .int .i64 0, .int .i64 0, .slice Ay 0 cy])
          clear HS5
          rw [← hgy]
          generalize u2.alloc (.cells #[.int .i64 0, .int .i64 0, .int .i64 0, .slice Ay 0 cy] 24 (0, 0)) = Wgy at HS6 ⊢
          clear hgy
          clear p0_0 p0_1 p0_2 p0_3 zp0
          clear p1_0 p1_1 p1_2 p1_3 zp1
          obtain ⟨gx_0, gx_1, gx_2, gx_3⟩ := blk4 (HS6.out.blk (gx, #[.int .i64 0, .int .i64 0, .int .i64 0, .slice Ax 0 cx]) (List.mem_cons_of_mem _ (List.mem_cons_self ..)))
          have zgx : gx < Wgy.heap.size := blk_lt (HS6.out.blk (gx, #[.int .i64 0, .int .i64 0, .int .i64 0, .slice Ax 0 cx]) (List.mem_cons_of_mem _ (List.mem_cons_self ..)))
          obtain ⟨gy_0, gy_1, gy_2, gy_3⟩ := blk4 (HS6.out.blk (gy, #[.int .i64 0, .int .i64 0, .int .i64 0, .slice Ay 0 cy]) (List.mem_cons_self ..))
          have zgy : gy < Wgy.heap.size := blk_lt (HS6.out.blk (gy, #[.int .i64 0, .int .i64 0, .int .i64 0, .slice Ay 0 cy]) (List.mem_cons_self ..))
          go_wp2_with fail
          refine (solventref06_Same.calls k 0 0 0 Ax cx [] 0 0 0 Ay cy [] true _ (HS6.out.read (List.mem_cons_of_mem _ (List.mem_cons_self ..))) (HS6.out.cap (List.mem_cons_of_mem _ (List.mem_cons_self ..))) (HS6.out.read (List.mem_cons_self ..)) (HS6.out.cap (List.mem_cons_self ..)) S1.out).mono ?_
          rintro e u3 ⟨rfl, hb⟩
          have HS7 := Aside0.mk (HS6.out.next hb)
          clear HS6
          clear hb
          clear gx_0 gx_1 gx_2 gx_3 zgx
          clear gy_0 gy_1 gy_2 gy_3 zgy
          go_upto_region 13 with (fail)
          obtain ⟨p0_0, p0_1, p0_2, p0_3⟩ := blk4 (HS7.out.blk (p0, #[.int .i64 m, .int .i64 r, .int .i64 n, .slice A0 l0.length c0]) (List.mem_cons_of_mem _ (List.mem_cons_of_mem _ (List.mem_cons_of_mem _ (List.mem_cons_self ..)))))
          have zp0 : p0 < u3.heap.size := blk_lt (HS7.out.blk (p0, #[.int .i64 m, .int .i64 r, .int .i64 n, .slice A0 l0.length c0]) (List.mem_cons_of_mem _ (List.mem_cons_of_mem _ (List.mem_cons_of_mem _ (List.mem_cons_self ..)))))
          go_wp2_with fail
          refine (matrix_Transpose.calls m r n A0 c0 l0 m n r ta 0 _ (Kd.C_below HR0.out HS7.out.below) HC0.out Q3.out).mono ?_
          rintro e u4 ⟨v, rfl, ho, hb⟩
          obtain ⟨As, cs, rfl⟩ := Kd.R_slice ho
          replace ho : Kd.R (Kd.int .i64) 3 u4 _ (fun _ => True) (.slice As (ta).length cs) ta := ho
          have HS8 := Aside0.mk ((HS7.out.next hb).got ho HS7.out.below.size)
          clear HS7
          clear hb ho
          go_upto_region 14 with (fail)
          obtain ⟨gs, hgs⟩ : ∃ b, b = u4.heap.size := ⟨_, rfl⟩
          have HS9 := Aside0.mk (HS8.out.box gs hgs #[.int .i64 m, .int .i64 n, .int .i64 r, .slice As (ta).length cs])
          clear HS8
          rw [← hgs]
          generalize u4.alloc (.cells #[.int .i64 m, .int .i64 n, .int .i64 r, .slice As (ta).length cs] 24 (0, 0)) = Wgs at HS9 ⊢
          clear hgs
          clear p0_0 p0_1 p0_2 p0_3 zp0
          obtain ⟨p1_0, p1_1, p1_2, p1_3⟩ := blk4 (HS9.out.blk (p1, #[.int .i64 m, .int .i64 r, .int .i64 d, .slice A1 l1.length c1]) (List.mem_cons_of_mem _ (List.mem_cons_of_mem _ (List.mem_cons_of_mem _ (List.mem_cons_self ..)))))
          have zp1 : p1 < Wgs.heap.size := blk_lt (HS9.out.blk (p1, #[.int .i64 m, .int .i64 r, .int .i64 d, .slice A1 l1.length c1]) (List.mem_cons_of_mem _ (List.mem_cons_of_mem _ (List.mem_cons_of_mem _ (List.mem_cons_self ..)))))
          go_wp2_with fail
          refine (matrix_Transpose.calls m r d A1 c1 l1 m d r tb 0 _ (Kd.C_below HR1.out HS9.out.below) HC1.out Q4.out).mono ?_
          rintro e u5 ⟨v, rfl, ho, hb⟩
          obtain ⟨At, ct, rfl⟩ := Kd.R_slice ho
          replace ho : Kd.R (Kd.int .i64) 3 u5 _ (fun _ => True) (.slice At (tb).length ct) tb := ho
          have HS10 := Aside0.mk ((HS9.out.next hb).got ho HS9.out.below.size)
          clear HS9
          clear hb ho
          go_upto_region 15 with (fail)
          obtain ⟨gt, hgt⟩ : ∃ b, b = u5.heap.size := ⟨_, rfl⟩
          have HS11 := Aside0.mk (HS10.out.box gt hgt #[.int .i64 m, .int .i64 d, .int .i64 r, .slice At (tb).length ct])
          clear HS10
          rw [← hgt]
          generalize u5.alloc (.cells #[.int .i64 m, .int .i64 d, .int .i64 r, .slice At (tb).length ct] 24 (0, 0)) = Wgt at HS11 ⊢
          clear hgt
          clear p1_0 p1_1 p1_2 p1_3 zp1
          go_upto_region 16 with (fail)
          obtain ⟨gs_0, gs_1, gs_2, gs_3⟩ := blk4 (HS11.out.blk (gs, #[.int .i64 m, .int .i64 n, .int .i64 r, .slice As (ta).length cs]) (List.mem_cons_of_mem _ (List.mem_cons_self ..)))
          have zgs : gs < Wgt.heap.size := blk_lt (HS11.out.blk (gs, #[.int .i64 m, .int .i64 n, .int .i64 r, .slice As (ta).length cs]) (List.mem_cons_of_mem _ (List.mem_cons_self ..)))
          have HT := Aside0.mk (HS11.out.read (List.mem_cons_of_mem _ (List.mem_cons_self ..)))
          go_upto_region 17 with (at_builtin; refine print_append_row (w0 := w) w.heap.size (by rfl) _ _ 22 3 .i64 8 (by rfl) Tryd.underlying22 info3i (by omega) (.slice none 0 0) [] ta As ta.length cs (by rfl) (by rfl) (own_nil _ _ _ _) (reads_of_kd HT.out) HS11.out.below HS11.out.below.size (by have h8 := Q8.out; simp only [List.length_nil]; omega) ?_; intro v1 w1 hown hbel hg hat; have HS90 := Aside0.mk (HS11.out.app0 hg hbel hown); clear hown hbel hg hat)
          clear HT HS11
          simp only [List.nil_append] at HS90
          clear gs_0 gs_1 gs_2 gs_3 zgs
          obtain ⟨gt_0, gt_1, gt_2, gt_3⟩ := blk4 (HS90.out.blk (gt, #[.int .i64 m, .int .i64 d, .int .i64 r, .slice At (tb).length ct]) (List.mem_cons_self ..))
          have zgt : gt < w1.heap.size := blk_lt (HS90.out.blk (gt, #[.int .i64 m, .int .i64 d, .int .i64 r, .slice At (tb).length ct]) (List.mem_cons_self ..))
          have HT := Aside0.mk (HS90.out.read (List.mem_cons_of_mem _ (List.mem_cons_self ..)))
          have HO := Aside0.mk (Kd.own_of_R (HS90.out.rd (v1, ta) (List.mem_cons_self ..)))
          go_upto_region 18 with (at_builtin; refine print_append_row (w0 := w) w.heap.size (by rfl) _ _ 22 3 .i64 8 (by rfl) Tryd.underlying22 info3i (by omega) v1 ta tb At tb.length ct (by rfl) (by rfl) HO.out (reads_of_kd HT.out) HS90.out.below HS90.out.below.size (by have := Q8.out; have := Q9.out; omega) ?_; intro v2 w2 hown hbel hg hat; have HS91 := Aside0.mk (HS90.out.app (List.mem_cons_self ..) hg hbel hown); clear hown hbel hg hat)
          clear HT HO HS90 gt_0 gt_1 gt_2 gt_3 zgt
          obtain ⟨cl, hcl⟩ : ∃ x, ta ++ tb = x := ⟨_, rfl⟩
          rw [hcl] at HS91 Q5
          clear hcl
          have hS : Kd.R (Kd.int .i64) 3 w2 w.heap.size (fun _ => True) v2 cl := HS91.out.rd (v2, cl) (List.mem_cons_self ..)
          obtain ⟨Av, cv, rfl⟩ := Kd.R_slice hS
          clear hS
          have e4 := E4.out
          have e1 := E1.out
          go_upto_region 18 with (fail)
          have HL := HS91
          clear HS91
          have HC := Aside0.mk (show ∀ W, San w W [(gt, #[.int .i64 m, .int .i64 d, .int .i64 r, .slice At (tb).length ct]), (gs, #[.int .i64 m, .int .i64 n, .int .i64 r, .slice As (ta).length cs]), (gy, #[.int .i64 0, .int .i64 0, .int .i64 0, .slice Ay 0 cy]), (gx, #[.int .i64 0, .int .i64 0, .int .i64 0, .slice Ax 0 cx]), (p1, #[.int .i64 m, .int .i64 r, .int .i64 d, .slice A1 l1.length c1]), (p0, #[.int .i64 m, .int .i64 r, .int .i64 n, .slice A0 l0.length c0])] [((.slice Av cl.length cv), cl)] → W.cell? ⟨p0, 0, none⟩ = some (.int .i64 m) ∧ W.cell? ⟨p0, 1, none⟩ = some (.int .i64 r) ∧ W.cell? ⟨p0, 2, none⟩ = some (.int .i64 n) ∧ W.cell? ⟨p0, 3, none⟩ = some (.slice A0 l0.length c0) ∧ W.cell? ⟨gs, 0, none⟩ = some (.int .i64 m) ∧ W.cell? ⟨gs, 1, none⟩ = some (.int .i64 n) ∧ W.cell? ⟨gs, 2, none⟩ = some (.int .i64 r) ∧ W.cell? ⟨gs, 3, none⟩ = some (.slice As (ta).length cs) ∧ W.cell? ⟨gt, 0, none⟩ = some (.int .i64 m) ∧ W.cell? ⟨gt, 1, none⟩ = some (.int .i64 d) ∧ W.cell? ⟨gt, 2, none⟩ = some (.int .i64 r) ∧ W.cell? ⟨gt, 3, none⟩ = some (.slice At (tb).length ct) from fun W h => by
            obtain ⟨p00, p01, p02, p03⟩ := blk4 (h.blk (p0, #[.int .i64 m, .int .i64 r, .int .i64 n, .slice A0 l0.length c0]) (List.mem_cons_of_mem _ (List.mem_cons_of_mem _ (List.mem_cons_of_mem _ (List.mem_cons_of_mem _ (List.mem_cons_of_mem _ (List.mem_cons_self ..)))))))
            obtain ⟨gs0, gs1, gs2, gs3⟩ := blk4 (h.blk (gs, #[.int .i64 m, .int .i64 n, .int .i64 r, .slice As (ta).length cs]) (List.mem_cons_of_mem _ (List.mem_cons_self ..)))
            obtain ⟨gt0, gt1, gt2, gt3⟩ := blk4 (h.blk (gt, #[.int .i64 m, .int .i64 d, .int .i64 r, .slice At (tb).length ct]) (List.mem_cons_self ..))
            exact ⟨p00, p01, p02, p03, gs0, gs1, gs2, gs3, gt0, gt1, gt2, gt3⟩)
          go_region_held3 (fun w' => w'.cell? ⟨p0, 0, none⟩ = some (.int .i64 m) ∧ w'.cell? ⟨p0, 1, none⟩ = some (.int .i64 r) ∧ w'.cell? ⟨p0, 2, none⟩ = some (.int .i64 n) ∧ w'.cell? ⟨p0, 3, none⟩ = some (.slice A0 l0.length c0) ∧ w'.cell? ⟨gs, 0, none⟩ = some (.int .i64 m) ∧ w'.cell? ⟨gs, 1, none⟩ = some (.int .i64 n) ∧ w'.cell? ⟨gs, 2, none⟩ = some (.int .i64 r) ∧ w'.cell? ⟨gs, 3, none⟩ = some (.slice As (ta).length cs) ∧ w'.cell? ⟨gt, 0, none⟩ = some (.int .i64 m) ∧ w'.cell? ⟨gt, 1, none⟩ = some (.int .i64 d) ∧ w'.cell? ⟨gt, 2, none⟩ = some (.int .i64 r) ∧ w'.cell? ⟨gt, 3, none⟩ = some (.slice At (tb).length ct)) (first | exact HC.out _ HL.out | exact HC.out _ HL.out.drew) (first | (go_at_call 14; (with_reducible refine (solventlaw06_sanity.calls k true _ (FF.below HF.out HL.out.below) rfl).mono ?_); rintro e z ⟨rfl, hb⟩; have HN := Aside0.mk (HL.out.next hb); clear HL hb; have HL := HN; clear HN) | (go_at_call 14; (with_reducible refine (solventlaw06_sanity.calls k true _ (FF.below HF.out HL.out.drew.below) rfl).mono ?_); rintro e z ⟨rfl, hb⟩; have HN := Aside0.mk (HL.out.drew.next hb); clear HL hb; have HL := HN; clear HN) | (go_at_call 21; (with_reducible refine (of_calls m ((n : Int) + (d : Int)) r Av cl.length cv _).mono ?_); rintro e z ⟨rfl, hb⟩; have HN := Aside0.mk (HL.out.next hb); clear HL hb; have HL := HN; clear HN) | (go_at_call 21; (with_reducible refine (of_calls m ((n : Int) + (d : Int)) r Av cl.length cv _).mono ?_); rintro e z ⟨rfl, hb⟩; have HN := Aside0.mk (HL.out.drew.next hb); clear HL hb; have HL := HN; clear HN) | (go_at_call 20; (with_reducible refine (matrix_Rank.calls k m ((n : Int) + (d : Int)) r Av cv cl rs _ (FF.below HF.out HL.out.below) (HL.out.read (List.mem_cons_self ..)) (HL.out.cap (List.mem_cons_self ..)) Q5.out).mono ?_); rintro e z ⟨rfl, hb⟩; have HN := Aside0.mk (HL.out.next hb); clear HL hb; have HL := HN; clear HN) | (go_at_call 20; (with_reducible refine (matrix_Rank.calls k m ((n : Int) + (d : Int)) r Av cv cl rs _ (FF.below HF.out HL.out.drew.below) (HL.out.drew.read (List.mem_cons_self ..)) (HL.out.drew.cap (List.mem_cons_self ..)) Q5.out).mono ?_); rintro e z ⟨rfl, hb⟩; have HN := Aside0.mk (HL.out.drew.next hb); clear HL hb; have HL := HN; clear HN) | (go_at_call 20; (with_reducible refine (matrix_Rank.calls k m r n A0 c0 l0 rk _ (FF.below HF.out HL.out.below) (Kd.C_below HR0.out HL.out.below) HC0.out Q6.out).mono ?_); rintro e z ⟨rfl, hb⟩; have HN := Aside0.mk (HL.out.next hb); clear HL hb; have HL := HN; clear HN) | (go_at_call 20; (with_reducible refine (matrix_Rank.calls k m r n A0 c0 l0 rk _ (FF.below HF.out HL.out.drew.below) (Kd.C_below HR0.out HL.out.drew.below) HC0.out Q6.out).mono ?_); rintro e z ⟨rfl, hb⟩; have HN := Aside0.mk (HL.out.drew.next hb); clear HL hb; have HL := HN; clear HN))
          all_goals
            go_wp2
            go_ret
            exact ⟨rfl, HL.out.below⟩
end Go.Proofs.YtfigcmmmpndpjaaDoor.H

/- Jb. -/
import Derived.Test.YtfigcmmmpndpjaaDoorQv
import Derived.Test.YtfigcmmmpndpjaaDoorHz
/- MatrixInverts: the law walked. -/
namespace Go.Proofs.YtfigcmmmpndpjaaDoor.H
open Go.RowKit Go.Proofs.YtfigcmmmpndpjaaDoorW.PrintWords Go.Proofs.YtfigcmmmpndpjaaDoorW.PrintLast Go.Proofs.YtfigcmmmpndpjaaDoorW.PrintMore Go.Proofs.YtfigcmmmpndpjaaDoor.P
set_option linter.unusedVariables false
set_option linter.unusedSimpArgs false
set_option maxRecDepth 100000 in
set_option maxHeartbeats 16000000 in
theorem inverts_calls (a0_0 a0_1 a0_2 : Int) (A0 : Option Addr) (c0 : Nat) (l0 : List Int) (w : World) (hff : FF w) (r0 : Kd.C (Kd.int .i64) w A0 l0.length l0) (m0 : l0.length ≤ c0) :
    Calls Tryd.prog 5 #[.agg #[.int .i64 a0_0, .int .i64 a0_1, .int .i64 a0_2, .slice A0 l0.length c0]] w fun e w' => e = .returned (.bool true) ∧ Below w.heap.size w w' := by
  have HF := Aside0.mk hff
  have HR0 := Aside0.mk r0
  have HC0 := Aside0.mk m0
  obtain ⟨k, hk⟩ := big
  have HS0 := Aside0.mk (San.start w)
  clear hff r0 m0
  go_enter Tryd.func5, Tryd.ntmps5
  go_upto_region 1 with (fail)
  obtain ⟨p0, hp0⟩ : ∃ b, b = w.heap.size := ⟨_, rfl⟩
  have HS1 := Aside0.mk (HS0.out.box p0 hp0 #[.int .i64 a0_0, .int .i64 a0_1, .int .i64 a0_2, .slice A0 l0.length c0])
  rw [← hp0]
  generalize w.alloc (.cells #[.int .i64 a0_0, .int .i64 a0_1, .int .i64 a0_2, .slice A0 l0.length c0] 24 (0, 0)) = W0 at HS1 ⊢
  clear hp0 HS0
  go_cut [3] (fun v3 wc => ∃ ok : Bool, v3 = .bool ok ∧ (ok = true → validB a0_0 a0_1 a0_2 l0 = true) ∧ Aside0 (San w wc [(p0, #[.int .i64 a0_0, .int .i64 a0_1, .int .i64 a0_2, .slice A0 l0.length c0])] []))
  case first =>
    obtain ⟨s0, h0⟩ : ∃ s, solventlaw06_small.f a0_0 a0_1 a0_2 l0 = some s := ⟨_, small_is _ _ _ _⟩
    obtain ⟨p0_0, p0_1, p0_2, p0_3⟩ := blk4 (HS1.out.blk (p0, #[.int .i64 a0_0, .int .i64 a0_1, .int .i64 a0_2, .slice A0 l0.length c0]) (List.mem_cons_self ..))
    have zp0 : p0 < W0.heap.size := blk_lt (HS1.out.blk (p0, #[.int .i64 a0_0, .int .i64 a0_1, .int .i64 a0_2, .slice A0 l0.length c0]) (List.mem_cons_self ..))
    cases s0 with
    | false =>
      go_wp2_with fail
      refine (solventlaw06_small.calls a0_0 a0_1 a0_2 A0 c0 l0 false _ (Kd.C_below HR0.out HS1.out.below) HC0.out h0).mono ?_
      rintro e u0 ⟨rfl, hb⟩
      have HS2 := Aside0.mk (HS1.out.next hb)
      clear HS1
      clear hb
      go_wp2
      go_meet
      case rel => exact ⟨false, rfl, (fun h => by cases h), HS2⟩
    | true =>
      go_wp2_with fail
      refine (solventlaw06_small.calls a0_0 a0_1 a0_2 A0 c0 l0 true _ (Kd.C_below HR0.out HS1.out.below) HC0.out h0).mono ?_
      rintro e u0 ⟨rfl, hb⟩
      have HS2 := Aside0.mk (HS1.out.next hb)
      clear HS1
      clear hb
      obtain ⟨p0_0, p0_1, p0_2, p0_3⟩ := blk4 (HS2.out.blk (p0, #[.int .i64 a0_0, .int .i64 a0_1, .int .i64 a0_2, .slice A0 l0.length c0]) (List.mem_cons_self ..))
      have zp0 : p0 < u0.heap.size := blk_lt (HS2.out.blk (p0, #[.int .i64 a0_0, .int .i64 a0_1, .int .i64 a0_2, .slice A0 l0.length c0]) (List.mem_cons_self ..))
      go_wp2_with fail
      refine (solventref06_Valid.calls k a0_0 a0_1 a0_2 A0 c0 l0 _ _ (Kd.C_below HR0.out HS2.out.below) HC0.out (valid_eq k (by omega) _ _ _ _)).mono ?_
      rintro e u1 ⟨rfl, hb⟩
      have HS3 := Aside0.mk (HS2.out.next hb)
      clear HS2
      clear hb
      go_wp2
      go_meet
      case rel => exact ⟨validB a0_0 a0_1 a0_2 l0, rfl, id, HS3⟩
  case rest =>
    obtain ⟨ok, rfl, hok, HS2⟩ := hcut
    clear HS1
    by_cases hall : ok = true ∧ a0_1 = a0_2
    case neg =>
      have hz : ok = false ∨ (ok = true ∧ (a0_1 != a0_2) = true) := by
        cases ok
        · exact .inl rfl
        · exact .inr ⟨rfl, by simpa using hall⟩
      clear hall hok
      obtain ⟨p0_0, p0_1, p0_2, p0_3⟩ := blk4 (HS2.out.blk (p0, #[.int .i64 a0_0, .int .i64 a0_1, .int .i64 a0_2, .slice A0 l0.length c0]) (List.mem_cons_self ..))
      have zp0 : p0 < wc.heap.size := blk_lt (HS2.out.blk (p0, #[.int .i64 a0_0, .int .i64 a0_1, .int .i64 a0_2, .slice A0 l0.length c0]) (List.mem_cons_self ..))
      rcases hz with rfl | ⟨rfl, e1⟩
      all_goals
        go_wp2_with fail
        refine (solventlaw06_sanity.calls k true _ (FF.below HF.out HS2.out.below) rfl).mono ?_
        rintro e u3 ⟨rfl, hb⟩
        have HS3 := Aside0.mk (HS2.out.next hb)
        clear HS2
        clear hb
        go_wp2
        go_ret
        exact ⟨rfl, HS3.out.below⟩
    case pos =>
      obtain ⟨rfl, e0⟩ := hall
      have hv := hok rfl
      clear hok
      obtain ⟨m, n, n', rfl, rfl, rfl, M0⟩ := Mat.open hv
      obtain rfl : n = n' := by omega
      clear hv e0
      obtain ⟨k, rfl⟩ : ∃ j, k = j + 1 := ⟨k - 1, by omega⟩
      by_cases hr : rankN m n n l0 = n
      case neg =>
        have hlt : rankN m n n l0 < n := by have := rank_le M0; omega
        have Q1 := Aside0.mk (inverse_no k M0 hlt)
        have Q2 := Aside0.mk (rank_at k M0)
        obtain ⟨rk, hrk⟩ : ∃ x, x = rankN m n n l0 := ⟨_, rfl⟩
        rw [← hrk] at Q2 hlt
        clear hr hrk M0 hk
        have e1 : ((rk : Int) < (n : Int)) := by omega
        have e2 : decide ((rk : Int) < (n : Int)) = true := decide_eq_true e1
        clear hlt
        obtain ⟨p0_0, p0_1, p0_2, p0_3⟩ := blk4 (HS2.out.blk (p0, #[.int .i64 m, .int .i64 n, .int .i64 n, .slice A0 l0.length c0]) (List.mem_cons_self ..))
        have zp0 : p0 < wc.heap.size := blk_lt (HS2.out.blk (p0, #[.int .i64 m, .int .i64 n, .int .i64 n, .slice A0 l0.length c0]) (List.mem_cons_self ..))
        go_wp2_with fail
        refine (matrix_Inverse.calls (k + 1) m n n A0 c0 l0 0 0 0 [] 10 _ (FF.below HF.out HS2.out.below) (Kd.C_below HR0.out HS2.out.below) HC0.out Q1.out).mono ?_
        rintro e u4 ⟨v, rfl, ho, hb⟩
        obtain ⟨Ax, cx, rfl⟩ := Kd.R_slice ho
        replace ho : Kd.R (Kd.int .i64) 3 u4 _ (fun _ => True) (.slice Ax 0 cx) [] := ho
        have HS3 := Aside0.mk ((HS2.out.next hb).got ho HS2.out.below.size)
        clear HS2
        clear hb ho
        go_upto_region 5 with (fail)
        obtain ⟨gx, hgx⟩ : ∃ b, b = u4.heap.size := ⟨_, rfl⟩
        have HS4 := Aside0.mk (HS3.out.box gx hgx #[.int .i64 0, .int .i64 0, .int .i64 0, .slice Ax 0 cx])
        clear HS3
        rw [← hgx]
        generalize u4.alloc (.cells #[.int .i64 0, .int .i64 0, .int .i64 0, .slice Ax 0 cx] 24 (0, 0)) = Wgx at HS4 ⊢
        clear hgx
        clear p0_0 p0_1 p0_2 p0_3 zp0
        go_upto_region 6 with (fail)
        have HL := HS4
        clear HS4
        have HC := Aside0.mk (show ∀ W, San w W [(gx, #[.int .i64 0, .int .i64 0, .int .i64 0, .slice Ax 0 cx]), (p0, #[.int .i64 m, .int .i64 n, .int .i64 n, .slice A0 l0.length c0])] [((.slice Ax 0 cx), [])] → W.cell? ⟨p0, 0, none⟩ = some (.int .i64 m) ∧ W.cell? ⟨p0, 1, none⟩ = some (.int .i64 n) ∧ W.cell? ⟨p0, 2, none⟩ = some (.int .i64 n) ∧ W.cell? ⟨p0, 3, none⟩ = some (.slice A0 l0.length c0) from fun W h => by
          obtain ⟨p00, p01, p02, p03⟩ := blk4 (h.blk (p0, #[.int .i64 m, .int .i64 n, .int .i64 n, .slice A0 l0.length c0]) (List.mem_cons_of_mem _ (List.mem_cons_self ..)))
          exact ⟨p00, p01, p02, p03⟩)
        go_region_held3 (fun w' => w'.cell? ⟨p0, 0, none⟩ = some (.int .i64 m) ∧ w'.cell? ⟨p0, 1, none⟩ = some (.int .i64 n) ∧ w'.cell? ⟨p0, 2, none⟩ = some (.int .i64 n) ∧ w'.cell? ⟨p0, 3, none⟩ = some (.slice A0 l0.length c0)) (first | exact HC.out _ HL.out | exact HC.out _ HL.out.drew) (first | (go_at_call 14; (with_reducible refine (solventlaw06_sanity.calls k true _ (FF.below HF.out HL.out.below) rfl).mono ?_); rintro e z ⟨rfl, hb⟩; have HN := Aside0.mk (HL.out.next hb); clear HL hb; have HL := HN; clear HN) | (go_at_call 14; (with_reducible refine (solventlaw06_sanity.calls k true _ (FF.below HF.out HL.out.drew.below) rfl).mono ?_); rintro e z ⟨rfl, hb⟩; have HN := Aside0.mk (HL.out.drew.next hb); clear HL hb; have HL := HN; clear HN) | (go_at_call 20; (with_reducible refine (matrix_Rank.calls k m n n A0 c0 l0 rk _ (FF.below HF.out HL.out.below) (Kd.C_below HR0.out HL.out.below) HC0.out Q2.out).mono ?_); rintro e z ⟨rfl, hb⟩; have HN := Aside0.mk (HL.out.next hb); clear HL hb; have HL := HN; clear HN) | (go_at_call 20; (with_reducible refine (matrix_Rank.calls k m n n A0 c0 l0 rk _ (FF.below HF.out HL.out.drew.below) (Kd.C_below HR0.out HL.out.drew.below) HC0.out Q2.out).mono ?_); rintro e z ⟨rfl, hb⟩; have HN := Aside0.mk (HL.out.drew.next hb); clear HL hb; have HL := HN; clear HN))
        all_goals
          go_wp2
          go_ret
          exact ⟨rfl, HL.out.below⟩
      case pos =>
        obtain ⟨x, hx⟩ : ∃ x, x = invL m n l0 := ⟨_, rfl⟩
        obtain ⟨i, hi⟩ : ∃ x, x = idL n := ⟨_, rfl⟩
        have Mx_ : Mat m n n x := hx ▸ inv_mat M0
        have hrx : rankN m n n x = n := hx ▸ inv_rank M0 hr
        have Q1 := Aside0.mk (inverse_at k M0 hr)
        have Q2 := Aside0.mk ((ident_eq (k + 3000) (by omega) m n).trans (ident_at M0.ok M0.hr))
        have Q3 := Aside0.mk (mul_at k M0 Mx_)
        have Q4 := Aside0.mk (mul_at k Mx_ M0)
        have Q5 := Aside0.mk (inverse_at k Mx_ hrx)
        have Q6 := Aside0.mk (rank_at k M0)
        rw [hr] at Q6
        rw [show mulL m n n n l0 x = i by rw [hx, hi]; exact inv_right M0 hr] at Q3
        rw [show mulL m n n n x l0 = i by rw [hx, hi]; exact inv_left M0 hr] at Q4
        rw [show invL m n x = l0 by rw [hx]; exact inv_back M0 hr] at Q5
        rw [← hx] at Q1
        rw [← hi] at Q2
        have S1 := Aside0.mk (same_rfl (k := k) (by omega) (m := m) (r := n) (c := n) (l := i) (l' := i) (by have := (id_mat (n := n) M0.ok M0.hr).max; rw [hi]; omega) rfl rfl rfl rfl)
        have S2 := Aside0.mk (same_rfl (k := k) (by omega) (m := m) (r := n) (c := n) (l := l0) (l' := l0) (by have := M0.max; omega) rfl rfl rfl rfl)
        clear hx hi M0 Mx_ hrx hr hk
        obtain ⟨p0_0, p0_1, p0_2, p0_3⟩ := blk4 (HS2.out.blk (p0, #[.int .i64 m, .int .i64 n, .int .i64 n, .slice A0 l0.length c0]) (List.mem_cons_self ..))
        have zp0 : p0 < wc.heap.size := blk_lt (HS2.out.blk (p0, #[.int .i64 m, .int .i64 n, .int .i64 n, .slice A0 l0.length c0]) (List.mem_cons_self ..))
        go_wp2_with fail
        refine (matrix_Inverse.calls (k + 1) m n n A0 c0 l0 m n n x 0 _ (FF.below HF.out HS2.out.below) (Kd.C_below HR0.out HS2.out.below) HC0.out Q1.out).mono ?_
        rintro e u4 ⟨v, rfl, ho, hb⟩
        obtain ⟨Ax, cx, rfl⟩ := Kd.R_slice ho
        replace ho : Kd.R (Kd.int .i64) 3 u4 _ (fun _ => True) (.slice Ax (x).length cx) x := ho
        have HS3 := Aside0.mk ((HS2.out.next hb).got ho HS2.out.below.size)
        clear HS2
        clear hb ho
        go_upto_region 5 with (fail)
        obtain ⟨gx, hgx⟩ : ∃ b, b = u4.heap.size := ⟨_, rfl⟩
        have HS4 := Aside0.mk (HS3.out.box gx hgx #[.int .i64 m, .int .i64 n, .int .i64 n, .slice Ax (x).length cx])
        clear HS3
        rw [← hgx]
        generalize u4.alloc (.cells #[.int .i64 m, .int .i64 n, .int .i64 n, .slice Ax (x).length cx] 24 (0, 0)) = Wgx at HS4 ⊢
        clear hgx
        go_upto_region 7 with (fail)
        obtain ⟨p0_0, p0_1, p0_2, p0_3⟩ := blk4 (HS4.out.blk (p0, #[.int .i64 m, .int .i64 n, .int .i64 n, .slice A0 l0.length c0]) (List.mem_cons_of_mem _ (List.mem_cons_self ..)))
        have zp0 : p0 < Wgx.heap.size := blk_lt (HS4.out.blk (p0, #[.int .i64 m, .int .i64 n, .int .i64 n, .slice A0 l0.length c0]) (List.mem_cons_of_mem _ (List.mem_cons_self ..)))
        go_wp2_with fail
        refine (solventref06_Identity.calls (k + 3000) m n m n n i 0 _ Q2.out).mono ?_
        rintro e u5 ⟨v, rfl, ho, hb⟩
        obtain ⟨Ai, ci, rfl⟩ := Kd.R_slice ho
        replace ho : Kd.R (Kd.int .i64) 3 u5 _ (fun _ => True) (.slice Ai (i).length ci) i := ho
        have HS5 := Aside0.mk ((HS4.out.next hb).got ho HS4.out.below.size)
        clear HS4
        clear hb ho
        go_upto_region 8 with (fail)
        obtain ⟨gi, hgi⟩ : ∃ b, b = u5.heap.size := ⟨_, rfl⟩
        have HS6 := Aside0.mk (HS5.out.box gi hgi #[.int .i64 m, .int .i64 n, .int .i64 n, .slice Ai (i).length ci])
        clear HS5
        rw [← hgi]
        generalize u5.alloc (.cells #[.int .i64 m, .int .i64 n, .int .i64 n, .slice Ai (i).length ci] 24 (0, 0)) = Wgi at HS6 ⊢
        clear hgi
        obtain ⟨p0_0, p0_1, p0_2, p0_3⟩ := blk4 (HS6.out.blk (p0, #[.int .i64 m, .int .i64 n, .int .i64 n, .slice A0 l0.length c0]) (List.mem_cons_of_mem _ (List.mem_cons_of_mem _ (List.mem_cons_self ..))))
        have zp0 : p0 < Wgi.heap.size := blk_lt (HS6.out.blk (p0, #[.int .i64 m, .int .i64 n, .int .i64 n, .slice A0 l0.length c0]) (List.mem_cons_of_mem _ (List.mem_cons_of_mem _ (List.mem_cons_self ..))))
        obtain ⟨gx_0, gx_1, gx_2, gx_3⟩ := blk4 (HS6.out.blk (gx, #[.int .i64 m, .int .i64 n, .int .i64 n, .slice Ax (x).length cx]) (List.mem_cons_of_mem _ (List.mem_cons_self ..)))
        have zgx : gx < Wgi.heap.size := blk_lt (HS6.out.blk (gx, #[.int .i64 m, .int .i64 n, .int .i64 n, .slice Ax (x).length cx]) (List.mem_cons_of_mem _ (List.mem_cons_self ..)))
        go_wp2_with fail
        refine (matrix_Mul.calls k m n n A0 c0 l0 m n n Ax cx x m n n i 0 _ (FF.below HF.out HS6.out.below) (Kd.C_below HR0.out HS6.out.below) HC0.out (HS6.out.read (List.mem_cons_of_mem _ (List.mem_cons_self ..))) (HS6.out.cap (List.mem_cons_of_mem _ (List.mem_cons_self ..))) Q3.out).mono ?_
        rintro e u6 ⟨v, rfl, ho, hb⟩
        obtain ⟨Ap, cp, rfl⟩ := Kd.R_slice ho
        replace ho : Kd.R (Kd.int .i64) 3 u6 _ (fun _ => True) (.slice Ap (i).length cp) i := ho
        have HS7 := Aside0.mk ((HS6.out.next hb).got ho HS6.out.below.size)
        clear HS6
        clear hb ho
        go_upto_region 9 with (fail)
        obtain ⟨gp, hgp⟩ : ∃ b, b = u6.heap.size := ⟨_, rfl⟩
        have HS8 := Aside0.mk (HS7.out.box gp hgp #[.int .i64 m, .int .i64 n, .int .i64 n, .slice Ap (i).length cp])
        clear HS7
        rw [← hgp]
        generalize u6.alloc (.cells #[.int .i64 m, .int .i64 n, .int .i64 n, .slice Ap (i).length cp] 24 (0, 0)) = Wgp at HS8 ⊢
        clear hgp
        obtain ⟨p0_0, p0_1, p0_2, p0_3⟩ := blk4 (HS8.out.blk (p0, #[.int .i64 m, .int .i64 n, .int .i64 n, .slice A0 l0.length c0]) (List.mem_cons_of_mem _ (List.mem_cons_of_mem _ (List.mem_cons_of_mem _ (List.mem_cons_self ..)))))
        have zp0 : p0 < Wgp.heap.size := blk_lt (HS8.out.blk (p0, #[.int .i64 m, .int .i64 n, .int .i64 n, .slice A0 l0.length c0]) (List.mem_cons_of_mem _ (List.mem_cons_of_mem _ (List.mem_cons_of_mem _ (List.mem_cons_self ..)))))
        obtain ⟨gx_0, gx_1, gx_2, gx_3⟩ := blk4 (HS8.out.blk (gx, #[.int .i64 m, .int .i64 n, .int .i64 n, .slice Ax (x).length cx]) (List.mem_cons_of_mem _ (List.mem_cons_of_mem _ (List.mem_cons_self ..))))
        have zgx : gx < Wgp.heap.size := blk_lt (HS8.out.blk (gx, #[.int .i64 m, .int .i64 n, .int .i64 n, .slice Ax (x).length cx]) (List.mem_cons_of_mem _ (List.mem_cons_of_mem _ (List.mem_cons_self ..))))
        go_wp2_with fail
        refine (matrix_Mul.calls k m n n Ax cx x m n n A0 c0 l0 m n n i 0 _ (FF.below HF.out HS8.out.below) (HS8.out.read (List.mem_cons_of_mem _ (List.mem_cons_of_mem _ (List.mem_cons_self ..)))) (HS8.out.cap (List.mem_cons_of_mem _ (List.mem_cons_of_mem _ (List.mem_cons_self ..)))) (Kd.C_below HR0.out HS8.out.below) HC0.out Q4.out).mono ?_
        rintro e u7 ⟨v, rfl, ho, hb⟩
        obtain ⟨Aq, cq, rfl⟩ := Kd.R_slice ho
        replace ho : Kd.R (Kd.int .i64) 3 u7 _ (fun _ => True) (.slice Aq (i).length cq) i := ho
        have HS9 := Aside0.mk ((HS8.out.next hb).got ho HS8.out.below.size)
        clear HS8
        clear hb ho
        go_upto_region 10 with (fail)
        obtain ⟨gq, hgq⟩ : ∃ b, b = u7.heap.size := ⟨_, rfl⟩
        have HS10 := Aside0.mk (HS9.out.box gq hgq #[.int .i64 m, .int .i64 n, .int .i64 n, .slice Aq (i).length cq])
        clear HS9
        rw [← hgq]
        generalize u7.alloc (.cells #[.int .i64 m, .int .i64 n, .int .i64 n, .slice Aq (i).length cq] 24 (0, 0)) = Wgq at HS10 ⊢
        clear hgq
        obtain ⟨gx_0, gx_1, gx_2, gx_3⟩ := blk4 (HS10.out.blk (gx, #[.int .i64 m, .int .i64 n, .int .i64 n, .slice Ax (x).length cx]) (List.mem_cons_of_mem _ (List.mem_cons_of_mem _ (List.mem_cons_of_mem _ (List.mem_cons_self ..)))))
        have zgx : gx < Wgq.heap.size := blk_lt (HS10.out.blk (gx, #[.int .i64 m, .int .i64 n, .int .i64 n, .slice Ax (x).length cx]) (List.mem_cons_of_mem _ (List.mem_cons_of_mem _ (List.mem_cons_of_mem _ (List.mem_cons_self ..)))))
        go_wp2_with fail
        refine (matrix_Inverse.calls (k + 1) m n n Ax cx x m n n l0 0 _ (FF.below HF.out HS10.out.below) (HS10.out.read (List.mem_cons_of_mem _ (List.mem_cons_of_mem _ (List.mem_cons_of_mem _ (List.mem_cons_self ..))))) (HS10.out.cap (List.mem_cons_of_mem _ (List.mem_cons_of_mem _ (List.mem_cons_of_mem _ (List.mem_cons_self ..))))) Q5.out).mono ?_
        rintro e u8 ⟨v, rfl, ho, hb⟩
        obtain ⟨Ay, cy, rfl⟩ := Kd.R_slice ho
        replace ho : Kd.R (Kd.int .i64) 3 u8 _ (fun _ => True) (.slice Ay (l0).length cy) l0 := ho
        have HS11 := Aside0.mk ((HS10.out.next hb).got ho HS10.out.below.size)
        clear HS10
        clear hb ho
        go_upto_region 11 with (fail)
        obtain ⟨gy, hgy⟩ : ∃ b, b = u8.heap.size := ⟨_, rfl⟩
        have HS12 := Aside0.mk (HS11.out.box gy hgy #[.int .i64 m, .int .i64 n, .int .i64 n, .slice Ay (l0).length cy])
        clear HS11
        rw [← hgy]
        generalize u8.alloc (.cells #[.int .i64 m, .int .i64 n, .int .i64 n, .slice Ay (l0).length cy] 24 (0, 0)) = Wgy at HS12 ⊢
        clear hgy
        clear p0_0 p0_1 p0_2 p0_3 zp0 gx_0 gx_1 gx_2 gx_3 zgx
        go_upto_region 11 with (fail)
        have HL := HS12
        clear HS12
        have HC := Aside0.mk (show ∀ W, San w W [(gy, #[.int .i64 m, .int .i64 n, .int .i64 n, .slice Ay (l0).length cy]), (gq, #[.int .i64 m, .int .i64 n, .int .i64 n, .slice Aq (i).length cq]), (gp, #[.int .i64 m, .int .i64 n, .int .i64 n, .slice Ap (i).length cp]), (gi, #[.int .i64 m, .int .i64 n, .int .i64 n, .slice Ai (i).length ci]), (gx, #[.int .i64 m, .int .i64 n, .int .i64 n, .slice Ax (x).length cx]), (p0, #[.int .i64 m, .int .i64 n, .int .i64 n, .slice A0 l0.length c0])] [((.slice Ay (l0).length cy), l0), ((.slice Aq (i).length cq), i), ((.slice Ap (i).length cp), i), ((.slice Ai (i).length ci), i), ((.slice Ax (x).length cx), x)] → W.cell? ⟨p0, 0, none⟩ = some (.int .i64 m) ∧ W.cell? ⟨p0, 1, none⟩ = some (.int .i64 n) ∧ W.cell? ⟨p0, 2, none⟩ = some (.int .i64 n) ∧ W.cell? ⟨p0, 3, none⟩ = some (.slice A0 l0.length c0) ∧ W.cell? ⟨gi, 0, none⟩ = some (.int .i64 m) ∧ W.cell? ⟨gi, 1, none⟩ = some (.int .i64 n) ∧ W.cell? ⟨gi, 2, none⟩ = some (.int .i64 n) ∧ W.cell? ⟨gi, 3, none⟩ = some (.slice Ai (i).length ci) ∧ W.cell? ⟨gp, 0, none⟩ = some (.int .i64 m) ∧ W.cell? ⟨gp, 1, none⟩ = some (.int .i64 n) ∧ W.cell? ⟨gp, 2, none⟩ = some (.int .i64 n) ∧ W.cell? ⟨gp, 3, none⟩ = some (.slice Ap (i).length cp) ∧ W.cell? ⟨gq, 0, none⟩ = some (.int .i64 m) ∧ W.cell? ⟨gq, 1, none⟩ = some (.int .i64 n) ∧ W.cell? ⟨gq, 2, none⟩ = some (.int .i64 n) ∧ W.cell? ⟨gq, 3, none⟩ = some (.slice Aq (i).length cq) ∧ W.cell? ⟨gy, 0, none⟩ = some (.int .i64 m) ∧ W.cell? ⟨gy, 1, none⟩ = some (.int .i64 n) ∧ W.cell? ⟨gy, 2, none⟩ = some (.int .i64 n) ∧ W.cell? ⟨gy, 3, none⟩ = some (.slice Ay (l0).length cy) from fun W h => by
          obtain ⟨p00, p01, p02, p03⟩ := blk4 (h.blk (p0, #[.int .i64 m, .int .i64 n, .int .i64 n, .slice A0 l0.length c0]) (List.mem_cons_of_mem _ (List.mem_cons_of_mem _ (List.mem_cons_of_mem _ (List.mem_cons_of_mem _ (List.mem_cons_of_mem _ (List.mem_cons_self ..)))))))
          obtain ⟨gi0, gi1, gi2, gi3⟩ := blk4 (h.blk (gi, #[.int .i64 m, .int .i64 n, .int .i64 n, .slice Ai (i).length ci]) (List.mem_cons_of_mem _ (List.mem_cons_of_mem _ (List.mem_cons_of_mem _ (List.mem_cons_self ..)))))
          obtain ⟨gp0, gp1, gp2, gp3⟩ := blk4 (h.blk (gp, #[.int .i64 m, .int .i64 n, .int .i64 n, .slice Ap (i).length cp]) (List.mem_cons_of_mem _ (List.mem_cons_of_mem _ (List.mem_cons_self ..))))
          obtain ⟨gq0, gq1, gq2, gq3⟩ := blk4 (h.blk (gq, #[.int .i64 m, .int .i64 n, .int .i64 n, .slice Aq (i).length cq]) (List.mem_cons_of_mem _ (List.mem_cons_self ..)))
          obtain ⟨gy0, gy1, gy2, gy3⟩ := blk4 (h.blk (gy, #[.int .i64 m, .int .i64 n, .int .i64 n, .slice Ay (l0).length cy]) (List.mem_cons_self ..))
          exact ⟨p00, p01, p02, p03, gi0, gi1, gi2, gi3, gp0, gp1, gp2, gp3, gq0, gq1, gq2, gq3, gy0, gy1, gy2, gy3⟩)
        go_region_held3 (fun w' => w'.cell? ⟨p0, 0, none⟩ = some (.int .i64 m) ∧ w'.cell? ⟨p0, 1, none⟩ = some (.int .i64 n) ∧ w'.cell? ⟨p0, 2, none⟩ = some (.int .i64 n) ∧ w'.cell? ⟨p0, 3, none⟩ = some (.slice A0 l0.length c0) ∧ w'.cell? ⟨gi, 0, none⟩ = some (.int .i64 m) ∧ w'.cell? ⟨gi, 1, none⟩ = some (.int .i64 n) ∧ w'.cell? ⟨gi, 2, none⟩ = some (.int .i64 n) ∧ w'.cell? ⟨gi, 3, none⟩ = some (.slice Ai (i).length ci) ∧ w'.cell? ⟨gp, 0, none⟩ = some (.int .i64 m) ∧ w'.cell? ⟨gp, 1, none⟩ = some (.int .i64 n) ∧ w'.cell? ⟨gp, 2, none⟩ = some (.int .i64 n) ∧ w'.cell? ⟨gp, 3, none⟩ = some (.slice Ap (i).length cp) ∧ w'.cell? ⟨gq, 0, none⟩ = some (.int .i64 m) ∧ w'.cell? ⟨gq, 1, none⟩ = some (.int .i64 n) ∧ w'.cell? ⟨gq, 2, none⟩ = some (.int .i64 n) ∧ w'.cell? ⟨gq, 3, none⟩ = some (.slice Aq (i).length cq) ∧ w'.cell? ⟨gy, 0, none⟩ = some (.int .i64 m) ∧ w'.cell? ⟨gy, 1, none⟩ = some (.int .i64 n) ∧ w'.cell? ⟨gy, 2, none⟩ = some (.int .i64 n) ∧ w'.cell? ⟨gy, 3, none⟩ = some (.slice Ay (l0).length cy)) (first | exact HC.out _ HL.out | exact HC.out _ HL.out.drew) (first | (go_at_call 14; (with_reducible refine (solventlaw06_sanity.calls k true _ (FF.below HF.out HL.out.below) rfl).mono ?_); rintro e z ⟨rfl, hb⟩; have HN := Aside0.mk (HL.out.next hb); clear HL hb; have HL := HN; clear HN) | (go_at_call 14; (with_reducible refine (solventlaw06_sanity.calls k true _ (FF.below HF.out HL.out.drew.below) rfl).mono ?_); rintro e z ⟨rfl, hb⟩; have HN := Aside0.mk (HL.out.drew.next hb); clear HL hb; have HL := HN; clear HN) | (go_at_call 20; (with_reducible refine (matrix_Rank.calls k m n n A0 c0 l0 n _ (FF.below HF.out HL.out.below) (Kd.C_below HR0.out HL.out.below) HC0.out Q6.out).mono ?_); rintro e z ⟨rfl, hb⟩; have HN := Aside0.mk (HL.out.next hb); clear HL hb; have HL := HN; clear HN) | (go_at_call 20; (with_reducible refine (matrix_Rank.calls k m n n A0 c0 l0 n _ (FF.below HF.out HL.out.drew.below) (Kd.C_below HR0.out HL.out.drew.below) HC0.out Q6.out).mono ?_); rintro e z ⟨rfl, hb⟩; have HN := Aside0.mk (HL.out.drew.next hb); clear HL hb; have HL := HN; clear HN) | (go_at_call 15; (with_reducible refine (solventref06_Same.calls k m n n Ap cp i m n n Ai ci i true _ (HL.out.read (List.mem_cons_of_mem _ (List.mem_cons_of_mem _ (List.mem_cons_self ..)))) (HL.out.cap (List.mem_cons_of_mem _ (List.mem_cons_of_mem _ (List.mem_cons_self ..)))) (HL.out.read (List.mem_cons_of_mem _ (List.mem_cons_of_mem _ (List.mem_cons_of_mem _ (List.mem_cons_self ..))))) (HL.out.cap (List.mem_cons_of_mem _ (List.mem_cons_of_mem _ (List.mem_cons_of_mem _ (List.mem_cons_self ..))))) S1.out).mono ?_); rintro e z ⟨rfl, hb⟩; have HN := Aside0.mk (HL.out.next hb); clear HL hb; have HL := HN; clear HN) | (go_at_call 15; (with_reducible refine (solventref06_Same.calls k m n n Ap cp i m n n Ai ci i true _ (HL.out.drew.read (List.mem_cons_of_mem _ (List.mem_cons_of_mem _ (List.mem_cons_self ..)))) (HL.out.drew.cap (List.mem_cons_of_mem _ (List.mem_cons_of_mem _ (List.mem_cons_self ..)))) (HL.out.drew.read (List.mem_cons_of_mem _ (List.mem_cons_of_mem _ (List.mem_cons_of_mem _ (List.mem_cons_self ..))))) (HL.out.drew.cap (List.mem_cons_of_mem _ (List.mem_cons_of_mem _ (List.mem_cons_of_mem _ (List.mem_cons_self ..))))) S1.out).mono ?_); rintro e z ⟨rfl, hb⟩; have HN := Aside0.mk (HL.out.drew.next hb); clear HL hb; have HL := HN; clear HN) | (go_at_call 15; (with_reducible refine (solventref06_Same.calls k m n n Aq cq i m n n Ai ci i true _ (HL.out.read (List.mem_cons_of_mem _ (List.mem_cons_self ..))) (HL.out.cap (List.mem_cons_of_mem _ (List.mem_cons_self ..))) (HL.out.read (List.mem_cons_of_mem _ (List.mem_cons_of_mem _ (List.mem_cons_of_mem _ (List.mem_cons_self ..))))) (HL.out.cap (List.mem_cons_of_mem _ (List.mem_cons_of_mem _ (List.mem_cons_of_mem _ (List.mem_cons_self ..))))) S1.out).mono ?_); rintro e z ⟨rfl, hb⟩; have HN := Aside0.mk (HL.out.next hb); clear HL hb; have HL := HN; clear HN) | (go_at_call 15; (with_reducible refine (solventref06_Same.calls k m n n Aq cq i m n n Ai ci i true _ (HL.out.drew.read (List.mem_cons_of_mem _ (List.mem_cons_self ..))) (HL.out.drew.cap (List.mem_cons_of_mem _ (List.mem_cons_self ..))) (HL.out.drew.read (List.mem_cons_of_mem _ (List.mem_cons_of_mem _ (List.mem_cons_of_mem _ (List.mem_cons_self ..))))) (HL.out.drew.cap (List.mem_cons_of_mem _ (List.mem_cons_of_mem _ (List.mem_cons_of_mem _ (List.mem_cons_self ..))))) S1.out).mono ?_); rintro e z ⟨rfl, hb⟩; have HN := Aside0.mk (HL.out.drew.next hb); clear HL hb; have HL := HN; clear HN) | (go_at_call 15; (with_reducible refine (solventref06_Same.calls k m n n Ay cy l0 m n n A0 c0 l0 true _ (HL.out.read (List.mem_cons_self ..)) (HL.out.cap (List.mem_cons_self ..)) (Kd.C_below HR0.out HL.out.below) HC0.out S2.out).mono ?_); rintro e z ⟨rfl, hb⟩; have HN := Aside0.mk (HL.out.next hb); clear HL hb; have HL := HN; clear HN) | (go_at_call 15; (with_reducible refine (solventref06_Same.calls k m n n Ay cy l0 m n n A0 c0 l0 true _ (HL.out.drew.read (List.mem_cons_self ..)) (HL.out.drew.cap (List.mem_cons_self ..)) (Kd.C_below HR0.out HL.out.drew.below) HC0.out S2.out).mono ?_); rintro e z ⟨rfl, hb⟩; have HN := Aside0.mk (HL.out.drew.next hb); clear HL hb; have HL := HN; clear HN))
        all_goals
          go_wp2
          go_ret
          exact ⟨rfl, HL.out.below⟩
end Go.Proofs.YtfigcmmmpndpjaaDoor.H

/- Ja. -/
import Derived.Test.YtfigcmmmpndpjaaDoorQm
import Derived.Test.YtfigcmmmpndpjaaDoorHz
/- MatrixAssociates: the law walked. -/
namespace Go.Proofs.YtfigcmmmpndpjaaDoor.H
open Go.RowKit Go.Proofs.YtfigcmmmpndpjaaDoorW.PrintWords Go.Proofs.YtfigcmmmpndpjaaDoorW.PrintLast Go.Proofs.YtfigcmmmpndpjaaDoorW.PrintMore Go.Proofs.YtfigcmmmpndpjaaDoor.P
set_option linter.unusedVariables false
set_option linter.unusedSimpArgs false
set_option maxRecDepth 100000 in
set_option maxHeartbeats 16000000 in
theorem assoc_calls (a0_0 a0_1 a0_2 : Int) (A0 : Option Addr) (c0 : Nat) (l0 : List Int) (a1_0 a1_1 a1_2 : Int) (A1 : Option Addr) (c1 : Nat) (l1 : List Int) (a2_0 a2_1 a2_2 : Int) (A2 : Option Addr) (c2 : Nat) (l2 : List Int) (w : World) (hff : FF w) (r0 : Kd.C (Kd.int .i64) w A0 l0.length l0) (m0 : l0.length ≤ c0) (r1 : Kd.C (Kd.int .i64) w A1 l1.length l1) (m1 : l1.length ≤ c1) (r2 : Kd.C (Kd.int .i64) w A2 l2.length l2) (m2 : l2.length ≤ c2) :
    Calls Tryd.prog 6 #[.agg #[.int .i64 a0_0, .int .i64 a0_1, .int .i64 a0_2, .slice A0 l0.length c0], .agg #[.int .i64 a1_0, .int .i64 a1_1, .int .i64 a1_2, .slice A1 l1.length c1], .agg #[.int .i64 a2_0, .int .i64 a2_1, .int .i64 a2_2, .slice A2 l2.length c2]] w fun e w' => e = .returned (.bool true) ∧ Below w.heap.size w w' := by
  have HF := Aside0.mk hff
  have HR0 := Aside0.mk r0
  have HC0 := Aside0.mk m0
  have HR1 := Aside0.mk r1
  have HC1 := Aside0.mk m1
  have HR2 := Aside0.mk r2
  have HC2 := Aside0.mk m2
  obtain ⟨k, hk⟩ := big
  have HS0 := Aside0.mk (San.start w)
  clear hff r0 m0 r1 m1 r2 m2
  go_enter Tryd.func6, Tryd.ntmps6
  go_upto_region 1 with (fail)
  obtain ⟨p0, hp0⟩ : ∃ b, b = w.heap.size := ⟨_, rfl⟩
  obtain ⟨p1, hp1⟩ : ∃ b, b = w.heap.size + 1 := ⟨_, rfl⟩
  obtain ⟨p2, hp2⟩ : ∃ b, b = w.heap.size + 1 + 1 := ⟨_, rfl⟩
  have HS1 := Aside0.mk (((HS0.out.box p0 hp0 #[.int .i64 a0_0, .int .i64 a0_1, .int .i64 a0_2, .slice A0 l0.length c0]).box p1 (by rw [hp1]; simp) #[.int .i64 a1_0, .int .i64 a1_1, .int .i64 a1_2, .slice A1 l1.length c1]).box p2 (by rw [hp2]; simp) #[.int .i64 a2_0, .int .i64 a2_1, .int .i64 a2_2, .slice A2 l2.length c2])
  rw [← hp2, ← hp1, ← hp0]
  generalize ((w.alloc (.cells #[.int .i64 a0_0, .int .i64 a0_1, .int .i64 a0_2, .slice A0 l0.length c0] 24 (0, 0))).alloc (.cells #[.int .i64 a1_0, .int .i64 a1_1, .int .i64 a1_2, .slice A1 l1.length c1] 24 (0, 0))).alloc (.cells #[.int .i64 a2_0, .int .i64 a2_1, .int .i64 a2_2, .slice A2 l2.length c2] 24 (0, 0)) = W0 at HS1 ⊢
  clear hp0 hp1 hp2 HS0
  go_cut [7] (fun v7 wc => ∃ fits : Bool, v7 = .bool fits ∧ Aside0 (San w wc [(p2, #[.int .i64 a2_0, .int .i64 a2_1, .int .i64 a2_2, .slice A2 l2.length c2]), (p1, #[.int .i64 a1_0, .int .i64 a1_1, .int .i64 a1_2, .slice A1 l1.length c1]), (p0, #[.int .i64 a0_0, .int .i64 a0_1, .int .i64 a0_2, .slice A0 l0.length c0])] []))
  case first =>
    obtain ⟨s0, h0⟩ : ∃ s, solventlaw06_small.f a0_0 a0_1 a0_2 l0 = some s := ⟨_, small_is _ _ _ _⟩
    obtain ⟨s1, h1⟩ : ∃ s, solventlaw06_small.f a1_0 a1_1 a1_2 l1 = some s := ⟨_, small_is _ _ _ _⟩
    obtain ⟨s2, h2⟩ : ∃ s, solventlaw06_small.f a2_0 a2_1 a2_2 l2 = some s := ⟨_, small_is _ _ _ _⟩
    obtain ⟨p0_0, p0_1, p0_2, p0_3⟩ := blk4 (HS1.out.blk (p0, #[.int .i64 a0_0, .int .i64 a0_1, .int .i64 a0_2, .slice A0 l0.length c0]) (List.mem_cons_of_mem _ (List.mem_cons_of_mem _ (List.mem_cons_self ..))))
    have zp0 : p0 < W0.heap.size := blk_lt (HS1.out.blk (p0, #[.int .i64 a0_0, .int .i64 a0_1, .int .i64 a0_2, .slice A0 l0.length c0]) (List.mem_cons_of_mem _ (List.mem_cons_of_mem _ (List.mem_cons_self ..))))
    obtain ⟨p1_0, p1_1, p1_2, p1_3⟩ := blk4 (HS1.out.blk (p1, #[.int .i64 a1_0, .int .i64 a1_1, .int .i64 a1_2, .slice A1 l1.length c1]) (List.mem_cons_of_mem _ (List.mem_cons_self ..)))
    have zp1 : p1 < W0.heap.size := blk_lt (HS1.out.blk (p1, #[.int .i64 a1_0, .int .i64 a1_1, .int .i64 a1_2, .slice A1 l1.length c1]) (List.mem_cons_of_mem _ (List.mem_cons_self ..)))
    obtain ⟨p2_0, p2_1, p2_2, p2_3⟩ := blk4 (HS1.out.blk (p2, #[.int .i64 a2_0, .int .i64 a2_1, .int .i64 a2_2, .slice A2 l2.length c2]) (List.mem_cons_self ..))
    have zp2 : p2 < W0.heap.size := blk_lt (HS1.out.blk (p2, #[.int .i64 a2_0, .int .i64 a2_1, .int .i64 a2_2, .slice A2 l2.length c2]) (List.mem_cons_self ..))
    cases s0 with
    | false =>
      go_wp2_with fail
      refine (solventlaw06_small.calls a0_0 a0_1 a0_2 A0 c0 l0 false _ (Kd.C_below HR0.out HS1.out.below) HC0.out h0).mono ?_
      rintro e u0 ⟨rfl, hb⟩
      have HS2 := Aside0.mk (HS1.out.next hb)
      clear HS1
      clear hb
      go_wp2
      go_meet
      case rel => exact ⟨false, rfl, HS2⟩
    | true =>
      go_wp2_with fail
      refine (solventlaw06_small.calls a0_0 a0_1 a0_2 A0 c0 l0 true _ (Kd.C_below HR0.out HS1.out.below) HC0.out h0).mono ?_
      rintro e u0 ⟨rfl, hb⟩
      have HS2 := Aside0.mk (HS1.out.next hb)
      clear HS1
      clear hb
      obtain ⟨p1_0, p1_1, p1_2, p1_3⟩ := blk4 (HS2.out.blk (p1, #[.int .i64 a1_0, .int .i64 a1_1, .int .i64 a1_2, .slice A1 l1.length c1]) (List.mem_cons_of_mem _ (List.mem_cons_self ..)))
      have zp1 : p1 < u0.heap.size := blk_lt (HS2.out.blk (p1, #[.int .i64 a1_0, .int .i64 a1_1, .int .i64 a1_2, .slice A1 l1.length c1]) (List.mem_cons_of_mem _ (List.mem_cons_self ..)))
      obtain ⟨p2_0, p2_1, p2_2, p2_3⟩ := blk4 (HS2.out.blk (p2, #[.int .i64 a2_0, .int .i64 a2_1, .int .i64 a2_2, .slice A2 l2.length c2]) (List.mem_cons_self ..))
      have zp2 : p2 < u0.heap.size := blk_lt (HS2.out.blk (p2, #[.int .i64 a2_0, .int .i64 a2_1, .int .i64 a2_2, .slice A2 l2.length c2]) (List.mem_cons_self ..))
      cases s1 with
      | false =>
        go_wp2_with fail
        refine (solventlaw06_small.calls a1_0 a1_1 a1_2 A1 c1 l1 false _ (Kd.C_below HR1.out HS2.out.below) HC1.out h1).mono ?_
        rintro e u1 ⟨rfl, hb⟩
        have HS3 := Aside0.mk (HS2.out.next hb)
        clear HS2
        clear hb
        go_wp2
        go_meet
        case rel => exact ⟨false, rfl, HS3⟩
      | true =>
        go_wp2_with fail
        refine (solventlaw06_small.calls a1_0 a1_1 a1_2 A1 c1 l1 true _ (Kd.C_below HR1.out HS2.out.below) HC1.out h1).mono ?_
        rintro e u1 ⟨rfl, hb⟩
        have HS3 := Aside0.mk (HS2.out.next hb)
        clear HS2
        clear hb
        obtain ⟨p2_0, p2_1, p2_2, p2_3⟩ := blk4 (HS3.out.blk (p2, #[.int .i64 a2_0, .int .i64 a2_1, .int .i64 a2_2, .slice A2 l2.length c2]) (List.mem_cons_self ..))
        have zp2 : p2 < u1.heap.size := blk_lt (HS3.out.blk (p2, #[.int .i64 a2_0, .int .i64 a2_1, .int .i64 a2_2, .slice A2 l2.length c2]) (List.mem_cons_self ..))
        cases s2 with
        | false =>
          go_wp2_with fail
          refine (solventlaw06_small.calls a2_0 a2_1 a2_2 A2 c2 l2 false _ (Kd.C_below HR2.out HS3.out.below) HC2.out h2).mono ?_
          rintro e u2 ⟨rfl, hb⟩
          have HS4 := Aside0.mk (HS3.out.next hb)
          clear HS3
          clear hb
          go_wp2
          go_meet
          case rel => exact ⟨false, rfl, HS4⟩
        | true =>
          go_wp2_with fail
          refine (solventlaw06_small.calls a2_0 a2_1 a2_2 A2 c2 l2 true _ (Kd.C_below HR2.out HS3.out.below) HC2.out h2).mono ?_
          rintro e u2 ⟨rfl, hb⟩
          have HS4 := Aside0.mk (HS3.out.next hb)
          clear HS3
          clear hb
          go_wp2
          go_meet
          case rel => exact ⟨true, rfl, HS4⟩
  case rest =>
    obtain ⟨fits, rfl, HS2⟩ := hcut
    clear HS1
    by_cases hall : fits = true ∧ (validB a0_0 a0_1 a0_2 l0 = true ∧ validB a1_0 a1_1 a1_2 l1 = true ∧ a0_0 = a1_0 ∧ a0_2 = a1_1) ∧ (validB a1_0 a1_1 a1_2 l1 = true ∧ validB a2_0 a2_1 a2_2 l2 = true ∧ a1_0 = a2_0 ∧ a1_2 = a2_1)
    case neg =>
      obtain ⟨⟨x1, x2, x3, x4, x5⟩, hX⟩ : ∃ X, matrix_Mul.f k a0_0 a0_1 a0_2 l0 a1_0 a1_1 a1_2 l1 = some X := ⟨_, rfl⟩
      obtain ⟨⟨y1, y2, y3, y4, y5⟩, hY⟩ : ∃ X, matrix_Mul.f k a1_0 a1_1 a1_2 l1 a2_0 a2_1 a2_2 l2 = some X := ⟨_, rfl⟩
      have hx : x5 = 0 → (validB a0_0 a0_1 a0_2 l0 = true ∧ validB a1_0 a1_1 a1_2 l1 = true ∧ a0_0 = a1_0 ∧ a0_2 = a1_1) := fun h => mul_zero hX h
      have hy : y5 = 0 → (validB a1_0 a1_1 a1_2 l1 = true ∧ validB a2_0 a2_1 a2_2 l2 = true ∧ a1_0 = a2_0 ∧ a1_2 = a2_1) := fun h => mul_zero hY h
      have hno : fits = true → x5 = 0 → ¬ y5 = 0 := fun h1 h2 h3 => hall ⟨h1, hx h2, hy h3⟩
      have HX := Aside0.mk hX
      have HY := Aside0.mk hY
      clear hX hY hx hy hall
      obtain ⟨p0_0, p0_1, p0_2, p0_3⟩ := blk4 (HS2.out.blk (p0, #[.int .i64 a0_0, .int .i64 a0_1, .int .i64 a0_2, .slice A0 l0.length c0]) (List.mem_cons_of_mem _ (List.mem_cons_of_mem _ (List.mem_cons_self ..))))
      have zp0 : p0 < wc.heap.size := blk_lt (HS2.out.blk (p0, #[.int .i64 a0_0, .int .i64 a0_1, .int .i64 a0_2, .slice A0 l0.length c0]) (List.mem_cons_of_mem _ (List.mem_cons_of_mem _ (List.mem_cons_self ..))))
      obtain ⟨p1_0, p1_1, p1_2, p1_3⟩ := blk4 (HS2.out.blk (p1, #[.int .i64 a1_0, .int .i64 a1_1, .int .i64 a1_2, .slice A1 l1.length c1]) (List.mem_cons_of_mem _ (List.mem_cons_self ..)))
      have zp1 : p1 < wc.heap.size := blk_lt (HS2.out.blk (p1, #[.int .i64 a1_0, .int .i64 a1_1, .int .i64 a1_2, .slice A1 l1.length c1]) (List.mem_cons_of_mem _ (List.mem_cons_self ..)))
      go_wp2_with fail
      refine (matrix_Mul.calls k a0_0 a0_1 a0_2 A0 c0 l0 a1_0 a1_1 a1_2 A1 c1 l1 x1 x2 x3 x4 x5 _ (FF.below HF.out HS2.out.below) (Kd.C_below HR0.out HS2.out.below) HC0.out (Kd.C_below HR1.out HS2.out.below) HC1.out HX.out).mono ?_
      rintro e u1 ⟨v, rfl, ho, hb⟩
      obtain ⟨Ax, cx, rfl⟩ := Kd.R_slice ho
      replace ho : Kd.R (Kd.int .i64) 3 u1 _ (fun _ => True) (.slice Ax (x4).length cx) x4 := ho
      have HS3 := Aside0.mk ((HS2.out.next hb).got ho HS2.out.below.size)
      clear HS2
      clear hb ho
      go_upto_region 3 with (fail)
      obtain ⟨gx, hgx⟩ : ∃ b, b = u1.heap.size := ⟨_, rfl⟩
      have HS4 := Aside0.mk (HS3.out.box gx hgx #[.int .i64 x1, .int .i64 x2, .int .i64 x3, .slice Ax (x4).length cx])
      clear HS3
      rw [← hgx]
      generalize u1.alloc (.cells #[.int .i64 x1, .int .i64 x2, .int .i64 x3, .slice Ax (x4).length cx] 24 (0, 0)) = Wgx at HS4 ⊢
      clear hgx
      clear p0_0 p0_1 p0_2 p0_3 zp0
      clear p1_0 p1_1 p1_2 p1_3 zp1
      obtain ⟨p1_0, p1_1, p1_2, p1_3⟩ := blk4 (HS4.out.blk (p1, #[.int .i64 a1_0, .int .i64 a1_1, .int .i64 a1_2, .slice A1 l1.length c1]) (List.mem_cons_of_mem _ (List.mem_cons_of_mem _ (List.mem_cons_self ..))))
      have zp1 : p1 < Wgx.heap.size := blk_lt (HS4.out.blk (p1, #[.int .i64 a1_0, .int .i64 a1_1, .int .i64 a1_2, .slice A1 l1.length c1]) (List.mem_cons_of_mem _ (List.mem_cons_of_mem _ (List.mem_cons_self ..))))
      obtain ⟨p2_0, p2_1, p2_2, p2_3⟩ := blk4 (HS4.out.blk (p2, #[.int .i64 a2_0, .int .i64 a2_1, .int .i64 a2_2, .slice A2 l2.length c2]) (List.mem_cons_of_mem _ (List.mem_cons_self ..)))
      have zp2 : p2 < Wgx.heap.size := blk_lt (HS4.out.blk (p2, #[.int .i64 a2_0, .int .i64 a2_1, .int .i64 a2_2, .slice A2 l2.length c2]) (List.mem_cons_of_mem _ (List.mem_cons_self ..)))
      go_wp2_with fail
      refine (matrix_Mul.calls k a1_0 a1_1 a1_2 A1 c1 l1 a2_0 a2_1 a2_2 A2 c2 l2 y1 y2 y3 y4 y5 _ (FF.below HF.out HS4.out.below) (Kd.C_below HR1.out HS4.out.below) HC1.out (Kd.C_below HR2.out HS4.out.below) HC2.out HY.out).mono ?_
      rintro e u2 ⟨v, rfl, ho, hb⟩
      obtain ⟨Ay, cy, rfl⟩ := Kd.R_slice ho
      replace ho : Kd.R (Kd.int .i64) 3 u2 _ (fun _ => True) (.slice Ay (y4).length cy) y4 := ho
      have HS5 := Aside0.mk ((HS4.out.next hb).got ho HS4.out.below.size)
      clear HS4
      clear hb ho
      go_upto_region 4 with (fail)
      obtain ⟨gy, hgy⟩ : ∃ b, b = u2.heap.size := ⟨_, rfl⟩
      have HS6 := Aside0.mk (HS5.out.box gy hgy #[.int .i64 y1, .int .i64 y2, .int .i64 y3, .slice Ay (y4).length cy])
      clear HS5
      rw [← hgy]
      generalize u2.alloc (.cells #[.int .i64 y1, .int .i64 y2, .int .i64 y3, .slice Ay (y4).length cy] 24 (0, 0)) = Wgy at HS6 ⊢
      clear hgy
      clear p1_0 p1_1 p1_2 p1_3 zp1
      clear p2_0 p2_1 p2_2 p2_3 zp2
      have hz : fits = false ∨ (fits = true ∧ (x5 != 0) = true) ∨ (fits = true ∧ (x5 != 0) = false ∧ (y5 != 0) = true) := by
        cases fits
        · exact .inl rfl
        · by_cases h : x5 = 0
          · exact .inr (.inr ⟨rfl, by simp [h], by simpa using hno rfl h⟩)
          · exact .inr (.inl ⟨rfl, by simpa using h⟩)
      clear hno
      rcases hz with rfl | ⟨rfl, e1⟩ | ⟨rfl, e1, e2⟩
      all_goals
        go_wp2_with fail
        refine (solventlaw06_sanity.calls k true _ (FF.below HF.out HS6.out.below) rfl).mono ?_
        rintro e u3 ⟨rfl, hb⟩
        have HS7 := Aside0.mk (HS6.out.next hb)
        clear HS6
        clear hb
        go_wp2
        go_ret
        exact ⟨rfl, HS7.out.below⟩
    case pos =>
      obtain ⟨rfl, ⟨v0, v1, e0, e1⟩, ⟨_, v2, e2, e3⟩⟩ := hall
      obtain ⟨m, r, n, rfl, rfl, rfl, M0⟩ := Mat.open v0
      obtain ⟨m', n', p, h1, h2, rfl, M1⟩ := Mat.open v1
      subst h1 h2
      obtain rfl : m = m' := by omega
      obtain rfl : n = n' := by omega
      obtain ⟨m'', p'', q, h3, h4, rfl, M2⟩ := Mat.open v2
      subst h3 h4
      obtain rfl : m = m'' := by omega
      obtain rfl : p = p'' := by omega
      clear v0 v1 v2 e0 e1 e2 e3
      obtain ⟨ab, hab⟩ : ∃ x, x = mulL m r n p l0 l1 := ⟨_, rfl⟩
      obtain ⟨bc, hbc⟩ : ∃ x, x = mulL m n p q l1 l2 := ⟨_, rfl⟩
      have Mab : Mat m r p ab := hab ▸ mulL_mat M0 M1
      have Mbc : Mat m n q bc := hbc ▸ mulL_mat M1 M2
      obtain ⟨xl, hxl⟩ : ∃ x, x = mulL m r p q ab l2 := ⟨_, rfl⟩
      obtain ⟨xr, hxr⟩ : ∃ x, x = mulL m r n q l0 bc := ⟨_, rfl⟩
      obtain ⟨ts, hts⟩ : ∃ x, x = trL r p ab := ⟨_, rfl⟩
      obtain ⟨ta, hta⟩ : ∃ x, x = trL r n l0 := ⟨_, rfl⟩
      obtain ⟨tb, htb⟩ : ∃ x, x = trL n p l1 := ⟨_, rfl⟩
      have Mxl : Mat m r q xl := hxl ▸ mulL_mat Mab M2
      have Mta : Mat m n r ta := hta ▸ trL_mat M0
      have Mtb : Mat m p n tb := htb ▸ trL_mat M1
      have Mts : Mat m p r ts := hts ▸ trL_mat Mab
      obtain ⟨tt, htt⟩ : ∃ x, x = mulL m p n r tb ta := ⟨_, rfl⟩
      have Q1 := Aside0.mk (mul_at k M0 M1)
      have Q2 := Aside0.mk (mul_at k M1 M2)
      have Q3 := Aside0.mk (mul_at k Mab M2)
      have Q4 := Aside0.mk (mul_at k M0 Mbc)
      have Q5 := Aside0.mk (tr_at Mab)
      have Q6 := Aside0.mk (tr_at M0)
      have Q7 := Aside0.mk (tr_at M1)
      have Q8 := Aside0.mk (mul_at k Mtb Mta)
      have S1 := Aside0.mk (same_rfl (k := k) (by omega) (m := m) (r := r) (c := q) (l := xl) (l' := xr) (by have := Mxl.max; omega) rfl rfl rfl (by rw [hxl, hxr, hab, hbc]; exact mul_assoc_l M0 M1 M2))
      have S2 := Aside0.mk (same_rfl (k := k) (by omega) (m := m) (r := p) (c := r) (l := ts) (l' := tt) (by have := Mts.max; omega) rfl rfl rfl (by rw [hts, htt, hab, hta, htb]; exact mul_tr_l M0 M1))
      rw [← hab] at Q1
      rw [← hbc] at Q2
      rw [← hxl] at Q3
      rw [← hxr] at Q4
      rw [← hts] at Q5
      rw [← hta] at Q6
      rw [← htb] at Q7
      rw [← htt] at Q8
      clear hab hbc hxl hxr hts hta htb htt M0 M1 M2 Mab Mbc Mxl Mta Mtb Mts hk
      obtain ⟨p0_0, p0_1, p0_2, p0_3⟩ := blk4 (HS2.out.blk (p0, #[.int .i64 m, .int .i64 r, .int .i64 n, .slice A0 l0.length c0]) (List.mem_cons_of_mem _ (List.mem_cons_of_mem _ (List.mem_cons_self ..))))
      have zp0 : p0 < wc.heap.size := blk_lt (HS2.out.blk (p0, #[.int .i64 m, .int .i64 r, .int .i64 n, .slice A0 l0.length c0]) (List.mem_cons_of_mem _ (List.mem_cons_of_mem _ (List.mem_cons_self ..))))
      obtain ⟨p1_0, p1_1, p1_2, p1_3⟩ := blk4 (HS2.out.blk (p1, #[.int .i64 m, .int .i64 n, .int .i64 p, .slice A1 l1.length c1]) (List.mem_cons_of_mem _ (List.mem_cons_self ..)))
      have zp1 : p1 < wc.heap.size := blk_lt (HS2.out.blk (p1, #[.int .i64 m, .int .i64 n, .int .i64 p, .slice A1 l1.length c1]) (List.mem_cons_of_mem _ (List.mem_cons_self ..)))
      go_wp2_with fail
      refine (matrix_Mul.calls k m r n A0 c0 l0 m n p A1 c1 l1 m r p ab 0 _ (FF.below HF.out HS2.out.below) (Kd.C_below HR0.out HS2.out.below) HC0.out (Kd.C_below HR1.out HS2.out.below) HC1.out Q1.out).mono ?_
      rintro e u1 ⟨v, rfl, ho, hb⟩
      obtain ⟨Aab, cab, rfl⟩ := Kd.R_slice ho
      replace ho : Kd.R (Kd.int .i64) 3 u1 _ (fun _ => True) (.slice Aab (ab).length cab) ab := ho
      have HS3 := Aside0.mk ((HS2.out.next hb).got ho HS2.out.below.size)
      clear HS2
      clear hb ho
      go_upto_region 3 with (fail)
      obtain ⟨gab, hgab⟩ : ∃ b, b = u1.heap.size := ⟨_, rfl⟩
      have HS4 := Aside0.mk (HS3.out.box gab hgab #[.int .i64 m, .int .i64 r, .int .i64 p, .slice Aab (ab).length cab])
      clear HS3
      rw [← hgab]
      generalize u1.alloc (.cells #[.int .i64 m, .int .i64 r, .int .i64 p, .slice Aab (ab).length cab] 24 (0, 0)) = Wgab at HS4 ⊢
      clear hgab
      clear p0_0 p0_1 p0_2 p0_3 zp0
      clear p1_0 p1_1 p1_2 p1_3 zp1
      obtain ⟨p1_0, p1_1, p1_2, p1_3⟩ := blk4 (HS4.out.blk (p1, #[.int .i64 m, .int .i64 n, .int .i64 p, .slice A1 l1.length c1]) (List.mem_cons_of_mem _ (List.mem_cons_of_mem _ (List.mem_cons_self ..))))
      have zp1 : p1 < Wgab.heap.size := blk_lt (HS4.out.blk (p1, #[.int .i64 m, .int .i64 n, .int .i64 p, .slice A1 l1.length c1]) (List.mem_cons_of_mem _ (List.mem_cons_of_mem _ (List.mem_cons_self ..))))
      obtain ⟨p2_0, p2_1, p2_2, p2_3⟩ := blk4 (HS4.out.blk (p2, #[.int .i64 m, .int .i64 p, .int .i64 q, .slice A2 l2.length c2]) (List.mem_cons_of_mem _ (List.mem_cons_self ..)))
      have zp2 : p2 < Wgab.heap.size := blk_lt (HS4.out.blk (p2, #[.int .i64 m, .int .i64 p, .int .i64 q, .slice A2 l2.length c2]) (List.mem_cons_of_mem _ (List.mem_cons_self ..)))
      go_wp2_with fail
      refine (matrix_Mul.calls k m n p A1 c1 l1 m p q A2 c2 l2 m n q bc 0 _ (FF.below HF.out HS4.out.below) (Kd.C_below HR1.out HS4.out.below) HC1.out (Kd.C_below HR2.out HS4.out.below) HC2.out Q2.out).mono ?_
      rintro e u2 ⟨v, rfl, ho, hb⟩
      obtain ⟨Abc, cbc, rfl⟩ := Kd.R_slice ho
      replace ho : Kd.R (Kd.int .i64) 3 u2 _ (fun _ => True) (.slice Abc (bc).length cbc) bc := ho
      have HS5 := Aside0.mk ((HS4.out.next hb).got ho HS4.out.below.size)
      clear HS4
      clear hb ho
      go_upto_region 4 with (fail)
      obtain ⟨gbc, hgbc⟩ : ∃ b, b = u2.heap.size := ⟨_, rfl⟩
      have HS6 := Aside0.mk (HS5.out.box gbc hgbc #[.int .i64 m, .int .i64 n, .int .i64 q, .slice Abc (bc).length cbc])
      clear HS5
      rw [← hgbc]
      generalize u2.alloc (.cells #[.int .i64 m, .int .i64 n, .int .i64 q, .slice Abc (bc).length cbc] 24 (0, 0)) = Wgbc at HS6 ⊢
      clear hgbc
      clear p1_0 p1_1 p1_2 p1_3 zp1
      clear p2_0 p2_1 p2_2 p2_3 zp2
      go_upto_region 6 with (fail)
      obtain ⟨gab_0, gab_1, gab_2, gab_3⟩ := blk4 (HS6.out.blk (gab, #[.int .i64 m, .int .i64 r, .int .i64 p, .slice Aab (ab).length cab]) (List.mem_cons_of_mem _ (List.mem_cons_self ..)))
      have zgab : gab < Wgbc.heap.size := blk_lt (HS6.out.blk (gab, #[.int .i64 m, .int .i64 r, .int .i64 p, .slice Aab (ab).length cab]) (List.mem_cons_of_mem _ (List.mem_cons_self ..)))
      obtain ⟨p2_0, p2_1, p2_2, p2_3⟩ := blk4 (HS6.out.blk (p2, #[.int .i64 m, .int .i64 p, .int .i64 q, .slice A2 l2.length c2]) (List.mem_cons_of_mem _ (List.mem_cons_of_mem _ (List.mem_cons_self ..))))
      have zp2 : p2 < Wgbc.heap.size := blk_lt (HS6.out.blk (p2, #[.int .i64 m, .int .i64 p, .int .i64 q, .slice A2 l2.length c2]) (List.mem_cons_of_mem _ (List.mem_cons_of_mem _ (List.mem_cons_self ..))))
      go_wp2_with fail
      refine (matrix_Mul.calls k m r p Aab cab ab m p q A2 c2 l2 m r q xl 0 _ (FF.below HF.out HS6.out.below) (HS6.out.read (List.mem_cons_of_mem _ (List.mem_cons_self ..))) (HS6.out.cap (List.mem_cons_of_mem _ (List.mem_cons_self ..))) (Kd.C_below HR2.out HS6.out.below) HC2.out Q3.out).mono ?_
      rintro e u3 ⟨v, rfl, ho, hb⟩
      obtain ⟨Axl, cxl, rfl⟩ := Kd.R_slice ho
      replace ho : Kd.R (Kd.int .i64) 3 u3 _ (fun _ => True) (.slice Axl (xl).length cxl) xl := ho
      have HS7 := Aside0.mk ((HS6.out.next hb).got ho HS6.out.below.size)
      clear HS6
      clear hb ho
      go_upto_region 7 with (fail)
      obtain ⟨gxl, hgxl⟩ : ∃ b, b = u3.heap.size := ⟨_, rfl⟩
      have HS8 := Aside0.mk (HS7.out.box gxl hgxl #[.int .i64 m, .int .i64 r, .int .i64 q, .slice Axl (xl).length cxl])
      clear HS7
      rw [← hgxl]
      generalize u3.alloc (.cells #[.int .i64 m, .int .i64 r, .int .i64 q, .slice Axl (xl).length cxl] 24 (0, 0)) = Wgxl at HS8 ⊢
      clear hgxl
      clear gab_0 gab_1 gab_2 gab_3 zgab
      clear p2_0 p2_1 p2_2 p2_3 zp2
      obtain ⟨p0_0, p0_1, p0_2, p0_3⟩ := blk4 (HS8.out.blk (p0, #[.int .i64 m, .int .i64 r, .int .i64 n, .slice A0 l0.length c0]) (List.mem_cons_of_mem _ (List.mem_cons_of_mem _ (List.mem_cons_of_mem _ (List.mem_cons_of_mem _ (List.mem_cons_of_mem _ (List.mem_cons_self ..)))))))
      have zp0 : p0 < Wgxl.heap.size := blk_lt (HS8.out.blk (p0, #[.int .i64 m, .int .i64 r, .int .i64 n, .slice A0 l0.length c0]) (List.mem_cons_of_mem _ (List.mem_cons_of_mem _ (List.mem_cons_of_mem _ (List.mem_cons_of_mem _ (List.mem_cons_of_mem _ (List.mem_cons_self ..)))))))
      obtain ⟨gbc_0, gbc_1, gbc_2, gbc_3⟩ := blk4 (HS8.out.blk (gbc, #[.int .i64 m, .int .i64 n, .int .i64 q, .slice Abc (bc).length cbc]) (List.mem_cons_of_mem _ (List.mem_cons_self ..)))
      have zgbc : gbc < Wgxl.heap.size := blk_lt (HS8.out.blk (gbc, #[.int .i64 m, .int .i64 n, .int .i64 q, .slice Abc (bc).length cbc]) (List.mem_cons_of_mem _ (List.mem_cons_self ..)))
      go_wp2_with fail
      refine (matrix_Mul.calls k m r n A0 c0 l0 m n q Abc cbc bc m r q xr 0 _ (FF.below HF.out HS8.out.below) (Kd.C_below HR0.out HS8.out.below) HC0.out (HS8.out.read (List.mem_cons_of_mem _ (List.mem_cons_self ..))) (HS8.out.cap (List.mem_cons_of_mem _ (List.mem_cons_self ..))) Q4.out).mono ?_
      rintro e u4 ⟨v, rfl, ho, hb⟩
      obtain ⟨Axr, cxr, rfl⟩ := Kd.R_slice ho
      replace ho : Kd.R (Kd.int .i64) 3 u4 _ (fun _ => True) (.slice Axr (xr).length cxr) xr := ho
      have HS9 := Aside0.mk ((HS8.out.next hb).got ho HS8.out.below.size)
      clear HS8
      clear hb ho
      go_upto_region 8 with (fail)
      obtain ⟨gxr, hgxr⟩ : ∃ b, b = u4.heap.size := ⟨_, rfl⟩
      have HS10 := Aside0.mk (HS9.out.box gxr hgxr #[.int .i64 m, .int .i64 r, .int .i64 q, .slice Axr (xr).length cxr])
      clear HS9
      rw [← hgxr]
      generalize u4.alloc (.cells #[.int .i64 m, .int .i64 r, .int .i64 q, .slice Axr (xr).length cxr] 24 (0, 0)) = Wgxr at HS10 ⊢
      clear hgxr
      clear p0_0 p0_1 p0_2 p0_3 zp0
      clear gbc_0 gbc_1 gbc_2 gbc_3 zgbc
      obtain ⟨gab_0, gab_1, gab_2, gab_3⟩ := blk4 (HS10.out.blk (gab, #[.int .i64 m, .int .i64 r, .int .i64 p, .slice Aab (ab).length cab]) (List.mem_cons_of_mem _ (List.mem_cons_of_mem _ (List.mem_cons_of_mem _ (List.mem_cons_self ..)))))
      have zgab : gab < Wgxr.heap.size := blk_lt (HS10.out.blk (gab, #[.int .i64 m, .int .i64 r, .int .i64 p, .slice Aab (ab).length cab]) (List.mem_cons_of_mem _ (List.mem_cons_of_mem _ (List.mem_cons_of_mem _ (List.mem_cons_self ..)))))
      go_wp2_with fail
      refine (matrix_Transpose.calls m r p Aab cab ab m p r ts 0 _ (HS10.out.read (List.mem_cons_of_mem _ (List.mem_cons_of_mem _ (List.mem_cons_of_mem _ (List.mem_cons_self ..))))) (HS10.out.cap (List.mem_cons_of_mem _ (List.mem_cons_of_mem _ (List.mem_cons_of_mem _ (List.mem_cons_self ..))))) Q5.out).mono ?_
      rintro e u5 ⟨v, rfl, ho, hb⟩
      obtain ⟨Ats, cts, rfl⟩ := Kd.R_slice ho
      replace ho : Kd.R (Kd.int .i64) 3 u5 _ (fun _ => True) (.slice Ats (ts).length cts) ts := ho
      have HS11 := Aside0.mk ((HS10.out.next hb).got ho HS10.out.below.size)
      clear HS10
      clear hb ho
      go_upto_region 9 with (fail)
      obtain ⟨gts, hgts⟩ : ∃ b, b = u5.heap.size := ⟨_, rfl⟩
      have HS12 := Aside0.mk (HS11.out.box gts hgts #[.int .i64 m, .int .i64 p, .int .i64 r, .slice Ats (ts).length cts])
      clear HS11
      rw [← hgts]
      generalize u5.alloc (.cells #[.int .i64 m, .int .i64 p, .int .i64 r, .slice Ats (ts).length cts] 24 (0, 0)) = Wgts at HS12 ⊢
      clear hgts
      clear gab_0 gab_1 gab_2 gab_3 zgab
      obtain ⟨p0_0, p0_1, p0_2, p0_3⟩ := blk4 (HS12.out.blk (p0, #[.int .i64 m, .int .i64 r, .int .i64 n, .slice A0 l0.length c0]) (List.mem_cons_of_mem _ (List.mem_cons_of_mem _ (List.mem_cons_of_mem _ (List.mem_cons_of_mem _ (List.mem_cons_of_mem _ (List.mem_cons_of_mem _ (List.mem_cons_of_mem _ (List.mem_cons_self ..)))))))))
      have zp0 : p0 < Wgts.heap.size := blk_lt (HS12.out.blk (p0, #[.int .i64 m, .int .i64 r, .int .i64 n, .slice A0 l0.length c0]) (List.mem_cons_of_mem _ (List.mem_cons_of_mem _ (List.mem_cons_of_mem _ (List.mem_cons_of_mem _ (List.mem_cons_of_mem _ (List.mem_cons_of_mem _ (List.mem_cons_of_mem _ (List.mem_cons_self ..)))))))))
      go_wp2_with fail
      refine (matrix_Transpose.calls m r n A0 c0 l0 m n r ta 0 _ (Kd.C_below HR0.out HS12.out.below) HC0.out Q6.out).mono ?_
      rintro e u6 ⟨v, rfl, ho, hb⟩
      obtain ⟨Ata, cta, rfl⟩ := Kd.R_slice ho
      replace ho : Kd.R (Kd.int .i64) 3 u6 _ (fun _ => True) (.slice Ata (ta).length cta) ta := ho
      have HS13 := Aside0.mk ((HS12.out.next hb).got ho HS12.out.below.size)
      clear HS12
      clear hb ho
      go_upto_region 10 with (fail)
      obtain ⟨gta, hgta⟩ : ∃ b, b = u6.heap.size := ⟨_, rfl⟩
      have HS14 := Aside0.mk (HS13.out.box gta hgta #[.int .i64 m, .int .i64 n, .int .i64 r, .slice Ata (ta).length cta])
      clear HS13
      rw [← hgta]
      generalize u6.alloc (.cells #[.int .i64 m, .int .i64 n, .int .i64 r, .slice Ata (ta).length cta] 24 (0, 0)) = Wgta at HS14 ⊢
      clear hgta
      clear p0_0 p0_1 p0_2 p0_3 zp0
      obtain ⟨p1_0, p1_1, p1_2, p1_3⟩ := blk4 (HS14.out.blk (p1, #[.int .i64 m, .int .i64 n, .int .i64 p, .slice A1 l1.length c1]) (List.mem_cons_of_mem _ (List.mem_cons_of_mem _ (List.mem_cons_of_mem _ (List.mem_cons_of_mem _ (List.mem_cons_of_mem _ (List.mem_cons_of_mem _ (List.mem_cons_of_mem _ (List.mem_cons_self ..)))))))))
      have zp1 : p1 < Wgta.heap.size := blk_lt (HS14.out.blk (p1, #[.int .i64 m, .int .i64 n, .int .i64 p, .slice A1 l1.length c1]) (List.mem_cons_of_mem _ (List.mem_cons_of_mem _ (List.mem_cons_of_mem _ (List.mem_cons_of_mem _ (List.mem_cons_of_mem _ (List.mem_cons_of_mem _ (List.mem_cons_of_mem _ (List.mem_cons_self ..)))))))))
      go_wp2_with fail
      refine (matrix_Transpose.calls m n p A1 c1 l1 m p n tb 0 _ (Kd.C_below HR1.out HS14.out.below) HC1.out Q7.out).mono ?_
      rintro e u7 ⟨v, rfl, ho, hb⟩
      obtain ⟨Atb, ctb, rfl⟩ := Kd.R_slice ho
      replace ho : Kd.R (Kd.int .i64) 3 u7 _ (fun _ => True) (.slice Atb (tb).length ctb) tb := ho
      have HS15 := Aside0.mk ((HS14.out.next hb).got ho HS14.out.below.size)
      clear HS14
      clear hb ho
      go_upto_region 11 with (fail)
      obtain ⟨gtb, hgtb⟩ : ∃ b, b = u7.heap.size := ⟨_, rfl⟩
      have HS16 := Aside0.mk (HS15.out.box gtb hgtb #[.int .i64 m, .int .i64 p, .int .i64 n, .slice Atb (tb).length ctb])
      clear HS15
      rw [← hgtb]
      generalize u7.alloc (.cells #[.int .i64 m, .int .i64 p, .int .i64 n, .slice Atb (tb).length ctb] 24 (0, 0)) = Wgtb at HS16 ⊢
      clear hgtb
      clear p1_0 p1_1 p1_2 p1_3 zp1
      obtain ⟨gtb_0, gtb_1, gtb_2, gtb_3⟩ := blk4 (HS16.out.blk (gtb, #[.int .i64 m, .int .i64 p, .int .i64 n, .slice Atb (tb).length ctb]) (List.mem_cons_self ..))
      have zgtb : gtb < Wgtb.heap.size := blk_lt (HS16.out.blk (gtb, #[.int .i64 m, .int .i64 p, .int .i64 n, .slice Atb (tb).length ctb]) (List.mem_cons_self ..))
      obtain ⟨gta_0, gta_1, gta_2, gta_3⟩ := blk4 (HS16.out.blk (gta, #[.int .i64 m, .int .i64 n, .int .i64 r, .slice Ata (ta).length cta]) (List.mem_cons_of_mem _ (List.mem_cons_self ..)))
      have zgta : gta < Wgtb.heap.size := blk_lt (HS16.out.blk (gta, #[.int .i64 m, .int .i64 n, .int .i64 r, .slice Ata (ta).length cta]) (List.mem_cons_of_mem _ (List.mem_cons_self ..)))
      go_wp2_with fail
      refine (matrix_Mul.calls k m p n Atb ctb tb m n r Ata cta ta m p r tt 0 _ (FF.below HF.out HS16.out.below) (HS16.out.read (List.mem_cons_self ..)) (HS16.out.cap (List.mem_cons_self ..)) (HS16.out.read (List.mem_cons_of_mem _ (List.mem_cons_self ..))) (HS16.out.cap (List.mem_cons_of_mem _ (List.mem_cons_self ..))) Q8.out).mono ?_
      rintro e u8 ⟨v, rfl, ho, hb⟩
      obtain ⟨Att, ctt, rfl⟩ := Kd.R_slice ho
      replace ho : Kd.R (Kd.int .i64) 3 u8 _ (fun _ => True) (.slice Att (tt).length ctt) tt := ho
      have HS17 := Aside0.mk ((HS16.out.next hb).got ho HS16.out.below.size)
      clear HS16
      clear hb ho
      go_upto_region 12 with (fail)
      obtain ⟨gtt, hgtt⟩ : ∃ b, b = u8.heap.size := ⟨_, rfl⟩
      have HS18 := Aside0.mk (HS17.out.box gtt hgtt #[.int .i64 m, .int .i64 p, .int .i64 r, .slice Att (tt).length ctt])
      clear HS17
      rw [← hgtt]
      generalize u8.alloc (.cells #[.int .i64 m, .int .i64 p, .int .i64 r, .slice Att (tt).length ctt] 24 (0, 0)) = Wgtt at HS18 ⊢
      clear hgtt
      clear gtb_0 gtb_1 gtb_2 gtb_3 zgtb
      clear gta_0 gta_1 gta_2 gta_3 zgta
      go_wp2_with fail
      refine (solventlaw06_sanity.calls k true _ (FF.below HF.out HS18.out.below) rfl).mono ?_
      rintro e u9 ⟨rfl, hb⟩
      have HS19 := Aside0.mk (HS18.out.next hb)
      clear HS18
      clear hb
      obtain ⟨gxl_0, gxl_1, gxl_2, gxl_3⟩ := blk4 (HS19.out.blk (gxl, #[.int .i64 m, .int .i64 r, .int .i64 q, .slice Axl (xl).length cxl]) (List.mem_cons_of_mem _ (List.mem_cons_of_mem _ (List.mem_cons_of_mem _ (List.mem_cons_of_mem _ (List.mem_cons_of_mem _ (List.mem_cons_self ..)))))))
      have zgxl : gxl < u9.heap.size := blk_lt (HS19.out.blk (gxl, #[.int .i64 m, .int .i64 r, .int .i64 q, .slice Axl (xl).length cxl]) (List.mem_cons_of_mem _ (List.mem_cons_of_mem _ (List.mem_cons_of_mem _ (List.mem_cons_of_mem _ (List.mem_cons_of_mem _ (List.mem_cons_self ..)))))))
      obtain ⟨gxr_0, gxr_1, gxr_2, gxr_3⟩ := blk4 (HS19.out.blk (gxr, #[.int .i64 m, .int .i64 r, .int .i64 q, .slice Axr (xr).length cxr]) (List.mem_cons_of_mem _ (List.mem_cons_of_mem _ (List.mem_cons_of_mem _ (List.mem_cons_of_mem _ (List.mem_cons_self ..))))))
      have zgxr : gxr < u9.heap.size := blk_lt (HS19.out.blk (gxr, #[.int .i64 m, .int .i64 r, .int .i64 q, .slice Axr (xr).length cxr]) (List.mem_cons_of_mem _ (List.mem_cons_of_mem _ (List.mem_cons_of_mem _ (List.mem_cons_of_mem _ (List.mem_cons_self ..))))))
      go_wp2_with fail
      refine (solventref06_Same.calls k m r q Axl cxl xl m r q Axr cxr xr true _ (HS19.out.read (List.mem_cons_of_mem _ (List.mem_cons_of_mem _ (List.mem_cons_of_mem _ (List.mem_cons_of_mem _ (List.mem_cons_of_mem _ (List.mem_cons_self ..))))))) (HS19.out.cap (List.mem_cons_of_mem _ (List.mem_cons_of_mem _ (List.mem_cons_of_mem _ (List.mem_cons_of_mem _ (List.mem_cons_of_mem _ (List.mem_cons_self ..))))))) (HS19.out.read (List.mem_cons_of_mem _ (List.mem_cons_of_mem _ (List.mem_cons_of_mem _ (List.mem_cons_of_mem _ (List.mem_cons_self ..)))))) (HS19.out.cap (List.mem_cons_of_mem _ (List.mem_cons_of_mem _ (List.mem_cons_of_mem _ (List.mem_cons_of_mem _ (List.mem_cons_self ..)))))) S1.out).mono ?_
      rintro e u10 ⟨rfl, hb⟩
      have HS20 := Aside0.mk (HS19.out.next hb)
      clear HS19
      clear hb
      clear gxl_0 gxl_1 gxl_2 gxl_3 zgxl
      clear gxr_0 gxr_1 gxr_2 gxr_3 zgxr
      obtain ⟨gts_0, gts_1, gts_2, gts_3⟩ := blk4 (HS20.out.blk (gts, #[.int .i64 m, .int .i64 p, .int .i64 r, .slice Ats (ts).length cts]) (List.mem_cons_of_mem _ (List.mem_cons_of_mem _ (List.mem_cons_of_mem _ (List.mem_cons_self ..)))))
      have zgts : gts < u10.heap.size := blk_lt (HS20.out.blk (gts, #[.int .i64 m, .int .i64 p, .int .i64 r, .slice Ats (ts).length cts]) (List.mem_cons_of_mem _ (List.mem_cons_of_mem _ (List.mem_cons_of_mem _ (List.mem_cons_self ..)))))
      obtain ⟨gtt_0, gtt_1, gtt_2, gtt_3⟩ := blk4 (HS20.out.blk (gtt, #[.int .i64 m, .int .i64 p, .int .i64 r, .slice Att (tt).length ctt]) (List.mem_cons_self ..))
      have zgtt : gtt < u10.heap.size := blk_lt (HS20.out.blk (gtt, #[.int .i64 m, .int .i64 p, .int .i64 r, .slice Att (tt).length ctt]) (List.mem_cons_self ..))
      go_wp2_with fail
      refine (solventref06_Same.calls k m p r Ats cts ts m p r Att ctt tt true _ (HS20.out.read (List.mem_cons_of_mem _ (List.mem_cons_of_mem _ (List.mem_cons_of_mem _ (List.mem_cons_self ..))))) (HS20.out.cap (List.mem_cons_of_mem _ (List.mem_cons_of_mem _ (List.mem_cons_of_mem _ (List.mem_cons_self ..))))) (HS20.out.read (List.mem_cons_self ..)) (HS20.out.cap (List.mem_cons_self ..)) S2.out).mono ?_
      rintro e u11 ⟨rfl, hb⟩
      have HS21 := Aside0.mk (HS20.out.next hb)
      clear HS20
      clear hb
      clear gts_0 gts_1 gts_2 gts_3 zgts
      clear gtt_0 gtt_1 gtt_2 gtt_3 zgtt
      go_wp2
      go_ret
      exact ⟨rfl, HS21.out.below⟩
end Go.Proofs.YtfigcmmmpndpjaaDoor.H

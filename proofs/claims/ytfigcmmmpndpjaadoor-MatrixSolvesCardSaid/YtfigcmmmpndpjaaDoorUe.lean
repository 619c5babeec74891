/- Hm, Hp, Hc, Hy. -/
import Derived.Test.YtfigcmmmpndpjaaDoorUd
import Derived.Deep.AppendLies
import Derived.Deep.RegionLaw
import Derived.WalkSpells
import Derived.RegionTactic
import Derived.BigRegion
/- What matrix.Mul answers. -/
namespace Go.Proofs.YtfigcmmmpndpjaaDoor.H
open Go.RowKit Go.Proofs.YtfigcmmmpndpjaaDoorW.PrintWords Go.Proofs.YtfigcmmmpndpjaaDoorW.PrintLast Go.Proofs.YtfigcmmmpndpjaaDoorW.PrintMore Go.Proofs.YtfigcmmmpndpjaaDoor.P
set_option linter.unusedVariables false
set_option linter.unusedSimpArgs false
/-- the product as far as row i, column k of the first matrix -/
def mulTo (m n : Nat) (A B : Mx.Fn) (i k : Nat) : Mx.Fn := fun i' j' => if i' < i then Mx.dot m n A B i' j' else if i' = i then Mx.dot m k A B i' j' else 0
theorem mulTo_succ (m n : Nat) (A B : Mx.Fn) (i k : Nat) : addRow m (mulTo m n A B i k) i (A i k) (B k) = mulTo m n A B i (k + 1) := by
  funext i' j'
  simp only [addRow, mulTo]
  by_cases h : i' = i
  · subst h
    simp only [Nat.lt_irrefl, if_false, if_true]
    rfl
  · rw [if_neg h, if_neg h, if_neg h]
theorem mulTo_row (m n : Nat) (A B : Mx.Fn) (i : Nat) : mulTo m n A B i n = mulTo m n A B (i + 1) 0 := by
  funext i' j'
  simp only [mulTo]
  by_cases h : i' < i
  · rw [if_pos h, if_pos (by omega)]
  · by_cases h2 : i' = i
    · rw [if_neg h, if_pos h2, if_pos (by omega)]
    · rw [if_neg h, if_neg h2, if_neg (by omega)]
      split
      · rfl
      · rfl
theorem mulTo_all (m n : Nat) (A B : Mx.Fn) (r c : Nat) : Mx.cells r c (mulTo m n A B r 0) = Mx.cells r c (Mx.dot m n A B) :=
  Mx.cells_congr fun i' j' hi hj => by simp [mulTo, hi]
theorem mulTo_none (m n : Nat) (A B : Mx.Fn) (r c : Nat) : Mx.cells r c (mulTo m n A B 0 0) = Mx.cells r c (fun _ _ => 0) :=
  Mx.cells_congr fun i' j' hi hj => by
    simp only [mulTo, Nat.not_lt_zero, if_false]
    split <;> rfl
theorem mulTo_in {m r n : Nat} (hm : Gf.Ok m) {A : Mx.Fn} (B : Mx.Fn) (hA : Mx.In m r n A) (i k c : Nat) (hk : k ≤ n) : Mx.In m r c (mulTo m n A B i k) := by
  intro i' j' hi hj
  simp only [mulTo]
  split
  · exact Mx.dot_lt hm n j' fun q hq => hA i' q hi hq
  · split
    · exact Mx.dot_lt hm k j' fun q hq => hA i' q hi (by omega)
    · exact Nat.two_pow_pos m
/-- numbers that lay in memory before the call are read, whatever is written to what the call made -/
theorem src_old {w W : World} {Ab A A2 : Option Addr} {r c cap i k m n : Nat} {F : Mx.Fn} {l : List Int} (hl : Kd.C (Kd.int .i64) w Ab l.length l) (hb : Below w.heap.size w W) (hR : RowAt Ab (k * c) c A2) (hi : i < r) (hn : l.length = n * c) (hk : k < n)
    (hin : ∀ x ∈ l, 0 ≤ x ∧ x < 2 ^ m) : Src W w.heap.size A r c cap i F A2 (fun j => Mx.el c l k j) := by
  intro W' F' hg hO _ j hj
  obtain ⟨g, rfl, h1, _⟩ := own_blk W' _ A _ cap _ hO (Nat.mul_pos (by omega) (by omega))
  have hb' : Below w.heap.size w W' := pw_below_grown hb (some g) hb.size (hg g rfl) (fun q e => by cases e; exact h1)
  obtain ⟨ad, e, hx⟩ := row_cell (k := j) (n := 0) (Kd.C_below hl hb') hR hj (by rw [hn]; exact row_fits hk)
  rw [rd_el hn hin hk hj] at hx
  exact ⟨ad, e, hx⟩
/-- what matrix.Mul answers -/
def matrix_Mul.f (k : Nat) (a0_0 a0_1 a0_2 : Int) (l0_3 : List Int) (a1_0 a1_1 a1_2 : Int) (l1_3 : List Int) : Option (Int × Int × Int × List Int × Int) :=
  some (if validB a0_0 a0_1 a0_2 l0_3 = true ∧ validB a1_0 a1_1 a1_2 l1_3 = true ∧ a0_0 = a1_0 ∧ a0_2 = a1_1 then (a0_0, a0_1, a1_2, Mx.cells a0_1.toNat a1_2.toNat (Mx.dot a0_0.toNat a0_2.toNat (Mx.el a0_2.toNat l0_3) (Mx.el a1_2.toNat l1_3)), 0) else (0, 0, 0, [], 1))
/-- three structs lie in blocks of the call: both arguments and the zero result -/
structure Box2 (w w1 : World) (f r c : Int) (A : Option Addr) (n cap : Nat) (f' r' c' : Int) (A' : Option Addr) (n' cap' : Nat) : Prop where
  below : Below w.heap.size w w1
  a : w1.heap[w.heap.size]? = some (.cells #[.int .i64 f, .int .i64 r, .int .i64 c, .slice A n cap] 24 (0, 0))
  b : w1.heap[w.heap.size + 1]? = some (.cells #[.int .i64 f', .int .i64 r', .int .i64 c', .slice A' n' cap'] 24 (0, 0))
theorem Box2.next {w w1 w2 : World} {f r c : Int} {A : Option Addr} {n cap : Nat} {f' r' c' : Int} {A' : Option Addr} {n' cap' : Nat} (h : Box2 w w1 f r c A n cap f' r' c' A' n' cap') (hb : Below w1.heap.size w1 w2) : Box2 w w2 f r c A n cap f' r' c' A' n' cap' :=
  ⟨below_step h.below hb, blk_below h.a hb, blk_below h.b hb⟩
/-- the world in which both arguments and a zero result have just been laid -/
def threeW (w : World) (f r c : Int) (A : Option Addr) (n cap : Nat) (f' r' c' : Int) (A' : Option Addr) (n' cap' : Nat) : World :=
  ((w.alloc (.cells #[.int .i64 f, .int .i64 r, .int .i64 c, .slice A n cap] 24 (0, 0))).alloc (.cells #[.int .i64 f', .int .i64 r', .int .i64 c', .slice A' n' cap'] 24 (0, 0))).alloc (.cells #[.int .i64 0, .int .i64 0, .int .i64 0, .slice none 0 0] 24 (0, 0))
theorem three_box (w : World) (f r c : Int) (A : Option Addr) (n cap : Nat) (f' r' c' : Int) (A' : Option Addr) (n' cap' : Nat) :
    Box2 w (threeW w f r c A n cap f' r' c' A' n' cap') f r c A n cap f' r' c' A' n' cap' ∧ (threeW w f r c A n cap f' r' c' A' n' cap').heap[w.heap.size + 1 + 1]? = some (.cells #[.int .i64 0, .int .i64 0, .int .i64 0, .slice none 0 0] 24 (0, 0)) := by
  refine ⟨⟨below_alloc (below_alloc (below_alloc (Below.refl _ _) _) _) _, blk_alloc (blk_alloc (heap_alloc_new w _) _) _, ?_⟩, ?_⟩
  · have := heap_alloc_new (w.alloc (.cells #[.int .i64 f, .int .i64 r, .int .i64 c, .slice A n cap] 24 (0, 0))) (.cells #[.int .i64 f', .int .i64 r', .int .i64 c', .slice A' n' cap'] 24 (0, 0))
    rw [World.size_alloc] at this
    exact blk_alloc this _
  · have := heap_alloc_new ((w.alloc (.cells #[.int .i64 f, .int .i64 r, .int .i64 c, .slice A n cap] 24 (0, 0))).alloc (.cells #[.int .i64 f', .int .i64 r', .int .i64 c', .slice A' n' cap'] 24 (0, 0))) (.cells #[.int .i64 0, .int .i64 0, .int .i64 0, .slice none 0 0] 24 (0, 0))
    rw [World.size_alloc, World.size_alloc] at this
    exact this
set_option maxRecDepth 100000 in
set_option maxHeartbeats 4000000 in
theorem mul_bad1 (f r c f' r' c' : Int) (A A' : Option Addr) (cap cap' : Nat) (l l' : List Int) (w : World) (hl : Kd.C (Kd.int .i64) w A l.length l) (hl' : Kd.C (Kd.int .i64) w A' l'.length l') (hv : validB f r c l = false) :
    Calls Tryd.prog 16 #[.agg #[.int .i64 f, .int .i64 r, .int .i64 c, .slice A l.length cap], .agg #[.int .i64 f', .int .i64 r', .int .i64 c', .slice A' l'.length cap']] w (Back w 0 0 0 [] 1) := by
  have HL := Aside0.mk hl
  have HV := Aside0.mk hv
  have H3 := Aside0.mk (three_box w f r c A l.length cap f' r' c' A' l'.length cap')
  clear hl hv hl'
  go_enter Tryd.func16, Tryd.ntmps16
  go_wp2_with (go_at_call 28; refine (valid_is false f r c A cap l _ (Kd.C_below HL.out H3.out.1.below) HV.out).mono ?_; rintro e w1 ⟨rfl, hb⟩; have HB := Aside0.mk (H3.out.1.next hb); have hr := blk_below H3.out.2 hb; have HRes := Aside0.mk hr; obtain ⟨j0, j1, j2, j3⟩ := blk4 hr; have z0 := blk_frozen hr 0; have z1 := blk_frozen hr 1; have z2 := blk_frozen hr 2; have z3 := blk_frozen hr 3; clear hb hr)
  obtain ⟨f1, f2⟩ := bad_fin (w := w) (gb := w.heap.size + 1 + 1) HB.out.below (by omega) HRes.out
  refine bodyPost_ret (results_ct rfl _ _ (w.heap.size + 1 + 1) 24 #[.int .i64 0, .int .i64 0, .int .i64 0, .slice none 0 0] (0, 0) _ rfl f1 Tryd.underlying24 rfl (by kernel_rfl)) rfl ?_
  exact ⟨_, rfl, Kd.R_nil _ _ _ _ _, f2⟩
set_option maxRecDepth 100000 in
set_option maxHeartbeats 4000000 in
theorem mul_bad2 (f r c f' r' c' : Int) (A A' : Option Addr) (cap cap' : Nat) (l l' : List Int) (w : World) (hl : Kd.C (Kd.int .i64) w A l.length l) (hl' : Kd.C (Kd.int .i64) w A' l'.length l') (hv : validB f r c l = true) (hv' : validB f' r' c' l' = false) :
    Calls Tryd.prog 16 #[.agg #[.int .i64 f, .int .i64 r, .int .i64 c, .slice A l.length cap], .agg #[.int .i64 f', .int .i64 r', .int .i64 c', .slice A' l'.length cap']] w (Back w 0 0 0 [] 1) := by
  have HL := Aside0.mk hl
  have HV := Aside0.mk hv
  have HL' := Aside0.mk hl'
  have HV' := Aside0.mk hv'
  have H3 := Aside0.mk (three_box w f r c A l.length cap f' r' c' A' l'.length cap')
  clear hl hv hl' hv'
  go_enter Tryd.func16, Tryd.ntmps16
  go_wp2_with fail
  refine (valid_is true f r c A cap l _ (Kd.C_below HL.out H3.out.1.below) HV.out).mono ?_
  rintro e w1 ⟨rfl, hb⟩
  have HB := Aside0.mk (H3.out.1.next hb)
  have HRes := Aside0.mk (blk_below H3.out.2 hb)
  obtain ⟨k0, k1, k2, k3⟩ := blk4 HB.out.a
  obtain ⟨l0, l1, l2, l3⟩ := blk4 HB.out.b
  clear hb
  go_wp2_with fail
  refine (valid_is false f' r' c' A' cap' l' _ (Kd.C_below HL'.out HB.out.below) HV'.out).mono ?_
  rintro e w2 ⟨rfl, hb⟩
  have HB2 := Aside0.mk (HB.out.next hb)
  have HRes2 := Aside0.mk (blk_below HRes.out hb)
  clear hb k0 k1 k2 k3 l0 l1 l2 l3
  obtain ⟨k0, k1, k2, k3⟩ := blk4 HB2.out.a
  obtain ⟨l0, l1, l2, l3⟩ := blk4 HB2.out.b
  obtain ⟨j0, j1, j2, j3⟩ := blk4 HRes2.out
  have z0 := blk_frozen HRes2.out 0
  have z1 := blk_frozen HRes2.out 1
  have z2 := blk_frozen HRes2.out 2
  have z3 := blk_frozen HRes2.out 3
  go_wp2_with fail
  all_goals
    obtain ⟨f1, f2⟩ := bad_fin (w := w) (gb := w.heap.size + 1 + 1) HB2.out.below (by omega) HRes2.out
    refine bodyPost_ret (results_ct rfl _ _ (w.heap.size + 1 + 1) 24 #[.int .i64 0, .int .i64 0, .int .i64 0, .slice none 0 0] (0, 0) _ rfl f1 Tryd.underlying24 rfl (by kernel_rfl)) rfl ?_
    exact ⟨_, rfl, Kd.R_nil _ _ _ _ _, f2⟩
set_option maxRecDepth 100000 in
set_option maxHeartbeats 4000000 in
theorem mul_bad3 (f r c f' r' c' : Int) (A A' : Option Addr) (cap cap' : Nat) (l l' : List Int) (w : World) (hl : Kd.C (Kd.int .i64) w A l.length l) (hl' : Kd.C (Kd.int .i64) w A' l'.length l') (hv : validB f r c l = true) (hv' : validB f' r' c' l' = true) (hf : ¬ (f = f' ∧ c = r')) :
    Calls Tryd.prog 16 #[.agg #[.int .i64 f, .int .i64 r, .int .i64 c, .slice A l.length cap], .agg #[.int .i64 f', .int .i64 r', .int .i64 c', .slice A' l'.length cap']] w (Back w 0 0 0 [] 1) := by
  have HL := Aside0.mk hl
  have HV := Aside0.mk hv
  have HL' := Aside0.mk hl'
  have HV' := Aside0.mk hv'
  have H3 := Aside0.mk (three_box w f r c A l.length cap f' r' c' A' l'.length cap')
  have hc : (f != f') = true ∨ ((f != f') = false ∧ (c != r') = true) := by
    simp only [bne_iff_ne, bne_eq_false_iff_eq]
    by_cases h : f = f'
    · exact .inr ⟨h, fun h2 => hf ⟨h, h2⟩⟩
    · exact .inl h
  clear hf
  rcases hc with hc | ⟨hc, hc2⟩
  all_goals
    clear hl hv hl' hv'
    go_enter Tryd.func16, Tryd.ntmps16
    go_wp2_with fail
    refine (valid_is true f r c A cap l _ (Kd.C_below HL.out H3.out.1.below) HV.out).mono ?_
    rintro e w1 ⟨rfl, hb⟩
    have HB := Aside0.mk (H3.out.1.next hb)
    have HRes := Aside0.mk (blk_below H3.out.2 hb)
    obtain ⟨k0, k1, k2, k3⟩ := blk4 HB.out.a
    obtain ⟨l0, l1, l2, l3⟩ := blk4 HB.out.b
    clear hb
    go_wp2_with fail
    refine (valid_is true f' r' c' A' cap' l' _ (Kd.C_below HL'.out HB.out.below) HV'.out).mono ?_
    rintro e w2 ⟨rfl, hb⟩
    have HB2 := Aside0.mk (HB.out.next hb)
    have HRes2 := Aside0.mk (blk_below HRes.out hb)
    clear hb k0 k1 k2 k3 l0 l1 l2 l3
    obtain ⟨k0, k1, k2, k3⟩ := blk4 HB2.out.a
    obtain ⟨l0, l1, l2, l3⟩ := blk4 HB2.out.b
    obtain ⟨j0, j1, j2, j3⟩ := blk4 HRes2.out
    have z0 := blk_frozen HRes2.out 0
    have z1 := blk_frozen HRes2.out 1
    have z2 := blk_frozen HRes2.out 2
    have z3 := blk_frozen HRes2.out 3
    go_wp2_with fail
    all_goals
      obtain ⟨f1, f2⟩ := bad_fin (w := w) (gb := w.heap.size + 1 + 1) HB2.out.below (by omega) HRes2.out
      refine bodyPost_ret (results_ct rfl _ _ (w.heap.size + 1 + 1) 24 #[.int .i64 0, .int .i64 0, .int .i64 0, .slice none 0 0] (0, 0) _ rfl f1 Tryd.underlying24 rfl (by kernel_rfl)) rfl ?_
      exact ⟨_, rfl, Kd.R_nil _ _ _ _ _, f2⟩
theorem Box2.grown {w W W2 : World} {f r0 c0 : Int} {Aa : Option Addr} {n cap : Nat} {f' r' c' : Int} {A' : Option Addr} {n' cap' : Nat} (h : Box2 w W f r0 c0 Aa n cap f' r' c' A' n' cap') {A : Option Addr} {r c capA : Nat} {l : List Int} (ho : Own W w.heap.size A (r * c) capA l) (hr : 0 < r) (hg : GrownAt W A c W2) : Box2 w W2 f r0 c0 Aa n cap f' r' c' A' n' cap' := by
  rcases Nat.eq_zero_or_pos c with hc | hc
  · have e := hg.2 hc
    subst e
    exact h
  · obtain ⟨g, rfl, hlo, _⟩ := own_blk W _ A _ capA _ ho (Nat.mul_pos hr hc)
    have k := hg.1 g rfl
    exact ⟨pw_below_grown h.below (some g) h.below.size k (fun j e => by cases e; exact hlo), blk_grown h.a k (fun e => own_ne ho h.a (by decide) rfl (Option.some.inj e)), blk_grown h.b k (fun e => own_ne ho h.b (by decide) rfl (Option.some.inj e))⟩
theorem Box2.drew {w w1 : World} {f r c : Int} {A : Option Addr} {n cap : Nat} {f' r' c' : Int} {A' : Option Addr} {n' cap' : Nat} (h : Box2 w w1 f r c A n cap f' r' c' A' n' cap') : Box2 w w1.drew f r c A n cap f' r' c' A' n' cap' := h.next (below_drew (Below.refl _ _))
/-- the cells that a region of the loop reads -/
theorem cells9 {w W : World} {gb gc m r c : Nat} {A3 : Option Addr} {cap3 : Nat} {F : Mx.Fn} {n0 n1 n2 c' : Nat} {A : Option Addr} {n cap : Nat} {A' : Option Addr} {n' cap' : Nat} (h : Made w W gb gc m r c A3 cap3 F) (k : Box2 w W m n0 n1 A n cap m n2 c' A' n' cap') :
    W.cell? ⟨w.heap.size, 0, none⟩ = some (.int .i64 m) ∧ W.cell? ⟨gc, 0, none⟩ = some (.int .i64 m) ∧ W.cell? ⟨gc, 1, none⟩ = some (.int .i64 r) ∧ W.cell? ⟨gc, 2, none⟩ = some (.int .i64 c) ∧ W.cell? ⟨gc, 3, none⟩ = some (.slice A3 (r * c) cap3) ∧ W.cell? ⟨w.heap.size + 1, 0, none⟩ = some (.int .i64 m) ∧ W.cell? ⟨w.heap.size + 1, 1, none⟩ = some (.int .i64 n2) ∧ W.cell? ⟨w.heap.size + 1, 2, none⟩ = some (.int .i64 c') ∧ W.cell? ⟨w.heap.size + 1, 3, none⟩ = some (.slice A' n' cap') := by
  obtain ⟨k0, k1, k2, k3⟩ := blk4 h.mat
  obtain ⟨x0, _, _, _⟩ := blk4 k.a
  obtain ⟨y0, y1, y2, y3⟩ := blk4 k.b
  exact ⟨x0, k0, k1, k2, k3, y0, y1, y2, y3⟩
set_option maxRecDepth 100000 in
set_option maxHeartbeats 8000000 in
theorem mul_ok (m r n c : Nat) (hm : Gf.Ok m) (hr : r ≤ 32) (hn : n ≤ 32) (hc : c ≤ 32) (A A' : Option Addr) (cap cap' : Nat) (l l' : List Int) (hcap : l.length ≤ cap) (hcap' : l'.length ≤ cap') (hln : l.length = r * n) (hln' : l'.length = n * c)
    (hin : ∀ x ∈ l, 0 ≤ x ∧ x < 2 ^ m) (hin' : ∀ x ∈ l', 0 ≤ x ∧ x < 2 ^ m) (w : World) (hff : FF w) (hl : Kd.C (Kd.int .i64) w A l.length l) (hl' : Kd.C (Kd.int .i64) w A' l'.length l') :
    Calls Tryd.prog 16 #[.agg #[.int .i64 m, .int .i64 r, .int .i64 n, .slice A l.length cap], .agg #[.int .i64 m, .int .i64 n, .int .i64 c, .slice A' l'.length cap']] w
      (Back w m r c (Mx.cells r c (Mx.dot m n (Mx.el n l) (Mx.el c l'))) 0) := by
  have HL := Aside0.mk hl
  have HL' := Aside0.mk hl'
  have HV := Aside0.mk (valid_mk hm hr hn hln hin)
  have HV' := Aside0.mk (valid_mk hm hn hc hln' hin')
  have H3 := Aside0.mk (three_box w m r n A l.length cap m n c A' l'.length cap')
  have HZ := Aside0.mk (zero_is m r c (by omega) (by omega))
  have HN := Aside0.mk hln
  have HN' := Aside0.mk hln'
  have HI := Aside0.mk hin
  have HI' := Aside0.mk hin'
  have HP := Aside0.mk hcap
  have HP' := Aside0.mk hcap'
  have HF := Aside0.mk hff
  have HW0 := Aside0.mk hff.lt
  have HM := Aside0.mk hm
  have hA : 0 < l.length → ∃ ad, A = some ad := fun h => by obtain ⟨ad, e, _⟩ := Kd.at_int hl 0 (by omega) (by omega); exact ⟨ad, e⟩
  have HA := Aside0.mk hA
  have hA' : 0 < l'.length → ∃ ad, A' = some ad := fun h => by obtain ⟨ad, e, _⟩ := Kd.at_int hl' 0 (by omega) (by omega); exact ⟨ad, e⟩
  have HA' := Aside0.mk hA'
  clear hl hl' hln hln' hin hin' hcap hcap' hff hm hA hA'
  go_enter Tryd.func16, Tryd.ntmps16
  go_wp2_with fail
  refine (valid_is true m r n A cap l _ (Kd.C_below HL.out H3.out.1.below) HV.out).mono ?_
  rintro e w1 ⟨rfl, hb⟩
  have HB := Aside0.mk (H3.out.1.next hb)
  have HRes := Aside0.mk (blk_below H3.out.2 hb)
  obtain ⟨k0, k1, k2, k3⟩ := blk4 HB.out.a
  obtain ⟨l0, l1, l2, l3⟩ := blk4 HB.out.b
  clear hb
  go_wp2_with fail
  refine (valid_is true m n c A' cap' l' _ (Kd.C_below HL'.out HB.out.below) HV'.out).mono ?_
  rintro e w2 ⟨rfl, hb⟩
  have HB2 := Aside0.mk (HB.out.next hb)
  have HRes2 := Aside0.mk (blk_below HRes.out hb)
  clear hb k0 k1 k2 k3 l0 l1 l2 l3
  obtain ⟨k0, k1, k2, k3⟩ := blk4 HB2.out.a
  obtain ⟨l0, l1, l2, l3⟩ := blk4 HB2.out.b
  go_wp2_with fail
  refine (matrix_zero.calls _ r c _ r c (List.replicate (r * c) 0) _ HZ.out).mono ?_
  rintro e w3 ⟨v, rfl, ho, hb⟩
  obtain ⟨A3, cap3, rfl⟩ := Kd.R_slice ho
  have hlen : (List.replicate (r * c) (0 : Int)).length = r * c := List.length_replicate
  rw [hlen, cells_zero] at ho
  have HO1 := Aside0.mk ho
  have HB3 := Aside0.mk hb
  have HX3 := Aside0.mk (HB2.out.next hb)
  clear ho hb k0 k1 k2 k3 l0 l1 l2 l3 hlen
  rw [List.length_replicate]
  obtain ⟨k0, k1, k2, k3⟩ := blk4 HX3.out.a
  obtain ⟨l0, l1, l2, l3⟩ := blk4 HX3.out.b
  have hz : w.heap.size < w3.heap.size := blk_lt HX3.out.a
  have hz2 : w.heap.size + 1 < w3.heap.size := blk_lt HX3.out.b
  go_wp2_with fail
  clear k0 k1 k2 k3 l0 l1 l2 l3 hz hz2
  obtain ⟨F, hF⟩ : ∃ F, F = Mx.el n l := ⟨_, rfl⟩
  obtain ⟨G, hG⟩ : ∃ G, G = Mx.el c l' := ⟨_, rfl⟩
  rw [← hF, ← hG]
  have HFe := Aside0.mk hF
  have HGe := Aside0.mk hG
  have HFi := Aside0.mk (show Mx.In m r n F from hF ▸ el_in HN.out HI.out)
  have HGi := Aside0.mk (show Mx.In m n c G from hG ▸ el_in HN'.out HI'.out)
  clear hF hG
  go_loopw [42] (fun i_ wr => ∃ i : Nat, i ≤ r ∧ i_ = .int .i64 i ∧ Aside0 (Made w wr (w.heap.size + 1 + 1) w3.heap.size m r c A3 cap3 (mulTo m n F G i 0)) ∧ Aside0 (Box2 w wr m r n A l.length cap m n c A' l'.length cap')) (fun i_ _ => r - (intOf i_).toNat)
  case atStart =>
    refine ⟨0, Nat.zero_le _, rfl, ⟨(made_new HB2.out.below HRes2.out (by omega) HB3.out HO1.out rfl).congr (mulTo_none m n F G r c).symm⟩, ⟨HX3.out.next (below_alloc (Below.refl _ _) _)⟩⟩
  case round =>
    obtain ⟨i, hi, rfl, HMd, HBx⟩ := hrel
    obtain ⟨wo, rfl⟩ : ∃ wo : World, wo = wr := ⟨_, rfl⟩
    by_cases hlt : i < r
    · obtain ⟨k0, k1, k2, k3⟩ := blk4 HBx.out.a
      have HFt := Aside0.mk (show (i + 1) * n ≤ l.length by rw [HN.out]; exact row_fits hlt)
      go_wp2_with fail
      refine (row_calls m r n l.length cap i A _ HA.out (by omega) (by omega) HFt.out HP.out).mono ?_
      rintro e w4 ⟨A4, c4, rfl, hc4, hR, hb4⟩
      have HR := Aside0.mk hR
      have HM4 := Aside0.mk (HMd.out.next hb4)
      have HB4 := Aside0.mk (HBx.out.next hb4)
      clear hR hb4 k0 k1 k2 k3
      go_wp2_with fail
      go_loopw [49] (fun k_ wq => ∃ k : Nat, k ≤ n ∧ k_ = .int .i64 k ∧ Aside0 (Made w wq (w.heap.size + 1 + 1) w3.heap.size m r c A3 cap3 (mulTo m n F G i k)) ∧ Aside0 (Box2 w wq m r n A l.length cap m n c A' l'.length cap')) (fun k_ _ => n - (intOf k_).toNat)
      case atStart => exact ⟨0, Nat.zero_le _, rfl, HM4, HB4⟩
      case round =>
        obtain ⟨k, hk, rfl, HMq, HBq⟩ := hrel
        by_cases hlk : k < n
        · obtain ⟨k0, k1, k2, k3⟩ := blk4 HMq.out.mat
          obtain ⟨x0, _, _, _⟩ := blk4 HBq.out.a
          obtain ⟨y0, y1, y2, y3⟩ := blk4 HBq.out.b
          obtain ⟨ad, rfl, hx⟩ := row_cell (k := k) (n := 0) (Kd.C_below HL.out HMq.out.below) HR.out hlk HFt.out
          rw [rd_el HN.out HI.out hlt hlk, ← HFe.out] at hx
          have HC := Aside0.mk (Kd.R_reads' HMq.out.own).2.1
          have HRw := Aside0.mk (row_fits (c := c) hlt)
          have HRk := Aside0.mk (show (k + 1) * c ≤ l'.length by rw [HN'.out]; exact row_fits hlk)
          have HA3 := Aside0.mk (show 0 < r * c → ∃ ad, A3 = some ad from fun h => by obtain ⟨g, e, _⟩ := own_blk _ _ _ _ _ _ HMq.out.own h; exact ⟨_, e⟩)
          have HFv := Aside0.mk (HFi.out i k hlt hlk)
          have HGv := Aside0.mk (show ∀ j, j < c → G k j < 2 ^ m from fun j hj => HGi.out k j hlk hj)
          have HSrc := Aside0.mk (show ∀ (W : World) (A2 : Option Addr), Below w.heap.size w W → RowAt A' (k * c) c A2 → Src W w.heap.size A3 r c cap3 i (mulTo m n F G i k) A2 (G k) from fun W A2 hb hR => by
            have := src_old (A := A3) (cap := cap3) (F := mulTo m n F G i k) (m := m) HL'.out hb hR hlt HN'.out hlk HI'.out
            rw [HGe.out]
            rw [HGe.out] at this
            exact this)
          go_wp2_with fail
          go_region_held3 (fun w' => w'.cell? ⟨w.heap.size, 0, none⟩ = some (.int .i64 m) ∧ w'.cell? ⟨w3.heap.size, 0, none⟩ = some (.int .i64 m) ∧ w'.cell? ⟨w3.heap.size, 1, none⟩ = some (.int .i64 r) ∧ w'.cell? ⟨w3.heap.size, 2, none⟩ = some (.int .i64 c) ∧ w'.cell? ⟨w3.heap.size, 3, none⟩ = some (.slice A3 (r * c) cap3) ∧ w'.cell? ⟨w.heap.size + 1, 0, none⟩ = some (.int .i64 m) ∧ w'.cell? ⟨w.heap.size + 1, 1, none⟩ = some (.int .i64 n) ∧ w'.cell? ⟨w.heap.size + 1, 2, none⟩ = some (.int .i64 c) ∧ w'.cell? ⟨w.heap.size + 1, 3, none⟩ = some (.slice A' l'.length cap')) (first | exact cells9 HMq.out HBq.out | exact cells9 HMq.out.drew HBq.out.drew) (first | (go_at_call 36; (with_reducible refine (row_calls m r c (r * c) cap3 i A3 _ HA3.out (by omega) (by omega) HRw.out HC.out).mono ?_); rintro e w5 ⟨A5, c5, rfl, hc5, hR5, hb⟩; have HR5 := Aside0.mk hR5; clear hR5; have HMq' := Aside0.mk (HMq.out.next (by first | exact hb | exact below_undrew hb)); have HBq' := Aside0.mk (HBq.out.next (by first | exact hb | exact below_undrew hb)); clear HMq HBq hb; have HMq := HMq'; have HBq := HBq'; clear HMq' HBq') | (go_at_call 36; (with_reducible refine (row_calls m n c l'.length cap' k A' _ HA'.out (by omega) (by omega) HRk.out HP'.out).mono ?_); rintro e w6 ⟨A6, c6, rfl, hc6, hR6, hb⟩; have HR6 := Aside0.mk hR6; clear hR6; have HMq' := Aside0.mk (HMq.out.next (by first | exact hb | exact below_undrew hb)); have HBq' := Aside0.mk (HBq.out.next (by first | exact hb | exact below_undrew hb)); clear HMq HBq hb; have HMq := HMq'; have HBq := HBq'; clear HMq' HBq') | (go_at_call 38; (with_reducible refine (add_calls m r c cap3 i (F i k) _ _ HM.out (by omega) (by omega) hlt (mulTo m n F G i k) (mulTo_in HM.out G HFi.out i k c (by omega)) HFv.out (G k) HGv.out w.heap.size HW0.out A3 _ _ _ (HF.out.below HMq.out.below) HMq.out.own HR5.out (HSrc.out _ _ HMq.out.below HR6.out)).mono ?_); rintro e w7 ⟨rfl, hg, ho⟩; rw [mulTo_succ] at ho; have HBq' := Aside0.mk (HBq.out.grown HMq.out.own (Nat.lt_of_le_of_lt (Nat.zero_le _) hlt) hg); have HMq' := Aside0.mk (HMq.out.grown (Nat.lt_of_le_of_lt (Nat.zero_le _) hlt) hg ho); clear HMq HBq hg ho; have HMq := HMq'; have HBq := HBq'; clear HMq' HBq'))
          all_goals
            go_wp2
            go_roundw
            case rel => exact ⟨k + 1, by omega, by go_num, HMq, HBq⟩
            case measure => simp [intOf]; omega
        · obtain rfl : k = n := by omega
          go_wp2
          go_roundw
          case rel =>
            have h1 := HMq.out
            rw [mulTo_row] at h1
            exact ⟨i + 1, by omega, by go_num, ⟨h1⟩, HBq⟩
          case measure => simp [intOf]; omega
    · obtain rfl : i = r := by omega
      obtain ⟨k0, k1, k2, k3⟩ := blk4 HMd.out.mat
      obtain ⟨j0, j1, j2, j3⟩ := blk4 HMd.out.res
      have z0 := blk_frozen HMd.out.res 0
      have z1 := blk_frozen HMd.out.res 1
      have z2 := blk_frozen HMd.out.res 2
      have z3 := blk_frozen HMd.out.res 3
      go_wp2
      obtain ⟨f1, f2, f3⟩ := (HMd.out.congr (mulTo_all m n F G i c)).fin
      refine bodyPost_ret (results_ct rfl _ _ (w.heap.size + 1 + 1) 24 #[.int .i64 m, .int .i64 i, .int .i64 c, .slice A3 (i * c) cap3] (0, 0) _ rfl f1 Tryd.underlying24 rfl (by kernel_rfl)) rfl ?_
      rw [HFe.out, HGe.out] at f2
      exact ⟨_, rfl, f2, f3⟩
theorem matrix_Mul.mono (a0_0 a0_1 a0_2 : Int) (l0_3 : List Int) (a1_0 a1_1 a1_2 : Int) (l1_3 : List Int) (k : Nat) : LeO (matrix_Mul.f k a0_0 a0_1 a0_2 l0_3 a1_0 a1_1 a1_2 l1_3) (matrix_Mul.f (k + 1) a0_0 a0_1 a0_2 l0_3 a1_0 a1_1 a1_2 l1_3) := LeO.refl _
theorem matrix_Mul.calls (k : Nat) (a0_0 : Int) (a0_1 : Int) (a0_2 : Int) (A0_3 : Option Addr) (c0_3 : Nat) (l0_3 : List Int) (a1_0 : Int) (a1_1 : Int) (a1_2 : Int) (A1_3 : Option Addr) (c1_3 : Nat) (l1_3 : List Int) (r1 : Int) (r2 : Int) (r3 : Int) (r4 : List Int) (r5 : Int) (w : World) (hff : FF w)
    (hr0_3 : Kd.C (Kd.int .i64) w A0_3 l0_3.length l0_3) (hc0_3 : l0_3.length ≤ c0_3) (hr1_3 : Kd.C (Kd.int .i64) w A1_3 l1_3.length l1_3) (hc1_3 : l1_3.length ≤ c1_3) (h : matrix_Mul.f k a0_0 a0_1 a0_2 l0_3 a1_0 a1_1 a1_2 l1_3 = some (r1, r2, r3, r4, r5)) :
    Calls Tryd.prog 16 #[.agg #[.int .i64 a0_0, .int .i64 a0_1, .int .i64 a0_2, .slice A0_3 l0_3.length c0_3], .agg #[.int .i64 a1_0, .int .i64 a1_1, .int .i64 a1_2, .slice A1_3 l1_3.length c1_3]] w fun e w' =>
      ∃ v3_ : Value, e = .returned (.tuple #[.agg #[.int .i64 r1, .int .i64 r2, .int .i64 r3, v3_], .int .i64 r5]) ∧ Kd.R (Kd.int .i64) 3 w' w.heap.size (fun _ => True) v3_ r4 ∧ Below w.heap.size w w' := by
  unfold matrix_Mul.f at h
  by_cases hc : validB a0_0 a0_1 a0_2 l0_3 = true ∧ validB a1_0 a1_1 a1_2 l1_3 = true ∧ a0_0 = a1_0 ∧ a0_2 = a1_1
  · rw [if_pos hc] at h
    simp only [Option.some.injEq, Prod.mk.injEq] at h
    obtain ⟨rfl, rfl, rfl, rfl, rfl⟩ := h
    obtain ⟨h1, h2, rfl, rfl⟩ := hc
    obtain ⟨m, a, b, hm, rfl, rfl, rfl, ha, hb, hl, hin⟩ := valid_open h1
    obtain ⟨m', a', b', hm', e1, e2, rfl, ha', hb', hl', hin'⟩ := valid_open h2
    obtain rfl : m = m' := by omega
    obtain rfl : b = a' := by omega
    exact mul_ok m a b b' hm ha hb hb' A0_3 A1_3 c0_3 c1_3 l0_3 l1_3 hc0_3 hc1_3 hl hl' hin hin' w hff hr0_3 hr1_3
  · rw [if_neg hc] at h
    simp only [Option.some.injEq, Prod.mk.injEq] at h
    obtain ⟨rfl, rfl, rfl, rfl, rfl⟩ := h
    cases hv : validB a0_0 a0_1 a0_2 l0_3 with
    | false => exact mul_bad1 _ _ _ _ _ _ _ _ _ _ _ _ w hr0_3 hr1_3 hv
    | true =>
      cases hv' : validB a1_0 a1_1 a1_2 l1_3 with
      | false => exact mul_bad2 _ _ _ _ _ _ _ _ _ _ _ _ w hr0_3 hr1_3 hv hv'
      | true => exact mul_bad3 _ _ _ _ _ _ _ _ _ _ _ _ w hr0_3 hr1_3 hv hv' (fun h2 => hc ⟨hv, hv', h2⟩)
end Go.Proofs.YtfigcmmmpndpjaaDoor.H
/- What matrix.Pick answers. -/
namespace Go.Proofs.YtfigcmmmpndpjaaDoor.H
open Go.RowKit Go.Proofs.YtfigcmmmpndpjaaDoorW.PrintWords Go.Proofs.YtfigcmmmpndpjaaDoorW.PrintLast Go.Proofs.YtfigcmmmpndpjaaDoorW.PrintMore Go.Proofs.YtfigcmmmpndpjaaDoor.P
set_option linter.unusedVariables false
set_option linter.unusedSimpArgs false
theorem info3i : (Tryd.prog.info? 3).map (fun i => (i.zero, i.size, i.bytes)) = some (some (.int .i64 0), 1, 8) := by kernel_rfl
/-- append of whole numbers that lie in memory (or of none), at a step of a region -/
theorem step_append_ints {ops : Array Oper} {o : Oper} {a : Act} {K : Act → World → Prop} {Q : Exit → Act → World → Prop} {E : Prop} {W : World} (hgd : o.guard = none) (s x : Operand)
    (ho : o.op = .call { callee := .builtin .append, args := #[s, x], argTypes := #[22, 22] }) (base : Nat)
    (v : Value) (xs ys : List Int) (A : Option Addr) (m c : Nat) (hs : a.eval s = v) (hx : a.eval x = .slice A m c)
    (HO : W.ownsRow base 3 1 v xs.length (nums .i64 xs)) (HR : ReadsInt W .i64 A m ys) (hbase : base ≤ W.heap.size) (hl : (xs.length + m) * 8 ≤ 140737488355328)
    (h : ∀ v1 w1, w1.ownsRow base 3 1 v1 (xs ++ ys).length (nums .i64 (xs ++ ys)) → W.grownBy w1 v.ownBlock → K (a.put o.dst v1) w1) :
    if Region.wanted o (yielded ops a.tmps) = true then Oper.wp Tryd.prog o a W K Q else E := by
  have ht := Tryd.underlying22
  obtain ⟨i0, hi, hzz⟩ := Option.map_eq_some_iff.1 info3i
  simp only [Prod.mk.injEq] at hzz
  obtain ⟨hz0, hz1, hz2⟩ := hzz
  have hm : ys.length = m := HR.1
  have hrun : ∃ v1 w1, (Builtin.append_ #[22, 22] o.type #[v, .slice A m c]).run Tryd.prog W = .ok v1 w1 ∧ w1.ownsRow base 3 1 v1 (xs ++ ys).length (nums .i64 (xs ++ ys)) ∧ W.grownBy w1 v.ownBlock := by
    rcases A with _ | ad
    · have h0 : m = 0 := by
        rcases Nat.eq_zero_or_pos m with h0 | h0
        · exact h0
        · obtain ⟨ad, h, _⟩ := HR.2.2 h0
          cases h
      subst h0
      obtain rfl : ys = [] := List.eq_nil_of_length_eq_zero hm
      refine ⟨v, W, ?_, by simpa using HO, World.grownBy.refl W _⟩
      rcases HO.2 with ⟨rfl, hn⟩ | ⟨g, cap, cur, rfl, _, _, hnc, _⟩
      · simp [Builtin.append_, run_underlying ht, sizeOf, typeInfo, hi, Builtin.lenOf, Builtin.firstCells]
      · simp [Builtin.append_, run_underlying ht, sizeOf, typeInfo, hi, Builtin.lenOf, Builtin.firstCells, hnc, storeCells]
    · have hcells : ∀ j u, (nums .i64 ys)[j]? = some u → W.cell? (ad.add j) = some u := by
        intro j u hu
        have hj : j < ys.length := by
          rcases Nat.lt_or_ge j ys.length with h | h
          · exact h
          · simp [nums, List.getElem?_eq_none h] at hu
        obtain ⟨ad', h', hc⟩ := HR.2.2 (by omega)
        injection h' with h'
        subst h'
        have := hc j (by omega)
        simp [nums, List.getElem?_eq_getElem hj] at hu
        subst hu
        rw [this]
        simp [List.getD_eq_getElem?_getD, List.getElem?_eq_getElem hj]
      obtain ⟨v1, w1, hr, h2, h3, _, h5⟩ := run_append_own_at (P := Tryd.prog) W base 22 o.type 3 i0 (.int .i64 0) 1 8 ht hi hz0 hz1 hz2 rfl (by omega) v xs.length (nums .i64 xs) HO ad m c (nums .i64 ys) (by simp [nums, hm]) hcells
        (by intro u hu; simp only [nums, List.mem_map] at hu; obtain ⟨q, _, rfl⟩ := hu; rfl) (by simp only [maxLen]; omega) hl hbase
      exact ⟨v1, w1, hr, by simpa [nums, hm] using h2, h3⟩
  obtain ⟨v1, w1, hr, hown, hg⟩ := hrun
  rw [if_pos (by simp [Region.wanted, hgd])]
  unfold Oper.wp execOp
  simp only [ho, resolve, invoke, builtin, Sem.run_bind, Sem.run_pure, Result.andThen_ok, List.map_toArray, List.map_cons, List.map_nil, hs, hx, hr]
  exact h v1 w1 hown hg
/-- What holds while rows are picked. -/
structure PickI (w W : World) (gb gc m n c : Nat) (v : Value) (xs : List Int) : Prop where
  below : Below w.heap.size w W
  lob : w.heap.size ≤ gb
  loc : w.heap.size ≤ gc
  ne : gb ≠ gc
  res : W.heap[gb]? = some (.cells #[.int .i64 0, .int .i64 0, .int .i64 0, .slice none 0 0] 24 (0, 0))
  mat : W.heap[gc]? = some (.cells #[.int .i64 m, .int .i64 n, .int .i64 c, v] 24 (0, 0))
  own : Kd.R (Kd.int .i64) 3 W w.heap.size (fun _ => True) v xs
theorem PickI.next {w W W2 : World} {gb gc m n c : Nat} {v : Value} {xs : List Int} (h : PickI w W gb gc m n c v xs) (hb : Below W.heap.size W W2) : PickI w W2 gb gc m n c v xs :=
  ⟨below_step h.below hb, h.lob, h.loc, h.ne, blk_below h.res hb, blk_below h.mat hb, Kd.R_below h.own hb⟩
theorem PickI.drew {w W : World} {gb gc m n c : Nat} {v : Value} {xs : List Int} (h : PickI w W gb gc m n c v xs) : PickI w W.drew gb gc m n c v xs := h.next (below_drew (Below.refl _ _))
theorem PickI.owns {w W : World} {gb gc m n c : Nat} {v : Value} {xs : List Int} (h : PickI w W gb gc m n c v xs) : W.ownsRow w.heap.size 3 1 v xs.length (nums .i64 xs) := Kd.own_of_R h.own
theorem PickI.app {w W w1 : World} {gb gc m n c : Nat} {v v1 : Value} {xs ys : List Int} (h : PickI w W gb gc m n c v xs) (hown : w1.ownsRow w.heap.size 3 1 v1 (xs ++ ys).length (nums .i64 (xs ++ ys))) (hg : W.grownBy w1 v.ownBlock) :
    w1.heap[gc]? = some (.cells #[.int .i64 m, .int .i64 n, .int .i64 c, v] 24 (0, 0)) ∧ PickI w (w1.setCell ⟨gc, 3, none⟩ v1) gb gc m n c v1 (xs ++ ys) := by
  have hb := pw_below_grown h.below v.ownBlock h.below.size hg (Kd.R_base h.own)
  have h1 := blk_grown h.mat hg (Kd.R_ne h.own h.mat (by decide))
  have hr : Kd.R (Kd.int .i64) 3 w1 w.heap.size (fun _ => True) v1 (xs ++ ys) := Kd.R_of_own hown (fun _ _ => trivial)
  refine ⟨h1, below_set hb h.loc, h.lob, h.loc, h.ne, blk_far (blk_grown h.res hg (Kd.R_ne h.own h.res (by decide))) h.ne _, blk_put h1 3 v1 rfl, Kd.R_set hr h1 (by decide) 3 v1⟩
theorem PickI.fin {w W : World} {gb gc m n c k cap : Nat} {A : Option Addr} {xs : List Int} (h : PickI w W gb gc m n c (.slice A k cap) xs) :
    (outW W gb m n c A k cap).heap[gb]? = some (.cells #[.int .i64 m, .int .i64 n, .int .i64 c, .slice A k cap] 24 (0, 0)) ∧ Kd.R (Kd.int .i64) 3 (outW W gb m n c A k cap) w.heap.size (fun _ => True) (.slice A k cap) xs ∧ Below w.heap.size w (outW W gb m n c A k cap) := by
  refine ⟨?_, ?_, ?_⟩
  · exact blk_put (blk_put (blk_put (blk_put h.res 0 (.int .i64 m) rfl) 1 (.int .i64 n) rfl) 2 (.int .i64 c) rfl) 3 (.slice A k cap) rfl
  · have k := Kd.R_types h.own h.res (by decide)
    exact Kd.R_mono (Kd.R_far (p := ⟨gb, 3, none⟩) (Kd.R_far (p := ⟨gb, 2, none⟩) (Kd.R_far (p := ⟨gb, 1, none⟩) (Kd.R_far (p := ⟨gb, 0, none⟩) k (fun _ hk => hk.2) _) (fun _ hk => hk.2) _) (fun _ hk => hk.2) _) (fun _ hk => hk.2) _) (fun _ _ => trivial)
  · exact below_set (below_set (below_set (below_set h.below h.lob) h.lob) h.lob) h.lob
/-- the cells of the rows picked so far -/
def picked (c : Nat) (l rows : List Int) (t : Nat) : List Int := Mx.cells t c (fun i j => Mx.el c l (rd rows i).toNat j)
/-- a row's numbers -/
def rowL (c : Nat) (l : List Int) (i : Nat) : List Int := (List.range c).map fun j => ((Mx.el c l i j : Nat) : Int)
theorem picked_snoc (c : Nat) (l rows : List Int) (t : Nat) : picked c l rows t ++ rowL c l (rd rows t).toNat = picked c l rows (t + 1) := by
  refine Mx.cells_ext (by simp [picked, rowL, Mx.cells_len, Nat.succ_mul]) fun i j hi hj => ?_
  by_cases h : i < t
  · have hlt : i * c + j < (picked c l rows t).length := by rw [picked, Mx.cells_len]; exact Mx.idx_lt h hj
    rw [List.getD_eq_getElem?_getD, List.getElem?_append_left hlt, ← List.getD_eq_getElem?_getD]
    exact Mx.cells_getD _ h hj
  · obtain rfl : i = t := by omega
    have hle : (picked c l rows i).length ≤ i * c + j := by rw [picked, Mx.cells_len]; omega
    rw [List.getD_eq_getElem?_getD, List.getElem?_append_right hle, picked, Mx.cells_len]
    have : i * c + j - i * c = j := by omega
    rw [this]
    simp [rowL, hj]
theorem picked_len (c : Nat) (l rows : List Int) (t : Nat) : (picked c l rows t).length = t * c := by rw [picked, Mx.cells_len]
/-- a row that was handed back can be read -/
theorem row_reads {w : World} {A A' : Option Addr} {r c i m : Nat} {l : List Int} (hl : Kd.C (Kd.int .i64) w A l.length l) (hR : RowAt A (i * c) c A') (hi : i < r) (hn : l.length = r * c) (hin : ∀ x ∈ l, 0 ≤ x ∧ x < 2 ^ m) (hc : c ≤ 64) :
    ReadsInt w .i64 A' c (rowL c l i) := by
  have hlen : (rowL c l i).length = c := by simp [rowL]
  have key : ∀ k, k < c → ∃ ad, A' = some ad ∧ w.cell? (ad.add k) = some (.int .i64 ((rowL c l i).getD k 0)) := fun k hk => by
    obtain ⟨ad, e, hx⟩ := row_cell (k := k) (n := 0) hl hR hk (by rw [hn]; exact row_fits hi)
    rw [rd_el hn hin hi hk] at hx
    refine ⟨ad, e, ?_⟩
    rw [hx]
    simp [rowL, hk]
  refine ⟨hlen, by omega, fun h0 => ?_⟩
  obtain ⟨ad, e, _⟩ := key 0 h0
  refine ⟨ad, e, fun k hk => ?_⟩
  obtain ⟨ad', e', hx⟩ := key k hk
  rw [e] at e'
  cases e'
  exact hx
/-- what matrix.Pick answers -/
def matrix_Pick.f (a0_0 a0_1 a0_2 : Int) (l0_3 : List Int) (l1 : List Int) : Option (Int × Int × Int × List Int × Int) :=
  some (if validB a0_0 a0_1 a0_2 l0_3 = true ∧ l1.length ≤ 32 ∧ ∀ x ∈ l1, 0 ≤ x ∧ x < a0_1 then (a0_0, (l1.length : Int), a0_2, picked a0_2.toNat l0_3 l1 l1.length, 0) else (0, 0, 0, [], 1))
/-- the world in which the argument and a zero result have just been laid -/
def twoW (w : World) (f r c : Int) (A : Option Addr) (n cap : Nat) : World :=
  (w.alloc (.cells #[.int .i64 f, .int .i64 r, .int .i64 c, .slice A n cap] 24 (0, 0))).alloc (.cells #[.int .i64 0, .int .i64 0, .int .i64 0, .slice none 0 0] 24 (0, 0))
theorem two_box (w : World) (f r c : Int) (A : Option Addr) (n cap : Nat) : Below w.heap.size w (twoW w f r c A n cap) ∧ (twoW w f r c A n cap).heap[w.heap.size]? = some (.cells #[.int .i64 f, .int .i64 r, .int .i64 c, .slice A n cap] 24 (0, 0)) ∧
    (twoW w f r c A n cap).heap[w.heap.size + 1]? = some (.cells #[.int .i64 0, .int .i64 0, .int .i64 0, .slice none 0 0] 24 (0, 0)) := by
  refine ⟨below_alloc (below_alloc (Below.refl _ _) _) _, blk_alloc (heap_alloc_new w _) _, ?_⟩
  have := heap_alloc_new (w.alloc (.cells #[.int .i64 f, .int .i64 r, .int .i64 c, .slice A n cap] 24 (0, 0))) (.cells #[.int .i64 0, .int .i64 0, .int .i64 0, .slice none 0 0] 24 (0, 0))
  rw [World.size_alloc] at this
  exact this
set_option maxRecDepth 100000 in
set_option maxHeartbeats 4000000 in
theorem pick_bad (f r c : Int) (A Ar : Option Addr) (cap n capr : Nat) (l : List Int) (w : World) (hl : Kd.C (Kd.int .i64) w A l.length l) (hn : n ≤ 9223372036854775807) (h : validB f r c l = false ∨ (validB f r c l = true ∧ 32 < n)) :
    Calls Tryd.prog 25 #[.agg #[.int .i64 f, .int .i64 r, .int .i64 c, .slice A l.length cap], .slice Ar n capr] w (Back w 0 0 0 [] 1) := by
  have HL := Aside0.mk hl
  have H2 := Aside0.mk (two_box w f r c A l.length cap)
  clear hl
  rcases h with hv | ⟨hv, h32⟩
  all_goals
    have HV := Aside0.mk hv
    clear hv
    go_enter Tryd.func25, Tryd.ntmps25
    go_wp2_with fail
    refine (valid_is _ f r c A cap l _ (Kd.C_below HL.out H2.out.1) HV.out).mono ?_
    rintro e w1 ⟨rfl, hb⟩
    have HB := Aside0.mk (below_step H2.out.1 hb)
    have HRes := Aside0.mk (blk_below H2.out.2.2 hb)
    clear hb
    obtain ⟨j0, j1, j2, j3⟩ := blk4 HRes.out
    have z0 := blk_frozen HRes.out 0
    have z1 := blk_frozen HRes.out 1
    have z2 := blk_frozen HRes.out 2
    have z3 := blk_frozen HRes.out 3
    go_wp2_with fail
    obtain ⟨f1, f2⟩ := bad_fin (w := w) (gb := w.heap.size + 1) HB.out (by omega) HRes.out
    refine bodyPost_ret (results_ct rfl _ _ (w.heap.size + 1) 24 #[.int .i64 0, .int .i64 0, .int .i64 0, .slice none 0 0] (0, 0) _ rfl f1 Tryd.underlying24 rfl (by kernel_rfl)) rfl ?_
    exact ⟨_, rfl, Kd.R_nil _ _ _ _ _, f2⟩
/-- how the call ends -/
def PickEnd (m r c : Nat) (l rows : List Int) (w : World) (e : Ending) (w' : World) : Prop := if ∀ x ∈ rows, 0 ≤ x ∧ x < (r : Int) then Back w m rows.length c (picked c l rows rows.length) 0 e w' else Back w 0 0 0 [] 1 e w'
theorem rd_mem {l : List Int} {t : Nat} (h : t < l.length) : rd l t ∈ l := by
  unfold rd
  rw [Int.toNat_natCast, List.getD_eq_getElem?_getD, List.getElem?_eq_getElem h]
  exact List.getElem_mem h
theorem all_rd {l : List Int} {P : Int → Prop} (h : ∀ t : Nat, t < l.length → P (rd l t)) : ∀ x ∈ l, P x := by
  intro x hx
  obtain ⟨t, ht, rfl⟩ := List.getElem_of_mem hx
  have := h t ht
  unfold rd at this
  rw [Int.toNat_natCast, List.getD_eq_getElem?_getD, List.getElem?_eq_getElem ht] at this
  exact this
set_option maxRecDepth 100000 in
set_option maxHeartbeats 8000000 in
theorem pick_ok (m r c : Nat) (hm : Gf.Ok m) (hr : r ≤ 32) (hc : c ≤ 32) (A Ar : Option Addr) (cap capr : Nat) (l rows : List Int) (hcap : l.length ≤ cap) (hln : l.length = r * c) (hrn : rows.length ≤ 32)
    (hin : ∀ x ∈ l, 0 ≤ x ∧ x < 2 ^ m) (w : World) (hl : Kd.C (Kd.int .i64) w A l.length l) (hl' : Kd.C (Kd.int .i64) w Ar rows.length rows) :
    Calls Tryd.prog 25 #[.agg #[.int .i64 m, .int .i64 r, .int .i64 c, .slice A l.length cap], .slice Ar rows.length capr] w
      (PickEnd m r c l rows w) := by
  have HL := Aside0.mk hl
  have HL' := Aside0.mk hl'
  have HV := Aside0.mk (valid_mk hm hr hc hln hin)
  have H2 := Aside0.mk (two_box w m r c A l.length cap)
  have HN := Aside0.mk hln
  have HI := Aside0.mk hin
  have HP := Aside0.mk hcap
  have HM := Aside0.mk hm
  have HA := Aside0.mk (show 0 < l.length → ∃ ad, A = some ad from fun h => by obtain ⟨ad, e, _⟩ := Kd.at_int hl 0 (by omega) (by omega); exact ⟨ad, e⟩)
  clear hl hl' hln hin hcap hm
  go_enter Tryd.func25, Tryd.ntmps25
  go_wp2_with fail
  refine (valid_is true m r c A cap l _ (Kd.C_below HL.out H2.out.1) HV.out).mono ?_
  rintro e w1 ⟨rfl, hb⟩
  have HB := Aside0.mk (below_step H2.out.1 hb)
  have HRes := Aside0.mk (blk_below H2.out.2.2 hb)
  have HBx := Aside0.mk (blk_below H2.out.2.1 hb)
  clear hb
  obtain ⟨k0, k1, k2, k3⟩ := blk4 HBx.out
  go_wp2_with fail
  clear k0 k1 k2 k3
  go_loopw [27] (fun i_ wr => ∃ t : Nat, t ≤ rows.length ∧ i_ = .int .i64 t ∧ ∃ v : Value, Aside0 (PickI w wr (w.heap.size + 1) w1.heap.size m rows.length c v (picked c l rows t)) ∧ Aside0 (wr.heap[w.heap.size]? = some (.cells #[.int .i64 m, .int .i64 r, .int .i64 c, .slice A l.length cap] 24 (0, 0))) ∧ Aside0 (∀ j : Nat, j < t → 0 ≤ rd rows j ∧ rd rows j < (r : Int))) (fun i_ _ => rows.length - (intOf i_).toNat)
  case atStart =>
    have hlt := blk_lt HRes.out
    have hbel : Below w1.heap.size w1 (w1.alloc (.cells #[.int .i64 m, .int .i64 rows.length, .int .i64 c, .slice none 0 0] 24 (0, 0))) := below_alloc (Below.refl _ _) _
    refine ⟨0, Nat.zero_le _, rfl, .slice none 0 0, ⟨⟨below_step HB.out hbel, by omega, HB.out.size, by omega, blk_below HRes.out hbel, heap_alloc_new w1 _, ?_⟩⟩, ⟨blk_below HBx.out hbel⟩, ⟨fun j h => by omega⟩⟩
    have e : picked c l rows 0 = [] := List.eq_nil_of_length_eq_zero (by rw [picked_len, Nat.zero_mul])
    rw [e]
    exact Kd.R_nil _ _ _ _ _
  case round =>
    obtain ⟨t, ht, rfl, v, HPk, HBr, HOk⟩ := hrel
    obtain ⟨A2, cap2, rfl⟩ := Kd.R_slice HPk.out.own
    obtain ⟨k0, k1, k2, k3⟩ := blk4 HBr.out
    obtain ⟨j0, j1, j2, j3⟩ := blk4 HPk.out.res
    have z0 := blk_frozen HPk.out.res 0
    have z1 := blk_frozen HPk.out.res 1
    have z2 := blk_frozen HPk.out.res 2
    have z3 := blk_frozen HPk.out.res 3
    by_cases hlt : t < rows.length
    · obtain ⟨ad, rfl, hx⟩ := Kd.at_int (Kd.C_below HL'.out HPk.out.below) (t : Int) (by omega) (by omega)
      obtain ⟨x, hxe⟩ : ∃ x, x = rd rows t := ⟨_, rfl⟩
      have hx' : wr.cell? (ad.add t) = some (.int .i64 x) := by rw [hxe]; exact hx
      clear hx
      have HX := Aside0.mk hxe
      clear hxe
      by_cases hok : 0 ≤ x ∧ x < (r : Int)
      · obtain ⟨i, rfl⟩ := Int.eq_ofNat_of_zero_le hok.1
        have hi : i < r := by omega
        have HFt := Aside0.mk (show (i + 1) * c ≤ l.length by rw [HN.out]; exact row_fits hi)
        obtain ⟨b0, b1, b2, b3⟩ := blk4 HPk.out.mat
        have y3 := blk_frozen HPk.out.mat 3
        clear hok j0 j1 j2 j3 z0 z1 z2 z3
        go_upto_region 9 with (fail)
        have HA2 := Aside0.mk (show (picked c l rows t).length * 8 + c * 8 ≤ 140737488355328 by
          rw [picked_len]
          have : t * c ≤ 32 * 32 := Nat.mul_le_mul (by omega) hc
          omega)
        have HQ := Aside0.mk (HPk.out.drew)
        have HQb := Aside0.mk HBr.out
        go_region_law (first | (refine step_append_ints (by rfl) _ _ (by rfl) w.heap.size _ _ _ _ _ _ (by rfl) (by rfl) HQ.out.owns (row_reads (Kd.C_below HL.out HQ.out.below) HR.out hi HN.out HI.out (by omega)) HQ.out.below.size (by have := HA2.out; omega) ?_; intro v1 w4 hown hg; obtain ⟨A5, cap5, rfl⟩ := own_slice hown; obtain ⟨hmat, hPI⟩ := HQ.out.app hown hg; have HPI := Aside0.mk hPI; have HBX := Aside0.mk (blk_far (p := ⟨w1.heap.size, 3, none⟩) (blk_grown HQb.out hg (Kd.R_ne HQ.out.own HQb.out (by decide))) (Nat.ne_of_lt (blk_lt HBx.out)) (.slice A5 (picked c l rows t ++ rowL c l i).length cap5)); clear hPI; have y4 := (blk4 hmat).2.2.2; have y5 := blk_frozen hmat 3) | (refine goes_ (N := some 44) Tryd.func36 (by kernel_rfl) rfl #[.agg #[.int .i64 m, .int .i64 r, .int .i64 c, .slice A l.length cap], .int .i64 i] (by rfl) (by rfl) (by rfl) (by (try simp only [List.map_toArray, List.map_cons, List.map_nil]); first | done | rfl) ?_; (with_reducible refine (row_calls m r c l.length cap i A _ HA.out (by omega) (by omega) HFt.out HP.out).mono ?_); rintro e w3 ⟨A3, c3, rfl, hc3, hR, hb⟩; refine ⟨_, rfl, ?_⟩; have HR := Aside0.mk hR; have HQ' := Aside0.mk (HQ.out.next (by first | exact hb | exact below_undrew hb)); clear HQ; have HQ := HQ'; clear HQ'; have HQb' := Aside0.mk (blk_below HQb.out (by first | exact hb | exact below_undrew hb)); clear HQb; have HQb := HQb'; clear HQb'; have y6 := (blk4 HQ.out.mat).2.2.2))
        all_goals
          go_wp2
          go_roundw
          case rel =>
            have h1 := HPI.out
            have e : rowL c l i = rowL c l (rd rows t).toNat := by rw [← HX.out]; rfl
            have e2 : picked c l rows t ++ rowL c l i = picked c l rows (t + 1) := by rw [e]; exact picked_snoc c l rows t
            rw [List.length_append, e2] at h1
            have h2 := HBX.out
            rw [List.length_append] at h2
            refine ⟨t + 1, by omega, by go_num, _, ⟨h1⟩, ⟨h2⟩, ⟨fun j hj => ?_⟩⟩
            by_cases hjt : j = t
            · subst hjt; rw [← HX.out]; omega
            · exact HOk.out j (by omega)
          case measure => simp [intOf]; omega
      · have HNo := Aside0.mk (show ¬ ∀ x ∈ rows, 0 ≤ x ∧ x < (r : Int) from fun h => hok (HX.out ▸ h _ (rd_mem hlt)))
        rcases (show x < 0 ∨ (0 ≤ x ∧ (r : Int) ≤ x) by omega) with h1 | ⟨h1, h2⟩
        all_goals
          clear hok
          go_wp2
          obtain ⟨f1, f2⟩ := bad_fin (w := w) (gb := w.heap.size + 1) HPk.out.below (by omega) HPk.out.res
          refine bodyPost_ret (results_ct rfl _ _ (w.heap.size + 1) 24 #[.int .i64 0, .int .i64 0, .int .i64 0, .slice none 0 0] (0, 0) _ rfl f1 Tryd.underlying24 rfl (by kernel_rfl)) rfl ?_
          unfold PickEnd
          rw [if_neg HNo.out]
          exact ⟨_, rfl, Kd.R_nil _ _ _ _ _, f2⟩
    · obtain rfl : t = rows.length := by omega
      obtain ⟨b0, b1, b2, b3⟩ := blk4 HPk.out.mat
      have HYes := Aside0.mk (show ∀ x ∈ rows, 0 ≤ x ∧ x < (r : Int) from all_rd HOk.out)
      go_wp2
      obtain ⟨f1, f2, f3⟩ := HPk.out.fin
      refine bodyPost_ret (results_ct rfl _ _ (w.heap.size + 1) 24 #[.int .i64 m, .int .i64 rows.length, .int .i64 c, .slice A2 (picked c l rows rows.length).length cap2] (0, 0) _ rfl f1 Tryd.underlying24 rfl (by kernel_rfl)) rfl ?_
      unfold PickEnd
      rw [if_pos HYes.out]
      exact ⟨_, rfl, f2, f3⟩
theorem matrix_Pick.calls (a0_0 : Int) (a0_1 : Int) (a0_2 : Int) (A0_3 : Option Addr) (c0_3 : Nat) (l0_3 : List Int) (A1 : Option Addr) (c1 : Nat) (l1 : List Int) (r1 : Int) (r2 : Int) (r3 : Int) (r4 : List Int) (r5 : Int) (w : World)
    (hr0_3 : Kd.C (Kd.int .i64) w A0_3 l0_3.length l0_3) (hc0_3 : l0_3.length ≤ c0_3) (hr1 : Kd.C (Kd.int .i64) w A1 l1.length l1) (hc1 : l1.length ≤ c1) (h : matrix_Pick.f a0_0 a0_1 a0_2 l0_3 l1 = some (r1, r2, r3, r4, r5)) :
    Calls Tryd.prog 25 #[.agg #[.int .i64 a0_0, .int .i64 a0_1, .int .i64 a0_2, .slice A0_3 l0_3.length c0_3], .slice A1 l1.length c1] w fun e w' =>
      ∃ v3_ : Value, e = .returned (.tuple #[.agg #[.int .i64 r1, .int .i64 r2, .int .i64 r3, v3_], .int .i64 r5]) ∧ Kd.R (Kd.int .i64) 3 w' w.heap.size (fun _ => True) v3_ r4 ∧ Below w.heap.size w w' := by
  unfold matrix_Pick.f at h
  cases hv : validB a0_0 a0_1 a0_2 l0_3 with
  | false =>
    rw [hv, if_neg (fun h => by simp at h)] at h
    simp only [Option.some.injEq, Prod.mk.injEq] at h
    obtain ⟨rfl, rfl, rfl, rfl, rfl⟩ := h
    exact pick_bad a0_0 a0_1 a0_2 A0_3 A1 c0_3 l1.length c1 l0_3 w hr0_3 (Kd.C_max hr1) (.inl hv)
  | true =>
    by_cases hn : l1.length ≤ 32
    · obtain ⟨m, a, b, hm, rfl, rfl, rfl, ha, hb, hl, hin⟩ := valid_open hv
      have := pick_ok m a b hm ha hb A0_3 A1 c0_3 c1 l0_3 l1 hc0_3 hl hn hin w hr0_3 hr1
      refine this.mono fun e w' hp => ?_
      unfold PickEnd at hp
      by_cases hall : ∀ x ∈ l1, 0 ≤ x ∧ x < (a : Int)
      · rw [if_pos hall] at hp
        rw [if_pos ⟨hv, hn, hall⟩] at h
        simp only [Option.some.injEq, Prod.mk.injEq] at h
        obtain ⟨rfl, rfl, rfl, rfl, rfl⟩ := h
        exact hp
      · rw [if_neg hall] at hp
        rw [if_neg (fun h => hall h.2.2)] at h
        simp only [Option.some.injEq, Prod.mk.injEq] at h
        obtain ⟨rfl, rfl, rfl, rfl, rfl⟩ := h
        exact hp
    · rw [if_neg (fun h => hn h.2.1)] at h
      simp only [Option.some.injEq, Prod.mk.injEq] at h
      obtain ⟨rfl, rfl, rfl, rfl, rfl⟩ := h
      exact pick_bad a0_0 a0_1 a0_2 A0_3 A1 c0_3 l1.length c1 l0_3 w hr0_3 (Kd.C_max hr1) (.inr ⟨hv, by omega⟩)
end Go.Proofs.YtfigcmmmpndpjaaDoor.H
/- What slices.Clone and matrix.copied answer. -/
namespace Go.Proofs.YtfigcmmmpndpjaaDoor.H
open Go.RowKit Go.Proofs.YtfigcmmmpndpjaaDoorW.PrintWords Go.Proofs.YtfigcmmmpndpjaaDoorW.PrintLast Go.Proofs.YtfigcmmmpndpjaaDoorW.PrintMore Go.Proofs.YtfigcmmmpndpjaaDoor.P
set_option linter.unusedVariables false
set_option linter.unusedSimpArgs false
/-- a slice of whole numbers in new memory comes back -/
def BackL (w : World) (l : List Int) (e : Ending) (w' : World) : Prop := ∃ v : Value, e = .returned v ∧ Kd.R (Kd.int .i64) 3 w' w.heap.size (fun _ => True) v l ∧ Below w.heap.size w w'
theorem reads_of_kd {w : World} {A : Option Addr} {n : Nat} {l : List Int} (h : Kd.C (Kd.int .i64) w A n l) : ReadsInt w .i64 A n l := Kd.reads_of_C (d := (0 : Int)) h
set_option maxRecDepth 100000 in
set_option maxHeartbeats 2000000 in
theorem clone_none (c : Nat) (w : World) : Calls Tryd.prog 52 #[.slice none 0 c] w (BackL w []) := by
  have hq := fun W : World => Lib.run_eql_slice_nil (P := Tryd.prog) W 22 3 none 0 c 0 0 Tryd.underlying22
  go_enter Tryd.func52, Tryd.ntmps52
  go_wp2
  go_ret
  exact ⟨_, rfl, Kd.R_nil _ _ _ _ _, Below.refl _ _⟩
set_option maxRecDepth 100000 in
set_option maxHeartbeats 2000000 in
theorem clone_some (ad : Addr) (c : Nat) (l : List Int) (hlen : l.length ≤ 4096) (w : World) (hl : Kd.C (Kd.int .i64) w (some ad) l.length l) : Calls Tryd.prog 52 #[.slice (some ad) l.length c] w (BackL w l) := by
  have hq := fun W : World => Lib.run_eql_slice_nil (P := Tryd.prog) W 22 3 (some ad) l.length c 0 0 Tryd.underlying22
  have HL := Aside0.mk hl
  clear hl
  go_enter Tryd.func52, Tryd.ntmps52
  go_wp2_with (at_builtin; refine print_append_row (w0 := w) w.heap.size (by rfl) _ _ 22 3 .i64 8 (by rfl) Tryd.underlying22 info3i (by omega) (.slice (some ⟨w.heap.size, 0, none⟩) 0 0) [] l (some ad) l.length c (by rfl) (by rfl) (own_lit w w.heap.size 3 .i64 [] (Nat.le_refl _) (by simp)) (reads_of_kd (Kd.C_alloc HL.out _)) (below_alloc (Below.refl _ _) _) (by simp) (by simp; omega) ?_; intro v1 w1 hown hbel hg hat; have HO := Aside0.mk hown; have HB := Aside0.mk hbel; clear hown hbel hg hat)
  go_ret
  exact ⟨_, rfl, Kd.R_of_own HO.out (fun _ _ => trivial), HB.out⟩
theorem clone_any (A : Option Addr) (c : Nat) (l : List Int) (hlen : l.length ≤ 4096) (w : World) (hl : Kd.C (Kd.int .i64) w A l.length l) : Calls Tryd.prog 52 #[.slice A l.length c] w (BackL w l) := by
  cases A with
  | some ad => exact clone_some ad c l hlen w hl
  | none =>
    have h0 : l.length = 0 := by
      rcases Nat.eq_zero_or_pos l.length with h | h
      · exact h
      · obtain ⟨ad, h, _⟩ := Kd.at_int hl 0 (by omega) (by omega); cases h
    obtain rfl := List.eq_nil_of_length_eq_zero h0
    exact clone_none c w
set_option maxRecDepth 100000 in
set_option maxHeartbeats 4000000 in
theorem copied_any (f r c : Int) (A : Option Addr) (cap : Nat) (l : List Int) (hlen : l.length ≤ 4096) (w : World) (hl : Kd.C (Kd.int .i64) w A l.length l) :
    Calls Tryd.prog 44 #[.agg #[.int .i64 f, .int .i64 r, .int .i64 c, .slice A l.length cap]] w fun e w' => ∃ v : Value, e = .returned (.agg #[.int .i64 f, .int .i64 r, .int .i64 c, v]) ∧ Kd.R (Kd.int .i64) 3 w' w.heap.size (fun _ => True) v l ∧ Below w.heap.size w w' := by
  have HL := Aside0.mk hl
  have H2 := Aside0.mk (two_box w f r c A l.length cap)
  clear hl
  go_enter Tryd.func44, Tryd.ntmps44
  go_wp2_with fail
  refine (clone_any A cap l hlen _ (Kd.C_below HL.out H2.out.1)).mono ?_
  rintro e w1 ⟨v, rfl, ho, hb⟩
  obtain ⟨A1, c1, rfl⟩ := Kd.R_slice ho
  have HB := Aside0.mk (below_step H2.out.1 hb)
  have HO := Aside0.mk (Kd.R_lower ho H2.out.1.size)
  have HRes := Aside0.mk (blk_below H2.out.2.2 hb)
  have HBx := Aside0.mk (blk_below H2.out.2.1 hb)
  clear ho hb
  obtain ⟨k0, k1, k2, k3⟩ := blk4 HBx.out
  obtain ⟨j0, j1, j2, j3⟩ := blk4 HRes.out
  have x3 := blk_frozen HBx.out 3
  have z0 := blk_frozen HRes.out 0
  have z1 := blk_frozen HRes.out 1
  have z2 := blk_frozen HRes.out 2
  have z3 := blk_frozen HRes.out 3
  go_wp2_with fail
  have hr1 := blk_far HRes.out (p := ⟨w.heap.size, 3, none⟩) (by show w.heap.size + 1 ≠ w.heap.size; omega) (.slice A1 l.length c1)
  have f1 := blk_put (blk_put (blk_put (blk_put hr1 0 (.int .i64 f) rfl) 1 (.int .i64 r) rfl) 2 (.int .i64 c) rfl) 3 (.slice A1 l.length c1) rfl
  refine bodyPost_ret (results_cell_row rfl _ _ (w.heap.size + 1) 24 #[.int .i64 f, .int .i64 r, .int .i64 c, .slice A1 l.length c1] (0, 0) _ rfl f1 Tryd.underlying24 rfl (by kernel_rfl)) rfl ?_
  have ho1 := Kd.R_set HO.out HBx.out (by decide) 3 (.slice A1 l.length c1)
  have k := Kd.R_types ho1 hr1 (by decide)
  refine ⟨_, rfl, Kd.R_mono (Kd.R_far (p := ⟨w.heap.size + 1, 3, none⟩) (Kd.R_far (p := ⟨w.heap.size + 1, 2, none⟩) (Kd.R_far (p := ⟨w.heap.size + 1, 1, none⟩) (Kd.R_far (p := ⟨w.heap.size + 1, 0, none⟩) k (fun _ hk => hk.2) _) (fun _ hk => hk.2) _) (fun _ hk => hk.2) _) (fun _ hk => hk.2) _) (fun _ _ => trivial), ?_⟩
  exact below_set (below_set (below_set (below_set (below_set HB.out (Nat.le_refl _)) (by omega)) (by omega)) (by omega)) (by omega)
end Go.Proofs.YtfigcmmmpndpjaaDoor.H
/- What the closure in matrix.reduce does: two rows are exchanged, in memory. -/
namespace Go.Proofs.YtfigcmmmpndpjaaDoor.H
open Go.RowKit Go.Proofs.YtfigcmmmpndpjaaDoorW.PrintWords Go.Proofs.YtfigcmmmpndpjaaDoorW.PrintLast Go.Proofs.YtfigcmmmpndpjaaDoorW.PrintMore Go.Proofs.YtfigcmmmpndpjaaDoor.P
set_option linter.unusedVariables false
set_option linter.unusedSimpArgs false
/-- rows i and k exchanged, before column n -/
def swTo (F : Mx.Fn) (i k n : Nat) : Mx.Fn := fun i' j => if j < n then F (if i' = i then k else if i' = k then i else i') j else F i' j
/-- rows i and k exchanged -/
def sw (F : Mx.Fn) (i k : Nat) : Mx.Fn := fun i' j => F (if i' = i then k else if i' = k then i else i') j
theorem swTo_succ (F : Mx.Fn) (i k n : Nat) : Mx.upd (Mx.upd (swTo F i k n) i n (F k n)) k n (F i n) = swTo F i k (n + 1) := by
  funext i' j
  simp only [Mx.upd, swTo]
  by_cases hj : j = n
  · subst hj
    simp only [and_true, Nat.lt_irrefl, if_false, Nat.lt_succ_self, if_true]
    by_cases h1 : i' = k
    · subst h1
      rw [if_pos rfl]
      by_cases h2 : i' = i
      · rw [if_pos h2, h2]
      · rw [if_neg h2, if_pos rfl]
    · rw [if_neg h1]
      by_cases h2 : i' = i
      · rw [if_pos h2, if_pos h2]
      · rw [if_neg h2, if_neg h2, if_neg h1]
  · rw [if_neg (by simp [hj]), if_neg (by simp [hj])]
    by_cases h1 : j < n
    · rw [if_pos h1, if_pos (show j < n + 1 by omega)]
    · rw [if_neg h1, if_neg (show ¬ j < n + 1 by omega)]
theorem swTo_zero (F : Mx.Fn) (i k : Nat) : swTo F i k 0 = F := by
  funext i' j; simp [swTo]
theorem swTo_all (F : Mx.Fn) (i k r c : Nat) : Mx.cells r c (swTo F i k c) = Mx.cells r c (sw F i k) :=
  Mx.cells_congr fun i' j _ hj => by simp only [swTo, sw, if_pos hj]
theorem swTo_at (F : Mx.Fn) (i k n i' : Nat) : swTo F i k n i' n = F i' n := by simp [swTo]
/-- a struct lies in block ga, its cells in block g -/
structure InM (w W : World) (base ga g m r c cap : Nat) (F : Mx.Fn) : Prop where
  grown : w.grownBy W (some g)
  box : W.heap[ga]? = some (.cells #[.int .i64 m, .int .i64 r, .int .i64 c, .slice (some ⟨g, 0, none⟩) (r * c) cap] 24 (0, 0))
  own : Own W base (some ⟨g, 0, none⟩) (r * c) cap (Mx.cells r c F)
theorem InM.next {w W W2 : World} {base ga g m r c cap : Nat} {F : Mx.Fn} (h : InM w W base ga g m r c cap F) (hb : Below W.heap.size W W2) : InM w W2 base ga g m r c cap F :=
  ⟨gb_trans h.grown (gb_of_below hb g), blk_below h.box hb, Kd.R_below h.own hb⟩
theorem InM.drew {w W : World} {base ga g m r c cap : Nat} {F : Mx.Fn} (h : InM w W base ga g m r c cap F) : InM w W.drew base ga g m r c cap F := h.next (below_drew (Below.refl _ _))
theorem InM.put {w W : World} {base ga g m r c cap i j x : Nat} {F : Mx.Fn} (h : InM w W base ga g m r c cap F) (hi : i < r) (hj : j < c) : InM w (W.setCell ⟨g, i * c + j, none⟩ (.int .i64 (x : Int))) base ga g m r c cap (Mx.upd F i j x) := by
  refine ⟨gb_trans h.grown (gb_set _ _ _ _), blk_far h.box (own_ne h.own h.box (by decide) rfl) _, ?_⟩
  have := own_put h.own (i * c + j) (x : Int)
  rwa [Mx.cells_set _ _ hi hj] at this
theorem InM.congr {w W : World} {base ga g m r c cap : Nat} {F F' : Mx.Fn} (h : InM w W base ga g m r c cap F) (e : Mx.cells r c F = Mx.cells r c F') : InM w W base ga g m r c cap F' := ⟨h.grown, h.box, e ▸ h.own⟩
theorem InM.cells {w W : World} {base ga g m r c cap : Nat} {F : Mx.Fn} (h : InM w W base ga g m r c cap F) :
    W.cell? ⟨ga, 0, none⟩ = some (.int .i64 m) ∧ W.cell? ⟨ga, 1, none⟩ = some (.int .i64 r) ∧ W.cell? ⟨ga, 2, none⟩ = some (.int .i64 c) ∧ W.cell? ⟨ga, 3, none⟩ = some (.slice (some ⟨g, 0, none⟩) (r * c) cap) := blk4 h.box
set_option maxRecDepth 100000 in
set_option maxHeartbeats 8000000 in
theorem swap_calls (m r c cap i k base ga g : Nat) (hr : r ≤ 32) (hc : c ≤ 64) (hc0 : 0 < c) (hi : i < r) (hk : k < r) (F : Mx.Fn) (w : World) (h : InM w w base ga g m r c cap F) :
    Calls Tryd.prog 48 #[.int .i64 i, .int .i64 k, .pointer (some ⟨ga, 0, none⟩)] w fun e w' => e = .returned (.tuple #[]) ∧ InM w w' base ga g m r c cap (sw F i k) := by
  have HI := Aside0.mk h
  have HC := Aside0.mk (Kd.R_reads' h.own).2.1
  have HRi := Aside0.mk (row_fits (c := c) hi)
  have HRk := Aside0.mk (row_fits (c := c) hk)
  clear h
  obtain ⟨a0, a1, a2, a3⟩ := HI.out.cells
  go_enter Tryd.func48, Tryd.ntmps48
  go_wp2_with fail
  go_region_held3 (fun w' => w'.cell? ⟨ga, 0, none⟩ = some (.int .i64 m) ∧ w'.cell? ⟨ga, 1, none⟩ = some (.int .i64 r) ∧ w'.cell? ⟨ga, 2, none⟩ = some (.int .i64 c) ∧ w'.cell? ⟨ga, 3, none⟩ = some (.slice (some ⟨g, 0, none⟩) (r * c) cap)) (first | exact HI.out.cells | exact HI.out.drew.cells) (first | (go_at_call 36; (with_reducible refine (row_calls m r c (r * c) cap i _ _ (fun _ => ⟨_, rfl⟩) (by omega) (by omega) HRi.out HC.out).mono ?_); rintro e w5 ⟨A5, c5, rfl, hc5, hR5, hb⟩; have HR5 := Aside0.mk hR5; clear hR5; have HI' := Aside0.mk (HI.out.next (by first | exact hb | exact below_undrew hb)); clear HI hb; have HI := HI'; clear HI') | (go_at_call 36; (with_reducible refine (row_calls m r c (r * c) cap k _ _ (fun _ => ⟨_, rfl⟩) (by omega) (by omega) HRk.out HC.out).mono ?_); rintro e w6 ⟨A6, c6, rfl, hc6, hR6, hb⟩; have HR6 := Aside0.mk hR6; clear hR6; have HI' := Aside0.mk (HI.out.next (by first | exact hb | exact below_undrew hb)); clear HI hb; have HI := HI'; clear HI'))
  all_goals
    obtain ⟨p, hp, hA5⟩ : ∃ p, p = i * c ∧ A5 = some ⟨g, p, none⟩ := ⟨_, rfl, (HR5.out hc0).trans (congrArg some (add_plain g _))⟩
    obtain ⟨q, hq, hA6⟩ : ∃ q, q = k * c ∧ A6 = some ⟨g, q, none⟩ := ⟨_, rfl, (HR6.out hc0).trans (congrArg some (add_plain g _))⟩
    subst hA5
    subst hA6
    have HPi := Aside0.mk hp
    have HQk := Aside0.mk hq
    clear hp hq a0 a1 a2 a3
    go_wp2
    go_loopw [16] (fun i_ wr => ∃ n : Nat, n ≤ c ∧ i_ = .int .i64 n ∧ Aside0 (InM w wr base ga g m r c cap (swTo F i k n))) (fun i_ _ => c - (intOf i_).toNat)
    case atStart => exact ⟨0, Nat.zero_le _, rfl, ⟨by rw [swTo_zero]; exact HI.out⟩⟩
    case round =>
      obtain ⟨n, hn, rfl, HIn⟩ := hrel
      by_cases hlt : n < c
      · have hx : wr.cell? ⟨g, p + n, none⟩ = some (.int .i64 (F i n : Int)) := by
          have h1 := (own_cell HIn.out.own (i * c + n) (Mx.idx_lt hi hlt)).1
          have e : rd (Mx.cells r c (swTo F i k n)) ((i * c + n : Nat) : Int) = (swTo F i k n i n : Int) := Mx.cells_getD _ hi hlt
          rw [e, swTo_at] at h1
          rw [HPi.out]
          exact h1
        have hxf : wr.frozen? ⟨g, p + n, none⟩ = false := by
          rw [HPi.out]; exact (own_cell HIn.out.own (i * c + n) (Mx.idx_lt hi hlt)).2
        have hy : wr.cell? ⟨g, q + n, none⟩ = some (.int .i64 (F k n : Int)) := by
          have h1 := (own_cell HIn.out.own (k * c + n) (Mx.idx_lt hk hlt)).1
          have e : rd (Mx.cells r c (swTo F i k n)) ((k * c + n : Nat) : Int) = (swTo F i k n k n : Int) := Mx.cells_getD _ hk hlt
          rw [e, swTo_at] at h1
          rw [HQk.out]
          exact h1
        have hyf : wr.frozen? ⟨g, q + n, none⟩ = false := by
          rw [HQk.out]; exact (own_cell HIn.out.own (k * c + n) (Mx.idx_lt hk hlt)).2
        obtain ⟨v', hv'⟩ := cell?_setCell_some (w := wr) (p := ⟨g, p + n, none⟩) (x := .int .i64 (F k n : Int)) (q := ⟨g, q + n, none⟩) (v := .int .i64 (F k n : Int)) hy
        go_wp2
        go_region
        all_goals
          go_wp2
          go_roundw
          case rel =>
            have h1 := ((HIn.out.put (x := F k n) hi hlt).put (x := F i n) hk hlt).drew
            rw [swTo_succ, ← HPi.out, ← HQk.out] at h1
            exact ⟨n + 1, by omega, by go_num, ⟨h1⟩⟩
          case measure => simp [intOf]; omega
      · obtain rfl : n = c := by omega
        go_wp2
        go_end0
        exact ⟨rfl, HIn.out.congr (swTo_all F i k r n)⟩
end Go.Proofs.YtfigcmmmpndpjaaDoor.H

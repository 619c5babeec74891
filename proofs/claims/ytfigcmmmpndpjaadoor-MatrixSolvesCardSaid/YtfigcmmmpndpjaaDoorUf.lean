/- Hr, Hk, Hg. -/
import Derived.Test.YtfigcmmmpndpjaaDoorUe
import Derived.Test.YtfigcmmmpndpjaaDoorUa
import Derived.WalkMore
import Derived.Laws.IdiomCopy
/- What matrix.reduce does: the matrix is brought into reduced row echelon form, in memory; the pivots come back. -/
namespace Go.Proofs.YtfigcmmmpndpjaaDoor.H
open Go.RowKit Go.Proofs.YtfigcmmmpndpjaaDoorW.PrintWords Go.Proofs.YtfigcmmmpndpjaaDoorW.PrintLast Go.Proofs.YtfigcmmmpndpjaaDoorW.PrintMore Go.Proofs.YtfigcmmmpndpjaaDoor.P
set_option linter.unusedVariables false
set_option linter.unusedSimpArgs false
/-- a struct lies in block ga, its cells at A; nothing else that there was has been written -/
structure InA (w W : World) (base ga m r c : Nat) (A : Option Addr) (cap : Nat) (F : Mx.Fn) : Prop where
  grown : w.grownBy W (A.map (·.block))
  box : W.heap[ga]? = some (.cells #[.int .i64 m, .int .i64 r, .int .i64 c, .slice A (r * c) cap] 24 (0, 0))
  own : Own W base A (r * c) cap (Mx.cells r c F)
/-- the numbers of the pivots -/
def piv (ps : List Nat) : List Int := ps.map fun p : Nat => (p : Int)
/-- the matrix and the pivots in memory -/
structure MidI (w W : World) (base m r c : Nat) (A : Option Addr) (cap : Nat) (F : Mx.Fn) (v : Value) (ps : List Nat) : Prop where
  mem : InA w W base w.heap.size m r c A cap F
  piv : Kd.R (Kd.int .i64) 3 W w.heap.size (fun _ => True) v (piv ps)
theorem gbr_trans {a b c : World} {row : Option Nat} (h : a.grownBy b row) (k : b.grownBy c row) : a.grownBy c row :=
  ⟨k.os.trans h.os, k.tape.trans h.tape, k.output.trans h.output, Nat.le_trans h.size k.size, fun i hi hr => (k.block i (Nat.lt_of_lt_of_le hi h.size) hr).trans (h.block i hi hr)⟩
theorem gbr_of_below {w W : World} (h : Below w.heap.size w W) (row : Option Nat) : w.grownBy W row := ⟨h.os, h.tape, h.output, h.size, fun i hi _ => h.block i hi⟩
theorem InA.next {w W W2 : World} {base ga m r c cap : Nat} {A : Option Addr} {F : Mx.Fn} (h : InA w W base ga m r c A cap F) (hb : Below W.heap.size W W2) : InA w W2 base ga m r c A cap F :=
  ⟨gbr_trans h.grown (gbr_of_below hb _), blk_below h.box hb, Kd.R_below h.own hb⟩
theorem MidI.next {w W W2 : World} {base m r c cap : Nat} {A : Option Addr} {F : Mx.Fn} {v : Value} {ps : List Nat} (h : MidI w W base m r c A cap F v ps) (hb : Below W.heap.size W W2) : MidI w W2 base m r c A cap F v ps :=
  ⟨h.mem.next hb, Kd.R_below h.piv hb⟩
theorem MidI.drew {w W : World} {base m r c cap : Nat} {A : Option Addr} {F : Mx.Fn} {v : Value} {ps : List Nat} (h : MidI w W base m r c A cap F v ps) : MidI w W.drew base m r c A cap F v ps := h.next (below_drew (Below.refl _ _))
theorem MidI.congr {w W : World} {base m r c cap : Nat} {A : Option Addr} {F F' : Mx.Fn} {v : Value} {ps : List Nat} (h : MidI w W base m r c A cap F v ps) (e : Mx.cells r c F = Mx.cells r c F') : MidI w W base m r c A cap F' v ps :=
  ⟨⟨h.mem.grown, h.mem.box, e ▸ h.mem.own⟩, h.piv⟩
theorem piv_grown {w W W2 : World} {g : Nat} {v : Value} {l : List Int} (h : Kd.R (Kd.int .i64) 3 W w.heap.size (fun _ => True) v l) (hg : W.grownBy W2 (some g)) (hlt : g < w.heap.size) : Kd.R (Kd.int .i64) 3 W2 w.heap.size (fun _ => True) v l :=
  Kd.R_mono (Kd.R_grown (Kd.R_bound h) hg (fun k hk e => by have := hk.2.1; have := Option.some.inj e; omega)) (fun _ _ => trivial)
/-- the block at g has been written, by a callee that told of it -/
theorem MidI.turn {w W W2 : World} {base m r c cap g : Nat} {F F' : Mx.Fn} {v : Value} {ps : List Nat} (h : MidI w W base m r c (some ⟨g, 0, none⟩) cap F v ps) (hlt : g < w.heap.size) (hg : W.grownBy W2 (some g)) (ho : Own W2 base (some ⟨g, 0, none⟩) (r * c) cap (Mx.cells r c F')) : MidI w W2 base m r c (some ⟨g, 0, none⟩) cap F' v ps :=
  ⟨⟨gbr_trans h.mem.grown hg, blk_grown h.mem.box hg (fun e => own_ne h.mem.own h.mem.box (by decide) rfl (Option.some.inj e)), ho⟩, piv_grown h.piv hg hlt⟩
theorem MidI.put {w W : World} {base m r c cap g i j x : Nat} {F : Mx.Fn} {v : Value} {ps : List Nat} (h : MidI w W base m r c (some ⟨g, 0, none⟩) cap F v ps) (hlt : g < w.heap.size) (hi : i < r) (hj : j < c) : MidI w (W.setCell ⟨g, i * c + j, none⟩ (.int .i64 (x : Int))) base m r c (some ⟨g, 0, none⟩) cap (Mx.upd F i j x) v ps := by
  refine h.turn hlt (gb_set _ _ _ _) ?_
  have := own_put h.mem.own (i * c + j) (x : Int)
  rwa [Mx.cells_set _ _ hi hj] at this
theorem MidI.cells {w W : World} {base m r c cap : Nat} {A : Option Addr} {F : Mx.Fn} {v : Value} {ps : List Nat} (h : MidI w W base m r c A cap F v ps) :
    W.cell? ⟨w.heap.size, 0, none⟩ = some (.int .i64 m) ∧ W.cell? ⟨w.heap.size, 1, none⟩ = some (.int .i64 r) ∧ W.cell? ⟨w.heap.size, 2, none⟩ = some (.int .i64 c) ∧ W.cell? ⟨w.heap.size, 3, none⟩ = some (.slice A (r * c) cap) := blk4 h.mem.box
theorem MidI.at_ {w W : World} {base m r c cap g i j q : Nat} {F : Mx.Fn} {v : Value} {ps : List Nat} (h : MidI w W base m r c (some ⟨g, 0, none⟩) cap F v ps) (hi : i < r) (hj : j < c) (hq : q = i * c) :
    W.cell? ⟨g, q + j, none⟩ = some (.int .i64 (F i j : Int)) ∧ W.frozen? ⟨g, q + j, none⟩ = false := by
  subst hq
  have h1 := own_cell h.mem.own (i * c + j) (Mx.idx_lt hi hj)
  have e : rd (Mx.cells r c F) ((i * c + j : Nat) : Int) = (F i j : Int) := Mx.cells_getD _ hi hj
  rw [e] at h1
  exact h1
theorem MidI.cells5 {w W : World} {base m r c cap g i j q : Nat} {F : Mx.Fn} {v : Value} {ps : List Nat} (h : MidI w W base m r c (some ⟨g, 0, none⟩) cap F v ps) (hi : i < r) (hj : j < c) (hq : q = i * c) :
    W.cell? ⟨w.heap.size, 0, none⟩ = some (.int .i64 m) ∧ W.cell? ⟨w.heap.size, 1, none⟩ = some (.int .i64 r) ∧ W.cell? ⟨w.heap.size, 2, none⟩ = some (.int .i64 c) ∧ W.cell? ⟨w.heap.size, 3, none⟩ = some (.slice (some ⟨g, 0, none⟩) (r * c) cap) ∧ W.cell? ⟨g, q + j, none⟩ = some (.int .i64 (F i j : Int)) :=
  ⟨h.cells.1, h.cells.2.1, h.cells.2.2.1, h.cells.2.2.2, (h.at_ hi hj hq).1⟩
theorem MidI.ff {w W : World} {base m r c cap g : Nat} {F : Mx.Fn} {v : Value} {ps : List Nat} (h : MidI w W base m r c (some ⟨g, 0, none⟩) cap F v ps) (hb0 : 0 < base) (hf : FF w) : FF W :=
  gb_ff (g := g) h.mem.grown (by have := Kd.R_base h.mem.own g rfl; omega) hf
theorem MidI.inM {w W : World} {base m r c cap g : Nat} {F : Mx.Fn} {v : Value} {ps : List Nat} (h : MidI w W base m r c (some ⟨g, 0, none⟩) cap F v ps) : InM W W base w.heap.size g m r c cap F :=
  ⟨gb_of_below (Below.refl _ _) g, h.mem.box, h.mem.own⟩
/-- the number in a cell -/
def cellInt (w : World) (a : Addr) : Int := match w.cell? a with | some (.int _ n) => n | _ => 0
theorem cellInt_of {w : World} {a : Addr} {n : Int} (h : w.cell? a = some (.int .i64 n)) : cellInt w a = n := by simp [cellInt, h]
theorem MidI.cellsC {w W : World} {base m r c cap g i j q : Nat} {F : Mx.Fn} {v : Value} {ps : List Nat} (h : MidI w W base m r c (some ⟨g, 0, none⟩) cap F v ps) (hi : i < r) (hj : j < c) (hq : q = i * c) :
    W.cell? ⟨w.heap.size, 0, none⟩ = some (.int .i64 m) ∧ W.cell? ⟨w.heap.size, 1, none⟩ = some (.int .i64 r) ∧ W.cell? ⟨w.heap.size, 2, none⟩ = some (.int .i64 c) ∧ W.cell? ⟨w.heap.size, 3, none⟩ = some (.slice (some ⟨g, 0, none⟩) (r * c) cap) ∧ W.cell? ⟨g, q + j, none⟩ = some (.int .i64 (cellInt W ⟨g, q + j, none⟩)) :=
  ⟨h.cells.1, h.cells.2.1, h.cells.2.2.1, h.cells.2.2.2, by rw [cellInt_of (h.at_ hi hj hq).1]; exact (h.at_ hi hj hq).1⟩
/-- a row of the very cells, read while another one is written -/
theorem src_same {W : World} {base r c cap g i k q : Nat} {F : Mx.Fn} {G : Nat → Nat} (hk : k < r) (hne : k ≠ i) (hq : q = k * c) (hG : ∀ j, j < c → F k j = G j) : Src W base (some ⟨g, 0, none⟩) r c cap i F (some ⟨g, q, none⟩) G := by
  intro W' F' _ hO hrest j hj
  subst hq
  refine ⟨_, rfl, ?_⟩
  have h := (own_cell hO (k * c + j) (Mx.idx_lt hk hj)).1
  have e : rd (Mx.cells r c F') ((k * c + j : Nat) : Int) = (F' k j : Int) := Mx.cells_getD _ hk hj
  rw [e, hrest k j hne, hG j hj] at h
  have e2 : (⟨g, k * c, none⟩ : Addr).add j = ⟨g, k * c + j, none⟩ := by unfold Addr.add; split <;> simp_all
  rw [e2]
  exact h
theorem elTo_succ (m : Nat) (F : Mx.Fn) (q j i : Nat) (h : i ≠ q) : addRow m (Mx.elTo m F q j i) i (F i j) (F q) = Mx.elTo m F q j (i + 1) := by
  funext i' k
  simp only [addRow, Mx.elTo]
  by_cases e : i' = i
  · subst e
    simp [h]
  · rw [if_neg e]
    by_cases e2 : i' < i ∧ i' ≠ q
    · rw [if_pos e2, if_pos (by omega)]
    · rw [if_neg e2, if_neg (by omega)]
theorem own_kept {W w1 : World} {base n cap : Nat} {A : Option Addr} {l : List Int} (h : Own W base A n cap l) {row : Option Nat} (hg : W.grownBy w1 row) (hne : (Value.slice A n cap).ownBlock ≠ row) : Own w1 base A n cap l :=
  Kd.R_of_own (own_other (Kd.own_of_R h) hg (.inr hne)) (fun _ _ => trivial)
theorem MidI.app {w W w1 : World} {base m r c cap g j : Nat} {F : Mx.Fn} {v v1 : Value} {ps : List Nat} (h : MidI w W base m r c (some ⟨g, 0, none⟩) cap F v ps) (hlt : g < w.heap.size) (hw : w.heap.size ≤ W.heap.size)
    (hown : w1.ownsRow w.heap.size 3 1 v1 (H.piv ps ++ [(j : Int)]).length (nums .i64 (H.piv ps ++ [(j : Int)]))) (hg : W.grownBy w1 v.ownBlock) : MidI w w1 base m r c (some ⟨g, 0, none⟩) cap F v1 (ps ++ [j]) := by
  have hb : ∀ k, v.ownBlock = some k → w.heap.size ≤ k := Kd.R_base h.piv
  have e : H.piv (ps ++ [j]) = H.piv ps ++ [(j : Int)] := by simp [H.piv]
  refine ⟨⟨?_, ?_, ?_⟩, ?_⟩
  · have h0 := h.mem.grown
    refine ⟨hg.os.trans h0.os, hg.tape.trans h0.tape, hg.output.trans h0.output, Nat.le_trans h0.size hg.size, fun i hi hr => ?_⟩
    exact (hg.block i (Nat.lt_of_lt_of_le hi h0.size) (fun e => by have := hb i e.symm; omega)).trans (h0.block i hi hr)
  · exact blk_grown h.mem.box hg (Kd.R_ne h.piv h.mem.box (by decide))
  · refine own_kept h.mem.own hg (fun e => ?_)
    have := hb g e.symm
    omega
  · rw [e]
    exact Kd.R_of_own hown (fun _ _ => trivial)
theorem row_is {A' : Option Addr} {g q i c : Nat} (hq : q = i * c) (hR : RowAt (some ⟨g, 0, none⟩) (i * c) c A') (hc0 : 0 < c) : A' = some ⟨g, q, none⟩ := by
  subst hq
  exact (hR hc0).trans (congrArg some (add_plain g _))
set_option maxRecDepth 100000 in
set_option maxHeartbeats 8000000 in
theorem reduce_calls (m r c cap cols base : Nat) (hm : Gf.Ok m) (hr : r ≤ 32) (hc : c ≤ 64) (hcols : cols ≤ c) (A : Option Addr) (F : Mx.Fn) (hF : Mx.In m r c F) (hb0 : 0 < base) (w : World) (hff : FF w) (hA : Own w base A (r * c) cap (Mx.cells r c F)) :
    Calls Tryd.prog 39 #[.agg #[.int .i64 m, .int .i64 r, .int .i64 c, .slice A (r * c) cap], .int .i64 cols] w fun e w' =>
      ∃ v, e = .returned v ∧ w.grownBy w' (A.map (·.block)) ∧ Own w' base A (r * c) cap (Mx.cells r c (Mx.redTo m r F cols).1) ∧ Kd.R (Kd.int .i64) 3 w' w.heap.size (fun _ => True) v (piv (Mx.redTo m r F cols).2) := by
  have HF := Aside0.mk hff
  have HM := Aside0.mk hm
  have HIn := Aside0.mk hF
  have HA := Aside0.mk hA
  have HCap := Aside0.mk (Kd.R_reads' hA).2.1
  clear hff hm hF hA
  go_enter Tryd.func39, Tryd.ntmps39
  go_wp2_with fail
  go_step3
  go_wp2_with fail
  go_step3
  go_wp2_with fail
  go_loopg [4, 16] cols (fun d v4 v16 wr => ∃ j : Nat, j + d = cols ∧ v16 = .int .i64 j ∧ Aside0 (MidI w wr base m r c A cap (Mx.redTo m r F j).1 v4 (Mx.redTo m r F j).2))
  case atStart =>
    refine ⟨0, by omega, rfl, ⟨⟨gbr_of_below (below_alloc (Below.refl _ _) _) _, heap_alloc_new w _, Kd.R_alloc HA.out _⟩, Kd.R_nil _ _ _ _ _⟩⟩
  case round =>
    obtain ⟨j, hjd, rfl, HRd⟩ := hrel
    cases gk with
    | zero =>
      obtain rfl : j = cols := by omega
      go_wp2_with fail
      try rw [Exit.noGoto_ret]
      go_ret
      exact ⟨_, rfl, HRd.out.mem.grown, HRd.out.mem.own, HRd.out.piv⟩
    | succ d =>
      obtain ⟨Ap, capp, hv⟩ := Kd.R_slice HRd.out.piv
      subst hv
      have hlt : j < cols := by omega
      obtain ⟨n0, hn0⟩ : ∃ n0, n0 = (Mx.redTo m r F j).2.length := ⟨_, rfl⟩
      have hlen : (piv (Mx.redTo m r F j).2).length = n0 := by rw [hn0]; simp [piv]
      rw [hlen]
      rw [hlen] at HRd
      have HN0 := Aside0.mk hn0
      have HIj := Aside0.mk (Mx.redTo_in HM.out HIn.out (show j ≤ c by omega))
      have hn0r : n0 ≤ r := by rw [hn0]; exact HIj.out.2
      clear hn0 hlen
      go_wp2_with fail
      have hc0 : 0 < c := by omega
      go_loopg [8] (r - n0) (fun d2 v8 wq => ∃ i : Nat, i + d2 = r ∧ n0 ≤ i ∧ v8 = .int .i64 i ∧ Aside0 (∀ k, n0 ≤ k → k < i → (Mx.redTo m r F j).1 k j = 0) ∧ Aside0 (MidI w wq base m r c A cap (Mx.redTo m r F j).1 (.slice Ap n0 capp) (Mx.redTo m r F j).2))
      case atStart => exact ⟨n0, by omega, Nat.le_refl _, rfl, ⟨fun k h1 h2 => by omega⟩, HRd⟩
      case round =>
        clear HRd
        obtain ⟨i, hid, hni, rfl, HZ, HRq⟩ := hrel
        obtain ⟨a0, a1, a2, a3⟩ := HRq.out.cells
        cases gk with
        | zero =>
          obtain rfl : i = r := by omega
          go_wp2_with fail
          go_roundg d
          case rel =>
            refine ⟨j + 1, by omega, by go_num, ⟨?_⟩⟩
            have e : Mx.redTo m i F (j + 1) = Mx.redTo m i F j := Mx.redTo_skip (by rw [← HN0.out]; exact HZ.out) (by rw [← HN0.out]; exact hni)
            rw [e]
            exact HRq.out
          case measure => omega
        | succ d2 =>
          have hi : i < r := by omega
          have hneb : ((i : Int) == (r : Int)) = false := beq_eq_false_iff_ne.mpr (by omega)
          obtain ⟨g, hA0, hg1, hg2⟩ := own_blk _ _ _ _ _ _ HRq.out.mem.own (Nat.mul_pos (by omega) hc0)
          subst hA0
          have HRi := Aside0.mk (row_fits (c := c) hi)
          obtain ⟨F', hF'⟩ : ∃ F', F' = (Mx.redTo m r F j).1 := ⟨_, rfl⟩
          obtain ⟨x, hxe⟩ : ∃ x, x = F' i j := ⟨_, rfl⟩
          rw [← hF'] at HRq HZ HIj
          have HF' := Aside0.mk hF'
          have HX := Aside0.mk hxe
          obtain ⟨p, hp⟩ : ∃ p, p = i * c := ⟨_, rfl⟩
          have HP := Aside0.mk hp
          clear hF' hxe hp
          go_wp2_with fail
          refine (row_calls m r c (r * c) cap i (some ⟨g, 0, none⟩) _ (fun _ => ⟨_, rfl⟩) (by omega) (by omega) HRi.out HCap.out).mono ?_
          rintro e w2 ⟨A', c', rfl, hc', hR, hb2⟩
          have hA' := row_is HP.out hR hc0
          subst hA'
          have HRq2 := Aside0.mk (HRq.out.next hb2)
          have hx := (HRq2.out.at_ hi (show j < c by omega) HP.out).1
          rw [← HX.out] at hx
          clear hR hb2 a0 a1 a2 a3
          by_cases hx0 : x = 0
          · have hxb : ((x : Int) != 0) = false := by rw [hx0]; rfl
            go_wp2_with fail
            go_roundg d2
            case rel =>
              simp only [← HF'.out]
              refine ⟨i + 1, by omega, by omega, by go_num, ⟨fun k h1 h2 => ?_⟩, HRq2⟩
              by_cases e : k = i
              · subst e; rw [← HX.out]; exact hx0
              · exact HZ.out k h1 (by omega)
            case measure => omega
          · have hxb : ((x : Int) != 0) = true := by rw [bne_iff_ne]; omega
            have HX0 := Aside0.mk hx0
            clear hx0
            go_wp2_with fail
            refine (swap_calls m r c cap i n0 base w.heap.size g hr hc hc0 hi (by omega) F' _ HRq2.out.inM).mono ?_
            rintro e w3 ⟨rfl, hI3⟩
            have hgl : g < w.heap.size := (own_blk _ _ _ _ _ _ HA.out (Nat.mul_pos (by omega) hc0)).elim (fun g' h => by cases h.1; exact h.2.2)
            have HM3 := Aside0.mk (show MidI w w3 base m r c (some ⟨g, 0, none⟩) cap (Mx.swp F' i n0) (.slice Ap n0 capp) (Mx.redTo m r F j).2 from HRq2.out.turn hgl hI3.grown hI3.own)
            clear hI3 hx
            have hn0lt : n0 < r := by omega
            obtain ⟨q, hq⟩ : ∃ q, q = n0 * c := ⟨_, rfl⟩
            have HQ := Aside0.mk hq
            have hxv : Mx.swp F' i n0 n0 j = x := by rw [HX.out]; exact Mx.swp_q F' i n0 j
            have hxlt : x < 2 ^ m := by rw [HX.out]; exact HIj.out.1 i j hi (by omega)
            obtain ⟨s, hs⟩ : ∃ s, s = Gf.inv m x := ⟨_, rfl⟩
            have HS := Aside0.mk hs
            have HInv := Aside0.mk (Inv_ok HM.out hxlt HX0.out 100 (by omega))
            rw [← hs] at HInv
            have HSl := Aside0.mk (show s < 2 ^ m from hs ▸ Gf.inv_lt HM.out hxlt)
            have HRn := Aside0.mk (row_fits (c := c) hn0lt)
            have HF3 := Aside0.mk (Mx.swp_in HIj.out.1 hi hn0lt)
            obtain ⟨F3, hF3e⟩ : ∃ F3, F3 = Mx.swp F' i n0 := ⟨_, rfl⟩
            rw [← hF3e] at HM3 HF3 hxv
            have HF3e := Aside0.mk hF3e
            have HXv := Aside0.mk hxv
            clear hq hs hxlt hxv hF3e
            have hj0 : (0 : Int) ≤ (j : Int) := by omega
            have hjc : (j : Int) < (c : Int) := by omega
            go_wp2_with fail
            go_region_held3 (fun w' => w'.cell? ⟨w.heap.size, 0, none⟩ = some (.int .i64 m) ∧ w'.cell? ⟨w.heap.size, 1, none⟩ = some (.int .i64 r) ∧ w'.cell? ⟨w.heap.size, 2, none⟩ = some (.int .i64 c) ∧ w'.cell? ⟨w.heap.size, 3, none⟩ = some (.slice (some ⟨g, 0, none⟩) (r * c) cap) ∧ w'.cell? ⟨g, q + j, none⟩ = some (.int .i64 (x : Int))) (first | exact HXv.out ▸ HM3.out.cells5 hn0lt (Nat.lt_of_lt_of_le hlt hcols) HQ.out | exact HXv.out ▸ HM3.out.drew.cells5 hn0lt (Nat.lt_of_lt_of_le hlt hcols) HQ.out) (first | (go_at_call 36; (with_reducible refine (row_calls m r c (r * c) cap n0 (some ⟨g, 0, none⟩) _ (fun _ => ⟨_, rfl⟩) (by omega) (by omega) HRn.out HCap.out).mono ?_); rintro e w5 ⟨A5, c5, rfl, hc5, hR5, hb⟩; have hA5 := row_is HQ.out hR5 hc0; subst hA5; have HM3' := Aside0.mk (HM3.out.next (by first | exact hb | exact below_undrew hb)); clear HM3 hb hR5; have HM3 := HM3'; clear HM3') | (go_at_call 49; (with_reducible refine (field_Inv.calls 100 m x s 0 _ (HM3.out.ff hb0 HF.out) HInv.out).mono ?_); rintro e w6 ⟨rfl, hb⟩; have HM3' := Aside0.mk (HM3.out.next (by first | exact hb | exact below_undrew hb)); clear HM3 hb; have HM3 := HM3'; clear HM3'))
            all_goals
              obtain ⟨a0, a1, a2, a3⟩ := HM3.out.cells
              go_wp2_with fail
              refine (row_calls m r c (r * c) cap n0 (some ⟨g, 0, none⟩) _ (fun _ => ⟨_, rfl⟩) (by omega) (by omega) HRn.out HCap.out).mono ?_
              rintro e w7 ⟨A7, c7, rfl, hc7, hR7, hb7⟩
              have hA7 := row_is HQ.out hR7 hc0
              subst hA7
              have HM7 := Aside0.mk (HM3.out.next hb7)
              clear hR7 hb7 a0 a1 a2 a3
              go_wp2_with fail
              go_loopw [55] (fun k_ wq => ∃ k : Nat, k ≤ c ∧ k_ = .int .i64 k ∧ Aside0 (MidI w wq base m r c (some ⟨g, 0, none⟩) cap (Mx.scTo m F3 n0 s k) (.slice Ap n0 capp) (Mx.redTo m r F j).2)) (fun k_ _ => c - (intOf k_).toNat)
              case atStart => exact ⟨0, Nat.zero_le _, rfl, ⟨by rw [Mx.scTo_zero]; exact HM7.out⟩⟩
              case round =>
                obtain ⟨k, hk, rfl, HMk⟩ := hrel
                by_cases hkc : k < c
                · obtain ⟨a0, a1, a2, a3⟩ := HMk.out.cells
                  obtain ⟨y, hye⟩ : ∃ y, y = F3 n0 k := ⟨_, rfl⟩
                  have HY := Aside0.mk hye
                  obtain ⟨t, hte⟩ : ∃ t, t = Gf.mul m s y := ⟨_, rfl⟩
                  have HT := Aside0.mk hte
                  have HTm := Aside0.mk (times_ok HM.out HSl.out (show y < 2 ^ m from hye ▸ HF3.out n0 k hn0lt hkc) 100 (by omega))
                  rw [← hte] at HTm
                  have HAt := Aside0.mk (show ∀ W, MidI w W base m r c (some ⟨g, 0, none⟩) cap (Mx.scTo m F3 n0 s k) (.slice Ap n0 capp) (Mx.redTo m r F j).2 → W.cell? ⟨g, q + k, none⟩ = some (.int .i64 (y : Int)) ∧ W.frozen? ⟨g, q + k, none⟩ = false from fun W h => by
                    have h1 := h.at_ hn0lt hkc HQ.out
                    rw [Mx.scTo_at, ← HY.out] at h1
                    exact h1)
                  obtain ⟨b0, b1⟩ := HAt.out _ HMk.out
                  clear hye hte
                  go_upto_region 15 with (fail)
                  go_region_with (first | (go_at_call 36; (with_reducible refine (row_calls m r c (r * c) cap n0 (some ⟨g, 0, none⟩) _ (fun _ => ⟨_, rfl⟩) (by omega) (by omega) HRn.out HCap.out).mono ?_); rintro e w5 ⟨A5, c5, rfl, hc5, hR5, hb⟩; have hA5 := row_is HQ.out hR5 hc0; subst hA5; have HMk' := Aside0.mk (HMk.out.next (by first | exact hb | exact below_undrew hb)); clear HMk hb hR5 a0 a1 a2 a3 b0 b1; have HMk := HMk'; clear HMk'; obtain ⟨a0, a1, a2, a3⟩ := HMk.out.cells; obtain ⟨b0, b1⟩ := HAt.out _ HMk.out) | (go_at_call 47; (with_reducible refine (matrix_times.calls 100 m s y t _ (HMk.out.ff hb0 HF.out) HTm.out).mono ?_); rintro e w6 ⟨rfl, hb⟩; have HMk' := Aside0.mk (HMk.out.next (by first | exact hb | exact below_undrew hb)); clear HMk hb a0 a1 a2 a3 b0 b1; have HMk := HMk'; clear HMk'; obtain ⟨a0, a1, a2, a3⟩ := HMk.out.cells; obtain ⟨b0, b1⟩ := HAt.out _ HMk.out))
                  all_goals
                    go_wp2
                    go_roundw
                    case rel =>
                      have h1 := HMk.out.put (x := t) hgl hn0lt hkc
                      rw [HT.out, HY.out, Mx.scTo_succ, ← HQ.out] at h1
                      rw [HT.out, HY.out]
                      exact ⟨k + 1, by omega, by go_num, ⟨h1⟩⟩
                    case measure => simp [intOf]; omega
                · obtain rfl : k = c := by omega
                  obtain ⟨a0, a1, a2, a3⟩ := HMk.out.cells
                  have HM8 := Aside0.mk (HMk.out.congr (Mx.scTo_all m F3 n0 s r k))
                  obtain ⟨F4, hF4⟩ : ∃ F4, F4 = Mx.sc m F3 n0 s := ⟨_, rfl⟩
                  rw [← hF4] at HM8
                  have HF4e := Aside0.mk hF4
                  have HF4 := Aside0.mk (show Mx.In m r k F4 from hF4 ▸ Mx.sc_in HM.out HF3.out HSl.out)
                  clear hF4
                  go_wp2_with fail
                  clear a0 a1 a2 a3
                  go_loopw [73] (fun k_ wq => ∃ i2 : Nat, i2 ≤ r ∧ k_ = .int .i64 i2 ∧ Aside0 (MidI w wq base m r k (some ⟨g, 0, none⟩) cap (Mx.elTo m F4 n0 j i2) (.slice Ap n0 capp) (Mx.redTo m r F j).2)) (fun k_ _ => r - (intOf k_).toNat)
                  case atStart => exact ⟨0, Nat.zero_le _, rfl, ⟨by rw [Mx.elTo_zero]; exact HM8.out⟩⟩
                  case round =>
                    obtain ⟨i2, hi2, rfl, HMe⟩ := hrel
                    by_cases hi2r : i2 < r
                    · by_cases hne : i2 = n0
                      · have hnb : ((i2 : Int) != (n0 : Int)) = false := by rw [hne]; simp
                        go_wp2_with fail
                        go_roundw
                        case rel =>
                          refine ⟨i2 + 1, by omega, by go_num, ⟨?_⟩⟩
                          rw [hne, Mx.elTo_skip, ← hne]
                          rw [hne] at HMe
                          rw [hne]
                          exact HMe.out
                        case measure => simp [intOf]; omega
                      · have hnb : ((i2 : Int) != (n0 : Int)) = true := by rw [bne_iff_ne]; omega
                        obtain ⟨x2, hx2⟩ : ∃ x2, x2 = F4 i2 j := ⟨_, rfl⟩
                        obtain ⟨p2, hp2⟩ : ∃ p2, p2 = i2 * k := ⟨_, rfl⟩
                        have HX2 := Aside0.mk hx2
                        have HP2 := Aside0.mk hp2
                        have HNe := Aside0.mk hne
                        have hjk : j < k := by omega
                        have HX2l := Aside0.mk (show x2 < 2 ^ m from hx2 ▸ HF4.out i2 j hi2r hjk)
                        have HR2 := Aside0.mk (row_fits (c := k) hi2r)
                        have HRp := Aside0.mk (show RowAt (some ⟨g, 0, none⟩) (i2 * k) k (some ⟨g, p2, none⟩) from fun _ => by rw [hp2]; exact (congrArg some (add_plain g _)).symm)
                        have HEi := Aside0.mk (Mx.elTo_in (q := n0) (n := i2) HM.out HF4.out hjk)
                        have HG4 := Aside0.mk (show ∀ a, a < k → F4 n0 a < 2 ^ m from fun a ha => HF4.out n0 a hn0lt ha)
                        have HSrc := Aside0.mk (show ∀ W, Src W base (some ⟨g, 0, none⟩) r k cap i2 (Mx.elTo m F4 n0 j i2) (some ⟨g, q, none⟩) (F4 n0) from fun W => src_same hn0lt (fun e => hne e.symm) HQ.out (fun a _ => Mx.elTo_q m F4 n0 j i2 a))
                        have H5 := Aside0.mk (show ∀ W, MidI w W base m r k (some ⟨g, 0, none⟩) cap (Mx.elTo m F4 n0 j i2) (.slice Ap n0 capp) (Mx.redTo m r F j).2 → W.cell? ⟨w.heap.size, 0, none⟩ = some (.int .i64 m) ∧ W.cell? ⟨w.heap.size, 1, none⟩ = some (.int .i64 r) ∧ W.cell? ⟨w.heap.size, 2, none⟩ = some (.int .i64 k) ∧ W.cell? ⟨w.heap.size, 3, none⟩ = some (.slice (some ⟨g, 0, none⟩) (r * k) cap) ∧ W.cell? ⟨g, p2 + j, none⟩ = some (.int .i64 (x2 : Int)) from fun W h => by
                          have h1 := h.cells5 hi2r hjk HP2.out
                          rw [Mx.elTo_row, ← HX2.out] at h1
                          exact h1)
                        clear hx2 hp2 hne
                        go_upto_region 21 with (fail)
                        refine start_ (n := 15) (S := fun w' => w'.cell? ⟨w.heap.size, 0, none⟩ = some (.int .i64 m) ∧ w'.cell? ⟨w.heap.size, 1, none⟩ = some (.int .i64 r) ∧ w'.cell? ⟨w.heap.size, 2, none⟩ = some (.int .i64 k) ∧ w'.cell? ⟨w.heap.size, 3, none⟩ = some (.slice (some ⟨g, 0, none⟩) (r * k) cap) ∧ w'.cell? ⟨g, p2 + j, none⟩ = some (.int .i64 (x2 : Int))) (ds := [14]) #[false, false, false, false, false, false, false, false, false, false, false, false, false, false, false] (by kernel_rfl) rfl rfl (H5.out _ HMe.out.drew) (fun hHeld => ?_)
                        have HMd := Aside0.mk HMe.out.drew
                        clear HMe
                        have HMe := HMd
                        clear HMd
                        generalize wr.drew = wd at HMe hHeld ⊢
                        refine pure_ (i := 0) (N := some 79) (v := ?_) (a' := ?_) #[true, false, false, false, false, false, false, false, false, false, false, false, false, false, false] rfl rfl (by kernel_rfl) (fun _ _ _ h => h) (Or.inl ⟨by rfl, ?_⟩) ?_ ?_
                        rotate_left
                        · intro w'
                          go_simp
                          with_reducible rfl
                        rotate_left
                        · simp only [Act.put, List.setIfInBounds_toArray, List.set_cons_zero, List.set_cons_succ, i64_w, i32_w]
                          rfl
                        refine pure_ (i := 3) (N := some 82) (v := ?_) (a' := ?_) #[true, false, false, true, false, false, false, false, false, false, false, false, false, false, false] rfl rfl (by kernel_rfl) (fun _ _ _ h => h) (Or.inl ⟨by rfl, ?_⟩) ?_ ?_
                        rotate_left
                        · intro w'
                          go_simp
                          with_reducible rfl
                        rotate_left
                        · simp only [Act.put, List.setIfInBounds_toArray, List.set_cons_zero, List.set_cons_succ, i64_w, i32_w]
                          rfl
                        refine pure_ (i := 6) (N := some 85) (v := ?_) (a' := ?_) #[true, false, false, true, false, false, true, false, false, false, false, false, false, false, false] rfl rfl (by kernel_rfl) (fun _ _ _ h => h) (Or.inl ⟨by rfl, ?_⟩) ?_ ?_
                        rotate_left
                        · intro w'
                          go_simp
                          with_reducible rfl
                        rotate_left
                        · simp only [Act.put, List.setIfInBounds_toArray, List.set_cons_zero, List.set_cons_succ, i64_w, i32_w]
                          rfl
                        refine pure_ (i := 9) (N := some 88) (v := ?_) (a' := ?_) #[true, false, false, true, false, false, true, false, false, true, false, false, false, false, false] rfl rfl (by kernel_rfl) (fun _ _ _ h => h) (Or.inl ⟨by rfl, ?_⟩) ?_ ?_
                        rotate_left
                        · intro w'
                          go_simp
                          with_reducible rfl
                        rotate_left
                        · simp only [Act.put, List.setIfInBounds_toArray, List.set_cons_zero, List.set_cons_succ, i64_w, i32_w]
                          rfl
                        refine pure_ (i := 11) (N := some 90) (v := ?_) (a' := ?_) #[true, false, false, true, false, false, true, false, false, true, false, true, false, false, false] rfl rfl (by kernel_rfl) (fun _ _ _ h => h) (Or.inl ⟨by rfl, ?_⟩) ?_ ?_
                        rotate_left
                        · intro w'
                          go_simp
                          with_reducible rfl
                        rotate_left
                        · simp only [Act.put, List.setIfInBounds_toArray, List.set_cons_zero, List.set_cons_succ, i64_w, i32_w]
                          rfl
                        refine take_ (i := 1) (N := some 80) (v := ?_) (a' := ?_) #[true, true, false, true, false, false, true, false, false, true, false, true, false, false, false] rfl rfl (by kernel_rfl) (fun _ _ _ h => h) (Or.inl ⟨by rfl, ?_⟩) hHeld ?_ ?_
                        rotate_left
                        · rintro w' ⟨s0, s1, s2, s3, s4⟩
                          go_simp
                          with_reducible rfl
                        rotate_left
                        · simp only [Act.put, List.setIfInBounds_toArray, List.set_cons_zero, List.set_cons_succ, i64_w, i32_w]
                          rfl
                        refine take_ (i := 2) (N := some 81) (v := ?_) (a' := ?_) #[true, true, true, true, false, false, true, false, false, true, false, true, false, false, false] rfl rfl (by kernel_rfl) (fun _ _ _ h => h) (Or.inl ⟨by rfl, ?_⟩) hHeld ?_ ?_
                        rotate_left
                        · rintro w' ⟨s0, s1, s2, s3, s4⟩
                          go_simp
                          with_reducible rfl
                        rotate_left
                        · simp only [Act.put, List.setIfInBounds_toArray, List.set_cons_zero, List.set_cons_succ, i64_w, i32_w]
                          rfl
                        refine take_ (i := 5) (N := some 84) (v := ?_) (a' := ?_) #[true, true, true, true, false, true, true, false, false, true, false, true, false, false, false] rfl rfl (by kernel_rfl) (fun _ _ _ h => h) (Or.inl ⟨by rfl, ?_⟩) hHeld ?_ ?_
                        rotate_left
                        · rintro w' ⟨s0, s1, s2, s3, s4⟩
                          go_simp
                          with_reducible rfl
                        rotate_left
                        · simp only [Act.put, List.setIfInBounds_toArray, List.set_cons_zero, List.set_cons_succ, i64_w, i32_w]
                          rfl
                        refine take_ (i := 8) (N := some 87) (v := ?_) (a' := ?_) #[true, true, true, true, false, true, true, false, true, true, false, true, false, false, false] rfl rfl (by kernel_rfl) (fun _ _ _ h => h) (Or.inl ⟨by rfl, ?_⟩) hHeld ?_ ?_
                        rotate_left
                        · rintro w' ⟨s0, s1, s2, s3, s4⟩
                          go_simp
                          with_reducible rfl
                        rotate_left
                        · simp only [Act.put, List.setIfInBounds_toArray, List.set_cons_zero, List.set_cons_succ, i64_w, i32_w]
                          rfl
                        refine one_ (i := 4) (N := some 83) #[true, true, true, true, true, true, true, false, true, true, false, true, false, false, false] rfl rfl (by kernel_rfl) (by decide) (fun K hK => ?_)
                        refine goes_ Tryd.func36 (by kernel_rfl) rfl #[.agg #[.int .i64 m, .int .i64 r, .int .i64 k, .slice (some ⟨g, 0, none⟩) (r * k) cap], .int .i64 i2] (by rfl) rfl rfl (by (try simp only [List.map_toArray, List.map_cons, List.map_nil]); first | done | rfl) ?_
                        refine (row_calls m r k (r * k) cap i2 (some ⟨g, 0, none⟩) _ (fun _ => ⟨_, rfl⟩) (by omega) (by omega) HR2.out HCap.out).mono ?_
                        rintro e w5 ⟨A5, c5, rfl, hc5, hR5, hb⟩
                        have hA5 := row_is HP2.out hR5 hc0
                        subst hA5
                        have HMe' := Aside0.mk (HMe.out.next hb)
                        clear HMe hb hR5
                        have HMe := HMe'
                        clear HMe'
                        refine ⟨_, rfl, ?_⟩
                        refine hK.out _ _ (H5.out _ HMe.out) (fun hHeld => ?_)
                        clear hK K
                        refine norm_ (a' := ?_) ?_ ?_
                        rotate_left
                        · show Act.put _ (some 83) _ = _
                          simp only [Act.put, List.setIfInBounds_toArray, List.set_cons_zero, List.set_cons_succ, i64_w, i32_w]
                          rfl
                        refine one_ (i := 7) (N := some 86) #[true, true, true, true, true, true, true, true, true, true, false, true, false, false, false] rfl rfl (by kernel_rfl) (by decide) (fun K hK => ?_)
                        refine goes_ Tryd.func36 (by kernel_rfl) rfl #[.agg #[.int .i64 m, .int .i64 r, .int .i64 k, .slice (some ⟨g, 0, none⟩) (r * k) cap], .int .i64 n0] (by rfl) rfl rfl (by (try simp only [List.map_toArray, List.map_cons, List.map_nil]); first | done | rfl) ?_
                        refine (row_calls m r k (r * k) cap n0 (some ⟨g, 0, none⟩) _ (fun _ => ⟨_, rfl⟩) (by omega) (by omega) HRn.out HCap.out).mono ?_
                        rintro e w5 ⟨A5, c5, rfl, hc5, hR5, hb⟩
                        have hA5 := row_is HQ.out hR5 hc0
                        subst hA5
                        have HMe' := Aside0.mk (HMe.out.next hb)
                        clear HMe hb hR5
                        have HMe := HMe'
                        clear HMe'
                        refine ⟨_, rfl, ?_⟩
                        refine hK.out _ _ (H5.out _ HMe.out) (fun hHeld => ?_)
                        clear hK K
                        refine norm_ (a' := ?_) ?_ ?_
                        rotate_left
                        · show Act.put _ (some 86) _ = _
                          simp only [Act.put, List.setIfInBounds_toArray, List.set_cons_zero, List.set_cons_succ, i64_w, i32_w]
                          rfl
                        refine one_ (i := 10) (N := some 89) #[true, true, true, true, true, true, true, true, true, true, true, true, false, false, false] rfl rfl (by kernel_rfl) (by decide) (fun K hK => ?_)
                        refine goes_ Tryd.func36 (by kernel_rfl) rfl #[.agg #[.int .i64 m, .int .i64 r, .int .i64 k, .slice (some ⟨g, 0, none⟩) (r * k) cap], .int .i64 i2] (by rfl) rfl rfl (by (try simp only [List.map_toArray, List.map_cons, List.map_nil]); first | done | rfl) ?_
                        refine (row_calls m r k (r * k) cap i2 (some ⟨g, 0, none⟩) _ (fun _ => ⟨_, rfl⟩) (by omega) (by omega) HR2.out HCap.out).mono ?_
                        rintro e w5 ⟨A5, c5, rfl, hc5, hR5, hb⟩
                        have hA5 := row_is HP2.out hR5 hc0
                        subst hA5
                        have HMe' := Aside0.mk (HMe.out.next hb)
                        clear HMe hb hR5
                        have HMe := HMe'
                        clear HMe'
                        refine ⟨_, rfl, ?_⟩
                        refine hK.out _ _ (H5.out _ HMe.out) (fun hHeld => ?_)
                        clear hK K
                        refine norm_ (a' := ?_) ?_ ?_
                        rotate_left
                        · show Act.put _ (some 89) _ = _
                          simp only [Act.put, List.setIfInBounds_toArray, List.set_cons_zero, List.set_cons_succ, i64_w, i32_w]
                          rfl
                        refine pure_ (i := 12) (N := some 91) (v := ?_) (a' := ?_) #[true, true, true, true, true, true, true, true, true, true, true, true, true, false, false] rfl rfl (by kernel_rfl) (fun _ _ _ h => h) (Or.inl ⟨by rfl, ?_⟩) ?_ ?_
                        rotate_left
                        · intro w'
                          go_simp
                          with_reducible rfl
                        rotate_left
                        · simp only [Act.put, List.setIfInBounds_toArray, List.set_cons_zero, List.set_cons_succ, i64_w, i32_w]
                          rfl
                        refine take_ (i := 13) (N := some 92) (v := ?_) (a' := ?_) #[true, true, true, true, true, true, true, true, true, true, true, true, true, true, false] rfl rfl (by kernel_rfl) (fun _ _ _ h => h) (Or.inl ⟨by rfl, ?_⟩) hHeld ?_ ?_
                        rotate_left
                        · rintro w' ⟨s0, s1, s2, s3, s4⟩
                          go_simp
                          with_reducible rfl
                        rotate_left
                        · simp only [Act.put, List.setIfInBounds_toArray, List.set_cons_zero, List.set_cons_succ, i64_w, i32_w]
                          rfl
                        refine last_ (i := 14) (N := some 93) #[true, true, true, true, true, true, true, true, true, true, true, true, true, true, true] rfl rfl (by kernel_rfl) (by decide) (fun K hK => ?_)
                        refine goes_ Tryd.func38 (by kernel_rfl) rfl #[.int .i64 m, .slice (some ⟨g, p2, none⟩) k _, .slice (some ⟨g, q, none⟩) k _, .int .i64 x2] (by rfl) rfl rfl (by (try simp only [List.map_toArray, List.map_cons, List.map_nil]); first | done | rfl) ?_
                        refine (add_calls m r k cap i2 x2 _ _ HM.out hr hc hi2r (Mx.elTo m F4 n0 j i2) HEi.out HX2l.out (F4 n0) HG4.out base hb0 (some ⟨g, 0, none⟩) (some ⟨g, p2, none⟩) (some ⟨g, q, none⟩) _ (HMe.out.ff hb0 HF.out) HMe.out.mem.own HRp.out (HSrc.out _)).mono ?_
                        rintro e w7 ⟨rfl, hg7, ho7⟩
                        have HMe' := Aside0.mk (HMe.out.turn hgl (hg7.1 g rfl) ho7)
                        clear HMe hg7 ho7
                        have HMe := HMe'
                        clear HMe'
                        refine ⟨_, rfl, ?_⟩
                        refine hK.out _ _ ?_
                        clear hK K
                        refine norm_ (a' := ?_) ?_ ?_
                        rotate_left
                        · show Act.put _ (some 93) _ = _
                          simp only [Act.put, List.setIfInBounds_toArray, List.set_cons_zero, List.set_cons_succ, i64_w, i32_w]
                          rfl
                        refine done_ (by kernel_rfl) ?_
                        go_wp2
                        go_roundw
                        case rel =>
                          have h1 := HMe.out
                          have e := elTo_succ m F4 n0 j i2 HNe.out
                          rw [← HX2.out] at e
                          rw [e] at h1
                          exact ⟨i2 + 1, by omega, by go_num, ⟨h1⟩⟩
                        case measure => simp [intOf]; omega
                    · obtain rfl : i2 = r := by omega
                      have hl1 : (piv (Mx.redTo m i2 F j).2).length = n0 := by rw [HN0.out]; simp [piv]
                      have HL1 := Aside0.mk hl1
                      have HOw := Aside0.mk (Kd.own_of_R HMe.out.piv)
                      have HSz := Aside0.mk (show w.heap.size ≤ wr.heap.size from HMe.out.mem.grown.size)
                      have hbd : ((piv (Mx.redTo m i2 F j).2).length + 1) * 8 ≤ 140737488355328 := by rw [hl1]; omega
                      have HBd := Aside0.mk hbd
                      clear hl1 hbd
                      go_upto_region 23 with (fail)
                      go_wp2_with (at_builtin; refine print_append_num (w0 := wr) w.heap.size (by rfl) _ _ 22 3 .i64 8 (by rfl) Tryd.underlying22 info3i (by omega) (.slice Ap n0 capp) (piv (Mx.redTo m i2 F j).2) (j : Int) (by rfl) (by rfl) HOw.out (Below.refl _ _) HSz.out HBd.out ?_; intro v1 w8 hown hbel hg8 hat; have HM9 := Aside0.mk (HMe.out.app hgl HSz.out hown hg8); clear hown hbel hg8 hat)
                      go_roundg d
                      case rel =>
                        refine ⟨j + 1, by omega, by go_num, ⟨?_⟩⟩
                        have e : Mx.redTo m i2 F (j + 1) = (Mx.pstep m (Mx.redTo m i2 F j).1 (Mx.redTo m i2 F j).2.length i j, (Mx.redTo m i2 F j).2 ++ [j]) :=
                          Mx.redTo_step (by rw [← HN0.out]; exact hni) hi (by rw [← HN0.out, ← HF'.out]; exact HZ.out) (by rw [← HF'.out, ← HX.out]; exact HX0.out)
                        rw [e]
                        have h1 := HM9.out
                        rw [HF4e.out, HF3e.out, HS.out, HX.out] at h1
                        have h2 := h1.congr (Mx.el_swp m F' i n0 j i2 k)
                        rw [← HN0.out, ← HF'.out]
                        exact h2
                      case measure => omega
end Go.Proofs.YtfigcmmmpndpjaaDoor.H
/- What matrix.Rank and matrix.Independent answer. -/
namespace Go.Proofs.YtfigcmmmpndpjaaDoor.H
open Go.RowKit Go.Proofs.YtfigcmmmpndpjaaDoorW.PrintWords Go.Proofs.YtfigcmmmpndpjaaDoorW.PrintLast Go.Proofs.YtfigcmmmpndpjaaDoorW.PrintMore Go.Proofs.YtfigcmmmpndpjaaDoor.P
set_option linter.unusedVariables false
set_option linter.unusedSimpArgs false
theorem grownA_hi {w w' : World} {base n cap : Nat} {A : Option Addr} {l : List Int} (hO : Own w base A n cap l) : ∀ k, A.map (·.block) = some k → base ≤ k := by
  intro k e
  cases A with
  | none => cases e
  | some ad => exact Kd.R_base hO k e
theorem grownA_below {w0 w w' : World} {base n cap : Nat} {A : Option Addr} {l : List Int} (hb : Below w0.heap.size w0 w) (hO : Own w base A n cap l) (hbase : w0.heap.size ≤ base) (hg : w.grownBy w' (A.map (·.block))) : Below w0.heap.size w0 w' :=
  pw_below_grown hb _ hb.size hg (fun k e => Nat.le_trans hbase (grownA_hi (w' := w') hO k e))
theorem grownA_blk {w w' : World} {base n cap g : Nat} {A : Option Addr} {l : List Int} {o : Obj} (hO : Own w base A n cap l) (hg : w.grownBy w' (A.map (·.block))) (hlt : g < base) (h : w.heap[g]? = some o) : w'.heap[g]? = some o :=
  blk_grown h hg (fun e => by have := grownA_hi (w' := w') hO g e.symm; omega)
/-- reduce over a list of cells -/
theorem reduce_list (m r c n cap cols base : Nat) (hm : Gf.Ok m) (hr : r ≤ 32) (hc : c ≤ 64) (hcols : cols ≤ c) (A : Option Addr) (F : Mx.Fn) (hF : Mx.In m r c F) (hb0 : 0 < base) (w : World) (hff : FF w) (l : List Int) (hn : n = r * c) (hl : l = Mx.cells r c F) (hA : Own w base A n cap l) :
    Calls Tryd.prog 39 #[.agg #[.int .i64 m, .int .i64 r, .int .i64 c, .slice A n cap], .int .i64 cols] w fun e w' =>
      ∃ v, e = .returned v ∧ w.grownBy w' (A.map (·.block)) ∧ Own w' base A n cap (Mx.cells r c (Mx.redTo m r F cols).1) ∧ Kd.R (Kd.int .i64) 3 w' w.heap.size (fun _ => True) v (piv (Mx.redTo m r F cols).2) := by
  subst hn
  subst hl
  exact reduce_calls m r c cap cols base hm hr hc hcols A F hF hb0 w hff hA
/-- what matrix.Rank answers -/
def matrix_Rank.f (k : Nat) (a0_0 a0_1 a0_2 : Int) (l0_3 : List Int) : Option Int :=
  some (if validB a0_0 a0_1 a0_2 l0_3 = true then ((Mx.redTo a0_0.toNat a0_1.toNat (Mx.el a0_2.toNat l0_3) a0_2.toNat).2.length : Int) else -1)
set_option maxRecDepth 100000 in
set_option maxHeartbeats 4000000 in
theorem rank_bad (f r c : Int) (A : Option Addr) (cap : Nat) (l : List Int) (w : World) (hl : Kd.C (Kd.int .i64) w A l.length l) (hv : validB f r c l = false) :
    Calls Tryd.prog 20 #[.agg #[.int .i64 f, .int .i64 r, .int .i64 c, .slice A l.length cap]] w fun e w' => e = .returned (.int .i64 (-1)) ∧ Below w.heap.size w w' := by
  have HL := Aside0.mk hl
  have HV := Aside0.mk hv
  clear hl hv
  go_enter Tryd.func20, Tryd.ntmps20
  go_wp2_with fail
  refine (valid_is false f r c A cap l _ (Kd.C_alloc HL.out _) HV.out).mono ?_
  rintro e w1 ⟨rfl, hb⟩
  have HB := Aside0.mk (below_then (below_alloc (Below.refl w.heap.size w) _) (by simp) hb)
  clear hb
  go_wp2_with fail
  go_ret
  exact ⟨rfl, HB.out⟩
set_option maxRecDepth 100000 in
set_option maxHeartbeats 4000000 in
theorem rank_ok (m r c : Nat) (hm : Gf.Ok m) (hr : r ≤ 32) (hc : c ≤ 32) (A : Option Addr) (cap : Nat) (l : List Int) (hcap : l.length ≤ cap) (hn : l.length = r * c) (hin : ∀ x ∈ l, 0 ≤ x ∧ x < 2 ^ m) (w : World) (hff : FF w) (hl : Kd.C (Kd.int .i64) w A l.length l) :
    Calls Tryd.prog 20 #[.agg #[.int .i64 m, .int .i64 r, .int .i64 c, .slice A l.length cap]] w fun e w' => e = .returned (.int .i64 ((Mx.redTo m r (Mx.el c l) c).2.length : Int)) ∧ Below w.heap.size w w' := by
  have HL := Aside0.mk hl
  have HV := Aside0.mk (valid_mk hm hr hc hn hin)
  have HF := Aside0.mk hff
  have HM := Aside0.mk hm
  have HN := Aside0.mk hn
  have HI := Aside0.mk hin
  have HLn := Aside0.mk (show l.length ≤ 4096 by have := row_max hr hc; omega)
  have HC := Aside0.mk (Mx.cells_of hn (fun x hx => (hin x hx).1))
  have HW0 := Aside0.mk hff.lt
  clear hl hff hm hn hin
  go_enter Tryd.func20, Tryd.ntmps20
  go_wp2_with fail
  refine (valid_is true m r c A cap l _ (Kd.C_alloc HL.out _) HV.out).mono ?_
  rintro e w1 ⟨rfl, hb⟩
  have HB := Aside0.mk (below_then (below_alloc (Below.refl w.heap.size w) _) (by simp) hb)
  have HBx := Aside0.mk (blk_below (heap_alloc_new w (.cells #[.int .i64 m, .int .i64 r, .int .i64 c, .slice A l.length cap] 24 (0, 0))) hb)
  clear hb
  go_wp2_with fail
  have HS := Aside0.mk (blk4 HBx.out)
  go_region_held3 (fun w' => w'.cell? ⟨w.heap.size, 0, none⟩ = some (.int .i64 m) ∧ w'.cell? ⟨w.heap.size, 1, none⟩ = some (.int .i64 r) ∧ w'.cell? ⟨w.heap.size, 2, none⟩ = some (.int .i64 c) ∧ w'.cell? ⟨w.heap.size, 3, none⟩ = some (.slice A l.length cap)) (first | exact HS.out) (first | (go_at_call 44; (with_reducible refine (copied_any m r c A cap l HLn.out _ (Kd.C_below HL.out (below_drew HB.out))).mono ?_); rintro e w2 ⟨v, rfl, ho, hb⟩; obtain ⟨A2, c2, rfl⟩ := Kd.R_slice ho; have HB2 := Aside0.mk (below_step (below_drew HB.out) hb); have HBx2 := Aside0.mk (blk_below HBx.out (below_undrew hb)); have HO := Aside0.mk (show Own w2 w1.heap.size A2 l.length c2 l from ho); clear HS ho hb; have HS := Aside0.mk (blk4 HBx2.out)) | (go_at_call 39; (with_reducible refine (reduce_list m r c l.length c2 c w1.heap.size HM.out hr (by omega) (Nat.le_refl _) A2 (Mx.el c l) (el_in HN.out HI.out) (Nat.lt_of_lt_of_le HW0.out HB.out.size) _ (FF.below HF.out HB2.out) l HN.out HC.out HO.out).mono ?_); rintro e w3 ⟨v, rfl, hg, ho, hp⟩; obtain ⟨Av, cv, rfl⟩ := Kd.R_slice hp; have HBx3 := Aside0.mk (grownA_blk HO.out hg (blk_lt HBx.out) HBx2.out); have HB3 := Aside0.mk (grownA_below HB2.out HO.out HB.out.size hg); clear HS hg ho hp; have HS := Aside0.mk (blk4 HBx3.out)))
  all_goals
    go_wp2
    go_ret
    exact ⟨by first | rfl | simp [piv], HB3.out⟩
theorem matrix_Rank.mono (a0_0 a0_1 a0_2 : Int) (l0_3 : List Int) (k : Nat) : LeO (matrix_Rank.f k a0_0 a0_1 a0_2 l0_3) (matrix_Rank.f (k + 1) a0_0 a0_1 a0_2 l0_3) := LeO.refl _
theorem matrix_Rank.calls (k : Nat) (a0_0 : Int) (a0_1 : Int) (a0_2 : Int) (A0_3 : Option Addr) (c0_3 : Nat) (l0_3 : List Int) (r : Int) (w : World) (hff : FF w) (hr0_3 : Kd.C (Kd.int .i64) w A0_3 l0_3.length l0_3) (hc0_3 : l0_3.length ≤ c0_3) (h : matrix_Rank.f k a0_0 a0_1 a0_2 l0_3 = some r) :
    Calls Tryd.prog 20 #[.agg #[.int .i64 a0_0, .int .i64 a0_1, .int .i64 a0_2, .slice A0_3 l0_3.length c0_3]] w fun e w' => e = .returned (.int .i64 r) ∧ Below w.heap.size w w' := by
  unfold matrix_Rank.f at h
  cases hv : validB a0_0 a0_1 a0_2 l0_3 with
  | false =>
    rw [hv, if_neg (by decide)] at h
    cases h
    exact rank_bad a0_0 a0_1 a0_2 A0_3 c0_3 l0_3 w hr0_3 hv
  | true =>
    obtain ⟨m, a, b, hm, rfl, rfl, rfl, ha, hb, hl, hin⟩ := valid_open hv
    rw [hv, if_pos rfl] at h
    cases h
    exact rank_ok m a b hm ha hb A0_3 c0_3 l0_3 hc0_3 hl hin w hff hr0_3
/-- what matrix.Independent answers -/
def matrix_Independent.f (k : Nat) (a0_0 a0_1 a0_2 : Int) (l0_3 : List Int) : Option (List Int) :=
  some (if validB a0_0 a0_1 a0_2 l0_3 = true then piv (Mx.redTo a0_0.toNat a0_2.toNat (fun i j => Mx.el a0_2.toNat l0_3 j i) a0_1.toNat).2 else [])
set_option maxRecDepth 100000 in
set_option maxHeartbeats 4000000 in
theorem indep_bad (f r c : Int) (A : Option Addr) (cap : Nat) (l : List Int) (w : World) (hl : Kd.C (Kd.int .i64) w A l.length l) (hv : validB f r c l = false) :
    Calls Tryd.prog 33 #[.agg #[.int .i64 f, .int .i64 r, .int .i64 c, .slice A l.length cap]] w (BackL w []) := by
  have HL := Aside0.mk hl
  have HV := Aside0.mk hv
  clear hl hv
  go_enter Tryd.func33, Tryd.ntmps33
  go_wp2_with fail
  refine (tr_bad f r c A cap l _ (Kd.C_alloc HL.out _) HV.out).mono ?_
  rintro e w1 ⟨v, rfl, ho, hb⟩
  obtain ⟨A1, c1, rfl⟩ := Kd.R_slice ho
  have HB := Aside0.mk (below_then (below_alloc (Below.refl w.heap.size w) _) (by simp) hb)
  clear ho hb
  go_wp2_with fail
  go_ret
  exact ⟨_, rfl, Kd.R_nil _ _ _ _ _, below_alloc HB.out _⟩
set_option maxRecDepth 100000 in
set_option maxHeartbeats 4000000 in
theorem indep_ok (m r c : Nat) (hm : Gf.Ok m) (hr : r ≤ 32) (hc : c ≤ 32) (A : Option Addr) (cap : Nat) (l : List Int) (hcap : l.length ≤ cap) (hn : l.length = r * c) (hin : ∀ x ∈ l, 0 ≤ x ∧ x < 2 ^ m) (w : World) (hff : FF w) (hl : Kd.C (Kd.int .i64) w A l.length l) :
    Calls Tryd.prog 33 #[.agg #[.int .i64 m, .int .i64 r, .int .i64 c, .slice A l.length cap]] w (BackL w (piv (Mx.redTo m c (fun i j => Mx.el c l j i) r).2)) := by
  have HL := Aside0.mk hl
  have HF := Aside0.mk hff
  have HM := Aside0.mk hm
  have HT := Aside0.mk (tr_ok m r c hm hr hc A cap l hcap hn hin _ (Kd.C_alloc hl (.cells #[.int .i64 m, .int .i64 r, .int .i64 c, .slice A l.length cap] 24 (0, 0))))
  have HIn := Aside0.mk (show Mx.In m c r (fun i j => Mx.el c l j i) from fun i j hi hj => el_in hn hin j i hj hi)
  have HW0 := Aside0.mk hff.lt
  clear hl hff hm hn hin
  go_enter Tryd.func33, Tryd.ntmps33
  go_wp2_with fail
  refine HT.out.mono ?_
  rintro e w1 ⟨v, rfl, ho, hb⟩
  obtain ⟨A1, c1, rfl⟩ := Kd.R_slice ho
  rw [Mx.cells_len]
  rw [Mx.cells_len] at ho
  have HB := Aside0.mk (below_then (below_alloc (Below.refl w.heap.size w) _) (by simp) hb)
  have HO := Aside0.mk (Kd.R_lower ho (show w.heap.size ≤ _ by simp))
  clear ho hb
  go_wp2_with fail
  refine (reduce_calls m c r c1 r w.heap.size HM.out hc (by omega) (Nat.le_refl _) A1 (fun i j => Mx.el c l j i) HIn.out HW0.out _ (FF.alloc (FF.below HF.out HB.out) _) (Kd.R_alloc HO.out _)).mono ?_
  rintro e w3 ⟨v, rfl, hg, ho, hp⟩
  have HB3 := Aside0.mk (grownA_below (below_alloc HB.out _) (Kd.R_alloc HO.out _) (Nat.le_refl _) hg)
  have HP := Aside0.mk (Kd.R_lower hp (below_alloc HB.out _).size)
  clear hg ho hp
  go_wp2_with fail
  go_ret
  exact ⟨_, rfl, HP.out, HB3.out⟩
theorem matrix_Independent.mono (a0_0 a0_1 a0_2 : Int) (l0_3 : List Int) (k : Nat) : LeO (matrix_Independent.f k a0_0 a0_1 a0_2 l0_3) (matrix_Independent.f (k + 1) a0_0 a0_1 a0_2 l0_3) := LeO.refl _
theorem matrix_Independent.calls (k : Nat) (a0_0 : Int) (a0_1 : Int) (a0_2 : Int) (A0_3 : Option Addr) (c0_3 : Nat) (l0_3 : List Int) (r : List Int) (w : World) (hff : FF w) (hr0_3 : Kd.C (Kd.int .i64) w A0_3 l0_3.length l0_3) (hc0_3 : l0_3.length ≤ c0_3) (h : matrix_Independent.f k a0_0 a0_1 a0_2 l0_3 = some r) :
    Calls Tryd.prog 33 #[.agg #[.int .i64 a0_0, .int .i64 a0_1, .int .i64 a0_2, .slice A0_3 l0_3.length c0_3]] w (BackL w r) := by
  unfold matrix_Independent.f at h
  cases hv : validB a0_0 a0_1 a0_2 l0_3 with
  | false =>
    rw [hv, if_neg (by decide)] at h
    cases h
    exact indep_bad a0_0 a0_1 a0_2 A0_3 c0_3 l0_3 w hr0_3 hv
  | true =>
    obtain ⟨m, a, b, hm, rfl, rfl, rfl, ha, hb, hl, hin⟩ := valid_open hv
    rw [hv, if_pos rfl] at h
    cases h
    exact indep_ok m a b hm ha hb A0_3 c0_3 l0_3 hc0_3 hl hin w hff hr0_3
end Go.Proofs.YtfigcmmmpndpjaaDoor.H
/- copy between rows; the rest of a row; what matrix.Solve needs. -/
namespace Go.Proofs.YtfigcmmmpndpjaaDoor.H
open Go.RowKit Go.Proofs.YtfigcmmmpndpjaaDoorW.PrintWords Go.Proofs.YtfigcmmmpndpjaaDoorW.PrintLast Go.Proofs.YtfigcmmmpndpjaaDoorW.PrintMore Go.Proofs.YtfigcmmmpndpjaaDoor.P
set_option linter.unusedVariables false
set_option linter.unusedSimpArgs false
/-- numbers laid into row i from column d on -/
def paste (F : Mx.Fn) (i d n : Nat) (G : Nat → Nat) : Mx.Fn := fun i' k => if i' = i ∧ d ≤ k ∧ k < d + n then G (k - d) else F i' k
theorem paste_zero (F : Mx.Fn) (i d : Nat) (G : Nat → Nat) : paste F i d 0 G = F := by
  funext i' k
  simp only [paste]
  rw [if_neg (by omega)]
theorem paste_succ (F : Mx.Fn) (i d n : Nat) (G : Nat → Nat) : paste (Mx.upd F i d (G 0)) i (d + 1) n (fun k => G (k + 1)) = paste F i d (n + 1) G := by
  funext i' k
  simp only [paste, Mx.upd]
  by_cases h : i' = i ∧ d + 1 ≤ k ∧ k < d + 1 + n
  · rw [if_pos h, if_pos (by omega), show k - (d + 1) + 1 = k - d by omega]
  · rw [if_neg h]
    by_cases h2 : i' = i ∧ k = d
    · rw [if_pos h2, if_pos (by omega), h2.2, Nat.sub_self]
    · rw [if_neg h2, if_neg (by omega)]
/-- n numbers as cells -/
def numCells (n : Nat) (G : Nat → Nat) : List Value := (List.range n).map fun k => .int .i64 (G k : Int)
theorem numCells_len (n : Nat) (G : Nat → Nat) : (numCells n G).length = n := by simp [numCells]
theorem numCells_succ (n : Nat) (G : Nat → Nat) : numCells (n + 1) G = .int .i64 (G 0 : Int) :: numCells n (fun k => G (k + 1)) := by
  simp [numCells, List.range_succ_eq_map, Function.comp_def]
theorem own_puts {base r c cap g i : Nat} (hi : i < r) (n : Nat) : ∀ (d : Nat) (G : Nat → Nat) (F : Mx.Fn) (W : World), d + n ≤ c → Own W base (some ⟨g, 0, none⟩) (r * c) cap (Mx.cells r c F) →
    Own (W.setCells g (i * c + d) (numCells n G)) base (some ⟨g, 0, none⟩) (r * c) cap (Mx.cells r c (paste F i d n G)) ∧ W.grownBy (W.setCells g (i * c + d) (numCells n G)) (some g) := by
  induction n with
  | zero =>
    intro d G F W _ h
    rw [paste_zero]
    exact ⟨h, World.grownBy.refl W _⟩
  | succ n ih =>
    intro d G F W hd h
    rw [numCells_succ]
    have h1 := own_put h (i * c + d) (G 0 : Int)
    rw [Mx.cells_set _ _ hi (by omega)] at h1
    obtain ⟨k1, k2⟩ := ih (d + 1) (fun k => G (k + 1)) _ _ (by omega) h1
    rw [paste_succ] at k1
    simp only [World.setCells]
    rw [Nat.add_assoc]
    exact ⟨k1, gb_trans (gb_set _ _ _ _) k2⟩
theorem info3s : (Tryd.prog.info? 3).map (·.size) = some 1 := by kernel_rfl
/-- copy of numbers, at a step of a region -/
theorem step_copy_nums {ops : Array Oper} {o : Oper} {a : Act} {w : World} {K : Act → World → Prop} {Q : Exit → Act → World → Prop} {E : Prop} (hgd : o.guard = none) (d s : Operand)
    (ho : o.op = .call { callee := .builtin .copy, args := #[d, s], argTypes := #[22, 22] }) (dp sp : Option Addr) (dLen dCap sLen sCap : Nat) (hd : a.eval d = .slice dp dLen dCap) (hs : a.eval s = .slice sp sLen sCap)
    (g off n : Nat) (G : Nat → Nat) (hn : n = Nat.min sLen dLen) (hdp : 0 < n → dp = some ⟨g, off, none⟩) (hsp : ∀ j, j < n → ∃ ad, sp = some ad ∧ w.cell? (ad.add j) = some (.int .i64 (G j : Int)))
    (hc : ∀ j, j < n → (w.cell? ⟨g, off + j, none⟩).isSome = true ∧ w.frozen? ⟨g, off + j, none⟩ = false)
    (h : K (a.put o.dst (.int .i64 (n : Int))) (w.setCells g off (numCells n G))) :
    if Region.wanted o (yielded ops a.tmps) = true then Oper.wp Tryd.prog o a w K Q else E := by
  rw [if_pos (by simp [Region.wanted, hgd])]
  rcases Nat.eq_zero_or_pos n with h0 | hpos
  · subst h0
    have hrun := run_copy_none (P := Tryd.prog) w 22 22 o.type 3 dp sp dLen dCap sLen sCap Tryd.underlying22 info3s hn.symm
    unfold Oper.wp execOp
    simp only [ho, resolve, invoke, builtin, Sem.run_bind, Sem.run_pure, Result.andThen_ok, List.map_toArray, List.map_cons, List.map_nil, hd, hs, hrun]
    exact h
  · obtain ⟨ad, hsp0, _⟩ := hsp 0 hpos
    have hdp0 := hdp hpos
    subst hsp0
    subst hdp0
    have hrun := run_copy_cells (P := Tryd.prog) w 22 22 o.type 3 g off dLen dCap ad sLen sCap (numCells n G) Tryd.underlying22 info3s (by rw [numCells_len]; exact hn)
      (fun j v hv => by
        have hj : j < n := by
          rcases Nat.lt_or_ge j n with h | h
          · exact h
          · rw [List.getElem?_eq_none (by rw [numCells_len]; exact h)] at hv; cases hv
        obtain ⟨ad', e, hx⟩ := hsp j hj
        cases e
        rw [hx]
        simp [numCells, hj] at hv
        rw [← hv])
      (fun j hj => (hc j (by rwa [numCells_len] at hj)).1) (fun j hj => (hc j (by rwa [numCells_len] at hj)).2) (fun v hv => by
        simp only [numCells, List.mem_map] at hv
        obtain ⟨k, _, rfl⟩ := hv
        rfl)
    rw [numCells_len] at hrun
    unfold Oper.wp execOp
    simp only [ho, resolve, invoke, builtin, Sem.run_bind, Sem.run_pure, Result.andThen_ok, List.map_toArray, List.map_cons, List.map_nil, hd, hs, hrun]
    exact h
/-- the rest of a row, from column m on -/
theorem cut_row {A A5 : Option Addr} {q n c m b : Nat} (hR : RowAt A q n A5) (hb : n = m + b) (hnc : n ≤ c) :
    ∃ A6, (∀ W : World, (Instr.slice 22 (.slice A5 n c) (some (.int .i64 (m : Int))) none none).run Tryd.prog W = .ok (.slice A6 b (c - m)) W) ∧ RowAt A (q + m) b A6 := by
  obtain ⟨i0, hi, hsz⟩ := Option.map_eq_some_iff.1 info3s
  refine ⟨if c = m then A5 else A5.map (·.add m), fun W => ?_, ?_⟩
  · have hel : Tryd.prog.elem 22 = 3 := by simp [Program.elem, Tryd.underlying22]
    have hu : Tryd.prog.underlying 22 = some (.slice (Tryd.prog.elem 22)) := by rw [hel]; exact Tryd.underlying22
    have e : n - m = b := by omega
    rw [run_slice_l W 22 A5 n c hu .i64 (m : Int) (Int.natCast_nonneg _) (by omega), hel]
    simp [sizeOf, typeInfo, hi, hsz, sliced, Result.andThen, e]
  · intro h0
    rw [if_neg (by omega), hR (by omega)]
    cases A with
    | none => rfl
    | some ad =>
      simp only [Option.map_some]
      congr 1
      unfold Addr.add; split <;> split <;> simp_all <;> omega
theorem bes_step (c d r i : Nat) (A B : Mx.Fn) (hi : i < r) : Mx.cells r (c + d) (paste (paste (Mx.besTo c A B i) i 0 c (A i)) i c d (B i)) = Mx.cells r (c + d) (Mx.besTo c A B (i + 1)) :=
  Mx.cells_congr fun i' k _ hk => by
    simp only [paste, Mx.besTo, Mx.bes]
    by_cases h : i' = i
    · subst h
      by_cases h2 : k < c
      · rw [if_neg (by omega), if_pos ⟨rfl, by omega, by omega⟩, if_pos (by omega), if_pos h2, Nat.sub_zero]
      · rw [if_pos ⟨rfl, by omega, by omega⟩, if_pos (by omega), if_neg h2]
    · rw [if_neg (by simp [h]), if_neg (by simp [h])]
      by_cases h2 : i' < i
      · rw [if_pos h2, if_pos (show i' < i + 1 by omega)]
      · rw [if_neg h2, if_neg (show ¬ i' < i + 1 by omega)]
theorem sol_step (R : Mx.Fn) (ps : List Nat) (c d n t : Nat) : Mx.cells n d (paste (Mx.solTo R ps c t) (ps.getD t 0) 0 d (fun j => R t (c + j))) = Mx.cells n d (Mx.solTo R ps c (t + 1)) :=
  Mx.cells_congr fun k j _ hj => by
    simp only [paste, Mx.solTo]
    by_cases h : k = ps.getD t 0
    · rw [if_pos ⟨h, by omega, by omega⟩, if_pos h, Nat.sub_zero]
    · rw [if_neg (by simp only [h, false_and, not_false_eq_true]), if_neg h]
/-- the block at A has been written -/
theorem Made.turn {w W W2 : World} {gb gc m r c cap : Nat} {A : Option Addr} {F F' : Mx.Fn} (h : Made w W gb gc m r c A cap F) (hg : W.grownBy W2 (A.map (·.block))) (ho : Own W2 w.heap.size A (r * c) cap (Mx.cells r c F')) : Made w W2 gb gc m r c A cap F' := by
  have hne : ∀ q cs, W.heap[q]? = some (.cells cs 24 (0, 0)) → some q ≠ A.map (·.block) := fun q cs hq e => by
    cases A with
    | none => cases e
    | some ad => exact Kd.R_ne h.own hq (by decide) e
  exact ⟨grownA_below h.below h.own (Nat.le_refl _) hg, h.lob, h.loc, h.ne, blk_grown h.res hg (hne _ _ h.res), blk_grown h.mat hg (hne _ _ h.mat), ho⟩
theorem Box2.turn {w W W2 : World} {f r0 c0 : Int} {Aa : Option Addr} {n cap : Nat} {f' r' c' : Int} {A' : Option Addr} {n' cap' : Nat} (h : Box2 w W f r0 c0 Aa n cap f' r' c' A' n' cap') {A : Option Addr} {k capA : Nat} {l : List Int} (ho : Own W w.heap.size A k capA l) (hg : W.grownBy W2 (A.map (·.block))) : Box2 w W2 f r0 c0 Aa n cap f' r' c' A' n' cap' := by
  have hne : ∀ q cs, W.heap[q]? = some (.cells cs 24 (0, 0)) → some q ≠ A.map (·.block) := fun q cs hq e => by
    cases A with
    | none => cases e
    | some ad => exact Kd.R_ne ho hq (by decide) e
  exact ⟨grownA_below h.below ho (Nat.le_refl _) hg, blk_grown h.a hg (hne _ _ h.a), blk_grown h.b hg (hne _ _ h.b)⟩
/-- numbers laid into a row of one's own cells, whatever the row's length -/
theorem Made.puts {w W : World} {gb gc m r c cap i d n : Nat} {A : Option Addr} {F : Mx.Fn} {G : Nat → Nat} (h : Made w W gb gc m r c A cap F) (hi : i < r) (hd : d + n ≤ c) {g : Nat} (hA : 0 < n → A = some ⟨g, 0, none⟩) :
    ∃ W2, W2 = W.setCells g (i * c + d) (numCells n G) ∧ W.grownBy W2 (A.map (·.block)) ∧ Own W2 w.heap.size A (r * c) cap (Mx.cells r c (paste F i d n G)) := by
  rcases Nat.eq_zero_or_pos n with h0 | hp
  · subst h0
    refine ⟨_, rfl, World.grownBy.refl W _, ?_⟩
    rw [paste_zero]
    exact h.own
  · have e := hA hp
    subst e
    obtain ⟨h1, h2⟩ := own_puts hi n d G F W hd h.own
    exact ⟨_, rfl, h2, h1⟩
end Go.Proofs.YtfigcmmmpndpjaaDoor.H

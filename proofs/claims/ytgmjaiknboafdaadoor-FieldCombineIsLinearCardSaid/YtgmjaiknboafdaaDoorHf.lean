/- What field.accumulate does: each symbol's multiple is added to the sum in memory. -/
import Derived.Test.YtgmjaiknboafdaaDoorHc
namespace Go.Proofs.YtgmjaiknboafdaaDoor.H
open Go.RowKit Go.Shelf Go.Proofs.YtgmjaiknboafdaaDoorW.PrintWords Go.Proofs.YtgmjaiknboafdaaDoorW.PrintLast Go.Proofs.YtgmjaiknboafdaaDoorW.PrintMore Go.Proofs.YtgmjaiknboafdaaDoor.P
attribute [local go_sem] Oper.semAt_some
set_option linter.unusedVariables false
set_option linter.unusedSimpArgs false

/-- bytes as cells -/
def bv (S : List Int) : Array Value := (S.map (Value.int .u8)).toArray
theorem bv_get (S : List Int) (i : Nat) (h : i < S.length) : (bv S)[i]? = some (.int .u8 (rd S i)) := by
  simp [bv, rd, List.getElem?_eq_getElem h]
theorem bv_set (S : List Int) (i : Nat) (x : Int) : (bv S).setIfInBounds i (.int .u8 x) = bv (S.set i x) := by
  simp [bv, List.map_set]
theorem bv_size (S : List Int) : (bv S).size = S.length := by simp [bv]

theorem gb_cell {w W : World} {g : Nat} (h : w.grownBy W (some g)) {b o : Nat} (hb : b < w.heap.size) (hne : b ≠ g) : W.cell? ⟨b, o, none⟩ = w.cell? ⟨b, o, none⟩ :=
  World.cell?_of_block (a := ⟨b, o, none⟩) (h.block b hb (by simpa using hne))
theorem gb_trans {a b c : World} {g : Nat} (h : a.grownBy b (some g)) (k : b.grownBy c (some g)) : a.grownBy c (some g) :=
  ⟨k.os.trans h.os, k.tape.trans h.tape, k.output.trans h.output, Nat.le_trans h.size k.size, fun i hi hr => (k.block i (Nat.lt_of_lt_of_le hi h.size) hr).trans (h.block i hi hr)⟩
theorem gb_of_below {w W : World} (h : Below w.heap.size w W) (row : Option Nat) : w.grownBy W row := ⟨h.os, h.tape, h.output, h.size, fun i hi _ => h.block i hi⟩
theorem gb_ff {w W : World} {g : Nat} (h : w.grownBy W (some g)) (hg : 0 < g) (hf : FF w) : FF W := by
  have hl := hf.lt
  obtain ⟨t, fr, hf⟩ := hf
  exact ⟨t, fr, (h.block 0 hl (by simp; omega)).trans hf⟩
theorem gb_set (W : World) (g i : Nat) (v : Value) : W.grownBy (W.setCell ⟨g, i, none⟩ v) (some g) :=
  ⟨rfl, rfl, rfl, by simp, fun k _ hr => heap_setCell_other W ⟨g, i, none⟩ k v (by rintro rfl; exact hr rfl)⟩

theorem ko_below {W W1 : World} (h : Below W.heap.size W W1) : KeepsOthers W W1 := ⟨h.size, fun k o hk _ => (h.block k (Array.getElem?_eq_some_iff.1 hk).1).trans hk⟩
/-- what has been added: of the symbol number j of a unit of bytes -/
def step8 (c : Int) (u : ByteArray) (S : List Int) (j : Nat) : List Int :=
  S.set j (Go.bits .xor .u8 (rd S j) ((Gf.mul 8 c.toNat (bt u j).toNat : Nat) : Int))

/-- What holds between two rounds. -/
def AccI (W0 : World) (g : Nat) (step : List Int → Nat → List Int) (S : List Int) {n : Nat} (pre : List (Ix n)) (W : World) : Prop :=
  W0.grownBy W (some g) ∧ W.heap[g]? = some (.cells (bv ((pre.map (·.1)).foldl step S)) 5 (0, 0))

theorem AccI.own (W0 : World) (g : Nat) (hg : g < W0.heap.size) (step : List Int → Nat → List Int) (S : List Int) {n : Nat} : OwnFrom W0.heap.size (AccI W0 g step S (n := n)) := by
  intro pre W W' row hI hgr hr
  obtain ⟨h1, h2⟩ := hI
  have key : ∀ k, k < W0.heap.size → some k ≠ row := fun k hk e => by
    have := (hr k e.symm).1
    omega
  refine ⟨⟨hgr.os.trans h1.os, hgr.tape.trans h1.tape, hgr.output.trans h1.output, Nat.le_trans h1.size hgr.size, fun i hi hn => (hgr.block i (Nat.lt_of_lt_of_le hi h1.size) (key i hi)).trans (h1.block i hi hn)⟩, ?_⟩
  exact (hgr.block g (Nat.lt_of_lt_of_le hg h1.size) (key g hg)).trans h2

theorem step8_len (c : Int) (u : ByteArray) (l : List Nat) : ∀ S, (l.foldl (step8 c u) S).length = S.length := by
  induction l with
  | nil => intro S; rfl
  | cons a l ih => intro S; rw [List.foldl_cons, ih]; simp [step8]

set_option maxRecDepth 100000 in
set_option maxHeartbeats 2000000 in
theorem sym45 (m : Int) (u : ByteArray) (w : World) : Calls Tryd.prog 45 #[.int .i64 m, .string u] w fun e w' => e = .returned (.func (.func 50) #[] #[.pointer (some ⟨w.heap.size, 0, none⟩), .pointer (some ⟨w.heap.size + 1, 0, none⟩)]) ∧ (w.alloc (.cells #[.int .i64 m] 3)).alloc (.cells #[.string u] 9) = w' := by
  go_enter Tryd.func45, Tryd.ntmps45
  go_wp2
  go_ret
  exact ⟨rfl, rfl⟩

theorem cell_new (w : World) (v : Value) (t : TypeId) : (w.alloc (.cells #[v] t)).cell? ⟨w.heap.size, 0, none⟩ = some v := (cell_of_row _ _ 0 _ _ _ (heap_alloc_new w _)).trans rfl
theorem cell_past (w : World) (o : Obj) {a : Addr} {v : Value} (h : w.cell? a = some v) : (w.alloc o).cell? a = some v := pw_cell_below (below_alloc (Below.refl _ _) o) h

/-- The world where the loop begins: five boxes. -/
theorem five (w : World) (v0 v1 v2 v3 v4 : Value) (t0 t1 t2 t3 t4 : TypeId) : ∃ W0, (((((w.alloc (.cells #[v0] t0)).alloc (.cells #[v1] t1)).alloc (.cells #[v2] t2)).alloc (.cells #[v3] t3)).alloc (.cells #[v4] t4)) = W0 ∧
    W0.heap.size = w.heap.size + 5 ∧ Below w.heap.size w W0 ∧ W0.cell? ⟨w.heap.size, 0, none⟩ = some v0 ∧ W0.cell? ⟨w.heap.size + 1, 0, none⟩ = some v1 ∧ W0.cell? ⟨w.heap.size + 1 + 1, 0, none⟩ = some v2 ∧
    W0.cell? ⟨w.heap.size + 1 + 1 + 1, 0, none⟩ = some v3 ∧ W0.cell? ⟨w.heap.size + 1 + 1 + 1 + 1, 0, none⟩ = some v4 := by
  refine ⟨_, rfl, by simp, below_alloc (below_alloc (below_alloc (below_alloc (below_alloc (Below.refl _ _) _) _) _) _) _, ?_, ?_, ?_, ?_, ?_⟩
  · exact cell_past _ _ (cell_past _ _ (cell_past _ _ (cell_past _ _ (cell_new w v0 t0))))
  · have := cell_new (w.alloc (.cells #[v0] t0)) v1 t1
    rw [World.size_alloc] at this
    exact cell_past _ _ (cell_past _ _ (cell_past _ _ this))
  · have := cell_new ((w.alloc (.cells #[v0] t0)).alloc (.cells #[v1] t1)) v2 t2
    rw [World.size_alloc, World.size_alloc] at this
    exact cell_past _ _ (cell_past _ _ this)
  · have := cell_new (((w.alloc (.cells #[v0] t0)).alloc (.cells #[v1] t1)).alloc (.cells #[v2] t2)) v3 t3
    rw [World.size_alloc, World.size_alloc, World.size_alloc] at this
    exact cell_past _ _ this
  · have := cell_new ((((w.alloc (.cells #[v0] t0)).alloc (.cells #[v1] t1)).alloc (.cells #[v2] t2)).alloc (.cells #[v3] t3)) v4 t4
    rw [World.size_alloc, World.size_alloc, World.size_alloc, World.size_alloc] at this
    exact this

set_option maxRecDepth 100000 in
set_option maxHeartbeats 4000000 in
theorem acc8 (c : Int) (hc : 0 ≤ c ∧ c < 256) (u : ByteArray) (hu : u.size ≤ 140737488355328) (g cap : Nat) (hg0 : 0 < g) (S : List Int) (hS : S.length = u.size) (w : World) (hff : FF w) (hg : w.heap[g]? = some (.cells (bv S) 5 (0, 0))) :
    Calls Tryd.prog 34 #[.slice (some ⟨g, 0, none⟩) u.size cap, .int .i64 8, .int .i64 c, .string u] w fun e w' => e = .returned (.tuple #[]) ∧
      w.grownBy w' (some g) ∧ w'.heap[g]? = some (.cells (bv ((upto (fun j => j) u.size).foldl (step8 c u) S)) 5 (0, 0)) := by
  have hgl : g < w.heap.size := (Array.getElem?_eq_some_iff.1 hg).1
  have HG := Aside0.mk hg
  have HF := Aside0.mk hff
  clear hg hff
  refine (callsIn_wide (n := 3)).1 ?_
  refine callsIn_of_wp_marks Tryd.func34 rfl trivial ?_ rfl
  simp only [Tryd.ntmps34, List.size_toArray, List.length_cons, List.length_nil, Nat.reduceAdd, Nat.reduceSub, Array.replicate_succ, Array.replicate_zero, List.push_toArray, List.append_toArray, List.nil_append, List.cons_append]
  gi_wp2_with (refine ⟨trivial, ?_⟩; gi_at_call 45; refine (callsIn_wide.2 (sym45 8 u _)).mono ?_; rintro e w' ⟨rfl, rfl⟩)
  obtain ⟨W0, hW0, hz, hbel, b4, b5, b6, c1, c2⟩ := five w (.slice (some ⟨g, 0, none⟩) u.size cap) (.int .i64 8) (.int .i64 c) (.int .i64 8) (.string u) 50 3 3 3 9
  rw [hW0]
  clear hW0
  have hg1 : W0.heap[g]? = some (.cells (bv S) 5 (0, 0)) := (hbel.block g hgl).trans HG.out
  have hgl1 : g < W0.heap.size := by omega
  have HB := Aside0.mk hbel
  have HF0 := Aside0.mk (HF.out.below hbel)
  have HZ := Aside0.mk hz
  clear hbel
  refine wpIn_rangeFunc_ownF (n := 3) rfl (by omega) (gf := 50) (lb := #[.pointer (some ⟨w.heap.size + 1 + 1 + 1, 0, none⟩), .pointer (some ⟨w.heap.size + 1 + 1 + 1 + 1, 0, none⟩)]) rfl trivial (enters_of Tryd.func50 (by kernel_rfl) rfl)
    (encs := fun x : Ix u.size => #[.int .i64 (x.1 : Int), .int .i64 (bt u x.1)]) (Kp := Kp2 ⟨w.heap.size + 1 + 1 + 1, 0, none⟩ ⟨w.heap.size + 1 + 1 + 1 + 1, 0, none⟩) (S := fun ys => ys.map (·.1) = upto (fun j => j) u.size) (Sp := fun _ => True) (N := u.size) (w0 := W0)
    ?seq ?kt ?kb (Below.refl _ _) (fun _ => rfl) (AccI W0 g (step8 c u) S) (fun _ _ _ => False) (AccI.own W0 g hgl1 _ S) (fun _ _ _ _ _ hs _ _ => hs) ?start
    (fun x => { tmps := #[.slice (some ⟨g, 0, none⟩) u.size cap, .int .i64 8, .int .i64 c, .string u, .pointer (some ⟨w.heap.size, 0, none⟩), .pointer (some ⟨w.heap.size + 1, 0, none⟩), .pointer (some ⟨w.heap.size + 1 + 1, 0, none⟩), undef, .int .i64 (x.1 : Int), .int .i64 (bt u x.1), undef, .int .i64 8, .string u,
      .func (.func 50) #[] #[.pointer (some ⟨w.heap.size + 1 + 1 + 1, 0, none⟩), .pointer (some ⟨w.heap.size + 1 + 1 + 1 + 1, 0, none⟩)], .int .i64 (x.1 : Int), .int .i64 (bt u x.1), undef, undef, undef, undef, undef, undef, undef, undef, undef, undef, undef, undef, undef, undef, undef, undef, undef, undef, undef, undef, undef, undef, undef, undef], defers := [] }) ?assign ?body ?done ?stop
  case seq =>
    intro l J Jx W hb hJ hJx hY h0
    have k1 : W.cell? ⟨w.heap.size + 1 + 1 + 1, 0, none⟩ = some (.int .i64 8) := pw_cell_below hb c1
    have k2 : W.cell? ⟨w.heap.size + 1 + 1 + 1 + 1, 0, none⟩ = some (.string u) := pw_cell_below hb c2
    exact (sym8_in Fence.wide 2 trivial rfl (by omega) l _ _ u hu J Jx hY W k1 k2 hJ h0).mono fun e W' h => h
  case kt => intro A B C h k; exact ⟨k.1.trans h.1, k.2.trans h.2⟩
  case kb =>
    intro W l o o' hl hw ho1 ho2
    have hz := HZ.out
    exact ⟨World.cell?_of_block (World.putObj_heap_other (by show w.heap.size + 1 + 1 + 1 ≠ l; omega)), World.cell?_of_block (World.putObj_heap_other (by show w.heap.size + 1 + 1 + 1 + 1 ≠ l; omega))⟩
  case start => exact ⟨gb_of_below (Below.refl _ _) _, hg1⟩
  case assign =>
    intro l x W K hK
    gi_wp2
    exact hK
  case body =>
    rintro l pre x W ⟨hgb, hcs⟩ hlt
    obtain ⟨S1, hS1⟩ : ∃ S1, (pre.map (·.1)).foldl (step8 c u) S = S1 := ⟨_, rfl⟩
    have hl1 : S1.length = u.size := by rw [← hS1, step8_len, hS]
    rw [hS1] at hcs
    obtain ⟨r, hr⟩ : ∃ r : Int, r = ((Gf.mul 8 c.toNat (bt u x.1).toNat : Nat) : Int) := ⟨_, rfl⟩
    have hbx := bt_range u x.1
    have hX : field_product.f 17 8 c (bt u x.1) = some r := by
      have := product_eq (m := 8) (.inl rfl) (a := c.toNat) (b := (bt u x.1).toNat) (by omega) (by omega) 17 (by omega)
      rw [Int.toNat_of_nonneg hc.1, Int.toNat_of_nonneg hbx.1, ← hr] at this
      exact this
    have hrl : 0 ≤ r ∧ r < 256 := by
      have := Gf.mul_lt (m := 8) (.inl rfl) (a := c.toNat) (bt u x.1).toNat (by omega)
      omega
    have HFW := Aside0.mk (gb_ff hgb hg0 HF0.out)
    have HX := Aside0.mk hX
    have HL := Aside0.mk hl1
    have HR := Aside0.mk hr
    have HS1 := Aside0.mk hS1
    have hz := HZ.out
    have d4 : W.cell? ⟨w.heap.size, 0, none⟩ = some (.slice (some ⟨g, 0, none⟩) u.size cap) := (gb_cell hgb (by omega) (by omega)).trans b4
    have d5 : W.cell? ⟨w.heap.size + 1, 0, none⟩ = some (.int .i64 8) := (gb_cell hgb (by omega) (by omega)).trans b5
    have d6 : W.cell? ⟨w.heap.size + 1 + 1, 0, none⟩ = some (.int .i64 c) := (gb_cell hgb (by omega) (by omega)).trans b6
    have hxl := x.2
    have hgW : g < W.heap.size := Nat.lt_of_lt_of_le hgl1 hgb.size
    have hsW : W0.heap.size ≤ W.heap.size := hgb.size
    have HGB := Aside0.mk hgb
    have HCS := Aside0.mk hcs
    clear hX hr hS1 b4 b5 b6 hg1 hz hbx hS hgb hcs hl1
    gi_wp2_with fail
    refine ⟨trivial, ?_⟩
    refine (CallsIn.inRound l (callsIn_wide.2 (field_product.calls 17 8 c _ r _ HFW.out HX.out))).mono ?_
    rintro e W1 ⟨rfl, hb⟩
    have f4 : W1.cell? ⟨w.heap.size, 0, none⟩ = some (.slice (some ⟨g, 0, none⟩) u.size cap) := pw_cell_below hb d4
    have f5 : W1.cell? ⟨w.heap.size + 1, 0, none⟩ = some (.int .i64 8) := pw_cell_below hb d5
    have hg2 : W1.heap[g]? = some (.cells (bv S1) 5 (0, 0)) := (hb.block g hgW).trans HCS.out
    have fc : W1.cell? ⟨g, x.1, none⟩ = some (.int .u8 (rd S1 x.1)) := (cell_of_row _ _ _ _ _ _ hg2).trans (bv_get S1 x.1 (by have := HL.out; omega))
    have ff : W1.frozen? ⟨g, x.1, none⟩ = false := frozen_of_row _ _ _ _ _ hg2
    have HB1 := Aside0.mk hb
    have HG2 := Aside0.mk hg2
    clear hb hg2 d4 d5 d6
    gi_wp2
    refine wpIn_loop_rounds 2 ?_
    rw [roundsIn_succ]
    gi_wp2
    rw [roundsIn_succ]
    gi_wp2
    have hz := HZ.out
    have hW1 := HB1.out
    refine ⟨(ko_below hW1).trans (KeepsOthers.setCell _ _ _), ⟨?_, ?_⟩, ?_, ?_⟩
    · exact (World.cell?_of_block (heap_setCell_other _ _ _ _ (by show w.heap.size + 1 + 1 + 1 ≠ g; omega))).trans (hW1.cell (p := ⟨w.heap.size + 1 + 1 + 1, 0, none⟩) (by show w.heap.size + 1 + 1 + 1 < _; omega))
    · exact (World.cell?_of_block (heap_setCell_other _ _ _ _ (by show w.heap.size + 1 + 1 + 1 + 1 ≠ g; omega))).trans (hW1.cell (p := ⟨w.heap.size + 1 + 1 + 1 + 1, 0, none⟩) (by show w.heap.size + 1 + 1 + 1 + 1 < _; omega))
    · exact gb_trans (gb_trans HGB.out (gb_of_below hW1 _)) (gb_set _ _ _ _)
    · rw [heap_setCell_same _ _ _ _ _ _ HG2.out, bv_set, List.map_append, List.foldl_append, HS1.out]
      simp only [List.map_cons, List.map_nil, List.foldl_cons, List.foldl_nil, step8]
      rw [← HR.out]
  case done =>
    rintro D ys W hD hys ⟨hgb, hcs⟩ hK
    have HGB := Aside0.mk hgb
    have HCS := Aside0.mk hcs
    have HYS := Aside0.mk hys
    clear hgb hcs hys
    gi_wp2
    refine ⟨by simp, .inl ⟨_, _, rfl, run_takeDeferred hK, ?_⟩⟩
    refine ⟨_, results_none rfl _ _ _, rfl, ?_, ?_⟩
    · have h1 := HGB.out
      have h0 := HB.out
      have hz := HZ.out
      exact ⟨h1.os.trans h0.os, h1.tape.trans h0.tape, h1.output.trans h0.output, by have := h1.size; simp; omega, fun k hk hr => (World.putObj_heap_other (by omega)).trans ((h1.block k (by omega) hr).trans (h0.block k hk))⟩
    · have hz := HZ.out
      refine (World.putObj_heap_other (by omega)).trans ?_
      rw [← HYS.out]
      exact HCS.out
  case stop =>
    rintro D c pre W _ _ h _
    exact h.elim
/-- what has been added: of the symbol number j of a unit of pairs of bytes -/
def step16 (c : Int) (u : ByteArray) (S : List Int) (j : Nat) : List Int :=
  (S.set (2 * j + 1) (Go.bits .xor .u8 (rd S (2 * (j : Int) + 1)) (((Gf.mul 16 c.toNat (256 * bt u (2 * (j : Int)) + bt u (2 * (j : Int) + 1)).toNat : Nat) : Int) % 256))).set (2 * j)
    (Go.bits .xor .u8 (rd S (2 * (j : Int))) (((Gf.mul 16 c.toNat (256 * bt u (2 * (j : Int)) + bt u (2 * (j : Int) + 1)).toNat : Nat) : Int) / 256))
theorem step16_len (c : Int) (u : ByteArray) (l : List Nat) : ∀ S, (l.foldl (step16 c u) S).length = S.length := by
  induction l with
  | nil => intro S; rfl
  | cons a l ih => intro S; rw [List.foldl_cons, ih]; simp [step16]

set_option maxRecDepth 100000 in
set_option maxHeartbeats 4000000 in
theorem acc16 (c : Int) (hc : 0 ≤ c ∧ c < 65536) (u : ByteArray) (hu : u.size ≤ 140737488355328) (hev : u.size % 2 = 0) (g cap : Nat) (hg0 : 0 < g) (S : List Int) (hS : S.length = u.size) (w : World) (hff : FF w) (hg : w.heap[g]? = some (.cells (bv S) 5 (0, 0))) :
    Calls Tryd.prog 34 #[.slice (some ⟨g, 0, none⟩) u.size cap, .int .i64 16, .int .i64 c, .string u] w fun e w' => e = .returned (.tuple #[]) ∧
      w.grownBy w' (some g) ∧ w'.heap[g]? = some (.cells (bv ((upto (fun j => j) (u.size / 2)).foldl (step16 c u) S)) 5 (0, 0)) := by
  have hgl : g < w.heap.size := (Array.getElem?_eq_some_iff.1 hg).1
  have HG := Aside0.mk hg
  have HF := Aside0.mk hff
  clear hg hff
  refine (callsIn_wide (n := 3)).1 ?_
  refine callsIn_of_wp_marks Tryd.func34 rfl trivial ?_ rfl
  simp only [Tryd.ntmps34, List.size_toArray, List.length_cons, List.length_nil, Nat.reduceAdd, Nat.reduceSub, Array.replicate_succ, Array.replicate_zero, List.push_toArray, List.append_toArray, List.nil_append, List.cons_append]
  gi_wp2_with (refine ⟨trivial, ?_⟩; gi_at_call 45; refine (callsIn_wide.2 (sym45 16 u _)).mono ?_; rintro e w' ⟨rfl, rfl⟩)
  obtain ⟨W0, hW0, hz, hbel, b4, b5, b6, c1, c2⟩ := five w (.slice (some ⟨g, 0, none⟩) u.size cap) (.int .i64 16) (.int .i64 c) (.int .i64 16) (.string u) 50 3 3 3 9
  rw [hW0]
  clear hW0
  have hg1 : W0.heap[g]? = some (.cells (bv S) 5 (0, 0)) := (hbel.block g hgl).trans HG.out
  have hgl1 : g < W0.heap.size := by omega
  have HB := Aside0.mk hbel
  have HF0 := Aside0.mk (HF.out.below hbel)
  have HZ := Aside0.mk hz
  clear hbel
  refine wpIn_rangeFunc_ownF (n := 3) rfl (by omega) (gf := 50) (lb := #[.pointer (some ⟨w.heap.size + 1 + 1 + 1, 0, none⟩), .pointer (some ⟨w.heap.size + 1 + 1 + 1 + 1, 0, none⟩)]) rfl trivial (enters_of Tryd.func50 (by kernel_rfl) rfl)
    (encs := fun x : Ix (u.size / 2) => #[.int .i64 (2 * (x.1 : Int)), .int .i64 (256 * bt u (2 * (x.1 : Int)) + bt u (2 * (x.1 : Int) + 1))]) (Kp := Kp2 ⟨w.heap.size + 1 + 1 + 1, 0, none⟩ ⟨w.heap.size + 1 + 1 + 1 + 1, 0, none⟩) (S := fun ys => ys.map (·.1) = upto (fun j => j) (u.size / 2)) (Sp := fun _ => True) (N := u.size / 2) (w0 := W0)
    ?seq ?kt ?kb (Below.refl _ _) (fun _ => rfl) (AccI W0 g (step16 c u) S) (fun _ _ _ => False) (AccI.own W0 g hgl1 _ S) (fun _ _ _ _ _ hs _ _ => hs) ?start
    (fun x => { tmps := #[.slice (some ⟨g, 0, none⟩) u.size cap, .int .i64 16, .int .i64 c, .string u, .pointer (some ⟨w.heap.size, 0, none⟩), .pointer (some ⟨w.heap.size + 1, 0, none⟩), .pointer (some ⟨w.heap.size + 1 + 1, 0, none⟩), undef, .int .i64 (2 * (x.1 : Int)), .int .i64 (256 * bt u (2 * (x.1 : Int)) + bt u (2 * (x.1 : Int) + 1)), undef, .int .i64 16, .string u,
      .func (.func 50) #[] #[.pointer (some ⟨w.heap.size + 1 + 1 + 1, 0, none⟩), .pointer (some ⟨w.heap.size + 1 + 1 + 1 + 1, 0, none⟩)], .int .i64 (2 * (x.1 : Int)), .int .i64 (256 * bt u (2 * (x.1 : Int)) + bt u (2 * (x.1 : Int) + 1)), undef, undef, undef, undef, undef, undef, undef, undef, undef, undef, undef, undef, undef, undef, undef, undef, undef, undef, undef, undef, undef, undef, undef, undef], defers := [] }) ?assign ?body ?done ?stop
  case seq =>
    intro l J Jx W hb hJ hJx hY h0
    have k1 : W.cell? ⟨w.heap.size + 1 + 1 + 1, 0, none⟩ = some (.int .i64 16) := pw_cell_below hb c1
    have k2 : W.cell? ⟨w.heap.size + 1 + 1 + 1 + 1, 0, none⟩ = some (.string u) := pw_cell_below hb c2
    exact (sym16_in Fence.wide 2 trivial rfl (by omega) l _ _ u hu hev J Jx hY W k1 k2 hJ h0).mono fun e W' h => h
  case kt => intro A B C h k; exact ⟨k.1.trans h.1, k.2.trans h.2⟩
  case kb =>
    intro W l o o' hl hw ho1 ho2
    have hz := HZ.out
    exact ⟨World.cell?_of_block (World.putObj_heap_other (by show w.heap.size + 1 + 1 + 1 ≠ l; omega)), World.cell?_of_block (World.putObj_heap_other (by show w.heap.size + 1 + 1 + 1 + 1 ≠ l; omega))⟩
  case start => exact ⟨gb_of_below (Below.refl _ _) _, hg1⟩
  case assign =>
    intro l x W K hK
    gi_wp2
    exact hK
  case body =>
    rintro l pre x W ⟨hgb, hcs⟩ hlt
    obtain ⟨S1, hS1⟩ : ∃ S1, (pre.map (·.1)).foldl (step16 c u) S = S1 := ⟨_, rfl⟩
    have hl1 : S1.length = u.size := by rw [← hS1, step16_len, hS]
    rw [hS1] at hcs
    obtain ⟨q, hq⟩ : ∃ q : Int, q = (256 * bt u (2 * (x.1 : Int)) + bt u (2 * (x.1 : Int) + 1)) := ⟨_, rfl⟩
    obtain ⟨r, hr⟩ : ∃ r : Int, r = ((Gf.mul 16 c.toNat q.toNat : Nat) : Int) := ⟨_, rfl⟩
    have hbx := bt_range u (2 * (x.1 : Int))
    have hby := bt_range u (2 * (x.1 : Int) + 1)
    have hX : field_product.f 17 16 c q = some r := by
      have := product_eq (m := 16) (.inr rfl) (a := c.toNat) (b := q.toNat) (by omega) (by omega) 17 (by omega)
      rw [Int.toNat_of_nonneg hc.1, Int.toNat_of_nonneg (by omega), ← hr] at this
      exact this
    have hrl : 0 ≤ r ∧ r < 65536 := by
      have := Gf.mul_lt (m := 16) (.inr rfl) (a := c.toNat) q.toNat (by omega)
      omega
    rw [hq] at hX hr
    clear hq hby
    have HFW := Aside0.mk (gb_ff hgb hg0 HF0.out)
    have HX := Aside0.mk hX
    have HL := Aside0.mk hl1
    have HR := Aside0.mk hr
    have HS1 := Aside0.mk hS1
    have hz := HZ.out
    have d4 : W.cell? ⟨w.heap.size, 0, none⟩ = some (.slice (some ⟨g, 0, none⟩) u.size cap) := (gb_cell hgb (by omega) (by omega)).trans b4
    have d5 : W.cell? ⟨w.heap.size + 1, 0, none⟩ = some (.int .i64 16) := (gb_cell hgb (by omega) (by omega)).trans b5
    have d6 : W.cell? ⟨w.heap.size + 1 + 1, 0, none⟩ = some (.int .i64 c) := (gb_cell hgb (by omega) (by omega)).trans b6
    have hxl := x.2
    have hgW : g < W.heap.size := Nat.lt_of_lt_of_le hgl1 hgb.size
    have hsW : W0.heap.size ≤ W.heap.size := hgb.size
    have HGB := Aside0.mk hgb
    have HCS := Aside0.mk hcs
    clear hX hr hS1 b4 b5 b6 hg1 hz hbx hS hgb hcs hl1
    gi_wp2_with fail
    refine ⟨trivial, ?_⟩
    refine (CallsIn.inRound l (callsIn_wide.2 (field_product.calls 17 16 c _ r _ HFW.out HX.out))).mono ?_
    rintro e W1 ⟨rfl, hb⟩
    have f4 : W1.cell? ⟨w.heap.size, 0, none⟩ = some (.slice (some ⟨g, 0, none⟩) u.size cap) := pw_cell_below hb d4
    have f5 : W1.cell? ⟨w.heap.size + 1, 0, none⟩ = some (.int .i64 16) := pw_cell_below hb d5
    have hg2 : W1.heap[g]? = some (.cells (bv S1) 5 (0, 0)) := (hb.block g hgW).trans HCS.out
    have fc : W1.cell? ⟨g, 2 * x.1, none⟩ = some (.int .u8 (rd S1 (2 * (x.1 : Int)))) := (cell_of_row _ _ _ _ _ _ hg2).trans (bv_get S1 (2 * x.1) (by have := HL.out; omega))
    have fc1 : W1.cell? ⟨g, 2 * x.1 + 1, none⟩ = some (.int .u8 (rd S1 (2 * (x.1 : Int) + 1))) := (cell_of_row _ _ _ _ _ _ hg2).trans (bv_get S1 (2 * x.1 + 1) (by have := HL.out; omega))
    have ff : W1.frozen? ⟨g, 2 * x.1, none⟩ = false := frozen_of_row _ _ _ _ _ hg2
    have ff1 : W1.frozen? ⟨g, 2 * x.1 + 1, none⟩ = false := frozen_of_row _ _ _ _ _ hg2
    have HB1 := Aside0.mk hb
    have HG2 := Aside0.mk hg2
    clear hb hg2 d4 d5 d6
    gi_wp2
    refine wpIn_loop_rounds 3 ?_
    rw [roundsIn_succ]
    gi_wp2
    rw [roundsIn_succ]
    gi_wp2
    rw [roundsIn_succ]
    gi_wp2
    have hz := HZ.out
    have hW1 := HB1.out
    have hg3 : (W1.setCell ⟨g, 2 * x.1 + 1, none⟩ (.int .u8 (Go.bits .xor .u8 (rd S1 (2 * (x.1 : Int) + 1)) (r % 256)))).heap[g]? = some (.cells (bv (S1.set (2 * x.1 + 1) (Go.bits .xor .u8 (rd S1 (2 * (x.1 : Int) + 1)) (r % 256)))) 5 (0, 0)) := by
      rw [heap_setCell_same _ _ _ _ _ _ HG2.out, bv_set]
    have far : ∀ (o : Nat) (p : Addr) (hp : p.block ≠ g) (v v' : Value), ((W1.setCell ⟨g, o, none⟩ v).setCell ⟨g, 2 * x.1, none⟩ v').cell? p = W1.cell? p := fun o p hp v v' =>
      (World.cell?_of_block (heap_setCell_other _ _ _ _ hp)).trans (World.cell?_of_block (heap_setCell_other _ _ _ _ hp))
    refine ⟨((ko_below hW1).trans (KeepsOthers.setCell _ _ _)).trans (KeepsOthers.setCell _ _ _), ⟨?_, ?_⟩, ?_, ?_⟩
    · exact (far _ _ (by show w.heap.size + 1 + 1 + 1 ≠ g; omega) _ _).trans (hW1.cell (p := ⟨w.heap.size + 1 + 1 + 1, 0, none⟩) (by show w.heap.size + 1 + 1 + 1 < _; omega))
    · exact (far _ _ (by show w.heap.size + 1 + 1 + 1 + 1 ≠ g; omega) _ _).trans (hW1.cell (p := ⟨w.heap.size + 1 + 1 + 1 + 1, 0, none⟩) (by show w.heap.size + 1 + 1 + 1 + 1 < _; omega))
    · exact gb_trans (gb_trans (gb_trans HGB.out (gb_of_below hW1 _)) (gb_set _ _ _ _)) (gb_set _ _ _ _)
    · rw [heap_setCell_same _ _ _ _ _ _ hg3, bv_set, List.map_append, List.foldl_append, HS1.out]
      simp only [List.map_cons, List.map_nil, List.foldl_cons, List.foldl_nil, step16]
      rw [← HR.out]
  case done =>
    rintro D ys W hD hys ⟨hgb, hcs⟩ hK
    have HGB := Aside0.mk hgb
    have HCS := Aside0.mk hcs
    have HYS := Aside0.mk hys
    clear hgb hcs hys
    gi_wp2
    refine ⟨by simp, .inl ⟨_, _, rfl, run_takeDeferred hK, ?_⟩⟩
    refine ⟨_, results_none rfl _ _ _, rfl, ?_, ?_⟩
    · have h1 := HGB.out
      have h0 := HB.out
      have hz := HZ.out
      exact ⟨h1.os.trans h0.os, h1.tape.trans h0.tape, h1.output.trans h0.output, by have := h1.size; simp; omega, fun k hk hr => (World.putObj_heap_other (by omega)).trans ((h1.block k (by omega) hr).trans (h0.block k hk))⟩
    · have hz := HZ.out
      refine (World.putObj_heap_other (by omega)).trans ?_
      rw [← HYS.out]
      exact HCS.out
  case stop =>
    rintro D c pre W _ _ h _
    exact h.elim
end Go.Proofs.YtgmjaiknboafdaaDoor.H

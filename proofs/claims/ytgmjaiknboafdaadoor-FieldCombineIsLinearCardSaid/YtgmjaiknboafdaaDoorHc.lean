/- The symbols of a unit, as field.symbols yields them. -/
import Derived.RangeFuncNested
import Derived.RangeFuncBound
import Derived.RangeFuncCalls
import Derived.RangeFuncLeaves
import Derived.RangeFuncFrom
import Derived.Shelf.Abstract
import Derived.OwnWalkIn
import Derived.TacticsInMore
import Derived.LoopNIn
import Derived.LoopIn
import Derived.Lib.ConvBytes
import Derived.WalkSpells
import Derived.Test.YtgmjaiknboafdaaDoorFa
namespace Go.Proofs.YtgmjaiknboafdaaDoor.H
open Go.RowKit Go.Shelf Go.Proofs.YtgmjaiknboafdaaDoorW.PrintWords Go.Proofs.YtgmjaiknboafdaaDoorW.PrintLast Go.Proofs.YtgmjaiknboafdaaDoorW.PrintMore
attribute [local go_sem] Oper.semAt_some
set_option linter.unusedVariables false
set_option linter.unusedSimpArgs false

/-- WHAT HAS COME WHEN k ROUNDS ARE OVER. -/
def upto {α : Type} (f : Nat → α) (k : Nat) : List α := (List.range k).map f
theorem upto_succ {α : Type} (f : Nat → α) (k : Nat) : upto f (k + 1) = upto f k ++ [f k] := by simp [upto, List.range_succ]
theorem upto_length {α : Type} (f : Nat → α) (k : Nat) : (upto f k).length = k := by simp [upto]

theorem bt_getD (s : ByteArray) (j : Nat) (hj : j < s.size) : ((s.data.toList.getD j 0).toNat : Int) = bt s j := by
  have hj' : j < s.data.toList.length := by simpa using hj
  unfold bt
  rw [dif_pos (show (j : Int).toNat < s.size by simpa using hj)]
  simp [List.getD, List.getElem?_eq_getElem hj']
  rfl

/-- the index of a symbol -/
abbrev Ix (n : Nat) := { j : Nat // j < n }

/-- what an iterator's rounds must keep: two cells -/
def Kp2 (a b : Addr) (W W' : World) : Prop := W'.cell? a = W.cell? a ∧ W'.cell? b = W.cell? b

/-- '[]byte(t)': a new block that holds the bytes -/
theorem conv_bytes (w : World) (t : ByteArray) : ∃ (cap : Nat) (W1 : World), (convert 9 50 (.string t)).run Tryd.prog w = .ok (.slice (some ⟨w.heap.size, 0, none⟩) t.size cap) W1 ∧
    w.grownBy W1 none ∧ W1.heap.size = w.heap.size + 1 ∧ (∀ j : Nat, j < t.size → W1.cell? ⟨w.heap.size, j, none⟩ = some (.int .u8 (bt t j))) := by
  refine ⟨_, _, Lib.run_convert_string_bytes (P := Tryd.prog) w 9 50 5 t Tryd.underlying9 Tryd.underlying50 Tryd.underlying5, ?_, Lib.bytesWorld_size _ _ _, ?_⟩
  · exact ⟨rfl, rfl, rfl, by rw [Lib.bytesWorld_size]; omega, fun i hi _ => Lib.bytesWorld_at_old _ _ _ _ hi⟩
  · intro j hj
    rw [Lib.bytesWorld_cell _ _ _ _ hj, bt_getD t j hj]

theorem bt_extract (u : ByteArray) (a b j : Nat) (hb : b ≤ u.size) (hj : a + j < b) : bt (u.extract a b) (j : Int) = bt u ((a + j : Nat) : Int) := by
  unfold bt
  have e : (u.extract a b).size = b - a := by rw [ByteArray.size_extract]; omega
  rw [dif_pos (show (j : Int).toNat < (u.extract a b).size by simp; omega), dif_pos (show ((a + j : Nat) : Int).toNat < u.size by simp; omega)]
  congr 2
  rw [ByteArray.getElem_extract]
  rfl

theorem or_zero (b : Int) (h0 : 0 ≤ b) (h : b ≤ 255) : Go.bits .or .i64 0 (wrap64 b) = b := by
  rw [w64 (by omega) (by omega)]
  obtain ⟨n, rfl⟩ := Int.eq_ofNat_of_zero_le h0
  have := (bits_nat .i64 62 (by decide) (fun n h0 h1 => by rw [IntKind.wrap_i64]; omega) 0 n (by decide) (by omega)).2
  rw [Nat.zero_or] at this
  exact this
theorem or_two (a b : Int) (h0 : 0 ≤ a) (h : a ≤ 255) (h1 : 0 ≤ b) (h2 : b ≤ 255) : Go.bits .or .i64 (wrap64 (Go.bits .or .i64 0 (wrap64 a) * 256)) (wrap64 b) = 256 * a + b := by
  rw [or_zero a h0 h, w64 (by omega) (by omega), w64 (by omega) (by omega)]
  obtain ⟨x, rfl⟩ := Int.eq_ofNat_of_zero_le h0
  obtain ⟨y, rfl⟩ := Int.eq_ofNat_of_zero_le h1
  have := (bits_nat .i64 62 (by decide) (fun n h0 h1 => by rw [IntKind.wrap_i64]; omega) (2 ^ 8 * x) y (by omega) (by omega)).2
  rw [← Nat.two_pow_add_eq_or_of_lt (by omega : y < 2 ^ 8)] at this
  have e : ((x : Int) * 256) = ((2 ^ 8 * x : Nat) : Int) := by omega
  rw [e, this]
  omega

set_option maxRecDepth 100000 in
set_option maxHeartbeats 2000000 in
theorem sym8_in (F : Fence) (n : Nat) (h50 : F.fn 50) (hro : F.round = none) (hn : 1 ≤ n) (l : Nat) (am au : Addr) (u : ByteArray) (hu : u.size ≤ 140737488355328) (J Jx : List (Ix u.size) → World → Prop)
    (hY : ∀ pre (x : Ix u.size) W, J pre W → pre.length < u.size → YieldAt F (n - 1) Tryd.prog l #[.int .i64 (x.1 : Int), .int .i64 (bt u x.1)] W fun e W' =>
      (e = .returned (.bool true) ∧ J (pre ++ [x]) W' ∧ Kp2 am au W W') ∨ (e = .returned (.bool false) ∧ Jx (pre ++ [x]) W'))
    (W : World) (hm : W.cell? am = some (.int .i64 8)) (hc : W.cell? au = some (.string u)) (hJ : AbidesFrom W.heap.size J) (h0 : J [] W) :
    CallsIn F n Tryd.prog 50 #[.func (.yield l) #[] #[], .pointer (some am), .pointer (some au)] W fun e W' => (∃ v, e = .returned v) ∧
      ((∃ ys, ys.map (·.1) = upto (fun j => j) u.size ∧ J ys W') ∨ (∃ pre, True ∧ Jx pre W')) := by
  refine callsIn_of_wp Tryd.func50 rfl h50 ?_ hro
  simp only [Tryd.ntmps50, List.size_toArray, List.length_cons, List.length_nil, Nat.reduceAdd, Nat.reduceSub, Array.replicate_succ, Array.replicate_zero, List.push_toArray, List.append_toArray, List.nil_append, List.cons_append]
  gi_wp2
  gi_loopw [5] (fun i wr => ∃ (k : Nat) (ys : List (Ix u.size)), k ≤ u.size ∧ i = .int .i64 k ∧ ys.map (·.1) = upto (fun j => j) k ∧ J ys wr ∧ wr.cell? am = some (.int .i64 8) ∧ wr.cell? au = some (.string u))
    (fun i _ => u.size - (intOf i).toNat)
  case atStart => exact ⟨0, [], Nat.zero_le _, rfl, rfl, h0, hm, hc⟩
  case round =>
    obtain ⟨k, ys, hk, rfl, hys, hJs, hm', hc'⟩ := hrel
    have hyl : ys.length = k := by have := congrArg List.length hys; simpa [upto_length] using this
    have HYS := Aside0.mk hys
    clear hys hm hc
    by_cases hlt : k < u.size
    · obtain ⟨cap, W1, hcv, hg, hsz1, hcell⟩ := conv_bytes wr (u.extract k (k + 1))
      have e1 : (u.extract k (k + 1)).size = 1 := by rw [ByteArray.size_extract]; omega
      have hb : W1.cell? ⟨wr.heap.size, 0, none⟩ = some (.int .u8 (bt u k)) := by
        rw [hcell 0 (by omega), bt_extract u k (k + 1) 0 (by omega) (by omega)]; rfl
      have hbr := bt_range u k
      have hor := or_zero (bt u k) hbr.1 hbr.2
      rw [e1] at hcv
      have hm1 : W1.cell? am = some (.int .i64 8) := cell_kept hm' hg (fun r e => by cases e)
      have hc1 : W1.cell? au = some (.string u) := cell_kept hc' hg (fun r e => by cases e)
      have hJ1 : J ys W1 := hJ _ _ _ none hJs hg (fun r e => by cases e)
      obtain ⟨fn, tmps, assign, body, hy, hR⟩ := hY ys ⟨k, hlt⟩ W1 hJ1 (by omega)
      dsimp only at hy
      rw [← hor] at hy
      clear hor hbr
      clear hcell hJs hJ1
      have HG := Aside0.mk hg
      have HZ := Aside0.mk hsz1
      clear hg hsz1 hyl e1
      gi_wp2
      refine wpIn_loop_rounds 2 ?_
      rw [roundsIn_succ]
      gi_wp2
      rw [roundsIn_succ]
      gi_wp2
      refine hR.mono ?_
      rintro e W3 (⟨rfl, hJ3, hk3⟩ | ⟨rfl, hJx3⟩)
      · gi_wp2
        go_roundw
        case rel => exact ⟨k + 1, ys ++ [⟨k, hlt⟩], by omega, by simp, by rw [upto_succ, List.map_append, HYS.out]; rfl, hJ3, hk3.1.trans hm1, hk3.2.trans hc1⟩
        case measure => simp [intOf]; omega
      · gi_wp2
        refine bodyPost_ret (results_none rfl _ _ _) rfl ?_
        exact ⟨⟨_, rfl⟩, .inr ⟨_, trivial, hJx3⟩⟩
    · obtain rfl : k = u.size := by omega
      gi_wp2
      go_end0
      exact ⟨⟨_, rfl⟩, .inl ⟨ys, HYS.out, hJs⟩⟩

set_option maxRecDepth 100000 in
set_option maxHeartbeats 2000000 in
theorem sym16_in (F : Fence) (n : Nat) (h50 : F.fn 50) (hro : F.round = none) (hn : 1 ≤ n) (l : Nat) (am au : Addr) (u : ByteArray) (hu : u.size ≤ 140737488355328) (hev : u.size % 2 = 0) (J Jx : List (Ix (u.size / 2)) → World → Prop)
    (hY : ∀ pre (x : Ix (u.size / 2)) W, J pre W → pre.length < (u.size / 2) → YieldAt F (n - 1) Tryd.prog l #[.int .i64 (2 * (x.1 : Int)), .int .i64 (256 * bt u (2 * (x.1 : Int)) + bt u (2 * (x.1 : Int) + 1))] W fun e W' =>
      (e = .returned (.bool true) ∧ J (pre ++ [x]) W' ∧ Kp2 am au W W') ∨ (e = .returned (.bool false) ∧ Jx (pre ++ [x]) W'))
    (W : World) (hm : W.cell? am = some (.int .i64 16)) (hc : W.cell? au = some (.string u)) (hJ : AbidesFrom W.heap.size J) (h0 : J [] W) :
    CallsIn F n Tryd.prog 50 #[.func (.yield l) #[] #[], .pointer (some am), .pointer (some au)] W fun e W' => (∃ v, e = .returned v) ∧
      ((∃ ys, ys.map (·.1) = upto (fun j => j) (u.size / 2) ∧ J ys W') ∨ (∃ pre, True ∧ Jx pre W')) := by
  refine callsIn_of_wp Tryd.func50 rfl h50 ?_ hro
  simp only [Tryd.ntmps50, List.size_toArray, List.length_cons, List.length_nil, Nat.reduceAdd, Nat.reduceSub, Array.replicate_succ, Array.replicate_zero, List.push_toArray, List.append_toArray, List.nil_append, List.cons_append]
  gi_wp2
  gi_loopw [5] (fun i wr => ∃ (k : Nat) (ys : List (Ix (u.size / 2))), k ≤ (u.size / 2) ∧ i = .int .i64 (2 * (k : Int)) ∧ ys.map (·.1) = upto (fun j => j) k ∧ J ys wr ∧ wr.cell? am = some (.int .i64 16) ∧ wr.cell? au = some (.string u))
    (fun i _ => u.size - (intOf i).toNat)
  case atStart => exact ⟨0, [], Nat.zero_le _, rfl, rfl, h0, hm, hc⟩
  case round =>
    obtain ⟨k, ys, hk, rfl, hys, hJs, hm', hc'⟩ := hrel
    have hyl : ys.length = k := by have := congrArg List.length hys; simpa [upto_length] using this
    have HYS := Aside0.mk hys
    clear hys hm hc
    by_cases hlt : k < (u.size / 2)
    · obtain ⟨cap, W1, hcv, hg, hsz1, hcell⟩ := conv_bytes wr (u.extract (2 * k : Nat) ((2 * k : Nat) + 2))
      have e1 : (u.extract (2 * k : Nat) ((2 * k : Nat) + 2)).size = 2 := by rw [ByteArray.size_extract]; omega
      have hb : W1.cell? ⟨wr.heap.size, 0, none⟩ = some (.int .u8 (bt u (2 * (k : Int)))) := by
        rw [hcell 0 (by omega), bt_extract u (2 * k) (2 * k + 2) 0 (by omega) (by omega)]; rfl
      have hb1 : W1.cell? ⟨wr.heap.size, 1, none⟩ = some (.int .u8 (bt u (2 * (k : Int) + 1))) := by
        rw [hcell 1 (by omega), bt_extract u (2 * k) (2 * k + 2) 1 (by omega) (by omega)]; simp
      have hbr := bt_range u (2 * k : Nat)
      have hbr1 := bt_range u (2 * (k : Int) + 1)
      have hor := or_two (bt u (2 * (k : Int))) (bt u (2 * (k : Int) + 1)) hbr.1 hbr.2 hbr1.1 hbr1.2
      rw [e1] at hcv
      have hm1 : W1.cell? am = some (.int .i64 16) := cell_kept hm' hg (fun r e => by cases e)
      have hc1 : W1.cell? au = some (.string u) := cell_kept hc' hg (fun r e => by cases e)
      have hJ1 : J ys W1 := hJ _ _ _ none hJs hg (fun r e => by cases e)
      obtain ⟨fn, tmps, assign, body, hy, hR⟩ := hY ys ⟨k, hlt⟩ W1 hJ1 (by omega)
      dsimp only at hy
      rw [← hor] at hy
      clear hor hbr hbr1
      clear hcell hJs hJ1
      have HG := Aside0.mk hg
      have HZ := Aside0.mk hsz1
      clear hg hsz1 hyl e1
      gi_wp2
      refine wpIn_loop_rounds 3 ?_
      rw [roundsIn_succ]
      gi_wp2
      rw [roundsIn_succ]
      gi_wp2
      rw [roundsIn_succ]
      gi_wp2
      refine hR.mono ?_
      rintro e W3 (⟨rfl, hJ3, hk3⟩ | ⟨rfl, hJx3⟩)
      · gi_wp2
        go_roundw
        case rel => exact ⟨k + 1, ys ++ [⟨k, hlt⟩], by omega, by first | rfl | (simp; omega), by rw [upto_succ, List.map_append, HYS.out]; rfl, hJ3, hk3.1.trans hm1, hk3.2.trans hc1⟩
        case measure => simp [intOf]; omega
      · gi_wp2
        refine bodyPost_ret (results_none rfl _ _ _) rfl ?_
        exact ⟨⟨_, rfl⟩, .inr ⟨_, trivial, hJx3⟩⟩
    · obtain rfl : k = (u.size / 2) := by omega
      gi_wp2
      go_end0
      exact ⟨⟨_, rfl⟩, .inl ⟨ys, HYS.out, hJs⟩⟩
end Go.Proofs.YtgmjaiknboafdaaDoor.H

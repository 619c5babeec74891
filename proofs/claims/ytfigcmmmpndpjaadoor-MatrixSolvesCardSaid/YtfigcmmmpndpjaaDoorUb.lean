/- Ha, Hb, P0, P4, P5, Gg, Fa, Fb. -/
import Derived.Test.YtfigcmmmpndpjaaDoorProg
import Derived.Test.YtfigcmmmpndpjaaDoorV
import Derived.Below
import Derived.WalkKit
import Derived.KernelRfl
import Derived.RowKit3
import Derived.LoopN
import Derived.Laws.Rows
import Derived.LoopTactic
import Derived.Lib.Hide
import Derived.Deep.Draws
import Derived.Deep.AppendLies
import Derived.Maps.AppendAt
import Derived.OwnWalk
import Derived.Laws.BytesArg
import Derived.Laws.MakeOwn
import Derived.Laws.OwnMore
import Derived.Deep.OwnRows
import Derived.Tactics
import Derived.Lib.ConvBytes
import Derived.Laws.Slices
import Derived.Deep.LoopGhost
import Derived.Deep.QuietTactic
import Derived.BigQuiet
import Derived.WideLaws
import Derived.Deep.DeepCutAuto
import Derived.Deep.CutBlock
import Derived.Deep.RegionHeld3
import Derived.Lib.AppendStr
import Derived.ArgAppend
import Derived.Laws.IdiomCopy
import Derived.OrdersHeld
import Derived.Laws.BitsLemmas
import Derived.RowKit
import Derived.Test.YtfigcmmmpndpjaaDoorUa
import Derived.Laws.Bits64
/- The variable 'fields' as it is laid, and what field.modulus answers. -/
namespace Go.Proofs.YtfigcmmmpndpjaaDoor.H
open Go.RowKit Go.Proofs.YtfigcmmmpndpjaaDoorW.PrintWords Go.Proofs.YtfigcmmmpndpjaaDoorW.PrintLast Go.Proofs.YtfigcmmmpndpjaaDoorW.PrintMore
set_option linter.unusedVariables false
set_option linter.unusedSimpArgs false
/-- the variable 'fields' holds what the program's text lays -/
def FF (w : World) : Prop := ∃ t fr, w.heap[0]? = some (.cells #[.int .i64 8, .int .i64 285, .int .i64 16, .int .i64 69643] t fr)
theorem FF.lt {w : World} (h : FF w) : 0 < w.heap.size := by
  obtain ⟨t, fr, h⟩ := h
  exact (Array.getElem?_eq_some_iff.1 h).1
theorem FF.below {w w' : World} (h : FF w) (hb : Below w.heap.size w w') : FF w' := by
  have hl := h.lt
  obtain ⟨t, fr, h⟩ := h
  exact ⟨t, fr, (hb.block 0 hl).trans h⟩
theorem FF.drewN {w : World} (h : FF w) (n : Nat) : FF (w.drewN n) := h.below (pw_below_drewN (Below.refl _ _) n)
theorem FF.drew {w : World} (h : FF w) : FF w.drew := h.below (below_drew (Below.refl _ _))
theorem FF.alloc {w : World} (h : FF w) (o : Obj) : FF (w.alloc o) := h.below (below_alloc (Below.refl _ _) o)
theorem idx0 (w : World) : (Instr.index 66 (.agg #[.int .i64 8, .int .i64 285, .int .i64 16, .int .i64 69643]) (.int .i64 0)).run Tryd.prog w = .ok (.agg #[.int .i64 8, .int .i64 285]) w := by kernel_rfl
theorem idx1 (w : World) : (Instr.index 66 (.agg #[.int .i64 8, .int .i64 285, .int .i64 16, .int .i64 69643]) (.int .i64 1)).run Tryd.prog w = .ok (.agg #[.int .i64 16, .int .i64 69643]) w := by kernel_rfl
set_option maxRecDepth 100000 in
set_option maxHeartbeats 1000000 in
theorem modulus_8 (w : World) (hf : FF w) : Calls Tryd.prog 61 #[.int .i64 8] w fun e w' => e = .returned (.int .i64 285) ∧ Below w.heap.size w w' := by
  obtain ⟨tt, fr, hg⟩ := hf
  have h0 := idx0
  go_enter Tryd.func61, Tryd.ntmps61
  go_wp2_with (refine wpList_load_row rfl 66 _ rfl 0 rfl tt _ fr _ hg Tryd.underlying66 rfl (by kernel_rfl) ?_)
  refine wp_loop_rounds 3 ?_
  rw [rounds_succ]
  go_wp2
  go_ret
  exact ⟨rfl, (Below.refl _ _).alloc (Nat.le_refl _) _⟩
set_option maxRecDepth 100000 in
set_option maxHeartbeats 1000000 in
theorem modulus_16 (w : World) (hf : FF w) : Calls Tryd.prog 61 #[.int .i64 16] w fun e w' => e = .returned (.int .i64 69643) ∧ Below w.heap.size w w' := by
  obtain ⟨tt, fr, hg⟩ := hf
  have h0 := idx0
  have h1 := idx1
  go_enter Tryd.func61, Tryd.ntmps61
  go_wp2_with (refine wpList_load_row rfl 66 _ rfl 0 rfl tt _ fr _ hg Tryd.underlying66 rfl (by kernel_rfl) ?_)
  refine wp_loop_rounds 3 ?_
  rw [rounds_succ]
  go_wp2
  rw [rounds_succ]
  go_wp2
  go_ret
  exact ⟨rfl, by repeat (first | (with_reducible first | exact Below.refl _ _ | apply below_alloc) | exact Below.refl _ _)⟩
set_option maxRecDepth 100000 in
set_option maxHeartbeats 1000000 in
theorem modulus_no (m : Int) (h8 : ¬ m = 8) (h16 : ¬ m = 16) (w : World) (hf : FF w) : Calls Tryd.prog 61 #[.int .i64 m] w fun e w' => e = .returned (.int .i64 0) ∧ Below w.heap.size w w' := by
  obtain ⟨tt, fr, hg⟩ := hf
  have h0 := idx0
  have h1 := idx1
  have b8 : ((8 : Int) == m) = false := beq_eq_false_iff_ne.mpr (fun e => h8 e.symm)
  have b16 : ((16 : Int) == m) = false := beq_eq_false_iff_ne.mpr (fun e => h16 e.symm)
  clear h8 h16
  go_enter Tryd.func61, Tryd.ntmps61
  go_wp2_with (refine wpList_load_row rfl 66 _ rfl 0 rfl tt _ fr _ hg Tryd.underlying66 rfl (by kernel_rfl) ?_)
  refine wp_loop_rounds 3 ?_
  rw [rounds_succ]
  go_wp2
  rw [rounds_succ]
  go_wp2
  rw [rounds_succ]
  go_wp2
  go_ret
  exact ⟨rfl, by repeat (first | (with_reducible first | exact Below.refl _ _ | apply below_alloc) | exact Below.refl _ _)⟩
/-- what field.modulus answers -/
def field_modulus.f (a0 : Int) : Option Int := if a0 = 8 then some 285 else if a0 = 16 then some 69643 else some 0
theorem field_modulus.calls (a0 : Int) (r : Int) (w : World) (hff : FF w) (h : field_modulus.f a0 = some r) :
    Calls Tryd.prog 61 #[.int .i64 a0] w fun e w' => e = .returned (.int .i64 r) ∧ Below w.heap.size w w' := by
  unfold field_modulus.f at h
  split at h
  · rename_i e; subst e; cases h; exact modulus_8 w hff
  · split at h
    · rename_i e; subst e; cases h; exact modulus_16 w hff
    · cases h; exact modulus_no a0 ‹_› ‹_› w hff
end Go.Proofs.YtfigcmmmpndpjaaDoor.H
/- What field.all answers: is each number an element of the field? -/
namespace Go.Proofs.YtfigcmmmpndpjaaDoor.H
open Go.RowKit Go.Proofs.YtfigcmmmpndpjaaDoorW.PrintWords Go.Proofs.YtfigcmmmpndpjaaDoorW.PrintLast Go.Proofs.YtfigcmmmpndpjaaDoorW.PrintMore
set_option linter.unusedVariables false
set_option linter.unusedSimpArgs false
/-- is x none of the elements 0, .., 2^m - 1? -/
def badB (m x : Int) : Bool := decide (x < 0) || x / 2 ^ m.toNat != 0
set_option maxRecDepth 100000 in
set_option maxHeartbeats 1000000 in
theorem clo62 (m : Int) (hm : m = 8 ∨ m = 16) (x : Int) (b : Addr) (w : World) (hc : w.cell? b = some (.int .i64 m)) : Calls Tryd.prog 62 #[.int .i64 x, .pointer (some b)] w fun e w' => e = .returned (.bool (badB m x)) ∧ w = w' := by
  rcases hm with rfl | rfl
  · go_enter Tryd.func62, Tryd.ntmps62
    go_wp2
    all_goals (go_ret; exact ⟨by simp [badB, *], rfl⟩)
  · go_enter Tryd.func62, Tryd.ntmps62
    go_wp2
    all_goals (go_ret; exact ⟨by simp [badB, *], rfl⟩)
/-- the index of the first element that meets p, or -1 -/
def idxF {α : Type} (p : α → Bool) : List α → Int → Int
  | [], _ => -1
  | x :: xs, i => if p x then i else idxF p xs (i + 1)
theorem idxF_drop {α : Type} (p : α → Bool) (xs : List α) (d : α) (k : Nat) (hk : k < xs.length) (i : Int) : idxF p (xs.drop k) i = if p (xs.getD k d) then i else idxF p (xs.drop (k + 1)) (i + 1) := by
  rw [List.drop_eq_getElem_cons hk, idxF]
  simp [List.getD, List.getElem?_eq_getElem hk]
theorem idxF_any {α : Type} (p : α → Bool) (xs : List α) : ∀ i : Int, 0 ≤ i → (decide (0 ≤ idxF p xs i)) = xs.any p := by
  induction xs with
  | nil => intro i _; simp [idxF]
  | cons x xs ih =>
    intro i hi
    by_cases h : p x = true
    · have e : idxF p (x :: xs) i = i := by simp [idxF, h]
      simp [e, h, hi]
    · have e : idxF p (x :: xs) i = idxF p xs (i + 1) := by simp [idxF, h]
      have := ih (i + 1) (by omega)
      simp only [e, this]
      simp [h]
theorem ret_int {k : IntKind} {a b : Int} (h : a = b) : Ending.returned (.int k a) = .returned (.int k b) := by rw [h]
theorem ret_bool {a b : Bool} (h : a = b) : Ending.returned (.bool a) = .returned (.bool b) := by rw [h]
/-- What holds at the head of the loop's rounds. -/
def AtIdx {α : Type} (p : α → Bool) (xs : List α) (t : Value) : Prop := ∃ k : Nat, k ≤ xs.length ∧ t = .int .i64 k ∧ idxF p xs 0 = idxF p (xs.drop k) k
set_option maxRecDepth 100000 in
set_option maxHeartbeats 1000000 in
theorem idx50 (m : Int) (hm : m = 8 ∨ m = 16) (A : Option Addr) (c : Nat) (xs : List Int) (b : Addr) (w : World) (hr : Kd.C (Kd.int .i64) w A xs.length xs) (hc : w.cell? b = some (.int .i64 m)) :
    Calls Tryd.prog 50 #[.slice A xs.length c, .func (.func 62) #[] #[.pointer (some b)]] w fun e w' => e = .returned (.int .i64 (idxF (badB m) xs 0)) ∧ w = w' := by
  have hmax := Kd.C_max hr
  have HR := Aside0.mk hr
  have HC := Aside0.mk hc
  have HM := Aside0.mk hm
  clear hr hc hm
  go_enter Tryd.func50, Tryd.ntmps50
  go_wp2
  go_loop [8] (fun t => AtIdx (badB m) xs t) (fun t => xs.length - (intOf t).toNat)
  case atStart => exact ⟨0, Nat.zero_le _, rfl, rfl⟩
  case round =>
    obtain ⟨k, hk, rfl, he⟩ := hrel
    have HE := Aside0.mk he
    clear he
    by_cases hlt : k < xs.length
    · obtain ⟨ad, rfl, hx⟩ := Kd.at_int HR.out (k : Int) (by omega) (by omega)
      have hd := idxF_drop (badB m) xs 0 k hlt k
      have HD := Aside0.mk hd
      clear hd
      have hx' : w.cell? (ad.add k) = some (.int .i64 (rd xs k)) := hx
      clear hx
      cases hb : badB m (rd xs k) with
      | true =>
        go_wp2_with (go_at_call 62; refine (clo62 m HM.out _ b _ HC.out).mono ?_; rintro e w' ⟨rfl, rfl⟩)
        go_ret
        exact ⟨ret_int (by rw [HE.out, HD.out, if_pos (by simpa [rd] using hb)]), rfl⟩
      | false =>
        go_wp2_with (go_at_call 62; refine (clo62 m HM.out _ b _ HC.out).mono ?_; rintro e w' ⟨rfl, rfl⟩)
        go_round
        case rel => exact ⟨k + 1, by omega, by go_num, by rw [HE.out, HD.out, if_neg (by simp [rd] at hb; simp [hb])]; simp⟩
        case measure => simp [intOf]; omega
    · have hk' : k = xs.length := by omega
      subst hk'
      go_wp2
      go_ret
      exact ⟨ret_int (by rw [HE.out]; simp [idxF]), rfl⟩
set_option maxRecDepth 100000 in
set_option maxHeartbeats 1000000 in
theorem any41 (m : Int) (hm : m = 8 ∨ m = 16) (A : Option Addr) (c : Nat) (xs : List Int) (b : Addr) (w : World) (hr : Kd.C (Kd.int .i64) w A xs.length xs) (hc : w.cell? b = some (.int .i64 m)) :
    Calls Tryd.prog 40 #[.slice A xs.length c, .func (.func 62) #[] #[.pointer (some b)]] w fun e w' => e = .returned (.bool (xs.any (badB m))) ∧ w = w' := by
  have HR := Aside0.mk hr
  have HC := Aside0.mk hc
  have HM := Aside0.mk hm
  have HI := Aside0.mk (idxF_any (badB m) xs 0 (by omega))
  clear hr hc hm
  go_enter Tryd.func40, Tryd.ntmps40
  go_wp2_with (go_at_call 50; refine (idx50 m HM.out _ _ _ b _ HR.out HC.out).mono ?_; rintro e w' ⟨rfl, rfl⟩)
  go_ret
  exact ⟨ret_bool HI.out, rfl⟩
/-- what field.all answers: m is that of a field, and all numbers are its elements -/
def allF (m : Int) (xs : List Int) : Bool := decide (m = 8 ∨ m = 16) && !xs.any (badB m)
set_option maxRecDepth 100000 in
set_option maxHeartbeats 1000000 in
theorem all31 (m : Int) (A : Option Addr) (c : Nat) (xs : List Int) (w : World) (hff : FF w) (hr : Kd.C (Kd.int .i64) w A xs.length xs) :
    Calls Tryd.prog 55 #[.int .i64 m, .slice A xs.length c] w fun e w' => e = .returned (.bool (allF m xs)) ∧ Below w.heap.size w w' := by
  by_cases hm : m = 8 ∨ m = 16
  · obtain ⟨r, hfm, hr0⟩ : ∃ r, field_modulus.f m = some r ∧ r ≠ 0 := by rcases hm with rfl | rfl <;> exact ⟨_, rfl, by decide⟩
    have hb0 : (r != 0) = true := bne_iff_ne.mpr hr0
    have HA := Aside0.mk (show allF m xs = !xs.any (badB m) by simp [allF, hm])
    have HR := Aside0.mk hr
    have HM := Aside0.mk hm
    have HF := Aside0.mk hff
    have HX := Aside0.mk hfm
    clear hr hm hff hfm hr0
    go_enter Tryd.func55, Tryd.ntmps55
    go_wp2_with (go_at_call 61; refine (field_modulus.calls m r _ (FF.alloc HF.out _) HX.out).mono ?_; rintro e w1 ⟨rfl, hb⟩)
    have hcell : w1.cell? ⟨w.heap.size, 0, none⟩ = some (.int .i64 m) := pw_cell_below hb ((cell_of_row _ _ 0 _ _ _ (heap_alloc_new w _)).trans rfl)
    have hR1 : Kd.C (Kd.int .i64) w1 A xs.length xs := Kd.C_below (Kd.C_alloc HR.out _) hb
    refine (any41 m HM.out _ _ _ _ _ hR1 hcell).mono ?_
    rintro e w2 ⟨rfl, rfl⟩
    have HB := Aside0.mk (below_then (below_alloc (Below.refl w.heap.size w) _) (by simp) hb)
    clear hb hcell hR1
    go_wp2
    go_ret
    exact ⟨ret_bool HA.out.symm, HB.out⟩
  · have hfm : field_modulus.f m = some 0 := by
      unfold field_modulus.f
      rw [if_neg (fun e => hm (.inl e)), if_neg (fun e => hm (.inr e))]
    have HA := Aside0.mk (show allF m xs = false by simp [allF, hm])
    have HF := Aside0.mk hff
    have HX := Aside0.mk hfm
    clear hr hm hff hfm
    go_enter Tryd.func55, Tryd.ntmps55
    go_wp2_with (go_at_call 61; refine (field_modulus.calls m 0 _ (FF.alloc HF.out _) HX.out).mono ?_; rintro e w1 ⟨rfl, hb⟩)
    have HB := Aside0.mk (below_then (below_alloc (Below.refl w.heap.size w) _) (by simp) hb)
    clear hb
    go_ret
    exact ⟨ret_bool HA.out.symm, HB.out⟩
def field_all.f (a0 : Int) (l1 : List Int) : Option Bool := some (allF a0 l1)
theorem field_all.calls (a0 : Int) (A1 : Option Addr) (c1 : Nat) (l1 : List Int) (r : Bool) (w : World) (hff : FF w) (hr1 : Kd.C (Kd.int .i64) w A1 l1.length l1) (_hc1 : l1.length ≤ c1) (h : field_all.f a0 l1 = some r) :
    Calls Tryd.prog 55 #[.int .i64 a0, .slice A1 l1.length c1] w fun e w' => e = .returned (.bool r) ∧ Below w.heap.size w w' := by
  cases h
  exact all31 a0 A1 c1 l1 w hff hr1
end Go.Proofs.YtfigcmmmpndpjaaDoor.H
/- Plain functions that answer as the Go functions do, each with the proof that the machine's call does so. Written by a program of this session (wip/pr.py, around the kit's print.py). -/
namespace Go.Proofs.YtfigcmmmpndpjaaDoor.P
open Go.RowKit Go.Proofs.YtfigcmmmpndpjaaDoor.H Go.Proofs.YtfigcmmmpndpjaaDoorW.PrintWords Go.Proofs.YtfigcmmmpndpjaaDoorW.PrintLast Go.Proofs.YtfigcmmmpndpjaaDoorW.PrintMore
attribute [local go_sem] max2_int min2_int max_two min_two max_three min_three max_four min_four   -- for this text's walks alone
set_option linter.unusedVariables false
set_option linter.unusedSimpArgs false
def errW : Option Int → Value
  | none => .nilIface
  | some c => .iface 0 (.int .i64 c)
theorem errW_none : errW none = .nilIface := rfl
theorem errW_some (c : Int) : errW (some c) = .iface 0 (.int .i64 c) := rfl
theorem info3 : (Tryd.prog.info? 3).map (fun i => (i.zero, i.size, i.bytes)) = some (some (.int .i64 0), 1, 8) := by kernel_rfl
-- the values' own types
def rd_L1 (xs : List (List Int)) (i : Int) : (List Int) := xs.getD i.toNat ([] : List Int)
theorem at_L1 {w : World} {A : Option Addr} {n : Nat} {xs : List (List Int)} (h : Kd.C (Kd.slice 3 (Kd.int .i64)) w A n xs) (i : Int) (h0 : 0 ≤ i) (h1 : i < n) : ∃ ad A0 c0, A = some ad ∧ w.cell? (ad.add i.toNat) = some (.slice A0 (rd_L1 xs i).length c0) ∧ (rd_L1 xs i).length ≤ c0 ∧ (Kd.int .i64).C w A0 (rd_L1 xs i).length (rd_L1 xs i) := by
  obtain ⟨ad, c, e, _, hK, hc0⟩ := Kd.C_get h ([] : List Int) i h0 h1
  have hc : ∀ j u, c[j]? = some u → w.cell? (ad.add (i.toNat * 1 + j)) = some u := hc0
  obtain ⟨A0, c0, rfl, l0, g0⟩ := hK
  exact ⟨ad, A0, c0, e, by have hq := hc 0 _ rfl; rwa [Nat.mul_one, Nat.add_zero] at hq, l0, g0⟩
/-! #### struct type 24 -/
structure S24 where
  f0 : Int
  f1 : Int
  f2 : Int
  f3 : (List Int)
def z24 : S24 := ⟨(0 : Int), (0 : Int), (0 : Int), ([] : List Int)⟩
def k24 : Kd S24 := Kd.iso (Kd.pair (Kd.int .i64) (Kd.pair (Kd.int .i64) (Kd.pair (Kd.int .i64) (Kd.slice 3 (Kd.int .i64))))) (fun x : S24 => (x.f0, x.f1, x.f2, x.f3))
theorem k24_open {w : World} {x : S24} {cs : List Value} (h : k24.K w x cs) : ∃ A3 c3, cs = [.int .i64 x.f0, .int .i64 x.f1, .int .i64 x.f2, .slice A3 x.f3.length c3] ∧ x.f3.length ≤ c3 ∧ (Kd.int .i64).C w A3 x.f3.length x.f3 := by
  obtain ⟨_, _, rfl, rfl, ⟨_, _, rfl, rfl, ⟨_, _, rfl, rfl, ⟨A3, c3, rfl, l3, g3⟩⟩⟩⟩ := h
  exact ⟨A3, c3, rfl, l3, g3⟩
theorem k24_openM {w : World} {base : Nat} {ok : Nat → Prop} {x : S24} {cs : List Value} (h : k24.M w base ok x cs) : ∃ v3, cs = [.int .i64 x.f0, .int .i64 x.f1, .int .i64 x.f2, v3] ∧ (Kd.int .i64).R 3 w base ok v3 x.f3 := by
  obtain ⟨_, _, rfl, rfl, ⟨_, _, rfl, rfl, ⟨_, _, rfl, rfl, ⟨v3, rfl, g3⟩⟩⟩⟩ := h
  exact ⟨v3, rfl, g3⟩
theorem k24_mk (w : World) (x : S24) {A3 : Option Addr} {c3 : Nat} (l3 : x.f3.length ≤ c3) (g3 : (Kd.int .i64).C w A3 x.f3.length x.f3) : k24.K w x [.int .i64 x.f0, .int .i64 x.f1, .int .i64 x.f2, .slice A3 x.f3.length c3] := ⟨[.int .i64 x.f0], [.int .i64 x.f1, .int .i64 x.f2, .slice A3 x.f3.length c3], rfl, rfl, ⟨[.int .i64 x.f1], [.int .i64 x.f2, .slice A3 x.f3.length c3], rfl, rfl, ⟨[.int .i64 x.f2], [.slice A3 x.f3.length c3], rfl, rfl, ⟨A3, c3, rfl, l3, g3⟩⟩⟩⟩
theorem k24_mkM (w : World) (base : Nat) (ok : Nat → Prop) (x : S24) {v3 : Value} (g3 : (Kd.int .i64).R 3 w base ok v3 x.f3) : k24.M w base ok x [.int .i64 x.f0, .int .i64 x.f1, .int .i64 x.f2, v3] := ⟨[.int .i64 x.f0], [.int .i64 x.f1, .int .i64 x.f2, v3], rfl, rfl, ⟨[.int .i64 x.f1], [.int .i64 x.f2, v3], rfl, rfl, ⟨[.int .i64 x.f2], [v3], rfl, rfl, ⟨v3, rfl, g3⟩⟩⟩⟩
def rd_T24 (xs : List S24) (i : Int) : S24 := xs.getD i.toNat z24
theorem at_T24 {w : World} {A : Option Addr} {n : Nat} {xs : List S24} (h : Kd.C k24 w A n xs) (i : Int) (h0 : 0 ≤ i) (h1 : i < n) : ∃ ad A3 c3, A = some ad ∧ w.cell? (ad.add (i.toNat * 4)) = some (.int .i64 (rd_T24 xs i).f0) ∧ w.cell? ⟨(ad.add (i.toNat * 4)).block, (ad.add (i.toNat * 4)).off + 1, none⟩ = some (.int .i64 (rd_T24 xs i).f1) ∧ w.cell? ⟨(ad.add (i.toNat * 4)).block, (ad.add (i.toNat * 4)).off + 2, none⟩ = some (.int .i64 (rd_T24 xs i).f2) ∧ w.cell? ⟨(ad.add (i.toNat * 4)).block, (ad.add (i.toNat * 4)).off + 3, none⟩ = some (.slice A3 (rd_T24 xs i).f3.length c3) ∧ (rd_T24 xs i).f3.length ≤ c3 ∧ (Kd.int .i64).C w A3 (rd_T24 xs i).f3.length (rd_T24 xs i).f3 := by
  obtain ⟨ad, c, e, _, hK, hc0⟩ := Kd.C_get h z24 i h0 h1
  have hc : ∀ j u, c[j]? = some u → w.cell? (ad.add (i.toNat * 4 + j)) = some u := hc0
  obtain ⟨A3, c3, rfl, l3, g3⟩ := k24_open hK
  exact ⟨ad, A3, c3, e, hc 0 _ rfl, by rw [← add_field _ _ 1 (by omega)]; exact hc 1 _ rfl, by rw [← add_field _ _ 2 (by omega)]; exact hc 2 _ rfl, by rw [← add_field _ _ 3 (by omega)]; exact hc 3 _ rfl, l3, g3⟩
end Go.Proofs.YtfigcmmmpndpjaaDoor.P
/- Plain functions that answer as the Go functions do, each with the proof that the machine's call does so. Written by a program of this session (wip/pr.py, around the kit's print.py). -/
namespace Go.Proofs.YtfigcmmmpndpjaaDoor.P
open Go.RowKit Go.Proofs.YtfigcmmmpndpjaaDoor.H Go.Proofs.YtfigcmmmpndpjaaDoorW.PrintWords Go.Proofs.YtfigcmmmpndpjaaDoorW.PrintLast Go.Proofs.YtfigcmmmpndpjaaDoorW.PrintMore
attribute [local go_sem] max2_int min2_int max_two min_two max_three min_three max_four min_four   -- for this text's walks alone
set_option linter.unusedVariables false
set_option linter.unusedSimpArgs false
/-! ### field_product: function 60 -/
def field_product.l0 : Nat → Int → Int → Int → Int → Int → Int → Option (Int)
 | 0, _, _, _, _, _, _ => none
 | k + 1, x0, x1, x2, x7, x8, x9 => if x9 ≥ 0 then (if 0 ≤ x0 then (if (shr .i64 (wrap64 (x8 * 2)) x0) = 0 then (if 0 ≤ x9 then (if (Go.bits .and .i64 (shr .i64 x2 x9) 1) = 0 then (field_product.l0 k x0 x1 x2 x7 (wrap64 (x8 * 2)) (wrap64 (x9 - 1))) else (field_product.l0 k x0 x1 x2 x7 (Go.bits .xor .i64 (wrap64 (x8 * 2)) x1) (wrap64 (x9 - 1)))) else (none)) else (if 0 ≤ x9 then (if (Go.bits .and .i64 (shr .i64 x2 x9) 1) = 0 then (field_product.l0 k x0 x1 x2 x7 (Go.bits .xor .i64 (wrap64 (x8 * 2)) x7) (wrap64 (x9 - 1))) else (field_product.l0 k x0 x1 x2 x7 (Go.bits .xor .i64 (Go.bits .xor .i64 (wrap64 (x8 * 2)) x7) x1) (wrap64 (x9 - 1)))) else (none))) else (none)) else (some x8)
def field_product.f (k : Nat) (a0 : Int) (a1 : Int) (a2 : Int) : Option (Int) := (field_modulus.f a0).bind fun t126 => (field_product.l0 k a0 a1 a2 t126 0 (wrap64 (a0 - 1)))
theorem field_product.mono_l : ∀ k, (∀ y0 y1 y2 y3 y4 y5, LeO (field_product.l0 k y0 y1 y2 y3 y4 y5) (field_product.l0 (k + 1) y0 y1 y2 y3 y4 y5))
 | 0 => fun _ _ _ _ _ _ r h => by simp [field_product.l0] at h
 | k + 1 => by
  have ih0 := field_product.mono_l k
  ·intro y0 y1 y2 y3 y4 y5
   unfold field_product.l0
   repeat' first
   | (with_reducible exact ih0 _ _ _ _ _ _)
   | (with_reducible exact LeO.refl _)
   | (with_reducible exact LeO.none _)
   | (with_reducible refine LeO.ite ?_ ?_)
   | (with_reducible refine LeO.bind ?_ (fun _ => ?_))
   | exact ih0 _ _ _ _ _ _
   | exact LeO.none _
   | refine LeO.ite ?_ ?_
   | refine LeO.bind ?_ (fun _ => ?_)
theorem field_product.mono : ∀ a0 a1 a2 k, LeO (field_product.f k a0 a1 a2) (field_product.f (k + 1) a0 a1 a2) := by
 intro a0 a1 a2 k
 have ih0 := field_product.mono_l k
 unfold field_product.f
 repeat' first
   | (with_reducible exact ih0 _ _ _ _ _ _)
   | (with_reducible exact LeO.refl _)
   | (with_reducible exact LeO.none _)
   | (with_reducible refine LeO.ite ?_ ?_)
   | (with_reducible refine LeO.bind ?_ (fun _ => ?_))
   | exact ih0 _ _ _ _ _ _
   | exact LeO.none _
   | refine LeO.ite ?_ ?_
   | refine LeO.bind ?_ (fun _ => ?_)
set_option maxHeartbeats 8000000 in
set_option maxRecDepth 100000 in
theorem field_product.calls (k : Nat) (a0 : Int) (a1 : Int) (a2 : Int) (r : Int) (w : World) (hff : FF w) (h : field_product.f k a0 a1 a2 = some r) :
  Calls Tryd.prog 60 #[.int .i64 a0, .int .i64 a1, .int .i64 a2] w fun e w' => e = .returned (.int .i64 r) ∧ Below w.heap.size w w' := by
 have HF := Aside0.mk hff
 clear hff
 have HB := Aside0.mk (Below.refl w.heap.size w)
 have H : ((field_modulus.f a0).bind fun t126 => (field_product.l0 k a0 a1 a2 t126 0 (wrap64 (a0 - 1)))) = some r := h
 clear h
 replace H := Option.bind_eq_some_iff.mp H
 obtain ⟨t126, A40, H⟩ := H
 replace H : (field_product.l0 k a0 a1 a2 t126 0 (wrap64 (a0 - 1))) = some r := H
 have A4 := Aside0.mk A40
 clear A40
 have H' := Aside0.mk H
 clear H
 go_enter Tryd.func60, Tryd.ntmps60
 go_wp2_with (first | ((with_reducible refine gate_callee (f := 61) rfl ?_); refine goesL_ (some 11) rfl rfl Tryd.func61 (by kernel_rfl) rfl #[.int .i64 a0] rfl (by (try simp only [List.map_toArray, List.map_cons, List.map_nil]); first | done | rfl | (simp only [List.length_drop, List.length_take]; rfl)) ?_; (with_reducible refine (field_modulus.calls a0 t126 _ ?side1 A4.out).mono ?_); (case side1 => refine FF.below HF.out ?_; repeat (first | (with_reducible first | exact HB.out | apply below_alloc | apply pw_below_drewN | apply below_drew1) | exact HB.out)); rintro e w5 ⟨rfl, hb⟩; refine ⟨_, rfl, ?_⟩; have n0_ := Aside0.mk (below_step (by repeat (first | (with_reducible first | exact HB.out | apply below_alloc | apply pw_below_drewN | apply below_drew1) | exact HB.out)) hb); clear HB; have HB := n0_; clear n0_; (try clear hb); (try clear hb2); (try clear hk); (try clear hi)))
 go_loopg [8, 9] k (fun kq v8 v9 w' => ∃ (x8_1 : Int) (x9_1 : Int), v8 = .int .i64 x8_1 ∧ v9 = .int .i64 x9_1 ∧ Aside0 (field_product.l0 kq a0 a1 a2 t126 x8_1 x9_1 = some r) ∧ Aside0 (kq ≤ k) ∧ Aside0 (Below w.heap.size w w'))
 case atStart => exact ⟨(0), (wrap64 (a0 - 1)), (by first | rfl | (simp; done) | (simp [*]; done)), (by first | rfl | (simp; done) | (simp [*]; done)), H', ⟨Nat.le_refl _⟩, ⟨by repeat (first | (with_reducible first | exact HB.out | apply below_alloc | apply pw_below_drewN | apply below_drew1) | exact HB.out)⟩⟩
 case round =>
  clear H'
  try clear p2
  obtain ⟨x8_1, x9_1, rfl, rfl, HA, HK1, HB⟩ := hrel
  cases gk with
  | zero => exact absurd HA.out (by simp [field_product.l0])
  | succ k1 =>
   have H := HA.out
   clear HA
   simp only [field_product.l0] at H
   by_cases c6 : x9_1 ≥ 0
   ·rw [if_pos c6] at H
    have c6b0 : decide (0 ≤ x9_1) = true := decide_eq_true c6
    clear c6
    by_cases c7 : 0 ≤ a0
    ·rw [if_pos c7] at H
     have c7b0 := eq_true c7
     have c7b1 : decide (0 ≤ a0) = true := decide_eq_true c7
     clear c7
     obtain ⟨ji8, hji8⟩ : ∃ j_ : Int, (shr .i64 (wrap64 (x8_1 * 2)) a0) = j_ := ⟨_, rfl⟩
     replace H : (if (ji8) = 0 then (if 0 ≤ x9_1 then (if (Go.bits .and .i64 (shr .i64 a2 x9_1) 1) = 0 then (field_product.l0 k1 a0 a1 a2 t126 (wrap64 (x8_1 * 2)) (wrap64 (x9_1 - 1))) else (field_product.l0 k1 a0 a1 a2 t126 (Go.bits .xor .i64 (wrap64 (x8_1 * 2)) a1) (wrap64 (x9_1 - 1)))) else (none)) else (if 0 ≤ x9_1 then (if (Go.bits .and .i64 (shr .i64 a2 x9_1) 1) = 0 then (field_product.l0 k1 a0 a1 a2 t126 (Go.bits .xor .i64 (wrap64 (x8_1 * 2)) t126) (wrap64 (x9_1 - 1))) else (field_product.l0 k1 a0 a1 a2 t126 (Go.bits .xor .i64 (Go.bits .xor .i64 (wrap64 (x8_1 * 2)) t126) a1) (wrap64 (x9_1 - 1)))) else (none))) = some r := by first | (rw [hji8] at H; exact H) | (simp only [hji8] at H ⊢; exact H)
     have hji8_ : ((wrap64 (x8_1 * 2)) / 2 ^ min a0.toNat 64) = ji8 := hji8
     have hji8z : a0 ≤ 64 → ((wrap64 (x8_1 * 2)) / 2 ^ a0.toNat) = ji8 := shr_small hji8
     by_cases c9 : (ji8) = 0
     ·rw [if_pos c9] at H
      have c9b0 : ((ji8) == 0) = true := beq_iff_eq.mpr c9
      have c9b1 : ((ji8) != 0) = false := bne_eq_false_iff_eq.mpr c9
      clear c9
      by_cases c10 : 0 ≤ x9_1
      ·rw [if_pos c10] at H
       have c10b0 := eq_true c10
       have c10b1 : decide (0 ≤ x9_1) = true := decide_eq_true c10
       clear c10
       obtain ⟨ji11, hji11⟩ : ∃ j_ : Int, (shr .i64 a2 x9_1) = j_ := ⟨_, rfl⟩
       replace H : (if (Go.bits .and .i64 (ji11) 1) = 0 then (field_product.l0 k1 a0 a1 a2 t126 (wrap64 (x8_1 * 2)) (wrap64 (x9_1 - 1))) else (field_product.l0 k1 a0 a1 a2 t126 (Go.bits .xor .i64 (wrap64 (x8_1 * 2)) a1) (wrap64 (x9_1 - 1)))) = some r := by first | (rw [hji11] at H; exact H) | (simp only [hji11] at H ⊢; exact H)
       have hji11_ : (a2 / 2 ^ min x9_1.toNat 64) = ji11 := hji11
       have hji11z : x9_1 ≤ 64 → (a2 / 2 ^ x9_1.toNat) = ji11 := shr_small hji11
       by_cases c12 : (Go.bits .and .i64 (ji11) 1) = 0
       ·rw [if_pos c12] at H
        have c12b0 : ((Go.bits .and .i64 (ji11) 1) == 0) = true := beq_iff_eq.mpr c12
        have c12b1 : ((Go.bits .and .i64 (ji11) 1) != 0) = false := bne_eq_false_iff_eq.mpr c12
        clear c12
        have H' := Aside0.mk H
        clear H
        go_wp2
        go_roundg k1
        case measure => have := HK1.out; omega
        case rel => exact ⟨(wrap64 (x8_1 * 2)), (wrap64 (x9_1 - 1)), (by first | rfl | (simp; done) | (simp [*]; done)), (by first | rfl | (simp; done) | (simp [*]; done)), H', ⟨by have := HK1.out; omega⟩, ⟨by repeat (first | (with_reducible first | exact HB.out | apply below_alloc | apply pw_below_drewN | apply below_drew1) | exact HB.out)⟩⟩
       ·rw [if_neg c12] at H
        have c12b0 : ((Go.bits .and .i64 (ji11) 1) == 0) = false := beq_eq_false_iff_ne.mpr c12
        have c12b1 : ((Go.bits .and .i64 (ji11) 1) != 0) = true := bne_iff_ne.mpr c12
        have H' := Aside0.mk H
        clear H
        go_wp2
        go_roundg k1
        case measure => have := HK1.out; omega
        case rel => exact ⟨(Go.bits .xor .i64 (wrap64 (x8_1 * 2)) a1), (wrap64 (x9_1 - 1)), (by first | rfl | (simp; done) | (simp [*]; done)), (by first | rfl | (simp; done) | (simp [*]; done)), H', ⟨by have := HK1.out; omega⟩, ⟨by repeat (first | (with_reducible first | exact HB.out | apply below_alloc | apply pw_below_drewN | apply below_drew1) | exact HB.out)⟩⟩
      ·rw [if_neg c10] at H
       exact absurd H (by simp)
     ·rw [if_neg c9] at H
      have c9b0 : ((ji8) == 0) = false := beq_eq_false_iff_ne.mpr c9
      have c9b1 : ((ji8) != 0) = true := bne_iff_ne.mpr c9
      by_cases c13 : 0 ≤ x9_1
      ·rw [if_pos c13] at H
       have c13b0 := eq_true c13
       have c13b1 : decide (0 ≤ x9_1) = true := decide_eq_true c13
       clear c13
       obtain ⟨ji14, hji14⟩ : ∃ j_ : Int, (shr .i64 a2 x9_1) = j_ := ⟨_, rfl⟩
       replace H : (if (Go.bits .and .i64 (ji14) 1) = 0 then (field_product.l0 k1 a0 a1 a2 t126 (Go.bits .xor .i64 (wrap64 (x8_1 * 2)) t126) (wrap64 (x9_1 - 1))) else (field_product.l0 k1 a0 a1 a2 t126 (Go.bits .xor .i64 (Go.bits .xor .i64 (wrap64 (x8_1 * 2)) t126) a1) (wrap64 (x9_1 - 1)))) = some r := by first | (rw [hji14] at H; exact H) | (simp only [hji14] at H ⊢; exact H)
       have hji14_ : (a2 / 2 ^ min x9_1.toNat 64) = ji14 := hji14
       have hji14z : x9_1 ≤ 64 → (a2 / 2 ^ x9_1.toNat) = ji14 := shr_small hji14
       by_cases c15 : (Go.bits .and .i64 (ji14) 1) = 0
       ·rw [if_pos c15] at H
        have c15b0 : ((Go.bits .and .i64 (ji14) 1) == 0) = true := beq_iff_eq.mpr c15
        have c15b1 : ((Go.bits .and .i64 (ji14) 1) != 0) = false := bne_eq_false_iff_eq.mpr c15
        clear c15
        have H' := Aside0.mk H
        clear H
        go_wp2
        go_roundg k1
        case measure => have := HK1.out; omega
        case rel => exact ⟨(Go.bits .xor .i64 (wrap64 (x8_1 * 2)) t126), (wrap64 (x9_1 - 1)), (by first | rfl | (simp; done) | (simp [*]; done)), (by first | rfl | (simp; done) | (simp [*]; done)), H', ⟨by have := HK1.out; omega⟩, ⟨by repeat (first | (with_reducible first | exact HB.out | apply below_alloc | apply pw_below_drewN | apply below_drew1) | exact HB.out)⟩⟩
       ·rw [if_neg c15] at H
        have c15b0 : ((Go.bits .and .i64 (ji14) 1) == 0) = false := beq_eq_false_iff_ne.mpr c15
        have c15b1 : ((Go.bits .and .i64 (ji14) 1) != 0) = true := bne_iff_ne.mpr c15
        have H' := Aside0.mk H
        clear H
        go_wp2
        go_roundg k1
        case measure => have := HK1.out; omega
        case rel => exact ⟨(Go.bits .xor .i64 (Go.bits .xor .i64 (wrap64 (x8_1 * 2)) t126) a1), (wrap64 (x9_1 - 1)), (by first | rfl | (simp; done) | (simp [*]; done)), (by first | rfl | (simp; done) | (simp [*]; done)), H', ⟨by have := HK1.out; omega⟩, ⟨by repeat (first | (with_reducible first | exact HB.out | apply below_alloc | apply pw_below_drewN | apply below_drew1) | exact HB.out)⟩⟩
      ·rw [if_neg c13] at H
       exact absurd H (by simp)
    ·rw [if_neg c7] at H
     exact absurd H (by simp)
   ·rw [if_neg c6] at H
    have c6b0 : decide (0 ≤ x9_1) = false := decide_eq_false c6
    clear c6
    obtain rfl := Option.some.inj H
    go_wp2
    go_ret
    exact ⟨by first | rfl | (simp [errW_none, errW_some] <;> rfl) | (simp [*, errW_none, errW_some] <;> rfl), by repeat (first | (with_reducible first | exact HB.out | apply below_alloc | apply pw_below_drewN | apply below_drew1) | exact HB.out)⟩
/-! ### field_Mul: function 54 -/
def field_Mul.f (k : Nat) (a0 : Int) (a1 : Int) (a2 : Int) : Option (Int × Int) := (field_all.f a0 (([a1, a2] : List Int))).bind fun t130 => (if t130 = true then ((field_product.f k a0 a1 a2).bind fun t131 => (some (t131, 0))) else (some (0, 1)))
theorem field_Mul.mono : ∀ a0 a1 a2 k, LeO (field_Mul.f k a0 a1 a2) (field_Mul.f (k + 1) a0 a1 a2) := by
 intro a0 a1 a2 k
 unfold field_Mul.f
 repeat' first
   | (with_reducible exact field_product.mono _ _ _ _)
   | (with_reducible exact LeO.refl _)
   | (with_reducible exact LeO.none _)
   | (with_reducible refine LeO.ite ?_ ?_)
   | (with_reducible refine LeO.bind ?_ (fun _ => ?_))
   | exact field_product.mono _ _ _ _
   | exact LeO.none _
   | refine LeO.ite ?_ ?_
   | refine LeO.bind ?_ (fun _ => ?_)
set_option maxHeartbeats 8000000 in
set_option maxRecDepth 100000 in
theorem field_Mul.calls (k : Nat) (a0 : Int) (a1 : Int) (a2 : Int) (r1 : Int) (r2 : Int) (w : World) (hff : FF w) (h : field_Mul.f k a0 a1 a2 = some (r1, r2)) :
  Calls Tryd.prog 54 #[.int .i64 a0, .int .i64 a1, .int .i64 a2] w fun e w' => e = .returned (.tuple #[.int .i64 r1, .int .i64 r2]) ∧ Below w.heap.size w w' := by
 have HF := Aside0.mk hff
 clear hff
 have HB := Aside0.mk (Below.refl w.heap.size w)
 have H : ((field_all.f a0 (([a1, a2] : List Int))).bind fun t130 => (if t130 = true then ((field_product.f k a0 a1 a2).bind fun t131 => (some (t131, 0))) else (some (0, 1)))) = some (r1, r2) := h
 clear h
 obtain ⟨y127, hy127⟩ : ∃ y_ : List Int, y_ = (([a1, a2] : List Int)) := ⟨_, rfl⟩
 replace H : ((field_all.f a0 y127).bind fun t130 => (if t130 = true then ((field_product.f k a0 a1 a2).bind fun t131 => (some (t131, 0))) else (some (0, 1)))) = some (r1, r2) := by first | (rw [hy127]; with_reducible exact H) | (have H2_ := (Option.bind_some _ _).symm.trans H; rw [hy127]; with_reducible exact H2_) | (have H2_ := (Option.bind_some _ _).symm.trans H; with_reducible exact H2_) | with_reducible exact H | (rw [hy127]; exact H) | exact H
 have Ny127 := Aside0.mk hy127
 clear hy127
 replace H := Option.bind_eq_some_iff.mp H
 obtain ⟨t130, A40, H⟩ := H
 replace H : (if t130 = true then ((field_product.f k a0 a1 a2).bind fun t131 => (some (t131, 0))) else (some (0, 1))) = some (r1, r2) := H
 have A4 := Aside0.mk A40
 clear A40
 by_cases c5 : t130 = true
 ·subst c5
  have H1 : ((field_product.f k a0 a1 a2).bind fun t131 => (some (t131, 0))) = some (r1, r2) := by rw [if_pos rfl] at H; exact H
  clear H
  have H := H1
  clear H1
  replace H := Option.bind_eq_some_iff.mp H
  obtain ⟨t131, A60, H⟩ := H
  replace H : (some (t131, 0)) = some (r1, r2) := H
  have A6 := Aside0.mk A60
  clear A60
  simp only [Option.some.injEq, Prod.mk.injEq] at H
  obtain ⟨rfl, rfl⟩ := H
  go_enter Tryd.func54, Tryd.ntmps54
  go_wp2_with (first | ((with_reducible refine gate_dst (N := 11) rfl ?_); refine Kd.R_lit (Kd.int .i64) _ 3 ?hg (N := 11) ?hd (xs := ([a1, a2] : List Int)) (inner := [.int .i64 a1, .int .i64 a2]) (ok := fun _ => True) (okp := fun _ => True) ?hr ?hp (fun _ hk => hk) trivial (Below.refl _ _) (Nat.le_refl _) (by simp) ?_; (case hd => rfl); (case hg => rfl); (case hr => first | (go_simp; done) | (go_simp; rfl)); (case hp => exact (Reps.one (show Kd.M (Kd.int .i64) _ _ _ a1 [.int .i64 a1] from rfl) (Reps.one (show Kd.M (Kd.int .i64) _ _ _ a2 [.int .i64 a2] from rfl) (Reps.none _ _)))); intro v128 w7 ho8 hb hg_ hnew_; clear hg_ hnew_; (first | rw [← Ny127.out] at ho8 | (simp only [Int.reduceToNat] at ho8; rw [← Ny127.out] at ho8)); have n0_ := Aside0.mk (Kd.R_lower ho8 (below_size (by repeat (first | (with_reducible first | exact HB.out | apply below_alloc | apply pw_below_drewN | apply below_drew1) | exact HB.out)))); have n1_ := Aside0.mk (below_step (by repeat (first | (with_reducible first | exact HB.out | apply below_alloc | apply pw_below_drewN | apply below_drew1) | exact HB.out)) hb); clear HB; have HO129 := n0_; have HB := n1_; clear n0_ n1_; clear hb ho8; obtain ⟨Ao9, co9, eo9⟩ := Kd.R_slice HO129.out; subst eo9) | ((with_reducible refine gate_callee (f := 55) rfl ?_); refine goesL_ (some 12) rfl rfl Tryd.func55 (by kernel_rfl) rfl #[.int .i64 a0, .slice Ao9 y127.length co9] rfl (by (try simp only [List.map_toArray, List.map_cons, List.map_nil]); first | done | rfl | (simp only [List.length_drop, List.length_take]; rfl)) ?_; (with_reducible refine (field_all.calls a0 _ _ y127 true _ ?side1 ?side2 ?side3 A4.out).mono ?_); (case side1 => refine FF.below HF.out ?_; repeat (first | (with_reducible first | exact HB.out | apply below_alloc | apply pw_below_drewN | apply below_drew1) | exact HB.out)); (case side2 => repeat (first | exact (Kd.R_reads' HO129.out).2.2 | (with_reducible refine Kd.C_alloc ?_ _) | (with_reducible refine Kd.C_drewN ?_ _) | (with_reducible refine Kd.C_drew ?_))); (case side3 => exact (Kd.R_reads' HO129.out).2.1); rintro e w10 ⟨rfl, hb⟩; refine ⟨_, rfl, ?_⟩; have n0_ := Aside0.mk (Kd.R_below (by (with_reducible repeat (first | apply Kd.R_alloc | apply Kd.R_drewN | apply Kd.R_drew)); exact HO129.out) hb); have n1_ := Aside0.mk (below_step (by repeat (first | (with_reducible first | exact HB.out | apply below_alloc | apply pw_below_drewN | apply below_drew1) | exact HB.out)) hb); clear HO129; clear HB; have HO129 := n0_; have HB := n1_; clear n0_ n1_; (try clear hb); (try clear hb2); (try clear hk); (try clear hi)) | ((with_reducible refine gate_callee (f := 60) rfl ?_); refine goesL_ (some 17) rfl rfl Tryd.func60 (by kernel_rfl) rfl #[.int .i64 a0, .int .i64 a1, .int .i64 a2] rfl (by (try simp only [List.map_toArray, List.map_cons, List.map_nil]); first | done | rfl | (simp only [List.length_drop, List.length_take]; rfl)) ?_; (with_reducible refine (field_product.calls k a0 a1 a2 t131 _ ?side1 A6.out).mono ?_); (case side1 => refine FF.below HF.out ?_; repeat (first | (with_reducible first | exact HB.out | apply below_alloc | apply pw_below_drewN | apply below_drew1) | exact HB.out)); rintro e w11 ⟨rfl, hb⟩; refine ⟨_, rfl, ?_⟩; have n0_ := Aside0.mk (Kd.R_below (by (with_reducible repeat (first | apply Kd.R_alloc | apply Kd.R_drewN | apply Kd.R_drew)); exact HO129.out) hb); have n1_ := Aside0.mk (below_step (by repeat (first | (with_reducible first | exact HB.out | apply below_alloc | apply pw_below_drewN | apply below_drew1) | exact HB.out)) hb); clear HO129; clear HB; have HO129 := n0_; have HB := n1_; clear n0_ n1_; (try clear hb); (try clear hb2); (try clear hk); (try clear hi)))
  go_ret2
  exact ⟨by first | rfl | (simp [errW_none, errW_some] <;> rfl) | (simp [*, errW_none, errW_some] <;> rfl), by repeat (first | (with_reducible first | exact HB.out | apply below_alloc | apply pw_below_drewN | apply below_drew1) | exact HB.out)⟩
 ·replace c5 := Bool.eq_false_iff.mpr c5
  subst c5
  have H1 : (some (0, 1)) = some (r1, r2) := by rw [if_neg (show ¬ (false = true) by decide)] at H; exact H
  clear H
  have H := H1
  clear H1
  simp only [Option.some.injEq, Prod.mk.injEq] at H
  obtain ⟨rfl, rfl⟩ := H
  go_enter Tryd.func54, Tryd.ntmps54
  go_wp2_with (first | ((with_reducible refine gate_dst (N := 11) rfl ?_); refine Kd.R_lit (Kd.int .i64) _ 3 ?hg (N := 11) ?hd (xs := ([a1, a2] : List Int)) (inner := [.int .i64 a1, .int .i64 a2]) (ok := fun _ => True) (okp := fun _ => True) ?hr ?hp (fun _ hk => hk) trivial (Below.refl _ _) (Nat.le_refl _) (by simp) ?_; (case hd => rfl); (case hg => rfl); (case hr => first | (go_simp; done) | (go_simp; rfl)); (case hp => exact (Reps.one (show Kd.M (Kd.int .i64) _ _ _ a1 [.int .i64 a1] from rfl) (Reps.one (show Kd.M (Kd.int .i64) _ _ _ a2 [.int .i64 a2] from rfl) (Reps.none _ _)))); intro v128 w12 ho13 hb hg_ hnew_; clear hg_ hnew_; (first | rw [← Ny127.out] at ho13 | (simp only [Int.reduceToNat] at ho13; rw [← Ny127.out] at ho13)); have n0_ := Aside0.mk (Kd.R_lower ho13 (below_size (by repeat (first | (with_reducible first | exact HB.out | apply below_alloc | apply pw_below_drewN | apply below_drew1) | exact HB.out)))); have n1_ := Aside0.mk (below_step (by repeat (first | (with_reducible first | exact HB.out | apply below_alloc | apply pw_below_drewN | apply below_drew1) | exact HB.out)) hb); clear HB; have HO129 := n0_; have HB := n1_; clear n0_ n1_; clear hb ho13; obtain ⟨Ao14, co14, eo14⟩ := Kd.R_slice HO129.out; subst eo14) | ((with_reducible refine gate_callee (f := 55) rfl ?_); refine goesL_ (some 12) rfl rfl Tryd.func55 (by kernel_rfl) rfl #[.int .i64 a0, .slice Ao14 y127.length co14] rfl (by (try simp only [List.map_toArray, List.map_cons, List.map_nil]); first | done | rfl | (simp only [List.length_drop, List.length_take]; rfl)) ?_; (with_reducible refine (field_all.calls a0 _ _ y127 false _ ?side1 ?side2 ?side3 A4.out).mono ?_); (case side1 => refine FF.below HF.out ?_; repeat (first | (with_reducible first | exact HB.out | apply below_alloc | apply pw_below_drewN | apply below_drew1) | exact HB.out)); (case side2 => repeat (first | exact (Kd.R_reads' HO129.out).2.2 | (with_reducible refine Kd.C_alloc ?_ _) | (with_reducible refine Kd.C_drewN ?_ _) | (with_reducible refine Kd.C_drew ?_))); (case side3 => exact (Kd.R_reads' HO129.out).2.1); rintro e w15 ⟨rfl, hb⟩; refine ⟨_, rfl, ?_⟩; have n0_ := Aside0.mk (Kd.R_below (by (with_reducible repeat (first | apply Kd.R_alloc | apply Kd.R_drewN | apply Kd.R_drew)); exact HO129.out) hb); have n1_ := Aside0.mk (below_step (by repeat (first | (with_reducible first | exact HB.out | apply below_alloc | apply pw_below_drewN | apply below_drew1) | exact HB.out)) hb); clear HO129; clear HB; have HO129 := n0_; have HB := n1_; clear n0_ n1_; (try clear hb); (try clear hb2); (try clear hk); (try clear hi)))
  go_ret2
  exact ⟨by first | rfl | (simp [errW_none, errW_some] <;> rfl) | (simp [*, errW_none, errW_some] <;> rfl), by repeat (first | (with_reducible first | exact HB.out | apply below_alloc | apply pw_below_drewN | apply below_drew1) | exact HB.out)⟩
/-! ### matrix_times: function 47 -/
def matrix_times.f (k : Nat) (a0 : Int) (a1 : Int) (a2 : Int) : Option (Int) := (field_Mul.f k a0 a1 a2).bind fun bt132 => (some bt132.1)
theorem matrix_times.mono : ∀ a0 a1 a2 k, LeO (matrix_times.f k a0 a1 a2) (matrix_times.f (k + 1) a0 a1 a2) := by
 intro a0 a1 a2 k
 unfold matrix_times.f
 repeat' first
   | (with_reducible exact field_Mul.mono _ _ _ _)
   | (with_reducible exact LeO.refl _)
   | (with_reducible exact LeO.none _)
   | (with_reducible refine LeO.ite ?_ ?_)
   | (with_reducible refine LeO.bind ?_ (fun _ => ?_))
   | exact field_Mul.mono _ _ _ _
   | exact LeO.none _
   | refine LeO.ite ?_ ?_
   | refine LeO.bind ?_ (fun _ => ?_)
set_option maxHeartbeats 8000000 in
set_option maxRecDepth 100000 in
theorem matrix_times.calls (k : Nat) (a0 : Int) (a1 : Int) (a2 : Int) (r : Int) (w : World) (hff : FF w) (h : matrix_times.f k a0 a1 a2 = some r) :
  Calls Tryd.prog 47 #[.int .i64 a0, .int .i64 a1, .int .i64 a2] w fun e w' => e = .returned (.int .i64 r) ∧ Below w.heap.size w w' := by
 have HF := Aside0.mk hff
 clear hff
 have HB := Aside0.mk (Below.refl w.heap.size w)
 have H : ((field_Mul.f k a0 a1 a2).bind fun bt132 => (some bt132.1)) = some r := h
 clear h
 replace H := Option.bind_eq_some_iff.mp H
 obtain ⟨⟨t132, t133⟩, A40, H⟩ := H
 replace H : (some t132) = some r := H
 have A4 := Aside0.mk A40
 clear A40
 obtain rfl := Option.some.inj H
 go_enter Tryd.func47, Tryd.ntmps47
 go_wp2_with (first | ((with_reducible refine gate_callee (f := 54) rfl ?_); refine goesL_ (some 13) rfl rfl Tryd.func54 (by kernel_rfl) rfl #[.int .i64 a0, .int .i64 a1, .int .i64 a2] rfl (by (try simp only [List.map_toArray, List.map_cons, List.map_nil]); first | done | rfl | (simp only [List.length_drop, List.length_take]; rfl)) ?_; (with_reducible refine (field_Mul.calls k a0 a1 a2 t132 t133 _ ?side1 A4.out).mono ?_); (case side1 => refine FF.below HF.out ?_; repeat (first | (with_reducible first | exact HB.out | apply below_alloc | apply pw_below_drewN | apply below_drew1) | exact HB.out)); rintro e w5 ⟨rfl, hb⟩; refine ⟨_, rfl, ?_⟩; have n0_ := Aside0.mk (below_step (by repeat (first | (with_reducible first | exact HB.out | apply below_alloc | apply pw_below_drewN | apply below_drew1) | exact HB.out)) hb); clear HB; have HB := n0_; clear n0_; (try clear hb); (try clear hb2); (try clear hk); (try clear hi)))
 go_ret
 exact ⟨by first | rfl | (simp [errW_none, errW_some] <;> rfl) | (simp [*, errW_none, errW_some] <;> rfl), by repeat (first | (with_reducible first | exact HB.out | apply below_alloc | apply pw_below_drewN | apply below_drew1) | exact HB.out)⟩
end Go.Proofs.YtfigcmmmpndpjaaDoor.P
/- Plain functions that answer as the Go functions do, each with the proof that the machine's call does so. Written by a program of this session (wip/pr.py, around the kit's print.py). -/
namespace Go.Proofs.YtfigcmmmpndpjaaDoor.P
open Go.RowKit Go.Proofs.YtfigcmmmpndpjaaDoor.H Go.Proofs.YtfigcmmmpndpjaaDoorW.PrintWords Go.Proofs.YtfigcmmmpndpjaaDoorW.PrintLast Go.Proofs.YtfigcmmmpndpjaaDoorW.PrintMore
attribute [local go_sem] max2_int min2_int max_two min_two max_three min_three max_four min_four   -- for this text's walks alone
set_option linter.unusedVariables false
set_option linter.unusedSimpArgs false
/-! ### field_degree: function 63 -/
def field_degree.l0 : Nat → Int → Int → Option (Int)
 | 0, _, _ => none
 | k + 1, x0, x3 => if x0 = 0 then (some x3) else (field_degree.l0 k (x0 / 2) (wrap64 (x3 + 1)))
def field_degree.f (k : Nat) (a0 : Int) : Option (Int) := field_degree.l0 k a0 (-1)
theorem field_degree.mono_l : ∀ k, (∀ y0 y1, LeO (field_degree.l0 k y0 y1) (field_degree.l0 (k + 1) y0 y1))
 | 0 => fun _ _ r h => by simp [field_degree.l0] at h
 | k + 1 => by
  have ih0 := field_degree.mono_l k
  ·intro y0 y1
   unfold field_degree.l0
   repeat' first
   | (with_reducible exact ih0 _ _)
   | (with_reducible exact LeO.refl _)
   | (with_reducible exact LeO.none _)
   | (with_reducible refine LeO.ite ?_ ?_)
   | (with_reducible refine LeO.bind ?_ (fun _ => ?_))
   | exact ih0 _ _
   | exact LeO.none _
   | refine LeO.ite ?_ ?_
   | refine LeO.bind ?_ (fun _ => ?_)
theorem field_degree.mono : ∀ a0 k, LeO (field_degree.f k a0) (field_degree.f (k + 1) a0) := by
 intro a0 k
 have ih0 := field_degree.mono_l k
 unfold field_degree.f
 repeat' first
   | (with_reducible exact ih0 _ _)
   | (with_reducible exact LeO.refl _)
   | (with_reducible exact LeO.none _)
   | (with_reducible refine LeO.ite ?_ ?_)
   | (with_reducible refine LeO.bind ?_ (fun _ => ?_))
   | exact ih0 _ _
   | exact LeO.none _
   | refine LeO.ite ?_ ?_
   | refine LeO.bind ?_ (fun _ => ?_)
set_option maxHeartbeats 8000000 in
set_option maxRecDepth 100000 in
theorem field_degree.calls (k : Nat) (a0 : Int) (r : Int) (w : World) (h : field_degree.f k a0 = some r) :
  Calls Tryd.prog 63 #[.int .i64 a0] w fun e w' => e = .returned (.int .i64 r) ∧ Drawn0 w w' := by
 have H : (field_degree.l0 k a0 (-1)) = some r := h
 clear h
 have H' := Aside0.mk H
 clear H
 go_enter Tryd.func63, Tryd.ntmps63
 go_wp2
 go_loopg [0, 3] k (fun kq v0 v3 w' => ∃ (x0_1 : Int) (x3_1 : Int), v0 = .int .i64 x0_1 ∧ v3 = .int .i64 x3_1 ∧ Aside0 (field_degree.l0 kq x0_1 x3_1 = some r) ∧ Aside0 (kq ≤ k) ∧ Drawn0 w w')
 case atStart => exact ⟨(a0), ((-1)), (by first | rfl | (simp; done) | (simp [*]; done)), (by first | rfl | (simp; done) | (simp [*]; done)), H', ⟨Nat.le_refl _⟩, by repeat (first | exact Drawn0.refl _ | apply Drawn0.step)⟩
 case round =>
  clear H'
  obtain ⟨x0_1, x3_1, rfl, rfl, HA, HK1, ⟨m1, rfl⟩⟩ := hrel
  cases gk with
  | zero => exact absurd HA.out (by simp [field_degree.l0])
  | succ k1 =>
   have H := HA.out
   clear HA
   simp only [field_degree.l0] at H
   by_cases c2 : x0_1 = 0
   ·rw [if_pos c2] at H
    have c2b0 : (x0_1 == 0) = true := beq_iff_eq.mpr c2
    have c2b1 : (x0_1 != 0) = false := bne_eq_false_iff_eq.mpr c2
    clear c2
    obtain rfl := Option.some.inj H
    go_wp2
    go_ret
    exact ⟨by first | rfl | (simp; done) | (simp [*]; done), by repeat (first | exact Drawn0.refl _ | apply Drawn0.step)⟩
   ·rw [if_neg c2] at H
    have c2b0 : (x0_1 == 0) = false := beq_eq_false_iff_ne.mpr c2
    have c2b1 : (x0_1 != 0) = true := bne_iff_ne.mpr c2
    have H' := Aside0.mk H
    clear H
    go_wp2
    go_roundg k1
    case measure => have := HK1.out; omega
    case rel => exact ⟨(x0_1 / 2), (wrap64 (x3_1 + 1)), (by first | rfl | (simp; done) | (simp [*]; done)), (by first | rfl | (simp; done) | (simp [*]; done)), H', ⟨by have := HK1.out; omega⟩, by repeat (first | exact Drawn0.refl _ | apply Drawn0.step)⟩
/-! ### field_reduce: function 64 -/
def field_reduce.l0 : Nat → Int → Int → Int → Option (Int)
 | 0, _, _, _ => none
 | k + 1, x0, x1, x5 => if x5 ≥ x0 then ((field_modulus.f x0).bind fun t135 => (if 0 ≤ (wrap64 (x5 - x0)) then ((field_degree.f k (Go.bits .xor .i64 x1 (shl .i64 t135 (wrap64 (x5 - x0))))).bind fun t136 => (field_reduce.l0 k x0 (Go.bits .xor .i64 x1 (shl .i64 t135 (wrap64 (x5 - x0)))) t136)) else (none))) else (some x1)
def field_reduce.f (k : Nat) (a0 : Int) (a1 : Int) : Option (Int) := (field_degree.f k a1).bind fun t134 => (field_reduce.l0 k a0 a1 t134)
theorem field_reduce.mono_l : ∀ k, (∀ y0 y1 y2, LeO (field_reduce.l0 k y0 y1 y2) (field_reduce.l0 (k + 1) y0 y1 y2))
 | 0 => fun _ _ _ r h => by simp [field_reduce.l0] at h
 | k + 1 => by
  have ih0 := field_reduce.mono_l k
  ·intro y0 y1 y2
   unfold field_reduce.l0
   repeat' first
   | (with_reducible exact ih0 _ _ _)
   | (with_reducible exact field_degree.mono _ _)
   | (with_reducible exact LeO.refl _)
   | (with_reducible exact LeO.none _)
   | (with_reducible refine LeO.ite ?_ ?_)
   | (with_reducible refine LeO.bind ?_ (fun _ => ?_))
   | exact ih0 _ _ _
   | exact field_degree.mono _ _
   | exact LeO.none _
   | refine LeO.ite ?_ ?_
   | refine LeO.bind ?_ (fun _ => ?_)
theorem field_reduce.mono : ∀ a0 a1 k, LeO (field_reduce.f k a0 a1) (field_reduce.f (k + 1) a0 a1) := by
 intro a0 a1 k
 have ih0 := field_reduce.mono_l k
 unfold field_reduce.f
 repeat' first
   | (with_reducible exact ih0 _ _ _)
   | (with_reducible exact field_degree.mono _ _)
   | (with_reducible exact LeO.refl _)
   | (with_reducible exact LeO.none _)
   | (with_reducible refine LeO.ite ?_ ?_)
   | (with_reducible refine LeO.bind ?_ (fun _ => ?_))
   | exact ih0 _ _ _
   | exact field_degree.mono _ _
   | exact LeO.none _
   | refine LeO.ite ?_ ?_
   | refine LeO.bind ?_ (fun _ => ?_)
set_option maxHeartbeats 8000000 in
set_option maxRecDepth 100000 in
theorem field_reduce.calls (k : Nat) (a0 : Int) (a1 : Int) (r : Int) (w : World) (hff : FF w) (h : field_reduce.f k a0 a1 = some r) :
  Calls Tryd.prog 64 #[.int .i64 a0, .int .i64 a1] w fun e w' => e = .returned (.int .i64 r) ∧ Below w.heap.size w w' := by
 have HF := Aside0.mk hff
 clear hff
 have HB := Aside0.mk (Below.refl w.heap.size w)
 have H : ((field_degree.f k a1).bind fun t134 => (field_reduce.l0 k a0 a1 t134)) = some r := h
 clear h
 replace H := Option.bind_eq_some_iff.mp H
 obtain ⟨t134, A30, H⟩ := H
 replace H : (field_reduce.l0 k a0 a1 t134) = some r := H
 have A3 := Aside0.mk A30
 clear A30
 have H' := Aside0.mk H
 clear H
 go_enter Tryd.func64, Tryd.ntmps64
 go_wp2_with (first | ((with_reducible refine gate_callee (f := 63) rfl ?_); refine goesL_ (some 7) rfl rfl Tryd.func63 (by kernel_rfl) rfl #[.int .i64 a1] rfl (by (try simp only [List.map_toArray, List.map_cons, List.map_nil]); first | done | rfl | (simp only [List.length_drop, List.length_take]; rfl)) ?_; (with_reducible refine (field_degree.calls k a1 t134 _ A3.out).mono ?_); rintro e w' ⟨rfl, ⟨nd, rfl⟩⟩; refine ⟨_, rfl, ?_⟩))
 go_loopg [1, 5] k (fun kq v1 v5 w' => ∃ (x1_1 : Int) (x5_1 : Int), v1 = .int .i64 x1_1 ∧ v5 = .int .i64 x5_1 ∧ Aside0 (field_reduce.l0 kq a0 x1_1 x5_1 = some r) ∧ Aside0 (kq ≤ k) ∧ Aside0 (Below w.heap.size w w'))
 case atStart => exact ⟨(a1), (t134), (by first | rfl | (simp; done) | (simp [*]; done)), (by first | rfl | (simp; done) | (simp [*]; done)), H', ⟨Nat.le_refl _⟩, ⟨by repeat (first | (with_reducible first | exact HB.out | apply below_alloc | apply pw_below_drewN | apply below_drew1) | exact HB.out)⟩⟩
 case round =>
  clear H'
  try clear p2
  obtain ⟨x1_1, x5_1, rfl, rfl, HA, HK1, HB⟩ := hrel
  cases gk with
  | zero => exact absurd HA.out (by simp [field_reduce.l0])
  | succ k1 =>
   have H := HA.out
   clear HA
   simp only [field_reduce.l0] at H
   by_cases c4 : x5_1 ≥ a0
   ·rw [if_pos c4] at H
    have c4b0 : decide (a0 ≤ x5_1) = true := decide_eq_true c4
    clear c4
    replace H := Option.bind_eq_some_iff.mp H
    obtain ⟨t135, A50, H⟩ := H
    replace H : (if 0 ≤ (wrap64 (x5_1 - a0)) then ((field_degree.f k1 (Go.bits .xor .i64 x1_1 (shl .i64 t135 (wrap64 (x5_1 - a0))))).bind fun t136 => (field_reduce.l0 k1 a0 (Go.bits .xor .i64 x1_1 (shl .i64 t135 (wrap64 (x5_1 - a0)))) t136)) else (none)) = some r := H
    have A5 := Aside0.mk A50
    clear A50
    obtain ⟨ji6, hji6⟩ : ∃ j_ : Int, (wrap64 (x5_1 - a0)) = j_ := ⟨_, rfl⟩
    replace H : (if 0 ≤ (ji6) then ((field_degree.f k1 (Go.bits .xor .i64 x1_1 (shl .i64 t135 (ji6)))).bind fun t136 => (field_reduce.l0 k1 a0 (Go.bits .xor .i64 x1_1 (shl .i64 t135 (ji6))) t136)) else (none)) = some r := by first | (rw [hji6] at H; exact H) | (simp only [hji6] at H ⊢; exact H)
    (try rw [hji6] at A5)
    have hji6w : (IntKind.i64.wrap (x5_1 - a0)) = ji6 := (i64_w _).trans hji6
    by_cases c7 : 0 ≤ (ji6)
    ·rw [if_pos c7] at H
     have c7b0 := eq_true c7
     have c7b1 : decide (0 ≤ (ji6)) = true := decide_eq_true c7
     clear c7
     obtain ⟨ji8, hji8⟩ : ∃ j_ : Int, (shl .i64 t135 (ji6)) = j_ := ⟨_, rfl⟩
     replace H : ((field_degree.f k1 (Go.bits .xor .i64 x1_1 (ji8))).bind fun t136 => (field_reduce.l0 k1 a0 (Go.bits .xor .i64 x1_1 (ji8)) t136)) = some r := by first | (rw [hji8] at H; exact H) | (simp only [hji8] at H ⊢; exact H)
     (try rw [hji8] at A5)
     have hji8_ : (IntKind.i64.wrap (t135 * 2 ^ min (ji6).toNat 64)) = ji8 := hji8
     have hji8z : (ji6) ≤ 64 → (IntKind.i64.wrap (t135 * 2 ^ (ji6).toNat)) = ji8 := shl_small hji8
     have hji8y : (wrap64 (t135 * 2 ^ min (ji6).toNat 64)) = ji8 := (i64_w _).symm.trans hji8_
     have hji8x : (ji6) ≤ 64 → (wrap64 (t135 * 2 ^ (ji6).toNat)) = ji8 := fun h_ => (i64_w _).symm.trans (hji8z h_)
     replace H := Option.bind_eq_some_iff.mp H
     obtain ⟨t136, A90, H⟩ := H
     replace H : (field_reduce.l0 k1 a0 (Go.bits .xor .i64 x1_1 (ji8)) t136) = some r := H
     have A9 := Aside0.mk A90
     clear A90
     have H' := Aside0.mk H
     clear H
     go_wp2_with (first | ((with_reducible refine gate_callee (f := 61) rfl ?_); refine goesL_ (some 15) rfl rfl Tryd.func61 (by kernel_rfl) rfl #[.int .i64 a0] rfl (by (try simp only [List.map_toArray, List.map_cons, List.map_nil]); first | done | rfl | (simp only [List.length_drop, List.length_take]; rfl)) ?_; (with_reducible refine (field_modulus.calls a0 t135 _ ?side1 A5.out).mono ?_); (case side1 => refine FF.below HF.out ?_; repeat (first | (with_reducible first | exact HB.out | apply below_alloc | apply pw_below_drewN | apply below_drew1) | exact HB.out)); rintro e w10 ⟨rfl, hb⟩; refine ⟨_, rfl, ?_⟩; have n0_ := Aside0.mk (below_step (by repeat (first | (with_reducible first | exact HB.out | apply below_alloc | apply pw_below_drewN | apply below_drew1) | exact HB.out)) hb); clear HB; have HB := n0_; clear n0_; (try clear hb); (try clear hb2); (try clear hk); (try clear hi)) | ((with_reducible refine gate_callee (f := 63) rfl ?_); refine goesL_ (some 12) rfl rfl Tryd.func63 (by kernel_rfl) rfl #[.int .i64 (Go.bits .xor .i64 x1_1 (ji8))] rfl (by (try simp only [List.map_toArray, List.map_cons, List.map_nil]); first | done | (simp only [hji8]; rfl) | rfl | (simp only [List.length_drop, List.length_take]; rfl)) ?_; (with_reducible refine (field_degree.calls k1 (Go.bits .xor .i64 x1_1 (ji8)) t136 _ A9.out).mono ?_); rintro e w' ⟨rfl, ⟨nd, rfl⟩⟩; refine ⟨_, rfl, ?_⟩))
     go_roundg k1
     case measure => have := HK1.out; omega
     case rel => exact ⟨(Go.bits .xor .i64 x1_1 (ji8)), (t136), (by first | rfl | (simp; done) | (simp only [← hji8] <;> (first | rfl | simp)) | (simp [*]; done)), (by first | rfl | (simp; done) | (simp [*]; done)), H', ⟨by have := HK1.out; omega⟩, ⟨by repeat (first | (with_reducible first | exact HB.out | apply below_alloc | apply pw_below_drewN | apply below_drew1) | exact HB.out)⟩⟩
    ·rw [if_neg c7] at H
     exact absurd H (by simp)
   ·rw [if_neg c4] at H
    have c4b0 : decide (a0 ≤ x5_1) = false := decide_eq_false c4
    clear c4
    obtain rfl := Option.some.inj H
    go_wp2
    go_ret
    exact ⟨by first | rfl | (simp [errW_none, errW_some] <;> rfl) | (simp [*, errW_none, errW_some] <;> rfl), by repeat (first | (with_reducible first | exact HB.out | apply below_alloc | apply pw_below_drewN | apply below_drew1) | exact HB.out)⟩
/-! ### field_inverse: function 56 -/
def field_inverse.l0 : Nat → Int → Int → Int → Int → Int → Option (Int)
 | 0, _, _, _, _, _ => none
 | k + 1, x0, x5, x6, x7, x8 => if x5 = 1 then ((field_reduce.f k x0 x7).bind fun t138 => (some t138)) else ((field_degree.f k x5).bind fun t139 => ((field_degree.f k x6).bind fun t140 => (if (wrap64 (t139 - t140)) < 0 then (if 0 ≤ (wrap64 (-(wrap64 (t139 - t140)))) then (field_inverse.l0 k x0 (Go.bits .xor .i64 x6 (shl .i64 x5 (wrap64 (-(wrap64 (t139 - t140)))))) x5 (Go.bits .xor .i64 x8 (shl .i64 x7 (wrap64 (-(wrap64 (t139 - t140)))))) x7) else (none)) else (if 0 ≤ (wrap64 (t139 - t140)) then (field_inverse.l0 k x0 (Go.bits .xor .i64 x5 (shl .i64 x6 (wrap64 (t139 - t140)))) x6 (Go.bits .xor .i64 x7 (shl .i64 x8 (wrap64 (t139 - t140)))) x8) else (none)))))
def field_inverse.f (k : Nat) (a0 : Int) (a1 : Int) : Option (Int) := (field_modulus.f a0).bind fun t137 => (field_inverse.l0 k a0 a1 t137 1 0)
theorem field_inverse.mono_l : ∀ k, (∀ y0 y1 y2 y3 y4, LeO (field_inverse.l0 k y0 y1 y2 y3 y4) (field_inverse.l0 (k + 1) y0 y1 y2 y3 y4))
 | 0 => fun _ _ _ _ _ r h => by simp [field_inverse.l0] at h
 | k + 1 => by
  have ih0 := field_inverse.mono_l k
  ·intro y0 y1 y2 y3 y4
   unfold field_inverse.l0
   repeat' first
   | (with_reducible exact ih0 _ _ _ _ _)
   | (with_reducible exact field_degree.mono _ _)
   | (with_reducible exact field_reduce.mono _ _ _)
   | (with_reducible exact LeO.refl _)
   | (with_reducible exact LeO.none _)
   | (with_reducible refine LeO.ite ?_ ?_)
   | (with_reducible refine LeO.bind ?_ (fun _ => ?_))
   | exact ih0 _ _ _ _ _
   | exact field_degree.mono _ _
   | exact field_reduce.mono _ _ _
   | exact LeO.none _
   | refine LeO.ite ?_ ?_
   | refine LeO.bind ?_ (fun _ => ?_)
theorem field_inverse.mono : ∀ a0 a1 k, LeO (field_inverse.f k a0 a1) (field_inverse.f (k + 1) a0 a1) := by
 intro a0 a1 k
 have ih0 := field_inverse.mono_l k
 unfold field_inverse.f
 repeat' first
   | (with_reducible exact ih0 _ _ _ _ _)
   | (with_reducible exact field_degree.mono _ _)
   | (with_reducible exact field_reduce.mono _ _ _)
   | (with_reducible exact LeO.refl _)
   | (with_reducible exact LeO.none _)
   | (with_reducible refine LeO.ite ?_ ?_)
   | (with_reducible refine LeO.bind ?_ (fun _ => ?_))
   | exact ih0 _ _ _ _ _
   | exact field_degree.mono _ _
   | exact field_reduce.mono _ _ _
   | exact LeO.none _
   | refine LeO.ite ?_ ?_
   | refine LeO.bind ?_ (fun _ => ?_)
set_option maxHeartbeats 8000000 in
set_option maxRecDepth 100000 in
theorem field_inverse.calls (k : Nat) (a0 : Int) (a1 : Int) (r : Int) (w : World) (hff : FF w) (h : field_inverse.f k a0 a1 = some r) :
  Calls Tryd.prog 56 #[.int .i64 a0, .int .i64 a1] w fun e w' => e = .returned (.int .i64 r) ∧ Below w.heap.size w w' := by
 have HF := Aside0.mk hff
 clear hff
 have HB := Aside0.mk (Below.refl w.heap.size w)
 have H : ((field_modulus.f a0).bind fun t137 => (field_inverse.l0 k a0 a1 t137 1 0)) = some r := h
 clear h
 replace H := Option.bind_eq_some_iff.mp H
 obtain ⟨t137, A30, H⟩ := H
 replace H : (field_inverse.l0 k a0 a1 t137 1 0) = some r := H
 have A3 := Aside0.mk A30
 clear A30
 have H' := Aside0.mk H
 clear H
 go_enter Tryd.func56, Tryd.ntmps56
 go_wp2_with (first | ((with_reducible refine gate_callee (f := 61) rfl ?_); refine goesL_ (some 12) rfl rfl Tryd.func61 (by kernel_rfl) rfl #[.int .i64 a0] rfl (by (try simp only [List.map_toArray, List.map_cons, List.map_nil]); first | done | rfl | (simp only [List.length_drop, List.length_take]; rfl)) ?_; (with_reducible refine (field_modulus.calls a0 t137 _ ?side1 A3.out).mono ?_); (case side1 => refine FF.below HF.out ?_; repeat (first | (with_reducible first | exact HB.out | apply below_alloc | apply pw_below_drewN | apply below_drew1) | exact HB.out)); rintro e w4 ⟨rfl, hb⟩; refine ⟨_, rfl, ?_⟩; have n0_ := Aside0.mk (below_step (by repeat (first | (with_reducible first | exact HB.out | apply below_alloc | apply pw_below_drewN | apply below_drew1) | exact HB.out)) hb); clear HB; have HB := n0_; clear n0_; (try clear hb); (try clear hb2); (try clear hk); (try clear hi)))
 go_loopg [5, 6, 7, 8] k (fun kq v5 v6 v7 v8 w' => ∃ (x5_1 : Int) (x6_1 : Int) (x7_1 : Int) (x8_1 : Int), v5 = .int .i64 x5_1 ∧ v6 = .int .i64 x6_1 ∧ v7 = .int .i64 x7_1 ∧ v8 = .int .i64 x8_1 ∧ Aside0 (field_inverse.l0 kq a0 x5_1 x6_1 x7_1 x8_1 = some r) ∧ Aside0 (kq ≤ k) ∧ Aside0 (Below w.heap.size w w'))
 case atStart => exact ⟨(a1), (t137), (1), (0), (by first | rfl | (simp; done) | (simp [*]; done)), (by first | rfl | (simp; done) | (simp [*]; done)), (by first | rfl | (simp; done) | (simp [*]; done)), (by first | rfl | (simp; done) | (simp [*]; done)), H', ⟨Nat.le_refl _⟩, ⟨by repeat (first | (with_reducible first | exact HB.out | apply below_alloc | apply pw_below_drewN | apply below_drew1) | exact HB.out)⟩⟩
 case round =>
  clear H'
  try clear p2
  obtain ⟨x5_1, x6_1, x7_1, x8_1, rfl, rfl, rfl, rfl, HA, HK1, HB⟩ := hrel
  cases gk with
  | zero => exact absurd HA.out (by simp [field_inverse.l0])
  | succ k1 =>
   have H := HA.out
   clear HA
   simp only [field_inverse.l0] at H
   by_cases c5 : x5_1 = 1
   ·rw [if_pos c5] at H
    have c5b0 : (x5_1 == 1) = true := beq_iff_eq.mpr c5
    have c5b1 : (x5_1 != 1) = false := bne_eq_false_iff_eq.mpr c5
    clear c5
    replace H := Option.bind_eq_some_iff.mp H
    obtain ⟨t138, A60, H⟩ := H
    replace H : (some t138) = some r := H
    have A6 := Aside0.mk A60
    clear A60
    obtain rfl := Option.some.inj H
    go_wp2_with (first | ((with_reducible refine gate_callee (f := 64) rfl ?_); refine goesL_ (some 40) rfl rfl Tryd.func64 (by kernel_rfl) rfl #[.int .i64 a0, .int .i64 x7_1] rfl (by (try simp only [List.map_toArray, List.map_cons, List.map_nil]); first | done | rfl | (simp only [List.length_drop, List.length_take]; rfl)) ?_; (with_reducible refine (field_reduce.calls k1 a0 x7_1 t138 _ ?side1 A6.out).mono ?_); (case side1 => refine FF.below HF.out ?_; repeat (first | (with_reducible first | exact HB.out | apply below_alloc | apply pw_below_drewN | apply below_drew1) | exact HB.out)); rintro e w7 ⟨rfl, hb⟩; refine ⟨_, rfl, ?_⟩; have n0_ := Aside0.mk (below_step (by repeat (first | (with_reducible first | exact HB.out | apply below_alloc | apply pw_below_drewN | apply below_drew1) | exact HB.out)) hb); clear HB; have HB := n0_; clear n0_; (try clear hb); (try clear hb2); (try clear hk); (try clear hi)))
    go_ret
    exact ⟨by first | rfl | (simp [errW_none, errW_some] <;> rfl) | (simp [*, errW_none, errW_some] <;> rfl), by repeat (first | (with_reducible first | exact HB.out | apply below_alloc | apply pw_below_drewN | apply below_drew1) | exact HB.out)⟩
   ·rw [if_neg c5] at H
    have c5b0 : (x5_1 == 1) = false := beq_eq_false_iff_ne.mpr c5
    have c5b1 : (x5_1 != 1) = true := bne_iff_ne.mpr c5
    replace H := Option.bind_eq_some_iff.mp H
    obtain ⟨t139, A80, H⟩ := H
    replace H : ((field_degree.f k1 x6_1).bind fun t140 => (if (wrap64 (t139 - t140)) < 0 then (if 0 ≤ (wrap64 (-(wrap64 (t139 - t140)))) then (field_inverse.l0 k1 a0 (Go.bits .xor .i64 x6_1 (shl .i64 x5_1 (wrap64 (-(wrap64 (t139 - t140)))))) x5_1 (Go.bits .xor .i64 x8_1 (shl .i64 x7_1 (wrap64 (-(wrap64 (t139 - t140)))))) x7_1) else (none)) else (if 0 ≤ (wrap64 (t139 - t140)) then (field_inverse.l0 k1 a0 (Go.bits .xor .i64 x5_1 (shl .i64 x6_1 (wrap64 (t139 - t140)))) x6_1 (Go.bits .xor .i64 x7_1 (shl .i64 x8_1 (wrap64 (t139 - t140)))) x8_1) else (none)))) = some r := H
    have A8 := Aside0.mk A80
    clear A80
    replace H := Option.bind_eq_some_iff.mp H
    obtain ⟨t140, A90, H⟩ := H
    replace H : (if (wrap64 (t139 - t140)) < 0 then (if 0 ≤ (wrap64 (-(wrap64 (t139 - t140)))) then (field_inverse.l0 k1 a0 (Go.bits .xor .i64 x6_1 (shl .i64 x5_1 (wrap64 (-(wrap64 (t139 - t140)))))) x5_1 (Go.bits .xor .i64 x8_1 (shl .i64 x7_1 (wrap64 (-(wrap64 (t139 - t140)))))) x7_1) else (none)) else (if 0 ≤ (wrap64 (t139 - t140)) then (field_inverse.l0 k1 a0 (Go.bits .xor .i64 x5_1 (shl .i64 x6_1 (wrap64 (t139 - t140)))) x6_1 (Go.bits .xor .i64 x7_1 (shl .i64 x8_1 (wrap64 (t139 - t140)))) x8_1) else (none))) = some r := H
    have A9 := Aside0.mk A90
    clear A90
    by_cases c10 : (wrap64 (t139 - t140)) < 0
    ·rw [if_pos c10] at H
     have c10b0 : decide ((wrap64 (t139 - t140)) < 0) = true := decide_eq_true c10
     clear c10
     obtain ⟨ji11, hji11⟩ : ∃ j_ : Int, (wrap64 (-(wrap64 (t139 - t140)))) = j_ := ⟨_, rfl⟩
     replace H : (if 0 ≤ (ji11) then (field_inverse.l0 k1 a0 (Go.bits .xor .i64 x6_1 (shl .i64 x5_1 (ji11))) x5_1 (Go.bits .xor .i64 x8_1 (shl .i64 x7_1 (ji11))) x7_1) else (none)) = some r := by first | (rw [hji11] at H; exact H) | (simp only [hji11] at H ⊢; exact H)
     (try rw [hji11] at A8)
     (try rw [hji11] at A9)
     have hji11w : (IntKind.i64.wrap (-(wrap64 (t139 - t140)))) = ji11 := (i64_w _).trans hji11
     by_cases c12 : 0 ≤ (ji11)
     ·rw [if_pos c12] at H
      have c12b0 := eq_true c12
      have c12b1 : decide (0 ≤ (ji11)) = true := decide_eq_true c12
      clear c12
      obtain ⟨ji13, hji13⟩ : ∃ j_ : Int, (shl .i64 x5_1 (ji11)) = j_ := ⟨_, rfl⟩
      replace H : (field_inverse.l0 k1 a0 (Go.bits .xor .i64 x6_1 (ji13)) x5_1 (Go.bits .xor .i64 x8_1 (shl .i64 x7_1 (ji11))) x7_1) = some r := by first | (rw [hji13] at H; exact H) | (simp only [hji13] at H ⊢; exact H)
      (try rw [hji13] at A8)
      (try rw [hji13] at A9)
      have hji13_ : (IntKind.i64.wrap (x5_1 * 2 ^ min (ji11).toNat 64)) = ji13 := hji13
      have hji13z : (ji11) ≤ 64 → (IntKind.i64.wrap (x5_1 * 2 ^ (ji11).toNat)) = ji13 := shl_small hji13
      have hji13y : (wrap64 (x5_1 * 2 ^ min (ji11).toNat 64)) = ji13 := (i64_w _).symm.trans hji13_
      have hji13x : (ji11) ≤ 64 → (wrap64 (x5_1 * 2 ^ (ji11).toNat)) = ji13 := fun h_ => (i64_w _).symm.trans (hji13z h_)
      have c14b0 := eq_true (of_decide_eq_true (by first | (with_reducible assumption) | assumption) : 0 ≤ (ji11))
      obtain ⟨ji15, hji15⟩ : ∃ j_ : Int, (shl .i64 x7_1 (ji11)) = j_ := ⟨_, rfl⟩
      replace H : (field_inverse.l0 k1 a0 (Go.bits .xor .i64 x6_1 (ji13)) x5_1 (Go.bits .xor .i64 x8_1 (ji15)) x7_1) = some r := by first | (rw [hji15] at H; exact H) | (simp only [hji15] at H ⊢; exact H)
      (try rw [hji15] at A8)
      (try rw [hji15] at A9)
      have hji15_ : (IntKind.i64.wrap (x7_1 * 2 ^ min (ji11).toNat 64)) = ji15 := hji15
      have hji15z : (ji11) ≤ 64 → (IntKind.i64.wrap (x7_1 * 2 ^ (ji11).toNat)) = ji15 := shl_small hji15
      have hji15y : (wrap64 (x7_1 * 2 ^ min (ji11).toNat 64)) = ji15 := (i64_w _).symm.trans hji15_
      have hji15x : (ji11) ≤ 64 → (wrap64 (x7_1 * 2 ^ (ji11).toNat)) = ji15 := fun h_ => (i64_w _).symm.trans (hji15z h_)
      have H' := Aside0.mk H
      clear H
      go_wp2_with (first | ((with_reducible refine gate_callee (f := 63) rfl ?_); refine goesL_ (some 16) rfl rfl Tryd.func63 (by kernel_rfl) rfl #[.int .i64 x5_1] rfl (by (try simp only [List.map_toArray, List.map_cons, List.map_nil]); first | done | rfl | (simp only [List.length_drop, List.length_take]; rfl)) ?_; (with_reducible refine (field_degree.calls k1 x5_1 t139 _ A8.out).mono ?_); rintro e w' ⟨rfl, ⟨nd, rfl⟩⟩; refine ⟨_, rfl, ?_⟩) | ((with_reducible refine gate_callee (f := 63) rfl ?_); refine goesL_ (some 18) rfl rfl Tryd.func63 (by kernel_rfl) rfl #[.int .i64 x6_1] rfl (by (try simp only [List.map_toArray, List.map_cons, List.map_nil]); first | done | rfl | (simp only [List.length_drop, List.length_take]; rfl)) ?_; (with_reducible refine (field_degree.calls k1 x6_1 t140 _ A9.out).mono ?_); rintro e w' ⟨rfl, ⟨nd, rfl⟩⟩; refine ⟨_, rfl, ?_⟩))
      go_roundg k1
      case measure => have := HK1.out; omega
      case rel => exact ⟨(Go.bits .xor .i64 x6_1 (ji13)), (x5_1), (Go.bits .xor .i64 x8_1 (ji15)), (x7_1), (by first | rfl | (simp; done) | (simp only [← hji13] <;> (first | rfl | simp)) | (simp [*]; done)), (by first | rfl | (simp; done) | (simp [*]; done)), (by first | rfl | (simp; done) | (simp only [← hji15] <;> (first | rfl | simp)) | (simp [*]; done)), (by first | rfl | (simp; done) | (simp [*]; done)), H', ⟨by have := HK1.out; omega⟩, ⟨by repeat (first | (with_reducible first | exact HB.out | apply below_alloc | apply pw_below_drewN | apply below_drew1) | exact HB.out)⟩⟩
     ·rw [if_neg c12] at H
      exact absurd H (by simp)
    ·rw [if_neg c10] at H
     have c10b0 : decide ((wrap64 (t139 - t140)) < 0) = false := decide_eq_false c10
     clear c10
     obtain ⟨ji16, hji16⟩ : ∃ j_ : Int, (wrap64 (t139 - t140)) = j_ := ⟨_, rfl⟩
     replace H : (if 0 ≤ (ji16) then (field_inverse.l0 k1 a0 (Go.bits .xor .i64 x5_1 (shl .i64 x6_1 (ji16))) x6_1 (Go.bits .xor .i64 x7_1 (shl .i64 x8_1 (ji16))) x8_1) else (none)) = some r := by first | (rw [hji16] at H; exact H) | (simp only [hji16] at H ⊢; exact H)
     (try rw [hji16] at c10b0)
     (try rw [hji16] at A8)
     (try rw [hji16] at A9)
     have hji16w : (IntKind.i64.wrap (t139 - t140)) = ji16 := (i64_w _).trans hji16
     by_cases c17 : 0 ≤ (ji16)
     ·rw [if_pos c17] at H
      have c17b0 := eq_true c17
      have c17b1 : decide (0 ≤ (ji16)) = true := decide_eq_true c17
      clear c17
      obtain ⟨ji18, hji18⟩ : ∃ j_ : Int, (shl .i64 x6_1 (ji16)) = j_ := ⟨_, rfl⟩
      replace H : (field_inverse.l0 k1 a0 (Go.bits .xor .i64 x5_1 (ji18)) x6_1 (Go.bits .xor .i64 x7_1 (shl .i64 x8_1 (ji16))) x8_1) = some r := by first | (rw [hji18] at H; exact H) | (simp only [hji18] at H ⊢; exact H)
      (try rw [hji18] at A8)
      (try rw [hji18] at A9)
      have hji18_ : (IntKind.i64.wrap (x6_1 * 2 ^ min (ji16).toNat 64)) = ji18 := hji18
      have hji18z : (ji16) ≤ 64 → (IntKind.i64.wrap (x6_1 * 2 ^ (ji16).toNat)) = ji18 := shl_small hji18
      have hji18y : (wrap64 (x6_1 * 2 ^ min (ji16).toNat 64)) = ji18 := (i64_w _).symm.trans hji18_
      have hji18x : (ji16) ≤ 64 → (wrap64 (x6_1 * 2 ^ (ji16).toNat)) = ji18 := fun h_ => (i64_w _).symm.trans (hji18z h_)
      have c19b0 := eq_true (of_decide_eq_true (by first | (with_reducible assumption) | assumption) : 0 ≤ (ji16))
      obtain ⟨ji20, hji20⟩ : ∃ j_ : Int, (shl .i64 x8_1 (ji16)) = j_ := ⟨_, rfl⟩
      replace H : (field_inverse.l0 k1 a0 (Go.bits .xor .i64 x5_1 (ji18)) x6_1 (Go.bits .xor .i64 x7_1 (ji20)) x8_1) = some r := by first | (rw [hji20] at H; exact H) | (simp only [hji20] at H ⊢; exact H)
      (try rw [hji20] at A8)
      (try rw [hji20] at A9)
      have hji20_ : (IntKind.i64.wrap (x8_1 * 2 ^ min (ji16).toNat 64)) = ji20 := hji20
      have hji20z : (ji16) ≤ 64 → (IntKind.i64.wrap (x8_1 * 2 ^ (ji16).toNat)) = ji20 := shl_small hji20
      have hji20y : (wrap64 (x8_1 * 2 ^ min (ji16).toNat 64)) = ji20 := (i64_w _).symm.trans hji20_
      have hji20x : (ji16) ≤ 64 → (wrap64 (x8_1 * 2 ^ (ji16).toNat)) = ji20 := fun h_ => (i64_w _).symm.trans (hji20z h_)
      have H' := Aside0.mk H
      clear H
      go_wp2_with (first | ((with_reducible refine gate_callee (f := 63) rfl ?_); refine goesL_ (some 16) rfl rfl Tryd.func63 (by kernel_rfl) rfl #[.int .i64 x5_1] rfl (by (try simp only [List.map_toArray, List.map_cons, List.map_nil]); first | done | rfl | (simp only [List.length_drop, List.length_take]; rfl)) ?_; (with_reducible refine (field_degree.calls k1 x5_1 t139 _ A8.out).mono ?_); rintro e w' ⟨rfl, ⟨nd, rfl⟩⟩; refine ⟨_, rfl, ?_⟩) | ((with_reducible refine gate_callee (f := 63) rfl ?_); refine goesL_ (some 18) rfl rfl Tryd.func63 (by kernel_rfl) rfl #[.int .i64 x6_1] rfl (by (try simp only [List.map_toArray, List.map_cons, List.map_nil]); first | done | rfl | (simp only [List.length_drop, List.length_take]; rfl)) ?_; (with_reducible refine (field_degree.calls k1 x6_1 t140 _ A9.out).mono ?_); rintro e w' ⟨rfl, ⟨nd, rfl⟩⟩; refine ⟨_, rfl, ?_⟩))
      go_roundg k1
      case measure => have := HK1.out; omega
      case rel => exact ⟨(Go.bits .xor .i64 x5_1 (ji18)), (x6_1), (Go.bits .xor .i64 x7_1 (ji20)), (x8_1), (by first | rfl | (simp; done) | (simp only [← hji18] <;> (first | rfl | simp)) | (simp [*]; done)), (by first | rfl | (simp; done) | (simp [*]; done)), (by first | rfl | (simp; done) | (simp only [← hji20] <;> (first | rfl | simp)) | (simp [*]; done)), (by first | rfl | (simp; done) | (simp [*]; done)), H', ⟨by have := HK1.out; omega⟩, ⟨by repeat (first | (with_reducible first | exact HB.out | apply below_alloc | apply pw_below_drewN | apply below_drew1) | exact HB.out)⟩⟩
     ·rw [if_neg c17] at H
      exact absurd H (by simp)
/-! ### field_Inv: function 49 -/
def field_Inv.f (k : Nat) (a0 : Int) (a1 : Int) : Option (Int × Int) := (field_all.f a0 (([a1] : List Int))).bind fun t144 => (if t144 = true then (if a1 = 0 then (some (0, 12)) else ((field_inverse.f k a0 a1).bind fun t145 => (some (t145, 0)))) else (some (0, 1)))
theorem field_Inv.mono : ∀ a0 a1 k, LeO (field_Inv.f k a0 a1) (field_Inv.f (k + 1) a0 a1) := by
 intro a0 a1 k
 unfold field_Inv.f
 repeat' first
   | (with_reducible exact field_inverse.mono _ _ _)
   | (with_reducible exact LeO.refl _)
   | (with_reducible exact LeO.none _)
   | (with_reducible refine LeO.ite ?_ ?_)
   | (with_reducible refine LeO.bind ?_ (fun _ => ?_))
   | exact field_inverse.mono _ _ _
   | exact LeO.none _
   | refine LeO.ite ?_ ?_
   | refine LeO.bind ?_ (fun _ => ?_)
set_option maxHeartbeats 8000000 in
set_option maxRecDepth 100000 in
theorem field_Inv.calls (k : Nat) (a0 : Int) (a1 : Int) (r1 : Int) (r2 : Int) (w : World) (hff : FF w) (h : field_Inv.f k a0 a1 = some (r1, r2)) :
  Calls Tryd.prog 49 #[.int .i64 a0, .int .i64 a1] w fun e w' => e = .returned (.tuple #[.int .i64 r1, .int .i64 r2]) ∧ Below w.heap.size w w' := by
 have HF := Aside0.mk hff
 clear hff
 have HB := Aside0.mk (Below.refl w.heap.size w)
 have H : ((field_all.f a0 (([a1] : List Int))).bind fun t144 => (if t144 = true then (if a1 = 0 then (some (0, 12)) else ((field_inverse.f k a0 a1).bind fun t145 => (some (t145, 0)))) else (some (0, 1)))) = some (r1, r2) := h
 clear h
 obtain ⟨y141, hy141⟩ : ∃ y_ : List Int, y_ = (([a1] : List Int)) := ⟨_, rfl⟩
 replace H : ((field_all.f a0 y141).bind fun t144 => (if t144 = true then (if a1 = 0 then (some (0, 12)) else ((field_inverse.f k a0 a1).bind fun t145 => (some (t145, 0)))) else (some (0, 1)))) = some (r1, r2) := by first | (rw [hy141]; with_reducible exact H) | (have H2_ := (Option.bind_some _ _).symm.trans H; rw [hy141]; with_reducible exact H2_) | (have H2_ := (Option.bind_some _ _).symm.trans H; with_reducible exact H2_) | with_reducible exact H | (rw [hy141]; exact H) | exact H
 have Ny141 := Aside0.mk hy141
 clear hy141
 replace H := Option.bind_eq_some_iff.mp H
 obtain ⟨t144, A30, H⟩ := H
 replace H : (if t144 = true then (if a1 = 0 then (some (0, 12)) else ((field_inverse.f k a0 a1).bind fun t145 => (some (t145, 0)))) else (some (0, 1))) = some (r1, r2) := H
 have A3 := Aside0.mk A30
 clear A30
 by_cases c4 : t144 = true
 ·subst c4
  have H1 : (if a1 = 0 then (some (0, 12)) else ((field_inverse.f k a0 a1).bind fun t145 => (some (t145, 0)))) = some (r1, r2) := by rw [if_pos rfl] at H; exact H
  clear H
  have H := H1
  clear H1
  by_cases c5 : a1 = 0
  ·rw [if_pos c5] at H
   have c5b0 : (a1 == 0) = true := beq_iff_eq.mpr c5
   have c5b1 : (a1 != 0) = false := bne_eq_false_iff_eq.mpr c5
   clear c5
   simp only [Option.some.injEq, Prod.mk.injEq] at H
   obtain ⟨rfl, rfl⟩ := H
   go_enter Tryd.func49, Tryd.ntmps49
   go_wp2_with (first | ((with_reducible refine gate_dst (N := 9) rfl ?_); refine Kd.R_lit (Kd.int .i64) _ 3 ?hg (N := 9) ?hd (xs := ([a1] : List Int)) (inner := [.int .i64 a1]) (ok := fun _ => True) (okp := fun _ => True) ?hr ?hp (fun _ hk => hk) trivial (Below.refl _ _) (Nat.le_refl _) (by simp) ?_; (case hd => rfl); (case hg => rfl); (case hr => first | (go_simp; done) | (go_simp; rfl)); (case hp => exact (Reps.one (show Kd.M (Kd.int .i64) _ _ _ a1 [.int .i64 a1] from rfl) (Reps.none _ _))); intro v142 w6 ho7 hb hg_ hnew_; clear hg_ hnew_; (first | rw [← Ny141.out] at ho7 | (simp only [Int.reduceToNat] at ho7; rw [← Ny141.out] at ho7)); have n0_ := Aside0.mk (Kd.R_lower ho7 (below_size (by repeat (first | (with_reducible first | exact HB.out | apply below_alloc | apply pw_below_drewN | apply below_drew1) | exact HB.out)))); have n1_ := Aside0.mk (below_step (by repeat (first | (with_reducible first | exact HB.out | apply below_alloc | apply pw_below_drewN | apply below_drew1) | exact HB.out)) hb); clear HB; have HO143 := n0_; have HB := n1_; clear n0_ n1_; clear hb ho7; obtain ⟨Ao8, co8, eo8⟩ := Kd.R_slice HO143.out; subst eo8) | ((with_reducible refine gate_callee (f := 55) rfl ?_); refine goesL_ (some 10) rfl rfl Tryd.func55 (by kernel_rfl) rfl #[.int .i64 a0, .slice Ao8 y141.length co8] rfl (by (try simp only [List.map_toArray, List.map_cons, List.map_nil]); first | done | rfl | (simp only [List.length_drop, List.length_take]; rfl)) ?_; (with_reducible refine (field_all.calls a0 _ _ y141 true _ ?side1 ?side2 ?side3 A3.out).mono ?_); (case side1 => refine FF.below HF.out ?_; repeat (first | (with_reducible first | exact HB.out | apply below_alloc | apply pw_below_drewN | apply below_drew1) | exact HB.out)); (case side2 => repeat (first | exact (Kd.R_reads' HO143.out).2.2 | (with_reducible refine Kd.C_alloc ?_ _) | (with_reducible refine Kd.C_drewN ?_ _) | (with_reducible refine Kd.C_drew ?_))); (case side3 => exact (Kd.R_reads' HO143.out).2.1); rintro e w9 ⟨rfl, hb⟩; refine ⟨_, rfl, ?_⟩; have n0_ := Aside0.mk (Kd.R_below (by (with_reducible repeat (first | apply Kd.R_alloc | apply Kd.R_drewN | apply Kd.R_drew)); exact HO143.out) hb); have n1_ := Aside0.mk (below_step (by repeat (first | (with_reducible first | exact HB.out | apply below_alloc | apply pw_below_drewN | apply below_drew1) | exact HB.out)) hb); clear HO143; clear HB; have HO143 := n0_; have HB := n1_; clear n0_ n1_; (try clear hb); (try clear hb2); (try clear hk); (try clear hi)))
   go_ret2
   exact ⟨by first | rfl | (simp [errW_none, errW_some] <;> rfl) | (simp [*, errW_none, errW_some] <;> rfl), by repeat (first | (with_reducible first | exact HB.out | apply below_alloc | apply pw_below_drewN | apply below_drew1) | exact HB.out)⟩
  ·rw [if_neg c5] at H
   have c5b0 : (a1 == 0) = false := beq_eq_false_iff_ne.mpr c5
   have c5b1 : (a1 != 0) = true := bne_iff_ne.mpr c5
   replace H := Option.bind_eq_some_iff.mp H
   obtain ⟨t145, A100, H⟩ := H
   replace H : (some (t145, 0)) = some (r1, r2) := H
   have A10 := Aside0.mk A100
   clear A100
   simp only [Option.some.injEq, Prod.mk.injEq] at H
   obtain ⟨rfl, rfl⟩ := H
   go_enter Tryd.func49, Tryd.ntmps49
   go_wp2_with (first | ((with_reducible refine gate_dst (N := 9) rfl ?_); refine Kd.R_lit (Kd.int .i64) _ 3 ?hg (N := 9) ?hd (xs := ([a1] : List Int)) (inner := [.int .i64 a1]) (ok := fun _ => True) (okp := fun _ => True) ?hr ?hp (fun _ hk => hk) trivial (Below.refl _ _) (Nat.le_refl _) (by simp) ?_; (case hd => rfl); (case hg => rfl); (case hr => first | (go_simp; done) | (go_simp; rfl)); (case hp => exact (Reps.one (show Kd.M (Kd.int .i64) _ _ _ a1 [.int .i64 a1] from rfl) (Reps.none _ _))); intro v142 w11 ho12 hb hg_ hnew_; clear hg_ hnew_; (first | rw [← Ny141.out] at ho12 | (simp only [Int.reduceToNat] at ho12; rw [← Ny141.out] at ho12)); have n0_ := Aside0.mk (Kd.R_lower ho12 (below_size (by repeat (first | (with_reducible first | exact HB.out | apply below_alloc | apply pw_below_drewN | apply below_drew1) | exact HB.out)))); have n1_ := Aside0.mk (below_step (by repeat (first | (with_reducible first | exact HB.out | apply below_alloc | apply pw_below_drewN | apply below_drew1) | exact HB.out)) hb); clear HB; have HO143 := n0_; have HB := n1_; clear n0_ n1_; clear hb ho12; obtain ⟨Ao13, co13, eo13⟩ := Kd.R_slice HO143.out; subst eo13) | ((with_reducible refine gate_callee (f := 55) rfl ?_); refine goesL_ (some 10) rfl rfl Tryd.func55 (by kernel_rfl) rfl #[.int .i64 a0, .slice Ao13 y141.length co13] rfl (by (try simp only [List.map_toArray, List.map_cons, List.map_nil]); first | done | rfl | (simp only [List.length_drop, List.length_take]; rfl)) ?_; (with_reducible refine (field_all.calls a0 _ _ y141 true _ ?side1 ?side2 ?side3 A3.out).mono ?_); (case side1 => refine FF.below HF.out ?_; repeat (first | (with_reducible first | exact HB.out | apply below_alloc | apply pw_below_drewN | apply below_drew1) | exact HB.out)); (case side2 => repeat (first | exact (Kd.R_reads' HO143.out).2.2 | (with_reducible refine Kd.C_alloc ?_ _) | (with_reducible refine Kd.C_drewN ?_ _) | (with_reducible refine Kd.C_drew ?_))); (case side3 => exact (Kd.R_reads' HO143.out).2.1); rintro e w14 ⟨rfl, hb⟩; refine ⟨_, rfl, ?_⟩; have n0_ := Aside0.mk (Kd.R_below (by (with_reducible repeat (first | apply Kd.R_alloc | apply Kd.R_drewN | apply Kd.R_drew)); exact HO143.out) hb); have n1_ := Aside0.mk (below_step (by repeat (first | (with_reducible first | exact HB.out | apply below_alloc | apply pw_below_drewN | apply below_drew1) | exact HB.out)) hb); clear HO143; clear HB; have HO143 := n0_; have HB := n1_; clear n0_ n1_; (try clear hb); (try clear hb2); (try clear hk); (try clear hi)) | ((with_reducible refine gate_callee (f := 56) rfl ?_); refine goesL_ (some 17) rfl rfl Tryd.func56 (by kernel_rfl) rfl #[.int .i64 a0, .int .i64 a1] rfl (by (try simp only [List.map_toArray, List.map_cons, List.map_nil]); first | done | rfl | (simp only [List.length_drop, List.length_take]; rfl)) ?_; (with_reducible refine (field_inverse.calls k a0 a1 t145 _ ?side1 A10.out).mono ?_); (case side1 => refine FF.below HF.out ?_; repeat (first | (with_reducible first | exact HB.out | apply below_alloc | apply pw_below_drewN | apply below_drew1) | exact HB.out)); rintro e w15 ⟨rfl, hb⟩; refine ⟨_, rfl, ?_⟩; have n0_ := Aside0.mk (Kd.R_below (by (with_reducible repeat (first | apply Kd.R_alloc | apply Kd.R_drewN | apply Kd.R_drew)); exact HO143.out) hb); have n1_ := Aside0.mk (below_step (by repeat (first | (with_reducible first | exact HB.out | apply below_alloc | apply pw_below_drewN | apply below_drew1) | exact HB.out)) hb); clear HO143; clear HB; have HO143 := n0_; have HB := n1_; clear n0_ n1_; (try clear hb); (try clear hb2); (try clear hk); (try clear hi)))
   go_ret2
   exact ⟨by first | rfl | (simp [errW_none, errW_some] <;> rfl) | (simp [*, errW_none, errW_some] <;> rfl), by repeat (first | (with_reducible first | exact HB.out | apply below_alloc | apply pw_below_drewN | apply below_drew1) | exact HB.out)⟩
 ·replace c4 := Bool.eq_false_iff.mpr c4
  subst c4
  have H1 : (some (0, 1)) = some (r1, r2) := by rw [if_neg (show ¬ (false = true) by decide)] at H; exact H
  clear H
  have H := H1
  clear H1
  simp only [Option.some.injEq, Prod.mk.injEq] at H
  obtain ⟨rfl, rfl⟩ := H
  go_enter Tryd.func49, Tryd.ntmps49
  go_wp2_with (first | ((with_reducible refine gate_dst (N := 9) rfl ?_); refine Kd.R_lit (Kd.int .i64) _ 3 ?hg (N := 9) ?hd (xs := ([a1] : List Int)) (inner := [.int .i64 a1]) (ok := fun _ => True) (okp := fun _ => True) ?hr ?hp (fun _ hk => hk) trivial (Below.refl _ _) (Nat.le_refl _) (by simp) ?_; (case hd => rfl); (case hg => rfl); (case hr => first | (go_simp; done) | (go_simp; rfl)); (case hp => exact (Reps.one (show Kd.M (Kd.int .i64) _ _ _ a1 [.int .i64 a1] from rfl) (Reps.none _ _))); intro v142 w16 ho17 hb hg_ hnew_; clear hg_ hnew_; (first | rw [← Ny141.out] at ho17 | (simp only [Int.reduceToNat] at ho17; rw [← Ny141.out] at ho17)); have n0_ := Aside0.mk (Kd.R_lower ho17 (below_size (by repeat (first | (with_reducible first | exact HB.out | apply below_alloc | apply pw_below_drewN | apply below_drew1) | exact HB.out)))); have n1_ := Aside0.mk (below_step (by repeat (first | (with_reducible first | exact HB.out | apply below_alloc | apply pw_below_drewN | apply below_drew1) | exact HB.out)) hb); clear HB; have HO143 := n0_; have HB := n1_; clear n0_ n1_; clear hb ho17; obtain ⟨Ao18, co18, eo18⟩ := Kd.R_slice HO143.out; subst eo18) | ((with_reducible refine gate_callee (f := 55) rfl ?_); refine goesL_ (some 10) rfl rfl Tryd.func55 (by kernel_rfl) rfl #[.int .i64 a0, .slice Ao18 y141.length co18] rfl (by (try simp only [List.map_toArray, List.map_cons, List.map_nil]); first | done | rfl | (simp only [List.length_drop, List.length_take]; rfl)) ?_; (with_reducible refine (field_all.calls a0 _ _ y141 false _ ?side1 ?side2 ?side3 A3.out).mono ?_); (case side1 => refine FF.below HF.out ?_; repeat (first | (with_reducible first | exact HB.out | apply below_alloc | apply pw_below_drewN | apply below_drew1) | exact HB.out)); (case side2 => repeat (first | exact (Kd.R_reads' HO143.out).2.2 | (with_reducible refine Kd.C_alloc ?_ _) | (with_reducible refine Kd.C_drewN ?_ _) | (with_reducible refine Kd.C_drew ?_))); (case side3 => exact (Kd.R_reads' HO143.out).2.1); rintro e w19 ⟨rfl, hb⟩; refine ⟨_, rfl, ?_⟩; have n0_ := Aside0.mk (Kd.R_below (by (with_reducible repeat (first | apply Kd.R_alloc | apply Kd.R_drewN | apply Kd.R_drew)); exact HO143.out) hb); have n1_ := Aside0.mk (below_step (by repeat (first | (with_reducible first | exact HB.out | apply below_alloc | apply pw_below_drewN | apply below_drew1) | exact HB.out)) hb); clear HO143; clear HB; have HO143 := n0_; have HB := n1_; clear n0_ n1_; (try clear hb); (try clear hb2); (try clear hk); (try clear hi)))
  go_ret2
  exact ⟨by first | rfl | (simp [errW_none, errW_some] <;> rfl) | (simp [*, errW_none, errW_some] <;> rfl), by repeat (first | (with_reducible first | exact HB.out | apply below_alloc | apply pw_below_drewN | apply below_drew1) | exact HB.out)⟩
end Go.Proofs.YtfigcmmmpndpjaaDoor.P
/- Plain: Horner's rule, the extended Euclidean algorithm, reduction, in the fields with 2^8 and 2^16 elements. -/
namespace Gf
variable {m a b : Nat}
theorem op_horner (m n b a : Nat) : op m (n + 1) b a = T m (op m n (b / 2) a) ^^^ (if b % 2 = 1 then a else 0) := by
  simp only [op]; rw [op_T, Nat.xor_comm]
/-- a polynomial modulo that of the field -/
def ev (m f : Nat) : Nat := op m 64 f 1
theorem ev_lt (hm : Ok m) (f : Nat) : ev m f < 2 ^ m := op_lt hm 64 f 1 (one_lt hm)
theorem ev_xor (m f g : Nat) : ev m (f ^^^ g) = ev m f ^^^ ev m g := xor_op m 64 f g 1
theorem ev_small (hm : Ok m) {f : Nat} (h : f < 2 ^ m) : ev m f = f := by
  have h2 : f < 2 ^ 64 := Nat.lt_of_lt_of_le h (Nat.pow_le_pow_right (by decide) (by rcases hm with rfl | rfl <;> decide))
  unfold ev
  rw [op_bits m 64 m f 1 h2 h, op_one hm h]
theorem ev_double {f : Nat} (h : f < 2 ^ 63) : ev m (2 * f) = T m (ev m f) := by
  unfold ev
  have e : op m 64 (2 * f) 1 = op m 63 f (T m 1) := by
    show (if (2 * f) % 2 = 1 then 1 else 0) ^^^ op m 63 (2 * f / 2) (T m 1) = _
    have h1 : (2 * f) % 2 = 0 := by omega
    have h2 : 2 * f / 2 = f := by omega
    rw [h1, h2]; simp
  rw [e, op_T]
  congr 1
  exact op_bits m 63 64 f 1 h (by omega)
/-- t^s x -/
def Ts (m : Nat) : Nat → Nat → Nat
  | 0, x => x
  | s + 1, x => T m (Ts m s x)
theorem ev_shift (s : Nat) : ∀ f : Nat, f * 2 ^ s < 2 ^ 63 → ev m (f * 2 ^ s) = Ts m s (ev m f) := by
  induction s with
  | zero => intro f _; simp [Ts]
  | succ s ih =>
    intro f h
    have e : f * 2 ^ (s + 1) = 2 * (f * 2 ^ s) := by rw [Nat.pow_succ]; rw [← Nat.mul_assoc, Nat.mul_comm]
    rw [e] at h ⊢
    rw [ev_double (by omega), ih f (by omega)]
    rfl
theorem mul_Ts (m s : Nat) : ∀ x a, mul m (Ts m s x) a = Ts m s (mul m x a) := by
  induction s with
  | zero => intro x a; rfl
  | succ s ih => intro x a; simp only [Ts]; rw [← ih]; exact op_T m m a _
theorem ev_md (hm : Ok m) : ev m (md m) = 0 := by
  rcases hm with rfl | rfl <;> decide +kernel
/-- the number of binary digits: the degree is one less -/
def dg : Nat → Nat → Nat
  | 0, _ => 0
  | n + 1, a => if a = 0 then 0 else dg n (a / 2) + 1
theorem dg_zero (n : Nat) : dg n 0 = 0 := by cases n <;> rfl
theorem dg_spec (n : Nat) : ∀ a, a < 2 ^ n → a ≠ 0 → 2 ^ (dg n a - 1) ≤ a ∧ a < 2 ^ (dg n a) ∧ 1 ≤ dg n a := by
  induction n with
  | zero => intro a h h0; simp at h; omega
  | succ n ih =>
    intro a h h0
    rw [show dg (n + 1) a = dg n (a / 2) + 1 by simp [dg, h0]]
    by_cases h1 : a / 2 = 0
    · rw [h1, dg_zero]; simp; omega
    · obtain ⟨h2, h3, h4⟩ := ih (a / 2) (by rw [Nat.pow_succ] at h; omega) h1
      have e : dg n (a / 2) + 1 - 1 = (dg n (a / 2) - 1) + 1 := by omega
      rw [e, Nat.pow_succ, Nat.pow_succ]
      omega
theorem dg_lt {n a : Nat} (h : a < 2 ^ n) : a < 2 ^ dg n a := by
  by_cases h0 : a = 0
  · subst h0; exact Nat.two_pow_pos _
  · exact (dg_spec n a h h0).2.1
theorem dg_le (n : Nat) : ∀ a k, a < 2 ^ k → dg n a ≤ k := by
  induction n with
  | zero => intro a k _; exact Nat.zero_le _
  | succ n ih =>
    intro a k h
    simp only [dg]
    split
    · exact Nat.zero_le _
    · rename_i h0
      cases k with
      | zero => simp at h; omega
      | succ k => have := ih (a / 2) k (by rw [Nat.pow_succ] at h; omega); omega
theorem dg_fuel {n k a : Nat} (h : a < 2 ^ n) (h' : a < 2 ^ k) : dg n a = dg k a := by
  by_cases h0 : a = 0
  · subst h0; rw [dg_zero, dg_zero]
  · have h1 := dg_le n a (dg k a) (dg_lt h')
    have h2 := dg_le k a (dg n a) (dg_lt h)
    omega
/-- two polynomials of one degree: the sum is of a smaller one -/
theorem dg_xor {n x y : Nat} (hx : x < 2 ^ n) (hy : y < 2 ^ n) (hx0 : x ≠ 0) (h : dg n x = dg n y) : x ^^^ y < 2 ^ (dg n x - 1) := by
  obtain ⟨a1, a2, a3⟩ := dg_spec n x hx hx0
  have hy0 : y ≠ 0 := by rintro rfl; rw [dg_zero] at h; omega
  obtain ⟨b1, b2, _⟩ := dg_spec n y hy hy0
  rw [← h] at b1 b2
  obtain ⟨k, hk⟩ : ∃ k, dg n x = k + 1 := ⟨dg n x - 1, by omega⟩
  rw [hk] at a1 a2 b1 b2 ⊢
  exact xor_lt_of_top a2 b2 a1 b1
theorem dg_shift {n x s : Nat} (h0 : x ≠ 0) (h : x * 2 ^ s < 2 ^ n) : dg n (x * 2 ^ s) = dg n x + s := by
  have hx : x < 2 ^ n := Nat.lt_of_le_of_lt (Nat.le_mul_of_pos_right _ (Nat.two_pow_pos s)) h
  obtain ⟨a1, a2, a3⟩ := dg_spec n x hx h0
  have hp := Nat.two_pow_pos s
  have h1 : dg n (x * 2 ^ s) ≤ dg n x + s := dg_le n _ _ (by
    rw [Nat.pow_add]; exact Nat.mul_lt_mul_of_pos_right a2 hp)
  have h2 : ¬ dg n (x * 2 ^ s) ≤ dg n x + s - 1 := by
    intro hle
    have h3 := dg_lt h
    have h4 : x * 2 ^ s < 2 ^ (dg n x + s - 1) := Nat.lt_of_lt_of_le h3 (Nat.pow_le_pow_right (by decide) hle)
    rw [show dg n x + s - 1 = (dg n x - 1) + s by omega, Nat.pow_add] at h4
    have := Nat.mul_le_mul_right (2 ^ s) a1
    omega
  omega
/-- the lowest digits' determinant -/
def low (u v x y : Nat) : Nat := (u % 2 * (y % 2) + v % 2 * (x % 2)) % 2
/-- What holds at the head of each round of the Euclidean algorithm. -/
structure Inv (m a u v x y : Nat) : Prop where
  hu : ev m u = mul m (ev m x) a
  hv : ev m v = mul m (ev m y) a
  hl : low u v x y = 1
  u0 : u ≠ 0
  v0 : v ≠ 0
  v1 : v ≠ 1
  uy : dg 17 u + dg 17 y ≤ m + 2
  vx : dg 17 v + dg 17 x ≤ m + 2
  bu : u < 2 ^ 17
  bv : v < 2 ^ 17
  bx : x < 2 ^ 17
  bY : y < 2 ^ 17
theorem ok_le (hm : Ok m) : m ≤ 16 ∧ 8 ≤ m := by rcases hm with rfl | rfl <;> decide
theorem Inv.start (hm : Ok m) (ha : a < 2 ^ m) (h0 : a ≠ 0) : Inv m a a (md m) 1 0 := by
  have h16 : 2 ^ m ≤ 2 ^ 16 := Nat.pow_le_pow_right (by decide) (ok_le hm).1
  have ha17 : a < 2 ^ 17 := by omega
  have e1 : ev m 1 = 1 := ev_small hm (one_lt hm)
  have e0 : ev m 0 = 0 := ev_small hm (Nat.two_pow_pos m)
  refine ⟨?_, ?_, ?_, h0, ?_, ?_, ?_, ?_, ha17, ?_, by decide, by decide⟩
  · rw [e1, ev_small hm ha, one_mul hm ha]
  · rw [e0, zero_mul, ev_md hm]
  · rcases hm with rfl | rfl <;> simp [low, md]
  · rcases hm with rfl | rfl <;> decide
  · rcases hm with rfl | rfl <;> decide
  · rw [dg_zero]; have := dg_le 17 a m ha; omega
  · rcases hm with rfl | rfl <;> decide
  · rcases hm with rfl | rfl <;> decide
theorem Inv.swap {u v x y : Nat} (h : Inv m a u v x y) (h1 : u ≠ 1) : Inv m a v u y x :=
  ⟨h.hv, h.hu, by have := h.hl; unfold low at *; rw [Nat.add_comm]; exact this, h.v0, h.u0, h1, h.vx, h.uy, h.bv, h.bu, h.bY, h.bx⟩
theorem low_step (u v x y s : Nat) : low (u ^^^ (v * 2 ^ s)) v (x ^^^ (y * 2 ^ s)) y = low u v x y := by
  unfold low
  rw [mod_xor, mod_xor]
  cases s with
  | zero =>
    simp only [Nat.pow_zero, Nat.mul_one]
    rcases Nat.mod_two_eq_zero_or_one u with h | h <;> rcases Nat.mod_two_eq_zero_or_one v with h' | h' <;> rcases Nat.mod_two_eq_zero_or_one x with h2 | h2 <;> rcases Nat.mod_two_eq_zero_or_one y with h3 | h3 <;> simp [h, h', h2, h3]
  | succ s =>
    have e1 : v * 2 ^ (s + 1) % 2 = 0 := by rw [Nat.pow_succ, ← Nat.mul_assoc]; omega
    have e2 : y * 2 ^ (s + 1) % 2 = 0 := by rw [Nat.pow_succ, ← Nat.mul_assoc]; omega
    rw [e1, e2]
    simp
theorem two_le_dg {v : Nat} (h : v < 2 ^ 17) (h0 : v ≠ 0) (h1 : v ≠ 1) : 2 ≤ dg 17 v := by
  have h3 := dg_lt h
  have := (dg_spec 17 v h h0).2.2
  rcases Nat.lt_or_ge (dg 17 v) 2 with h4 | h4
  · have : dg 17 v = 1 := by omega
    rw [this] at h3; omega
  · exact h4
/-- A round. -/
theorem Inv.step (hm : Ok m) (ha : a < 2 ^ m) (h0 : a ≠ 0) {u v x y : Nat} (h : Inv m a u v x y) (hd : dg 17 v ≤ dg 17 u) :
    Inv m a (u ^^^ (v * 2 ^ (dg 17 u - dg 17 v))) v (x ^^^ (y * 2 ^ (dg 17 u - dg 17 v))) y ∧ dg 17 (u ^^^ (v * 2 ^ (dg 17 u - dg 17 v))) < dg 17 u ∧
      v * 2 ^ (dg 17 u - dg 17 v) < 2 ^ 17 ∧ y * 2 ^ (dg 17 u - dg 17 v) < 2 ^ 17 := by
  obtain ⟨s, hs⟩ : ∃ s, dg 17 u - dg 17 v = s := ⟨_, rfl⟩
  rw [hs]
  have hm16 := ok_le hm
  have hv2 := two_le_dg h.bv h.v0 h.v1
  have hu17 : dg 17 u ≤ 17 := dg_le 17 u 17 h.bu
  have bvs : v * 2 ^ s < 2 ^ (dg 17 u) := by
    rw [show dg 17 u = dg 17 v + s by omega, Nat.pow_add]
    exact Nat.mul_lt_mul_of_pos_right (dg_lt h.bv) (Nat.two_pow_pos s)
  have bvs17 : v * 2 ^ s < 2 ^ 17 := Nat.lt_of_lt_of_le bvs (Nat.pow_le_pow_right (by decide) hu17)
  have bys : y * 2 ^ s < 2 ^ (dg 17 y + s) := by
    rw [Nat.pow_add]
    exact Nat.mul_lt_mul_of_pos_right (dg_lt h.bY) (Nat.two_pow_pos s)
  have uy := h.uy
  have vx := h.vx
  have bysm : y * 2 ^ s < 2 ^ (m + 2 - dg 17 v) := Nat.lt_of_lt_of_le bys (Nat.pow_le_pow_right (by decide) (by omega))
  have bys17 : y * 2 ^ s < 2 ^ 17 := Nat.lt_of_lt_of_le bysm (Nat.pow_le_pow_right (by decide) (by omega))
  have bxm : x < 2 ^ (m + 2 - dg 17 v) := Nat.lt_of_lt_of_le (dg_lt h.bx) (Nat.pow_le_pow_right (by decide) (by omega))
  have bx' : x ^^^ (y * 2 ^ s) < 2 ^ (m + 2 - dg 17 v) := Nat.xor_lt_two_pow bxm bysm
  have dvs : dg 17 u = dg 17 (v * 2 ^ s) := by rw [dg_shift h.v0 bvs17]; omega
  have bu' : u ^^^ (v * 2 ^ s) < 2 ^ (dg 17 u - 1) := dg_xor h.bu bvs17 h.u0 dvs
  have du' : dg 17 (u ^^^ (v * 2 ^ s)) ≤ dg 17 u - 1 := dg_le 17 _ _ bu'
  have eu : ev m (u ^^^ (v * 2 ^ s)) = mul m (ev m (x ^^^ (y * 2 ^ s))) a := by
    rw [ev_xor, ev_xor, ev_shift s v (by omega), ev_shift s y (by omega), xor_mul, mul_Ts, ← h.hu, ← h.hv]
  have hl' := (low_step u v x y s).trans h.hl
  refine ⟨⟨eu, h.hv, hl', ?_, h.v0, h.v1, by omega, ?_, ?_, h.bv, ?_, h.bY⟩, by omega, bvs17, bys17⟩
  · intro e
    rw [e] at eu hl'
    have e0 : ev m 0 = 0 := ev_small hm (Nat.two_pow_pos m)
    rw [e0] at eu
    have hx0 := (no_zero_div hm (ev_lt hm _) ha eu.symm).resolve_right h0
    rw [ev_small hm (Nat.lt_of_lt_of_le bx' (Nat.pow_le_pow_right (by decide) (by omega)))] at hx0
    rw [hx0] at hl'
    simp [low] at hl'
  · have := dg_le 17 _ _ bx'
    omega
  · exact Nat.lt_of_lt_of_le bu' (Nat.pow_le_pow_right (by decide) (by omega))
  · exact Nat.lt_of_lt_of_le bx' (Nat.pow_le_pow_right (by decide) (by omega))
/-- the end -/
theorem Inv.done (hm : Ok m) (ha : a < 2 ^ m) {v x y : Nat} (h : Inv m a 1 v x y) : ev m x = inv m a := by
  have := h.hu
  rw [ev_small hm (one_lt hm)] at this
  exact inv_unique hm ha (ev_lt hm x) this.symm
/-- reduction, a round -/
theorem ev_reduce (hm : Ok m) {x : Nat} (hx : x < 2 ^ 17) (hd : m < dg 17 x) : ev m (x ^^^ (md m * 2 ^ (dg 17 x - 1 - m))) = ev m x ∧ dg 17 (x ^^^ (md m * 2 ^ (dg 17 x - 1 - m))) < dg 17 x ∧
    x ^^^ (md m * 2 ^ (dg 17 x - 1 - m)) < 2 ^ 17 ∧ md m * 2 ^ (dg 17 x - 1 - m) < 2 ^ 17 := by
  obtain ⟨s, hs⟩ : ∃ s, dg 17 x - 1 - m = s := ⟨_, rfl⟩
  rw [hs]
  have hx17 : dg 17 x ≤ 17 := dg_le 17 x 17 hx
  have e : dg 17 (md m) = m + 1 ∧ md m < 2 ^ 17 ∧ md m < 2 ^ (m + 1) ∧ md m ≠ 0 := by rcases hm with rfl | rfl <;> decide
  have b : md m * 2 ^ s < 2 ^ 17 := by
    refine Nat.lt_of_lt_of_le (m := 2 ^ (m + 1) * 2 ^ s) (Nat.mul_lt_mul_of_pos_right e.2.2.1 (Nat.two_pow_pos s)) ?_
    rw [← Nat.pow_add]
    exact Nat.pow_le_pow_right (by decide) (by omega)
  have d : dg 17 x = dg 17 (md m * 2 ^ s) := by rw [dg_shift e.2.2.2 b, e.1]; omega
  have hx0 : x ≠ 0 := by rintro rfl; rw [dg_zero] at hd; omega
  have bx := dg_xor hx b hx0 d
  have z : ∀ k, Ts m k 0 = 0 := by
    intro k
    induction k with
    | zero => rfl
    | succ k ih => simp only [Ts, ih, T_zero]
  refine ⟨?_, ?_, Nat.lt_of_lt_of_le bx (Nat.pow_le_pow_right (by decide) (by omega)), b⟩
  · rw [ev_xor, ev_shift s _ (by omega), ev_md hm, z, Nat.xor_zero]
  · have := dg_le 17 _ _ bx; omega
end Gf
/- The machine's whole numbers as natural numbers; what field.product answers: the product in the field. -/
namespace Go.Proofs.YtfigcmmmpndpjaaDoor.H
open Go.RowKit Go.Proofs.YtfigcmmmpndpjaaDoorW.PrintWords Go.Proofs.YtfigcmmmpndpjaaDoorW.PrintLast Go.Proofs.YtfigcmmmpndpjaaDoorW.PrintMore Go.Proofs.YtfigcmmmpndpjaaDoor.P
theorem w64 {x : Int} (h0 : -9223372036854775808 ≤ x) (h : x ≤ 9223372036854775807) : wrap64 x = x := by unfold wrap64; omega
theorem xor_any (k : IntKind) (j : Nat) (hj : j ≤ k.bits) (hk : ∀ n : Int, 0 ≤ n → n < 2 ^ j → k.wrap n = n) (a b : Nat) (ha : a < 2 ^ j) (hb : b < 2 ^ j) :
    Go.bits .xor k a b = ((a ^^^ b : Nat) : Int) := by
  have hp : 2 ^ j ≤ 2 ^ k.bits := Nat.pow_le_pow_right (by decide) hj
  have ha' : a % 2 ^ k.bits = a := Nat.mod_eq_of_lt (Nat.lt_of_lt_of_le ha hp)
  have hb' : b % 2 ^ k.bits = b := Nat.mod_eq_of_lt (Nat.lt_of_lt_of_le hb hp)
  simp only [Go.bits, BitVec.ofInt_natCast, BitVec.toNat_xor, BitVec.toNat_ofNat, ha', hb']
  exact hk _ (Int.natCast_nonneg _) (by exact_mod_cast Nat.xor_lt_two_pow ha hb)
theorem xor_nat (a b : Nat) (ha : a < 2 ^ 62) (hb : b < 2 ^ 62) : Go.bits .xor .i64 (a : Int) (b : Int) = ((a ^^^ b : Nat) : Int) :=
  xor_any .i64 62 (by decide) (fun n h0 h1 => by rw [IntKind.wrap_i64]; omega) a b ha hb
theorem xor_u8 (a b : Nat) (ha : a < 2 ^ 8) (hb : b < 2 ^ 8) : Go.bits .xor .u8 (a : Int) (b : Int) = ((a ^^^ b : Nat) : Int) :=
  xor_any .u8 8 (by decide) (fun n h0 h1 => by rw [IntKind.wrap_u8]; omega) a b ha hb
theorem and1_nat (a : Nat) (ha : a < 2 ^ 62) : Go.bits .and .i64 (a : Int) 1 = ((a % 2 : Nat) : Int) := by
  have := (bits_nat .i64 62 (by decide) (fun n h0 h1 => by rw [IntKind.wrap_i64]; omega) a 1 ha (by decide)).1
  rw [Nat.and_one_is_mod] at this
  exact this
theorem shr_nat (a n : Nat) (hn : n ≤ 64) : shr .i64 (a : Int) (n : Int) = ((a / 2 ^ n : Nat) : Int) := by
  unfold shr
  have e : min (n : Int).toNat IntKind.i64.bits = n := by simp [IntKind.bits]; omega
  rw [e]
  simp
theorem shl_nat (a n : Nat) (hn : n ≤ 64) (h : a * 2 ^ n < 2 ^ 63) : shl .i64 (a : Int) (n : Int) = ((a * 2 ^ n : Nat) : Int) := by
  unfold shl
  have e : min (n : Int).toNat IntKind.i64.bits = n := by simp [IntKind.bits]; omega
  rw [e]
  have e2 : (a : Int) * 2 ^ n = ((a * 2 ^ n : Nat) : Int) := by simp
  rw [e2, IntKind.wrap_i64]
  have : 2 ^ 63 = 9223372036854775808 := by decide
  omega
theorem okm {m : Nat} (hm : Gf.Ok m) : m ≤ 16 ∧ 8 ≤ m := Gf.ok_le hm
theorem pow_le16 {m : Nat} (hm : Gf.Ok m) : 2 ^ m ≤ 65536 := by rcases hm with rfl | rfl <;> decide
theorem modulus_md {m : Nat} (hm : Gf.Ok m) : field_modulus.f (m : Int) = some (Gf.md m : Int) := by rcases hm with rfl | rfl <;> rfl
theorem md_lt {m : Nat} (hm : Gf.Ok m) : Gf.md m < 131072 := by rcases hm with rfl | rfl <;> decide
theorem T_go {m x : Nat} (hm : Gf.Ok m) (hx : x < 2 ^ m) : Gf.T m x = if x * 2 / 2 ^ m = 0 then x * 2 else (x * 2) ^^^ Gf.md m := by
  rw [Gf.T_eq hm hx, Nat.mul_comm]
  have hp := Nat.two_pow_pos m
  by_cases h : x * 2 < 2 ^ m
  · rw [if_pos h, if_pos (Nat.div_eq_of_lt h)]
  · rw [if_neg h, if_neg]
    intro e
    have := (Nat.div_eq_zero_iff_lt hp).1 e
    exact h this
theorem prod_loop {m a b : Nat} (hm : Gf.Ok m) (ha : a < 2 ^ m) (hb : b < 2 ^ m) (j : Nat) : ∀ (k : Nat), j ≤ m → j < k →
    field_product.l0 k (m : Int) (a : Int) (b : Int) (Gf.md m : Int) (Gf.op m (m - j) (b / 2 ^ j) a : Int) ((j : Int) - 1) = some (Gf.mul m a b : Int) := by
  have hp := pow_le16 hm
  have hm16 := okm hm
  have hmd := md_lt hm
  induction j with
  | zero =>
    intro k _ hk
    obtain ⟨k, rfl⟩ : ∃ q, k = q + 1 := ⟨k - 1, by omega⟩
    simp only [field_product.l0]
    rw [if_neg (by omega)]
    simp [Gf.mul]
  | succ j ih =>
    intro k hj hk
    obtain ⟨k, rfl⟩ : ∃ q, k = q + 1 := ⟨k - 1, by omega⟩
    obtain ⟨o, ho⟩ : ∃ o, Gf.op m (m - (j + 1)) (b / 2 ^ (j + 1)) a = o := ⟨_, rfl⟩
    have hol : o < 2 ^ m := by rw [← ho]; exact Gf.op_lt hm _ _ _ ha
    have hT := T_go hm hol
    have hTl := Gf.T_lt hm hol
    have step : Gf.op m (m - j) (b / 2 ^ j) a = Gf.T m o ^^^ (if b / 2 ^ j % 2 = 1 then a else 0) := by
      rw [show m - j = (m - (j + 1)) + 1 by omega, Gf.op_horner, Nat.div_div_eq_div_mul, ← Nat.pow_succ, ho]
    have hih := ih k (by omega) (by omega)
    rw [step] at hih
    rw [ho]
    have e1 : ((j + 1 : Nat) : Int) - 1 = (j : Int) := by omega
    rw [e1]
    simp only [field_product.l0]
    rw [if_pos (by omega), if_pos (by omega), if_pos (by omega : (0 : Int) ≤ (j : Int))]
    have e2 : wrap64 ((o : Int) * 2) = ((o * 2 : Nat) : Int) := by rw [w64 (by omega) (by omega)]; omega
    have e3 : wrap64 ((j : Int) - 1) = (j : Int) - 1 := w64 (by omega) (by omega)
    rw [e2, e3, shr_nat _ m (by omega), shr_nat b j (by omega), and1_nat _ (by have := Nat.div_le_self b (2 ^ j); omega)]
    have hx1 : Go.bits .xor .i64 ((o * 2 : Nat) : Int) (Gf.md m : Int) = ((o * 2 ^^^ Gf.md m : Nat) : Int) := xor_nat _ _ (by omega) (by omega)
    rw [hx1]
    have hbit := Nat.mod_two_eq_zero_or_one (b / 2 ^ j)
    by_cases hc : o * 2 / 2 ^ m = 0
    · rw [if_pos hc] at hT
      have c1 : ((o * 2 / 2 ^ m : Nat) : Int) = 0 := by omega
      rw [if_pos c1]
      rcases hbit with h | h
      · have c2 : ((b / 2 ^ j % 2 : Nat) : Int) = 0 := by omega
        rw [if_pos c2, ← hT]
        rw [if_neg (by omega), Nat.xor_zero] at hih
        exact hih
      · have c2 : ¬ ((b / 2 ^ j % 2 : Nat) : Int) = 0 := by omega
        rw [if_neg c2, ← hT, xor_nat _ _ (by omega) (by omega)]
        rw [if_pos h] at hih
        exact hih
    · rw [if_neg hc] at hT
      have c1 : ¬ ((o * 2 / 2 ^ m : Nat) : Int) = 0 := by omega
      rw [if_neg c1]
      rcases hbit with h | h
      · have c2 : ((b / 2 ^ j % 2 : Nat) : Int) = 0 := by omega
        rw [if_pos c2, ← hT]
        rw [if_neg (by omega), Nat.xor_zero] at hih
        exact hih
      · have c2 : ¬ ((b / 2 ^ j % 2 : Nat) : Int) = 0 := by omega
        rw [if_neg c2, ← hT, xor_nat _ _ (by omega) (by omega)]
        rw [if_pos h] at hih
        exact hih
/-- 17 rounds are enough. -/
theorem product_eq {m a b : Nat} (hm : Gf.Ok m) (ha : a < 2 ^ m) (hb : b < 2 ^ m) (k : Nat) (hk : 17 ≤ k) : field_product.f k (m : Int) (a : Int) (b : Int) = some (Gf.mul m a b : Int) := by
  have hm16 := okm hm
  unfold field_product.f
  rw [modulus_md hm, Option.bind_some, w64 (by omega) (by omega)]
  have := prod_loop hm ha hb m k (Nat.le_refl _) (by omega)
  rw [Nat.sub_self] at this
  exact this
end Go.Proofs.YtfigcmmmpndpjaaDoor.H
/- What the functions of the package field answer. -/
namespace Go.Proofs.YtfigcmmmpndpjaaDoor.H
open Go.RowKit Go.Proofs.YtfigcmmmpndpjaaDoorW.PrintWords Go.Proofs.YtfigcmmmpndpjaaDoorW.PrintLast Go.Proofs.YtfigcmmmpndpjaaDoorW.PrintMore Go.Proofs.YtfigcmmmpndpjaaDoor.P
/-! ### field.degree, reduce, inverse -/
theorem degree_loop (n : Nat) : ∀ (a k : Nat) (x : Int), a < 2 ^ n → n < k → -1 ≤ x → x + n ≤ 100 → field_degree.l0 k (a : Int) x = some (x + Gf.dg n a) := by
  induction n with
  | zero =>
    intro a k x h hk _ _
    obtain ⟨k, rfl⟩ : ∃ q, k = q + 1 := ⟨k - 1, by omega⟩
    have : a = 0 := by simpa using h
    subst this
    simp [field_degree.l0, Gf.dg]
  | succ n ih =>
    intro a k x h hk h1 h2
    obtain ⟨k, rfl⟩ : ∃ q, k = q + 1 := ⟨k - 1, by omega⟩
    simp only [field_degree.l0]
    by_cases h0 : a = 0
    · subst h0; rw [if_pos (by omega), Gf.dg_zero]; simp
    · rw [if_neg (by omega), w64 (by omega) (by omega)]
      have e : ((a : Int) / 2) = ((a / 2 : Nat) : Int) := by omega
      rw [e, ih (a / 2) k (x + 1) (by rw [Nat.pow_succ] at h; omega) (by omega) (by omega) (by omega)]
      simp only [Gf.dg, if_neg h0]
      congr 1
      omega
theorem degree_eq {a : Nat} (h : a < 2 ^ 17) (k : Nat) (hk : 18 ≤ k) : field_degree.f k (a : Int) = some ((Gf.dg 17 a : Int) - 1) := by
  unfold field_degree.f
  rw [degree_loop 17 a k (-1) h (by omega) (by omega) (by omega), Int.add_comm]
  rfl
theorem reduce_loop {m : Nat} (hm : Gf.Ok m) (d : Nat) : ∀ (k x : Nat), x < 2 ^ 17 → Gf.dg 17 x ≤ d → d + 20 ≤ k →
    field_reduce.l0 k (m : Int) (x : Int) ((Gf.dg 17 x : Int) - 1) = some (Gf.ev m x : Int) := by
  have hm16 := okm hm
  induction d with
  | zero =>
    intro k x hx hd hk
    obtain ⟨k, rfl⟩ : ∃ q, k = q + 1 := ⟨k - 1, by omega⟩
    simp only [field_reduce.l0]
    rw [if_neg (by omega), Gf.ev_small hm]
    have := Gf.dg_lt hx
    exact Nat.lt_of_lt_of_le this (Nat.pow_le_pow_right (by decide) (by omega))
  | succ d ih =>
    intro k x hx hd hk
    obtain ⟨k, rfl⟩ : ∃ q, k = q + 1 := ⟨k - 1, by omega⟩
    simp only [field_reduce.l0]
    by_cases hc : m < Gf.dg 17 x
    · have h17 := Gf.dg_le 17 x 17 hx
      obtain ⟨r1, r2, r3, r4⟩ := Gf.ev_reduce hm hx hc
      rw [if_pos (by omega), modulus_md hm, Option.bind_some, w64 (by omega) (by omega), if_pos (by omega)]
      have e : ((Gf.dg 17 x : Int) - 1 - m) = ((Gf.dg 17 x - 1 - m : Nat) : Int) := by omega
      rw [e, shl_nat _ _ (by omega) (by omega), xor_nat _ _ (by omega) (by omega), degree_eq r3 k (by omega), Option.bind_some, ih k _ r3 (by omega) (by omega), r1]
    · rw [if_neg (by omega), Gf.ev_small hm]
      have := Gf.dg_lt hx
      exact Nat.lt_of_lt_of_le this (Nat.pow_le_pow_right (by decide) (by omega))
theorem reduce_eq {m x : Nat} (hm : Gf.Ok m) (hx : x < 2 ^ 17) (k : Nat) (hk : 40 ≤ k) : field_reduce.f k (m : Int) (x : Int) = some (Gf.ev m x : Int) := by
  unfold field_reduce.f
  rw [degree_eq hx k (by omega), Option.bind_some]
  exact reduce_loop hm 17 k x hx (Gf.dg_le 17 x 17 hx) (by omega)
theorem inverse_loop {m a : Nat} (hm : Gf.Ok m) (ha : a < 2 ^ m) (h0 : a ≠ 0) (d : Nat) : ∀ (k u v x y : Nat), Gf.Inv m a u v x y → Gf.dg 17 u + Gf.dg 17 v ≤ d → d + 50 ≤ k →
    field_inverse.l0 k (m : Int) (u : Int) (v : Int) (x : Int) (y : Int) = some (Gf.inv m a : Int) := by
  have hm16 := okm hm
  induction d with
  | zero =>
    intro k u v x y hi hd hk
    have := (Gf.dg_spec 17 u hi.bu hi.u0).2.2
    omega
  | succ d ih =>
    intro k u v x y hi hd hk
    obtain ⟨k, rfl⟩ : ∃ q, k = q + 1 := ⟨k - 1, by omega⟩
    simp only [field_inverse.l0]
    have bu := hi.bu
    have bv := hi.bv
    have bx := hi.bx
    have bY := hi.bY
    by_cases h1 : u = 1
    · subst h1
      rw [if_pos (by omega), reduce_eq hm bx k (by omega), Option.bind_some, hi.done hm ha]
    · have hu17 := Gf.dg_le 17 u 17 bu
      have hv17 := Gf.dg_le 17 v 17 bv
      rw [if_neg (by omega), degree_eq bu k (by omega), Option.bind_some, degree_eq bv k (by omega), Option.bind_some, w64 (by omega) (by omega)]
      by_cases hc : Gf.dg 17 u < Gf.dg 17 v
      · obtain ⟨s1, s2, s3, s4⟩ := (hi.swap h1).step hm ha h0 (Nat.le_of_lt hc)
        rw [if_pos (by omega), w64 (by omega) (by omega), if_pos (by omega)]
        have e : -((Gf.dg 17 u : Int) - 1 - ((Gf.dg 17 v : Int) - 1)) = ((Gf.dg 17 v - Gf.dg 17 u : Nat) : Int) := by omega
        rw [e, shl_nat _ _ (by omega) (by omega), shl_nat _ _ (by omega) (by omega), xor_nat _ _ (by omega) (by omega), xor_nat _ _ (by omega) (by omega)]
        exact ih k _ _ _ _ s1 (by omega) (by omega)
      · obtain ⟨s1, s2, s3, s4⟩ := hi.step hm ha h0 (by omega)
        rw [if_neg (by omega), if_pos (by omega)]
        have e : ((Gf.dg 17 u : Int) - 1 - ((Gf.dg 17 v : Int) - 1)) = ((Gf.dg 17 u - Gf.dg 17 v : Nat) : Int) := by omega
        rw [e, shl_nat _ _ (by omega) (by omega), shl_nat _ _ (by omega) (by omega), xor_nat _ _ (by omega) (by omega), xor_nat _ _ (by omega) (by omega)]
        exact ih k _ _ _ _ s1 (by omega) (by omega)
theorem inverse_eq {m a : Nat} (hm : Gf.Ok m) (ha : a < 2 ^ m) (h0 : a ≠ 0) (k : Nat) (hk : 100 ≤ k) : field_inverse.f k (m : Int) (a : Int) = some (Gf.inv m a : Int) := by
  unfold field_inverse.f
  rw [modulus_md hm, Option.bind_some]
  have h1 := Gf.dg_le 17 a 17 (by have := pow_le16 hm; omega)
  have h2 := Gf.dg_le 17 (Gf.md m) 17 (md_lt hm)
  exact inverse_loop hm ha h0 34 k a (Gf.md m) 1 0 (Gf.Inv.start hm ha h0) (by omega) (by omega)
/-! ### which inputs -/
theorem bad_not {m : Nat} (a : Nat) (h : a < 2 ^ m) : badB (m : Int) (a : Int) = false := by
  have hp : (0 : Int) < 2 ^ m := Int.pow_pos (by decide)
  have e : (a : Int) / 2 ^ m = 0 := Int.ediv_eq_zero_of_lt (by omega) (by exact_mod_cast h)
  simp [badB, e]
theorem bad_yes {m : Nat} (a : Int) (h : ¬ (0 ≤ a ∧ a < 2 ^ m)) : badB (m : Int) a = true := by
  unfold badB
  rw [Bool.or_eq_true]
  by_cases h0 : a < 0
  · left; simp [h0]
  · right
    have hp : (0 : Int) < 2 ^ m := Int.pow_pos (by decide)
    have : (1 : Int) ≤ a / 2 ^ m := Int.le_ediv_of_mul_le hp (by omega)
    simp
    omega
theorem ok_int {m : Int} : (m = 8 ∨ m = 16) → ∃ n : Nat, m = (n : Int) ∧ Gf.Ok n := by
  rintro (rfl | rfl)
  · exact ⟨8, rfl, .inl rfl⟩
  · exact ⟨16, rfl, .inr rfl⟩
theorem ok_iff {n : Nat} (hn : Gf.Ok n) : ((n : Int) = 8 ∨ (n : Int) = 16) := by rcases hn with rfl | rfl <;> simp
/-- an element of the field -/
def El (m a : Int) : Prop := ∃ n x : Nat, Gf.Ok n ∧ m = n ∧ a = x ∧ x < 2 ^ n
theorem El.mk {n x : Nat} (hn : Gf.Ok n) (hx : x < 2 ^ n) : El n x := ⟨n, x, hn, rfl, rfl, hx⟩
theorem El.range {m a : Int} : El m a → ∃ n : Nat, Gf.Ok n ∧ m = n ∧ 0 ≤ a ∧ a < 2 ^ n := by
  rintro ⟨n, x, hn, rfl, rfl, hx⟩
  exact ⟨n, hn, rfl, by omega, by exact_mod_cast hx⟩
theorem bad_iff {n : Nat} (hn : Gf.Ok n) (a : Int) : badB (n : Int) a = false ↔ El n a := by
  constructor
  · intro h
    by_cases hc : 0 ≤ a ∧ a < 2 ^ n
    · refine ⟨n, a.toNat, hn, rfl, by omega, ?_⟩
      have : ((a.toNat : Nat) : Int) < ((2 ^ n : Nat) : Int) := by rw [Int.toNat_of_nonneg hc.1]; exact_mod_cast hc.2
      exact_mod_cast this
    · rw [bad_yes a hc] at h; cases h
  · rintro ⟨n', x, _, e, rfl, hx⟩
    have : n = n' := by omega
    subst this
    exact bad_not x hx
theorem all_one (m a : Int) : (El m a → field_all.f m [a] = some true) ∧ (¬ El m a → field_all.f m [a] = some false) := by
  unfold field_all.f allF
  by_cases hm : m = 8 ∨ m = 16
  · obtain ⟨n, rfl, hn⟩ := ok_int hm
    have h := bad_iff hn a
    constructor
    · intro he; simp [hm, h.2 he]
    · intro he
      have : badB (n : Int) a = true := by
        cases hb : badB (n : Int) a with
        | true => rfl
        | false => exact absurd (h.1 hb) he
      simp [this]
  · constructor
    · rintro ⟨n, x, hn, rfl, _⟩; exact absurd (ok_iff hn) hm
    · intro _; simp [hm]
theorem all_two (m a b : Int) : (El m a ∧ El m b → field_all.f m [a, b] = some true) ∧ (¬ (El m a ∧ El m b) → field_all.f m [a, b] = some false) := by
  unfold field_all.f allF
  by_cases hm : m = 8 ∨ m = 16
  · obtain ⟨n, rfl, hn⟩ := ok_int hm
    have h := bad_iff hn a
    have h' := bad_iff hn b
    constructor
    · intro he; simp [hm, h.2 he.1, h'.2 he.2]
    · intro he
      cases hb : badB (n : Int) a with
      | true => simp [hb]
      | false =>
        cases hb' : badB (n : Int) b with
        | true => simp [hb']
        | false => exact absurd ⟨h.1 hb, h'.1 hb'⟩ he
  · constructor
    · rintro ⟨⟨n, x, hn, rfl, _⟩, _⟩; exact absurd (ok_iff hn) hm
    · intro _; simp [hm]
/-! ### field.Mul, Inv, Valid -/
theorem Mul_ok {n x y : Nat} (hn : Gf.Ok n) (hx : x < 2 ^ n) (hy : y < 2 ^ n) (k : Nat) (hk : 100 ≤ k) : field_Mul.f k (n : Int) (x : Int) (y : Int) = some ((Gf.mul n x y : Int), 0) := by
  unfold field_Mul.f
  rw [(all_two _ _ _).1 ⟨El.mk hn hx, El.mk hn hy⟩, Option.bind_some, if_pos rfl, product_eq hn hx hy k (by omega), Option.bind_some]
theorem Mul_bad {m a b : Int} (h : ¬ (El m a ∧ El m b)) (k : Nat) : field_Mul.f k m a b = some (0, 1) := by
  unfold field_Mul.f
  rw [(all_two _ _ _).2 h, Option.bind_some, if_neg (by simp)]
theorem Inv_ok {n x : Nat} (hn : Gf.Ok n) (hx : x < 2 ^ n) (h0 : x ≠ 0) (k : Nat) (hk : 100 ≤ k) : field_Inv.f k (n : Int) (x : Int) = some ((Gf.inv n x : Int), 0) := by
  unfold field_Inv.f
  rw [(all_one _ _).1 (El.mk hn hx), Option.bind_some, if_pos rfl, if_neg (by omega), inverse_eq hn hx h0 k (by omega), Option.bind_some]
theorem Inv_zero {n : Nat} (hn : Gf.Ok n) (k : Nat) : field_Inv.f k (n : Int) 0 = some (0, 12) := by
  unfold field_Inv.f
  have h : El (n : Int) 0 := El.mk hn (x := 0) (Nat.two_pow_pos n)
  rw [(all_one _ _).1 h, Option.bind_some, if_pos rfl, if_pos rfl]
theorem Inv_bad {m a : Int} (h : ¬ El m a) (k : Nat) : field_Inv.f k m a = some (0, 1) := by
  unfold field_Inv.f
  rw [(all_one _ _).2 h, Option.bind_some, if_neg (by simp)]
theorem times_ok {n x y : Nat} (hn : Gf.Ok n) (hx : x < 2 ^ n) (hy : y < 2 ^ n) (k : Nat) (hk : 100 ≤ k) : matrix_times.f k (n : Int) (x : Int) (y : Int) = some (Gf.mul n x y : Int) := by
  unfold matrix_times.f
  rw [Mul_ok hn hx hy k hk, Option.bind_some]
end Go.Proofs.YtfigcmmmpndpjaaDoor.H

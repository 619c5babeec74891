/- The variable 'fields' as it is laid, and what field.modulus answers. -/
import Derived.Test.YtgmjaiknboafdaaDoorProg
import Derived.Test.YtgmjaiknboafdaaDoorWMore
import Derived.Below
import Derived.WalkKit
import Derived.KernelRfl
import Derived.RowKit3
import Derived.LoopN
import Derived.Laws.Rows
namespace Go.Proofs.YtgmjaiknboafdaaDoor.H
open Go.RowKit Go.Proofs.YtgmjaiknboafdaaDoorW.PrintWords Go.Proofs.YtgmjaiknboafdaaDoorW.PrintLast Go.Proofs.YtgmjaiknboafdaaDoorW.PrintMore
set_option linter.unusedVariables false
set_option linter.unusedSimpArgs false

/-- the variable 'fields' holds what the program's text lays -/
def FF (w : World) : Prop := ∃ t fr, w.heap[0]? = some (.cells #[.int .i64 8, .int .i64 285, .int .i64 16, .int .i64 69643] t fr)

theorem FF.lt {w : World} (h : FF w) : 0 < w.heap.size := by
  obtain ⟨t, fr, h⟩ := h
  exact (Array.getElem?_eq_some_iff.1 h).1
theorem FF.below {w w' : World} (h : FF w) (hb : Below w.heap.size w w') : FF w' := by
  have hl := h.lt
  obtain ⟨t, fr, h⟩ := h
  exact ⟨t, fr, (hb.block 0 hl).trans h⟩
theorem FF.drewN {w : World} (h : FF w) (n : Nat) : FF (w.drewN n) := h.below (pw_below_drewN (Below.refl _ _) n)
theorem FF.drew {w : World} (h : FF w) : FF w.drew := h.below (below_drew (Below.refl _ _))
theorem FF.alloc {w : World} (h : FF w) (o : Obj) : FF (w.alloc o) := h.below (below_alloc (Below.refl _ _) o)

theorem idx0 (w : World) : (Instr.index 63 (.agg #[.int .i64 8, .int .i64 285, .int .i64 16, .int .i64 69643]) (.int .i64 0)).run Tryd.prog w = .ok (.agg #[.int .i64 8, .int .i64 285]) w := by kernel_rfl
theorem idx1 (w : World) : (Instr.index 63 (.agg #[.int .i64 8, .int .i64 285, .int .i64 16, .int .i64 69643]) (.int .i64 1)).run Tryd.prog w = .ok (.agg #[.int .i64 16, .int .i64 69643]) w := by kernel_rfl

set_option maxRecDepth 100000 in
set_option maxHeartbeats 1000000 in
theorem modulus_8 (w : World) (hf : FF w) : Calls Tryd.prog 40 #[.int .i64 8] w fun e w' => e = .returned (.int .i64 285) ∧ Below w.heap.size w w' := by
  obtain ⟨tt, fr, hg⟩ := hf
  have h0 := idx0
  go_enter Tryd.func40, Tryd.ntmps40
  go_wp2_with (refine wpList_load_row rfl 63 _ rfl 0 rfl tt _ fr _ hg Tryd.underlying63 rfl (by kernel_rfl) ?_)
  refine wp_loop_rounds 3 ?_
  rw [rounds_succ]
  go_wp2
  go_ret
  exact ⟨rfl, (Below.refl _ _).alloc (Nat.le_refl _) _⟩

set_option maxRecDepth 100000 in
set_option maxHeartbeats 1000000 in
theorem modulus_16 (w : World) (hf : FF w) : Calls Tryd.prog 40 #[.int .i64 16] w fun e w' => e = .returned (.int .i64 69643) ∧ Below w.heap.size w w' := by
  obtain ⟨tt, fr, hg⟩ := hf
  have h0 := idx0
  have h1 := idx1
  go_enter Tryd.func40, Tryd.ntmps40
  go_wp2_with (refine wpList_load_row rfl 63 _ rfl 0 rfl tt _ fr _ hg Tryd.underlying63 rfl (by kernel_rfl) ?_)
  refine wp_loop_rounds 3 ?_
  rw [rounds_succ]
  go_wp2
  rw [rounds_succ]
  go_wp2
  go_ret
  exact ⟨rfl, by repeat (first | (with_reducible first | exact Below.refl _ _ | apply below_alloc) | exact Below.refl _ _)⟩

set_option maxRecDepth 100000 in
set_option maxHeartbeats 1000000 in
theorem modulus_no (m : Int) (h8 : ¬ m = 8) (h16 : ¬ m = 16) (w : World) (hf : FF w) : Calls Tryd.prog 40 #[.int .i64 m] w fun e w' => e = .returned (.int .i64 0) ∧ Below w.heap.size w w' := by
  obtain ⟨tt, fr, hg⟩ := hf
  have h0 := idx0
  have h1 := idx1
  have b8 : ((8 : Int) == m) = false := beq_eq_false_iff_ne.mpr (fun e => h8 e.symm)
  have b16 : ((16 : Int) == m) = false := beq_eq_false_iff_ne.mpr (fun e => h16 e.symm)
  clear h8 h16
  go_enter Tryd.func40, Tryd.ntmps40
  go_wp2_with (refine wpList_load_row rfl 63 _ rfl 0 rfl tt _ fr _ hg Tryd.underlying63 rfl (by kernel_rfl) ?_)
  refine wp_loop_rounds 3 ?_
  rw [rounds_succ]
  go_wp2
  rw [rounds_succ]
  go_wp2
  rw [rounds_succ]
  go_wp2
  go_ret
  exact ⟨rfl, by repeat (first | (with_reducible first | exact Below.refl _ _ | apply below_alloc) | exact Below.refl _ _)⟩

/-- what field.modulus answers -/
def field_modulus.f (a0 : Int) : Option Int := if a0 = 8 then some 285 else if a0 = 16 then some 69643 else some 0
theorem field_modulus.calls (a0 : Int) (r : Int) (w : World) (hff : FF w) (h : field_modulus.f a0 = some r) :
    Calls Tryd.prog 40 #[.int .i64 a0] w fun e w' => e = .returned (.int .i64 r) ∧ Below w.heap.size w w' := by
  unfold field_modulus.f at h
  split at h
  · rename_i e; subst e; cases h; exact modulus_8 w hff
  · split at h
    · rename_i e; subst e; cases h; exact modulus_16 w hff
    · cases h; exact modulus_no a0 ‹_› ‹_› w hff
end Go.Proofs.YtgmjaiknboafdaaDoor.H

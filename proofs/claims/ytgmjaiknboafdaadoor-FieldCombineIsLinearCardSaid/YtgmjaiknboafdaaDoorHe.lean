/- What field.every answers for the condition of field.Combine: are all units of one length? -/
import Derived.Test.YtgmjaiknboafdaaDoorHb
namespace Go.Proofs.YtgmjaiknboafdaaDoor.H
open Go.RowKit Go.Proofs.YtgmjaiknboafdaaDoorW.PrintWords Go.Proofs.YtgmjaiknboafdaaDoorW.PrintLast Go.Proofs.YtgmjaiknboafdaaDoorW.PrintMore
set_option linter.unusedVariables false
set_option linter.unusedSimpArgs false

/-- another length than n? -/
def badN (n : Int) (u : ByteArray) : Bool := !((u.size : Int) == n)

set_option maxRecDepth 100000 in
set_option maxHeartbeats 1000000 in
theorem clo33 (n : Int) (u : ByteArray) (b : Addr) (w : World) (hc : w.cell? b = some (.int .i64 n)) : Calls Tryd.prog 33 #[.string u, .pointer (some b)] w fun e w' => e = .returned (.bool ((u.size : Int) == n)) ∧ w = w' := by
  go_enter Tryd.func33, Tryd.ntmps33
  go_wp2
  go_ret
  exact ⟨rfl, rfl⟩

set_option maxRecDepth 100000 in
set_option maxHeartbeats 1000000 in
theorem clo44 (n : Int) (u : ByteArray) (b bf : Addr) (w : World) (hc : w.cell? b = some (.int .i64 n)) (hf : w.cell? bf = some (.func (.func 33) #[] #[.pointer (some b)])) : Calls Tryd.prog 44 #[.string u, .pointer (some bf)] w fun e w' => e = .returned (.bool (badN n u)) ∧ w = w' := by
  have HC := Aside0.mk hc
  clear hc
  go_enter Tryd.func44, Tryd.ntmps44
  go_wp2_with (go_at_call 33; refine (clo33 n u b _ HC.out).mono ?_; rintro e w' ⟨rfl, rfl⟩)
  go_ret
  exact ⟨rfl, rfl⟩

set_option maxRecDepth 100000 in
set_option maxHeartbeats 1000000 in
theorem idx49 (n : Int) (A : Option Addr) (c : Nat) (xs : List ByteArray) (b bf : Addr) (w : World) (hr : Kd.C Kd.string w A xs.length xs) (hc : w.cell? b = some (.int .i64 n)) (hf : w.cell? bf = some (.func (.func 33) #[] #[.pointer (some b)])) :
    Calls Tryd.prog 49 #[.slice A xs.length c, .func (.func 44) #[] #[.pointer (some bf)]] w fun e w' => e = .returned (.int .i64 (idxF (badN n) xs 0)) ∧ w = w' := by
  have hmax := Kd.C_max hr
  have HR := Aside0.mk hr
  have HC := Aside0.mk hc
  have HF := Aside0.mk hf
  clear hr hc hf
  go_enter Tryd.func49, Tryd.ntmps49
  go_wp2
  go_loop [8] (fun t => AtIdx (badN n) xs t) (fun t => xs.length - (intOf t).toNat)
  case atStart => exact ⟨0, Nat.zero_le _, rfl, rfl⟩
  case round =>
    obtain ⟨k, hk, rfl, he⟩ := hrel
    have HE := Aside0.mk he
    clear he
    by_cases hlt : k < xs.length
    · obtain ⟨ad, rfl, hx⟩ := Kd.at_string HR.out (k : Int) (by omega) (by omega)
      have hd := idxF_drop (badN n) xs ByteArray.empty k hlt k
      have HD := Aside0.mk hd
      clear hd
      have hx' : w.cell? (ad.add k) = some (.string (rdOf ByteArray.empty xs k)) := hx
      clear hx
      have erd : xs.getD k ByteArray.empty = rdOf ByteArray.empty xs k := by simp [rdOf]
      rw [erd] at HD
      clear erd
      cases hb : badN n (rdOf ByteArray.empty xs k) with
      | true =>
        go_wp2_with (go_at_call 44; refine (clo44 n _ b bf _ HC.out HF.out).mono ?_; rintro e w' ⟨rfl, rfl⟩)
        go_ret
        exact ⟨ret_int (by rw [HE.out, HD.out, if_pos hb]), rfl⟩
      | false =>
        go_wp2_with (go_at_call 44; refine (clo44 n _ b bf _ HC.out HF.out).mono ?_; rintro e w' ⟨rfl, rfl⟩)
        go_round
        case rel => exact ⟨k + 1, by omega, by go_num, by rw [HE.out, HD.out, if_neg (by simp [hb])]; simp⟩
        case measure => simp [intOf]; omega
    · have hk' : k = xs.length := by omega
      subst hk'
      go_wp2
      go_ret
      exact ⟨ret_int (by rw [HE.out]; simp [idxF]), rfl⟩

set_option maxRecDepth 100000 in
set_option maxHeartbeats 1000000 in
theorem any43 (n : Int) (A : Option Addr) (c : Nat) (xs : List ByteArray) (b bf : Addr) (w : World) (hr : Kd.C Kd.string w A xs.length xs) (hc : w.cell? b = some (.int .i64 n)) (hf : w.cell? bf = some (.func (.func 33) #[] #[.pointer (some b)])) :
    Calls Tryd.prog 43 #[.slice A xs.length c, .func (.func 44) #[] #[.pointer (some bf)]] w fun e w' => e = .returned (.bool (xs.any (badN n))) ∧ w = w' := by
  have HR := Aside0.mk hr
  have HC := Aside0.mk hc
  have HF := Aside0.mk hf
  have HI := Aside0.mk (idxF_any (badN n) xs 0 (by omega))
  clear hr hc hf
  go_enter Tryd.func43, Tryd.ntmps43
  go_wp2_with (go_at_call 49; refine (idx49 n _ _ _ b bf _ HR.out HC.out HF.out).mono ?_; rintro e w' ⟨rfl, rfl⟩)
  go_ret
  exact ⟨ret_bool HI.out, rfl⟩

set_option maxRecDepth 100000 in
set_option maxHeartbeats 1000000 in
theorem every32 (n : Int) (A : Option Addr) (c : Nat) (xs : List ByteArray) (b : Addr) (w : World) (hr : Kd.C Kd.string w A xs.length xs) (hc : w.cell? b = some (.int .i64 n)) :
    Calls Tryd.prog 32 #[.slice A xs.length c, .func (.func 33) #[] #[.pointer (some b)]] w fun e w' => e = .returned (.bool (!xs.any (badN n))) ∧ Below w.heap.size w w' := by
  have HR := Aside0.mk (Kd.C_alloc hr (.cells #[.func (.func 33) #[] #[.pointer (some b)]] 49))
  have HC := Aside0.mk (pw_cell_below (below_alloc (Below.refl _ _) (.cells #[.func (.func 33) #[] #[.pointer (some b)]] 49)) hc)
  have HF := Aside0.mk ((cell_of_row _ _ 0 _ _ _ (heap_alloc_new w (.cells #[.func (.func 33) #[] #[.pointer (some b)]] 49))).trans rfl)
  clear hr hc
  go_enter Tryd.func32, Tryd.ntmps32
  go_wp2_with (go_at_call 43; refine (any43 n _ _ _ b _ _ HR.out HC.out HF.out).mono ?_; rintro e w' ⟨rfl, rfl⟩)
  go_ret
  exact ⟨rfl, below_alloc (Below.refl _ _) _⟩
end Go.Proofs.YtgmjaiknboafdaaDoor.H

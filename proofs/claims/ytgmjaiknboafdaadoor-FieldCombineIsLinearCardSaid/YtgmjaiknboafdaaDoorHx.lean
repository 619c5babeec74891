/- What field.Xor answers. -/
import Derived.Test.YtgmjaiknboafdaaDoorHf
import Derived.Laws.BytesArg
import Derived.RegionTactic
import Derived.BigRegion
namespace Go.Proofs.YtgmjaiknboafdaaDoor.H
open Go.RowKit Go.Proofs.YtgmjaiknboafdaaDoorW.PrintWords Go.Proofs.YtgmjaiknboafdaaDoorW.PrintLast Go.Proofs.YtgmjaiknboafdaaDoorW.PrintMore
set_option linter.unusedVariables false
set_option linter.unusedSimpArgs false

/-- the bytes of a, of which the first k have been turned -/
def xorF (a b : ByteArray) (n : Nat) : Nat → List Int
  | 0 => (List.range n).map fun j : Nat => bt a (j : Int)
  | k + 1 => (xorF a b n k).set k (Go.bits .xor .u8 (rd (xorF a b n k) k) (bt b k))
theorem xorF_len (a b : ByteArray) (n k : Nat) : (xorF a b n k).length = n := by
  induction k with
  | zero => simp [xorF]
  | succ k ih => simp only [xorF, List.length_set, ih]

/-- '[]byte(t)': a new block that holds the bytes, and may be written -/
theorem conv_bytes_w (w : World) (t : ByteArray) : ∃ (cap : Nat) (W1 : World), (convert 9 50 (.string t)).run Tryd.prog w = .ok (.slice (some ⟨w.heap.size, 0, none⟩) t.size cap) W1 ∧
    Below w.heap.size w W1 ∧ (∀ j : Nat, j < t.size → W1.cell? ⟨w.heap.size, j, none⟩ = some (.int .u8 (bt t j))) ∧ (∀ j : Nat, j < t.size → W1.frozen? ⟨w.heap.size, j, none⟩ = false) := by
  refine ⟨_, _, Lib.run_convert_string_bytes (P := Tryd.prog) w 9 50 5 t Tryd.underlying9 Tryd.underlying50 Tryd.underlying5, ?_, ?_, ?_⟩
  · exact ⟨rfl, rfl, rfl, by rw [Lib.bytesWorld_size]; omega, fun i hi => Lib.bytesWorld_at_old _ _ _ _ hi⟩
  · intro j hj
    rw [Lib.bytesWorld_cell _ _ _ _ hj, bt_getD t j hj]
  · intro j hj
    have hs : t.size ≤ (Lib.bytesCells w 5 t).size := by simp [Lib.bytesCells]
    simp [World.frozen?, Lib.bytesWorld_at_new]
    omega

theorem cell_set (w : World) (g : Nat) (n k : Nat) (S : List Int) (hS : S.length = n) (hk : k < n) (x : Int) (h : ∀ j : Nat, j < n → w.cell? ⟨g, j, none⟩ = some (.int .u8 (rd S j))) :
    ∀ j : Nat, j < n → (w.setCell ⟨g, k, none⟩ (.int .u8 x)).cell? ⟨g, j, none⟩ = some (.int .u8 (rd (S.set k x) j)) := by
  intro j hj
  by_cases e : j = k
  · subst e
    rw [World.cell?_setCell_same' _ _ _ (by rw [h j hj]; rfl)]
    simp [rd, hS, hj]
  · rw [World.cell?_setCell_other _ _ _ _ (fun h2 => e (by injection h2 with _ h3; exact h3.symm)), h j hj]
    simp [rd, List.getElem?_set, Ne.symm e]

set_option maxRecDepth 100000 in
set_option maxHeartbeats 2000000 in
theorem xor_ne (a b : ByteArray) (w : World) (h : ¬ a.size = b.size) : Calls Tryd.prog 14 #[.string a, .string b] w fun e w' => e = .returned (.tuple #[.string ⟨#[]⟩, .int .i64 1]) ∧ Below w.heap.size w w' := by
  have h0 : ((a.size : Int) != (b.size : Int)) = true := by simp; omega
  clear h
  go_enter Tryd.func14, Tryd.ntmps14
  go_wp2
  go_ret2
  exact ⟨rfl, Below.refl _ _⟩

set_option maxRecDepth 100000 in
set_option maxHeartbeats 4000000 in
theorem xor_eq (a b : ByteArray) (w : World) (h : a.size = b.size) (hm : a.size ≤ 9223372036854775807) : Calls Tryd.prog 14 #[.string a, .string b] w fun e w' => e = .returned (.tuple #[.string (strOfNums (xorF a b a.size a.size)), .int .i64 0]) ∧ Below w.heap.size w w' := by
  have h0 : ((a.size : Int) != (b.size : Int)) = false := by simp; omega
  obtain ⟨cap, W1, hcv, hg, hcell, hfz⟩ := conv_bytes_w w a
  have HB1 := Aside0.mk hg
  have HC1 := Aside0.mk (show ∀ j : Nat, j < a.size → W1.cell? ⟨w.heap.size, j, none⟩ = some (.int .u8 (rd (xorF a b a.size 0) j)) from fun j hj => by
    rw [hcell j hj]; simp [xorF, rd, hj])
  have HZ1 := Aside0.mk hfz
  have HS := Aside0.mk h
  clear hg hcell hfz h
  go_enter Tryd.func14, Tryd.ntmps14
  go_wp2
  go_loopw [17] (fun i wr => ∃ k : Nat, k ≤ a.size ∧ i = .int .i64 k ∧ Aside0 (Below w.heap.size w wr) ∧ Aside0 (∀ j : Nat, j < a.size → wr.cell? ⟨w.heap.size, j, none⟩ = some (.int .u8 (rd (xorF a b a.size k) j))) ∧ Aside0 (∀ j : Nat, j < a.size → wr.frozen? ⟨w.heap.size, j, none⟩ = false)) (fun i _ => a.size - (intOf i).toNat)
  case atStart => exact ⟨0, Nat.zero_le _, rfl, HB1, HC1, HZ1⟩
  case round =>
    obtain ⟨k, hk, rfl, HBr, HCr, HZr⟩ := hrel
    by_cases hlt : k < a.size
    · have hc := HCr.out k hlt
      have hz := HZr.out k hlt
      have hlb : k < b.size := by have := HS.out; omega
      have hbt := bt_at b (k : Int)
      go_wp2
      go_region
      go_wp2
      go_roundw
      case rel =>
        have e : ((b[k].toNat : Nat) : Int) = bt b (k : Int) := by simp [bt, hlb]
        refine ⟨k + 1, by omega, by go_num, ⟨below_drew (HBr.out.setCell (by exact Nat.le_refl _) _)⟩, ⟨fun j hj => ?_⟩, ⟨fun j hj => ?_⟩⟩
        · have := cell_set wr w.heap.size a.size k (xorF a b a.size k) (xorF_len _ _ _ _) hlt (Go.bits .xor .u8 (rd (xorF a b a.size k) k) (bt b k)) HCr.out j hj
          rw [← e] at this
          simp only [xorF]
          rw [← e]
          exact this
        · have := HZr.out j hj
          simpa using this
      case measure => simp [intOf]; omega
    · obtain rfl : k = a.size := by omega
      have hcv := run_convert_bytes_arg (P := Tryd.prog) wr 50 5 Tryd.underlying50 Tryd.underlying5 w.heap.size 0 a.size cap (xorF a b a.size a.size) (xorF_len _ _ _ _)
        (fun i hi => by rw [Nat.zero_add, HCr.out i hi]; simp [rd]) 9 Tryd.underlying9
      go_wp2
      go_ret2
      exact ⟨rfl, HBr.out⟩

def field_Xor.f (a b : ByteArray) : Option (ByteArray × Int) :=
  if a.size = b.size then (if a.size ≤ 9223372036854775807 then some (strOfNums (xorF a b a.size a.size), 0) else none) else some (⟨#[]⟩, 1)
theorem field_Xor.calls (a0 a1 : ByteArray) (r1 : ByteArray) (r2 : Int) (w : World) (h : field_Xor.f a0 a1 = some (r1, r2)) :
    Calls Tryd.prog 14 #[.string a0, .string a1] w fun e w' => e = .returned (.tuple #[.string r1, .int .i64 r2]) ∧ Below w.heap.size w w' := by
  unfold field_Xor.f at h
  split at h
  · split at h
    · cases h; exact xor_eq a0 a1 w ‹_› ‹_›
    · cases h
  · cases h; exact xor_ne a0 a1 w ‹_›
end Go.Proofs.YtgmjaiknboafdaaDoor.H

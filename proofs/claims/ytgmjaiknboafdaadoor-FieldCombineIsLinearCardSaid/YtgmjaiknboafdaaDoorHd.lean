/- What field.Combine and field.Xor answer: plain functions, and that the calls do so. -/
import Derived.Test.YtgmjaiknboafdaaDoorHg
namespace Go.Proofs.YtgmjaiknboafdaaDoor.H
open Go.RowKit Go.Proofs.YtgmjaiknboafdaaDoorW.PrintWords Go.Proofs.YtgmjaiknboafdaaDoorW.PrintLast Go.Proofs.YtgmjaiknboafdaaDoorW.PrintMore
set_option linter.unusedVariables false
set_option linter.unusedSimpArgs false

def field_Combine.f (m : Int) (l1 : List Int) (l2 : List ByteArray) : Option (ByteArray × Int) :=
  if badL m l1 l2 = true then some (⟨#[]⟩, 1)
  else if m = 16 ∧ (rdOf ByteArray.empty l2 0).size % 2 = 1 then some (⟨#[]⟩, 1)
  else if l2.any (badN (rdOf ByteArray.empty l2 0).size) = true then some (⟨#[]⟩, 1)
  else if (rdOf ByteArray.empty l2 0).size ≤ 140737488355328 then some (strOfNums (sumF m l1 l2 (rdOf ByteArray.empty l2 0).size l1.length), 0)
  else none

theorem field_Combine.calls (a0 : Int) (A1 : Option Addr) (c1 : Nat) (l1 : List Int) (A2 : Option Addr) (c2 : Nat) (l2 : List ByteArray) (r1 : ByteArray) (r2 : Int) (w : World) (hff : FF w) (hr1 : Kd.C (Kd.int .i64) w A1 l1.length l1) (_hc1 : l1.length ≤ c1) (hr2 : Kd.C Kd.string w A2 l2.length l2) (_hc2 : l2.length ≤ c2) (h : field_Combine.f a0 l1 l2 = some (r1, r2)) :
    Calls Tryd.prog 10 #[.int .i64 a0, .slice A1 l1.length c1, .slice A2 l2.length c2] w fun e w' => e = .returned (.tuple #[.string r1, .int .i64 r2]) ∧ Below w.heap.size w w' := by
  unfold field_Combine.f at h
  by_cases hb : badL a0 l1 l2 = true
  · rw [if_pos hb] at h
    cases h
    exact comb_bad a0 A1 c1 l1 A2 c2 l2 w hff hr1 hr2 hb
  · rw [if_neg hb] at h
    have hb' : allF a0 l1 = true ∧ 0 < l1.length ∧ l1.length = l2.length := by
      unfold badL at hb
      simp only [Bool.or_eq_true, Bool.not_eq_true', beq_iff_eq, bne_iff_ne, not_or, Bool.not_eq_false, ne_eq, Decidable.not_not] at hb
      exact ⟨hb.1.1, by omega, hb.2⟩
    obtain ⟨h1, h2, h3⟩ := hb'
    have hm : a0 = 8 ∨ a0 = 16 := by
      unfold allF at h1
      rw [Bool.and_eq_true] at h1
      exact of_decide_eq_true h1.1
    by_cases hodd : a0 = 16 ∧ (rdOf ByteArray.empty l2 0).size % 2 = 1
    · rw [if_pos hodd] at h
      cases h
      obtain ⟨rfl, ho⟩ := hodd
      exact comb_odd_16 A1 c1 l1 A2 c2 l2 w hff hr1 hr2 h1 h2 h3 _ rfl ho
    · rw [if_neg hodd] at h
      by_cases hlen : l2.any (badN (rdOf ByteArray.empty l2 0).size) = true
      · rw [if_pos hlen] at h
        cases h
        rcases hm with rfl | rfl
        · exact comb_len_8 A1 c1 l1 A2 c2 l2 w hff hr1 hr2 h1 h2 h3 _ rfl (Nat.mod_one _) hlen
        · exact comb_len_16 A1 c1 l1 A2 c2 l2 w hff hr1 hr2 h1 h2 h3 _ rfl (by have : ¬ (rdOf ByteArray.empty l2 0).size % 2 = 1 := fun e => hodd ⟨rfl, e⟩; omega) hlen
      · rw [if_neg hlen] at h
        split at h
        · rename_i hsz
          cases h
          have hlen' : l2.any (badN (rdOf ByteArray.empty l2 0).size) = false := by simpa using hlen
          rcases hm with rfl | rfl
          · exact comb_8 A1 c1 l1 A2 c2 l2 w hff hr1 hr2 h1 h2 h3 _ rfl hsz (Nat.mod_one _) hlen'
          · exact comb_16 A1 c1 l1 A2 c2 l2 w hff hr1 hr2 h1 h2 h3 _ rfl hsz (by have : ¬ (rdOf ByteArray.empty l2 0).size % 2 = 1 := fun e => hodd ⟨rfl, e⟩; omega) hlen'
        · cases h
end Go.Proofs.YtgmjaiknboafdaaDoor.H

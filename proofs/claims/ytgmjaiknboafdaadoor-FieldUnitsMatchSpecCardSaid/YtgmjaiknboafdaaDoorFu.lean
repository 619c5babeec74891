/- The law of the units, plain. -/
import Derived.Test.YtgmjaiknboafdaaDoorFv
import Derived.Test.YtgmjaiknboafdaaDoorQ1
namespace Go.Proofs.YtgmjaiknboafdaaDoor.H
open Go.RowKit Go.Proofs.YtgmjaiknboafdaaDoorW.PrintWords Go.Proofs.YtgmjaiknboafdaaDoorW.PrintLast Go.Proofs.YtgmjaiknboafdaaDoorW.PrintMore Go.Proofs.YtgmjaiknboafdaaDoor.P
set_option linter.unusedVariables false
/-! ### the law of the units -/
theorem units_loop1 (m c : Int) (l1 : List Int) (l2 : List ByteArray) (o : ByteArray) (hb : ∀ j : Nat, (rdOf ByteArray.empty l2 (j : Int)).size ≤ 100000) (hl : l2.length ≤ 10) (d : Nat) : ∀ (k i : Nat), l2.length = i + d → d + 300000 < k →
    Q.solventlaw05_FieldUnitsMatchSpec.l1 k true (i : Int) m c l1 l2 o = some true := by
  induction d with
  | zero =>
    intro k i hi hk
    obtain ⟨k, rfl⟩ : ∃ q, k = q + 1 := ⟨k - 1, by omega⟩
    simp only [Q.solventlaw05_FieldUnitsMatchSpec.l1]
    rw [if_neg (by omega)]
  | succ d ih =>
    intro k i hi hk
    obtain ⟨k, rfl⟩ : ∃ q, k = q + 1 := ⟨k - 1, by omega⟩
    obtain ⟨r1, a1, b1⟩ := scale_same m c (rdOf ByteArray.empty l2 (i : Int)) (hb i) k (by omega)
    obtain ⟨r2, a2, b2⟩ := xor_same (rdOf ByteArray.empty l2 (i : Int)) o (hb i) k (by omega)
    have p0 : (i : Int) < (l2.length : Int) := by omega
    have p1 : (0 : Int) ≤ (i : Int) := by omega
    have e1 : wrap64 ((i : Int) + 1) = ((i + 1 : Nat) : Int) := by rw [w64 (by omega) (by omega)]; omega
    simp only [Q.solventlaw05_FieldUnitsMatchSpec.l1]
    rw [if_pos p0, if_pos p1, a1, Option.bind_some, b1, Option.bind_some, a2, Option.bind_some, b2, Option.bind_some, if_pos rfl, if_pos rfl, if_pos rfl, if_pos rfl, e1]
    exact ih k (i + 1) (by omega) (by omega)

theorem units_loop0 (m c : Int) (l1 : List Int) (l2 : List ByteArray) (o : ByteArray) (hl : l2.length ≤ 10) (hl1 : l1.length ≤ 10) (d : Nat) : ∀ (k i : Nat), l2.length = i + d → d + 300050 < k → (∀ j : Nat, j < i → (rdOf ByteArray.empty l2 (j : Int)).size ≤ 200) →
    Q.solventlaw05_FieldUnitsMatchSpec.l0 k true (i : Int) m c l1 l2 o = some true := by
  induction d with
  | zero =>
    intro k i hi hk hpre
    obtain ⟨k, rfl⟩ : ∃ q, k = q + 2 := ⟨k - 2, by omega⟩
    have hb : ∀ j : Nat, (rdOf ByteArray.empty l2 (j : Int)).size ≤ 100000 := fun j => by
      by_cases hj : j < i
      · have := hpre j hj; omega
      · have : rdOf ByteArray.empty l2 (j : Int) = ByteArray.empty := by simp [rdOf, List.getElem?_eq_none (show l2.length ≤ j by omega)]
        rw [this]
        decide
    obtain ⟨r, a1, b1⟩ := combine_same m l1 l2 (by omega) hb (k + 1) (by omega)
    have hx : (r.2 != r.2) = false := by simp
    simp only [Q.solventlaw05_FieldUnitsMatchSpec.l0]
    rw [if_neg (by omega), a1, Option.bind_some, b1, Option.bind_some, if_pos rfl, hx]
    simp only [Q.solventlaw05_FieldUnitsMatchSpec.j2]
    rw [if_neg (by decide)]
    exact units_loop1 m c l1 l2 o hb hl l2.length k 0 (by omega) (by omega)
  | succ d ih =>
    intro k i hi hk hpre
    obtain ⟨k, rfl⟩ : ∃ q, k = q + 1 := ⟨k - 1, by omega⟩
    have p0 : (i : Int) < (l2.length : Int) := by omega
    have p1 : (0 : Int) ≤ (i : Int) := by omega
    have e1 : wrap64 ((i : Int) + 1) = ((i + 1 : Nat) : Int) := by rw [w64 (by omega) (by omega)]; omega
    simp only [Q.solventlaw05_FieldUnitsMatchSpec.l0]
    rw [if_pos p0, if_pos p1, e1]
    by_cases h : ((rdOf ByteArray.empty l2 (i : Int)).size : Int) > 200
    · rw [if_pos h]
    · rw [if_neg h]
      exact ih k (i + 1) (by omega) (by omega) (fun j hj => by
        by_cases e : j = i
        · subst e; omega
        · exact hpre j (by omega))

theorem units_pure (m c : Int) (l1 : List Int) (l2 : List ByteArray) (o : ByteArray) : ∃ k, Q.solventlaw05_FieldUnitsMatchSpec.f k m c l1 l2 o = some true := by
  obtain ⟨k, hk⟩ : ∃ k : Nat, k = 400000 := ⟨_, rfl⟩
  refine ⟨k + 1, ?_⟩
  unfold Q.solventlaw05_FieldUnitsMatchSpec.f
  rw [sanity_ok (k + 1) (by omega), Option.bind_some]
  simp only [Q.solventlaw05_FieldUnitsMatchSpec.j0]
  by_cases h1 : (l2.length : Int) > 10
  · rw [if_pos h1, if_pos trivial]
  · rw [if_neg h1]
    by_cases h2 : (l1.length : Int) > 10
    · rw [if_pos h2, if_pos trivial]
    · rw [if_neg h2]
      by_cases h3 : (o.size : Int) > 200
      · rw [if_pos (by simp; omega)]
      · rw [if_neg (by simp; omega)]
        exact units_loop0 m c l1 l2 o (by omega) (by omega) l2.length k 0 (by omega) (by omega) (fun j hj => by omega)
end Go.Proofs.YtgmjaiknboafdaaDoor.H

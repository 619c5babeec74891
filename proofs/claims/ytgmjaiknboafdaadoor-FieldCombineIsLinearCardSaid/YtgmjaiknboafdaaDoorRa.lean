/- The listed variable: what its reading says of memory; a world that meets it. -/
import Derived.Test.YtgmjaiknboafdaaDoorRows
import Derived.Test.YtgmjaiknboafdaaDoorHa
import Derived.ProofKit
import Derived.OpenShut
import Derived.ShutString
import Derived.ChangeOld
import Derived.SizedLaws
import Derived.SevenTiedAt
namespace Go.Proofs.YtgmjaiknboafdaaDoor.R
open Go.ChangeShapes Go.WideShapes Go.ChangeAt Go.RowKit
set_option linter.unusedVariables false

theorem own : ownKnob Tryd.prog.godebug = none := by kernel_rfl
theorem gv : Tryd.prog.globalNamed "solvent/field.fields" = some 0 := by kernel_rfl
theorem gvType : (Tryd.prog.globals[0]?).map (·.type) = some 63 := by kernel_rfl
theorem cells63 : Tryd.prog.cellsOf 63 = 4 := by kernel_rfl
theorem cells62 : Tryd.prog.cellsOf 62 = 2 := by kernel_rfl
theorem cells3 : Tryd.prog.cellsOf 3 = 1 := by kernel_rfl
def cells4 : Array Value := #[.int .i64 8, .int .i64 285, .int .i64 16, .int .i64 69643]

theorem int_of_trod {H : Type} {enc : TypeId × Value → H} {P : Program} {w : World} {base : Nat} {sp : Nat → Bool} {held : Bool} {fuel : Nat} {t : TypeId} {k : IntKind} {c : Value} {y : DataW H × List MemPlace}
    (ht : P.underlying t = some (.int k)) (h : DataW.trod enc P w base sp held fuel t [c] = some y) : ∃ n, c = .int k n ∧ y = (.lit (.int k n), []) := by
  cases fuel with
  | zero => simp [DataW.trod] at h
  | succ fuel =>
    cases c <;> simp [DataW.trod, ht] at h
    rename_i k' n
    obtain ⟨⟨rfl, _⟩, rfl⟩ := h
    exact ⟨n, rfl, rfl⟩

theorem pair_of_trod {H : Type} {enc : TypeId × Value → H} {w : World} {base : Nat} {sp : Nat → Bool} {held : Bool} {fuel : Nat} {c0 c1 : Value} {y : DataW H × List MemPlace}
    (h : DataW.trod enc Tryd.prog w base sp held fuel 62 [c0, c1] = some y) : ∃ n m, c0 = .int .i64 n ∧ c1 = .int .i64 m ∧ y.1 = .agg [.lit (.int .i64 n), .lit (.int .i64 m)] := by
  cases fuel with
  | zero => simp [DataW.trod] at h
  | succ fuel =>
    simp [DataW.trod, Tryd.underlying62, cells62, cells3] at h
    cases h0 : DataW.trod enc Tryd.prog w base sp held fuel 3 [c0] with
    | none => simp [h0] at h
    | some y0 =>
      cases h1 : DataW.trod enc Tryd.prog w base sp held fuel 3 [c1] with
      | none => simp [h0, h1] at h
      | some y1 =>
        simp [h0, h1] at h
        obtain ⟨n, rfl, rfl⟩ := int_of_trod Tryd.underlying3 h0
        obtain ⟨m, rfl, rfl⟩ := int_of_trod Tryd.underlying3 h1
        exact ⟨n, m, rfl, rfl, by rw [← h]⟩

theorem cells_of_laid {W : World} (h : laidMet Tryd.prog [("solvent/field.fields", Rows.laid_solvent_field_fields)] W) : W.var? Tryd.prog "solvent/field.fields" = some cells4 := by
  obtain ⟨ps, ⟨g, t, cs, fuel, p, q, hg, ht, hvar, hd, _, _⟩, _⟩ := h
  obtain rfl := Option.some.inj (gv.symm.trans hg)
  obtain rfl := Option.some.inj (gvType.symm.trans ht)
  rw [hvar]
  congr 1
  obtain ⟨l⟩ := cs
  cases fuel with
  | zero => simp [DataW.trod] at hd
  | succ fuel =>
    simp only [DataW.trod, Tryd.underlying63, cells63, cells62] at hd
    split at hd
    · rename_i hl
      obtain ⟨c0, c1, c2, c3, rfl⟩ : ∃ c0 c1 c2 c3, l = [c0, c1, c2, c3] := by
        match l, hl with
        | [a, b, c, d], _ => exact ⟨a, b, c, d, rfl⟩
      have e : List.range 2 = [0, 1] := rfl
      rw [e] at hd
      simp only [Option.map_eq_some_iff, List.mapM_cons, List.mapM_nil, Option.bind_eq_bind, Option.bind_eq_some_iff, Option.pure_def, Option.some.injEq] at hd
      obtain ⟨xs, ⟨y0, h0, _, ⟨y1, h1, _, rfl, rfl⟩, rfl⟩, hx⟩ := hd
      obtain ⟨n0, m0, rfl, rfl, e0⟩ := pair_of_trod h0
      obtain ⟨n1, m1, rfl, rfl, e1⟩ := pair_of_trod h1
      simp [Rows.laid_solvent_field_fields, e0, e1] at hx
      obtain ⟨⟨⟨rfl, rfl⟩, rfl, rfl⟩, _⟩ := hx
      rfl
    · cases hd

/-- what a walk asks of memory -/
theorem ff_of_laid {W : World} (h : laidMet Tryd.prog [("solvent/field.fields", Rows.laid_solvent_field_fields)] W) : H.FF W := by
  have hv := cells_of_laid h
  unfold World.var? at hv
  rw [gv] at hv
  simp only [Option.bind_some] at hv
  cases hh : W.heap[0]? with
  | none => simp [hh] at hv
  | some o =>
    cases o <;> simp [hh] at hv
    rename_i cs t fr
    subst hv
    exact ⟨t, fr, hh⟩

noncomputable def laidWorld (os : Os) : World :=
  { World.holding Tryd.prog os ⟨#[], #[], []⟩ with heap := (World.holding Tryd.prog os ⟨#[], #[], []⟩).heap.modify 0 fun
      | .cells _ t frozen => .cells cells4 t frozen
      | o => o }

theorem laidWorld_row (os : Os) (args : Array Value) : ((laidWorld os).forCall (fun _ _ => 0) ⟨#[], args, []⟩).memory.heap[0]? = some (.cells cells4 63 (0, 0)) := by kernel_rfl

theorem laidWorld_met (os : Os) (args : Array Value) : laidMet Tryd.prog [("solvent/field.fields", Rows.laid_solvent_field_fields)] ((laidWorld os).forCall (fun _ _ => 0) ⟨#[], args, []⟩).memory :=
  ⟨_, ⟨0, 63, cells4, 8, [], [], by kernel_rfl, by kernel_rfl, by kernel_rfl, by kernel_rfl, rfl, rfl⟩, by decide, fun b off h => by
    have h' : MemPlace.cell b off ∈ [MemPlace.cell 0 0, .cell 0 1, .cell 0 2, .cell 0 3] := h
    have hb : b = 0 := by
      simp at h'
      omega
    subst hb
    refine ⟨⟨_, _, laidWorld_row os args⟩, fun u v hc => ?_⟩
    simp only [World.cell?, laidWorld_row os] at hc
    simp at h'
    rcases h' with rfl | rfl | rfl | rfl <;> simp [cells4] at hc⟩
end Go.Proofs.YtgmjaiknboafdaaDoor.R

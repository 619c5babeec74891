/- LawMatrixSolves. -/
import Derived.Test.YtfigcmmmpndpjaaDoorUg
import Derived.Test.YtfigcmmmpndpjaaDoorJc
import Derived.Test.YtfigcmmmpndpjaaDoorCards
import Derived.Test.YtfigcmmmpndpjaaDoorTie
import Derived.ProofKit
import Derived.OpenShut
/- For every two matrices the package's solution or error is the specification's; a solution times the first matrix is the second one; and where there is none, the rank of the first matrix grows with the columns of the second one. -/
namespace Go.Proofs.YtfigcmmmpndpjaaDoor.matrixSolves
open Go.ChangeShapes Go.WideShapes Go.ChangeAt Go.RowKit Go.Proofs.YtfigcmmmpndpjaaDoorW.PrintWords Go.Proofs.YtfigcmmmpndpjaaDoorW.PrintLast Go.Proofs.YtfigcmmmpndpjaaDoorW.PrintMore
set_option linter.unusedVariables false
theorem walk (a0_0 a0_1 a0_2 : Int) (A0 : Option Addr) (c0 : Nat) (l0 : List Int) (a1_0 a1_1 a1_2 : Int) (A1 : Option Addr) (c1 : Nat) (l1 : List Int) (w0 : (Lit.int .i64 a0_0).wf = true ∧ (Lit.int .i64 a0_1).wf = true ∧ (Lit.int .i64 a0_2).wf = true ∧ ∀ n ∈ l0, (Lit.int .i64 n).wf = true) (w1 : (Lit.int .i64 a1_0).wf = true ∧ (Lit.int .i64 a1_1).wf = true ∧ (Lit.int .i64 a1_2).wf = true ∧ ∀ n ∈ l1, (Lit.int .i64 n).wf = true) (w : World) (hff : H.FF w) (r0 : Kd.C (Kd.int .i64) w A0 l0.length l0) (m0 : l0.length ≤ c0) (r1 : Kd.C (Kd.int .i64) w A1 l1.length l1) (m1 : l1.length ≤ c1) :
    Calls Tryd.prog 4 #[.agg #[.int .i64 a0_0, .int .i64 a0_1, .int .i64 a0_2, .slice A0 l0.length c0], .agg #[.int .i64 a1_0, .int .i64 a1_1, .int .i64 a1_2, .slice A1 l1.length c1]] w fun e w' => e = .returned (.bool true) ∧ Below w.heap.size w w' := by
  exact H.solves_calls a0_0 a0_1 a0_2 A0 c0 l0 a1_0 a1_1 a1_2 A1 c1 l1 w hff r0 m0 r1 m1
set_option maxRecDepth 100000 in
theorem lifted (os : Os) (started : os.Started) (H : Type) (enc : TypeId × Value → H) :
    ReturnsInHanded {} Tryd.checked os 4 .any (fun w args => (Rows.matrixSolvesSpec.pre enc Tryd.prog Tryd.f4 [] false w args ∧ laidMet Tryd.prog [("solvent/field.fields", Rows.laid_solvent_field_fields)] w) ∧ sizedMet enc Tryd.prog Tryd.f4 (OpenSpec.ofChange Rows.matrixSolvesSpec) false w args)
      (Rows.matrixSolvesSpec.post enc Tryd.prog Tryd.f4 false true false false) := by
  refine returnsInHanded_of_change_and (C := Tryd.checked) (X := fun w _ => laidMet Tryd.prog [("solvent/field.fields", Rows.laid_solvent_field_fields)] w) (fun _ _ _ hh h => h.of_heap hh) R.own started (by kernel_rfl) Tryd.func4
    (ChangeSpec.witness_at (enc := enc) (C := Tryd.checked) (os := os) (X := fun w _ => laidMet Tryd.prog [("solvent/field.fields", Rows.laid_solvent_field_fields)] w) false (R.laidWorld os) #[.agg #[.int .i64 0, .int .i64 0, .int .i64 0, .slice none 0 0], .agg #[.int .i64 0, .int .i64 0, .int .i64 0, .slice none 0 0]] 8 rfl (by kernel_rfl) (by kernel_rfl) (by kernel_rfl) (by kernel_rfl) (by kernel_rfl) (R.laidWorld_met os _)) ?_
  intro W base args ds gs before hval0 hW _ _ hL _
  have hval : ∀ (j : Nat) t v, Tryd.f4.params[j]? = some t → args[j]? = some v → Value.okWide Tryd.prog W .any base t v := hval0
  have hW' := hW
  obtain ⟨p, q, hA0, hV, rfl, hfz, hnd⟩ := hW
  have hA : DataW.TrodAll enc Tryd.prog W 0 (fun _ => true) true Tryd.f4.params.toList args.toList ds p := hA0
  rw [Tryd.params4] at hA hval
  obtain ⟨v0, vs0, d0, ds0, p0, q0, hargs, rfl, rfl, h0, r0_⟩ := trodAll_cons hA
  obtain ⟨v1, vs1, d1, ds1, p1, q1, rfl, rfl, rfl, h1, r1_⟩ := trodAll_cons r0_
  obtain ⟨rfl, rfl, rfl⟩ := trodAll_nil r1_
  obtain rfl : args = #[v0, v1] := by cases args; simp_all
  obtain ⟨rfl, rfl⟩ := trodVars_none hV
  have k0 := h0
  have lt0 : ∀ x ∈ p0, x.block < W.heap.size := by obtain ⟨m, hm⟩ := k0; exact DataW.trod_lt m _ _ _ hm
  have k1 := h1
  have lt1 : ∀ x ∈ p1, x.block < W.heap.size := by obtain ⟨m, hm⟩ := k1; exact DataW.trod_lt m _ _ _ hm
  obtain ⟨a0_0, a0_1, a0_2, A0, c0, l0, e0, r0, m0, w0⟩ := R.open_mat (hval 0 24 v0 rfl rfl) h0
  obtain ⟨a1_0, a1_1, a1_2, A1, c1, l1, e1, r1, m1, w1⟩ := R.open_mat (hval 1 24 v1 rfl rfl) h1
  clear hA0 hval0
  subst e0 e1
  simp only [List.append_nil] at hW'
  refine (walk a0_0 a0_1 a0_2 A0 c0 l0 a1_0 a1_1 a1_2 A1 c1 l1 w0 w1 W (R.ff_of_laid hL) r0 m0 r1 m1).mono fun e W' ⟨he, bel⟩ => ?_
  subst he
  exact ⟨_, rfl, _, _, _, [], _, [], hW', trodAll_mk1 (shut_bool Tryd.underlying4 _), (trodAll_cons_mk (Below.trod R.laidOut (by kernel_rfl) (of_decide_eq_true (by kernel_rfl)) k0 bel lt0) (trodAll_cons_mk (Below.trod R.laidOut (by kernel_rfl) (of_decide_eq_true (by kernel_rfl)) k1 bel lt1) trodAll_mk0)), rfl, bel.frame _, fun h => by cases h⟩
theorem over : Rows.MatrixSolvesSaid :=
  OpenClaim.holds_of_wide 4 Tryd.f4 rfl rfl rfl rfl rfl rfl rfl ⟨rfl, rfl, rfl, rfl, rfl⟩ rfl rfl rfl rfl rfl (by kernel_rfl) Tryd.func4 (by kernel_rfl)
    (of_decide_eq_true (by kernel_rfl)) (by unfold Func.isWrapper; first | (rw [if_pos (by decide +kernel)]; kernel_rfl) | (rw [if_neg (by decide +kernel)]; exact ⟨rfl, rfl⟩))
    (fun os started H enc _ => lifted os started H enc)
theorem card : Rows.MatrixSolvesCardSaid :=
  Claim7.holds_tied_plain_at .later [] [.data] true (true, "1486fbd8b15a82cd16e93e51ea9cfa35ff01b582f48d9bc790506c16310cbaa3") false
    over (fun _ h => by cases h) (by kernel_rfl) (fun _ h => by cases h) matrixSolves_row_tie rfl ⟨rfl, rfl⟩ (by kernel_rfl) rfl
    (fun f fn hf hfn => by
      obtain rfl : f = 4 := Option.some.inj ((show Tryd.prog.funcNamed "solvent/solventlaw06.MatrixSolves" = some 4 by kernel_rfl).symm.trans hf) |>.symm
      obtain rfl : fn = Tryd.f4 := (Option.some.inj (Tryd.func4.symm.trans hfn)).symm
      exact ⟨by kernel_rfl, fun j t ht => by
        rw [Tryd.params4] at ht
        have h3 : t = 24 := by
          have : t ∈ ([24, 24] : List Nat) := List.mem_of_getElem? (by simpa using ht)
          simpa using this
        subst h3
        exact (show Tryd.prog.wantsStandIn 24 = false by kernel_rfl)⟩)
    (by kernel_rfl)
end Go.Proofs.YtfigcmmmpndpjaaDoor.matrixSolves
namespace Go.Proofs.YtfigcmmmpndpjaaDoor
/-- The card, under a short name, for the claim. -/
theorem matrixSolves_card : Rows.MatrixSolvesCardSaid := matrixSolves.card
#print axioms matrixSolves_card
end Go.Proofs.YtfigcmmmpndpjaaDoor

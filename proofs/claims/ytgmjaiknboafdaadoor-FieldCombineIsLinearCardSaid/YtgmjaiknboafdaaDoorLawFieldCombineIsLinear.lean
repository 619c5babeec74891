/- Combining units is linear: the row, and the tied card. -/
import Derived.Test.YtgmjaiknboafdaaDoorRb
import Derived.Test.YtgmjaiknboafdaaDoorQ3
import Derived.Test.YtgmjaiknboafdaaDoorFx
import Derived.Test.YtgmjaiknboafdaaDoorCards
import Derived.Test.YtgmjaiknboafdaaDoorTie
import Derived.ProofKit
import Derived.OpenShut
namespace Go.Proofs.YtgmjaiknboafdaaDoor.fieldCombineIsLinear
open Go.ChangeShapes Go.WideShapes Go.ChangeAt Go.RowKit Go.Proofs.YtgmjaiknboafdaaDoorW.PrintWords Go.Proofs.YtgmjaiknboafdaaDoorW.PrintLast Go.Proofs.YtgmjaiknboafdaaDoorW.PrintMore
set_option linter.unusedVariables false

theorem walk (a0 : Bool) (a1 : Int) (A2 : Option Addr) (c2 : Nat) (l2 : List Int) (A3 : Option Addr) (c3 : Nat) (l3 : List ByteArray) (A4 : Option Addr) (c4 : Nat) (l4 : List ByteArray) (a5 : Int) (w1 : (Lit.int .u16 a1).wf = true) (w2 : ∀ n ∈ l2, (Lit.int .u16 n).wf = true) (w5 : (Lit.int .i64 a5).wf = true) (w : World) (hff : H.FF w) (r2 : Kd.C (Kd.int .u16) w A2 l2.length l2) (m2 : l2.length ≤ c2) (r3 : Kd.C Kd.string w A3 l3.length l3) (m3 : l3.length ≤ c3) (r4 : Kd.C Kd.string w A4 l4.length l4) (m4 : l4.length ≤ c4) :
    Calls Tryd.prog 4 #[.agg #[.bool a0, .int .u16 a1, .slice A2 l2.length c2, .slice A3 l3.length c3, .slice A4 l4.length c4, .int .i64 a5]] w fun e w' => e = .returned (.bool true) ∧ Below w.heap.size w w' := by
  obtain ⟨k, h⟩ := H.linear_pure a0 a1 l2 l3 l4 a5 w1 w2 w5
  exact Q.solventlaw05_FieldCombineIsLinear.calls k a0 a1 A2 c2 l2 A3 c3 l3 A4 c4 l4 a5 true w hff r2 m2 r3 m3 r4 m4 h

set_option maxRecDepth 100000 in
theorem lifted (os : Os) (started : os.Started) (H : Type) (enc : TypeId × Value → H) :
    ReturnsInHanded {} Tryd.checked os 4 .any (fun w args => (Rows.fieldCombineIsLinearSpec.pre enc Tryd.prog Tryd.f4 [] false w args ∧ laidMet Tryd.prog [("solvent/field.fields", Rows.laid_solvent_field_fields)] w) ∧ sizedMet enc Tryd.prog Tryd.f4 (OpenSpec.ofChange Rows.fieldCombineIsLinearSpec) false w args)
      (Rows.fieldCombineIsLinearSpec.post enc Tryd.prog Tryd.f4 false true false false) := by
  refine returnsInHanded_of_change_and (C := Tryd.checked) (X := fun w _ => laidMet Tryd.prog [("solvent/field.fields", Rows.laid_solvent_field_fields)] w) (fun _ _ _ hh h => h.of_heap hh) R.own started (by kernel_rfl) Tryd.func4
    (ChangeSpec.witness_at (enc := enc) (C := Tryd.checked) (os := os) (X := fun w _ => laidMet Tryd.prog [("solvent/field.fields", Rows.laid_solvent_field_fields)] w) false (R.laidWorld os) #[.agg #[.bool false, .int .u16 0, .slice none 0 0, .slice none 0 0, .slice none 0 0, .int .i64 0]] 8 rfl (by kernel_rfl) (by kernel_rfl) (by kernel_rfl) (by kernel_rfl) (by kernel_rfl) (R.laidWorld_met os _)) ?_
  intro W base args ds gs before hval0 hW _ _ hL _
  have hval : ∀ (j : Nat) t v, Tryd.f4.params[j]? = some t → args[j]? = some v → Value.okWide Tryd.prog W .any base t v := hval0
  have hW' := hW
  obtain ⟨p, q, hA0, hV, rfl, hfz, hnd⟩ := hW
  have hA : DataW.TrodAll enc Tryd.prog W 0 (fun _ => true) true Tryd.f4.params.toList args.toList ds p := hA0
  rw [Tryd.params4] at hA hval
  obtain ⟨v0, vs0, d0, ds0, p0, q0, hargs, rfl, rfl, h0, r0⟩ := trodAll_cons hA
  obtain ⟨rfl, rfl, rfl⟩ := trodAll_nil r0
  obtain rfl : args = #[v0] := by cases args; simp_all
  obtain ⟨rfl, rfl⟩ := trodVars_none hV
  have k0 := h0
  have lt0 : ∀ x ∈ p0, x.block < W.heap.size := by obtain ⟨m, hm⟩ := k0; exact DataW.trod_lt m _ _ _ hm
  obtain ⟨l, ys, fu, ev, hl, hy, _, _, hf⟩ := R.open_fields Tryd.underlying36 (by kernel_rfl) (by kernel_rfl) (hval 0 36 v0 rfl rfl) h0
  match l, hl, ys, hy with
  | [x0, x1, x2, x3, x4, x5], _, [y0, y1, y2, y3, y4, y5], _ =>
    have f0 := hf 0 _ x0 y0 rfl rfl rfl
    have f1 := hf 1 _ x1 y1 rfl rfl rfl
    have f2 := hf 2 _ x2 y2 rfl rfl rfl
    have f3 := hf 3 _ x3 y3 rfl rfl rfl
    have f4 := hf 4 _ x4 y4 rfl rfl rfl
    have f5 := hf 5 _ x5 y5 rfl rfl rfl
    obtain ⟨a0, e0, _⟩ := DataW.trod_bool Tryd.underlying4 f0
    simp only [List.cons.injEq, and_true] at e0
    obtain ⟨a1, e1, _, w1⟩ := DataW.trod_int Tryd.underlying33 f1
    simp only [List.cons.injEq, and_true] at e1
    obtain ⟨A2, c2, l2, e2, r2, m2, w2⟩ := R.read_ints Tryd.underlying34 Tryd.underlying33 (by kernel_rfl) f2
    obtain ⟨A3, c3, l3, e3, r3, m3, w3⟩ := R.read_strs Tryd.underlying23 Tryd.underlying9 (by kernel_rfl) f3
    obtain ⟨A4, c4, l4, e4, r4, m4, w4⟩ := R.read_strs Tryd.underlying23 Tryd.underlying9 (by kernel_rfl) f4
    obtain ⟨a5, e5, _, w5⟩ := DataW.trod_int Tryd.underlying3 f5
    simp only [List.cons.injEq, and_true] at e5
    subst ev
    subst e0 e1 e2 e3 e4 e5
    clear hf f0 f1 f2 f3 f4 f5
    clear hA0 hval0
    simp only [List.append_nil] at hW'
    refine (walk a0 a1 A2 c2 l2 A3 c3 l3 A4 c4 l4 a5 w1 w2 w5 W (R.ff_of_laid hL) r2 m2 r3 m3 r4 m4).mono fun e W' ⟨he, bel⟩ => ?_
    subst he
    exact ⟨_, rfl, _, _, _, [], _, [], hW', trodAll_mk1 (shut_bool Tryd.underlying4 _), (trodAll_cons_mk (Below.trod R.laidOut (by kernel_rfl) (of_decide_eq_true (by kernel_rfl)) k0 bel lt0) trodAll_mk0), rfl, bel.frame _, fun h => by cases h⟩

theorem over : Rows.FieldCombineIsLinearSaid :=
  OpenClaim.holds_of_wide 4 Tryd.f4 rfl rfl rfl rfl rfl rfl rfl ⟨rfl, rfl, rfl, rfl, rfl⟩ rfl rfl rfl rfl rfl (by kernel_rfl) Tryd.func4 (by kernel_rfl)
    (of_decide_eq_true (by kernel_rfl)) (by unfold Func.isWrapper; first | (rw [if_pos (by decide +kernel)]; kernel_rfl) | (rw [if_neg (by decide +kernel)]; exact ⟨rfl, rfl⟩))
    (fun os started H enc _ => lifted os started H enc)

theorem card : Rows.FieldCombineIsLinearCardSaid :=
  Claim7.holds_tied_plain_at .later [] [.data] true (true, "088ecdfdfc37d4fe985e6bd07d6f578940501ff863f223aff195e20a6b85c1a2") false
    over (fun _ h => by cases h) (by kernel_rfl) (fun _ h => by cases h) fieldCombineIsLinear_row_tie rfl ⟨rfl, rfl⟩ (by kernel_rfl) rfl
    (fun f fn hf hfn => by
      obtain rfl : f = 4 := Option.some.inj ((show Tryd.prog.funcNamed "solvent/solventlaw05.FieldCombineIsLinear" = some 4 by kernel_rfl).symm.trans hf) |>.symm
      obtain rfl : fn = Tryd.f4 := (Option.some.inj (Tryd.func4.symm.trans hfn)).symm
      exact ⟨by kernel_rfl, fun j t ht => by
        rw [Tryd.params4] at ht
        have h3 : t = 36 := by
          have : t ∈ ([36] : List Nat) := List.mem_of_getElem? (by simpa using ht)
          simpa using this
        subst h3
        exact (show Tryd.prog.wantsStandIn 36 = false by kernel_rfl)⟩)
    (by kernel_rfl)
end Go.Proofs.YtgmjaiknboafdaaDoor.fieldCombineIsLinear
namespace Go.Proofs.YtgmjaiknboafdaaDoor
/-- The card, under a short name, for the claim. -/
theorem fieldCombineIsLinear_card : Rows.FieldCombineIsLinearCardSaid := fieldCombineIsLinear.card
#print axioms fieldCombineIsLinear_card
end Go.Proofs.YtgmjaiknboafdaaDoor

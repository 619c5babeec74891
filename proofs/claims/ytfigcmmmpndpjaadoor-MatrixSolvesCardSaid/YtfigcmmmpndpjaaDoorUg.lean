/- Ra, Rb, Rc. -/
import Derived.Test.YtfigcmmmpndpjaaDoorRows
import Derived.Test.YtfigcmmmpndpjaaDoorUb
import Derived.ProofKit
import Derived.OpenShut
import Derived.ShutString
import Derived.ChangeOld
import Derived.SizedLaws
import Derived.SevenTiedAt
import Derived.Test.YtfigcmmmpndpjaaDoorV
import Derived.Deep.Fields
import Derived.SliceStrings
/- The listed variable: what its reading says of memory; a world that meets it. -/
namespace Go.Proofs.YtfigcmmmpndpjaaDoor.R
open Go.ChangeShapes Go.WideShapes Go.ChangeAt Go.RowKit
set_option linter.unusedVariables false
theorem own : ownKnob Tryd.prog.godebug = none := by kernel_rfl
theorem gv : Tryd.prog.globalNamed "solvent/field.fields" = some 0 := by kernel_rfl
theorem gvType : (Tryd.prog.globals[0]?).map (·.type) = some 66 := by kernel_rfl
theorem cells66 : Tryd.prog.cellsOf 66 = 4 := by kernel_rfl
theorem cells65 : Tryd.prog.cellsOf 65 = 2 := by kernel_rfl
theorem cells3 : Tryd.prog.cellsOf 3 = 1 := by kernel_rfl
def cells4 : Array Value := #[.int .i64 8, .int .i64 285, .int .i64 16, .int .i64 69643]
theorem int_of_trod {H : Type} {enc : TypeId × Value → H} {P : Program} {w : World} {base : Nat} {sp : Nat → Bool} {held : Bool} {fuel : Nat} {t : TypeId} {k : IntKind} {c : Value} {y : DataW H × List MemPlace}
    (ht : P.underlying t = some (.int k)) (h : DataW.trod enc P w base sp held fuel t [c] = some y) : ∃ n, c = .int k n ∧ y = (.lit (.int k n), []) := by
  cases fuel with
  | zero => simp [DataW.trod] at h
  | succ fuel =>
    cases c <;> simp [DataW.trod, ht] at h
    rename_i k' n
    obtain ⟨⟨rfl, _⟩, rfl⟩ := h
    exact ⟨n, rfl, rfl⟩
theorem pair_of_trod {H : Type} {enc : TypeId × Value → H} {w : World} {base : Nat} {sp : Nat → Bool} {held : Bool} {fuel : Nat} {c0 c1 : Value} {y : DataW H × List MemPlace}
    (h : DataW.trod enc Tryd.prog w base sp held fuel 65 [c0, c1] = some y) : ∃ n m, c0 = .int .i64 n ∧ c1 = .int .i64 m ∧ y.1 = .agg [.lit (.int .i64 n), .lit (.int .i64 m)] := by
  cases fuel with
  | zero => simp [DataW.trod] at h
  | succ fuel =>
    simp [DataW.trod, Tryd.underlying65, cells65, cells3] at h
    cases h0 : DataW.trod enc Tryd.prog w base sp held fuel 3 [c0] with
    | none => simp [h0] at h
    | some y0 =>
      cases h1 : DataW.trod enc Tryd.prog w base sp held fuel 3 [c1] with
      | none => simp [h0, h1] at h
      | some y1 =>
        simp [h0, h1] at h
        obtain ⟨n, rfl, rfl⟩ := int_of_trod Tryd.underlying3 h0
        obtain ⟨m, rfl, rfl⟩ := int_of_trod Tryd.underlying3 h1
        exact ⟨n, m, rfl, rfl, by rw [← h]⟩
theorem cells_of_laid {W : World} (h : laidMet Tryd.prog [("solvent/field.fields", Rows.laid_solvent_field_fields)] W) : W.var? Tryd.prog "solvent/field.fields" = some cells4 := by
  obtain ⟨ps, ⟨g, t, cs, fuel, p, q, hg, ht, hvar, hd, _, _⟩, _⟩ := h
  obtain rfl := Option.some.inj (gv.symm.trans hg)
  obtain rfl := Option.some.inj (gvType.symm.trans ht)
  rw [hvar]
  congr 1
  obtain ⟨l⟩ := cs
  cases fuel with
  | zero => simp [DataW.trod] at hd
  | succ fuel =>
    simp only [DataW.trod, Tryd.underlying66, cells66, cells65] at hd
    split at hd
    · rename_i hl
      obtain ⟨c0, c1, c2, c3, rfl⟩ : ∃ c0 c1 c2 c3, l = [c0, c1, c2, c3] := by
        match l, hl with
        | [a, b, c, d], _ => exact ⟨a, b, c, d, rfl⟩
      have e : List.range 2 = [0, 1] := rfl
      rw [e] at hd
      simp only [Option.map_eq_some_iff, List.mapM_cons, List.mapM_nil, Option.bind_eq_bind, Option.bind_eq_some_iff, Option.pure_def, Option.some.injEq] at hd
      obtain ⟨xs, ⟨y0, h0, _, ⟨y1, h1, _, rfl, rfl⟩, rfl⟩, hx⟩ := hd
      obtain ⟨n0, m0, rfl, rfl, e0⟩ := pair_of_trod h0
      obtain ⟨n1, m1, rfl, rfl, e1⟩ := pair_of_trod h1
      simp [Rows.laid_solvent_field_fields, e0, e1] at hx
      obtain ⟨⟨⟨rfl, rfl⟩, rfl, rfl⟩, _⟩ := hx
      rfl
    · cases hd
/-- what a walk asks of memory -/
theorem ff_of_laid {W : World} (h : laidMet Tryd.prog [("solvent/field.fields", Rows.laid_solvent_field_fields)] W) : H.FF W := by
  have hv := cells_of_laid h
  unfold World.var? at hv
  rw [gv] at hv
  simp only [Option.bind_some] at hv
  cases hh : W.heap[0]? with
  | none => simp [hh] at hv
  | some o =>
    cases o <;> simp [hh] at hv
    rename_i cs t fr
    subst hv
    exact ⟨t, fr, hh⟩
noncomputable def laidWorld (os : Os) : World :=
  { World.holding Tryd.prog os ⟨#[], #[], []⟩ with heap := (World.holding Tryd.prog os ⟨#[], #[], []⟩).heap.modify 0 fun
      | .cells _ t frozen => .cells cells4 t frozen
      | o => o }
theorem laidWorld_row (os : Os) (args : Array Value) : ((laidWorld os).forCall (fun _ _ => 0) ⟨#[], args, []⟩).memory.heap[0]? = some (.cells cells4 66 (0, 0)) := by kernel_rfl
theorem laidWorld_met (os : Os) (args : Array Value) : laidMet Tryd.prog [("solvent/field.fields", Rows.laid_solvent_field_fields)] ((laidWorld os).forCall (fun _ _ => 0) ⟨#[], args, []⟩).memory :=
  ⟨_, ⟨0, 66, cells4, 8, [], [], by kernel_rfl, by kernel_rfl, by kernel_rfl, by kernel_rfl, rfl, rfl⟩, by decide, fun b off h => by
    have h' : MemPlace.cell b off ∈ [MemPlace.cell 0 0, .cell 0 1, .cell 0 2, .cell 0 3] := h
    have hb : b = 0 := by
      simp at h'
      omega
    subst hb
    refine ⟨⟨_, _, laidWorld_row os args⟩, fun u v hc => ?_⟩
    simp only [World.cell?, laidWorld_row os] at hc
    simp at h'
    rcases h' with rfl | rfl | rfl | rfl <;> simp [cells4] at hc⟩
end Go.Proofs.YtfigcmmmpndpjaaDoor.R
/- A struct argument by value, opened field by field; slices of numbers and of strings as lists. -/
namespace Go.Proofs.YtfigcmmmpndpjaaDoor.R
open Go.ChangeShapes Go.WideShapes Go.ChangeAt Go.RowKit Go.Deep Go.Proofs.YtfigcmmmpndpjaaDoorW.PrintWords Go.Proofs.YtfigcmmmpndpjaaDoorW.PrintLast Go.Proofs.YtfigcmmmpndpjaaDoorW.PrintMore
set_option linter.unusedVariables false
section
variable {H : Type} {enc : TypeId × Value → H} {w : World} {base : Nat} {spare : Nat → Bool} {held : Bool}
/-- A struct of one-cell fields, whatever their number. -/
theorem open_fields {r : Reach} {b0 : Nat} {t : TypeId} {fs : Array Field} {v : Value} {d : DataW H} {p : List MemPlace} (hs : Tryd.prog.underlying t = some (.struct fs)) (hone : oneCellFields Tryd.prog fs = true) (hC : Tryd.prog.cellsOf t = fs.size)
    (hv : Value.okWide Tryd.prog w r b0 t v) (h : DataW.Trod enc Tryd.prog w base spare held t v d p) :
    ∃ (l : List Value) (ys : List (DataW H × List MemPlace)) (n : Nat), v = .agg ⟨l⟩ ∧ l.length = fs.size ∧ ys.length = fs.size ∧ d = .agg (ys.map (·.1)) ∧ p = ys.flatMap (·.2) ∧
      ∀ (j : Nat) (f : Field) (c : Value) (y : DataW H × List MemPlace), fs[j]? = some f → l[j]? = some c → ys[j]? = some y → DataW.trod enc Tryd.prog w base spare held n f.type [c] = some y := by
  obtain ⟨⟨l⟩, rfl, hsz⟩ := okWide_struct hs hv
  obtain ⟨fuel, hf⟩ := h
  obtain ⟨ys, n, _, hx, _, hlen, hg⟩ := DataW.trod_struct hs hf
  simp only [Prod.mk.injEq] at hx
  refine ⟨l, ys, n, rfl, by simpa [hC] using hsz, hlen, hx.1, hx.2, fun j f c y hj hc hy => ?_⟩
  obtain ⟨o, k⟩ := hone_of hone j f hj
  have := hg j f hj
  rw [o, k, hy] at this
  have hlj : j < l.length := (List.getElem?_eq_some_iff.1 hc).1
  have e : ((Value.agg ⟨l⟩).cells.toList.drop j).take 1 = [c] := by
    have e1 : (Value.agg ⟨l⟩).cells.toList = l := by simp [Value.cells]
    rw [e1, List.drop_eq_getElem_cons hlj]
    have e2 : l[j] = c := by
      rw [List.getElem?_eq_getElem hlj] at hc
      exact Option.some.inj hc
    simp [e2]
  rw [e] at this
  exact this
/-- a slice of whole numbers as a list -/
theorem read_ints {t e : TypeId} {k : IntKind} {fuel : Nat} {c : Value} {y : DataW H × List MemPlace} (ht : Tryd.prog.underlying t = some (.slice e)) (he : Tryd.prog.underlying e = some (.int k)) (hc : Tryd.prog.cellsOf e = 1)
    (h : DataW.trod enc Tryd.prog w base (fun _ => true) held fuel t [c] = some y) :
    ∃ (A : Option Addr) (cap : Nat) (l : List Int), c = .slice A l.length cap ∧ Kd.C (Kd.int k) w A l.length l ∧ l.length ≤ cap ∧ ∀ n ∈ l, (Lit.int k n).wf = true := by
  rcases open_ints ht he hc h with ⟨hcs, _⟩ | ⟨a, len, cap, zs, hcs, _, hl, hm, hz, _, hcell, hwz⟩
  · simp only [List.cons.injEq, and_true] at hcs
    exact ⟨none, 0, [], hcs, Kd.C_nil _ _, Nat.le_refl _, fun n hn => by cases hn⟩
  · simp only [List.cons.injEq, and_true] at hcs
    simp only [if_true] at hz
    obtain ⟨l, e1, h1, _, h3, h4⟩ := ReadsInt.ofRowC (k := k) (w := w) (a := some a) (len := len) (cap := cap) (zs := zs) (.inr ⟨a, rfl, hl, hm, hz, hcell, hwz⟩)
    subst e1
    exact ⟨some a, cap, l, hcs, Kd.C_of_reads (d := (0 : Int)) (h1 := fun _ => rfl) h1, h4, h3⟩
/-- a slice of strings as a list -/
theorem read_strs {t e : TypeId} {fuel : Nat} {c : Value} {y : DataW H × List MemPlace} (ht : Tryd.prog.underlying t = some (.slice e)) (he : Tryd.prog.underlying e = some .string) (hc : Tryd.prog.cellsOf e = 1)
    (h : DataW.trod enc Tryd.prog w base (fun _ => true) held fuel t [c] = some y) :
    ∃ (A : Option Addr) (cap : Nat) (l : List ByteArray), c = .slice A l.length cap ∧ Kd.C Kd.string w A l.length l ∧ l.length ≤ cap ∧ ∀ s ∈ l, s.size ≤ maxLen := by
  rcases open_strings ht he hc h with ⟨hcs, _⟩ | ⟨a, len, cap, zs, hcs, _, hl, hm, hz, _, hcell, hwz⟩
  · simp only [List.cons.injEq, and_true] at hcs
    exact ⟨none, 0, [], hcs, Kd.C_nil _ _, Nat.le_refl _, fun n hn => by cases hn⟩
  · simp only [List.cons.injEq, and_true] at hcs
    simp only [if_true] at hz
    have e1 : (zs.take len).length = len := by rw [List.length_take]; omega
    refine ⟨some a, cap, zs.take len, by rw [e1]; exact hcs, ?_, by omega, fun s hs => hwz s (List.mem_of_mem_take hs)⟩
    refine Kd.C_of_reads (d := ByteArray.empty) (h1 := fun _ => rfl) ⟨rfl, by unfold maxLen at hm; omega, fun _ => ⟨a, rfl, fun j hj => ?_⟩⟩
    rw [hcell j (by omega)]
    congr 2
    rw [List.getD, List.getD, List.getElem?_take, if_pos (by omega)]
end
theorem laidOut : laidOutB Tryd.prog = true := by kernel_rfl
end Go.Proofs.YtfigcmmmpndpjaaDoor.R
/- Whole arguments opened: a matrix by value, a slice of numbers. -/
namespace Go.Proofs.YtfigcmmmpndpjaaDoor.R
open Go.ChangeShapes Go.WideShapes Go.ChangeAt Go.RowKit Go.Deep Go.Proofs.YtfigcmmmpndpjaaDoorW.PrintWords Go.Proofs.YtfigcmmmpndpjaaDoorW.PrintLast Go.Proofs.YtfigcmmmpndpjaaDoorW.PrintMore
set_option linter.unusedVariables false
section
variable {H : Type} {enc : TypeId × Value → H} {w : World} {base : Nat} {held : Bool}
theorem open_mat {r : Reach} {b0 : Nat} {v : Value} {d : DataW H} {p : List MemPlace} (hv : Value.okWide Tryd.prog w r b0 24 v) (h : DataW.Trod enc Tryd.prog w base (fun _ => true) held 24 v d p) :
    ∃ (a b c : Int) (A : Option Addr) (cap : Nat) (l : List Int), v = .agg #[.int .i64 a, .int .i64 b, .int .i64 c, .slice A l.length cap] ∧ Kd.C (Kd.int .i64) w A l.length l ∧ l.length ≤ cap ∧
      ((Lit.int .i64 a).wf = true ∧ (Lit.int .i64 b).wf = true ∧ (Lit.int .i64 c).wf = true ∧ ∀ n ∈ l, (Lit.int .i64 n).wf = true) := by
  obtain ⟨l, ys, fu, ev, hl, hy, _, _, hf⟩ := open_fields Tryd.underlying24 (by kernel_rfl) (by kernel_rfl) hv h
  match l, hl, ys, hy with
  | [x0, x1, x2, x3], _, [y0, y1, y2, y3], _ =>
    have f0 := hf 0 _ x0 y0 rfl rfl rfl
    have f1 := hf 1 _ x1 y1 rfl rfl rfl
    have f2 := hf 2 _ x2 y2 rfl rfl rfl
    have f3 := hf 3 _ x3 y3 rfl rfl rfl
    obtain ⟨a0, e0, _, w0⟩ := DataW.trod_int Tryd.underlying3 f0
    simp only [List.cons.injEq, and_true] at e0
    obtain ⟨a1, e1, _, w1⟩ := DataW.trod_int Tryd.underlying3 f1
    simp only [List.cons.injEq, and_true] at e1
    obtain ⟨a2, e2, _, w2⟩ := DataW.trod_int Tryd.underlying3 f2
    simp only [List.cons.injEq, and_true] at e2
    obtain ⟨A3, c3, l3, e3, r3, m3, w3⟩ := read_ints Tryd.underlying22 Tryd.underlying3 (by kernel_rfl) f3
    subst ev
    subst e0 e1 e2 e3
    exact ⟨a0, a1, a2, A3, c3, l3, rfl, r3, m3, w0, w1, w2, w3⟩
theorem open_list {r : Reach} {b0 : Nat} {v : Value} {d : DataW H} {p : List MemPlace} (hv : Value.okWide Tryd.prog w r b0 22 v) (h : DataW.Trod enc Tryd.prog w base (fun _ => true) held 22 v d p) :
    ∃ (A : Option Addr) (cap : Nat) (l : List Int), v = .slice A l.length cap ∧ Kd.C (Kd.int .i64) w A l.length l ∧ l.length ≤ cap ∧ ∀ n ∈ l, (Lit.int .i64 n).wf = true := by
  obtain ⟨a, n, cap, rfl⟩ := okWide_slice Tryd.underlying22 hv
  obtain ⟨fuel, hf⟩ := h
  exact read_ints Tryd.underlying22 Tryd.underlying3 (by kernel_rfl) hf
end
end Go.Proofs.YtfigcmmmpndpjaaDoor.R

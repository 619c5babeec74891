/- Sk. -/
import Derived.Test.YtfigcmmmpndpjaaDoorUb
/- Short words for what the printed texts say often. -/
namespace Go.Proofs.YtfigcmmmpndpjaaDoor.P
open Go.RowKit Go.Proofs.YtfigcmmmpndpjaaDoorW.PrintWords Go.Proofs.YtfigcmmmpndpjaaDoorW.PrintLast Go.Proofs.YtfigcmmmpndpjaaDoorW.PrintMore
/-- a later world: numbers were drawn, blocks were laid -/
class Lat (w0 W : World) : Prop where
  below : Below w0.heap.size w0 W
instance latR (w : World) : Lat w w := ⟨Below.refl _ _⟩
instance latD {w0 W : World} [h : Lat w0 W] : Lat w0 W.drew := ⟨below_drew1 h.below⟩
instance latN {w0 W : World} {n : Nat} [h : Lat w0 W] : Lat w0 (W.drewN n) := ⟨pw_below_drewN h.below n⟩
instance latA {w0 W : World} {o : Obj} [h : Lat w0 W] : Lat w0 (W.alloc o) := ⟨below_alloc h.below o⟩
section
variable {α : Type} {d : Kd α} {e : Nat} {w0 W W2 : World} {base : Nat} {ok : Nat → Prop} {v : Value} {xs : List α}
theorem rA (h : Aside0 (d.R e w0 base ok v xs)) [l : Lat w0 W] : Aside0 (d.R e W base ok v xs) := ⟨Kd.R_below h.out l.below⟩
theorem rB (h : Aside0 (d.R e w0 base ok v xs)) [l : Lat w0 W] (hb : Below W.heap.size W W2) : Aside0 (d.R e W2 base ok v xs) := ⟨Kd.R_below (Kd.R_below h.out l.below) hb⟩
theorem rE {β : Type} {d' : Kd β} {ok' : Nat → Prop} {v' : Value} {ys : List β} {e' : Nat} (h : Aside0 (d.R e w0 base ok v xs)) [l : Lat w0 W] (ho : d'.R e' W2 W.heap.size ok' v' ys) (hb : Below W.heap.size W W2) : Aside0 (d.R e W2 base (fun k => ok k ∧ some k ≠ v'.ownBlock) v xs) :=
  ⟨Kd.R_elder' (Kd.R_below h.out l.below) (Kd.R_base ho) hb⟩
end
theorem bA {w0 W : World} {g : Nat} {o : Obj} (h : Aside0 (w0.heap[g]? = some o)) [l : Lat w0 W] : Aside0 (W.heap[g]? = some o) := ⟨blk_below h.out l.below⟩
theorem bB {w0 W W2 : World} {g : Nat} {o : Obj} (h : Aside0 (w0.heap[g]? = some o)) [l : Lat w0 W] (hb : Below W.heap.size W W2) : Aside0 (W2.heap[g]? = some o) := ⟨blk_below (blk_below h.out l.below) hb⟩
theorem sA {w w0 W : World} (h : Aside0 (Below w.heap.size w w0)) [l : Lat w0 W] : Aside0 (Below w.heap.size w W) := ⟨below_step h.out l.below⟩
theorem sB {w w0 W W2 : World} (h : Aside0 (Below w.heap.size w w0)) [l : Lat w0 W] (hb : Below W.heap.size W W2) : Aside0 (Below w.heap.size w W2) := ⟨below_step (below_step h.out l.below) hb⟩
theorem fz4 {w : World} {g : Nat} {t : TypeId} {cs : Array Value} (h : w.heap[g]? = some (.cells cs t (0, 0))) : w.frozen? ⟨g, 0, none⟩ = false ∧ w.frozen? ⟨g, 1, none⟩ = false ∧ w.frozen? ⟨g, 2, none⟩ = false ∧ w.frozen? ⟨g, 3, none⟩ = false := ⟨blk_frozen h 0, blk_frozen h 1, blk_frozen h 2, blk_frozen h 3⟩
theorem cz4 {w : World} {g : Nat} {v0 v1 v2 v3 : Value} {t : TypeId} (h : w.heap[g]? = some (.cells #[v0, v1, v2, v3] t (0, 0))) :
    w.cell? ⟨g, 0, none⟩ = some v0 ∧ w.cell? ⟨g, 1, none⟩ = some v1 ∧ w.cell? ⟨g, 2, none⟩ = some v2 ∧ w.cell? ⟨g, 3, none⟩ = some v3 :=
  ⟨(blk_cell h 0).trans rfl, (blk_cell h 1).trans rfl, (blk_cell h 2).trans rfl, (blk_cell h 3).trans rfl⟩
end Go.Proofs.YtfigcmmmpndpjaaDoor.P

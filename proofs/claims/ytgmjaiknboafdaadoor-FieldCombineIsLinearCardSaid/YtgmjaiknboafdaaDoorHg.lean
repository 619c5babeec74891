/- What field.Combine answers. -/
import Derived.Test.YtgmjaiknboafdaaDoorHe
import Derived.Test.YtgmjaiknboafdaaDoorHf
import Derived.Laws.BytesArg
import Derived.Laws.MakeOwn
namespace Go.Proofs.YtgmjaiknboafdaaDoor.H
open Go.RowKit Go.Proofs.YtgmjaiknboafdaaDoorW.PrintWords Go.Proofs.YtgmjaiknboafdaaDoorW.PrintLast Go.Proofs.YtgmjaiknboafdaaDoorW.PrintMore
set_option linter.unusedVariables false
set_option linter.unusedSimpArgs false

theorem info5 : (Tryd.prog.info? 5).map (fun i => (i.zero, i.size, i.bytes)) = some (some (.int .u8 0), 1, 1) := by kernel_rfl

theorem made_bv (n : Nat) : madeCells #[.int .u8 0] n = bv (List.replicate n 0) := by
  apply Array.ext
  · simp [madeCells, bv]
  · intro i h1 h2
    simp [madeCells, bv, Nat.mod_one]

/-- what is added to a sum -/
def accF (m : Int) (c : Int) (u : ByteArray) (S : List Int) : List Int :=
  if m = 8 then (upto (fun j => j) u.size).foldl (step8 c u) S else (upto (fun j => j) (u.size / 2)).foldl (step16 c u) S
theorem accF_len (m c : Int) (u : ByteArray) (S : List Int) : (accF m c u S).length = S.length := by
  unfold accF; split
  · exact step8_len c u _ S
  · exact step16_len c u _ S
/-- the sum of the first k multiples -/
def sumF (m : Int) (coef : List Int) (units : List ByteArray) (n : Nat) : Nat → List Int
  | 0 => List.replicate n 0
  | k + 1 => accF m (rd coef k) (rdOf ByteArray.empty units k) (sumF m coef units n k)
theorem sumF_len (m : Int) (coef : List Int) (units : List ByteArray) (n k : Nat) : (sumF m coef units n k).length = n := by
  induction k with
  | zero => simp [sumF]
  | succ k ih => simp only [sumF]; rw [accF_len, ih]

theorem ret_two {s s' : ByteArray} {a a' : Int} (h : s = s') (k : a = a') : Ending.returned (.tuple #[.string s, .int .i64 a]) = .returned (.tuple #[.string s', .int .i64 a']) := by rw [h, k]

theorem any_bad (m : Int) (xs : List Int) (h : allF m xs = true) (k : Nat) (hk : k < xs.length) : 0 ≤ rd xs k ∧ rd xs k < 2 ^ m.toNat := by
  unfold allF at h
  rw [Bool.and_eq_true, Bool.not_eq_true', List.any_eq_false] at h
  have := h.2 (rd xs k) (by simp [rd, List.getElem?_eq_getElem hk])
  unfold badB at this
  rw [Bool.or_eq_true, not_or] at this
  obtain ⟨h1, h2⟩ := this
  have hp : (0 : Int) < 2 ^ m.toNat := Int.pow_pos (by decide)
  have h3 : rd xs k / 2 ^ m.toNat = 0 := by simpa using h2
  have h4 : 0 ≤ rd xs k := by simpa using h1
  refine ⟨h4, ?_⟩
  rcases Int.lt_or_le (rd xs k) (2 ^ m.toNat) with h5 | h5
  · exact h5
  · have := Int.le_ediv_of_mul_le hp (show 1 * 2 ^ m.toNat ≤ rd xs k by omega)
    omega
theorem any_len (n : Int) (xs : List ByteArray) (h : xs.any (badN n) = false) (k : Nat) (hk : k < xs.length) : ((rdOf ByteArray.empty xs k).size : Int) = n := by
  rw [List.any_eq_false] at h
  have := h (rdOf ByteArray.empty xs k) (by simp [rdOf, List.getElem?_eq_getElem hk])
  simpa [badN] using this

/-- field.all says no, or the lists' lengths are off -/
def badL (m : Int) (l1 : List Int) (l2 : List ByteArray) : Bool := !allF m l1 || l1.length == 0 || l1.length != l2.length

set_option maxRecDepth 100000 in
set_option maxHeartbeats 2000000 in
theorem comb_bad (m : Int) (A1 : Option Addr) (c1 : Nat) (l1 : List Int) (A2 : Option Addr) (c2 : Nat) (l2 : List ByteArray) (w : World) (hff : FF w) (hr1 : Kd.C (Kd.int .i64) w A1 l1.length l1) (hr2 : Kd.C Kd.string w A2 l2.length l2) (hbad : badL m l1 l2 = true) :
    Calls Tryd.prog 10 #[.int .i64 m, .slice A1 l1.length c1, .slice A2 l2.length c2] w fun e w' => e = .returned (.tuple #[.string ⟨#[]⟩, .int .i64 1]) ∧ Below w.heap.size w w' := by
  have HF := Aside0.mk hff
  have HR1 := Aside0.mk hr1
  clear hff hr1 hr2
  by_cases ha : allF m l1 = true
  · by_cases hl : l1.length = 0
    · have h0 : ((l1.length : Int) == 0) = true := by simp [hl]
      have HA := Aside0.mk ha
      clear ha hbad hl
      go_enter Tryd.func10, Tryd.ntmps10
      go_wp2_with fail
      refine (all31 m _ _ _ _ HF.out HR1.out).mono ?_
      rw [HA.out]
      rintro e w1 ⟨rfl, hb⟩
      have HB := Aside0.mk hb
      clear hb
      go_wp2
      go_ret2
      exact ⟨rfl, HB.out⟩
    · have h0 : ((l1.length : Int) == 0) = false := by simp; intro h; simp [h] at hl
      have hne : ((l1.length : Int) != (l2.length : Int)) = true := by
        unfold badL at hbad
        simp [ha] at hbad
        rcases hbad with h | h
        · simp [h] at hl
        · simp; omega
      have HA := Aside0.mk ha
      clear ha hbad hl
      go_enter Tryd.func10, Tryd.ntmps10
      go_wp2_with fail
      refine (all31 m _ _ _ _ HF.out HR1.out).mono ?_
      rw [HA.out]
      rintro e w1 ⟨rfl, hb⟩
      have HB := Aside0.mk hb
      clear hb
      go_wp2
      go_ret2
      exact ⟨rfl, HB.out⟩
  · have ha' : allF m l1 = false := by simpa using ha
    have HA := Aside0.mk ha'
    clear ha ha' hbad
    go_enter Tryd.func10, Tryd.ntmps10
    go_wp2_with fail
    refine (all31 m _ _ _ _ HF.out HR1.out).mono ?_
    rw [HA.out]
    rintro e w1 ⟨rfl, hb⟩
    have HB := Aside0.mk hb
    clear hb
    go_wp2
    go_ret2
    exact ⟨rfl, HB.out⟩

set_option maxRecDepth 100000 in
set_option maxHeartbeats 4000000 in
theorem comb_8 (A1 : Option Addr) (c1 : Nat) (l1 : List Int) (A2 : Option Addr) (c2 : Nat) (l2 : List ByteArray) (w : World) (hff : FF w) (hr1 : Kd.C (Kd.int .i64) w A1 l1.length l1) (hr2 : Kd.C Kd.string w A2 l2.length l2)
    (ha : allF 8 l1 = true) (h0 : 0 < l1.length) (hl : l1.length = l2.length) (n : Nat) (hn : (rdOf ByteArray.empty l2 0).size = n) (hn1 : n ≤ 140737488355328) (hdiv : n % 1 = 0) (hall : l2.any (badN n) = false) :
    Calls Tryd.prog 10 #[.int .i64 8, .slice A1 l1.length c1, .slice A2 l2.length c2] w fun e w' => e = .returned (.tuple #[.string (strOfNums (sumF 8 l1 l2 n l1.length)), .int .i64 0]) ∧ Below w.heap.size w w' := by
  have HF := Aside0.mk hff
  have HR1 := Aside0.mk hr1
  have HR2 := Aside0.mk hr2
  have HA := Aside0.mk ha
  have HALL := Aside0.mk hall
  have hmax := Kd.C_max hr1
  have b0 : ((l1.length : Int) == 0) = false := by simp; intro h; simp [h] at h0
  have b1 : ((l1.length : Int) != (l2.length : Int)) = false := by simp; omega
  have h0' : 0 < l2.length := by omega
  have HL := Aside0.mk hl
  obtain ⟨ad, rfl, hx0⟩ := Kd.at_string hr2 0 (by omega) (by omega)
  obtain ⟨u0, hu0⟩ : ∃ u0, rdOf ByteArray.empty l2 0 = u0 := ⟨_, rfl⟩
  rw [hu0] at hx0 hn
  subst hn
  have hx : w.cell? ad = some (.string u0) := by
    rw [show ((0 : Int)).toNat = 0 from rfl, Addr.add_zero'] at hx0
    exact hx0
  have HX := Aside0.mk hx
  have HU := Aside0.mk hu0
  skip
  clear hff hr1 hr2 ha hall hl hx0 hx hu0
  go_enter Tryd.func10, Tryd.ntmps10
  go_wp2_with fail
  refine (all31 8 _ _ _ _ HF.out HR1.out).mono ?_
  rw [HA.out]
  rintro e w1 ⟨rfl, hb⟩
  have HB1 := Aside0.mk hb
  have hx1 : w1.cell? ad = some (.string u0) := pw_cell_below hb HX.out
  have q0 : decide (0 < l2.length) = true := decide_eq_true h0'
  clear hb
  go_wp2_with fail
  have hR2 : Kd.C Kd.string (w1.alloc (.cells #[.int .i64 (u0.size : Int)] 3)) (some ad) l2.length l2 := Kd.C_alloc (Kd.C_below HR2.out HB1.out) _
  refine (every32 (u0.size : Int) _ _ _ ⟨w1.heap.size, 0, none⟩ _ hR2 (cell_new w1 _ 3)).mono ?_
  rw [HALL.out]
  rintro e w2 ⟨rfl, hb2⟩
  have hc2 : w2.cell? ⟨w1.heap.size, 0, none⟩ = some (.int .i64 (u0.size : Int)) := pw_cell_below hb2 (cell_new w1 _ 3)
  have HB2 := Aside0.mk (below_then (below_alloc HB1.out _) (by have := HB1.out.size; simp; omega) hb2)
  have hmk := print_make 50 5 .u8 1 Tryd.underlying50 info5 (by decide) u0.size (by omega)
  clear hb2 hR2 hx1
  go_wp2
  rw [made_bv]
  have hsz2 : w.heap.size ≤ w2.heap.size := HB2.out.size
  obtain ⟨W0, hW0, hg0, hz0, hB0⟩ : ∃ W0, w2.alloc (.cells (bv (List.replicate u0.size 0)) 5) = W0 ∧ W0.heap[w2.heap.size]? = some (.cells (bv (List.replicate u0.size 0)) 5 (0, 0)) ∧ W0.heap.size = w2.heap.size + 1 ∧ Below w.heap.size w W0 :=
    ⟨_, rfl, heap_alloc_new w2 _, by simp, HB2.out.alloc hsz2 _⟩
  rw [hW0]
  have HB0 := Aside0.mk hB0
  have HG0 := Aside0.mk hg0
  clear hW0 hB0 hg0 hc2 hmk
  go_loopw [47] (fun i wr => ∃ k : Nat, k ≤ l1.length ∧ i = .int .i64 k ∧ Aside0 (Below w.heap.size w wr) ∧ Aside0 (wr.heap[w2.heap.size]? = some (.cells (bv (sumF 8 l1 l2 u0.size k)) 5 (0, 0)))) (fun i _ => l1.length - (intOf i).toNat)
  case atStart => exact ⟨0, Nat.zero_le _, rfl, HB0, HG0⟩
  case round =>
    obtain ⟨k, hk, rfl, HBr, HGr⟩ := hrel
    by_cases hlt : k < l1.length
    · have hlt2 : k < l2.length := by have := HL.out; omega
      obtain ⟨a1, rfl, hy1⟩ := Kd.at_int HR1.out (k : Int) (by omega) (by omega)
      obtain ⟨a2, e2, hy2⟩ := Kd.at_string HR2.out (k : Int) (by omega) (by omega)
      cases e2
      have hz1 : wr.cell? (a1.add k) = some (.int .i64 (rd l1 k)) := pw_cell_below HBr.out hy1
      have hz2 : wr.cell? (ad.add k) = some (.string (rdOf ByteArray.empty l2 k)) := pw_cell_below HBr.out hy2
      have hck := any_bad 8 l1 HA.out k hlt
      have hlk := any_len (u0.size : Int) l2 HALL.out k hlt2
      clear hy1 hy2
      obtain ⟨c, hc⟩ : ∃ c, rd l1 k = c := ⟨_, rfl⟩
      obtain ⟨u, hu⟩ : ∃ u, rdOf ByteArray.empty l2 k = u := ⟨_, rfl⟩
      rw [hc] at hz1 hck
      rw [hu] at hz2 hlk
      have HC := Aside0.mk hc
      have HUU := Aside0.mk hu
      have hck' : 0 ≤ c ∧ c < 256 := hck
      have hus : u.size = u0.size := by omega
      have HS := Aside0.mk hus
      clear hc hu hck hlk hus
      go_wp2_with fail
      have hacc := acc8 c hck' u (by have := HS.out; omega) w2.heap.size u0.size (by have := HF.out.lt; omega) (sumF 8 l1 l2 u0.size k) (by rw [sumF_len, HS.out]) wr (HF.out.below HBr.out) HGr.out
      rw [HS.out] at hacc
      refine hacc.mono ?_
      rintro e w5 ⟨rfl, hg5, hh5⟩
      have HB5 := Aside0.mk (pw_below_grown HBr.out (some w2.heap.size) HBr.out.size hg5 (fun k hk => by cases hk; exact hsz2))
      have HG5 := Aside0.mk (show w5.heap[w2.heap.size]? = some (.cells (bv (sumF 8 l1 l2 u0.size (k + 1))) 5 (0, 0)) by
        rw [hh5]; simp only [sumF, accF]; rw [HC.out, HUU.out, HS.out]; rfl)
      clear hg5 hh5 hacc
      go_wp2
      go_roundw
      case rel => exact ⟨k + 1, by omega, by go_num, HB5, HG5⟩
      case measure => simp [intOf]; omega
    · obtain rfl : k = l1.length := by omega
      have hcv := run_convert_bytes_arg (P := Tryd.prog) wr 50 5 Tryd.underlying50 Tryd.underlying5 w2.heap.size 0 u0.size u0.size (sumF 8 l1 l2 u0.size l1.length) (sumF_len _ _ _ _ _)
        (fun i hi => by rw [cell_of_row _ _ _ _ _ _ HGr.out, Nat.zero_add, bv_get _ _ (by rw [sumF_len]; exact hi)]; simp [rd]) 9 Tryd.underlying9
      go_wp2
      go_ret2
      exact ⟨rfl, HBr.out⟩

set_option maxRecDepth 100000 in
set_option maxHeartbeats 4000000 in
theorem comb_16 (A1 : Option Addr) (c1 : Nat) (l1 : List Int) (A2 : Option Addr) (c2 : Nat) (l2 : List ByteArray) (w : World) (hff : FF w) (hr1 : Kd.C (Kd.int .i64) w A1 l1.length l1) (hr2 : Kd.C Kd.string w A2 l2.length l2)
    (ha : allF 16 l1 = true) (h0 : 0 < l1.length) (hl : l1.length = l2.length) (n : Nat) (hn : (rdOf ByteArray.empty l2 0).size = n) (hn1 : n ≤ 140737488355328) (hdiv : n % 2 = 0) (hall : l2.any (badN n) = false) :
    Calls Tryd.prog 10 #[.int .i64 16, .slice A1 l1.length c1, .slice A2 l2.length c2] w fun e w' => e = .returned (.tuple #[.string (strOfNums (sumF 16 l1 l2 n l1.length)), .int .i64 0]) ∧ Below w.heap.size w w' := by
  have HF := Aside0.mk hff
  have HR1 := Aside0.mk hr1
  have HR2 := Aside0.mk hr2
  have HA := Aside0.mk ha
  have HALL := Aside0.mk hall
  have hmax := Kd.C_max hr1
  have b0 : ((l1.length : Int) == 0) = false := by simp; intro h; simp [h] at h0
  have b1 : ((l1.length : Int) != (l2.length : Int)) = false := by simp; omega
  have h0' : 0 < l2.length := by omega
  have HL := Aside0.mk hl
  obtain ⟨ad, rfl, hx0⟩ := Kd.at_string hr2 0 (by omega) (by omega)
  obtain ⟨u0, hu0⟩ : ∃ u0, rdOf ByteArray.empty l2 0 = u0 := ⟨_, rfl⟩
  rw [hu0] at hx0 hn
  subst hn
  have hx : w.cell? ad = some (.string u0) := by
    rw [show ((0 : Int)).toNat = 0 from rfl, Addr.add_zero'] at hx0
    exact hx0
  have HX := Aside0.mk hx
  have HU := Aside0.mk hu0
  have hdv : (((u0.size : Int) % 2) != 0) = false := by simp; omega
  clear hff hr1 hr2 ha hall hl hx0 hx hu0
  go_enter Tryd.func10, Tryd.ntmps10
  go_wp2_with fail
  refine (all31 16 _ _ _ _ HF.out HR1.out).mono ?_
  rw [HA.out]
  rintro e w1 ⟨rfl, hb⟩
  have HB1 := Aside0.mk hb
  have hx1 : w1.cell? ad = some (.string u0) := pw_cell_below hb HX.out
  have q0 : decide (0 < l2.length) = true := decide_eq_true h0'
  clear hb
  go_wp2_with fail
  have hR2 : Kd.C Kd.string (w1.alloc (.cells #[.int .i64 (u0.size : Int)] 3)) (some ad) l2.length l2 := Kd.C_alloc (Kd.C_below HR2.out HB1.out) _
  refine (every32 (u0.size : Int) _ _ _ ⟨w1.heap.size, 0, none⟩ _ hR2 (cell_new w1 _ 3)).mono ?_
  rw [HALL.out]
  rintro e w2 ⟨rfl, hb2⟩
  have hc2 : w2.cell? ⟨w1.heap.size, 0, none⟩ = some (.int .i64 (u0.size : Int)) := pw_cell_below hb2 (cell_new w1 _ 3)
  have HB2 := Aside0.mk (below_then (below_alloc HB1.out _) (by have := HB1.out.size; simp; omega) hb2)
  have hmk := print_make 50 5 .u8 1 Tryd.underlying50 info5 (by decide) u0.size (by omega)
  clear hb2 hR2 hx1
  go_wp2
  rw [made_bv]
  have hsz2 : w.heap.size ≤ w2.heap.size := HB2.out.size
  obtain ⟨W0, hW0, hg0, hz0, hB0⟩ : ∃ W0, w2.alloc (.cells (bv (List.replicate u0.size 0)) 5) = W0 ∧ W0.heap[w2.heap.size]? = some (.cells (bv (List.replicate u0.size 0)) 5 (0, 0)) ∧ W0.heap.size = w2.heap.size + 1 ∧ Below w.heap.size w W0 :=
    ⟨_, rfl, heap_alloc_new w2 _, by simp, HB2.out.alloc hsz2 _⟩
  rw [hW0]
  have HB0 := Aside0.mk hB0
  have HG0 := Aside0.mk hg0
  clear hW0 hB0 hg0 hc2 hmk
  go_loopw [47] (fun i wr => ∃ k : Nat, k ≤ l1.length ∧ i = .int .i64 k ∧ Aside0 (Below w.heap.size w wr) ∧ Aside0 (wr.heap[w2.heap.size]? = some (.cells (bv (sumF 16 l1 l2 u0.size k)) 5 (0, 0)))) (fun i _ => l1.length - (intOf i).toNat)
  case atStart => exact ⟨0, Nat.zero_le _, rfl, HB0, HG0⟩
  case round =>
    obtain ⟨k, hk, rfl, HBr, HGr⟩ := hrel
    by_cases hlt : k < l1.length
    · have hlt2 : k < l2.length := by have := HL.out; omega
      obtain ⟨a1, rfl, hy1⟩ := Kd.at_int HR1.out (k : Int) (by omega) (by omega)
      obtain ⟨a2, e2, hy2⟩ := Kd.at_string HR2.out (k : Int) (by omega) (by omega)
      cases e2
      have hz1 : wr.cell? (a1.add k) = some (.int .i64 (rd l1 k)) := pw_cell_below HBr.out hy1
      have hz2 : wr.cell? (ad.add k) = some (.string (rdOf ByteArray.empty l2 k)) := pw_cell_below HBr.out hy2
      have hck := any_bad 16 l1 HA.out k hlt
      have hlk := any_len (u0.size : Int) l2 HALL.out k hlt2
      clear hy1 hy2
      obtain ⟨c, hc⟩ : ∃ c, rd l1 k = c := ⟨_, rfl⟩
      obtain ⟨u, hu⟩ : ∃ u, rdOf ByteArray.empty l2 k = u := ⟨_, rfl⟩
      rw [hc] at hz1 hck
      rw [hu] at hz2 hlk
      have HC := Aside0.mk hc
      have HUU := Aside0.mk hu
      have hck' : 0 ≤ c ∧ c < 65536 := hck
      have hus : u.size = u0.size := by omega
      have HS := Aside0.mk hus
      clear hc hu hck hlk hus
      go_wp2_with fail
      have hacc := acc16 c hck' u (by have := HS.out; omega) (by have := HS.out; omega) w2.heap.size u0.size (by have := HF.out.lt; omega) (sumF 16 l1 l2 u0.size k) (by rw [sumF_len, HS.out]) wr (HF.out.below HBr.out) HGr.out
      rw [HS.out] at hacc
      refine hacc.mono ?_
      rintro e w5 ⟨rfl, hg5, hh5⟩
      have HB5 := Aside0.mk (pw_below_grown HBr.out (some w2.heap.size) HBr.out.size hg5 (fun k hk => by cases hk; exact hsz2))
      have HG5 := Aside0.mk (show w5.heap[w2.heap.size]? = some (.cells (bv (sumF 16 l1 l2 u0.size (k + 1))) 5 (0, 0)) by
        rw [hh5]; simp only [sumF, accF]; rw [HC.out, HUU.out, HS.out]; rfl)
      clear hg5 hh5 hacc
      go_wp2
      go_roundw
      case rel => exact ⟨k + 1, by omega, by go_num, HB5, HG5⟩
      case measure => simp [intOf]; omega
    · obtain rfl : k = l1.length := by omega
      have hcv := run_convert_bytes_arg (P := Tryd.prog) wr 50 5 Tryd.underlying50 Tryd.underlying5 w2.heap.size 0 u0.size u0.size (sumF 16 l1 l2 u0.size l1.length) (sumF_len _ _ _ _ _)
        (fun i hi => by rw [cell_of_row _ _ _ _ _ _ HGr.out, Nat.zero_add, bv_get _ _ (by rw [sumF_len]; exact hi)]; simp [rd]) 9 Tryd.underlying9
      go_wp2
      go_ret2
      exact ⟨rfl, HBr.out⟩

set_option maxRecDepth 100000 in
set_option maxHeartbeats 4000000 in
theorem comb_odd_16 (A1 : Option Addr) (c1 : Nat) (l1 : List Int) (A2 : Option Addr) (c2 : Nat) (l2 : List ByteArray) (w : World) (hff : FF w) (hr1 : Kd.C (Kd.int .i64) w A1 l1.length l1) (hr2 : Kd.C Kd.string w A2 l2.length l2)
    (ha : allF 16 l1 = true) (h0 : 0 < l1.length) (hl : l1.length = l2.length) (n : Nat) (hn : (rdOf ByteArray.empty l2 0).size = n) (hdiv : n % 2 = 1) :
    Calls Tryd.prog 10 #[.int .i64 16, .slice A1 l1.length c1, .slice A2 l2.length c2] w fun e w' => e = .returned (.tuple #[.string ⟨#[]⟩, .int .i64 1]) ∧ Below w.heap.size w w' := by
  have HF := Aside0.mk hff
  have HR1 := Aside0.mk hr1
  have HR2 := Aside0.mk hr2
  have HA := Aside0.mk ha
  skip
  have b0 : ((l1.length : Int) == 0) = false := by simp; intro h; simp [h] at h0
  have b1 : ((l1.length : Int) != (l2.length : Int)) = false := by simp; omega
  have h0' : 0 < l2.length := by omega
  obtain ⟨ad, rfl, hx0⟩ := Kd.at_string hr2 0 (by omega) (by omega)
  obtain ⟨u0, hu0⟩ : ∃ u0, rdOf ByteArray.empty l2 0 = u0 := ⟨_, rfl⟩
  rw [hu0] at hx0 hn
  subst hn
  have hx : w.cell? ad = some (.string u0) := by
    rw [show ((0 : Int)).toNat = 0 from rfl, Addr.add_zero'] at hx0
    exact hx0
  have HX := Aside0.mk hx
  have hdv : (((u0.size : Int) % 2) != 0) = true := by simp; omega
  clear hff hr1 hr2 ha hl hx0 hx hu0
  go_enter Tryd.func10, Tryd.ntmps10
  go_wp2_with fail
  refine (all31 16 _ _ _ _ HF.out HR1.out).mono ?_
  rw [HA.out]
  rintro e w1 ⟨rfl, hb⟩
  have HB1 := Aside0.mk hb
  have hx1 : w1.cell? ad = some (.string u0) := pw_cell_below hb HX.out
  have q0 : decide (0 < l2.length) = true := decide_eq_true h0'
  clear hb
  go_wp2
  go_ret2
  exact ⟨rfl, HB1.out.alloc HB1.out.size _⟩

set_option maxRecDepth 100000 in
set_option maxHeartbeats 4000000 in
theorem comb_len_8 (A1 : Option Addr) (c1 : Nat) (l1 : List Int) (A2 : Option Addr) (c2 : Nat) (l2 : List ByteArray) (w : World) (hff : FF w) (hr1 : Kd.C (Kd.int .i64) w A1 l1.length l1) (hr2 : Kd.C Kd.string w A2 l2.length l2)
    (ha : allF 8 l1 = true) (h0 : 0 < l1.length) (hl : l1.length = l2.length) (n : Nat) (hn : (rdOf ByteArray.empty l2 0).size = n) (hdiv : n % 1 = 0) (hall : l2.any (badN n) = true) :
    Calls Tryd.prog 10 #[.int .i64 8, .slice A1 l1.length c1, .slice A2 l2.length c2] w fun e w' => e = .returned (.tuple #[.string ⟨#[]⟩, .int .i64 1]) ∧ Below w.heap.size w w' := by
  have HF := Aside0.mk hff
  have HR1 := Aside0.mk hr1
  have HR2 := Aside0.mk hr2
  have HA := Aside0.mk ha
  have HALL := Aside0.mk hall
  have b0 : ((l1.length : Int) == 0) = false := by simp; intro h; simp [h] at h0
  have b1 : ((l1.length : Int) != (l2.length : Int)) = false := by simp; omega
  have h0' : 0 < l2.length := by omega
  obtain ⟨ad, rfl, hx0⟩ := Kd.at_string hr2 0 (by omega) (by omega)
  obtain ⟨u0, hu0⟩ : ∃ u0, rdOf ByteArray.empty l2 0 = u0 := ⟨_, rfl⟩
  rw [hu0] at hx0 hn
  subst hn
  have hx : w.cell? ad = some (.string u0) := by
    rw [show ((0 : Int)).toNat = 0 from rfl, Addr.add_zero'] at hx0
    exact hx0
  have HX := Aside0.mk hx
  skip
  clear hff hr1 hr2 ha hl hx0 hx hu0 hall
  go_enter Tryd.func10, Tryd.ntmps10
  go_wp2_with fail
  refine (all31 8 _ _ _ _ HF.out HR1.out).mono ?_
  rw [HA.out]
  rintro e w1 ⟨rfl, hb⟩
  have HB1 := Aside0.mk hb
  have hx1 : w1.cell? ad = some (.string u0) := pw_cell_below hb HX.out
  have q0 : decide (0 < l2.length) = true := decide_eq_true h0'
  clear hb
  go_wp2_with fail
  have hR2 : Kd.C Kd.string (w1.alloc (.cells #[.int .i64 (u0.size : Int)] 3)) (some ad) l2.length l2 := Kd.C_alloc (Kd.C_below HR2.out HB1.out) _
  refine (every32 (u0.size : Int) _ _ _ ⟨w1.heap.size, 0, none⟩ _ hR2 (cell_new w1 _ 3)).mono ?_
  rw [HALL.out]
  rintro e w2 ⟨rfl, hb2⟩
  have HB2 := Aside0.mk (below_then (HB1.out.alloc HB1.out.size _) (by have := HB1.out.size; simp; omega) hb2)
  clear hb2 hR2 hx1
  go_wp2
  go_ret2
  exact ⟨rfl, HB2.out⟩

set_option maxRecDepth 100000 in
set_option maxHeartbeats 4000000 in
theorem comb_len_16 (A1 : Option Addr) (c1 : Nat) (l1 : List Int) (A2 : Option Addr) (c2 : Nat) (l2 : List ByteArray) (w : World) (hff : FF w) (hr1 : Kd.C (Kd.int .i64) w A1 l1.length l1) (hr2 : Kd.C Kd.string w A2 l2.length l2)
    (ha : allF 16 l1 = true) (h0 : 0 < l1.length) (hl : l1.length = l2.length) (n : Nat) (hn : (rdOf ByteArray.empty l2 0).size = n) (hdiv : n % 2 = 0) (hall : l2.any (badN n) = true) :
    Calls Tryd.prog 10 #[.int .i64 16, .slice A1 l1.length c1, .slice A2 l2.length c2] w fun e w' => e = .returned (.tuple #[.string ⟨#[]⟩, .int .i64 1]) ∧ Below w.heap.size w w' := by
  have HF := Aside0.mk hff
  have HR1 := Aside0.mk hr1
  have HR2 := Aside0.mk hr2
  have HA := Aside0.mk ha
  have HALL := Aside0.mk hall
  have b0 : ((l1.length : Int) == 0) = false := by simp; intro h; simp [h] at h0
  have b1 : ((l1.length : Int) != (l2.length : Int)) = false := by simp; omega
  have h0' : 0 < l2.length := by omega
  obtain ⟨ad, rfl, hx0⟩ := Kd.at_string hr2 0 (by omega) (by omega)
  obtain ⟨u0, hu0⟩ : ∃ u0, rdOf ByteArray.empty l2 0 = u0 := ⟨_, rfl⟩
  rw [hu0] at hx0 hn
  subst hn
  have hx : w.cell? ad = some (.string u0) := by
    rw [show ((0 : Int)).toNat = 0 from rfl, Addr.add_zero'] at hx0
    exact hx0
  have HX := Aside0.mk hx
  have hdv : (((u0.size : Int) % 2) != 0) = false := by simp; omega
  clear hff hr1 hr2 ha hl hx0 hx hu0 hall
  go_enter Tryd.func10, Tryd.ntmps10
  go_wp2_with fail
  refine (all31 16 _ _ _ _ HF.out HR1.out).mono ?_
  rw [HA.out]
  rintro e w1 ⟨rfl, hb⟩
  have HB1 := Aside0.mk hb
  have hx1 : w1.cell? ad = some (.string u0) := pw_cell_below hb HX.out
  have q0 : decide (0 < l2.length) = true := decide_eq_true h0'
  clear hb
  go_wp2_with fail
  have hR2 : Kd.C Kd.string (w1.alloc (.cells #[.int .i64 (u0.size : Int)] 3)) (some ad) l2.length l2 := Kd.C_alloc (Kd.C_below HR2.out HB1.out) _
  refine (every32 (u0.size : Int) _ _ _ ⟨w1.heap.size, 0, none⟩ _ hR2 (cell_new w1 _ 3)).mono ?_
  rw [HALL.out]
  rintro e w2 ⟨rfl, hb2⟩
  have HB2 := Aside0.mk (below_then (HB1.out.alloc HB1.out.size _) (by have := HB1.out.size; simp; omega) hb2)
  clear hb2 hR2 hx1
  go_wp2
  go_ret2
  exact ⟨rfl, HB2.out⟩
end Go.Proofs.YtgmjaiknboafdaaDoor.H

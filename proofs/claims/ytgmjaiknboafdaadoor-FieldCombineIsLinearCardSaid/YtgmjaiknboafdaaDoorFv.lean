/- Combinations of units: field.Combine and the reference's answer alike. -/
import Derived.Test.YtgmjaiknboafdaaDoorFt
namespace Go.Proofs.YtgmjaiknboafdaaDoor.H
open Go.RowKit Go.Proofs.YtgmjaiknboafdaaDoorW.PrintWords Go.Proofs.YtgmjaiknboafdaaDoorW.PrintLast Go.Proofs.YtgmjaiknboafdaaDoorW.PrintMore Go.Proofs.YtgmjaiknboafdaaDoor.P
set_option linter.unusedVariables false

/-- what field.Combine asks of its arguments -/
structure Good (m : Int) (l1 : List Int) (l2 : List ByteArray) : Prop where
  pos : 0 < l1.length
  len : l1.length = l2.length
  el : ∀ j : Nat, j < l1.length → El m (rd l1 (j : Int))
  sz : ∀ j : Nat, j < l1.length → (rdOf ByteArray.empty l2 (j : Int)).size = (rdOf ByteArray.empty l2 0).size
  ev : m = 16 → (rdOf ByteArray.empty l2 0).size % 2 = 0

theorem rd_mem (l : List Int) (x : Int) (h : x ∈ l) : ∃ j : Nat, j < l.length ∧ rd l (j : Int) = x := by
  obtain ⟨j, hj, e⟩ := List.mem_iff_getElem.1 h
  exact ⟨j, hj, by simp [rd, List.getElem?_eq_getElem hj, e]⟩
theorem rdOf_mem (l : List ByteArray) (x : ByteArray) (h : x ∈ l) : ∃ j : Nat, j < l.length ∧ rdOf ByteArray.empty l (j : Int) = x := by
  obtain ⟨j, hj, e⟩ := List.mem_iff_getElem.1 h
  exact ⟨j, hj, by simp [rdOf, List.getElem?_eq_getElem hj, e]⟩

theorem all_list {m : Int} {l1 : List Int} (hne : 0 < l1.length) : allF m l1 = true ↔ ∀ j : Nat, j < l1.length → El m (rd l1 (j : Int)) := by
  unfold allF
  rw [Bool.and_eq_true, Bool.not_eq_true', List.any_eq_false, decide_eq_true_eq]
  constructor
  · rintro ⟨hm, h⟩ j hj
    obtain ⟨n, rfl, hn⟩ := ok_int hm
    have := h (rd l1 (j : Int)) (by simp [rd, List.getElem?_eq_getElem hj])
    exact (bad_iff hn _).1 (by simpa using this)
  · intro h
    obtain ⟨n, x, hn, rfl, _⟩ := h 0 hne
    refine ⟨ok_iff hn, fun x hx => ?_⟩
    obtain ⟨j, hj, e⟩ := rd_mem l1 x hx
    have := (bad_iff hn _).2 (h j hj)
    rw [e] at this
    simp [this]

theorem comb_good {n : Nat} (hn : Gf.Ok n) {l1 : List Int} {l2 : List ByteArray} (h : Good (n : Int) l1 l2) (hb : (rdOf ByteArray.empty l2 0).size ≤ 100000) :
    field_Combine.f (n : Int) l1 l2 = some (strOfNums (bl (rdOf ByteArray.empty l2 0).size (xs n (coN l1) (unN l2) l1.length)), 0) := by
  have hall := (all_list h.pos).2 h.el
  have hbl : ¬ badL (n : Int) l1 l2 = true := by
    unfold badL
    have := h.pos
    have := h.len
    simp [hall]
    constructor
    · intro e; simp [e] at *
    · omega
  have hodd : ¬ ((n : Int) = 16 ∧ (rdOf ByteArray.empty l2 0).size % 2 = 1) := by
    rintro ⟨e, ho⟩
    have := h.ev e
    omega
  have hlen : ¬ l2.any (badN (rdOf ByteArray.empty l2 0).size) = true := by
    rw [List.any_eq_true]
    rintro ⟨x, hx, hbx⟩
    obtain ⟨j, hj, e⟩ := rdOf_mem l2 x hx
    have := h.sz j (by have := h.len; omega)
    rw [e] at this
    simp [badN, this] at hbx
  unfold field_Combine.f
  rw [if_neg hbl, if_neg hodd, if_neg hlen, if_pos (by omega)]
  rw [sum_eq hn l1 l2 _ _ (fun e => h.ev (by omega)) (fun j hj => by
    obtain ⟨n', hn', e, h1, h2⟩ := (h.el j hj).range
    have : n = n' := by omega
    subst this
    exact ⟨h1, h2⟩) (fun j hj => h.sz j hj)]

theorem comb_off {m : Int} {l1 : List Int} {l2 : List ByteArray} (h : ¬ Good m l1 l2) : field_Combine.f m l1 l2 = some (⟨#[]⟩, 1) := by
  unfold field_Combine.f
  by_cases h1 : badL m l1 l2 = true
  · rw [if_pos h1]
  · rw [if_neg h1]
    by_cases h2 : m = 16 ∧ (rdOf ByteArray.empty l2 0).size % 2 = 1
    · rw [if_pos h2]
    · rw [if_neg h2]
      by_cases h3 : l2.any (badN (rdOf ByteArray.empty l2 0).size) = true
      · rw [if_pos h3]
      · exfalso
        apply h
        have hb : allF m l1 = true ∧ 0 < l1.length ∧ l1.length = l2.length := by
          unfold badL at h1
          simp only [Bool.or_eq_true, Bool.not_eq_true', beq_iff_eq, bne_iff_ne, not_or, Bool.not_eq_false, ne_eq, Decidable.not_not] at h1
          exact ⟨h1.1.1, by omega, h1.2⟩
        obtain ⟨b1, b2, b3⟩ := hb
        refine ⟨b2, b3, (all_list b2).1 b1, fun j hj => ?_, fun e => ?_⟩
        · have := any_len (rdOf ByteArray.empty l2 0).size l2 (by simpa using h3) j (by omega)
          omega
        · have : ¬ (rdOf ByteArray.empty l2 0).size % 2 = 1 := fun ho => h2 ⟨e, ho⟩
          omega

/-- what the reference asks of element j -/
def G1 (m : Int) (l1 : List Int) (l2 : List ByteArray) (j : Nat) : Prop :=
  El m (rd l1 (j : Int)) ∧ (m = 16 → (rdOf ByteArray.empty l2 (j : Int)).size % 2 = 0) ∧ (rdOf ByteArray.empty l2 (j : Int)).size = (rdOf ByteArray.empty l2 0).size

theorem rcomb_loop {n : Nat} (hn : Gf.Ok n) (l1 : List Int) (l2 : List ByteArray) (hl : l1.length = l2.length) (hl2 : l1.length ≤ 1000) (hb : ∀ j : Nat, (rdOf ByteArray.empty l2 (j : Int)).size ≤ 100000) (d : Nat) :
    ∀ (k i : Nat), l1.length = i + d → d + 200000 < k → (∀ j, j < i → G1 (n : Int) l1 l2 j) →
    ((∀ j, j < l1.length → G1 (n : Int) l1 l2 j) → solventref05_Combine.l0 k (n : Int) l1 l2 (strOfNums (bl (rdOf ByteArray.empty l2 0).size (xs n (coN l1) (unN l2) i))) (i : Int) = some (strOfNums (bl (rdOf ByteArray.empty l2 0).size (xs n (coN l1) (unN l2) l1.length)), 0)) ∧
    (¬ (∀ j, j < l1.length → G1 (n : Int) l1 l2 j) → solventref05_Combine.l0 k (n : Int) l1 l2 (strOfNums (bl (rdOf ByteArray.empty l2 0).size (xs n (coN l1) (unN l2) i))) (i : Int) = some (⟨#[]⟩, 1)) := by
  induction d with
  | zero =>
    intro k i hi hk hpre
    obtain ⟨k, rfl⟩ : ∃ q, k = q + 1 := ⟨k - 1, by omega⟩
    refine ⟨fun _ => ?_, fun h => absurd (fun j hj => hpre j (by omega)) h⟩
    simp only [solventref05_Combine.l0]
    rw [if_neg (by omega), show l1.length = i by omega]
  | succ d ih =>
    intro k i hi hk hpre
    obtain ⟨k, rfl⟩ : ∃ q, k = q + 1 := ⟨k - 1, by omega⟩
    have p0 : (i : Int) < (l1.length : Int) := by omega
    have p1 : (0 : Int) ≤ (i : Int) := by omega
    have p2 : (i : Int) < (l2.length : Int) := by omega
    have hbi := hb i
    have hb0 : (rdOf ByteArray.empty l2 0).size ≤ 100000 := hb 0
    have e1 : wrap64 ((i : Int) + 1) = ((i + 1 : Nat) : Int) := by rw [w64 (by omega) (by omega)]; omega
    simp only [solventref05_Combine.l0]
    rw [if_pos p0, if_pos p1, if_pos p2, e1]
    clear e1 p0 p1 p2
    by_cases hg : G1 (n : Int) l1 l2 i
    · obtain ⟨g1, g2, g3⟩ := hg
      obtain ⟨n', hn', en, r1, r2⟩ := g1.range
      have : n = n' := by omega
      subst this
      have ec : rd l1 (i : Int) = ((coN l1 i : Nat) : Int) := by unfold coN; omega
      have hcl : ∀ j, j < i + 1 → coN l1 j < 2 ^ n := fun j hj => by
        have hgj : G1 (n : Int) l1 l2 j := by
          by_cases e : j = i
          · subst e; exact ⟨g1, g2, g3⟩
          · exact hpre j (by omega)
        obtain ⟨n', _, en, r1, r2⟩ := hgj.1.range
        have : n = n' := by omega
        subst this
        unfold coN
        have h2 : (((rd l1 (j : Int)).toNat : Nat) : Int) < ((2 ^ n : Nat) : Int) := by rw [Int.toNat_of_nonneg r1]; exact_mod_cast r2
        exact_mod_cast h2
      rw [ec, rScale_ok hn (hcl i (by omega)) _ hbi (fun e => g2 (by omega)) k (by omega), Option.bind_some, if_pos rfl]
      simp only
      rw [g3, rXor_ok _ _ (by rw [str_size, str_size]) (by rw [str_size]; exact hb0) k (by omega), Option.bind_some, if_pos rfl, str_size]
      have hx : bl (rdOf ByteArray.empty l2 0).size (xb (strOfNums (bl (rdOf ByteArray.empty l2 0).size (xs n (coN l1) (unN l2) i))) (strOfNums (bl (rdOf ByteArray.empty l2 0).size (sb n (coN l1 i) (by_ (rdOf ByteArray.empty l2 (i : Int))))))) = bl (rdOf ByteArray.empty l2 0).size (xs n (coN l1) (unN l2) (i + 1)) := by
        apply bl_congr
        intro q hq
        unfold xb
        rw [str_by _ _ _ hq (xs_lt hn _ _ i (fun j hj => hcl j (by omega)) q), str_by _ _ _ hq (sb_lt hn (hcl i (by omega)) _ q)]
        rfl
      simp only
      rw [hx]
      exact ih k (i + 1) (by omega) (by omega) (fun j hj => by
        by_cases e : j = i
        · subst e; exact ⟨g1, g2, g3⟩
        · exact hpre j (by omega))
    · refine ⟨fun h => absurd (h i (by omega)) hg, fun _ => ?_⟩
      by_cases h1 : El (n : Int) (rd l1 (i : Int)) ∧ ((n : Int) = 16 → (rdOf ByteArray.empty l2 (i : Int)).size % 2 = 0)
      · have h3 : ¬ (rdOf ByteArray.empty l2 (i : Int)).size = (rdOf ByteArray.empty l2 0).size := fun e => hg ⟨h1.1, h1.2, e⟩
        obtain ⟨n', x, hn', en, ex, hx⟩ := h1.1
        have : n = n' := by omega
        subst this
        rw [ex, rScale_ok hn hx _ hbi (fun e => h1.2 (by omega)) k (by omega), Option.bind_some, if_pos rfl]
        simp only
        rw [rXor_bad _ _ (by rw [str_size, str_size]; exact fun e => h3 e.symm), Option.bind_some, if_neg (by decide)]
      · rw [rScale_bad _ h1 k (by omega), Option.bind_some, if_neg (by decide)]

theorem combine_same (m : Int) (l1 : List Int) (l2 : List ByteArray) (hl2 : l1.length ≤ 1000) (hb : ∀ j : Nat, (rdOf ByteArray.empty l2 (j : Int)).size ≤ 100000) (k : Nat) (hk : 300000 ≤ k) :
    ∃ r, field_Combine.f m l1 l2 = some r ∧ solventref05_Combine.f k m l1 l2 = some r := by
  obtain ⟨k, rfl⟩ : ∃ q, k = q + 1 := ⟨k - 1, by omega⟩
  have hb0 : (rdOf ByteArray.empty l2 0).size ≤ 100000 := hb 0
  unfold solventref05_Combine.f
  by_cases h0 : l1.length = 0
  · rw [comb_off (fun h => by have := h.pos; omega), if_pos (by omega)]
    refine ⟨_, rfl, ?_⟩
    simp only [solventref05_Combine.j0]
    rw [if_pos trivial]
  · rw [if_neg (by omega)]
    by_cases hl : l1.length = l2.length
    · have hne : ((l1.length : Int) != (l2.length : Int)) = false := by simp; omega
      rw [hne]
      simp only [solventref05_Combine.j0]
      have hz : ((rdOf ByteArray.empty l2 0).size : Int).toNat = (rdOf ByteArray.empty l2 0).size := by omega
      rw [if_neg (by decide), if_pos (by omega), if_pos (by omega), hz, if_pos (by omega)]
      have hrep : List.replicate (rdOf ByteArray.empty l2 0).size (0 : Int) = bl (rdOf ByteArray.empty l2 0).size (xs 0 (coN l1) (unN l2) 0) := by
        apply bl_of
        · simp
        · intro i hi; simp [rd, xs, hi]
      by_cases hm : m = 8 ∨ m = 16
      · obtain ⟨n, rfl, hn⟩ := ok_int hm
        obtain ⟨g1, g2⟩ := rcomb_loop hn l1 l2 hl hl2 hb l1.length k 0 (by omega) (by omega) (fun j hj => by omega)
        have hxs : xs 0 (coN l1) (unN l2) 0 = xs n (coN l1) (unN l2) 0 := rfl
        rw [hrep, hxs]
        by_cases hg : ∀ j, j < l1.length → G1 (n : Int) l1 l2 j
        · refine ⟨_, comb_good hn ⟨by omega, hl, fun j hj => (hg j hj).1, fun j hj => (hg j hj).2.2, fun e => (hg 0 (by omega)).2.1 e⟩ hb0, g1 hg⟩
        · refine ⟨_, comb_off (fun h => hg fun j hj => ⟨h.el j hj, fun e => by rw [h.sz j hj]; exact h.ev e, h.sz j hj⟩), g2 hg⟩
      · refine ⟨_, comb_off (fun h => ?_), ?_⟩
        · obtain ⟨n, x, hn, e, _⟩ := h.el 0 h.pos
          exact hm (e ▸ ok_iff hn)
        · obtain ⟨k, rfl⟩ : ∃ q, k = q + 1 := ⟨k - 1, by omega⟩
          simp only [solventref05_Combine.l0]
          rw [if_pos (by omega), if_pos (by omega), if_pos (by omega), rScale_bad _ (fun h => by
            obtain ⟨⟨n, x, hn, e, _⟩, _⟩ := h
            exact hm (e ▸ ok_iff hn)) k (by omega), Option.bind_some, if_neg (by decide)]
    · have hne : ((l1.length : Int) != (l2.length : Int)) = true := by simp; omega
      rw [comb_off (fun h => hl h.len), hne]
      refine ⟨_, rfl, ?_⟩
      simp only [solventref05_Combine.j0]
      rw [if_pos trivial]

theorem scale_same (m c : Int) (u : ByteArray) (hu : u.size ≤ 100000) (k : Nat) (hk : 300000 ≤ k) : ∃ r, field_Scale.f m c u = some r ∧ solventref05_Scale.f k m c u = some r := by
  have r0 : ∀ j : Nat, j < 1 → rdOf ByteArray.empty [u] (j : Int) = u := fun j hj => by
    obtain rfl : j = 0 := by omega
    rfl
  by_cases h : El m c ∧ (m = 16 → u.size % 2 = 0)
  · obtain ⟨⟨n, x, hn, rfl, rfl, hx⟩, hev⟩ := h
    have hg : Good (n : Int) [(x : Int)] [u] := ⟨by simp, rfl, fun j hj => by
      obtain rfl : j = 0 := by simpa using hj
      exact El.mk hn hx, fun j hj => by
      obtain rfl : j = 0 := by simpa using hj
      rfl, fun e => hev e⟩
    refine ⟨_, ?_, rScale_ok hn hx u hu (fun e => hev (by omega)) k (by omega)⟩
    have hc := comb_good hn hg hu
    unfold field_Scale.f
    rw [hc, Option.bind_some]
    have e : bl u.size (xs n (coN [(x : Int)]) (unN [u]) 1) = bl u.size (sb n x (by_ u)) := by
      apply bl_congr
      intro i hi
      show 0 ^^^ sb n (coN [(x : Int)] 0) (unN [u] 0) i = _
      rw [Nat.zero_xor]
      rfl
    exact congrArg (fun z => some (strOfNums z, (0 : Int))) e
  · refine ⟨_, ?_, rScale_bad u h k (by omega)⟩
    unfold field_Scale.f
    rw [comb_off (fun hg => h ⟨hg.el 0 (by simp), hg.ev⟩), Option.bind_some]

theorem xor_same (a b : ByteArray) (hu : a.size ≤ 100000) (k : Nat) (hk : 300000 ≤ k) : ∃ r, field_Xor.f a b = some r ∧ solventref05_Xor.f k a b = some r := by
  by_cases he : a.size = b.size
  · exact ⟨_, fXor_ok a b he hu, rXor_ok a b he hu k (by omega)⟩
  · exact ⟨_, fXor_bad a b he, rXor_bad a b he k⟩

end Go.Proofs.YtgmjaiknboafdaaDoor.H

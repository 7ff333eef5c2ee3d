/-
  PagefileTorn: plain.
-/
import Derived.Test.YtfbbbbekialpnaaTorP
import Derived.Test.YtfbbbbekialpnaaPgs
namespace Go.Proofs.Ytfbbbbekialpnaa
open Go.RowKit
set_option maxRecDepth 100000

theorem hits_page {k : Nat} {j : Int} : hits (k * 256) 256 j = true ↔ (4 * (k : Int) ≤ j ∧ j < 4 * (k : Int) + 4) := by
  unfold hits
  rw [List.any_eq_true]
  constructor
  · rintro ⟨i, hi, he⟩
    have h1 := List.mem_range.1 hi
    have h2 : (((k * 256 + i) / 64 : Nat) : Int) = j := by simpa using he
    omega
  · rintro ⟨h1, h2⟩
    obtain ⟨t, rfl⟩ := Int.eq_ofNat_of_zero_le (show 0 ≤ j by omega)
    refine ⟨64 * (t - 4 * k), List.mem_range.2 (by omega), ?_⟩
    have : (k * 256 + 64 * (t - 4 * k)) / 64 = t := by omega
    simp [this]
theorem overZ_getD_out {l m : List UInt8} {p i : Nat} (hp : p ≤ l.length) (hi : i < p ∨ p + m.length ≤ i) : (overZ l p m).getD i 0 = l.getD i 0 := by
  simp only [List.getD_eq_getElem?_getD]
  congr 1
  unfold overZ
  have ht : (l.take p).length = p := List.length_take_of_le hp
  rcases hi with hi | hi
  · rw [List.append_assoc, List.getElem?_append_left (by omega), List.getElem?_take, if_pos hi]
  · rw [List.getElem?_append_right (by simp; omega), List.getElem?_drop]
    congr 1
    simp
    omega
theorem overZ_getD_in {l m : List UInt8} {p i : Nat} (hp : p ≤ l.length) (h1 : p ≤ i) (h2 : i < p + m.length) : (overZ l p m).getD i 0 = m.getD (i - p) 0 := by
  simp only [List.getD_eq_getElem?_getD]
  congr 1
  unfold overZ
  have ht : (l.take p).length = p := List.length_take_of_le hp
  rw [List.append_assoc, List.getElem?_append_right (by omega), List.getElem?_append_left (by omega), ht]
/-- the page k was written anew over c; F is what stays of that. -/
structure Torn (c c2 F P : List UInt8) (n k : Nat) (keep : List Int) (ls : List Sec) : Prop where
  lc : c.length = 256 * n
  kn : k ≤ n
  lc2 : c2.length = 256 * max n (k + 1)
  lp : P.length = 256
  out : ∀ i, i / 256 ≠ k → c2.getD i 0 = c.getD i 0
  in_ : ∀ i, i / 256 = k → c2.getD i 0 = P.getD (i - 256 * k) 0
  tr : TornR c2 c keep ls F
  lss : ∀ q, 4 * k ≤ q → q < 4 * k + 4 → ∃ x ∈ ls, x.page.toNat = q
section
variable {c c2 F P : List UInt8} {n k : Nat} {keep : List Int} {ls : List Sec}
theorem pgA_getD {l : List UInt8} {i j : Nat} (hj : j < 256) : (pgA l i).getD j 0 = l.getD (256 * i + j) 0 := by
  simp only [List.getD_eq_getElem?_getD]
  rw [pgA_at l i j hj]
theorem list_getD_ext {a b : List UInt8} (hl : a.length = b.length) (h : ∀ i, i < a.length → a.getD i 0 = b.getD i 0) : a = b := by
  apply List.ext_getElem hl
  intro i h1 h2
  have := h i h1
  simpa [List.getD, h1, h2] using this
theorem Torn.got (h : Torn c c2 F P n k keep ls) {i : Nat} (hi : i < F.length) : F.getD i 0 = c.getD i 0 ∨ (i / 256 = k ∧ F.getD i 0 = P.getD (i - 256 * k) 0) := by
  rw [h.tr.at_ i hi]
  unfold wantB
  have hz : ¬ i < c.length → c.getD i 0 = 0 := fun hn => by
    simp only [List.getD_eq_getElem?_getD]
    rw [List.getElem?_eq_none (by omega)]; rfl
  split
  · by_cases e : i / 256 = k
    · exact .inr ⟨e, h.in_ i e⟩
    · exact .inl (h.out i e)
  · split
    · exact .inl rfl
    · next hn => exact .inl (hz hn).symm
theorem Torn.page (h : Torn c c2 F P n k keep ls) {i : Nat} (hi : i < n) (hne : i ≠ k) : pgA F i = pgA c i := by
  have hlF := h.tr.ge
  have hc := h.lc
  have l1 : (pgA F i).length = 256 := by unfold pgA; rw [List.length_take, List.length_drop]; omega
  have l2 := pgA_len h.lc hi
  refine list_getD_ext (by omega) fun j hj => ?_
  rw [l1] at hj
  rw [pgA_getD hj, pgA_getD hj]
  rcases h.got (i := 256 * i + j) (by omega) with e | ⟨e, _⟩
  · exact e
  · exact absurd (by omega : i = k) hne
theorem Torn.none_ (h : Torn c c2 F P n k keep ls) (hk : k < n) (hs : ∀ j, j < ls.length → memI keep (j : Int) = false) : pgA F k = pgA c k := by
  have hlF := h.tr.ge
  have hc := h.lc
  have l1 : (pgA F k).length = 256 := by unfold pgA; rw [List.length_take, List.length_drop]; omega
  have l2 := pgA_len h.lc hk
  refine list_getD_ext (by omega) fun j hj => ?_
  rw [l1] at hj
  rw [pgA_getD hj, pgA_getD hj, h.tr.at_ _ (by omega)]
  unfold wantB
  have : staysB keep ls ls.length ((256 * k + j) / 64) = false := by
    unfold staysB
    rw [List.any_eq_false]
    intro t ht
    rw [hs t (List.mem_range.1 ht)]
    simp
  rw [this, if_neg (by simp), if_pos (by omega)]
theorem Torn.all_ (h : Torn c c2 F P n k keep ls) (hs : ∀ j, j < ls.length → memI keep (j : Int) = true) : 256 * (k + 1) ≤ F.length ∧ pgA F k = P := by
  have hc2 := h.lc2
  have hst : ∀ q, 4 * k ≤ q → q < 4 * k + 4 → ∃ t, t < ls.length ∧ (∃ x, ls[t]? = some x ∧ x.page.toNat = q) := fun q h1 h2 => by
    obtain ⟨x, hx, e⟩ := h.lss q h1 h2
    obtain ⟨t, ht⟩ := List.mem_iff_getElem?.1 hx
    exact ⟨t, (List.getElem?_eq_some_iff.1 ht).1, x, ht, e⟩
  have hlen : 256 * (k + 1) ≤ F.length := by
    obtain ⟨t, ht, x, hx, e⟩ := hst (4 * k + 3) (by omega) (by omega)
    have := h.tr.far t x hx (hs t ht)
    rw [e] at this
    omega
  refine ⟨hlen, ?_⟩
  have l1 : (pgA F k).length = 256 := by unfold pgA; rw [List.length_take, List.length_drop]; omega
  refine list_getD_ext (by rw [l1, h.lp]) fun j hj => ?_
  rw [l1] at hj
  rw [pgA_getD hj, h.tr.at_ _ (by omega)]
  unfold wantB
  have : staysB keep ls ls.length ((256 * k + j) / 64) = true := by
    obtain ⟨t, ht, x, hx, e⟩ := hst ((256 * k + j) / 64) (by omega) (by omega)
    unfold staysB
    rw [List.any_eq_true]
    refine ⟨t, List.mem_range.2 ht, ?_⟩
    rw [hx, hs t ht]
    simp [e]
  rw [if_pos this, h.in_ _ (by omega)]
  congr 1
  omega
end
end Go.Proofs.Ytfbbbbekialpnaa

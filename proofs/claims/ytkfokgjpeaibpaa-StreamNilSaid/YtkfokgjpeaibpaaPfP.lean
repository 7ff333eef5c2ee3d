/-
  A file of pages as plain data.
-/
import Derived.Test.YtkfokgjpeaibpaaPgP
import Derived.Test.YtkfokgjpeaibpaaDk
namespace Go.Proofs.Ytkfokgjpeaibpaa
set_option maxRecDepth 100000

/-- a page of a file's bytes. -/
def pgA (c : List UInt8) (k : Nat) : List UInt8 := (c.drop (256 * k)).take 256
theorem pgA_len {c : List UInt8} {n k : Nat} (hc : c.length = 256 * n) (hk : k < n) : (pgA c k).length = 256 := by
  unfold pgA; rw [List.length_take, List.length_drop]; omega
theorem pgA_at (c : List UInt8) (k j : Nat) (hj : j < 256) : (pgA c k)[j]? = c[256 * k + j]? := by
  unfold pgA; rw [List.getElem?_take, if_pos hj, List.getElem?_drop]
theorem pgA_ext {p q : List UInt8} (hp : p.length = 256) (hq : q.length = 256) (h : ∀ j, j < 256 → p[j]? = q[j]?) : p = q := by
  apply List.ext_getElem?
  intro j
  by_cases hj : j < 256
  · exact h j hj
  · rw [List.getElem?_eq_none (by omega), List.getElem?_eq_none (by omega)]
theorem overZ_len8 {c p : List UInt8} {o : Nat} (ho : o ≤ c.length) : (overZ c o p).length = max c.length (o + p.length) := by
  unfold overZ; simp only [List.length_append, List.length_take, List.length_drop]; omega
theorem overZ_at {c p : List UInt8} {o : Nat} (ho : o ≤ c.length) (j : Nat) : (overZ c o p)[j]? = if j < o then c[j]? else if j < o + p.length then p[j - o]? else c[j]? := by
  unfold overZ
  rw [List.append_assoc]
  have hl : (c.take o).length = o := by rw [List.length_take]; omega
  by_cases h1 : j < o
  · rw [if_pos h1, List.getElem?_append_left (by omega), List.getElem?_take, if_pos h1]
  · rw [if_neg h1, List.getElem?_append_right (by omega), hl]
    by_cases h2 : j < o + p.length
    · rw [if_pos h2, List.getElem?_append_left (by omega)]
    · rw [if_neg h2, List.getElem?_append_right (by omega), List.getElem?_drop]
      congr 1
      omega
theorem pgA_over {c p : List UInt8} {n k j : Nat} (hc : c.length = 256 * n) (hp : p.length = 256) (hk : k ≤ n) (hj : j < max n (k + 1)) : pgA (overZ c (256 * k) p) j = if j = k then p else pgA c j := by
  have hl : (overZ c (256 * k) p).length = 256 * max n (k + 1) := by rw [overZ_len8 (by omega)]; omega
  by_cases e : j = k
  · rw [if_pos e]
    refine pgA_ext (pgA_len hl hj) hp fun i hi => ?_
    rw [pgA_at _ _ _ hi, overZ_at (by omega), if_neg (by omega), if_pos (by omega)]
    congr 1
    omega
  · rw [if_neg e]
    have hjn : j < n := by omega
    refine pgA_ext (pgA_len hl hj) (pgA_len hc hjn) fun i hi => ?_
    rw [pgA_at _ _ _ hi, pgA_at _ _ _ hi, overZ_at (by omega)]
    by_cases h1 : 256 * j + i < 256 * k
    · rw [if_pos h1]
    · rw [if_neg h1, if_neg (by omega)]
/-- so many pages, each with its bytes. -/
structure Holds (c : List UInt8) (tag n : Nat) (g : Nat → List UInt8) : Prop where
  len : c.length = 256 * n
  at_ : ∀ i, i < n → pagO (pgA c i) tag i = some (g i)
  small : ∀ i, i < n → (g i).length ≤ 240
theorem Holds.nil (tag : Nat) (g : Nat → List UInt8) : Holds [] tag 0 g := ⟨rfl, fun i hi => by omega, fun i hi => by omega⟩
theorem Holds.write {c : List UInt8} {tag n : Nat} {g : Nat → List UInt8} (h : Holds c tag n g) {k : Nat} (hk : k ≤ n) (hk2 : k < 2 ^ 32) (ht : tag < 2 ^ 32) {b : List UInt8} (hb : b.length ≤ 240) :
    Holds (overZ c (256 * k) (pagB tag k b)) tag (max n (k + 1)) (fun i => if i = k then b else g i) := by
  have hp := pagB_len (tag := tag) (k := k) hb
  refine ⟨by rw [overZ_len8 (by have := h.len; omega), hp, h.len]; omega, fun i hi => ?_, fun i hi => ?_⟩
  · rw [pgA_over h.len hp hk hi]
    by_cases e : i = k
    · subst e; rw [if_pos rfl, if_pos rfl, pagO_made hb ht hk2, if_pos rfl]
    · rw [if_neg e, if_neg e]; exact h.at_ i (by omega)
  · by_cases e : i = k
    · rw [if_pos e]; exact hb
    · rw [if_neg e]; exact h.small i (by omega)
theorem Holds.congr {c : List UInt8} {tag n m : Nat} {g g' : Nat → List UInt8} (h : Holds c tag n g) (hm : m = n) (hg : ∀ i, i < n → g' i = g i) : Holds c tag m g' := by
  subst hm
  exact ⟨h.len, fun i hi => by rw [hg i hi]; exact h.at_ i hi, fun i hi => by rw [hg i hi]; exact h.small i hi⟩
/-- at another number it is none. -/
theorem pagO_moved {p : List UInt8} {tag k m : Nat} {b : List UInt8} (h : pagO p tag k = some b) (hm : m ≠ k) : pagO p tag m = none := by
  unfold pagO at h ⊢
  split at h
  · next hh => exact if_neg fun h2 => hm (h2.2.2.2.2.1.symm.trans hh.2.2.2.2.1)
  · cases h
end Go.Proofs.Ytkfokgjpeaibpaa

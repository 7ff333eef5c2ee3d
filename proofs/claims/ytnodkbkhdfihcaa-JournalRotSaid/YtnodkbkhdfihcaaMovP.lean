/-
  Sectors at one another's places: plain laws.
-/
import Derived.Test.YtnodkbkhdfihcaaCut
namespace Go.Proofs.Ytnodkbkhdfihcaa
set_option maxRecDepth 100000

theorem overZ_at (l : List UInt8) (p : Nat) (m : List UInt8) (h : p + m.length ≤ l.length) (j : Nat) : (overZ l p m)[j]? = if p ≤ j ∧ j < p + m.length then m[j - p]? else l[j]? := by
  unfold overZ
  have h1 : (l.take p).length = p := by rw [List.length_take]; omega
  by_cases hj : j < p
  · rw [List.append_assoc, List.getElem?_append_left (by omega), List.getElem?_take, if_pos hj, if_neg (by omega)]
  · by_cases hj2 : j < p + m.length
    · rw [List.append_assoc, List.getElem?_append_right (by omega), List.getElem?_append_left (by omega), if_pos ⟨by omega, hj2⟩, h1]
    · rw [List.getElem?_append_right (by rw [List.length_append]; omega), List.getElem?_drop, if_neg (by omega), List.length_append, h1]
      congr 1
      omega
theorem overZ_len (l : List UInt8) (p : Nat) (m : List UInt8) (h : p + m.length ≤ l.length) : (overZ l p m).length = l.length := by
  unfold overZ
  rw [List.length_append, List.length_append, List.length_take, List.length_drop]; omega
/-- the sector at a place. -/
theorem secs_at (n : Nat) (l : List Rc) (i : Nat) (hi : i < l.length) : ((secs n l).drop (64 * i)).take 64 = secB (n + i + 1) l[i] := by
  induction l generalizing n i with
  | nil => simp at hi
  | cons r l ih =>
    cases i with
    | zero => rw [secs]; exact List.take_left' (secB_len _ _)
    | succ i =>
      rw [secs, show 64 * (i + 1) = 64 + 64 * i from by omega, ← List.drop_drop, List.drop_left' (secB_len _ _), ih (n + 1) i (by simpa using hi)]
      congr 1
      omega
theorem secB_ne {n m : Nat} (hn : n < 4294967296) (hm : m < 4294967296) (h : n ≠ m) (r s : Rc) : secB n r ≠ secB m s := by
  intro e
  have e1 : ∀ (x : Nat) (t : Rc), (secB x t).take 4 = le x 4 := fun x t => by
    have : secB x t = le x 4 ++ (le t.k.toNat 4 ++ (le t.a.toNat 4 ++ (le t.b.toNat 4 ++ (List.replicate 44 0 ++ le (crcS (secH x t)) 4)))) := by simp [secB, secH]
    rw [this]
    exact List.take_left' (length_le x 4)
  have e2 : le n 4 = le m 4 := by rw [← e1 n r, ← e1 m s, e]
  have e3 : rdN (le n 4) = rdN (le m 4) := by rw [e2]
  rw [rd_le, rd_le, Nat.mod_eq_of_lt (by omega), Nat.mod_eq_of_lt (by omega)] at e3
  exact h e3
/-- two sectors in one another's place. -/
def swapB (l : List Rc) (i k : Nat) (hi : i < l.length) (hk : k < l.length) : List UInt8 := overZ (overZ (secs 0 l) (64 * i) (secB (k + 1) l[k])) (64 * k) (secB (i + 1) l[i])
theorem swapB_at (l : List Rc) (i k : Nat) (hi : i < l.length) (hk : k < l.length) (j : Nat) :
    (swapB l i k hi hk)[j]? = if 64 * k ≤ j ∧ j < 64 * k + 64 then (secB (i + 1) l[i])[j - 64 * k]? else if 64 * i ≤ j ∧ j < 64 * i + 64 then (secB (k + 1) l[k])[j - 64 * i]? else (secs 0 l)[j]? := by
  have h1 : 64 * i + (secB (k + 1) l[k]).length ≤ (secs 0 l).length := by rw [secB_len, secs_len]; omega
  unfold swapB
  rw [overZ_at _ _ _ (by rw [overZ_len _ _ _ h1, secB_len, secs_len]; omega), overZ_at _ _ _ h1, secB_len, secB_len]
theorem swapB_same (l : List Rc) (i : Nat) (hi : i < l.length) : swapB l i i hi hi = secs 0 l := by
  apply List.ext_getElem?
  intro j
  rw [swapB_at]
  have hs := secs_at 0 l i hi
  rw [Nat.zero_add] at hs
  split
  · next h =>
    rw [← hs, List.getElem?_take, if_pos (by omega), List.getElem?_drop]
    congr 1
    omega
  · rfl
theorem swapB_len (l : List Rc) (i k : Nat) (hi : i < l.length) (hk : k < l.length) : (swapB l i k hi hk).length = 64 * l.length := by
  have h1 : 64 * i + (secB (k + 1) l[k]).length ≤ (secs 0 l).length := by rw [secB_len, secs_len]; omega
  unfold swapB
  rw [overZ_len _ _ _ (by rw [overZ_len _ _ _ h1, secB_len, secs_len]; omega), overZ_len _ _ _ h1, secs_len]
theorem readJ_swap (l : List Rc) (i k : Nat) (hi : i < l.length) (hk : k < l.length) (hik : i ≠ k) (hn : l.length ≤ 60) (h0 : ∀ r ∈ l, r.k ≠ 0) : readJ (swapB l i k hi hk) = l.take (min i k) := by
  have hm : (l.take (min i k)).length = min i k := by rw [List.length_take]; omega
  have hlen := swapB_len l i k hi hk
  have e : swapB l i k hi hk = secs 0 (l.take (min i k)) ++ (swapB l i k hi hk).drop (64 * min i k) := by
    have : (swapB l i k hi hk).take (64 * min i k) = secs 0 (l.take (min i k)) := by
      obtain ⟨T, e1, hT⟩ := secs_take l (64 * min i k) (by omega)
      rw [show 64 * min i k / 64 = min i k from by omega] at e1
      have hT0 : T = [] := by
        have := congrArg List.length e1
        rw [List.length_take, secs_len, List.length_append, secs_len, hm] at this
        exact List.eq_nil_of_length_eq_zero (by omega)
      rw [hT0, List.append_nil] at e1
      rw [← e1]
      apply List.ext_getElem?
      intro j
      rw [List.getElem?_take, List.getElem?_take]
      split
      · rw [swapB_at, if_neg (by omega), if_neg (by omega)]
      · rfl
    rw [← this, List.take_append_drop]
  have hsec : ((swapB l i k hi hk).drop (64 * min i k)).take 64 = secB (max i k + 1) (l[max i k]'(by omega)) := by
    apply List.ext_getElem?
    intro j
    rw [List.getElem?_take, List.getElem?_drop, swapB_at]
    by_cases hj : j < 64
    · rw [if_pos hj]
      by_cases h : i < k
      · rw [if_neg (by omega), if_pos (by omega)]
        have e1 : max i k = k := by omega
        have e2 : 64 * min i k + j - 64 * i = j := by omega
        simp only [e1, e2]
      · rw [if_pos (by omega)]
        have e1 : max i k = i := by omega
        have e2 : 64 * min i k + j - 64 * k = j := by omega
        simp only [e1, e2]
    · rw [if_neg hj, List.getElem?_eq_none (by rw [secB_len]; omega)]
  unfold readJ
  rw [e]
  refine readF_secs _ 0 _ _ (fun r hr => h0 r (List.mem_of_mem_take hr)) (by omega) ?_ (readF_bad (.inr ?_))
  · rw [List.length_append, secs_len]; omega
  · rw [hsec, recOf_secB, hm]
    exact secB_ne (by omega) (by omega) (by omega) _ _
end Go.Proofs.Ytnodkbkhdfihcaa

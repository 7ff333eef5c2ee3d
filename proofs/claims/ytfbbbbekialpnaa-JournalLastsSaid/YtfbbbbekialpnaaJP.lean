/-
  Records as bytes: plain laws.
-/
import Derived.Test.YtfbbbbekialpnaaJ2
namespace Go.Proofs.Ytfbbbbekialpnaa
set_option maxRecDepth 100000

theorem rd_le4 (x : UInt32) : UInt32.ofNat (rdN (le x.toNat 4)) = x := by
  rw [rd_le]
  have := x.toNat_lt
  rw [Nat.mod_eq_of_lt (by omega)]
  simp
theorem recOf_secB (n : Nat) (r : Rc) : recOf (secB n r) = r := by
  obtain ⟨k, a, b⟩ := r
  have e : secB n ⟨k, a, b⟩ = le n 4 ++ (le k.toNat 4 ++ (le a.toNat 4 ++ (le b.toNat 4 ++ (List.replicate 44 0 ++ le (crcS (secH n ⟨k, a, b⟩)) 4)))) := by simp [secB, secH]
  unfold recOf
  rw [e]
  generalize List.replicate 44 0 ++ le (crcS (secH n ⟨k, a, b⟩)) 4 = T
  have h4 : ∀ x : Nat, (le x 4).length = 4 := fun x => length_le x 4
  have d4 : ∀ (x : Nat) (Y : List UInt8), (le x 4 ++ Y).drop 4 = Y := fun x Y => List.drop_left' (h4 x)
  have t4 : ∀ (x : Nat) (Y : List UInt8), (le x 4 ++ Y).take 4 = le x 4 := fun x Y => List.take_left' (h4 x)
  have e8 : ∀ L : List UInt8, L.drop 8 = (L.drop 4).drop 4 := fun L => by rw [List.drop_drop]
  have e12 : ∀ L : List UInt8, L.drop 12 = ((L.drop 4).drop 4).drop 4 := fun L => by rw [List.drop_drop, List.drop_drop]
  rw [e12, e8, d4, d4, d4, t4, t4, t4, rd_le4, rd_le4, rd_le4]
/-- the sectors of records. -/
def secs : Nat → List Rc → List UInt8
  | _, [] => []
  | n, r :: l => secB (n + 1) r ++ secs (n + 1) l
theorem secs_len (n : Nat) (l : List Rc) : (secs n l).length = 64 * l.length := by
  induction l generalizing n with
  | nil => rfl
  | cons r l ih => rw [secs, List.length_append, secB_len, ih, List.length_cons]; omega
theorem secs_snoc (n : Nat) (l : List Rc) (r : Rc) : secs n (l ++ [r]) = secs n l ++ secB (n + l.length + 1) r := by
  induction l generalizing n with
  | nil => simp [secs]
  | cons a l ih =>
    rw [List.cons_append, secs, ih, secs, List.append_assoc, List.length_cons]
    congr 3
    omega
theorem readF_fuel {f f' n : Nat} {b : List UInt8} (h : b.length < 64 * f + 64) (h' : b.length < 64 * f' + 64) : readF (f + 1) n b = readF (f' + 1) n b := by
  induction f generalizing f' n b with
  | zero =>
    rw [readF_stop (.inl (by omega)), readF_stop (.inl (by omega))]
  | succ f ih =>
    cases f' with
    | zero => rw [readF_stop (.inl (by omega)), readF_stop (.inl (by omega))]
    | succ f' =>
      by_cases hc : 64 ≤ b.length ∧ n < 65536
      · by_cases hs : (recOf (b.take 64)).k = 0 ∨ b.take 64 ≠ secB (n + 1) (recOf (b.take 64))
        · rw [readF_bad hs, readF_bad hs]
        · rw [readF_more hc.1 hc.2 hs, readF_more hc.1 hc.2 hs, ih (f' := f') (by rw [List.length_drop]; omega) (by rw [List.length_drop]; omega)]
      · rw [readF_stop (by omega), readF_stop (by omega)]
/-- the bytes that records take are read as these. -/
theorem readF_secs (f n : Nat) (l : List Rc) (T : List UInt8) (hk : ∀ r ∈ l, r.k ≠ 0) (hn : n + l.length ≤ 65536) (hf : l.length ≤ f) (hT : readF (f + 1 - l.length) (n + l.length) T = []) :
    readF (f + 1) n (secs n l ++ T) = l := by
  induction l generalizing f n with
  | nil => simpa [secs] using hT
  | cons r l ih =>
    rw [List.length_cons] at hn hf hT
    have e1 : (secs n (r :: l) ++ T).take 64 = secB (n + 1) r := by rw [secs, List.append_assoc]; exact List.take_left' (secB_len _ _)
    have e2 : (secs n (r :: l) ++ T).drop 64 = secs (n + 1) l ++ T := by rw [secs, List.append_assoc]; exact List.drop_left' (secB_len _ _)
    rw [readF_more (by rw [List.length_append, secs_len, List.length_cons]; omega) (by omega) ?_, e1, e2, recOf_secB]
    · cases f with
      | zero => omega
      | succ f =>
        rw [ih f (n + 1) (fun x hx => hk x (by simp [hx])) (by omega) (by omega) (by rw [show f + 1 - l.length = f + 1 + 1 - (l.length + 1) from by omega, show n + 1 + l.length = n + (l.length + 1) from by omega]; exact hT)]
    · rw [e1, recOf_secB]
      intro h
      rcases h with h | h
      · exact hk r (by simp) h
      · exact h rfl
theorem readJ_secs {l : List Rc} (hk : ∀ r ∈ l, r.k ≠ 0) (hn : l.length ≤ 65536) : readJ (secs 0 l) = l := by
  have := readF_secs (secs 0 l).length 0 l [] hk (by omega) (by rw [secs_len]; omega) (readF_stop (.inl (by simp)))
  rwa [List.append_nil] at this
/-- what is read stands there as its sectors. -/
theorem readF_is (f n : Nat) (b : List UInt8) : b.take (64 * (readF f n b).length) = secs n (readF f n b) ∧ (∀ r ∈ readF f n b, r.k ≠ 0) ∧ (n ≤ 65536 → n + (readF f n b).length ≤ 65536) := by
  induction f generalizing n b with
  | zero => exact ⟨rfl, (fun r h => by cases h), fun h => by simpa [readF] using h⟩
  | succ f ih =>
    by_cases hc : 64 ≤ b.length ∧ n < 65536
    · by_cases hs : (recOf (b.take 64)).k = 0 ∨ b.take 64 ≠ secB (n + 1) (recOf (b.take 64))
      · rw [readF_bad hs]
        exact ⟨rfl, (fun r h => by cases h), fun h => by simpa using h⟩
      · rw [readF_more hc.1 hc.2 hs]
        obtain ⟨h1, h2, h3⟩ := ih (n + 1) (b.drop 64)
        have hs1 : (recOf (b.take 64)).k ≠ 0 := fun h => hs (.inl h)
        have hs2 : b.take 64 = secB (n + 1) (recOf (b.take 64)) := Classical.byContradiction fun h => hs (.inr h)
        refine ⟨?_, fun r hr => ?_, fun _ => ?_⟩
        · rw [List.length_cons, secs, ← h1, ← hs2, show 64 * ((readF f (n + 1) (b.drop 64)).length + 1) = 64 + 64 * (readF f (n + 1) (b.drop 64)).length from by omega, List.take_add]
        · rcases List.mem_cons.1 hr with rfl | hr
          · exact hs1
          · exact h2 r hr
        · have := h3 (by omega)
          rw [List.length_cons]; omega
    · have e : readF (f + 1) n b = [] := by rw [readF, if_neg hc]
      rw [e]
      exact ⟨rfl, (fun r h => by cases h), fun h => by simpa using h⟩
theorem readJ_is (b : List UInt8) : b.take (64 * (readJ b).length) = secs 0 (readJ b) ∧ (∀ r ∈ readJ b, r.k ≠ 0) ∧ (readJ b).length ≤ 65536 := by
  obtain ⟨h1, h2, h3⟩ := readF_is (b.length + 1) 0 b
  exact ⟨h1, h2, by have := h3 (by omega); simpa [readJ] using this⟩
theorem readJ_take (b : List UInt8) : readJ (b.take (64 * (readJ b).length)) = readJ b := by
  obtain ⟨h1, h2, h3⟩ := readJ_is b
  rw [h1]
  exact readJ_secs h2 h3
end Go.Proofs.Ytfbbbbekialpnaa

/-
  Pages as bytes: plain laws.
-/
import Derived.Test.YtkfokgjpeaibpaaCrcB
namespace Go.Proofs.Ytkfokgjpeaibpaa
set_option maxRecDepth 100000

/-- what stands ahead of a page's sum. -/
def pagH (tag k : Nat) (b : List UInt8) : List UInt8 := le tag 4 ++ (le k 4 ++ (le b.length 2 ++ (le 0 2 ++ (b ++ List.replicate (240 - b.length) 0))))
def pagB (tag k : Nat) (b : List UInt8) : List UInt8 := pagH tag k b ++ le (crcS (pagH tag k b)) 4
theorem pagH_len {tag k : Nat} {b : List UInt8} (h : b.length ≤ 240) : (pagH tag k b).length = 252 := by
  simp only [pagH, List.length_append, length_le, List.length_replicate]; omega
theorem pagB_len {tag k : Nat} {b : List UInt8} (h : b.length ≤ 240) : (pagB tag k b).length = 256 := by
  simp only [pagB, List.length_append, length_le, pagH_len h]
/-- what Open answers: the bytes, or none. -/
def pagO (p : List UInt8) (tag k : Nat) : Option (List UInt8) :=
  if p.length = 256 ∧ rdN ((p.drop 252).take 4) = crcS (p.take 252) ∧ rdN ((p.drop 8).take 2) ≤ 240 ∧ rdN (p.take 4) = tag ∧ rdN ((p.drop 4).take 4) = k ∧ rdN ((p.drop 10).take 2) = 0 ∧
      ((p.take 252).drop (12 + rdN ((p.drop 8).take 2))).all (· == 0) = true then some ((p.take (12 + rdN ((p.drop 8).take 2))).drop 12) else none
theorem pagB_parts {tag k : Nat} {b : List UInt8} (h : b.length ≤ 240) (ht : tag < 2 ^ 32) (hk : k < 2 ^ 32) :
    rdN (((pagB tag k b).drop 252).take 4) = crcS ((pagB tag k b).take 252) ∧ rdN ((pagB tag k b).take 4) = tag ∧ rdN (((pagB tag k b).drop 4).take 4) = k ∧ rdN (((pagB tag k b).drop 8).take 2) = b.length ∧
      rdN (((pagB tag k b).drop 10).take 2) = 0 ∧ ((pagB tag k b).take (12 + b.length)).drop 12 = b ∧ ((pagB tag k b).take 252).drop (12 + b.length) = List.replicate (240 - b.length) 0 := by
  have h4 : ∀ x : Nat, (le x 4).length = 4 := fun x => length_le x 4
  have h2 : ∀ x : Nat, (le x 2).length = 2 := fun x => length_le x 2
  have hl := pagH_len (tag := tag) (k := k) h
  have e : pagB tag k b = le tag 4 ++ (le k 4 ++ (le b.length 2 ++ (le 0 2 ++ (b ++ (List.replicate (240 - b.length) 0 ++ le (crcS (pagH tag k b)) 4))))) := by
    have e0 : pagB tag k b = pagH tag k b ++ le (crcS (pagH tag k b)) 4 := rfl
    rw [e0]
    generalize le (crcS (pagH tag k b)) 4 = T
    unfold pagH
    simp only [List.append_assoc]
  have hc : crcS (pagH tag k b) < 2 ^ 32 := crcE_lt _ _
  have d4 : ∀ (x : Nat) (Y : List UInt8), (le x 4 ++ Y).drop 4 = Y := fun x Y => List.drop_left' (h4 x)
  have t4 : ∀ (x : Nat) (Y : List UInt8), (le x 4 ++ Y).take 4 = le x 4 := fun x Y => List.take_left' (h4 x)
  have d2 : ∀ (x : Nat) (Y : List UInt8), (le x 2 ++ Y).drop 2 = Y := fun x Y => List.drop_left' (h2 x)
  have t2 : ∀ (x : Nat) (Y : List UInt8), (le x 2 ++ Y).take 2 = le x 2 := fun x Y => List.take_left' (h2 x)
  have e8 : ∀ L : List UInt8, L.drop 8 = (L.drop 4).drop 4 := fun L => by rw [List.drop_drop]
  have e10 : ∀ L : List UInt8, L.drop 10 = ((L.drop 4).drop 4).drop 2 := fun L => by rw [List.drop_drop, List.drop_drop]
  have e12 : ∀ L : List UInt8, L.drop 12 = (((L.drop 4).drop 4).drop 2).drop 2 := fun L => by rw [List.drop_drop, List.drop_drop, List.drop_drop]
  have hd12 : (pagB tag k b).drop 12 = b ++ (List.replicate (240 - b.length) 0 ++ le (crcS (pagH tag k b)) 4) := by
    rw [e12, e, d4, d4, d2, d2]
  refine ⟨?_, ?_, ?_, ?_, ?_, ?_, ?_⟩
  · have a1 : (pagB tag k b).drop 252 = le (crcS (pagH tag k b)) 4 := List.drop_left' hl
    have a2 : (pagB tag k b).take 252 = pagH tag k b := List.take_left' hl
    rw [a1, a2, List.take_of_length_le (Nat.le_of_eq (h4 _)), rd_le, Nat.mod_eq_of_lt (by omega)]
  · rw [e, t4, rd_le, Nat.mod_eq_of_lt (by omega)]
  · rw [e, d4, t4, rd_le, Nat.mod_eq_of_lt (by omega)]
  · rw [e8, e, d4, d4, t2, rd_le, Nat.mod_eq_of_lt (by omega)]
  · rw [e10, e, d4, d4, d2, t2, rd_le]
  · rw [List.drop_take, hd12, show 12 + b.length - 12 = b.length from by omega]
    exact List.take_left' rfl
  · have a2 : (pagB tag k b).take 252 = pagH tag k b := List.take_left' hl
    have e' : (pagH tag k b).drop 12 = b ++ List.replicate (240 - b.length) 0 := by
      rw [e12]; unfold pagH; rw [d4, d4, d2, d2]
    rw [a2, ← List.drop_drop, e']
    exact List.drop_left' rfl
/-- a page that was made is read, just at its number. -/
theorem pagO_made {tag k m : Nat} {b : List UInt8} (h : b.length ≤ 240) (ht : tag < 2 ^ 32) (hk : k < 2 ^ 32) : pagO (pagB tag k b) tag m = if k = m then some b else none := by
  obtain ⟨h1, h2, h3, h4, h5, h6, h7⟩ := pagB_parts h ht hk
  unfold pagO
  rw [h4, h6, h7]
  by_cases e : k = m
  · rw [if_pos e, if_pos ⟨pagB_len h, h1, h, h2, by rw [h3]; exact e, h5, by simp⟩]
  · rw [if_neg e, if_neg (fun hh => e (by rw [← h3]; exact hh.2.2.2.2.1))]
/-- where the sum fits the register ends as ever. -/
theorem sum_crc {s : List UInt8} {n : Nat} (hs : s.length = n + 4) (h : rdN ((s.drop n).take 4) = crcS (s.take n)) : crcL 4294967295 s = stpN 32 4294967295 := by
  have hlt : crcL 4294967295 (s.take n) < 2 ^ 32 := crcL_lt (by omega) _
  have hc : crcS (s.take n) = 4294967295 ^^^ crcL 4294967295 (s.take n) := by
    show 4294967295 - crcL (4294967295 - 0) (s.take n) = _
    exact neg_xor hlt
  have hd : (s.drop n).take 4 = s.drop n := List.take_of_length_le (by rw [List.length_drop]; omega)
  have e : crcL 4294967295 s = crcL (crcL 4294967295 (s.take n)) (s.drop n) := by rw [← crcL_cat, List.take_append_drop]
  rw [hd] at h
  rw [e, crcL_eq, h, hc, List.length_drop, hs, show n + 4 - n = 4 from by omega]
  generalize crcL 4294967295 (s.take n) = c at *
  rw [Nat.xor_comm 4294967295 c, ← Nat.xor_assoc, Nat.xor_self, Nat.zero_xor]
/-- a burst of at most 32 bits in a page is seen. -/
theorem pagO_burst {p s : List UInt8} {tag k tag' k' : Nat} {b : List UInt8} (hp : pagO p tag k = some b) (W f : Nat) (hW : W ≠ 0) (hW2 : W < 2 ^ 32) (hf : f ≤ 2048) (hs : s.length = 256) (he : rdN s = rdN p ^^^ (W * 2 ^ f)) : pagO s tag' k' = none := by
  unfold pagO at hp ⊢
  by_cases h : p.length = 256 ∧ rdN ((p.drop 252).take 4) = crcS (p.take 252) ∧ rdN ((p.drop 8).take 2) ≤ 240 ∧ rdN (p.take 4) = tag ∧ rdN ((p.drop 4).take 4) = k ∧ rdN ((p.drop 10).take 2) = 0 ∧
      ((p.take 252).drop (12 + rdN ((p.drop 8).take 2))).all (· == 0) = true
  · refine if_neg fun hh => ?_
    have h1 := sum_crc hs hh.2.1
    have h2 := sum_crc h.1 h.2.1
    rw [crcL_eq, hs, he, ← Nat.xor_assoc, stpN_xor] at h1
    rw [crcL_eq, h.1] at h2
    rw [h2] at h1
    have h3 : stpN (8 * 256) (W * 2 ^ f) = 0 := by
      have := congrArg (stpN 32 4294967295 ^^^ ·) h1
      simp only [← Nat.xor_assoc, Nat.xor_self, Nat.zero_xor] at this
      exact this
    rw [show 8 * 256 = f + (2048 - f) from by omega, stpN_add, stpN_pow] at h3
    exact stpN_ne0 _ hW2 hW h3
  · rw [if_neg h] at hp; cases hp
end Go.Proofs.Ytkfokgjpeaibpaa

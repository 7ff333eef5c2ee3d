/-
  What lies in a file that was switched on: plain.
-/
import Derived.Test.YtfbbbbekialpnaaOnP
namespace Go.Proofs.Ytfbbbbekialpnaa

theorem overZ_getD {l m : List UInt8} {p : Nat} (h : p + m.length ≤ l.length) (i : Nat) : (overZ l p m).getD i 0 = if p ≤ i ∧ i < p + m.length then m.getD (i - p) 0 else l.getD i 0 := by
  unfold overZ
  simp only [List.getD_eq_getElem?_getD]
  by_cases h1 : i < p
  · rw [if_neg (by omega), List.append_assoc, List.getElem?_append_left (by simp; omega), List.getElem?_take, if_pos h1]
  · have hl : (l.take p).length = p := by simp; omega
    rw [List.append_assoc, List.getElem?_append_right (by omega), hl]
    by_cases h2 : i < p + m.length
    · rw [if_pos (by omega), List.getElem?_append_left (by omega)]
    · rw [if_neg (by omega), List.getElem?_append_right (by omega), List.getElem?_drop]
      congr 2; omega
theorem getD_pad (b : List UInt8) (n i : Nat) : (b ++ List.replicate n 0).getD i 0 = b.getD i 0 := by
  simp only [List.getD_eq_getElem?_getD]
  by_cases h : i < b.length
  · rw [List.getElem?_append_left h]
  · rw [List.getElem?_append_right (by omega), List.getElem?_eq_none (l := b) (by omega), List.getElem?_replicate]
    split <;> rfl
theorem getD_mid (l : List UInt8) (p n i : Nat) (h : i < n) : ((l.drop p).take n).getD i 0 = l.getD (p + i) 0 := by
  simp only [List.getD_eq_getElem?_getD]
  rw [List.getElem?_take, if_pos h, List.getElem?_drop]
theorem onB_getD (now b : List UInt8) (p : Nat) (hp : p * 64 < now.length) (i : Nat) : (onB now b p).getD i 0 = if i / 64 = p ∧ i < now.length then now.getD i 0 else b.getD i 0 := by
  have h := onB_mid now p hp
  unfold onB
  rw [overZ_getD (by rw [h.1]; simp; omega), h.1]
  unfold secTo at *
  by_cases hc : i / 64 = p ∧ i < now.length
  · rw [if_pos (by omega), if_pos hc, getD_mid _ _ _ _ (by omega)]
    congr 1; omega
  · rw [if_neg (by omega), if_neg hc, getD_pad]
/-- one of the first k loose sectors that stay is sector q of file s. -/
def keptB (keep : List Int) (ls : List Sec) (k : Nat) (s : List UInt8) (q : Nat) : Bool := (List.range k).any fun j => keep.contains (j : Int) && (match ls[j]? with | some x => x.name == s && x.page.toNat == q | none => false)
theorem keptB_succ (keep : List Int) (ls : List Sec) (k : Nat) (s : List UInt8) (q : Nat) : keptB keep ls (k + 1) s q = (keptB keep ls k s q || (keep.contains (k : Int) && (match ls[k]? with | some x => x.name == s && x.page.toNat == q | none => false))) := by
  unfold keptB
  rw [List.range_succ, List.any_append]
  simp
theorem ite_merge {a a' b c : Prop} [Decidable a] [Decidable a'] [Decidable b] [Decidable c] (h : a ↔ a') (u v : UInt8) : (if a ∧ c then u else if b ∧ c then u else v) = if (b ∨ a') ∧ c then u else v := by
  have e : (if a ∧ c then u else if b ∧ c then u else v) = if a' ∧ c then u else if b ∧ c then u else v := by simp only [h]
  rw [e]
  by_cases h1 : a' <;> by_cases h2 : b <;> by_cases h3 : c <;> simp [h1, h2, h3]
theorem onT_step {S : Dk} {keep : List Int} {ls : List Sec} (k : Nat) (s : List UInt8) : onT S keep ls (k + 1) s = if (keep.contains (k : Int) && (match ls[k]? with | some x => x.name == s | none => false)) = true then onB (S.nowOf s) (onT S keep ls k s) ((ls[k]?.map fun x => x.page.toNat).getD 0) else onT S keep ls k s := by
  show (match ls[k]? with | some x => onS S keep k x (onT S keep ls k) | none => onT S keep ls k) s = _
  cases e : ls[k]? with
  | none => simp
  | some x =>
    show onS S keep k x (onT S keep ls k) s = _
    unfold onS
    by_cases hk : keep.contains (k : Int) = true
    · rw [if_pos hk, hk]
      by_cases hs : s = x.name
      · subst hs; simp
      · have : (x.name == s) = false := by simpa using fun e => hs e.symm
        simp [hs, this]
    · have hk' : keep.contains (k : Int) = false := by simpa using hk
      rw [if_neg hk, hk']; simp
section
variable {S : Dk} {keep : List Int} {ls : List Sec} (hls : ∀ x ∈ ls, x.page.toNat * 64 < (S.nowOf x.name).length)
include hls
theorem onT_getD (k : Nat) (s : List UInt8) (i : Nat) : (onT S keep ls k s).getD i 0 = if keptB keep ls k s (i / 64) = true ∧ i < (S.nowOf s).length then (S.nowOf s).getD i 0 else (S.lastsOf s).getD i 0 := by
  induction k with
  | zero => rw [if_neg (by simp [keptB])]; rfl
  | succ k ih =>
    rw [onT_step, keptB_succ]
    cases e : ls[k]? with
    | none =>
      simp only [Bool.and_false, Bool.or_false, Bool.false_eq_true, if_false]
      exact ih
    | some x =>
      have hx := hls x (List.mem_of_getElem? e)
      by_cases hc : (keep.contains (k : Int) && x.name == s) = true
      · simp only [hc, if_true]
        have hs : x.name = s := by simp at hc; exact hc.2
        have hk : keep.contains (k : Int) = true := by simp only [Bool.and_eq_true] at hc; exact hc.1
        subst hs
        rw [onB_getD _ _ _ (by simpa using hx), ih, hk]
        simp only [Option.map_some, Option.getD_some, beq_self_eq_true, Bool.true_and, Bool.or_eq_true, beq_iff_eq]
        exact ite_merge ⟨Eq.symm, Eq.symm⟩ _ _
      · simp only [hc, if_false, Bool.false_eq_true]
        rw [ih]
        have : (keep.contains (k : Int) && (x.name == s && x.page.toNat == i / 64)) = false := by
          rw [Bool.eq_false_iff]
          intro h
          simp only [Bool.and_eq_true] at h hc
          exact hc ⟨h.1, h.2.1⟩
        rw [this, Bool.or_false]
theorem onT_ge (k : Nat) (s : List UInt8) : (S.lastsOf s).length ≤ (onT S keep ls k s).length ∧ ∀ j, j < k → keep.contains (j : Int) = true → ∀ x, ls[j]? = some x → x.name = s → secTo (S.nowOf s) x.page.toNat ≤ (onT S keep ls k s).length := by
  induction k with
  | zero => exact ⟨Nat.le_refl _, fun j hj => by omega⟩
  | succ k ih =>
    rw [onT_step]
    obtain ⟨ih1, ih2⟩ := ih
    by_cases hc : (keep.contains (k : Int) && (match ls[k]? with | some x => x.name == s | none => false)) = true
    · rw [if_pos hc]
      cases e : ls[k]? with
      | none => rw [e] at hc; simp at hc
      | some x =>
        rw [e] at hc
        simp only [Bool.and_eq_true, beq_iff_eq] at hc
        have hx := hls x (List.mem_of_getElem? e)
        rw [hc.2] at hx
        simp only [Option.map_some, Option.getD_some]
        rw [onB_len _ _ _ hx]
        refine ⟨by omega, fun j hj hk y hy hn => ?_⟩
        by_cases hjk : j = k
        · subst hjk; rw [e] at hy; cases hy; omega
        · have := ih2 j (by omega) hk y hy hn; omega
    · rw [if_neg hc]
      refine ⟨ih1, fun j hj hk y hy hn => ?_⟩
      by_cases hjk : j = k
      · subst hjk
        exfalso
        apply hc
        rw [hk, hy]; simp [hn]
      · exact ih2 j (by omega) hk y hy hn
theorem onT_le (k : Nat) (s : List UInt8) (h : (S.lastsOf s).length ≤ (S.nowOf s).length) : (onT S keep ls k s).length ≤ (S.nowOf s).length := by
  induction k with
  | zero => exact h
  | succ k ih =>
    rw [onT_step]
    by_cases hc : (keep.contains (k : Int) && (match ls[k]? with | some x => x.name == s | none => false)) = true
    · rw [if_pos hc]
      cases e : ls[k]? with
      | none => rw [e] at hc; simp at hc
      | some x =>
        rw [e] at hc
        simp only [Bool.and_eq_true, beq_iff_eq] at hc
        have hx := hls x (List.mem_of_getElem? e)
        rw [hc.2] at hx
        simp only [Option.map_some, Option.getD_some]
        rw [onB_len _ _ _ hx]
        have := (onB_mid _ _ hx).2.2
        omega
    · rw [if_neg hc]; exact ih
end
/-- nothing stays. -/
theorem onT_nil (S : Dk) (ls : List Sec) (k : Nat) : onT S [] ls k = S.lastsOf := by
  induction k with
  | zero => rfl
  | succ k ih =>
    show (match ls[k]? with | some x => onS S [] k x (onT S [] ls k) | none => onT S [] ls k) = _
    cases ls[k]? with
    | none => exact ih
    | some x => show onS S [] k x (onT S [] ls k) = _; unfold onS; rw [if_neg (by simp)]; exact ih
end Go.Proofs.Ytfbbbbekialpnaa

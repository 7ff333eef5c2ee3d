/-
  disk.Loose.
-/
import Derived.Test.YtkfokgjpeaibpaaLs
import Derived.Test.YtkfokgjpeaibpaaApp
namespace Go.Proofs.Ytkfokgjpeaibpaa
open Go.RowKit Go.Maps
set_option maxRecDepth 100000
set_option maxHeartbeats 400000

/-- loose sectors have small numbers. -/
def LooseOk (S : Dk) : Prop := ∀ s k, okK s k → S.loose s k = true → 0 ≤ k ∧ k < 4294967296
/-- the list has what is loose and no longer to come. -/
def LsOf (lo left : List UInt8 → Int → Bool) (l : List Sec) : Prop := l.Nodup ∧ (∀ s k, okK s k → ((lo s k = true ∧ left s k = false) ↔ ∃ p : UInt32, (⟨s, p⟩ : Sec) ∈ l ∧ k = (p.toNat : Int))) ∧ (∀ x ∈ l, okK x.name (x.page.toNat : Int)) ∧ ∀ s k, okK s k → left s k = true → lo s k = true
theorem LsOf.start (lo : List UInt8 → Int → Bool) : LsOf lo lo [] := ⟨List.nodup_nil, fun s k _ => ⟨(fun h => by have h1 := h.1; rw [h.2] at h1; cases h1), (fun ⟨p, h, _⟩ => by cases h)⟩, (fun x h => by cases h), fun _ _ _ h => h⟩
theorem LsOf.step {lo left : List UInt8 → Int → Bool} {l : List Sec} (h : LsOf lo left l) {s : List UInt8} {k : Int} (hk : okK s k) (hl : left s k = true) (hlo : lo s k = true) {p : UInt32} (hp : k = (p.toNat : Int)) : LsOf lo (noK left s k) (l ++ [⟨s, p⟩]) := by
  have hnot : (⟨s, p⟩ : Sec) ∉ l := fun hm => by
    have := (h.2.1 s k hk).2 ⟨p, hm, hp⟩
    rw [hl] at this; cases this.2
  refine ⟨?_, fun y j hy => ?_, fun x hx => ?_, fun y j hy h1 => h.2.2.2 y j hy (by unfold noK at h1; simp at h1; exact h1.1)⟩
  · rw [List.nodup_append]
    exact ⟨h.1, by simp, fun a ha b hb => by rw [List.mem_singleton.1 hb]; exact fun e => hnot (e ▸ ha)⟩
  · constructor
    · rintro ⟨h1, h2⟩
      by_cases e : y = s ∧ j = k
      · obtain ⟨rfl, rfl⟩ := e
        exact ⟨p, by simp, hp⟩
      · have hf : (y == s && j == k) = false := by
          rw [Bool.eq_false_iff]
          intro h
          simp only [Bool.and_eq_true, beq_iff_eq] at h
          exact e h
        have h3 : left y j = false := by
          unfold noK at h2
          rw [hf] at h2
          simpa using h2
        obtain ⟨q, hq, e⟩ := (h.2.1 y j hy).1 ⟨h1, h3⟩
        exact ⟨q, List.mem_append_left _ hq, e⟩
    · rintro ⟨q, hq, e⟩
      rcases List.mem_append.1 hq with hq | hq
      · obtain ⟨h1, h2⟩ := (h.2.1 y j hy).2 ⟨q, hq, e⟩
        exact ⟨h1, by unfold noK; rw [h2]; rfl⟩
      · have := List.mem_singleton.1 hq
        obtain ⟨rfl, rfl⟩ : y = s ∧ q = p := by cases this; exact ⟨rfl, rfl⟩
        rw [← hp] at e
        subst e
        exact ⟨hlo, by unfold noK; simp⟩
  · rcases List.mem_append.1 hx with hx | hx
    · exact h.2.2.1 x hx
    · rw [List.mem_singleton.1 hx]; rw [hp] at hk; exact hk
section
variable {w : World} {B d : Nat} {o : Own1} {S : Dk} {c : Con}
def LooseOut (w : World) (S : Dk) (e : Ending) (w' : World) : Prop :=
  ∃ v l, e = .returned v ∧ OwnP w' w.heap.size v l ∧ SecUp l ∧ (∀ s k, okK s k → (S.loose s k = true ↔ ∃ p : UInt32, (⟨s, p⟩ : Sec) ∈ l ∧ k = (p.toNat : Int))) ∧ (∀ x ∈ l, okK x.name (x.page.toNat : Int)) ∧ l.length ≤ S.nl ∧ w.grownBy w' none
end
end Go.Proofs.Ytkfokgjpeaibpaa

/-
  Sectors in order: plain.
-/
import Derived.WalkKit
import Derived.Sort.Statements
import Derived.Shelf.SlSortCmp.Insertion
namespace Go.Proofs.Ytfbbbbekialpnaa
open Go.Sort

abbrev bl := Op.bytesLess
theorem bl_irrefl (x : List UInt8) : bl x x = false := by
  induction x with
  | nil => rfl
  | cons a x ih => simp [bl, Op.bytesLess] at ih ⊢; exact ih
theorem bl_trans : ∀ (x y z : List UInt8), bl x y = true → bl y z = true → bl x z = true
  | [], [], _, h, _ => by cases h
  | [], _ :: _, [], _, h => by cases h
  | [], _ :: _, _ :: _, _, _ => rfl
  | _ :: _, [], _, h, _ => by cases h
  | _ :: _, _ :: _, [], _, h => by cases h
  | a :: x, b :: y, c :: z, h1, h2 => by
    simp only [bl, Op.bytesLess, Bool.or_eq_true, decide_eq_true_eq, Bool.and_eq_true, beq_iff_eq] at h1 h2 ⊢
    rcases h1 with h1 | ⟨rfl, h1⟩
    · rcases h2 with h2 | ⟨rfl, h2⟩
      · exact .inl (by rw [UInt8.lt_iff_toNat_lt] at *; omega)
      · exact .inl h1
    · rcases h2 with h2 | ⟨rfl, h2⟩
      · exact .inl h2
      · exact .inr ⟨rfl, bl_trans x y z h1 h2⟩
theorem bl_tri : ∀ (x y : List UInt8), bl x y = false → bl y x = false → x = y
  | [], [], _, _ => rfl
  | [], _ :: _, h, _ => by cases h
  | _ :: _, [], _, h => by cases h
  | a :: x, b :: y, h1, h2 => by
    simp only [bl, Op.bytesLess, Bool.or_eq_false_iff, decide_eq_false_iff_not, Bool.and_eq_false_iff, beq_eq_false_iff_ne] at h1 h2
    have hab : a = b := UInt8.toNat_inj.1 (by
      have e1 := h1.1; have e2 := h2.1
      rw [UInt8.lt_iff_toNat_lt] at e1 e2; omega)
    subst hab
    rw [bl_tri x y (by rcases h1.2 with h | h; exact absurd rfl h; exact h) (by rcases h2.2 with h | h; exact absurd rfl h; exact h)]
structure Sec where
  name : List UInt8
  page : UInt32
instance : Inhabited Sec := ⟨⟨[], 0⟩⟩
def Sec.enc (s : Sec) : List Value := [.string ⟨s.name.toArray⟩, .int .i64 (s.page.toNat : Int)]
def secC (x y : Sec) : Int := if bl x.name y.name = true then -1 else if bl y.name x.name = true then 1 else (x.page.toNat : Int) - (y.page.toNat : Int)
theorem secLt (x y : Sec) : ltOf secC x y = true ↔ bl x.name y.name = true ∨ (x.name = y.name ∧ x.page.toNat < y.page.toNat) := by
  unfold ltOf secC
  by_cases h1 : bl x.name y.name = true
  · simp [h1]
  · have h1' : bl x.name y.name = false := by simpa using h1
    rw [if_neg h1]
    by_cases h2 : bl y.name x.name = true
    · rw [if_pos h2]
      constructor
      · intro h; simp at h
      · rintro (h | ⟨e, _⟩)
        · exact absurd h h1
        · rw [e, bl_irrefl] at h2; cases h2
    · rw [if_neg h2]
      have e := bl_tri _ _ h1' (by simpa using h2)
      constructor
      · intro h; right; exact ⟨e, by simp at h; omega⟩
      · rintro (h | ⟨_, h⟩)
        · exact absurd h h1
        · simp; omega
theorem secLt_no (x y : Sec) : ltOf secC x y = false ↔ bl y.name x.name = true ∨ (x.name = y.name ∧ y.page.toNat ≤ x.page.toNat) := by
  rw [Bool.eq_false_iff, Ne, secLt]
  constructor
  · intro h
    by_cases h2 : bl y.name x.name = true
    · exact .inl h2
    · have h1 : bl x.name y.name = false := by
        cases hb : bl x.name y.name with
        | false => rfl
        | true => exact absurd (.inl hb) h
      have e := bl_tri _ _ h1 (by simpa using h2)
      exact .inr ⟨e, by
        have : ¬ x.page.toNat < y.page.toNat := fun h3 => h (.inr ⟨e, h3⟩)
        omega⟩
  · rintro (h | ⟨e, h⟩) (h2 | ⟨e2, h2⟩)
    · have := bl_trans _ _ _ h h2; rw [bl_irrefl] at this; cases this
    · rw [e2, bl_irrefl] at h; cases h
    · rw [e, bl_irrefl] at h2; cases h2
    · omega
theorem swoS : SWO (ltOf secC) where
  irrefl x := by rw [secLt_no]; exact .inr ⟨rfl, Nat.le_refl _⟩
  trans x y z h1 h2 := by
    rw [secLt] at *
    rcases h1 with h1 | ⟨e1, h1⟩
    · rcases h2 with h2 | ⟨e2, h2⟩
      · exact .inl (bl_trans _ _ _ h1 h2)
      · exact .inl (by rw [← e2]; exact h1)
    · rcases h2 with h2 | ⟨e2, h2⟩
      · exact .inl (by rw [e1]; exact h2)
      · exact .inr ⟨e1.trans e2, by omega⟩
  ntrans x y z h1 h2 := by
    rw [secLt_no] at *
    rcases h1 with h1 | ⟨e1, h1⟩
    · rcases h2 with h2 | ⟨e2, h2⟩
      · exact .inl (bl_trans _ _ _ h2 h1)
      · exact .inl (by rw [← e2]; exact h1)
    · rcases h2 with h2 | ⟨e2, h2⟩
      · exact .inl (by rw [e1]; exact h2)
      · exact .inr ⟨e1.trans e2, by omega⟩
/-- strictly rising. -/
def SecUp (l : List Sec) : Prop := l.Pairwise fun x y => ltOf secC x y = true
theorem sec_ext {x y : Sec} (h1 : x.name = y.name) (h2 : x.page.toNat = y.page.toNat) : x = y := by
  obtain ⟨a, b⟩ := x; obtain ⟨c, d⟩ := y
  simp only at h1 h2
  subst h1
  rw [UInt32.toNat_inj.1 h2]
/-- no two alike, and no later one ahead: strictly rising. -/
theorem secUp_of {d : Array Sec} (hs : SortedIn (ltOf secC) 0 d.size d) (hn : d.toList.Nodup) : SecUp d.toList := by
  unfold SecUp
  rw [List.pairwise_iff_getElem]
  intro i j hi hj hij
  have h := hs i j (Nat.zero_le _) hij (by simpa using hj)
  have ei : d[i]! = d.toList[i] := by simp at hi; simp [hi]
  have ej : d[j]! = d.toList[j] := by simp at hj; simp [hj]
  rw [ei, ej, secLt_no] at h
  rw [secLt]
  rcases h with h | ⟨e, h⟩
  · exact .inl h
  · refine .inr ⟨e.symm, ?_⟩
    rcases Nat.lt_or_ge d.toList[i].page.toNat d.toList[j].page.toNat with h2 | h2
    · exact h2
    · have := sec_ext e (by omega)
      have hne := List.nodup_iff_pairwise_ne.1 hn
      rw [List.pairwise_iff_getElem] at hne
      exact absurd this.symm (hne i j hi hj hij)
end Go.Proofs.Ytfbbbbekialpnaa

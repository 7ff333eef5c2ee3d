/-
  Hub, plainly: the document's lists tell the best candidates; what is let go is the same.
-/
import Derived.Test.YtfgkmimhibpceaaHpu
namespace Go.Proofs.Ytfgkmimhibpceaa
open Go.RowKit
set_option maxRecDepth 100000
set_option maxHeartbeats 400000

theorem Ris.cons {y : Lb} {r : List Lb} (h : Ris r) (hy : ∀ z ∈ r, y.hub.toNat < z.hub.toNat) : Ris (y :: r) := by
  intro i hi
  cases i with
  | zero => exact hy _ (by simp)
  | succ i => exact h i (by simpa using hi)
theorem Ris.nil_ : Ris [] := fun i hi => by simp at hi
theorem hub_ne {a b : UInt32} (h : ¬ a.toNat = b.toNat) : a ≠ b := fun e => h (by rw [e])
theorem mem_putL {l : List Lb} (h : Ris l) (x z : Lb) : z ∈ putL l x ↔ (z.hub ≠ x.hub ∧ z ∈ l) ∨ (z = x ∧ ∀ y ∈ l, y.hub = x.hub → ahd x y < 0) ∨ (z.hub = x.hub ∧ z ∈ l ∧ ¬ ahd x z < 0) := by
  induction l with
  | nil => simp [putL]
  | cons y r ih =>
    have ih := ih h.tail
    have hh := h.head
    simp only [putL]
    by_cases h1 : y.hub.toNat < x.hub.toNat
    · rw [if_pos h1, List.mem_cons, ih]
      have hne : y.hub ≠ x.hub := hub_ne (by omega)
      constructor
      · rintro (rfl | ⟨h2, h3⟩ | ⟨h2, h3⟩ | ⟨h2, h3, h4⟩)
        · exact .inl ⟨hne, by simp⟩
        · exact .inl ⟨h2, by simp [h3]⟩
        · refine .inr (.inl ⟨h2, fun u hu e => ?_⟩)
          rcases List.mem_cons.1 hu with rfl | hu
          · exact absurd e hne
          · exact h3 u hu e
        · exact .inr (.inr ⟨h2, by simp [h3], h4⟩)
      · rintro (⟨h2, h3⟩ | ⟨h2, h3⟩ | ⟨h2, h3, h4⟩)
        · rcases List.mem_cons.1 h3 with rfl | h3
          · exact .inl rfl
          · exact .inr (.inl ⟨h2, h3⟩)
        · exact .inr (.inr (.inl ⟨h2, fun u hu e => h3 u (by simp [hu]) e⟩))
        · rcases List.mem_cons.1 h3 with rfl | h3
          · exact absurd h2 hne
          · exact .inr (.inr (.inr ⟨h2, h3, h4⟩))
    · rw [if_neg h1]
      by_cases h2 : y.hub.toNat = x.hub.toNat
      · rw [if_pos h2]
        have he : y.hub = x.hub := UInt32.toNat_inj.1 h2
        have hr : ∀ u ∈ r, u.hub ≠ x.hub := fun u hu => hub_ne (by have := hh u hu; omega)
        by_cases ha : ahd x y < 0
        · rw [if_pos ha, List.mem_cons]
          constructor
          · rintro (rfl | h3)
            · refine .inr (.inl ⟨rfl, fun u hu e => ?_⟩)
              rcases List.mem_cons.1 hu with rfl | hu
              · exact ha
              · exact absurd e (hr u hu)
            · exact .inl ⟨hr z h3, by simp [h3]⟩
          · rintro (⟨h3, h4⟩ | ⟨h3, h4⟩ | ⟨h3, h4, h5⟩)
            · rcases List.mem_cons.1 h4 with rfl | h4
              · exact absurd he h3
              · exact .inr h4
            · exact .inl h3
            · rcases List.mem_cons.1 h4 with rfl | h4
              · exact absurd ha h5
              · exact absurd h3 (hr z h4)
        · rw [if_neg ha]
          constructor
          · intro h0
            rcases List.mem_cons.1 h0 with rfl | h3
            · exact .inr (.inr ⟨he, by simp, ha⟩)
            · exact .inl ⟨hr z h3, by simp [h3]⟩
          · rintro (⟨h3, h4⟩ | ⟨h3, h4⟩ | ⟨h3, h4, h5⟩)
            · exact h4
            · exact absurd (h4 y (by simp) he) ha
            · exact h4
      · rw [if_neg h2, List.mem_cons]
        have hr : ∀ u ∈ y :: r, u.hub ≠ x.hub := fun u hu => by
          rcases List.mem_cons.1 hu with rfl | hu
          · exact hub_ne h2
          · exact hub_ne (by have := hh u hu; omega)
        constructor
        · rintro (rfl | h3)
          · exact .inr (.inl ⟨rfl, fun u hu e => absurd e (hr u hu)⟩)
          · exact .inl ⟨hr z h3, h3⟩
        · rintro (⟨h3, h4⟩ | ⟨h3, h4⟩ | ⟨h3, h4, h5⟩)
          · exact .inr h4
          · exact .inl h3
          · exact absurd h3 (hr z h4)
theorem Ris.put {l : List Lb} (h : Ris l) (x : Lb) : Ris (putL l x) := by
  induction l with
  | nil => exact Ris.nil_.cons (by simp)
  | cons y r ih =>
    have hh := h.head
    simp only [putL]
    by_cases h1 : y.hub.toNat < x.hub.toNat
    · rw [if_pos h1]
      refine (ih h.tail).cons fun z hz => ?_
      rcases (mem_putL h.tail x z).1 hz with ⟨_, h3⟩ | ⟨h3, _⟩ | ⟨_, h3, _⟩
      · exact hh z h3
      · rw [h3]; exact h1
      · exact hh z h3
    · rw [if_neg h1]
      by_cases h2 : y.hub.toNat = x.hub.toNat
      · rw [if_pos h2]
        by_cases ha : ahd x y < 0
        · rw [if_pos ha]; exact h.tail.cons fun z hz => by have := hh z hz; omega
        · rw [if_neg ha]; exact h
      · rw [if_neg h2]
        refine h.cons fun z hz => ?_
        rcases List.mem_cons.1 hz with rfl | hz
        · omega
        · have := hh z hz; omega
theorem BestL.put {best : UInt32 → Option Lb} {l : List Lb} (h : BestL best l) (hat : AtHub best) (x : Lb) : BestL (putB best x) (putL l x) := by
  refine ⟨h.1.put x, fun z => ?_⟩
  rw [mem_putL h.1, h.2]
  unfold putB
  by_cases e : z.hub = x.hub
  · rw [if_pos e]
    constructor
    · rintro (⟨h1, _⟩ | ⟨h1, h2⟩ | ⟨_, h2, h3⟩)
      · exact absurd e h1
      · subst h1
        cases hb : best z.hub with
        | none => rfl
        | some old =>
          have := h2 old ((h.2 old).2 (by rw [hat _ _ hb, hb])) (hat _ _ hb)
          simp [this]
      · rw [e] at h2
        rw [h2]; simp [h3]
    · intro h1
      cases hb : best x.hub with
      | none =>
        rw [hb] at h1
        refine .inr (.inl ⟨(Option.some.inj h1).symm, fun y hy he => ?_⟩)
        have := (h.2 y).1 hy
        rw [he, hb] at this; cases this
      | some old =>
        rw [hb] at h1
        simp only [Option.some.injEq] at h1
        by_cases ha : ahd x old < 0
        · rw [if_pos ha] at h1
          refine .inr (.inl ⟨h1.symm, fun y hy he => ?_⟩)
          have := (h.2 y).1 hy
          rw [he, hb] at this
          rw [← Option.some.inj this]; exact ha
        · rw [if_neg ha] at h1
          subst h1
          exact .inr (.inr ⟨e, by rw [e]; exact hb, ha⟩)
  · rw [if_neg e]
    constructor
    · rintro (⟨_, h2⟩ | ⟨h1, _⟩ | ⟨h1, _⟩)
      · exact h2
      · exact absurd (by rw [h1]) e
      · exact absurd h1 e
    · exact fun h1 => .inl ⟨e, h1⟩
/-! the document's lists -/
def candL (e : Ed) (l : List Lb) (x : Lb) : List Lb := if e.w.toNat + x.dist.toNat < 9223372036854775808 then putL l ⟨x.hub, e.h, UInt64.ofNat (e.w.toNat + x.dist.toNat)⟩ else l
def edgeL (of : UInt32 → List Lb) (l : List Lb) (e : Ed) : List Lb := (of e.h).foldl (candL e) l
def firstL (v : UInt32) : List Lb := putL [] ⟨v, v, 0⟩
def addL (v : UInt32) (up : List Ed) (of : UInt32 → List Lb) : List Lb := up.foldl (edgeL of) (firstL v)
theorem BestL.cand {best : UInt32 → Option Lb} {l : List Lb} (h : BestL best l) (hat : AtHub best) (e : Ed) (x : Lb) : BestL (candB e best x) (candL e l x) := by
  unfold candB candL
  by_cases hs : e.w.toNat + x.dist.toNat < 9223372036854775808
  · rw [if_pos hs, if_pos hs]; exact h.put hat _
  · rw [if_neg hs, if_neg hs]; exact h
theorem BestL.fold {best : UInt32 → Option Lb} {l : List Lb} (h : BestL best l) (hat : AtHub best) (e : Ed) (m : List Lb) : BestL (m.foldl (candB e) best) (m.foldl (candL e) l) := by
  induction m generalizing best l with
  | nil => exact h
  | cons x r ih => exact ih (h.cand hat e x) (hat.cand e x)
theorem BestL.edges {best : UInt32 → Option Lb} {l : List Lb} (h : BestL best l) (hat : AtHub best) (of : UInt32 → List Lb) (up : List Ed) : BestL (up.foldl (edgeB of) best) (up.foldl (edgeL of) l) := by
  induction up generalizing best l with
  | nil => exact h
  | cons e r ih => exact ih (h.fold hat e _) (hat.fold e _)
theorem BestL.first (v : UInt32) : BestL (firstB v) (firstL v) := BestL.put (best := fun _ => none) (l := []) ⟨Ris.nil_, fun _ => by simp⟩ AtHub.none_ _
theorem BestL.add (v : UInt32) (up : List Ed) (of : UInt32 → List Lb) : BestL (addB v up of) (addL v up of) := (BestL.first v).edges (AtHub.first v) of up
/-! what is let go -/
theorem nearB_spec {near : UInt32 → Option UInt64} {l : List Lb} (h : ∀ k, (near k = none → ∀ a ∈ l, a.hub ≠ k) ∧ ∀ d, near k = some d → (∃ a ∈ l, a.hub = k ∧ a.dist = d) ∧ ∀ a ∈ l, a.hub = k → d.toNat ≤ a.dist.toNat) (x : Lb) :
    ∀ k, (nearB near x k = none → ∀ a ∈ l ++ [x], a.hub ≠ k) ∧ ∀ d, nearB near x k = some d → (∃ a ∈ l ++ [x], a.hub = k ∧ a.dist = d) ∧ ∀ a ∈ l ++ [x], a.hub = k → d.toNat ≤ a.dist.toNat := by
  intro k
  unfold nearB
  by_cases e : k = x.hub
  · subst e
    rw [if_pos rfl]
    cases hb : near x.hub with
    | none =>
      have hn := (h x.hub).1 hb
      refine ⟨fun h => (by cases h), fun d hd => ?_⟩
      cases hd
      refine ⟨⟨x, by simp, rfl, rfl⟩, fun a ha he => ?_⟩
      rcases List.mem_append.1 ha with ha | ha
      · exact absurd he (hn a ha)
      · rw [List.mem_singleton.1 ha]; exact Nat.le_refl _
    | some d0 =>
      obtain ⟨⟨a0, h1, h2, h3⟩, h4⟩ := (h x.hub).2 d0 hb
      refine ⟨fun h => (by cases h), fun d hd => ?_⟩
      simp only [Option.some.injEq] at hd
      by_cases hlt : x.dist.toNat < d0.toNat
      · rw [if_pos hlt] at hd
        subst hd
        refine ⟨⟨x, by simp, rfl, rfl⟩, fun a ha he => ?_⟩
        rcases List.mem_append.1 ha with ha | ha
        · have := h4 a ha he; omega
        · rw [List.mem_singleton.1 ha]; exact Nat.le_refl _
      · rw [if_neg hlt] at hd
        subst hd
        refine ⟨⟨a0, by simp [h1], h2, h3⟩, fun a ha he => ?_⟩
        rcases List.mem_append.1 ha with ha | ha
        · exact h4 a ha he
        · rw [List.mem_singleton.1 ha]; omega
  · rw [if_neg e]
    refine ⟨fun hn a ha => ?_, fun d hd => ?_⟩
    · rcases List.mem_append.1 ha with ha | ha
      · exact (h k).1 hn a ha
      · rw [List.mem_singleton.1 ha]; exact fun h => e h.symm
    · obtain ⟨⟨a0, h1, h2⟩, h4⟩ := (h k).2 d hd
      refine ⟨⟨a0, by simp [h1], h2⟩, fun a ha he => ?_⟩
      rcases List.mem_append.1 ha with ha | ha
      · exact h4 a ha he
      · rw [List.mem_singleton.1 ha] at he; exact absurd he.symm e
theorem nearP_spec (l : List Lb) : ∀ k, (nearP l k = none → ∀ a ∈ l, a.hub ≠ k) ∧ ∀ d, nearP l k = some d → (∃ a ∈ l, a.hub = k ∧ a.dist = d) ∧ ∀ a ∈ l, a.hub = k → d.toNat ≤ a.dist.toNat := by
  have go : ∀ (r pre : List Lb) (near : UInt32 → Option UInt64), (∀ k, (near k = none → ∀ a ∈ pre, a.hub ≠ k) ∧ ∀ d, near k = some d → (∃ a ∈ pre, a.hub = k ∧ a.dist = d) ∧ ∀ a ∈ pre, a.hub = k → d.toNat ≤ a.dist.toNat) →
      ∀ k, (r.foldl nearB near k = none → ∀ a ∈ pre ++ r, a.hub ≠ k) ∧ ∀ d, r.foldl nearB near k = some d → (∃ a ∈ pre ++ r, a.hub = k ∧ a.dist = d) ∧ ∀ a ∈ pre ++ r, a.hub = k → d.toNat ≤ a.dist.toNat := by
    intro r
    induction r with
    | nil => intro pre near h; simpa using h
    | cons x r ih =>
      intro pre near h
      have := ih (pre ++ [x]) (nearB near x) (nearB_spec h x)
      simpa using this
  have := go l [] (fun _ => none) (fun k => ⟨fun _ a ha => (by cases ha), fun d hd => (by cases hd)⟩)
  unfold nearP
  simpa using this
theorem gone_same (l : List Lb) (of : UInt32 → List Lb) (x : Lb) : goneP (nearP l) of x = goneR l of x := by
  rw [Bool.eq_iff_iff]
  unfold goneP goneR
  simp only [List.any_eq_true]
  constructor
  · rintro ⟨y, hy, hg⟩
    unfold gone1 at hg
    cases hb : nearP l y.hub with
    | none => rw [hb] at hg; cases hg
    | some d =>
      rw [hb] at hg
      simp only [Bool.and_eq_true, decide_eq_true_eq] at hg
      obtain ⟨⟨a, ha, he, hd⟩, _⟩ := (nearP_spec l y.hub).2 d hb
      exact ⟨a, ha, y, hy, lessG_yes (by rw [he]) (by rw [hd]; exact hg.1) (by rw [hd]; exact hg.2)⟩
  · rintro ⟨a, ha, y, hy, hg⟩
    simp only [lessG, Bool.and_eq_true, beq_iff_eq, decide_eq_true_eq] at hg
    obtain ⟨h1, h2, h3⟩ := hg
    have he : a.hub = y.hub := UInt32.toNat_inj.1 (by omega)
    refine ⟨y, hy, ?_⟩
    unfold gone1
    cases hb : nearP l y.hub with
    | none => exact absurd he ((nearP_spec l y.hub).1 hb a ha)
    | some d =>
      have := ((nearP_spec l y.hub).2 d hb).2 a ha he
      simp only [Bool.and_eq_true, decide_eq_true_eq]
      exact ⟨by omega, by omega⟩
end Go.Proofs.Ytfgkmimhibpceaa

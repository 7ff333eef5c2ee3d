/-
  Hub, plainly: which candidates the best ones are of; their order has no say.
-/
import Derived.Test.YtfgkmimhibpceaaHpl
namespace Go.Proofs.Ytfgkmimhibpceaa
open Go.RowKit
set_option maxRecDepth 100000
set_option maxHeartbeats 400000

/-- the best ones of candidates. -/
def BestOf (C : Lb → Prop) (best : UInt32 → Option Lb) : Prop := ∀ h, (best h = none → ∀ c, C c → c.hub ≠ h) ∧ ∀ x, best h = some x → C x ∧ x.hub = h ∧ ∀ c, C c → c.hub = h → ¬ ahd c x < 0
theorem ahd_no (x y : Lb) : ¬ ahd x y < 0 ↔ y.dist.toNat < x.dist.toNat ∨ y.dist.toNat = x.dist.toNat ∧ y.next.toNat ≤ x.next.toNat := by
  rw [ahd_iff]; omega
theorem ahd_self (x : Lb) : ¬ ahd x x < 0 := by rw [ahd_no]; omega
theorem lb_ext {x y : Lb} (h : x.hub = y.hub) (h1 : ¬ ahd x y < 0) (h2 : ¬ ahd y x < 0) : x = y := by
  rw [ahd_no] at h1 h2
  obtain ⟨a, b, c⟩ := x
  obtain ⟨a', b', c'⟩ := y
  simp only [] at h h1 h2
  have e1 : b.toNat = b'.toNat := by omega
  have e2 : c.toNat = c'.toNat := by omega
  rw [h, UInt32.toNat_inj.1 e1, UInt64.toNat_inj.1 e2]
theorem BestOf.same {C : Lb → Prop} {a b : UInt32 → Option Lb} (ha : BestOf C a) (hb : BestOf C b) : a = b := by
  funext h
  cases e1 : a h with
  | none =>
    cases e2 : b h with
    | none => rfl
    | some y =>
      obtain ⟨h1, h2, _⟩ := (hb h).2 y e2
      exact absurd h2 ((ha h).1 e1 y h1)
  | some x =>
    obtain ⟨h1, h2, h3⟩ := (ha h).2 x e1
    cases e2 : b h with
    | none => exact absurd h2 ((hb h).1 e2 x h1)
    | some y =>
      obtain ⟨k1, k2, k3⟩ := (hb h).2 y e2
      rw [lb_ext (h2.trans k2.symm) (k3 x h1 h2) (h3 y k1 k2)]
theorem BestOf.congr {C D : Lb → Prop} {a : UInt32 → Option Lb} (h : BestOf C a) (he : ∀ c, C c ↔ D c) : BestOf D a := by
  have : C = D := funext fun c => propext (he c)
  rw [← this]; exact h
theorem BestOf.none_ : BestOf (fun _ => False) (fun _ => none) := fun h => ⟨fun _ c hc => hc.elim, fun x hx => by cases hx⟩
theorem BestOf.put {C : Lb → Prop} {best : UInt32 → Option Lb} (h : BestOf C best) (x : Lb) : BestOf (fun c => C c ∨ c = x) (putB best x) := by
  intro k
  unfold putB
  by_cases e : k = x.hub
  · subst e
    rw [if_pos rfl]
    cases hb : best x.hub with
    | none =>
      refine ⟨fun h => (by cases h), fun y hy => ?_⟩
      cases hy
      refine ⟨.inr rfl, rfl, fun c hc he => ?_⟩
      rcases hc with hc | rfl
      · exact absurd he ((h _).1 hb c hc)
      · exact ahd_self _
    | some old =>
      obtain ⟨h1, h2, h3⟩ := (h _).2 old hb
      refine ⟨fun h => (by cases h), fun y hy => ?_⟩
      simp only [Option.some.injEq] at hy
      by_cases ha : ahd x old < 0
      · rw [if_pos ha] at hy
        subst hy
        refine ⟨.inr rfl, rfl, fun c hc he => ?_⟩
        rcases hc with hc | rfl
        · have := h3 c hc he
          rw [ahd_no] at this ⊢
          rw [ahd_iff] at ha
          omega
        · exact ahd_self _
      · rw [if_neg ha] at hy
        subst hy
        refine ⟨.inl h1, h2, fun c hc he => ?_⟩
        rcases hc with hc | rfl
        · exact h3 c hc he
        · exact ha
  · rw [if_neg e]
    refine ⟨fun hn c hc => ?_, fun y hy => ?_⟩
    · rcases hc with hc | rfl
      · exact (h k).1 hn c hc
      · exact fun he => e he.symm
    · obtain ⟨h1, h2, h3⟩ := (h k).2 y hy
      refine ⟨.inl h1, h2, fun c hc he => ?_⟩
      rcases hc with hc | rfl
      · exact h3 c hc he
      · exact absurd he.symm e
def candOf (e : Ed) (x c : Lb) : Prop := e.w.toNat + x.dist.toNat < 9223372036854775808 ∧ c = ⟨x.hub, e.h, UInt64.ofNat (e.w.toNat + x.dist.toNat)⟩
theorem BestOf.cand {C : Lb → Prop} {best : UInt32 → Option Lb} (h : BestOf C best) (e : Ed) (x : Lb) : BestOf (fun c => C c ∨ candOf e x c) (candB e best x) := by
  unfold candB candOf
  by_cases hs : e.w.toNat + x.dist.toNat < 9223372036854775808
  · rw [if_pos hs]; exact (h.put _).congr fun c => by simp [hs]
  · rw [if_neg hs]; exact h.congr fun c => by simp [hs]
theorem BestOf.fold {C : Lb → Prop} {best : UInt32 → Option Lb} (h : BestOf C best) (e : Ed) (m : List Lb) : BestOf (fun c => C c ∨ ∃ x ∈ m, candOf e x c) (m.foldl (candB e) best) := by
  induction m generalizing best C with
  | nil => exact h.congr fun c => by simp
  | cons x r ih => exact (ih (h.cand e x)).congr fun c => by simp [or_assoc]
theorem BestOf.edges {C : Lb → Prop} {best : UInt32 → Option Lb} (h : BestOf C best) (of : UInt32 → List Lb) (up : List Ed) : BestOf (fun c => C c ∨ ∃ e ∈ up, ∃ x ∈ of e.h, candOf e x c) (up.foldl (edgeB of) best) := by
  induction up generalizing best C with
  | nil => exact h.congr fun c => by simp
  | cons e r ih => exact (ih (h.fold e _)).congr fun c => by simp [or_assoc]
theorem BestOf.add (v : UInt32) (up : List Ed) (of : UInt32 → List Lb) : BestOf (fun c => c = ⟨v, v, 0⟩ ∨ ∃ e ∈ up, ∃ x ∈ of e.h, candOf e x c) (addB v up of) :=
  ((BestOf.none_.put ⟨v, v, 0⟩).edges of up).congr fun c => by simp
/-- edges told by their members alone. -/
theorem addL_mem (v : UInt32) {up vp : List Ed} (of : UInt32 → List Lb) (h : ∀ e, e ∈ up ↔ e ∈ vp) : addL v up of = addL v vp of := by
  have e : addB v up of = addB v vp of := (BestOf.add v up of).same ((BestOf.add v vp of).congr fun c => by simp [h])
  have h1 := BestL.add v up of
  rw [e] at h1
  exact h1.same (BestL.add v vp of)
end Go.Proofs.Ytfgkmimhibpceaa

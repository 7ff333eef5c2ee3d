/-
  Which edges count, plainly.
-/
import Derived.Test.YthckjpcknmmagaaDoorEg
import Derived.Test.YthckjpcknmmagaaDoorIk
namespace Go.Proofs.YthckjpcknmmagaaDoor.R
open Go.RowKit
set_option maxRecDepth 100000
set_option maxHeartbeats 400000

def Ed.k (x : Ed) : Pr := ⟨x.t, x.h⟩
def kn (x : Ed) : Nat := x.t.toNat * 4294967296 + x.h.toNat
/-- what comes behind a middle: one more, round. -/
def mn (x : Ed) : Nat := (x.m.toNat + 1) % 4294967296
def wn (x : Ed) : Nat := x.w.toNat * 4294967296 + mn x
theorem kn_iff (x y : Ed) : kn x = kn y ↔ x.t.toNat = y.t.toNat ∧ x.h.toNat = y.h.toNat := by
  have h1 := x.h.toNat_lt; have h2 := y.h.toNat_lt
  unfold kn; omega
theorem kn_lt (x y : Ed) : kn x < kn y ↔ x.t.toNat < y.t.toNat ∨ x.t.toNat = y.t.toNat ∧ x.h.toNat < y.h.toNat := by
  have h1 := x.h.toNat_lt; have h2 := y.h.toNat_lt
  unfold kn; omega
theorem mn_lt (x : Ed) : mn x < 4294967296 := Nat.mod_lt _ (by omega)
theorem wn_lt (x y : Ed) : wn x < wn y ↔ x.w.toNat < y.w.toNat ∨ x.w.toNat = y.w.toNat ∧ mn x < mn y := by
  have h1 := mn_lt x; have h2 := mn_lt y
  unfold wn; omega
theorem kn_k (x y : Ed) : kn x = kn y ↔ x.k = y.k := by
  rw [kn_iff]; unfold Ed.k
  simp only [Pr.mk.injEq, UInt32.toNat_inj]
theorem ed_ext {x y : Ed} (h : kn x = kn y) (h1 : wn x ≤ wn y) (h2 : wn y ≤ wn x) : x = y := by
  obtain ⟨a, b, c, d⟩ := x
  obtain ⟨a', b', c', d'⟩ := y
  rw [kn_iff] at h
  have m1 := mn_lt ⟨a, b, c, d⟩
  have m2 := mn_lt ⟨a', b', c', d'⟩
  have d1 := d.toNat_lt
  have d2 := d'.toNat_lt
  unfold wn at h1 h2
  simp only [mn] at *
  have e1 : c.toNat = c'.toNat := by omega
  have e2 : d.toNat = d'.toNat := by omega
  rw [UInt32.toNat_inj.1 h.1, UInt32.toNat_inj.1 h.2, UInt64.toNat_inj.1 e1, UInt32.toNat_inj.1 e2]
/-! what counts -/
def RisE (l : List Ed) : Prop := l.Pairwise fun a b => kn a < kn b
/-- a list tells what counts of edges. -/
def Top (C : Ed → Prop) (l : List Ed) : Prop := RisE l ∧ ∀ x, x ∈ l ↔ C x ∧ x.t ≠ x.h ∧ ∀ c, C c → c.t ≠ c.h → kn c = kn x → wn x ≤ wn c
theorem RisE.same : ∀ {l m : List Ed}, RisE l → RisE m → (∀ x, x ∈ l ↔ x ∈ m) → l = m
  | [], [], _, _, _ => rfl
  | [], y :: s, _, _, h => by have := (h y).2 (by simp); cases this
  | x :: r, [], _, _, h => by have := (h x).1 (by simp); cases this
  | x :: r, y :: s, hl, hm, h => by
    have hl' := List.pairwise_cons.1 hl
    have hm' := List.pairwise_cons.1 hm
    have hxy : x = y := by
      rcases List.mem_cons.1 ((h x).1 (by simp)) with e | h1
      · exact e
      · rcases List.mem_cons.1 ((h y).2 (by simp)) with e | h2
        · exact e.symm
        · have := hm'.1 x h1
          have := hl'.1 y h2
          omega
    subst hxy
    congr 1
    refine RisE.same hl'.2 hm'.2 fun z => ⟨fun hz => ?_, fun hz => ?_⟩
    · rcases List.mem_cons.1 ((h z).1 (by simp [hz])) with e | h1
      · subst e; have := hl'.1 z hz; omega
      · exact h1
    · rcases List.mem_cons.1 ((h z).2 (by simp [hz])) with e | h1
      · subst e; have := hm'.1 z hz; omega
      · exact h1
theorem Top.same {C : Ed → Prop} {l m : List Ed} (hl : Top C l) (hm : Top C m) : l = m := hl.1.same hm.1 fun x => (hl.2 x).trans (hm.2 x).symm
theorem Top.congr {C D : Ed → Prop} {l : List Ed} (h : Top C l) (he : ∀ c, C c ↔ D c) : Top D l := by
  have : C = D := funext fun c => propext (he c)
  rw [← this]; exact h
theorem Top.nil_ : Top (fun _ => False) [] := ⟨List.Pairwise.nil, fun x => by simp⟩
/-- for each edge that counts as one there is one in the list, that is no heavier. -/
theorem Top.there {C : Ed → Prop} {l : List Ed} (hfin : ∃ m : List Ed, ∀ c, C c ↔ c ∈ m) (h : Top C l) {c : Ed} (hc : C c) (hn : c.t ≠ c.h) : ∃ x ∈ l, kn x = kn c ∧ wn x ≤ wn c := by
  obtain ⟨m, hm⟩ := hfin
  have key : ∀ (r : List Ed) (b : Ed), C b → b.t ≠ b.h → kn b = kn c → (∀ d ∈ r, C d) → ∃ x, C x ∧ x.t ≠ x.h ∧ kn x = kn c ∧ wn x ≤ wn b ∧ ∀ d ∈ r, d.t ≠ d.h → kn d = kn c → wn x ≤ wn d := by
    intro r
    induction r with
    | nil => intro b h1 h2 h3 _; exact ⟨b, h1, h2, h3, Nat.le_refl _, fun d hd => by cases hd⟩
    | cons y r ih =>
      intro b h1 h2 h3 h4
      by_cases hy : y.t ≠ y.h ∧ kn y = kn c ∧ wn y < wn b
      · obtain ⟨x, k1, k2, k3, k4, k5⟩ := ih y (h4 y (by simp)) hy.1 hy.2.1 (fun d hd => h4 d (by simp [hd]))
        refine ⟨x, k1, k2, k3, by omega, fun d hd e1 e2 => ?_⟩
        rcases List.mem_cons.1 hd with rfl | hd
        · exact k4
        · exact k5 d hd e1 e2
      · obtain ⟨x, k1, k2, k3, k4, k5⟩ := ih b h1 h2 h3 (fun d hd => h4 d (by simp [hd]))
        refine ⟨x, k1, k2, k3, k4, fun d hd e1 e2 => ?_⟩
        rcases List.mem_cons.1 hd with rfl | hd
        · have : ¬ wn d < wn b := fun h => hy ⟨e1, e2, h⟩
          omega
        · exact k5 d hd e1 e2
  obtain ⟨x, k1, k2, k3, k4, k5⟩ := key m c hc hn rfl (fun d hd => (hm d).2 hd)
  exact ⟨x, (h.2 x).2 ⟨k1, k2, fun d hd e1 e2 => k5 d ((hm d).1 hd) e1 (e2.trans k3)⟩, k3, k4⟩
/-! the map of the best -/
def putE (best : Pr → Option Ed) (x : Ed) : Pr → Option Ed := if x.t = x.h then best else fun k => if k = x.k then (match best x.k with | none => some x | some old => some (if wn x < wn old then x else old)) else best k
def BestE (C : Ed → Prop) (best : Pr → Option Ed) : Prop := ∀ k, (best k = none → ∀ c, C c → c.t ≠ c.h → c.k ≠ k) ∧ ∀ x, best k = some x → C x ∧ x.t ≠ x.h ∧ x.k = k ∧ ∀ c, C c → c.t ≠ c.h → c.k = k → wn x ≤ wn c
theorem BestE.none_ : BestE (fun _ => False) (fun _ => none) := fun k => ⟨fun _ c hc => hc.elim, fun x hx => by cases hx⟩
theorem BestE.congr {C D : Ed → Prop} {a : Pr → Option Ed} (h : BestE C a) (he : ∀ c, C c ↔ D c) : BestE D a := by
  have : C = D := funext fun c => propext (he c)
  rw [← this]; exact h
theorem BestE.put {C : Ed → Prop} {best : Pr → Option Ed} (h : BestE C best) (x : Ed) : BestE (fun c => C c ∨ c = x) (putE best x) := by
  intro k
  unfold putE
  by_cases hx : x.t = x.h
  · rw [if_pos hx]
    refine ⟨fun hn c hc he => ?_, fun y hy => ?_⟩
    · rcases hc with hc | rfl
      · exact (h k).1 hn c hc he
      · exact absurd hx he
    · obtain ⟨h1, h2, h3, h4⟩ := (h k).2 y hy
      refine ⟨.inl h1, h2, h3, fun c hc he hk => ?_⟩
      rcases hc with hc | rfl
      · exact h4 c hc he hk
      · exact absurd hx he
  · rw [if_neg hx]
    by_cases e : k = x.k
    · subst e
      simp only [if_true]
      cases hb : best x.k with
      | none =>
        refine ⟨fun h => (by cases h), fun y hy => ?_⟩
        cases hy
        refine ⟨.inr rfl, hx, rfl, fun c hc he hk => ?_⟩
        rcases hc with hc | rfl
        · exact absurd hk ((h _).1 hb c hc he)
        · exact Nat.le_refl _
      | some old =>
        obtain ⟨h1, h2, h3, h4⟩ := (h _).2 old hb
        refine ⟨fun h => (by cases h), fun y hy => ?_⟩
        simp only [Option.some.injEq] at hy
        by_cases ha : wn x < wn old
        · rw [if_pos ha] at hy
          subst hy
          refine ⟨.inr rfl, hx, rfl, fun c hc he hk => ?_⟩
          rcases hc with hc | rfl
          · have := h4 c hc he hk; omega
          · exact Nat.le_refl _
        · rw [if_neg ha] at hy
          subst hy
          refine ⟨.inl h1, h2, h3, fun c hc he hk => ?_⟩
          rcases hc with hc | rfl
          · exact h4 c hc he hk
          · omega
    · simp only [if_neg e]
      refine ⟨fun hn c hc he => ?_, fun y hy => ?_⟩
      · rcases hc with hc | rfl
        · exact (h k).1 hn c hc he
        · exact fun h => e h.symm
      · obtain ⟨h1, h2, h3, h4⟩ := (h k).2 y hy
        refine ⟨.inl h1, h2, h3, fun c hc he hk => ?_⟩
        rcases hc with hc | rfl
        · exact h4 c hc he hk
        · exact absurd hk.symm e
def redE (l : List Ed) : Pr → Option Ed := l.foldl putE fun _ => none
theorem BestE.fold {C : Ed → Prop} {best : Pr → Option Ed} (h : BestE C best) (l : List Ed) : BestE (fun c => C c ∨ c ∈ l) (l.foldl putE best) := by
  induction l generalizing C best with
  | nil => exact h.congr fun c => by simp
  | cons x r ih => exact (ih (h.put x)).congr fun c => by simp [or_assoc]
theorem redE_best (l : List Ed) : BestE (fun c => c ∈ l) (redE l) := (BestE.none_.fold l).congr fun c => by simp
/-- a list of the map's elements, rising. -/
theorem BestE.top {C : Ed → Prop} {best : Pr → Option Ed} (h : BestE C best) {l : List Ed} (hr : RisE l) (hm : ∀ x, x ∈ l ↔ best x.k = some x) : Top C l := by
  refine ⟨hr, fun x => ?_⟩
  rw [hm]
  constructor
  · intro hx
    obtain ⟨h1, h2, _, h4⟩ := (h _).2 x hx
    exact ⟨h1, h2, fun c hc hn hk => h4 c hc hn ((kn_k c x).1 hk)⟩
  · rintro ⟨h1, h2, h3⟩
    cases hb : best x.k with
    | none => exact absurd rfl ((h _).1 hb x h1 h2)
    | some y =>
      obtain ⟨k1, k2, k3, k4⟩ := (h _).2 y hb
      rw [ed_ext ((kn_k y x).2 k3) (k4 x h1 h2 rfl) (h3 y k1 k2 ((kn_k y x).2 k3))]
/-- each edge of the map stands at its own pair. -/
def AtPr (best : Pr → Option Ed) : Prop := ∀ k x, best k = some x → x.k = k
theorem BestE.atPr {C : Ed → Prop} {best : Pr → Option Ed} (h : BestE C best) : AtPr best := fun k x hx => ((h k).2 x hx).2.2.1
/-! the document's list -/
def putLE : List Ed → Ed → List Ed
  | [], x => [x]
  | y :: r, x => if kn y < kn x then y :: putLE r x else if kn y = kn x then (if wn x < wn y then x :: r else y :: r) else x :: y :: r
def redLE (l : List Ed) (x : Ed) : List Ed := if x.t = x.h then l else putLE l x
def redL (l : List Ed) : List Ed := l.foldl redLE []
theorem mem_putLE {l : List Ed} (h : RisE l) (x z : Ed) : z ∈ putLE l x ↔ (kn z ≠ kn x ∧ z ∈ l) ∨ (z = x ∧ ∀ y ∈ l, kn y = kn x → wn x < wn y) ∨ (kn z = kn x ∧ z ∈ l ∧ ¬ wn x < wn z) := by
  induction l with
  | nil => simp [putLE]
  | cons y r ih =>
    have ih := ih (List.pairwise_cons.1 h).2
    have hh := (List.pairwise_cons.1 h).1
    simp only [putLE]
    by_cases h1 : kn y < kn x
    · rw [if_pos h1, List.mem_cons, ih]
      have hne : kn y ≠ kn x := by omega
      constructor
      · rintro (rfl | ⟨h2, h3⟩ | ⟨h2, h3⟩ | ⟨h2, h3, h4⟩)
        · exact .inl ⟨hne, by simp⟩
        · exact .inl ⟨h2, by simp [h3]⟩
        · refine .inr (.inl ⟨h2, fun u hu e => ?_⟩)
          rcases List.mem_cons.1 hu with rfl | hu
          · exact absurd e hne
          · exact h3 u hu e
        · exact .inr (.inr ⟨h2, by simp [h3], h4⟩)
      · rintro (⟨h2, h3⟩ | ⟨h2, h3⟩ | ⟨h2, h3, h4⟩)
        · rcases List.mem_cons.1 h3 with rfl | h3
          · exact .inl rfl
          · exact .inr (.inl ⟨h2, h3⟩)
        · exact .inr (.inr (.inl ⟨h2, fun u hu e => h3 u (by simp [hu]) e⟩))
        · rcases List.mem_cons.1 h3 with rfl | h3
          · exact absurd h2 hne
          · exact .inr (.inr (.inr ⟨h2, h3, h4⟩))
    · rw [if_neg h1]
      by_cases h2 : kn y = kn x
      · rw [if_pos h2]
        have hr : ∀ u ∈ r, kn u ≠ kn x := fun u hu => by have := hh u hu; omega
        by_cases ha : wn x < wn y
        · rw [if_pos ha, List.mem_cons]
          constructor
          · rintro (rfl | h3)
            · refine .inr (.inl ⟨rfl, fun u hu e => ?_⟩)
              rcases List.mem_cons.1 hu with rfl | hu
              · exact ha
              · exact absurd e (hr u hu)
            · exact .inl ⟨hr z h3, by simp [h3]⟩
          · rintro (⟨h3, h4⟩ | ⟨h3, h4⟩ | ⟨h3, h4, h5⟩)
            · rcases List.mem_cons.1 h4 with rfl | h4
              · exact absurd h2 h3
              · exact .inr h4
            · exact .inl h3
            · rcases List.mem_cons.1 h4 with rfl | h4
              · exact absurd ha h5
              · exact absurd h3 (hr z h4)
        · rw [if_neg ha]
          constructor
          · intro h0
            rcases List.mem_cons.1 h0 with rfl | h3
            · exact .inr (.inr ⟨h2, by simp, ha⟩)
            · exact .inl ⟨hr z h3, by simp [h3]⟩
          · rintro (⟨h3, h4⟩ | ⟨h3, h4⟩ | ⟨h3, h4, h5⟩)
            · exact h4
            · exact absurd (h4 y (by simp) h2) ha
            · exact h4
      · rw [if_neg h2, List.mem_cons]
        have hr : ∀ u ∈ y :: r, kn u ≠ kn x := fun u hu => by
          rcases List.mem_cons.1 hu with rfl | hu
          · exact h2
          · have := hh u hu; omega
        constructor
        · rintro (rfl | h3)
          · exact .inr (.inl ⟨rfl, fun u hu e => absurd e (hr u hu)⟩)
          · exact .inl ⟨hr z h3, h3⟩
        · rintro (⟨h3, h4⟩ | ⟨h3, h4⟩ | ⟨h3, h4, h5⟩)
          · exact .inr h4
          · exact .inl h3
          · exact absurd h3 (hr z h4)
theorem RisE.put {l : List Ed} (h : RisE l) (x : Ed) : RisE (putLE l x) := by
  induction l with
  | nil => exact List.pairwise_singleton _ _
  | cons y r ih =>
    have ht := (List.pairwise_cons.1 h).2
    have hh := (List.pairwise_cons.1 h).1
    simp only [putLE]
    by_cases h1 : kn y < kn x
    · rw [if_pos h1]
      refine List.pairwise_cons.2 ⟨fun z hz => ?_, ih ht⟩
      rcases (mem_putLE ht x z).1 hz with ⟨_, h3⟩ | ⟨h3, _⟩ | ⟨_, h3, _⟩
      · exact hh z h3
      · rw [h3]; exact h1
      · exact hh z h3
    · rw [if_neg h1]
      by_cases h2 : kn y = kn x
      · rw [if_pos h2]
        by_cases ha : wn x < wn y
        · rw [if_pos ha]; exact List.pairwise_cons.2 ⟨fun z hz => by have := hh z hz; omega, ht⟩
        · rw [if_neg ha]; exact h
      · rw [if_neg h2]
        refine List.pairwise_cons.2 ⟨fun z hz => ?_, h⟩
        rcases List.mem_cons.1 hz with rfl | hz
        · omega
        · have := hh z hz; omega
theorem Top.put {C : Ed → Prop} {l : List Ed} (hfin : ∃ m : List Ed, ∀ c, C c ↔ c ∈ m) (h : Top C l) (x : Ed) : Top (fun c => C c ∨ c = x) (redLE l x) := by
  unfold redLE
  by_cases hx : x.t = x.h
  · rw [if_pos hx]
    refine ⟨h.1, fun z => ?_⟩
    rw [h.2]
    constructor
    · rintro ⟨h1, h2, h3⟩
      refine ⟨.inl h1, h2, fun c hc hn hk => ?_⟩
      rcases hc with hc | rfl
      · exact h3 c hc hn hk
      · exact absurd hx hn
    · rintro ⟨h1, h2, h3⟩
      rcases h1 with h1 | rfl
      · exact ⟨h1, h2, fun c hc hn hk => h3 c (.inl hc) hn hk⟩
      · exact absurd hx h2
  · rw [if_neg hx]
    refine ⟨h.1.put x, fun z => ?_⟩
    rw [mem_putLE h.1]
    constructor
    · rintro (⟨h1, h2⟩ | ⟨rfl, h2⟩ | ⟨h1, h2, h3⟩)
      · obtain ⟨k1, k2, k3⟩ := (h.2 z).1 h2
        refine ⟨.inl k1, k2, fun c hc hn hk => ?_⟩
        rcases hc with hc | rfl
        · exact k3 c hc hn hk
        · exact absurd hk.symm h1
      · refine ⟨.inr rfl, hx, fun c hc hn hk => ?_⟩
        rcases hc with hc | rfl
        · obtain ⟨y, hy, e1, e2⟩ := h.there hfin hc hn
          have := h2 y hy (e1.trans hk)
          omega
        · exact Nat.le_refl _
      · obtain ⟨k1, k2, k3⟩ := (h.2 z).1 h2
        refine ⟨.inl k1, k2, fun c hc hn hk => ?_⟩
        rcases hc with hc | rfl
        · exact k3 c hc hn hk
        · omega
    · rintro ⟨h1, h2, h3⟩
      by_cases hk : kn z = kn x
      · rcases h1 with h1 | rfl
        · have hw := h3 x (.inr rfl) hx hk.symm
          exact .inr (.inr ⟨hk, (h.2 z).2 ⟨h1, h2, fun c hc hn he => h3 c (.inl hc) hn he⟩, by omega⟩)
        · by_cases hall : ∃ y ∈ l, kn y = kn z ∧ ¬ wn z < wn y
          rotate_left
          · exact .inr (.inl ⟨rfl, fun y hy e => Decidable.byContradiction fun h => hall ⟨y, hy, e, h⟩⟩)
          · obtain ⟨y, hy, e1, e2⟩ := hall
            obtain ⟨k1, k2, k3⟩ := (h.2 y).1 hy
            have hw := h3 y (.inl k1) k2 e1
            have : y = z := ed_ext e1 (by omega) hw
            subst this
            exact .inr (.inr ⟨rfl, hy, by omega⟩)
      · rcases h1 with h1 | rfl
        · exact .inl ⟨hk, (h.2 z).2 ⟨h1, h2, fun c hc hn he => h3 c (.inl hc) hn he⟩⟩
        · exact absurd rfl hk
theorem Top.fold {C : Ed → Prop} {b : List Ed} (hfin : ∃ m : List Ed, ∀ c, C c ↔ c ∈ m) (h : Top C b) (l : List Ed) : Top (fun c => C c ∨ c ∈ l) (l.foldl redLE b) := by
  induction l generalizing C b with
  | nil => exact h.congr fun c => by simp
  | cons x r ih =>
    obtain ⟨m, hm⟩ := hfin
    exact (ih ⟨x :: m, fun c => by simp [hm, or_comm]⟩ (h.put ⟨m, hm⟩ x)).congr fun c => by simp [or_assoc]
theorem redL_top (l : List Ed) : Top (fun c => c ∈ l) (redL l) := (Top.nil_.fold ⟨[], fun c => by simp⟩ l).congr fun c => by simp
theorem Top.of_mem {l m r : List Ed} (h : Top (fun c => c ∈ l) r) (he : ∀ c, c ∈ l ↔ c ∈ m) : Top (fun c => c ∈ m) r := h.congr he
/-- reduced again. -/
theorem Top.again {C : Ed → Prop} {l : List Ed} (h : Top C l) : Top (fun c => c ∈ l) l := by
  refine ⟨h.1, fun x => ⟨fun hx => ?_, fun hx => hx.1⟩⟩
  obtain ⟨h1, h2, h3⟩ := (h.2 x).1 hx
  exact ⟨hx, h2, fun c hc hn hk => h3 c ((h.2 c).1 hc).1 hn hk⟩
/-- what counts of two lists. -/
theorem Top.join {l m a b r : List Ed} (ha : Top (fun c => c ∈ l) a) (hb : Top (fun c => c ∈ m) b) (hr : Top (fun c => c ∈ a ++ b) r) : Top (fun c => c ∈ l ++ m) r := by
  refine ⟨hr.1, fun x => ?_⟩
  rw [hr.2]
  simp only [List.mem_append]
  constructor
  · rintro ⟨h1, h2, h3⟩
    refine ⟨h1.imp (fun h => ((ha.2 x).1 h).1) (fun h => ((hb.2 x).1 h).1), h2, fun c hc hn hk => ?_⟩
    rcases hc with hc | hc
    · obtain ⟨y, hy, e1, e2⟩ := ha.there ⟨l, fun _ => Iff.rfl⟩ hc hn
      have := h3 y (.inl hy) ((ha.2 y).1 hy).2.1 (e1.trans hk)
      omega
    · obtain ⟨y, hy, e1, e2⟩ := hb.there ⟨m, fun _ => Iff.rfl⟩ hc hn
      have := h3 y (.inr hy) ((hb.2 y).1 hy).2.1 (e1.trans hk)
      omega
  · rintro ⟨h1, h2, h3⟩
    refine ⟨h1.imp (fun h => (ha.2 x).2 ⟨h, h2, fun c hc hn hk => h3 c (.inl hc) hn hk⟩) (fun h => (hb.2 x).2 ⟨h, h2, fun c hc hn hk => h3 c (.inr hc) hn hk⟩), h2, fun c hc hn hk => ?_⟩
    exact h3 c (hc.imp (fun h => ((ha.2 c).1 h).1) (fun h => ((hb.2 c).1 h).1)) hn hk
end Go.Proofs.YthckjpcknmmagaaDoor.R

/-
  Hub: HubNearest, plainly.
-/
import Derived.Test.YtfgkmimhibpceaaHbo
namespace Go.Proofs.Ytfgkmimhibpceaa
open Go.RowKit
set_option maxRecDepth 100000
set_option maxHeartbeats 400000

/-- bools as cells. -/
def Bs (S : Nat → Bool) (n : Nat) : Array Value := (Array.range n).map fun i => .bool (S i)
theorem Bs_size (S : Nat → Bool) (n : Nat) : (Bs S n).size = n := by simp [Bs]
theorem Bs_get (S : Nat → Bool) {n i : Nat} (h : i < n) : (Bs S n)[i]? = some (.bool (S i)) := by simp [Bs, h]
def setB (S : Nat → Bool) (i : Nat) (b : Bool) : Nat → Bool := fun k => if k = i then b else S k
theorem Bs_set (S : Nat → Bool) (n i : Nat) (b : Bool) : (Bs S n).setIfInBounds i (.bool b) = Bs (setB S i b) n := by
  apply Array.ext
  · simp [Bs]
  · intro j h1 h2
    have hj : j < n := by simpa [Bs] using h2
    by_cases e : i = j
    · subst e; simp [Bs, setB]
    · have e' : ¬ j = i := fun h => e h.symm
      simp only [Bs, setB]
      rw [Array.getElem_setIfInBounds_ne (by simpa using hj) e]
      simp [e']
theorem Bs_none (n : Nat) : madeCells #[.bool false] n = Bs (fun _ => false) n := by
  apply Array.ext
  · rw [Bs_size]; simp [madeCells]
  · intro j h1 h2
    simp [Bs, madeCells, Nat.mod_one]
theorem setB_same (S : Nat → Bool) (i : Nat) : setB S i (S i) = S := by
  funext k; unfold setB; by_cases e : k = i
  · subst e; simp
  · rw [if_neg e]
/-- what was seen so far of the candidates C. -/
def SeenC (AL : List Lb) (C : Lb → Prop) (S : Nat → Bool) : Prop := ∀ t (h : t < AL.length), C AL[t] → S t = true
theorem SeenC.congr {AL : List Lb} {C D : Lb → Prop} {S : Nat → Bool} (h : SeenC AL C S) (he : ∀ c, D c → C c) : SeenC AL D S := fun t ht hc => h t ht (he _ hc)
/-- where all but place i are as they were, and place i is seen or is not the one. -/
theorem SeenC.step {AL : List Lb} {C D : Lb → Prop} {S : Nat → Bool} (h : SeenC AL C S) (i : Nat) (b : Bool) (h1 : b = true ∨ b = S i ∧ ∀ hi : i < AL.length, D AL[i] → C AL[i]) (h2 : ∀ t (ht : t < AL.length), t ≠ i → D AL[t] → C AL[t]) : SeenC AL D (setB S i b) := by
  intro t ht hd
  unfold setB
  by_cases e : t = i
  · subst e
    rw [if_pos rfl]
    rcases h1 with h1 | ⟨h1, h3⟩
    · exact h1
    · rw [h1]; exact h t ht (h3 ht hd)
  · rw [if_neg e]; exact h t ht (h2 t ht e hd)
/-- all candidates. -/
def CandC (v : UInt32) (up : List Ed) (of : UInt32 → List Lb) (c : Lb) : Prop := c = ⟨v, v, 0⟩ ∨ ∃ e ∈ up, ∃ x ∈ of e.h, candOf e x c
/-- the candidates of the first i edges, and of k labels of the next one. -/
def CandTo (v : UInt32) (up : List Ed) (of : UInt32 → List Lb) (i k : Nat) (c : Lb) : Prop := c = ⟨v, v, 0⟩ ∨ (∃ e ∈ up.take i, ∃ x ∈ of e.h, candOf e x c) ∨ ∃ e, ∃ _ : i < up.length, up[i] = e ∧ ∃ x ∈ (of e.h).take k, candOf e x c
theorem CandTo.own {v : UInt32} {up : List Ed} {of : UInt32 → List Lb} {c : Lb} : CandTo v up of 0 0 c ↔ c = ⟨v, v, 0⟩ := by simp [CandTo]
theorem CandTo.label {v : UInt32} {up : List Ed} {of : UInt32 → List Lb} {i k : Nat} {e : Ed} {x : Lb} {L : List Lb} (hi : i < up.length) (he : up[i] = e) (hL : of e.h = L) (hk : k < L.length) (hx : L[k] = x) (c : Lb) : CandTo v up of i (k + 1) c ↔ CandTo v up of i k c ∨ candOf e x c := by
  subst he hL hx
  have ht := List.take_succ_eq_append_getElem hk
  unfold CandTo
  constructor
  · rintro (h | h | ⟨e, h1, rfl, x, hx, hc⟩)
    · exact .inl (.inl h)
    · exact .inl (.inr (.inl h))
    · rw [ht] at hx
      rcases List.mem_append.1 hx with hx | hx
      · exact .inl (.inr (.inr ⟨_, h1, rfl, x, hx, hc⟩))
      · rw [List.mem_singleton] at hx; subst hx; exact .inr hc
  · rintro ((h | h | ⟨e, h1, rfl, x, hx, hc⟩) | hc)
    · exact .inl h
    · exact .inr (.inl h)
    · exact .inr (.inr ⟨_, h1, rfl, x, by rw [ht]; exact List.mem_append_left _ hx, hc⟩)
    · exact .inr (.inr ⟨_, hi, rfl, _, by rw [ht]; exact List.mem_append_right _ (List.mem_singleton.2 rfl), hc⟩)
theorem CandTo.edge {v : UInt32} {up : List Ed} {of : UInt32 → List Lb} {i : Nat} {e : Ed} (hi : i < up.length) (he : up[i] = e) (c : Lb) : CandTo v up of (i + 1) 0 c ↔ CandTo v up of i (of e.h).length c := by
  subst he
  unfold CandTo
  rw [List.take_succ_eq_append_getElem hi]
  constructor
  · rintro (h | ⟨e, h1, x, hx, hc⟩ | ⟨e, h1, rfl, x, hx, hc⟩)
    · exact .inl h
    · rcases List.mem_append.1 h1 with h1 | h1
      · exact .inr (.inl ⟨e, h1, x, hx, hc⟩)
      · rw [List.mem_singleton] at h1; subst h1
        exact .inr (.inr ⟨_, hi, rfl, x, by rw [List.take_length]; exact hx, hc⟩)
    · simp at hx
  · rintro (h | ⟨e, h1, x, hx, hc⟩ | ⟨e, h1, rfl, x, hx, hc⟩)
    · exact .inl h
    · exact .inr (.inl ⟨e, List.mem_append_left _ h1, x, hx, hc⟩)
    · rw [List.take_length] at hx
      exact .inr (.inl ⟨_, List.mem_append_right _ (List.mem_singleton.2 rfl), x, hx, hc⟩)
theorem CandTo.all {v : UInt32} {up : List Ed} {of : UInt32 → List Lb} {c : Lb} : CandTo v up of up.length 0 c ↔ CandC v up of c := by
  unfold CandTo CandC
  rw [List.take_length]
  constructor
  · rintro (h | h | ⟨e, h1, _⟩)
    · exact .inl h
    · exact .inr h
    · omega
  · rintro (h | h)
    · exact .inl h
    · exact .inr (.inl h)
/-- what a list of labels of the best candidates is. -/
structure Nst (v : UInt32) (up : List Ed) (of : UInt32 → List Lb) (AL : List Lb) : Prop where
  ris : Ris AL
  mem : ∀ t (h : t < AL.length), CandC v up of AL[t]
  has : ∀ c, CandC v up of c → ∃ t, ∃ h : t < AL.length, AL[t].hub = c.hub
  near : ∀ t (h : t < AL.length) c, CandC v up of c → AL[t].hub = c.hub → AL[t].dist.toNat < c.dist.toNat ∨ AL[t].dist.toNat = c.dist.toNat ∧ AL[t].next.toNat ≤ c.next.toNat
theorem addL_nst (v : UInt32) (up : List Ed) (of : UInt32 → List Lb) : Nst v up of (addL v up of) := by
  have hb := BestL.add v up of
  have hc := BestOf.add v up of
  refine ⟨hb.1, fun t h => ?_, fun c h => ?_, fun t h c hcc he => ?_⟩
  · exact ((hc _).2 _ ((hb.2 _).1 (List.getElem_mem h))).1
  · cases hx : addB v up of c.hub with
    | none => exact absurd rfl ((hc _).1 hx c h)
    | some y =>
      obtain ⟨h1, h2, _⟩ := (hc _).2 y hx
      obtain ⟨t, ht, e⟩ := List.mem_iff_getElem.1 ((hb.2 y).2 (by rw [h2]; exact hx))
      exact ⟨t, ht, by rw [e]; exact h2⟩
  · have h3 := ((hc _).2 _ ((hb.2 _).1 (List.getElem_mem h))).2.2 c hcc he.symm
    exact (ahd_no _ _).1 h3
theorem Ris.inj {l : List Lb} (h : Ris l) {i j : Nat} (hi : i < l.length) (hj : j < l.length) (e : l[i].hub = l[j].hub) : i = j := by
  rcases Nat.lt_trichotomy i j with h1 | h1 | h1
  · have := h.lt i j hi hj h1; rw [e] at this; omega
  · exact h1
  · have := h.lt j i hj hi h1; rw [e] at this; omega
/-- the nearest of all is the vertex itself. -/
theorem Nst.own {v : UInt32} {up : List Ed} {of : UInt32 → List Lb} {AL : List Lb} (h : Nst v up of AL) : ∃ t, ∃ ht : t < AL.length, AL[t].hub = v ∧ AL[t].dist.toNat = 0 := by
  obtain ⟨t, ht, e⟩ := h.has ⟨v, v, 0⟩ (.inl rfl)
  refine ⟨t, ht, e, ?_⟩
  have := h.near t ht ⟨v, v, 0⟩ (.inl rfl) e
  simp at this
  have h0 : (0 : UInt64).toNat = 0 := rfl
  omega
/-- a candidate, at the place that was found. -/
theorem Nst.at_ {v : UInt32} {up : List Ed} {of : UInt32 → List Lb} {AL : List Lb} (h : Nst v up of AL) {e : Ed} {x : Lb} (he : e ∈ up) (hx : x ∈ of e.h) (hf : e.w.toNat + x.dist.toNat < 9223372036854775808) :
    (∃ t, ∃ ht : t < AL.length, AL[t].hub = x.hub) ∧ ∀ t (ht : t < AL.length), AL[t].hub = x.hub → AL[t].dist.toNat < e.w.toNat + x.dist.toNat ∨ AL[t].dist.toNat = e.w.toNat + x.dist.toNat ∧ AL[t].next.toNat ≤ e.h.toNat := by
  have hc : CandC v up of ⟨x.hub, e.h, UInt64.ofNat (e.w.toNat + x.dist.toNat)⟩ := .inr ⟨e, he, x, hx, hf, rfl⟩
  have h0 := h.has _ hc
  refine ⟨h0, fun t ht hh => ?_⟩
  have := h.near t ht _ hc hh
  have hn : (UInt64.ofNat (e.w.toNat + x.dist.toNat)).toNat = e.w.toNat + x.dist.toNat := by
    rw [UInt64.toNat_ofNat']; exact Nat.mod_eq_of_lt (by omega)
  simp only [hn] at this
  exact this
/-- the turn of seen at a candidate that fits: place t is the hub's. -/
theorem SeenC.cand {AL : List Lb} {C : Lb → Prop} {S : Nat → Bool} (hr : Ris AL) (h : SeenC AL C S) {e : Ed} {x : Lb} {t : Nat} (ht : t < AL.length) (hh : AL[t].hub = x.hub) (b : Bool)
    (hb : b = true ∨ b = S t ∧ ¬ (AL[t].dist.toNat = e.w.toNat + x.dist.toNat ∧ AL[t].next.toNat = e.h.toNat)) : SeenC AL (fun c => C c ∨ candOf e x c) (setB S t b) := by
  refine h.step t b ?_ ?_
  · rcases hb with hb | ⟨hb, hn⟩
    · exact .inl hb
    · refine .inr ⟨hb, fun hi hd => ?_⟩
      rcases hd with hd | ⟨hf, hd⟩
      · exact hd
      · refine absurd ?_ hn
        rw [hd]
        refine ⟨?_, rfl⟩
        show (UInt64.ofNat (e.w.toNat + x.dist.toNat)).toNat = e.w.toNat + x.dist.toNat
        rw [UInt64.toNat_ofNat']; exact Nat.mod_eq_of_lt (by omega)
  · intro s hs hne hd
    rcases hd with hd | ⟨hf, hd⟩
    · exact hd
    · refine absurd (hr.inj hs ht ?_) hne
      rw [hd, hh]
end Go.Proofs.Ytfgkmimhibpceaa

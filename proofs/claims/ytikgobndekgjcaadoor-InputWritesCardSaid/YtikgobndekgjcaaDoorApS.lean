/-
  What Apart's first loop keeps, and that a round keeps it: plain, no walk.
-/
import Derived.Test.YtikgobndekgjcaaDoorBlk
namespace Go.Proofs.YtikgobndekgjcaaDoor
open Go.RowKit
set_option maxRecDepth 100000

def kindAt (i : Nat) : UInt8 := UInt8.ofNat (i + 1)
def made (ls : List (List UInt8)) : List (List UInt8) := (List.range ls.length).map fun i => ls.getD i [] ++ List.replicate 40 (kindAt i)
theorem made_len (ls : List (List UInt8)) : (made ls).length = ls.length := by simp [made]
theorem made_at (ls : List (List UInt8)) {i : Nat} (hi : i < ls.length) (h : i < (made ls).length) : (made ls)[i]'h = ls[i] ++ List.replicate 40 (kindAt i) := by
  simp [made, List.getD, hi]

/-- lists that no two share memory of. -/
structure Apt (w : World) (B : Nat) (all : Value) (vs : List Value) (ls : List (List UInt8)) : Prop where
  len : vs.length = ls.length
  row : Rd w 1 all ls.length vs
  own : ∀ i (hi : i < vs.length) (hj : i < ls.length), OwnB w B vs[i] ls[i]
  sep : ∀ i j (hi : i < vs.length) (hj : j < vs.length), i ≠ j → ∀ k, blk vs[i] = some k → blk vs[j] ≠ some k
  far : ∀ i (hi : i < vs.length) k, blk vs[i] = some k → all.ownBlock ≠ some k
/-- the state of the first loop, k rounds done. -/
structure ApS (w0 : World) (T : Nat) (all : Value) (vs : List Value) (ls : List (List UInt8)) (sv u5 u4 : Value) (es : List Value) (k : Nat) (w : World) : Prop where
  base : w0.heap.size ≤ T
  gr : w0.grownBy w none
  tl : T ≤ w.heap.size
  apt : Apt w w0.heap.size all vs ls
  old : ∀ i (hi : i < vs.length) b, blk vs[i] = some b → b < T
  oldA : ∀ b, all.ownBlock = some b → 0 < ls.length → b < T
  said : OwnT w T sv ls
  elen : es.length = k
  eown : ∀ j (hj : j < es.length) (hl : j < (made ls).length), OwnB w w0.heap.size es[j] (made ls)[j]
  long : Own w T 1 u4 k es
  want : OwnT w T u5 ((made ls).take k)
  sLW : ∀ b, blk u4 = some b → blk u5 ≠ some b ∧ blk sv ≠ some b ∧ ∀ j (hj : j < es.length), blk es[j] ≠ some b
  sW : ∀ b, blk u5 = some b → blk sv ≠ some b ∧ ∀ j (hj : j < es.length), blk es[j] ≠ some b
  sE : ∀ j (hj : j < es.length) (hv : j < vs.length) b, blk es[j] = some b → (blk vs[j] = some b ∨ T ≤ b) ∧ blk sv ≠ some b

section
variable {w0 w w' : World} {T : Nat} {all : Value} {vs : List Value} {ls : List (List UInt8)} {sv u5 u4 : Value} {es : List Value} {k : Nat}
theorem Apt.of {B : Nat} (h : Apt w B all vs ls) (hg : ∃ r, w.grownBy w' r ∧ ∀ k, r = some k → (all.ownBlock ≠ some k) ∧ ∀ i (hi : i < vs.length), blk vs[i] ≠ some k) : Apt w' B all vs ls := by
  obtain ⟨r, hg, hr⟩ := hg
  exact ⟨h.len, h.row.gr hg fun k e => (hr k e).1, fun i hi hj => (h.own i hi hj).off hg fun k e => (hr k e).2 i hi, h.sep, h.far⟩
/-- a write that strikes none of it. -/
theorem ApS.ext (h : ApS w0 T all vs ls sv u5 u4 es k w) (hg : w.grownBy w' none) : ApS w0 T all vs ls sv u5 u4 es k w' :=
  { base := h.base, gr := gr_none h.gr hg, tl := Nat.le_trans h.tl hg.size, apt := h.apt.of ⟨none, hg, fun _ e => by cases e⟩, old := h.old, oldA := h.oldA, said := Own.ext h.said hg, elen := h.elen,
    eown := fun j hj hl => Own.ext (h.eown j hj hl) hg, long := Own.ext h.long hg, want := Own.ext h.want hg, sLW := h.sLW, sW := h.sW, sE := h.sE }
/-- one list is made longer. -/
theorem ApS.first (h : ApS w0 T all vs ls sv u5 u4 es k w) (hk : k < ls.length) (hv : k < vs.length) {u : Value} (he : Ext w w' vs[k] u) (hown : OwnB w' w0.heap.size vs[k] ls[k]) :
    ApS w0 T all vs ls sv u5 u4 es k w' := by
  obtain ⟨r, hg, hr, -⟩ := he
  have hb : ∀ b, r = some b → b < T := fun b e => h.old k hv b (hr b e)
  have hT : ∀ {x : Value} {b : Nat}, (∀ b, blk x = some b → T ≤ b) → r = some b → blk x ≠ some b := fun hx e e2 => by have := hb _ e; have := hx _ e2; omega
  have hs : ∀ b, blk sv = some b → T ≤ b := fun b e => (Own.blk_lt h.said (by omega) e).1
  have h4 : ∀ b, blk u4 = some b → T ≤ b := fun b e => (Own.blk_lt h.long (by omega) e).1
  have h5 : ∀ b, blk u5 = some b → T ≤ b := fun b e => (Own.blk_lt h.want (by omega) e).1
  have hEl := h.elen
  have hL := h.apt.len
  exact
  { base := h.base
    gr := gr_trans h.gr hg (.inr fun b e => (Own.blk_lt (h.apt.own k hv hk) (by omega) (hr b e)).1)
    tl := Nat.le_trans h.tl hg.size
    apt := ⟨h.apt.len, h.apt.row.gr hg fun b e => h.apt.far k hv b (hr b e), fun i hi hj => by
      by_cases e : i = k
      · subst e; exact hown
      · exact (h.apt.own i hi hj).off hg fun b e2 e3 => h.apt.sep i k hi hv e b e3 (hr b e2), h.apt.sep, h.apt.far⟩
    old := h.old
    oldA := h.oldA
    said := Own.off h.said hg fun b e => hT hs e
    elen := h.elen
    eown := fun j hj hl => Own.off (h.eown j hj hl) hg fun b e e2 => by
      rcases (h.sE j hj (by omega) b e2).1 with e3 | e3
      · exact h.apt.sep j k (by omega) hv (by omega) b e3 (hr b e)
      · have := hb b e; omega
    long := Own.off h.long hg fun b e => hT h4 e
    want := Own.off h.want hg fun b e => hT h5 e
    sLW := h.sLW
    sW := h.sW
    sE := h.sE }
/-- one round. -/
theorem ApS.round {wa wb wd we : World} {u4' u5' a1 : Value} (h : ApS w0 T all vs ls sv u5 u4 es k w) (hk : k < ls.length) (hv : k < vs.length) (hm : k < (made ls).length)
    (e1 : Ext w wa vs[k] a1) (o1 : OwnB wa w0.heap.size a1 (made ls)[k]) (v1 : OwnB wa w0.heap.size vs[k] ls[k])
    (e2 : Ext wa wb u4 u4') (o2 : Own wb T 1 u4' (k + 1) (es ++ [a1])) (g3 : wb.grownBy wd none) (e4 : Ext wd we u5 u5') (o4 : OwnT we T u5' ((made ls).take (k + 1))) :
    ApS w0 T all vs ls sv u5' u4' (es ++ [a1]) (k + 1) we := by
  have h1 := h.first hk hv e1 v1
  have hEl := h.elen
  have hL := h.apt.len
  have hsv : ∀ b, blk sv = some b → T ≤ b ∧ b < w.heap.size := fun b e => Own.blk_lt h.said (by omega) e
  have h4 : ∀ b, blk u4 = some b → T ≤ b ∧ b < w.heap.size := fun b e => Own.blk_lt h.long (by omega) e
  have h5 : ∀ b, blk u5 = some b → T ≤ b ∧ b < w.heap.size := fun b e => Own.blk_lt h.want (by omega) e
  have hes : ∀ j (hj : j < es.length) b, blk es[j] = some b → b < w.heap.size := fun j hj b e => (Own.blk_lt (h.eown j hj (by rw [made_len]; omega)) (by omega) e).2
  have hvk : ∀ b, blk vs[k] = some b → b < T := fun b e => h.old k hv b e
  have htl := h.tl
  obtain ⟨r1, g1, -, ka, hka, hka2⟩ := e1
  have hal : ka < wa.heap.size := (Own.blk_lt o1 (by omega) hka).2
  have ha : ∀ b, blk a1 = some b → b = ka := fun b e => by rw [hka] at e; cases e; rfl
  have hkaT : ka < T ∧ blk vs[k] = some ka ∨ w.heap.size ≤ ka := by
    rcases hka2 with e | e
    · exact .inl ⟨hvk _ e, e⟩
    · exact .inr e
  obtain ⟨r2, g2, hr2, k4, hk4, hk42⟩ := e2
  obtain ⟨r4, g4, hr4, k5, hk5, hk52⟩ := e4
  have s1 := g1.size
  have s2 := g2.size
  have s3 := g3.size
  have s4 := g4.size
  have hk4l : k4 < wb.heap.size := (Own.blk_lt o2 (by omega) hk4).2
  have off2 : ∀ {x : Value}, (∀ b, blk u4 = some b → blk x ≠ some b) → ∀ b, r2 = some b → blk x ≠ some b := fun hx b e => hx b (hr2 b e)
  have off4 : ∀ {x : Value}, (∀ b, blk u5 = some b → blk x ≠ some b) → ∀ b, r4 = some b → blk x ≠ some b := fun hx b e => hx b (hr4 b e)
  have av4 : ∀ b, blk u4 = some b → blk a1 ≠ some b := fun b e e' => by have := h4 b e; have := ha b e'; omega
  have av5 : ∀ b, blk u5 = some b → blk a1 ≠ some b := fun b e e' => by have := h5 b e; have := ha b e'; omega
  have hA : Apt we w0.heap.size all vs ls := by
    refine (Apt.of (h1.apt.of ⟨r2, g2, fun b e => ⟨fun e' => ?_, fun i hi e' => ?_⟩⟩) ⟨none, g3, fun _ e => by cases e⟩).of ⟨r4, g4, fun b e => ⟨fun e' => ?_, fun i hi e' => ?_⟩⟩
    · have := h4 b (hr2 b e); have := h.oldA b e' (by omega); omega
    · have := h4 b (hr2 b e); have := h.old i hi b e'; omega
    · have := h5 b (hr4 b e); have := h.oldA b e' (by omega); omega
    · have := h5 b (hr4 b e); have := h.old i hi b e'; omega
  have hget : ∀ j (hj : j < (es ++ [a1]).length), (∃ hj' : j < es.length, (es ++ [a1])[j] = es[j]) ∨ j = k ∧ (es ++ [a1])[j] = a1 := fun j hj => by
    rw [List.length_append, List.length_singleton] at hj
    by_cases hjl : j < es.length
    · exact .inl ⟨hjl, List.getElem_append_left hjl⟩
    · obtain rfl : j = k := by omega
      exact .inr ⟨rfl, by rw [List.getElem_append_right (by omega)]; simp⟩
  exact
  { base := h.base
    gr := by
      refine gr_trans (gr_none (gr_trans h1.gr g2 (.inr fun b e => ?_)) g3) g4 (.inr fun b e => ?_)
      · have := h4 b (hr2 b e); have := h.base; omega
      · have := h5 b (hr4 b e); have := h.base; omega
    tl := by omega
    apt := hA
    old := h.old
    oldA := h.oldA
    said := Own.off (Own.ext (Own.off h1.said g2 (off2 fun b e => (h.sLW b e).2.1)) g3) g4 (off4 fun b e => (h.sW b e).1)
    elen := by rw [List.length_append, List.length_singleton, hEl]
    eown := fun j hj hl => by
      rcases hget j hj with ⟨hj', e⟩ | ⟨rfl, e⟩
      · rw [e]
        exact Own.off (Own.ext (Own.off (h1.eown j hj' hl) g2 (off2 fun b e => (h.sLW b e).2.2 j hj')) g3) g4 (off4 fun b e => (h.sW b e).2 j hj')
      · rw [e]
        exact Own.off (Own.ext (Own.off o1 g2 (off2 av4)) g3) g4 (off4 av5)
    long := Own.off (Own.ext o2 g3) g4 (off4 fun b e e' => by
      rw [hk4] at e'
      cases e'
      have := h5 _ e
      rcases hk42 with e2 | e2
      · exact (h.sLW _ e2).1 e
      · omega)
    want := o4
    sLW := fun b e => by
      rw [hk4] at e
      cases e
      refine ⟨fun e' => ?_, fun e' => ?_, fun j hj e' => ?_⟩
      · rw [hk5] at e'
        cases e'
        rcases hk42 with e2 | e2
        · rcases hk52 with e5 | e5
          · exact (h.sLW _ e2).1 e5
          · have := h4 _ e2; omega
        · rcases hk52 with e5 | e5
          · have := h5 _ e5; omega
          · omega
      · rcases hk42 with e2 | e2
        · exact (h.sLW _ e2).2.1 e'
        · have := hsv _ e'; omega
      · rcases hget j hj with ⟨hj', e⟩ | ⟨rfl, e⟩
        · rw [e] at e'
          rcases hk42 with e2 | e2
          · exact (h.sLW _ e2).2.2 j hj' e'
          · have := hes j hj' _ e'; omega
        · rw [e] at e'
          have := ha _ e'
          rcases hk42 with e2 | e2
          · exact av4 _ e2 e'
          · omega
    sW := fun b e => by
      rw [hk5] at e
      cases e
      refine ⟨fun e' => ?_, fun j hj e' => ?_⟩
      · rcases hk52 with e2 | e2
        · exact (h.sW _ e2).1 e'
        · have := hsv _ e'; omega
      · rcases hget j hj with ⟨hj', e⟩ | ⟨rfl, e⟩
        · rw [e] at e'
          rcases hk52 with e2 | e2
          · exact (h.sW _ e2).2 j hj' e'
          · have := hes j hj' _ e'; omega
        · rw [e] at e'
          have := ha _ e'
          rcases hk52 with e2 | e2
          · exact av5 _ e2 e'
          · omega
    sE := fun j hj hv' b e' => by
      rcases hget j hj with ⟨hj', e⟩ | ⟨rfl, e⟩
      · rw [e] at e'
        exact h.sE j hj' hv' b e'
      · rw [e] at e'
        have := ha _ e'
        subst this
        refine ⟨?_, fun e2 => ?_⟩
        · rcases hkaT with ⟨_, e2⟩ | e2
          · exact .inl e2
          · exact .inr (by omega)
        · have := hsv _ e2
          omega }
end
end Go.Proofs.YtikgobndekgjcaaDoor

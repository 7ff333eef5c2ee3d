/-
  A disk: Cut.
-/
import Derived.Test.YthkajgangnmbdaaDw5
import Derived.Deep.RegionHeld3
import Derived.Deep.RegionLaw
namespace Go.Proofs.Ythkajgangnmbdaa
open Go.RowKit
set_option maxRecDepth 100000
set_option maxHeartbeats 400000

theorem setF_setF {fs : List Fi} {n : List UInt8} {g1 g2 g3 : Fi → Fi} (h1 : ∀ f, (g1 f).name = f.name) (h : ∀ f, g2 (g1 f) = g3 f) : setF (setF fs n g1) n g2 = setF fs n g3 := by
  unfold setF
  rw [List.map_map]
  refine List.map_congr_left fun f _ => ?_
  show (if (if f.name = n then g1 f else f).name = n then g2 (if f.name = n then g1 f else f) else (if f.name = n then g1 f else f)) = _
  by_cases e : f.name = n
  · rw [if_pos e, if_pos (by rw [h1]; exact e), if_pos e, h]
  · rw [if_neg e, if_neg e, if_neg e]
theorem mem_setF_of {fs : List Fi} {f : Fi} (hf : f ∈ fs) (g : Fi → Fi) : g f ∈ setF fs f.name g := by
  unfold setF
  exact List.mem_map.2 ⟨f, hf, if_pos rfl⟩
theorem cutTo_eq {S : Dk} (h : (S.fs.map Fi.name).Nodup) {f : Fi} (hf : f ∈ S.fs) {z : Nat} {L L2 : List UInt8} (hL : L = f.now.take z) (hL2 : L2 = f.lasts.take z) :
    S.cutTo f.name z = { S with fs := setF (setF S.fs f.name fun g => { g with now := L }) f.name fun g => { g with lasts := L2 }, loose := fun s j => S.loose s j && !(s == f.name && decide ((sectors z : Int) ≤ j)) } := by
  have e : setF S.fs f.name (fun g => { g with now := g.now.take z, lasts := g.lasts.take z }) = setF (setF S.fs f.name fun g => { g with now := L }) f.name fun g => { g with lasts := L2 } := by
    rw [setF_setF (g1 := fun g => { g with now := L }) (g2 := fun g => { g with lasts := L2 }) (g3 := fun g => { g with now := L, lasts := L2 }) (fun _ => rfl) (fun _ => rfl)]
    exact setF_congr h hf (by rw [hL, hL2])
  unfold Dk.cutTo
  rw [e]
section
variable {w : World} {B d : Nat} {o : Own1} {S : Dk} {c : Con}
theorem dout_begin' {w0 w1 w' : World} (h : DI w B o d S c) (g0 : w.grownBy w0 none) (h1 : DI w1 B o d S.begin c) (g1 : w0.grownBy w1 (some d)) (g2 : w1.grownBy w' none) : DOut o w B d S.begin w' :=
  ⟨o, c, h1.ext g2, ((Ch.ext g0).trans (Ch.of_gr g1 (fun k e => by cases e; rw [h.tD]; simp))).trans (Ch.ext g2)⟩
end
end Go.Proofs.Ythkajgangnmbdaa

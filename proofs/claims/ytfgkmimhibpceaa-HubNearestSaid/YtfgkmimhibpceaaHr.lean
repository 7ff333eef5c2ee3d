/-
  Hub: do labels rise; a vertex' labels on a shelf; labels turned; edges copied and held against each other.
-/
import Derived.Test.YtfgkmimhibpceaaHs
namespace Go.Proofs.Ytfgkmimhibpceaa
open Go.RowKit
set_option maxRecDepth 100000
set_option maxHeartbeats 400000

def RisTo (l : List Lb) (k : Nat) : Prop := ∀ i (h : i + 1 < l.length), i + 1 < k → l[i].hub.toNat < l[i + 1].hub.toNat
def Ris (l : List Lb) : Prop := ∀ i (h : i + 1 < l.length), l[i].hub.toNat < l[i + 1].hub.toNat
theorem RisTo.zero (l : List Lb) : RisTo l 0 := fun _ _ h => by omega
theorem RisTo.one (l : List Lb) : RisTo l 1 := fun _ _ h => by omega
theorem RisTo.succ {l : List Lb} {k : Nat} (h : RisTo l (k + 1)) (hk : k + 1 < l.length) (hlt : l[k].hub.toNat < l[k + 1].hub.toNat) : RisTo l (k + 1 + 1) := by
  intro i hi h2
  by_cases e : i = k
  · subst e; exact hlt
  · exact h i hi (by omega)
theorem RisTo.end_ {l : List Lb} (h : RisTo l l.length) : Ris l := fun i hi => h i hi hi
theorem Ris.not {l : List Lb} {k : Nat} (hk : k + 1 < l.length) (hle : l[k + 1].hub.toNat ≤ l[k].hub.toNat) : ¬ Ris l := fun h => by have := h k hk; omega
theorem right_any (v : Value) (l : List Lb) (w : World) (h : RdL w v l) (hn : l.length ≤ 1000000000) :
    Calls Try.prog 22 #[v] w fun e w' => (∃ b, e = .returned (.bool b) ∧ (b = true ↔ Ris l)) ∧ w.grownBy w' none := by
  obtain ⟨A, c, rfl⟩ := h.form
  obtain ⟨g, off, hA, _, hcells⟩ := h.at_ lb3
  have HA := Lib.hid hA
  have HC := Lib.hid hcells
  clear hA hcells h
  go_enter Try.func22, Try.ntmps22
  go_wp2
  go_loopw [6, 3] (fun i _ wr => ∃ k : Nat, k ≤ l.length ∧ i = .int .i64 k ∧ RisTo l k ∧ w.grownBy wr none) (fun i _ _ => l.length - (intOf i).toNat)
  case atStart => exact ⟨0, by omega, rfl, RisTo.zero l, gr_refl _ _⟩
  case round =>
    obtain ⟨k, hk, rfl, hall, hg⟩ := hrel
    have Hall := Lib.hid hall
    clear hall
    by_cases hlt : k < l.length
    · have := HA.out (by omega)
      subst this
      rcases k with _ | j
      · go_wp2_with fail
        go_quiet (fail)
        go_wp2
        go_roundw
        case rel => exact ⟨1, by omega, by go_num, RisTo.one l, gr_none hg (gr_drewN _ _ _)⟩
        case measure => simp [intOf]; omega
      · rcases hx : l[j] with ⟨xa, xb, xc⟩
        rcases hy : l[j + 1] with ⟨ya, yb, yc⟩
        obtain ⟨c0, c1, c2⟩ := at3L HC.out hg (by omega) hx
        obtain ⟨d0, d1, d2⟩ := at3L HC.out hg hlt hy
        have Hx := Lib.hid hx
        have Hy := Lib.hid hy
        clear hx hy c1 c2 d1 d2
        by_cases hle : ya.toNat ≤ xa.toNat
        · have HN : Hid (¬ Ris l) := Ris.not hlt (by rw [Hx.out, Hy.out]; exact hle)
          go_wp2_with fail
          go_quiet (fail)
          go_wp2
          go_ret
          exact ⟨⟨_, rfl, ⟨(fun h => by cases h), fun h => absurd h HN.out⟩⟩, gr_none hg (gr_drewN _ _ _)⟩
        · have HN : Hid (RisTo l (j + 1 + 1)) := Hall.out.succ hlt (by rw [Hx.out, Hy.out]; show xa.toNat < ya.toNat; omega)
          go_wp2_with fail
          go_quiet (fail)
          go_wp2
          go_roundw
          case rel => exact ⟨j + 1 + 1, by omega, by go_num, HN.out, gr_none hg (gr_drewN _ _ _)⟩
          case measure => simp [intOf]; omega
    · obtain rfl : k = l.length := by omega
      go_wp2
      go_ret
      exact ⟨⟨_, rfl, ⟨fun _ => Hall.out.end_, fun _ => rfl⟩⟩, hg⟩
theorem rightr_any (v : Value) (l : List Lb) (w : World) (h : RdL w v l) (hn : l.length ≤ 1000000000) :
    Calls Try.prog 23 #[v] w fun e w' => (∃ b, e = .returned (.bool b) ∧ (b = true ↔ Ris l)) ∧ w.grownBy w' none := by
  obtain ⟨A, c, rfl⟩ := h.form
  obtain ⟨g, off, hA, _, hcells⟩ := h.at_ lb3
  have HA := Lib.hid hA
  have HC := Lib.hid hcells
  clear hA hcells h
  go_enter Try.func23, Try.ntmps23
  go_wp2
  go_loopw [3] (fun i wr => ∃ k : Nat, (k = 0 ∨ k < l.length) ∧ i = .int .i64 ((k : Int) + 1) ∧ RisTo l (k + 1) ∧ w.grownBy wr none) (fun i _ => l.length + 1 - (intOf i).toNat)
  case atStart => exact ⟨0, .inl rfl, rfl, RisTo.one l, gr_refl _ _⟩
  case round =>
    obtain ⟨k, hk, rfl, hall, hg⟩ := hrel
    have Hall := Lib.hid hall
    clear hall
    by_cases hlt : k + 1 < l.length
    · have := HA.out (by omega)
      subst this
      rcases hx : l[k] with ⟨xa, xb, xc⟩
      rcases hy : l[k + 1] with ⟨ya, yb, yc⟩
      obtain ⟨c0, c1, c2⟩ := at3L HC.out hg (by omega) hx
      obtain ⟨d0, d1, d2⟩ := at3L HC.out hg hlt hy
      have Hx := Lib.hid hx
      have Hy := Lib.hid hy
      have hkb : k ≤ 1000000000 := by omega
      clear hx hy c1 c2 d1 d2 hk
      by_cases hle : ya.toNat ≤ xa.toNat
      · have HN : Hid (¬ Ris l) := Ris.not hlt (by rw [Hx.out, Hy.out]; exact hle)
        go_wp2_with fail
        go_quiet (fail)
        go_wp2
        go_ret
        exact ⟨⟨_, rfl, ⟨(fun h => by cases h), fun h => absurd h HN.out⟩⟩, gr_none hg (gr_drewN _ _ _)⟩
      · have HN : Hid (RisTo l (k + 1 + 1)) := Hall.out.succ hlt (by rw [Hx.out, Hy.out]; show xa.toNat < ya.toNat; omega)
        go_wp2_with fail
        go_quiet (fail)
        go_wp2
        go_roundw
        case rel => exact ⟨k + 1, .inr hlt, by go_num, HN.out, gr_none hg (gr_drewN _ _ _)⟩
        case measure => simp [intOf]; omega
    · have HE : Hid (Ris l) := fun i hi => Hall.out i hi (by omega)
      have hkb : k ≤ 1000000000 := by omega
      clear hk
      go_wp2
      go_ret
      exact ⟨⟨_, rfl, ⟨fun _ => HE.out, fun _ => rfl⟩⟩, hg⟩
end Go.Proofs.Ytfgkmimhibpceaa

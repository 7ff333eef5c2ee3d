/-
  Arguments of bare rows read out: slices of slices of whole numbers.
-/
import Derived.Test.YtfbbbbekialpnaaPInts
import Derived.Test.YtfbbbbekialpnaaPRec
import Derived.Test.YtfbbbbekialpnaaJc
namespace Go.Proofs.Ytfbbbbekialpnaa
open Go.ChangeShapes Go.WideShapes Go.RowKit Go.Deep Go.Joins
set_option maxRecDepth 100000

theorem spot_of_cellI {W : World} {a : Addr} (h : (W.cell? a).isSome = true) : a.spot = none := by
  unfold World.cell? at h
  split at h
  · split at h
    · cases h
    · rename_i hs; simpa using hs
  · cases h
section
variable {H : Type} {enc : TypeId × Value → H} {W : World} {base : Nat}
theorem rdI_trod {cs : List Value} {fuel : Nat} {held : Bool} {y : DataW H × List MemPlace} (hf : DataW.trod enc Try.prog W base (fun _ => true) held fuel 24 cs = some y) : ∃ A n c l, cs = [.slice A n c] ∧ l.length = n ∧ RdI W (.slice A n c) l := by
  rcases open_ints Try.underlying24 Try.underlying3 (by kernel_rfl) hf with ⟨hcs, _⟩ | ⟨x, len0, cap0, zs, hcs, _, hl, hm, hz, _, hcell, hwz⟩
  · exact ⟨_, _, _, [], hcs, rfl, Rd.nil _ _⟩
  · have hz' : zs.length = cap0 := by simpa using hz
    have hlen : (zs.take len0).length = len0 := by simp; omega
    refine ⟨_, _, _, zs.take len0, hcs, hlen, ?_⟩
    unfold RdI intL
    rw [hlen]
    have hx : x.spot = none ∨ cap0 = 0 := by
      rcases Nat.eq_zero_or_pos cap0 with h0 | h0
      · exact .inr h0
      · have := hcell 0 (by omega)
        left
        have hx0 : x.add 0 = x := by simp [Addr.add]
        rw [hx0] at this
        exact spot_of_cellI (by rw [this]; rfl)
    refine ⟨by simp; omega, some x, cap0, x.block, x.off, rfl, hl, hm, fun e => (by cases e), fun h0 => ?_, fun j hj => ?_⟩
    · rcases hx with hx | hx
      · obtain ⟨b, o, s⟩ := x; simp at hx; subst hx; rfl
      · omega
    · rcases hx with hx | hx
      · obtain ⟨b, o, s⟩ := x
        simp at hx
        subst hx
        have := hcell j (by omega)
        rw [Addr.add_lit] at this
        rw [this]
        have hj' : j < zs.length := by omega
        simp only [Nat.mul_one] at hj
        rw [List.getElem?_map, List.getElem?_take, if_pos hj, List.getElem?_eq_getElem hj']
        simp [List.getD, hj']
      · omega
theorem rdII_open {v : Value} {d : DataW H} {p : List MemPlace} (hok : Value.okWide Try.prog W .any base 50 v) (h : DataW.Trod enc Try.prog W 0 (fun _ => true) true 50 v d p) : ∃ ll, RdII W v ll := by
  obtain ⟨a0, len0, cap0, rfl⟩ := okWide_slice Try.underlying50 hok
  obtain ⟨fuel, hf⟩ := h
  rcases open_slice1 Try.underlying50 (by kernel_rfl) hf with ⟨hc, _⟩ | ⟨a, len, cap, m, k, V, D, Pl, hc, _, hl, hm, hmm, _, hi⟩
  · simp [Value.cells] at hc
    obtain ⟨rfl, rfl, rfl⟩ := hc
    exact ⟨[], [], Rd.nil _ _, fun i hi => by simp at hi⟩
  · simp [Value.cells] at hc
    obtain ⟨rfl, rfl, rfl⟩ := hc
    simp at hmm
    subst hmm
    have he : ∀ i, ∃ l : List Int, i < m → RdI W (V i) l := fun i => by
      by_cases h : i < m
      · obtain ⟨_, h2⟩ := hi i h
        obtain ⟨A, n, c, l, e, _, hr⟩ := rdI_trod h2
        simp at e
        exact ⟨l, fun _ => by rw [e]; exact hr⟩
      · exact ⟨[], fun h' => absurd h' h⟩
    let f : Nat → List Int := fun i => Classical.choose (he i)
    have hfs : ∀ i, i < m → RdI W (V i) (f i) := fun i hi' => Classical.choose_spec (he i) hi'
    have hx : a.spot = none ∨ m = 0 := by
      rcases Nat.eq_zero_or_pos m with h0 | h0
      · exact .inr h0
      · have := (hi 0 h0).1
        have hx0 : a.add 0 = a := by simp [Addr.add]
        rw [hx0] at this
        exact .inl (spot_of_cellI (by rw [this]; rfl))
    refine ⟨(List.range len0).map f, (List.range len0).map V, ⟨by simp, some a, m, a.block, a.off, by simp, by simpa using hl, hm, fun e => (by cases e), fun h0 => ?_, fun j hj => ?_⟩, fun i hi' => ?_⟩
    · rcases hx with hx | hx
      · obtain ⟨b, o, s⟩ := a; simp at hx; subst hx; rfl
      · omega
    · simp at hj
      rcases hx with hx | hx
      · obtain ⟨b, o, s⟩ := a
        simp at hx
        subst hx
        have := (hi j (by omega)).1
        rw [Addr.add_lit] at this
        rw [this]
        simp [hj]
      · omega
    · simp at hi'
      have := hfs i (by omega)
      simpa [List.getD, hi'] using this
end
end Go.Proofs.Ytfbbbbekialpnaa

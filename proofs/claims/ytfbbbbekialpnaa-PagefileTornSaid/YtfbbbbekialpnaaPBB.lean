/-
  Arguments of bare rows read out: slices of slices of bytes.
-/
import Derived.Test.YtfbbbbekialpnaaPOpen
import Derived.Test.YtfbbbbekialpnaaLd
namespace Go.Proofs.Ytfbbbbekialpnaa
open Go.ChangeShapes Go.WideShapes Go.RowKit Go.Deep Go.Joins
set_option maxRecDepth 100000

theorem spot_of_cell {W : World} {a : Addr} (h : (W.cell? a).isSome = true) : a.spot = none := by
  unfold World.cell? at h
  split at h
  · split at h
    · cases h
    · rename_i hs; simpa using hs
  · cases h
section
variable {H : Type} {enc : TypeId × Value → H} {W : World} {base : Nat}
theorem rdB_trod {cs : List Value} {fuel : Nat} {held : Bool} {y : DataW H × List MemPlace} (hf : DataW.trod enc Try.prog W base (fun _ => true) held fuel 22 cs = some y) : ∃ A n c l, cs = [.slice A n c] ∧ l.length = n ∧ RdB W (.slice A n c) l := by
  rcases open_ints Try.underlying22 Try.underlying5 (by kernel_rfl) hf with ⟨hcs, _⟩ | ⟨x, len0, cap0, zs, hcs, _, hl, hm, hz, _, hcell, hwz⟩
  · exact ⟨_, _, _, [], hcs, rfl, Rd.nil _ _⟩
  · have hz' : zs.length = cap0 := by simpa using hz
    have hlen : ((zs.take len0).map fun n => UInt8.ofNat n.toNat).length = len0 := by simp; omega
    refine ⟨_, _, _, (zs.take len0).map fun n => UInt8.ofNat n.toNat, hcs, hlen, ?_⟩
    unfold RdB
    rw [hlen]
    have hx : x.spot = none ∨ cap0 = 0 := by
      rcases Nat.eq_zero_or_pos cap0 with h0 | h0
      · exact .inr h0
      · have := hcell 0 (by omega)
        left
        have hx0 : x.add 0 = x := by simp [Addr.add]
        rw [hx0] at this
        exact spot_of_cell (by rw [this]; rfl)
    refine ⟨by simp; omega, some x, cap0, x.block, x.off, rfl, hl, hm, fun e => (by cases e), fun h0 => ?_, fun j hj => ?_⟩
    · rcases hx with hx | hx
      · obtain ⟨b, o, s⟩ := x; simp at hx; subst hx; rfl
      · omega
    · rcases hx with hx | hx
      · obtain ⟨b, o, s⟩ := x
        simp at hx
        subst hx
        have := hcell j (by omega)
        rw [Addr.add_lit] at this
        rw [this]
        have hj' : j < zs.length := by omega
        have hmem := hwz zs[j] (List.getElem_mem hj')
        have hb := bounds_u8 hmem
        simp only [Nat.mul_one] at hj
        rw [List.map_map, List.getElem?_map, List.getElem?_take, if_pos hj, List.getElem?_eq_getElem hj']
        simp only [Option.map_some, Function.comp, u8v, List.getD, List.getElem?_eq_getElem hj', Option.getD_some]
        congr 2
        simp
        omega
      · omega
theorem rdBB_open {v : Value} {d : DataW H} {p : List MemPlace} (hok : Value.okWide Try.prog W .any base 61 v) (h : DataW.Trod enc Try.prog W 0 (fun _ => true) true 61 v d p) : ∃ ll, RdBB W v ll := by
  obtain ⟨a0, len0, cap0, rfl⟩ := okWide_slice Try.underlying61 hok
  obtain ⟨fuel, hf⟩ := h
  rcases open_slice1 Try.underlying61 (by kernel_rfl) hf with ⟨hc, _⟩ | ⟨a, len, cap, m, k, V, D, Pl, hc, _, hl, hm, hmm, _, hi⟩
  · simp [Value.cells] at hc
    obtain ⟨rfl, rfl, rfl⟩ := hc
    exact ⟨[], [], Rd.nil _ _, fun i hi => by simp at hi⟩
  · simp [Value.cells] at hc
    obtain ⟨rfl, rfl, rfl⟩ := hc
    simp at hmm
    subst hmm
    have he : ∀ i, ∃ l : List UInt8, i < m → RdB W (V i) l := fun i => by
      by_cases h : i < m
      · obtain ⟨_, h2⟩ := hi i h
        obtain ⟨A, n, c, l, e, _, hr⟩ := rdB_trod h2
        simp at e
        exact ⟨l, fun _ => by rw [e]; exact hr⟩
      · exact ⟨[], fun h' => absurd h' h⟩
    let f : Nat → List UInt8 := fun i => Classical.choose (he i)
    have hfs : ∀ i, i < m → RdB W (V i) (f i) := fun i hi' => Classical.choose_spec (he i) hi'
    have hx : a.spot = none ∨ m = 0 := by
      rcases Nat.eq_zero_or_pos m with h0 | h0
      · exact .inr h0
      · have := (hi 0 h0).1
        have hx0 : a.add 0 = a := by simp [Addr.add]
        rw [hx0] at this
        exact .inl (spot_of_cell (by rw [this]; rfl))
    refine ⟨(List.range len0).map f, (List.range len0).map V, ⟨by simp, some a, m, a.block, a.off, by simp, by simpa using hl, hm, fun e => (by cases e), fun h0 => ?_, fun j hj => ?_⟩, fun i hi' => ?_⟩
    · rcases hx with hx | hx
      · obtain ⟨b, o, s⟩ := a; simp at hx; subst hx; rfl
      · omega
    · simp at hj
      rcases hx with hx | hx
      · obtain ⟨b, o, s⟩ := a
        simp at hx
        subst hx
        have := (hi j (by omega)).1
        rw [Addr.add_lit] at this
        rw [this]
        simp [hj]
      · omega
    · simp at hi'
      have := hfs i (by omega)
      simpa [List.getD, hi'] using this
end
end Go.Proofs.Ytfbbbbekialpnaa

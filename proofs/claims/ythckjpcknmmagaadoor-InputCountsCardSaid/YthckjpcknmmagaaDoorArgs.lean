/-
  Arguments read out: numbers, edges.
-/
import Derived.Test.YthckjpcknmmagaaDoorFrame
import Derived.Test.YthckjpcknmmagaaDoorChk
import Derived.Deep.Slices
import Derived.Deep.Fields
import Derived.Lib.SmallJoins
namespace Go.Proofs.YthckjpcknmmagaaDoor
open Go.ChangeShapes Go.WideShapes Go.RowKit Go.Deep Go.Joins
set_option maxRecDepth 100000

section
variable {H : Type} {enc : TypeId × Value → H} {W : World} {base : Nat}
theorem u32_of_wf {z : Int} (h : (Lit.int .u32 z).wf = true) : ∃ x : UInt32, z = (x.toNat : Int) := by
  have := bounds_u32 h
  exact ⟨UInt32.ofNat z.toNat, by rw [u32_of (by omega)]; omega⟩
theorem u64_of_wf {z : Int} (h : (Lit.int .u64 z).wf = true) : ∃ x : UInt64, z = (x.toNat : Int) := by
  have := bounds_u64 h
  exact ⟨UInt64.ofNat z.toNat, by rw [u64_of (by omega)]; omega⟩
theorem u16_of_wf {z : Int} (h : (Lit.int .u16 z).wf = true) : ∃ x : UInt16, z = (x.toNat : Int) := by
  have := bounds_u16 h
  exact ⟨UInt16.ofNat z.toNat, by simp; omega⟩
theorem u8_of_wf {z : Int} (h : (Lit.int .u8 z).wf = true) : ∃ x : UInt8, z = (x.toNat : Int) := by
  have := bounds_u8 h
  exact ⟨UInt8.ofNat z.toNat, by simp; omega⟩
theorem rd_u32 {t : TypeId} (ht : Tryd.prog.underlying t = some (.int .u32)) {v : Value} {spare : Nat → Bool} {held : Bool} {n : Nat} {y : DataW H × List MemPlace} (h : DataW.trod enc Tryd.prog W base spare held n t [v] = some y) : ∃ x : UInt32, v = u32v x := by
  obtain ⟨z, hz, _, hw⟩ := DataW.trod_int ht h
  obtain ⟨x, rfl⟩ := u32_of_wf hw
  exact ⟨x, by simpa [u32v, u64v] using hz⟩
theorem rd_u64 {t : TypeId} (ht : Tryd.prog.underlying t = some (.int .u64)) {v : Value} {spare : Nat → Bool} {held : Bool} {n : Nat} {y : DataW H × List MemPlace} (h : DataW.trod enc Tryd.prog W base spare held n t [v] = some y) : ∃ x : UInt64, v = u64v x := by
  obtain ⟨z, hz, _, hw⟩ := DataW.trod_int ht h
  obtain ⟨x, rfl⟩ := u64_of_wf hw
  exact ⟨x, by simpa [u32v, u64v] using hz⟩
theorem rd_u16 {t : TypeId} (ht : Tryd.prog.underlying t = some (.int .u16)) {v : Value} {spare : Nat → Bool} {held : Bool} {n : Nat} {y : DataW H × List MemPlace} (h : DataW.trod enc Tryd.prog W base spare held n t [v] = some y) : ∃ x : UInt16, v = .int .u16 x.toNat := by
  obtain ⟨z, hz, _, hw⟩ := DataW.trod_int ht h
  obtain ⟨x, rfl⟩ := u16_of_wf hw
  exact ⟨x, by simpa [u32v, u64v] using hz⟩
theorem rd_u8 {t : TypeId} (ht : Tryd.prog.underlying t = some (.int .u8)) {v : Value} {spare : Nat → Bool} {held : Bool} {n : Nat} {y : DataW H × List MemPlace} (h : DataW.trod enc Tryd.prog W base spare held n t [v] = some y) : ∃ x : UInt8, v = .int .u8 x.toNat := by
  obtain ⟨z, hz, _, hw⟩ := DataW.trod_int ht h
  obtain ⟨x, rfl⟩ := u8_of_wf hw
  exact ⟨x, by simpa [u32v, u64v] using hz⟩
theorem cells_edge : Tryd.prog.cellsOf 29 = 4 := by kernel_rfl

/-- four cells that read as an edge are one. -/
theorem edge_open {cs : List Value} {spare : Nat → Bool} {held : Bool} {n : Nat} {y : DataW H × List MemPlace} (h : DataW.trod enc Tryd.prog W base spare held n 29 cs = some y) : ∃ e : Ed, cs = e.cells.toList := by
  obtain ⟨xs, n', _, _, hl, hlx, hf⟩ := DataW.trod_struct Tryd.underlying29 h
  rw [cells_edge] at hl
  match cs, hl with
  | [c0, c1, c2, c3], _ =>
    match xs, hlx with
    | [y0, y1, y2, y3], _ =>
      have h0 := hf 0 _ rfl
      have h1 := hf 1 _ rfl
      have h2 := hf 2 _ rfl
      have h3 := hf 3 _ rfl
      obtain ⟨x0, rfl⟩ := rd_u32 (y := y0) Tryd.underlying26 h0
      obtain ⟨x1, rfl⟩ := rd_u32 (y := y1) Tryd.underlying26 h1
      obtain ⟨x2, rfl⟩ := rd_u64 (y := y2) Tryd.underlying27 h2
      obtain ⟨x3, rfl⟩ := rd_u32 (y := y3) Tryd.underlying26 h3
      exact ⟨⟨x0, x1, x2, x3⟩, rfl⟩

/-- a []api.Edge that came in reads as edges. -/
theorem rdE_trod {cs : List Value} {fuel : Nat} {held : Bool} {y : DataW H × List MemPlace} {A : Option Addr} {n c : Nat} (hcs : cs = [.slice A n c]) (hf : DataW.trod enc Tryd.prog W base (fun _ => true) held fuel 22 cs = some y) : ∃ l, RdE W (.slice A n c) l := by
  rcases open_slice Tryd.underlying22 hf with ⟨hc, _⟩ | ⟨a, len, cap, m, k, D, Pl, hc, _, hl, hm, hmm, _, hi⟩
  · rw [hcs] at hc
    simp at hc
    obtain ⟨rfl, rfl, rfl⟩ := hc
    exact ⟨[], Rd.nil _ _⟩
  · rw [hcs] at hc
    simp at hc
    obtain ⟨rfl, rfl, rfl⟩ := hc
    simp at hmm
    subst hmm
    have he : ∀ i, ∃ e : Ed, i < m → ∀ j, j < 4 → W.cell? (a.add (i * 4 + j)) = e.cells[j]? := fun i => by
      by_cases h : i < m
      · obtain ⟨cs', h1, h2⟩ := hi i h
        rw [cells_edge] at h1
        obtain ⟨_, _, hat⟩ := World.cells?_some h1
        obtain ⟨e, rfl⟩ := edge_open h2
        refine ⟨e, fun _ j hj => ?_⟩
        rw [← Go.Deep.add_add, hat j hj]
        simp
      · exact ⟨⟨0, 0, 0, 0⟩, fun h' => absurd h' h⟩
    let f : Nat → Ed := fun i => Classical.choose (he i)
    have hfs : ∀ i, i < m → ∀ j, j < 4 → W.cell? (a.add (i * 4 + j)) = (f i).cells[j]? := fun i hi' => Classical.choose_spec (he i) hi'
    have hlen : ((List.range n).map f).length = n := by simp
    refine ⟨(List.range n).map f, ?_⟩
    have hx : a.spot = none ∨ m = 0 := by
      rcases Nat.eq_zero_or_pos m with h0 | h0
      · exact .inr h0
      · have := hfs 0 h0 0 (by omega)
        left
        have hx0 : a.add (0 * 4 + 0) = a := by simp [Addr.add]
        rw [hx0] at this
        have hsome : (W.cell? a).isSome = true := by rw [this]; rfl
        unfold World.cell? at hsome
        split at hsome
        · split at hsome
          · cases hsome
          · rename_i hs; simpa using hs
        · cases hsome
    unfold RdE
    rw [hlen]
    refine ⟨by rw [length_edL, hlen], some a, m, a.block, a.off, rfl, hl, hm, fun e => (by cases e), fun h0 => ?_, fun j hj => ?_⟩
    · rcases hx with hx | hx
      · obtain ⟨b, o, s⟩ := a; simp at hx; subst hx; rfl
      · omega
    · rcases hx with hx | hx
      · obtain ⟨b, o, s⟩ := a
        simp at hx
        subst hx
        have hq : j / 4 < n := by omega
        have h1 := hfs (j / 4) (by omega) (j % 4) (by omega)
        have h2 := edL_at ((List.range n).map f) (j / 4) (j % 4) (by rw [hlen]; exact hq) (by omega)
        have e : j / 4 * 4 + j % 4 = j := by omega
        rw [e] at h1 h2
        rw [Addr.add_lit] at h1
        rw [h1, h2]
        simp
      · omega
theorem rdE_open {v : Value} {d : DataW H} {p : List MemPlace} (hok : Value.okWide Tryd.prog W .any base 22 v) (h : DataW.Trod enc Tryd.prog W 0 (fun _ => true) true 22 v d p) : ∃ l, RdE W v l := by
  obtain ⟨a0, len0, cap0, rfl⟩ := okWide_slice Tryd.underlying22 hok
  obtain ⟨fuel, hf⟩ := h
  exact rdE_trod (by simp [Value.cells]) hf
end
end Go.Proofs.YthckjpcknmmagaaDoor

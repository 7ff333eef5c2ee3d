/-
  What bare rows share: the knobs, bytes out of readings.
-/
import Derived.Test.YtipankjajdpiiaaGreatOct
import Derived.ChangeSame
import Derived.ChangeVars
import Derived.JoinedOf
import Derived.RowKit
import Derived.RowKitTokens
import Derived.ProofKit
import Derived.OpenShut
import Derived.Deep.Slices
import Derived.Deep.Fields
import Derived.Lib.SmallJoins
namespace Go.Proofs.YtipankjajdpiiaaGreat
open Go.ChangeShapes Go.WideShapes Go.RowKit
set_option maxRecDepth 100000

theorem Tryz.own : ownKnob Tryz.prog.godebug = none := by kernel_rfl
theorem Tryz.lout : laidOutB Tryz.prog = true := by kernel_rfl

/-- a []byte that came in reads as bytes. -/
theorem rdB_open {H : Type} {enc : TypeId × Value → H} {W : World} {v : Value} {d : DataW H} {p : List MemPlace} {base : Nat} (hok : Value.okWide Tryz.prog W .any base 40 v) (h : DataW.Trod enc Tryz.prog W 0 (fun _ => true) true 40 v d p) : ∃ l, RdB W v l := by
  obtain ⟨a0, len0, cap0, rfl⟩ := okWide_slice Tryz.underlying40 hok
  obtain ⟨fuel, hf⟩ := h
  rcases open_ints Tryz.underlying40 Tryz.underlying5 (by kernel_rfl) hf with ⟨hcs, _⟩ | ⟨x, l, c, zs, hcs, _, hl, hm, hz, _, hcell, hwz⟩
  · simp [Value.cells] at hcs
    obtain ⟨rfl, rfl, rfl⟩ := hcs
    exact ⟨[], Rd.nil _ _⟩
  · simp [Value.cells] at hcs
    obtain ⟨rfl, rfl, rfl⟩ := hcs
    have hz' : zs.length = cap0 := by simpa using hz
    refine ⟨(zs.take len0).map fun n => UInt8.ofNat n.toNat, ?_⟩
    have hlen : ((zs.take len0).map fun n => UInt8.ofNat n.toNat).length = len0 := by simp; omega
    unfold RdB
    rw [hlen]
    have hx : x.spot = none ∨ cap0 = 0 := by
      rcases Nat.eq_zero_or_pos cap0 with h0 | h0
      · exact .inr h0
      · have := hcell 0 (by omega)
        left
        have hx0 : x.add 0 = x := by simp [Addr.add]
        rw [hx0] at this
        unfold World.cell? at this
        split at this
        · split at this
          · cases this
          · rename_i hs; simpa using hs
        · cases this
    refine ⟨by simp; omega, some x, cap0, x.block, x.off, rfl, hl, hm, fun e => (by cases e), fun h0 => ?_, fun j hj => ?_⟩
    · rcases hx with hx | hx
      · obtain ⟨b, o, s⟩ := x; simp at hx; subst hx; rfl
      · omega
    · rcases hx with hx | hx
      · obtain ⟨b, o, s⟩ := x
        simp at hx
        subst hx
        have := hcell j (by omega)
        rw [Addr.add_lit] at this
        rw [this]
        have hj' : j < zs.length := by omega
        have hmem := hwz zs[j] (List.getElem_mem hj')
        have hb := bounds_u8 hmem
        simp only [Nat.mul_one] at hj
        rw [List.map_map, List.getElem?_map, List.getElem?_take, if_pos hj, List.getElem?_eq_getElem hj']
        simp only [Option.map_some, Function.comp, u8v, List.getD, List.getElem?_eq_getElem hj', Option.getD_some]
        congr 2
        simp
        omega
      · omega

end Go.Proofs.YtipankjajdpiiaaGreat

/- Arguments of bare rows read out: numbers. -/
namespace Go.Proofs.YtipankjajdpiiaaGreat
open Go.ChangeShapes Go.WideShapes Go.RowKit Go.Deep Go.Joins
set_option maxRecDepth 100000

section
variable {H : Type} {enc : TypeId × Value → H} {W : World} {base : Nat}
theorem u32_of_wf {z : Int} (h : (Lit.int .u32 z).wf = true) : ∃ x : UInt32, z = (x.toNat : Int) := by
  have := bounds_u32 h
  exact ⟨UInt32.ofNat z.toNat, by simp; omega⟩
theorem u64_of_wf {z : Int} (h : (Lit.int .u64 z).wf = true) : ∃ x : UInt64, z = (x.toNat : Int) := by
  have := bounds_u64 h
  exact ⟨UInt64.ofNat z.toNat, by simp; omega⟩
theorem u16_of_wf {z : Int} (h : (Lit.int .u16 z).wf = true) : ∃ x : UInt16, z = (x.toNat : Int) := by
  have := bounds_u16 h
  exact ⟨UInt16.ofNat z.toNat, by simp; omega⟩
theorem u8_of_wf {z : Int} (h : (Lit.int .u8 z).wf = true) : ∃ x : UInt8, z = (x.toNat : Int) := by
  have := bounds_u8 h
  exact ⟨UInt8.ofNat z.toNat, by simp; omega⟩
theorem rd_u32 {t : TypeId} (ht : Tryz.prog.underlying t = some (.int .u32)) {v : Value} {spare : Nat → Bool} {held : Bool} {n : Nat} {y : DataW H × List MemPlace} (h : DataW.trod enc Tryz.prog W base spare held n t [v] = some y) : ∃ x : UInt32, v = u32v x := by
  obtain ⟨z, hz, _, hw⟩ := DataW.trod_int ht h
  obtain ⟨x, rfl⟩ := u32_of_wf hw
  exact ⟨x, by simpa [u32v, u64v] using hz⟩
theorem rd_u64 {t : TypeId} (ht : Tryz.prog.underlying t = some (.int .u64)) {v : Value} {spare : Nat → Bool} {held : Bool} {n : Nat} {y : DataW H × List MemPlace} (h : DataW.trod enc Tryz.prog W base spare held n t [v] = some y) : ∃ x : UInt64, v = u64v x := by
  obtain ⟨z, hz, _, hw⟩ := DataW.trod_int ht h
  obtain ⟨x, rfl⟩ := u64_of_wf hw
  exact ⟨x, by simpa [u32v, u64v] using hz⟩
end
end Go.Proofs.YtipankjajdpiiaaGreat

/-
  What bare rows share: the knobs, bytes out of readings.
-/
import Derived.Test.YtkpmadahfmpeiaaGreatOct
import Derived.ChangeSame
import Derived.ChangeVars
import Derived.JoinedOf
import Derived.RowKit
import Derived.RowKitTokens
import Derived.ProofKit
import Derived.OpenShut
import Derived.Deep.Slices
import Derived.Deep.Fields
import Derived.Lib.SmallJoins
import Derived.Test.YtkpmadahfmpeiaaGreatQo
import Derived.Test.YtkpmadahfmpeiaaGreatQk1
namespace Go.Proofs.YtkpmadahfmpeiaaGreat
open Go.ChangeShapes Go.WideShapes Go.RowKit
set_option maxRecDepth 100000

theorem Tryz.own : ownKnob Tryz.prog.godebug = none := by kernel_rfl
theorem Tryz.lout : laidOutB Tryz.prog = true := by kernel_rfl

/-- a []byte that came in reads as bytes. -/
theorem rdB_open {H : Type} {enc : TypeId × Value → H} {W : World} {v : Value} {d : DataW H} {p : List MemPlace} {base : Nat} (hok : Value.okWide Tryz.prog W .any base 33 v) (h : DataW.Trod enc Tryz.prog W 0 (fun _ => true) true 33 v d p) : ∃ l, RdB W v l := by
  obtain ⟨a0, len0, cap0, rfl⟩ := okWide_slice Tryz.underlying33 hok
  obtain ⟨fuel, hf⟩ := h
  rcases open_ints Tryz.underlying33 Tryz.underlying5 (by kernel_rfl) hf with ⟨hcs, _⟩ | ⟨x, l, c, zs, hcs, _, hl, hm, hz, _, hcell, hwz⟩
  · simp [Value.cells] at hcs
    obtain ⟨rfl, rfl, rfl⟩ := hcs
    exact ⟨[], Rd.nil _ _⟩
  · simp [Value.cells] at hcs
    obtain ⟨rfl, rfl, rfl⟩ := hcs
    have hz' : zs.length = cap0 := by simpa using hz
    refine ⟨(zs.take len0).map fun n => UInt8.ofNat n.toNat, ?_⟩
    have hlen : ((zs.take len0).map fun n => UInt8.ofNat n.toNat).length = len0 := by simp; omega
    unfold RdB
    rw [hlen]
    have hx : x.spot = none ∨ cap0 = 0 := by
      rcases Nat.eq_zero_or_pos cap0 with h0 | h0
      · exact .inr h0
      · have := hcell 0 (by omega)
        left
        have hx0 : x.add 0 = x := by simp [Addr.add]
        rw [hx0] at this
        unfold World.cell? at this
        split at this
        · split at this
          · cases this
          · rename_i hs; simpa using hs
        · cases this
    refine ⟨by simp; omega, some x, cap0, x.block, x.off, rfl, hl, hm, fun e => (by cases e), fun h0 => ?_, fun j hj => ?_⟩
    · rcases hx with hx | hx
      · obtain ⟨b, o, s⟩ := x; simp at hx; subst hx; rfl
      · omega
    · rcases hx with hx | hx
      · obtain ⟨b, o, s⟩ := x
        simp at hx
        subst hx
        have := hcell j (by omega)
        rw [Addr.add_lit] at this
        rw [this]
        have hj' : j < zs.length := by omega
        have hmem := hwz zs[j] (List.getElem_mem hj')
        have hb := bounds_u8 hmem
        simp only [Nat.mul_one] at hj
        rw [List.map_map, List.getElem?_map, List.getElem?_take, if_pos hj, List.getElem?_eq_getElem hj']
        simp only [Option.map_some, Function.comp, u8v, List.getD, List.getElem?_eq_getElem hj', Option.getD_some]
        congr 2
        simp
        omega
      · omega

end Go.Proofs.YtkpmadahfmpeiaaGreat

/- Arguments of bare rows read out: numbers. -/
namespace Go.Proofs.YtkpmadahfmpeiaaGreat
open Go.ChangeShapes Go.WideShapes Go.RowKit Go.Deep Go.Joins
set_option maxRecDepth 100000

section
variable {H : Type} {enc : TypeId × Value → H} {W : World} {base : Nat}
theorem u32_of_wf {z : Int} (h : (Lit.int .u32 z).wf = true) : ∃ x : UInt32, z = (x.toNat : Int) := by
  have := bounds_u32 h
  exact ⟨UInt32.ofNat z.toNat, by simp; omega⟩
theorem u64_of_wf {z : Int} (h : (Lit.int .u64 z).wf = true) : ∃ x : UInt64, z = (x.toNat : Int) := by
  have := bounds_u64 h
  exact ⟨UInt64.ofNat z.toNat, by simp; omega⟩
theorem u16_of_wf {z : Int} (h : (Lit.int .u16 z).wf = true) : ∃ x : UInt16, z = (x.toNat : Int) := by
  have := bounds_u16 h
  exact ⟨UInt16.ofNat z.toNat, by simp; omega⟩
theorem u8_of_wf {z : Int} (h : (Lit.int .u8 z).wf = true) : ∃ x : UInt8, z = (x.toNat : Int) := by
  have := bounds_u8 h
  exact ⟨UInt8.ofNat z.toNat, by simp; omega⟩
theorem rd_u32 {t : TypeId} (ht : Tryz.prog.underlying t = some (.int .u32)) {v : Value} {spare : Nat → Bool} {held : Bool} {n : Nat} {y : DataW H × List MemPlace} (h : DataW.trod enc Tryz.prog W base spare held n t [v] = some y) : ∃ x : UInt32, v = u32v x := by
  obtain ⟨z, hz, _, hw⟩ := DataW.trod_int ht h
  obtain ⟨x, rfl⟩ := u32_of_wf hw
  exact ⟨x, by simpa [u32v, u64v] using hz⟩
theorem rd_u64 {t : TypeId} (ht : Tryz.prog.underlying t = some (.int .u64)) {v : Value} {spare : Nat → Bool} {held : Bool} {n : Nat} {y : DataW H × List MemPlace} (h : DataW.trod enc Tryz.prog W base spare held n t [v] = some y) : ∃ x : UInt64, v = u64v x := by
  obtain ⟨z, hz, _, hw⟩ := DataW.trod_int ht h
  obtain ⟨x, rfl⟩ := u64_of_wf hw
  exact ⟨x, by simpa [u32v, u64v] using hz⟩
end
end Go.Proofs.YtkpmadahfmpeiaaGreat

/- What is done with a pool, read out of a bare row's arguments. -/
namespace Go.Proofs.YtkpmadahfmpeiaaGreat
open Go.ChangeShapes Go.WideShapes Go.RowKit Go.Deep Go.Joins
set_option maxRecDepth 100000

section
variable {H : Type} {enc : TypeId × Value → H} {W : World} {base : Nat}
/-- a cell that reads as a slice of whole numbers. -/
theorem rdInts_trod {cs : List Value} {y : DataW H × List MemPlace} {fuel : Nat} {held : Bool} {t e : TypeId} {K : IntKind} (ht : Tryz.prog.underlying t = some (.slice e)) (he : Tryz.prog.underlying e = some (.int K)) (hsz : Tryz.prog.cellsOf e = 1)
    (hf : DataW.trod enc Tryz.prog W base (fun _ => true) held fuel t cs = some y) : ∃ (v : Value) (l : List Int), cs = [v] ∧ Rd W 1 v l.length (l.map (Value.int K)) ∧ ∀ z ∈ l, (Lit.int K z).wf = true := by
  rcases open_ints ht he hsz hf with ⟨hcs, _⟩ | ⟨x, len0, cap0, zs, hcs, _, hl, hm, hz, _, hcell, hwz⟩
  · exact ⟨_, [], hcs, Rd.nil _ _, fun _ h => by cases h⟩
  · have hz' : zs.length = cap0 := by simpa using hz
    have hlen : (zs.take len0).length = len0 := by simp; omega
    refine ⟨_, zs.take len0, hcs, ?_, fun z hz => hwz z (List.mem_of_mem_take hz)⟩
    rw [hlen]
    have hx : x.spot = none ∨ cap0 = 0 := by
      rcases Nat.eq_zero_or_pos cap0 with h0 | h0
      · exact .inr h0
      · have := hcell 0 (by omega)
        left
        have hx0 : x.add 0 = x := by simp [Addr.add]
        rw [hx0] at this
        unfold World.cell? at this
        split at this
        · split at this
          · cases this
          · rename_i hs; simpa using hs
        · cases this
    refine ⟨by simp; omega, some x, cap0, x.block, x.off, rfl, hl, hm, fun e => (by cases e), fun h0 => ?_, fun j hj => ?_⟩
    · rcases hx with hx | hx
      · obtain ⟨b, o, s⟩ := x; simp at hx; subst hx; rfl
      · omega
    · rcases hx with hx | hx
      · obtain ⟨b, o, s⟩ := x
        simp at hx
        subst hx
        have := hcell j (by omega)
        rw [Addr.add_lit] at this
        rw [this]
        have hj' : j < zs.length := by omega
        simp only [Nat.mul_one] at hj
        rw [List.getElem?_map, List.getElem?_take, if_pos hj, List.getElem?_eq_getElem hj']
        simp [List.getD, hj']
      · omega
theorem cells_qop : Tryz.prog.cellsOf 35 = 4 := by kernel_rfl
/-- four cells that read as what is done are so. -/
theorem qop_trod {cs : List Value} {held : Bool} {n : Nat} {y : DataW H × List MemPlace} (h : DataW.trod enc Tryz.prog W base (fun _ => true) held n 35 cs = some y) : ∃ o : OpQ, cs = o.cells ∧ OpQk W o := by
  obtain ⟨xs, n', _, _, hl, hlx, hf⟩ := DataW.trod_struct Tryz.underlying35 h
  rw [cells_qop] at hl
  match cs, hl with
  | [c0, c1, c2, c3], _ =>
    match xs, hlx with
    | [y0, y1, y2, y3], _ =>
      have h0 := hf 0 _ rfl
      have h1 := hf 1 _ rfl
      have h2 := hf 2 _ rfl
      have h3 := hf 3 _ rfl
      obtain ⟨z0, e0, _, w0⟩ := DataW.trod_int (x := y0) (cs := [c0]) Tryz.underlying3 h0
      obtain ⟨s1, e1, _, w1⟩ := DataW.trod_string (x := y1) (cs := [c1]) Tryz.underlying9 h1
      obtain ⟨z2, e2, _, w2⟩ := DataW.trod_int (x := y2) (cs := [c2]) Tryz.underlying3 h2
      obtain ⟨v3, l3, e3, r3, w3⟩ := rdInts_trod (y := y3) (cs := [c3]) Tryz.underlying33 Tryz.underlying5 (by kernel_rfl) h3
      simp only [List.cons.injEq, and_true] at e0 e1 e2 e3
      subst e0 e1 e2 e3
      have b3 : RdB W c3 (l3.map fun z => UInt8.ofNat z.toNat) := by
        unfold RdB
        rw [List.length_map, List.map_map]
        rw [show (l3.map (u8v ∘ fun z : Int => UInt8.ofNat z.toNat)) = l3.map (Value.int .u8) from List.map_congr_left fun z hz => by
          have := bounds_u8 (w3 z hz)
          show Value.int .u8 ((UInt8.ofNat z.toNat).toNat : Int) = Value.int .u8 z
          congr 1
          simp; omega]
        exact r3
      refine ⟨⟨z0, s1.data.toList, z2, c3, _⟩, ?_, b3, bounds_i64 w0, bounds_i64 w2, ?_⟩
      · obtain ⟨a1⟩ := s1
        simp [OpQ.cells]
      · show s1.data.toList.length ≤ maxLen
        rw [Array.length_toList]; exact w1
theorem qop_open {v : Value} {d : DataW H} {p : List MemPlace} (hok : Value.okWide Tryz.prog W .any base 35 v) (h : DataW.Trod enc Tryz.prog W 0 (fun _ => true) true 35 v d p) :
    ∃ o : OpQ, v = .agg #[.int .i64 o.kind, .string ⟨o.name.toArray⟩, .int .i64 o.k, o.bv] ∧ OpQk W o := by
  obtain ⟨cs, rfl, hsz⟩ := okWide_struct Tryz.underlying35 hok
  obtain ⟨fuel, hf⟩ := h
  obtain ⟨o, ho, hok2⟩ := qop_trod (cs := cs.toList) hf
  refine ⟨o, ?_, hok2⟩
  obtain ⟨l⟩ := cs
  simp only at ho
  subst ho
  rfl
end
end Go.Proofs.YtkpmadahfmpeiaaGreat

/- A list of what is done with a pool, read out of a bare row's arguments. -/
namespace Go.Proofs.YtkpmadahfmpeiaaGreat
open Go.ChangeShapes Go.WideShapes Go.RowKit Go.Deep Go.Joins
set_option maxRecDepth 100000

section
variable {H : Type} {enc : TypeId × Value → H} {W : World} {base : Nat}
/-- a []Op that came in. -/
theorem rdQ_open {v : Value} {d : DataW H} {p : List MemPlace} (hok : Value.okWide Tryz.prog W .any base 22 v) (h : DataW.Trod enc Tryz.prog W 0 (fun _ => true) true 22 v d p) : ∃ l, RdQ W v l := by
  obtain ⟨A, n, c, rfl⟩ := okWide_slice Tryz.underlying22 hok
  obtain ⟨fuel, hf⟩ := h
  rcases open_slice Tryz.underlying22 hf with ⟨hc, _⟩ | ⟨a, len, cap, m, k, D, Pl, hc, _, hl, hm, hmm, _, hi⟩
  · simp [Value.cells] at hc
    obtain ⟨rfl, rfl, rfl⟩ := hc
    exact ⟨[], Rd.nil _ _, fun _ h => by cases h⟩
  · simp [Value.cells] at hc
    obtain ⟨rfl, rfl, rfl⟩ := hc
    simp at hmm
    subst hmm
    have he : ∀ i, ∃ e : OpQ, i < m → (∀ j, j < 4 → W.cell? (a.add (i * 4 + j)) = e.cells[j]?) ∧ OpQk W e := fun i => by
      by_cases h : i < m
      · obtain ⟨cs', h1, h2⟩ := hi i h
        rw [cells_qop] at h1
        obtain ⟨_, _, hat⟩ := World.cells?_some h1
        obtain ⟨e, rfl, hok2⟩ := qop_trod h2
        refine ⟨e, fun _ => ⟨fun j hj => ?_, hok2⟩⟩
        rw [← Go.Deep.add_add, hat j hj]
      · exact ⟨⟨0, [], 0, .slice none 0 0, []⟩, fun h' => absurd h' h⟩
    let f : Nat → OpQ := fun i => Classical.choose (he i)
    have hfs : ∀ i, i < m → (∀ j, j < 4 → W.cell? (a.add (i * 4 + j)) = (f i).cells[j]?) ∧ OpQk W (f i) := fun i hi' => Classical.choose_spec (he i) hi'
    have hlen : ((List.range n).map f).length = n := by simp
    refine ⟨(List.range n).map f, ?_, fun o ho => ?_⟩
    · have hx : a.spot = none ∨ m = 0 := by
        rcases Nat.eq_zero_or_pos m with h0 | h0
        · exact .inr h0
        · have := (hfs 0 h0).1 0 (by omega)
          left
          have hx0 : a.add (0 * 4 + 0) = a := by simp [Addr.add]
          rw [hx0] at this
          have hsome : (W.cell? a).isSome = true := by rw [this]; rfl
          unfold World.cell? at hsome
          split at hsome
          · split at hsome
            · cases hsome
            · rename_i hs; simpa using hs
          · cases hsome
      rw [hlen]
      have hol : (opQ ((List.range n).map f)).length = n * 4 := by
        have : ∀ l : List OpQ, (opQ l).length = l.length * 4 := fun l => by
          induction l with
          | nil => rfl
          | cons o l ih => unfold opQ at *; rw [List.flatMap_cons, List.length_append, ih, List.length_cons]; show 4 + _ = _; omega
        rw [this, hlen]
      refine ⟨hol, some a, m, a.block, a.off, rfl, hl, hm, fun e => (by cases e), fun h0 => ?_, fun j hj => ?_⟩
      · rcases hx with hx | hx
        · obtain ⟨b, o, s⟩ := a; simp at hx; subst hx; rfl
        · omega
      · rcases hx with hx | hx
        · obtain ⟨b, o, s⟩ := a
          simp at hx
          subst hx
          have hq : j / 4 < n := by omega
          have h1 := (hfs (j / 4) (by omega)).1 (j % 4) (by omega)
          have h2 := opQ_at ((List.range n).map f) (k := j / 4) (j := j % 4) (by rw [hlen]; exact hq) (by omega)
          have e : j / 4 * 4 + j % 4 = j := by omega
          rw [e] at h1 h2
          rw [Addr.add_lit] at h1
          rw [h1, h2]
          simp
        · omega
    · obtain ⟨i, hi', rfl⟩ := List.mem_map.1 ho
      exact (hfs i (by have := List.mem_range.1 hi'; omega)).2
end
end Go.Proofs.YtkpmadahfmpeiaaGreat

/-
  What is done with a pool, read out of a bare row's arguments.
-/
import Derived.Test.YtkfokgjpeaibpaaGreatPOpen
import Derived.Test.YtkfokgjpeaibpaaGreatQo
namespace Go.Proofs.YtkfokgjpeaibpaaGreat
open Go.ChangeShapes Go.WideShapes Go.RowKit Go.Deep Go.Joins
set_option maxRecDepth 100000

section
variable {H : Type} {enc : TypeId × Value → H} {W : World} {base : Nat}
/-- a cell that reads as a slice of whole numbers. -/
theorem rdInts_trod {cs : List Value} {y : DataW H × List MemPlace} {fuel : Nat} {held : Bool} {t e : TypeId} {K : IntKind} (ht : Tryz.prog.underlying t = some (.slice e)) (he : Tryz.prog.underlying e = some (.int K)) (hsz : Tryz.prog.cellsOf e = 1)
    (hf : DataW.trod enc Tryz.prog W base (fun _ => true) held fuel t cs = some y) : ∃ (v : Value) (l : List Int), cs = [v] ∧ Rd W 1 v l.length (l.map (Value.int K)) ∧ ∀ z ∈ l, (Lit.int K z).wf = true := by
  rcases open_ints ht he hsz hf with ⟨hcs, _⟩ | ⟨x, len0, cap0, zs, hcs, _, hl, hm, hz, _, hcell, hwz⟩
  · exact ⟨_, [], hcs, Rd.nil _ _, fun _ h => by cases h⟩
  · have hz' : zs.length = cap0 := by simpa using hz
    have hlen : (zs.take len0).length = len0 := by simp; omega
    refine ⟨_, zs.take len0, hcs, ?_, fun z hz => hwz z (List.mem_of_mem_take hz)⟩
    rw [hlen]
    have hx : x.spot = none ∨ cap0 = 0 := by
      rcases Nat.eq_zero_or_pos cap0 with h0 | h0
      · exact .inr h0
      · have := hcell 0 (by omega)
        left
        have hx0 : x.add 0 = x := by simp [Addr.add]
        rw [hx0] at this
        unfold World.cell? at this
        split at this
        · split at this
          · cases this
          · rename_i hs; simpa using hs
        · cases this
    refine ⟨by simp; omega, some x, cap0, x.block, x.off, rfl, hl, hm, fun e => (by cases e), fun h0 => ?_, fun j hj => ?_⟩
    · rcases hx with hx | hx
      · obtain ⟨b, o, s⟩ := x; simp at hx; subst hx; rfl
      · omega
    · rcases hx with hx | hx
      · obtain ⟨b, o, s⟩ := x
        simp at hx
        subst hx
        have := hcell j (by omega)
        rw [Addr.add_lit] at this
        rw [this]
        have hj' : j < zs.length := by omega
        simp only [Nat.mul_one] at hj
        rw [List.getElem?_map, List.getElem?_take, if_pos hj, List.getElem?_eq_getElem hj']
        simp [List.getD, hj']
      · omega
theorem cells_qop : Tryz.prog.cellsOf 35 = 4 := by kernel_rfl
/-- four cells that read as what is done are so. -/
theorem qop_trod {cs : List Value} {held : Bool} {n : Nat} {y : DataW H × List MemPlace} (h : DataW.trod enc Tryz.prog W base (fun _ => true) held n 35 cs = some y) : ∃ o : OpQ, cs = o.cells ∧ OpQk W o := by
  obtain ⟨xs, n', _, _, hl, hlx, hf⟩ := DataW.trod_struct Tryz.underlying35 h
  rw [cells_qop] at hl
  match cs, hl with
  | [c0, c1, c2, c3], _ =>
    match xs, hlx with
    | [y0, y1, y2, y3], _ =>
      have h0 := hf 0 _ rfl
      have h1 := hf 1 _ rfl
      have h2 := hf 2 _ rfl
      have h3 := hf 3 _ rfl
      obtain ⟨z0, e0, _, w0⟩ := DataW.trod_int (x := y0) (cs := [c0]) Tryz.underlying3 h0
      obtain ⟨s1, e1, _, w1⟩ := DataW.trod_string (x := y1) (cs := [c1]) Tryz.underlying9 h1
      obtain ⟨z2, e2, _, w2⟩ := DataW.trod_int (x := y2) (cs := [c2]) Tryz.underlying3 h2
      obtain ⟨v3, l3, e3, r3, w3⟩ := rdInts_trod (y := y3) (cs := [c3]) Tryz.underlying33 Tryz.underlying5 (by kernel_rfl) h3
      simp only [List.cons.injEq, and_true] at e0 e1 e2 e3
      subst e0 e1 e2 e3
      have b3 : RdB W c3 (l3.map fun z => UInt8.ofNat z.toNat) := by
        unfold RdB
        rw [List.length_map, List.map_map]
        rw [show (l3.map (u8v ∘ fun z : Int => UInt8.ofNat z.toNat)) = l3.map (Value.int .u8) from List.map_congr_left fun z hz => by
          have := bounds_u8 (w3 z hz)
          show Value.int .u8 ((UInt8.ofNat z.toNat).toNat : Int) = Value.int .u8 z
          congr 1
          simp; omega]
        exact r3
      refine ⟨⟨z0, s1.data.toList, z2, c3, _⟩, ?_, b3, bounds_i64 w0, bounds_i64 w2, ?_⟩
      · obtain ⟨a1⟩ := s1
        simp [OpQ.cells]
      · show s1.data.toList.length ≤ maxLen
        rw [Array.length_toList]; exact w1
theorem qop_open {v : Value} {d : DataW H} {p : List MemPlace} (hok : Value.okWide Tryz.prog W .any base 35 v) (h : DataW.Trod enc Tryz.prog W 0 (fun _ => true) true 35 v d p) :
    ∃ o : OpQ, v = .agg #[.int .i64 o.kind, .string ⟨o.name.toArray⟩, .int .i64 o.k, o.bv] ∧ OpQk W o := by
  obtain ⟨cs, rfl, hsz⟩ := okWide_struct Tryz.underlying35 hok
  obtain ⟨fuel, hf⟩ := h
  obtain ⟨o, ho, hok2⟩ := qop_trod (cs := cs.toList) hf
  refine ⟨o, ?_, hok2⟩
  obtain ⟨l⟩ := cs
  simp only at ho
  subst ho
  rfl
end
end Go.Proofs.YtkfokgjpeaibpaaGreat

/-
  Lists of whole numbers of bare rows read out.
-/
import Derived.Test.YtipankjajdpiiaaGreatPOpen
import Derived.Test.YtipankjajdpiiaaGreatOp
import Derived.Test.YtipankjajdpiiaaGreatFs0
namespace Go.Proofs.YtipankjajdpiiaaGreat
open Go.ChangeShapes Go.WideShapes Go.RowKit Go.Deep Go.Joins
set_option maxRecDepth 100000

/-- a slice of whole numbers that came in reads as a list. -/
theorem rdInts_open {H : Type} {enc : TypeId × Value → H} {W : World} {v : Value} {d : DataW H} {p : List MemPlace} {base : Nat} {t e : TypeId} {K : IntKind} (ht : Tryz.prog.underlying t = some (.slice e)) (he : Tryz.prog.underlying e = some (.int K)) (hsz : Tryz.prog.cellsOf e = 1)
    (hok : Value.okWide Tryz.prog W .any base t v) (h : DataW.Trod enc Tryz.prog W 0 (fun _ => true) true t v d p) : ∃ l : List Int, Rd W 1 v l.length (l.map (Value.int K)) ∧ ∀ z ∈ l, (Lit.int K z).wf = true := by
  obtain ⟨a0, len0, cap0, rfl⟩ := okWide_slice ht hok
  obtain ⟨fuel, hf⟩ := h
  rcases open_ints ht he hsz hf with ⟨hcs, _⟩ | ⟨x, l, c, zs, hcs, _, hl, hm, hz, _, hcell, hwz⟩
  · simp [Value.cells] at hcs
    obtain ⟨rfl, rfl, rfl⟩ := hcs
    exact ⟨[], Rd.nil _ _, fun _ h => by cases h⟩
  · simp [Value.cells] at hcs
    obtain ⟨rfl, rfl, rfl⟩ := hcs
    have hz' : zs.length = cap0 := by simpa using hz
    have hlen : (zs.take len0).length = len0 := by simp; omega
    refine ⟨zs.take len0, ?_, fun z hz => hwz z (List.mem_of_mem_take hz)⟩
    rw [hlen]
    have hx : x.spot = none ∨ cap0 = 0 := by
      rcases Nat.eq_zero_or_pos cap0 with h0 | h0
      · exact .inr h0
      · have := hcell 0 (by omega)
        left
        have hx0 : x.add 0 = x := by simp [Addr.add]
        rw [hx0] at this
        unfold World.cell? at this
        split at this
        · split at this
          · cases this
          · rename_i hs; simpa using hs
        · cases this
    refine ⟨by simp; omega, some x, cap0, x.block, x.off, rfl, hl, hm, fun e => (by cases e), fun h0 => ?_, fun j hj => ?_⟩
    · rcases hx with hx | hx
      · obtain ⟨b, o, s⟩ := x; simp at hx; subst hx; rfl
      · omega
    · rcases hx with hx | hx
      · obtain ⟨b, o, s⟩ := x
        simp at hx
        subst hx
        have := hcell j (by omega)
        rw [Addr.add_lit] at this
        rw [this]
        have hj' : j < zs.length := by omega
        simp only [Nat.mul_one] at hj
        rw [List.getElem?_map, List.getElem?_take, if_pos hj, List.getElem?_eq_getElem hj']
        simp [List.getD, hj']
      · omega
theorem rdI_open {H : Type} {enc : TypeId × Value → H} {W : World} {v : Value} {d : DataW H} {p : List MemPlace} {base : Nat} (hok : Value.okWide Tryz.prog W .any base 39 v) (h : DataW.Trod enc Tryz.prog W 0 (fun _ => true) true 39 v d p) : ∃ l : List Int, RdI W v l ∧ ∀ z ∈ l, (Lit.int .i64 z).wf = true :=
  rdInts_open Tryz.underlying39 Tryz.underlying3 (by kernel_rfl) hok h
def u16L' (l : List UInt16) : List Value := l.map fun x => .int .u16 x.toNat
end Go.Proofs.YtipankjajdpiiaaGreat

/- What is done with a disk, read out of a bare row's arguments. -/
namespace Go.Proofs.YtipankjajdpiiaaGreat
open Go.ChangeShapes Go.WideShapes Go.RowKit Go.Deep Go.Joins
set_option maxRecDepth 100000

section
variable {H : Type} {enc : TypeId × Value → H} {W : World} {base : Nat}
/-- a cell that reads as a slice of whole numbers. -/
theorem rdInts_trod {cs : List Value} {y : DataW H × List MemPlace} {fuel : Nat} {held : Bool} {t e : TypeId} {K : IntKind} (ht : Tryz.prog.underlying t = some (.slice e)) (he : Tryz.prog.underlying e = some (.int K)) (hsz : Tryz.prog.cellsOf e = 1)
    (hf : DataW.trod enc Tryz.prog W base (fun _ => true) held fuel t cs = some y) : ∃ (v : Value) (l : List Int), cs = [v] ∧ Rd W 1 v l.length (l.map (Value.int K)) ∧ ∀ z ∈ l, (Lit.int K z).wf = true := by
  rcases open_ints ht he hsz hf with ⟨hcs, _⟩ | ⟨x, len0, cap0, zs, hcs, _, hl, hm, hz, _, hcell, hwz⟩
  · exact ⟨_, [], hcs, Rd.nil _ _, fun _ h => by cases h⟩
  · have hz' : zs.length = cap0 := by simpa using hz
    have hlen : (zs.take len0).length = len0 := by simp; omega
    refine ⟨_, zs.take len0, hcs, ?_, fun z hz => hwz z (List.mem_of_mem_take hz)⟩
    rw [hlen]
    have hx : x.spot = none ∨ cap0 = 0 := by
      rcases Nat.eq_zero_or_pos cap0 with h0 | h0
      · exact .inr h0
      · have := hcell 0 (by omega)
        left
        have hx0 : x.add 0 = x := by simp [Addr.add]
        rw [hx0] at this
        unfold World.cell? at this
        split at this
        · split at this
          · cases this
          · rename_i hs; simpa using hs
        · cases this
    refine ⟨by simp; omega, some x, cap0, x.block, x.off, rfl, hl, hm, fun e => (by cases e), fun h0 => ?_, fun j hj => ?_⟩
    · rcases hx with hx | hx
      · obtain ⟨b, o, s⟩ := x; simp at hx; subst hx; rfl
      · omega
    · rcases hx with hx | hx
      · obtain ⟨b, o, s⟩ := x
        simp at hx
        subst hx
        have := hcell j (by omega)
        rw [Addr.add_lit] at this
        rw [this]
        have hj' : j < zs.length := by omega
        simp only [Nat.mul_one] at hj
        rw [List.getElem?_map, List.getElem?_take, if_pos hj, List.getElem?_eq_getElem hj']
        simp [List.getD, hj']
      · omega
theorem cells_op : Tryz.prog.cellsOf 61 = 8 := by kernel_rfl
/-- eight cells that read as what is done are so. -/
theorem op_trod {cs : List Value} {held : Bool} {n : Nat} {y : DataW H × List MemPlace} (h : DataW.trod enc Tryz.prog W base (fun _ => true) held n 61 cs = some y) : ∃ o : OpV, cs = o.cells ∧ OpOk W o := by
  obtain ⟨xs, n', _, _, hl, hlx, hf⟩ := DataW.trod_struct Tryz.underlying61 h
  rw [cells_op] at hl
  match cs, hl with
  | [c0, c1, c2, c3, c4, c5, c6, c7], _ =>
    match xs, hlx with
    | [y0, y1, y2, y3, y4, y5, y6, y7], _ =>
      have h0 := hf 0 _ rfl
      have h1 := hf 1 _ rfl
      have h2 := hf 2 _ rfl
      have h3 := hf 3 _ rfl
      have h4 := hf 4 _ rfl
      have h5 := hf 5 _ rfl
      have h6 := hf 6 _ rfl
      have h7 := hf 7 _ rfl
      obtain ⟨z0, e0, _, w0⟩ := DataW.trod_int (x := y0) (cs := [c0]) Tryz.underlying3 h0
      obtain ⟨s1, e1, _, w1⟩ := DataW.trod_string (x := y1) (cs := [c1]) Tryz.underlying9 h1
      obtain ⟨s2, e2, _, w2⟩ := DataW.trod_string (x := y2) (cs := [c2]) Tryz.underlying9 h2
      obtain ⟨z3, e3, _, w3⟩ := DataW.trod_int (x := y3) (cs := [c3]) Tryz.underlying3 h3
      obtain ⟨z4, e4, _, w4⟩ := DataW.trod_int (x := y4) (cs := [c4]) Tryz.underlying3 h4
      obtain ⟨v5, l5, e5, r5, w5⟩ := rdInts_trod (y := y5) (cs := [c5]) Tryz.underlying40 Tryz.underlying5 (by kernel_rfl) h5
      obtain ⟨z6, e6, _, w6⟩ := DataW.trod_int (x := y6) (cs := [c6]) Tryz.underlying5 h6
      obtain ⟨v7, l7, e7, r7, w7⟩ := rdInts_trod (y := y7) (cs := [c7]) Tryz.underlying39 Tryz.underlying3 (by kernel_rfl) h7
      simp only [List.cons.injEq, and_true] at e0 e1 e2 e3 e4 e5 e6 e7
      subst e0 e1 e2 e3 e4 e5 e6 e7
      obtain ⟨m6, rfl⟩ := u8_of_wf w6
      have b5 : RdB W c5 (l5.map fun z => UInt8.ofNat z.toNat) := by
        unfold RdB
        rw [List.length_map, List.map_map]
        rw [show (l5.map (u8v ∘ fun z : Int => UInt8.ofNat z.toNat)) = l5.map (Value.int .u8) from List.map_congr_left fun z hz => by
          have := bounds_u8 (w5 z hz)
          show Value.int .u8 ((UInt8.ofNat z.toNat).toNat : Int) = Value.int .u8 z
          congr 1
          simp; omega]
        exact r5
      refine ⟨⟨z0, s1.data.toList, s2.data.toList, z3, z4, c5, _, m6, c7, l7⟩, ?_, b5, r7, bounds_i64 w0, bounds_i64 w3, bounds_i64 w4, ?_, ?_, fun z hz => bounds_i64 (w7 z hz)⟩
      · obtain ⟨a1⟩ := s1
        obtain ⟨a2⟩ := s2
        simp [OpV.cells]
      · show s1.data.toList.length ≤ maxLen
        rw [Array.length_toList]; exact w1
      · show s2.data.toList.length ≤ maxLen
        rw [Array.length_toList]; exact w2
theorem op_open {v : Value} {d : DataW H} {p : List MemPlace} (hok : Value.okWide Tryz.prog W .any base 61 v) (h : DataW.Trod enc Tryz.prog W 0 (fun _ => true) true 61 v d p) :
    ∃ o : OpV, v = .agg #[.int .i64 o.kind, .string ⟨o.name.toArray⟩, .string ⟨o.into.toArray⟩, .int .i64 o.off, .int .i64 o.n, o.bv, .int .u8 o.mask.toNat, o.kv] ∧ OpOk W o := by
  obtain ⟨cs, rfl, hsz⟩ := okWide_struct Tryz.underlying61 hok
  obtain ⟨fuel, hf⟩ := h
  obtain ⟨o, ho, hok2⟩ := op_trod (cs := cs.toList) hf
  refine ⟨o, ?_, hok2⟩
  obtain ⟨l⟩ := cs
  simp only at ho
  subst ho
  rfl
/-- a []Op that came in. -/
theorem rdO_open {v : Value} {d : DataW H} {p : List MemPlace} (hok : Value.okWide Tryz.prog W .any base 101 v) (h : DataW.Trod enc Tryz.prog W 0 (fun _ => true) true 101 v d p) : ∃ l, RdO W v l := by
  obtain ⟨A, n, c, rfl⟩ := okWide_slice Tryz.underlying101 hok
  obtain ⟨fuel, hf⟩ := h
  rcases open_slice Tryz.underlying101 hf with ⟨hc, _⟩ | ⟨a, len, cap, m, k, D, Pl, hc, _, hl, hm, hmm, _, hi⟩
  · simp [Value.cells] at hc
    obtain ⟨rfl, rfl, rfl⟩ := hc
    exact ⟨[], Rd.nil _ _, fun _ h => by cases h⟩
  · simp [Value.cells] at hc
    obtain ⟨rfl, rfl, rfl⟩ := hc
    simp at hmm
    subst hmm
    have he : ∀ i, ∃ e : OpV, i < m → (∀ j, j < 8 → W.cell? (a.add (i * 8 + j)) = e.cells[j]?) ∧ OpOk W e := fun i => by
      by_cases h : i < m
      · obtain ⟨cs', h1, h2⟩ := hi i h
        rw [cells_op] at h1
        obtain ⟨_, _, hat⟩ := World.cells?_some h1
        obtain ⟨e, rfl, hok2⟩ := op_trod h2
        refine ⟨e, fun _ => ⟨fun j hj => ?_, hok2⟩⟩
        rw [← Go.Deep.add_add, hat j hj]
      · exact ⟨⟨0, [], [], 0, 0, .slice none 0 0, [], 0, .slice none 0 0, []⟩, fun h' => absurd h' h⟩
    let f : Nat → OpV := fun i => Classical.choose (he i)
    have hfs : ∀ i, i < m → (∀ j, j < 8 → W.cell? (a.add (i * 8 + j)) = (f i).cells[j]?) ∧ OpOk W (f i) := fun i hi' => Classical.choose_spec (he i) hi'
    have hlen : ((List.range n).map f).length = n := by simp
    refine ⟨(List.range n).map f, ?_, fun o ho => ?_⟩
    · have hx : a.spot = none ∨ m = 0 := by
        rcases Nat.eq_zero_or_pos m with h0 | h0
        · exact .inr h0
        · have := (hfs 0 h0).1 0 (by omega)
          left
          have hx0 : a.add (0 * 8 + 0) = a := by simp [Addr.add]
          rw [hx0] at this
          have hsome : (W.cell? a).isSome = true := by rw [this]; rfl
          unfold World.cell? at hsome
          split at hsome
          · split at hsome
            · cases hsome
            · rename_i hs; simpa using hs
          · cases hsome
      rw [hlen]
      have hol : (opL ((List.range n).map f)).length = n * 8 := by
        have : ∀ l : List OpV, (opL l).length = l.length * 8 := fun l => by
          induction l with
          | nil => rfl
          | cons o l ih => unfold opL at *; rw [List.flatMap_cons, List.length_append, ih, List.length_cons]; show 8 + _ = _; omega
        rw [this, hlen]
      refine ⟨hol, some a, m, a.block, a.off, rfl, hl, hm, fun e => (by cases e), fun h0 => ?_, fun j hj => ?_⟩
      · rcases hx with hx | hx
        · obtain ⟨b, o, s⟩ := a; simp at hx; subst hx; rfl
        · omega
      · rcases hx with hx | hx
        · obtain ⟨b, o, s⟩ := a
          simp at hx
          subst hx
          have hq : j / 8 < n := by omega
          have h1 := (hfs (j / 8) (by omega)).1 (j % 8) (by omega)
          have h2 := opL_at ((List.range n).map f) (k := j / 8) (j := j % 8) (by rw [hlen]; exact hq) (by omega)
          have e : j / 8 * 8 + j % 8 = j := by omega
          rw [e] at h1 h2
          rw [Addr.add_lit] at h1
          rw [h1, h2]
          simp
        · omega
    · obtain ⟨i, hi', rfl⟩ := List.mem_map.1 ho
      exact (hfs i (by have := List.mem_range.1 hi'; omega)).2
end
end Go.Proofs.YtipankjajdpiiaaGreat

/- What is done with a file of pages, read out of a bare row's arguments. -/
namespace Go.Proofs.YtipankjajdpiiaaGreat
open Go.ChangeShapes Go.WideShapes Go.RowKit Go.Deep Go.Joins
set_option maxRecDepth 100000

section
variable {H : Type} {enc : TypeId × Value → H} {W : World} {base : Nat}
theorem cells_opF : Tryz.prog.cellsOf 63 = 12 := by kernel_rfl
/-- twelve cells that read as what is done are so. -/
theorem opF_trod {cs : List Value} {held : Bool} {n : Nat} {y : DataW H × List MemPlace} (h : DataW.trod enc Tryz.prog W base (fun _ => true) held n 63 cs = some y) : ∃ o : OpF, cs = o.cells ∧ OpFk W o := by
  obtain ⟨xs, n', _, _, hl, hlx, hf⟩ := DataW.trod_struct Tryz.underlying63 h
  rw [cells_opF] at hl
  match cs, hl with
  | [c0, c1, c2, c3, c4, c5, c6, c7, c8, c9, c10, c11], _ =>
    match xs, hlx with
    | [y0, y1, y2, y3, y4], _ =>
      have h0 := hf 0 _ rfl
      have h1 := hf 1 _ rfl
      have h2 := hf 2 _ rfl
      have h3 := hf 3 _ rfl
      have h4 := hf 4 _ rfl
      obtain ⟨z0, e0, _, w0⟩ := DataW.trod_int (x := y0) (cs := [c0]) Tryz.underlying3 h0
      obtain ⟨s1, e1, _, w1⟩ := DataW.trod_string (x := y1) (cs := [c1]) Tryz.underlying9 h1
      obtain ⟨z2, e2, _, w2⟩ := DataW.trod_int (x := y2) (cs := [c2]) Tryz.underlying3 h2
      obtain ⟨v3, l3, e3, r3, w3⟩ := rdInts_trod (y := y3) (cs := [c3]) Tryz.underlying40 Tryz.underlying5 (by kernel_rfl) h3
      obtain ⟨d, e4, d4⟩ := op_trod (y := y4) (cs := [c4, c5, c6, c7, c8, c9, c10, c11]) h4
      unfold OpV.cells at e4
      simp only [List.cons.injEq, and_true] at e0 e1 e2 e3 e4
      obtain ⟨f4, f5, f6, f7, f8, f9, f10, f11⟩ := e4
      subst e0 e1 e2 e3 f4 f5 f6 f7 f8 f9 f10 f11
      have b3 : RdB W c3 (l3.map fun z => UInt8.ofNat z.toNat) := by
        unfold RdB
        rw [List.length_map, List.map_map]
        rw [show (l3.map (u8v ∘ fun z : Int => UInt8.ofNat z.toNat)) = l3.map (Value.int .u8) from List.map_congr_left fun z hz => by
          have := bounds_u8 (w3 z hz)
          show Value.int .u8 ((UInt8.ofNat z.toNat).toNat : Int) = Value.int .u8 z
          congr 1
          simp; omega]
        exact r3
      refine ⟨⟨z0, s1.data.toList, z2, c3, _, d⟩, ?_, b3, bounds_i64 w0, bounds_i64 w2, ?_, d4⟩
      · obtain ⟨a1⟩ := s1
        simp [OpF.cells]
      · show s1.data.toList.length ≤ maxLen
        rw [Array.length_toList]; exact w1
/-- a []Op that came in. -/
theorem rdFo_open {v : Value} {d : DataW H} {p : List MemPlace} (hok : Value.okWide Tryz.prog W .any base 52 v) (h : DataW.Trod enc Tryz.prog W 0 (fun _ => true) true 52 v d p) : ∃ l, RdFo W v l := by
  obtain ⟨A, n, c, rfl⟩ := okWide_slice Tryz.underlying52 hok
  obtain ⟨fuel, hf⟩ := h
  rcases open_slice Tryz.underlying52 hf with ⟨hc, _⟩ | ⟨a, len, cap, m, k, D, Pl, hc, _, hl, hm, hmm, _, hi⟩
  · simp [Value.cells] at hc
    obtain ⟨rfl, rfl, rfl⟩ := hc
    exact ⟨[], Rd.nil _ _, fun _ h => by cases h⟩
  · simp [Value.cells] at hc
    obtain ⟨rfl, rfl, rfl⟩ := hc
    simp at hmm
    subst hmm
    have he : ∀ i, ∃ e : OpF, i < m → (∀ j, j < 12 → W.cell? (a.add (i * 12 + j)) = e.cells[j]?) ∧ OpFk W e := fun i => by
      by_cases h : i < m
      · obtain ⟨cs', h1, h2⟩ := hi i h
        rw [cells_opF] at h1
        obtain ⟨_, _, hat⟩ := World.cells?_some h1
        obtain ⟨e, rfl, hok2⟩ := opF_trod h2
        refine ⟨e, fun _ => ⟨fun j hj => ?_, hok2⟩⟩
        rw [← Go.Deep.add_add, hat j hj]
      · exact ⟨⟨0, [], 0, .slice none 0 0, [], ⟨0, [], [], 0, 0, .slice none 0 0, [], 0, .slice none 0 0, []⟩⟩, fun h' => absurd h' h⟩
    let f : Nat → OpF := fun i => Classical.choose (he i)
    have hfs : ∀ i, i < m → (∀ j, j < 12 → W.cell? (a.add (i * 12 + j)) = (f i).cells[j]?) ∧ OpFk W (f i) := fun i hi' => Classical.choose_spec (he i) hi'
    have hlen : ((List.range n).map f).length = n := by simp
    refine ⟨(List.range n).map f, ?_, fun o ho => ?_⟩
    · have hx : a.spot = none ∨ m = 0 := by
        rcases Nat.eq_zero_or_pos m with h0 | h0
        · exact .inr h0
        · have := (hfs 0 h0).1 0 (by omega)
          left
          have hx0 : a.add (0 * 12 + 0) = a := by simp [Addr.add]
          rw [hx0] at this
          have hsome : (W.cell? a).isSome = true := by rw [this]; rfl
          unfold World.cell? at hsome
          split at hsome
          · split at hsome
            · cases hsome
            · rename_i hs; simpa using hs
          · cases hsome
      rw [hlen]
      have hol : (opF ((List.range n).map f)).length = n * 12 := by
        have : ∀ l : List OpF, (opF l).length = l.length * 12 := fun l => by
          induction l with
          | nil => rfl
          | cons o l ih => unfold opF at *; rw [List.flatMap_cons, List.length_append, ih, List.length_cons]; show 12 + _ = _; omega
        rw [this, hlen]
      refine ⟨hol, some a, m, a.block, a.off, rfl, hl, hm, fun e => (by cases e), fun h0 => ?_, fun j hj => ?_⟩
      · rcases hx with hx | hx
        · obtain ⟨b, o, s⟩ := a; simp at hx; subst hx; rfl
        · omega
      · rcases hx with hx | hx
        · obtain ⟨b, o, s⟩ := a
          simp at hx
          subst hx
          have hq : j / 12 < n := by omega
          have h1 := (hfs (j / 12) (by omega)).1 (j % 12) (by omega)
          have h2 := opF_at ((List.range n).map f) (k := j / 12) (j := j % 12) (by rw [hlen]; exact hq) (by omega)
          have e : j / 12 * 12 + j % 12 = j := by omega
          rw [e] at h1 h2
          rw [Addr.add_lit] at h1
          rw [h1, h2]
          simp
        · omega
    · obtain ⟨i, hi', rfl⟩ := List.mem_map.1 ho
      exact (hfs i (by have := List.mem_range.1 hi'; omega)).2
end
end Go.Proofs.YtipankjajdpiiaaGreat

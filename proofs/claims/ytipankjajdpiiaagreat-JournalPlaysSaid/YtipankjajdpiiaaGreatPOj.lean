/-
  What is done with a journal, read out of a bare row's arguments.
-/
import Derived.Test.YtipankjajdpiiaaGreatPInts
import Derived.Test.YtipankjajdpiiaaGreatJs
namespace Go.Proofs.YtipankjajdpiiaaGreat
open Go.ChangeShapes Go.WideShapes Go.RowKit Go.Deep Go.Joins
set_option maxRecDepth 100000

section
variable {H : Type} {enc : TypeId × Value → H} {W : World} {base : Nat}
/-- a cell that reads as a slice of whole numbers. -/
theorem rdInts_trod {cs : List Value} {y : DataW H × List MemPlace} {fuel : Nat} {held : Bool} {t e : TypeId} {K : IntKind} (ht : Tryz.prog.underlying t = some (.slice e)) (he : Tryz.prog.underlying e = some (.int K)) (hsz : Tryz.prog.cellsOf e = 1)
    (hf : DataW.trod enc Tryz.prog W base (fun _ => true) held fuel t cs = some y) : ∃ (v : Value) (l : List Int), cs = [v] ∧ Rd W 1 v l.length (l.map (Value.int K)) ∧ ∀ z ∈ l, (Lit.int K z).wf = true := by
  rcases open_ints ht he hsz hf with ⟨hcs, _⟩ | ⟨x, len0, cap0, zs, hcs, _, hl, hm, hz, _, hcell, hwz⟩
  · exact ⟨_, [], hcs, Rd.nil _ _, fun _ h => by cases h⟩
  · have hz' : zs.length = cap0 := by simpa using hz
    have hlen : (zs.take len0).length = len0 := by simp; omega
    refine ⟨_, zs.take len0, hcs, ?_, fun z hz => hwz z (List.mem_of_mem_take hz)⟩
    rw [hlen]
    have hx : x.spot = none ∨ cap0 = 0 := by
      rcases Nat.eq_zero_or_pos cap0 with h0 | h0
      · exact .inr h0
      · have := hcell 0 (by omega)
        left
        have hx0 : x.add 0 = x := by simp [Addr.add]
        rw [hx0] at this
        unfold World.cell? at this
        split at this
        · split at this
          · cases this
          · rename_i hs; simpa using hs
        · cases this
    refine ⟨by simp; omega, some x, cap0, x.block, x.off, rfl, hl, hm, fun e => (by cases e), fun h0 => ?_, fun j hj => ?_⟩
    · rcases hx with hx | hx
      · obtain ⟨b, o, s⟩ := x; simp at hx; subst hx; rfl
      · omega
    · rcases hx with hx | hx
      · obtain ⟨b, o, s⟩ := x
        simp at hx
        subst hx
        have := hcell j (by omega)
        rw [Addr.add_lit] at this
        rw [this]
        have hj' : j < zs.length := by omega
        simp only [Nat.mul_one] at hj
        rw [List.getElem?_map, List.getElem?_take, if_pos hj, List.getElem?_eq_getElem hj']
        simp [List.getD, hj']
      · omega
theorem cells_opJ : Tryz.prog.cellsOf 42 = 8 := by kernel_rfl
theorem cells_rcJ : Tryz.prog.cellsOf 38 = 3 := by kernel_rfl
theorem rec_trodJ {cs : List Value} {held : Bool} {n : Nat} {y : DataW H × List MemPlace} (h : DataW.trod enc Tryz.prog W base (fun _ => true) held n 38 cs = some y) : ∃ r : Rc, cs = [.int .u32 r.k.toNat, .int .u32 r.a.toNat, .int .u32 r.b.toNat] := by
  obtain ⟨xs, n', _, _, hl, hlx, hf⟩ := DataW.trod_struct Tryz.underlying38 h
  rw [cells_rcJ] at hl
  match cs, hl with
  | [c0, c1, c2], _ =>
    match xs, hlx with
    | [y0, y1, y2], _ =>
      have h0 := hf 0 _ rfl
      have h1 := hf 1 _ rfl
      have h2 := hf 2 _ rfl
      obtain ⟨z0, e0, _, w0⟩ := DataW.trod_int (x := y0) (cs := [c0]) Tryz.underlying36 h0
      obtain ⟨z1, e1, _, w1⟩ := DataW.trod_int (x := y1) (cs := [c1]) Tryz.underlying36 h1
      obtain ⟨z2, e2, _, w2⟩ := DataW.trod_int (x := y2) (cs := [c2]) Tryz.underlying36 h2
      simp only [List.cons.injEq, and_true] at e0 e1 e2
      subst e0 e1 e2
      obtain ⟨m0, rfl⟩ := u32_of_wf w0
      obtain ⟨m1, rfl⟩ := u32_of_wf w1
      obtain ⟨m2, rfl⟩ := u32_of_wf w2
      exact ⟨⟨m0, m1, m2⟩, rfl⟩
/-- eight cells that read as what is done are so. -/
theorem opJ_trod {cs : List Value} {held : Bool} {n : Nat} {y : DataW H × List MemPlace} (h : DataW.trod enc Tryz.prog W base (fun _ => true) held n 42 cs = some y) : ∃ o : OpJ, cs = o.cells ∧ OpJk W o := by
  obtain ⟨xs, n', _, _, hl, hlx, hf⟩ := DataW.trod_struct Tryz.underlying42 h
  rw [cells_opJ] at hl
  match cs, hl with
  | [c0, c1, c2, c3, c4, c5, c6, c7], _ =>
    match xs, hlx with
    | [y0, y1, y2, y3, y4, y5], _ =>
      have h0 := hf 0 _ rfl
      have h1 := hf 1 _ rfl
      have h2 := hf 2 _ rfl
      have h3 := hf 3 _ rfl
      have h4 := hf 4 _ rfl
      have h5 := hf 5 _ rfl
      obtain ⟨z0, e0, _, w0⟩ := DataW.trod_int (x := y0) (cs := [c0]) Tryz.underlying3 h0
      obtain ⟨r, e1⟩ := rec_trodJ (y := y1) (cs := [c1, c2, c3]) h1
      obtain ⟨z2, e2, _, w2⟩ := DataW.trod_int (x := y2) (cs := [c4]) Tryz.underlying3 h2
      obtain ⟨v3, l3, e3, r3, w3⟩ := rdInts_trod (y := y3) (cs := [c5]) Tryz.underlying39 Tryz.underlying3 (by kernel_rfl) h3
      obtain ⟨v4, l4, e4, r4, w4⟩ := rdInts_trod (y := y4) (cs := [c6]) Tryz.underlying40 Tryz.underlying5 (by kernel_rfl) h4
      obtain ⟨z5, e5, _, w5⟩ := DataW.trod_int (x := y5) (cs := [c7]) Tryz.underlying5 h5
      simp only [List.cons.injEq, and_true] at e0 e1 e2 e3 e4 e5
      obtain ⟨e1a, e1b, e1c⟩ := e1
      subst e0 e1a e1b e1c e2 e3 e4 e5
      obtain ⟨m5, rfl⟩ := u8_of_wf w5
      have b4 : RdB W c6 (l4.map fun z => UInt8.ofNat z.toNat) := by
        unfold RdB
        rw [List.length_map, List.map_map]
        rw [show (l4.map (u8v ∘ fun z : Int => UInt8.ofNat z.toNat)) = l4.map (Value.int .u8) from List.map_congr_left fun z hz => by
          have := bounds_u8 (w4 z hz)
          show Value.int .u8 ((UInt8.ofNat z.toNat).toNat : Int) = Value.int .u8 z
          congr 1
          simp; omega]
        exact r4
      exact ⟨⟨z0, r, z2, c5, l3, c6, _, m5⟩, rfl, b4, r3, bounds_i64 w0, bounds_i64 w2, fun z hz => bounds_i64 (w3 z hz)⟩
/-- a []Op that came in. -/
theorem rdJ_open {v : Value} {d : DataW H} {p : List MemPlace} (hok : Value.okWide Tryz.prog W .any base 22 v) (h : DataW.Trod enc Tryz.prog W 0 (fun _ => true) true 22 v d p) : ∃ l, RdJ W v l := by
  obtain ⟨A, n, c, rfl⟩ := okWide_slice Tryz.underlying22 hok
  obtain ⟨fuel, hf⟩ := h
  rcases open_slice Tryz.underlying22 hf with ⟨hc, _⟩ | ⟨a, len, cap, m, k, D, Pl, hc, _, hl, hm, hmm, _, hi⟩
  · simp [Value.cells] at hc
    obtain ⟨rfl, rfl, rfl⟩ := hc
    exact ⟨[], Rd.nil _ _, fun _ h => by cases h⟩
  · simp [Value.cells] at hc
    obtain ⟨rfl, rfl, rfl⟩ := hc
    simp at hmm
    subst hmm
    have he : ∀ i, ∃ e : OpJ, i < m → (∀ j, j < 8 → W.cell? (a.add (i * 8 + j)) = e.cells[j]?) ∧ OpJk W e := fun i => by
      by_cases h : i < m
      · obtain ⟨cs', h1, h2⟩ := hi i h
        rw [cells_opJ] at h1
        obtain ⟨_, _, hat⟩ := World.cells?_some h1
        obtain ⟨e, rfl, hok2⟩ := opJ_trod h2
        refine ⟨e, fun _ => ⟨fun j hj => ?_, hok2⟩⟩
        rw [← Go.Deep.add_add, hat j hj]
      · exact ⟨⟨0, ⟨0, 0, 0⟩, 0, .slice none 0 0, [], .slice none 0 0, [], 0⟩, fun h' => absurd h' h⟩
    let f : Nat → OpJ := fun i => Classical.choose (he i)
    have hfs : ∀ i, i < m → (∀ j, j < 8 → W.cell? (a.add (i * 8 + j)) = (f i).cells[j]?) ∧ OpJk W (f i) := fun i hi' => Classical.choose_spec (he i) hi'
    have hlen : ((List.range n).map f).length = n := by simp
    refine ⟨(List.range n).map f, ?_, fun o ho => ?_⟩
    · have hx : a.spot = none ∨ m = 0 := by
        rcases Nat.eq_zero_or_pos m with h0 | h0
        · exact .inr h0
        · have := (hfs 0 h0).1 0 (by omega)
          left
          have hx0 : a.add (0 * 8 + 0) = a := by simp [Addr.add]
          rw [hx0] at this
          have hsome : (W.cell? a).isSome = true := by rw [this]; rfl
          unfold World.cell? at hsome
          split at hsome
          · split at hsome
            · cases hsome
            · rename_i hs; simpa using hs
          · cases hsome
      rw [hlen]
      have hol : (opJ ((List.range n).map f)).length = n * 8 := by
        have : ∀ l : List OpJ, (opJ l).length = l.length * 8 := fun l => by
          induction l with
          | nil => rfl
          | cons o l ih => unfold opJ at *; rw [List.flatMap_cons, List.length_append, ih, List.length_cons]; show 8 + _ = _; omega
        rw [this, hlen]
      refine ⟨hol, some a, m, a.block, a.off, rfl, hl, hm, fun e => (by cases e), fun h0 => ?_, fun j hj => ?_⟩
      · rcases hx with hx | hx
        · obtain ⟨b, o, s⟩ := a; simp at hx; subst hx; rfl
        · omega
      · rcases hx with hx | hx
        · obtain ⟨b, o, s⟩ := a
          simp at hx
          subst hx
          have hq : j / 8 < n := by omega
          have h1 := (hfs (j / 8) (by omega)).1 (j % 8) (by omega)
          have h2 := opJ_at ((List.range n).map f) (k := j / 8) (j := j % 8) (by rw [hlen]; exact hq) (by omega)
          have e : j / 8 * 8 + j % 8 = j := by omega
          rw [e] at h1 h2
          rw [Addr.add_lit] at h1
          rw [h1, h2]
          simp
        · omega
    · obtain ⟨i, hi', rfl⟩ := List.mem_map.1 ho
      exact (hfs i (by have := List.mem_range.1 hi'; omega)).2
end
end Go.Proofs.YtipankjajdpiiaaGreat

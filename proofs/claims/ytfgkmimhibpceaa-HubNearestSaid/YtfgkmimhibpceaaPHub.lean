/-
  Labels, edges and shelves, read out of a bare row's arguments.
-/
import Derived.Test.YtfgkmimhibpceaaHra
import Derived.ChangeSame
import Derived.ChangeVars
import Derived.JoinedOf
import Derived.RowKit
import Derived.RowKitTokens
import Derived.ProofKit
import Derived.OpenShut
import Derived.Deep.Slices
import Derived.Deep.Fields
import Derived.Lib.SmallJoins
namespace Go.Proofs.Ytfgkmimhibpceaa
open Go.ChangeShapes Go.WideShapes Go.RowKit Go.Deep Go.Joins
set_option maxRecDepth 100000

theorem Try.own : ownKnob Try.prog.godebug = none := by kernel_rfl
theorem Try.lout : laidOutB Try.prog = true := by kernel_rfl
theorem u32_of_wf {z : Int} (h : (Lit.int .u32 z).wf = true) : ∃ x : UInt32, z = (x.toNat : Int) := by
  have := bounds_u32 h
  exact ⟨UInt32.ofNat z.toNat, by simp; omega⟩
theorem u64_of_wf {z : Int} (h : (Lit.int .u64 z).wf = true) : ∃ x : UInt64, z = (x.toNat : Int) := by
  have := bounds_u64 h
  exact ⟨UInt64.ofNat z.toNat, by simp; omega⟩
section
variable {H : Type} {enc : TypeId × Value → H} {W : World} {base : Nat}
/-- a cell that reads as a slice of rows. -/
theorem rdG_trod {α : Type} {enc' : α → List Value} {k : Nat} (hk : ∀ x, (enc' x).length = k) (hk0 : 0 < k) (ok : α → Prop) (o0 : α) {ts te : TypeId} (hts : Try.prog.underlying ts = some (.slice te)) (hcl : Try.prog.cellsOf te = k)
    (htr : ∀ {cs : List Value} {held : Bool} {n : Nat} {y : DataW H × List MemPlace}, DataW.trod enc Try.prog W base (fun _ => true) held n te cs = some y → ∃ o : α, cs = enc' o ∧ ok o)
    {cs : List Value} {y : DataW H × List MemPlace} {fuel : Nat} {held : Bool} (hf : DataW.trod enc Try.prog W base (fun _ => true) held fuel ts cs = some y) : ∃ v l, cs = [v] ∧ RdG enc' k W v l ∧ ∀ o ∈ l, ok o := by
  rcases open_slice hts hf with ⟨hc, _⟩ | ⟨a, len, cap, m, q, D, Pl, hc, _, hl, hm, hmm, _, hi⟩
  · exact ⟨_, [], hc, RdG.nil _ _ _, fun _ h => by cases h⟩
  · simp at hmm
    subst hmm
    have he : ∀ i, ∃ e : α, i < m → (∀ j, j < k → W.cell? (a.add (i * k + j)) = (enc' e)[j]?) ∧ ok e := fun i => by
      by_cases h : i < m
      · obtain ⟨cs', h1, h2⟩ := hi i h
        rw [hcl] at h1
        obtain ⟨_, _, hat⟩ := World.cells?_some h1
        obtain ⟨e, rfl, hok2⟩ := htr h2
        refine ⟨e, fun _ => ⟨fun j hj => ?_, hok2⟩⟩
        rw [← Go.Deep.add_add, hat j hj]
      · exact ⟨o0, fun h' => absurd h' h⟩
    let f : Nat → α := fun i => Classical.choose (he i)
    have hfs : ∀ i, i < m → (∀ j, j < k → W.cell? (a.add (i * k + j)) = (enc' (f i))[j]?) ∧ ok (f i) := fun i hi' => Classical.choose_spec (he i) hi'
    have hlen : ((List.range len).map f).length = len := by simp
    refine ⟨_, (List.range len).map f, hc, ?_, fun o ho => ?_⟩
    · have hx : a.spot = none ∨ m = 0 := by
        rcases Nat.eq_zero_or_pos m with h0 | h0
        · exact .inr h0
        · have := (hfs 0 h0).1 0 hk0
          left
          have hx0 : a.add (0 * k + 0) = a := by simp [Addr.add]
          rw [hx0, List.getElem?_eq_getElem (by rw [hk]; exact hk0)] at this
          have hsome : (W.cell? a).isSome = true := by rw [this]; rfl
          unfold World.cell? at hsome
          split at hsome
          · split at hsome
            · cases hsome
            · rename_i hs; simpa using hs
          · cases hsome
      unfold RdG
      rw [hlen]
      refine ⟨by rw [flat_len hk, hlen], some a, m, a.block, a.off, rfl, hl, hm, fun e => (by cases e), fun h0 => ?_, fun j hj => ?_⟩
      · rcases hx with hx | hx
        · obtain ⟨b, o, s⟩ := a; simp at hx; subst hx; rfl
        · omega
      · have hq : j / k < len := (Nat.div_lt_iff_lt_mul hk0).2 hj
        have hr : j % k < k := Nat.mod_lt _ hk0
        rcases hx with hx | hx
        · obtain ⟨b, o, s⟩ := a
          simp at hx
          subst hx
          have h1 := (hfs (j / k) (by omega)).1 (j % k) hr
          have h2 := flat_at hk ((List.range len).map f) (i := j / k) (j := j % k) (by rw [hlen]; exact hq) hr
          have e : j / k * k + j % k = j := Nat.div_add_mod' j k
          rw [e] at h1 h2
          rw [Addr.add_lit] at h1
          rw [h1, h2]
          simp
        · exfalso
          generalize j / k = t at hq
          omega
    · obtain ⟨i, hi', rfl⟩ := List.mem_map.1 ho
      exact (hfs i (by have := List.mem_range.1 hi'; omega)).2
theorem rdG_open {α : Type} {enc' : α → List Value} {k : Nat} (hk : ∀ x, (enc' x).length = k) (hk0 : 0 < k) (ok : α → Prop) (o0 : α) {ts te : TypeId} (hts : Try.prog.underlying ts = some (.slice te)) (hcl : Try.prog.cellsOf te = k)
    (htr : ∀ {cs : List Value} {held : Bool} {n : Nat} {y : DataW H × List MemPlace}, DataW.trod enc Try.prog W 0 (fun _ => true) held n te cs = some y → ∃ o : α, cs = enc' o ∧ ok o)
    {v : Value} {d : DataW H} {p : List MemPlace} (hok : Value.okWide Try.prog W .any base ts v) (h : DataW.Trod enc Try.prog W 0 (fun _ => true) true ts v d p) : ∃ l, RdG enc' k W v l ∧ ∀ o ∈ l, ok o := by
  obtain ⟨A, n, c, rfl⟩ := okWide_slice hts hok
  obtain ⟨fuel, hf⟩ := h
  obtain ⟨v, l, hv, hr, hl⟩ := rdG_trod hk hk0 ok o0 hts hcl htr hf
  simp [Value.cells] at hv
  subst hv
  exact ⟨l, hr, hl⟩
theorem cells_lb : Try.prog.cellsOf 39 = 3 := by kernel_rfl
theorem cells_ed : Try.prog.cellsOf 49 = 4 := by kernel_rfl
theorem cells_ow : Try.prog.cellsOf 54 = 2 := by kernel_rfl
theorem lb_trod {cs : List Value} {held : Bool} {n : Nat} {y : DataW H × List MemPlace} (h : DataW.trod enc Try.prog W base (fun _ => true) held n 39 cs = some y) : ∃ o : Lb, cs = o.enc ∧ True := by
  obtain ⟨xs, n', _, _, hl, hlx, hf⟩ := DataW.trod_struct Try.underlying39 h
  rw [cells_lb] at hl
  match cs, hl with
  | [c0, c1, c2], _ =>
    match xs, hlx with
    | [y0, y1, y2], _ =>
      have h0 := hf 0 _ rfl
      have h1 := hf 1 _ rfl
      have h2 := hf 2 _ rfl
      obtain ⟨z0, e0, _, w0⟩ := DataW.trod_int (x := y0) (cs := [c0]) Try.underlying22 h0
      obtain ⟨z1, e1, _, w1⟩ := DataW.trod_int (x := y1) (cs := [c1]) Try.underlying22 h1
      obtain ⟨z2, e2, _, w2⟩ := DataW.trod_int (x := y2) (cs := [c2]) Try.underlying37 h2
      simp only [List.cons.injEq, and_true] at e0 e1 e2
      subst e0 e1 e2
      obtain ⟨a, rfl⟩ := u32_of_wf w0
      obtain ⟨b, rfl⟩ := u32_of_wf w1
      obtain ⟨c, rfl⟩ := u64_of_wf w2
      exact ⟨⟨a, b, c⟩, rfl, trivial⟩
theorem ed_trod {cs : List Value} {held : Bool} {n : Nat} {y : DataW H × List MemPlace} (h : DataW.trod enc Try.prog W base (fun _ => true) held n 49 cs = some y) : ∃ o : Ed, cs = o.enc ∧ True := by
  obtain ⟨xs, n', _, _, hl, hlx, hf⟩ := DataW.trod_struct Try.underlying49 h
  rw [cells_ed] at hl
  match cs, hl with
  | [c0, c1, c2, c3], _ =>
    match xs, hlx with
    | [y0, y1, y2, y3], _ =>
      have h0 := hf 0 _ rfl
      have h1 := hf 1 _ rfl
      have h2 := hf 2 _ rfl
      have h3 := hf 3 _ rfl
      obtain ⟨z0, e0, _, w0⟩ := DataW.trod_int (x := y0) (cs := [c0]) Try.underlying22 h0
      obtain ⟨z1, e1, _, w1⟩ := DataW.trod_int (x := y1) (cs := [c1]) Try.underlying22 h1
      obtain ⟨z2, e2, _, w2⟩ := DataW.trod_int (x := y2) (cs := [c2]) Try.underlying37 h2
      obtain ⟨z3, e3, _, w3⟩ := DataW.trod_int (x := y3) (cs := [c3]) Try.underlying22 h3
      simp only [List.cons.injEq, and_true] at e0 e1 e2 e3
      subst e0 e1 e2 e3
      obtain ⟨a, rfl⟩ := u32_of_wf w0
      obtain ⟨b, rfl⟩ := u32_of_wf w1
      obtain ⟨c, rfl⟩ := u64_of_wf w2
      obtain ⟨e, rfl⟩ := u32_of_wf w3
      exact ⟨⟨a, b, c, e⟩, rfl, trivial⟩
theorem ow_trod {cs : List Value} {held : Bool} {n : Nat} {y : DataW H × List MemPlace} (h : DataW.trod enc Try.prog W base (fun _ => true) held n 54 cs = some y) : ∃ o : Ow, cs = o.enc ∧ RdL W o.s o.l := by
  obtain ⟨xs, n', _, _, hl, hlx, hf⟩ := DataW.trod_struct Try.underlying54 h
  rw [cells_ow] at hl
  match cs, hl with
  | [c0, c1], _ =>
    match xs, hlx with
    | [y0, y1], _ =>
      have h0 := hf 0 _ rfl
      have h1 := hf 1 _ rfl
      obtain ⟨z0, e0, _, w0⟩ := DataW.trod_int (x := y0) (cs := [c0]) Try.underlying22 h0
      obtain ⟨v1, l1, e1, r1, _⟩ := rdG_trod lb3 (by omega) (fun _ => True) ⟨0, 0, 0⟩ Try.underlying31 cells_lb lb_trod (cs := [c1]) (y := y1) h1
      simp only [List.cons.injEq, and_true] at e0 e1
      subst e0 e1
      obtain ⟨a, rfl⟩ := u32_of_wf w0
      exact ⟨⟨a, _, l1⟩, rfl, r1⟩
theorem rd_u32 {t : TypeId} (ht : Try.prog.underlying t = some (.int .u32)) {v : Value} {spare : Nat → Bool} {held : Bool} {n : Nat} {y : DataW H × List MemPlace} (h : DataW.trod enc Try.prog W base spare held n t [v] = some y) : ∃ x : UInt32, v = .int .u32 x.toNat := by
  obtain ⟨z, hz, _, hw⟩ := DataW.trod_int ht h
  obtain ⟨x, rfl⟩ := u32_of_wf hw
  exact ⟨x, by simpa using hz⟩
theorem rdL_open {v : Value} {d : DataW H} {p : List MemPlace} (hok : Value.okWide Try.prog W .any base 31 v) (h : DataW.Trod enc Try.prog W 0 (fun _ => true) true 31 v d p) : ∃ l, RdL W v l := by
  obtain ⟨l, h, _⟩ := rdG_open lb3 (by omega) (fun _ => True) ⟨0, 0, 0⟩ Try.underlying31 cells_lb lb_trod hok h
  exact ⟨l, h⟩
theorem rdE_open {v : Value} {d : DataW H} {p : List MemPlace} (hok : Value.okWide Try.prog W .any base 23 v) (h : DataW.Trod enc Try.prog W 0 (fun _ => true) true 23 v d p) : ∃ l, RdE W v l := by
  obtain ⟨l, h, _⟩ := rdG_open ed4 (by omega) (fun _ => True) ⟨0, 0, 0, 0⟩ Try.underlying23 cells_ed ed_trod hok h
  exact ⟨l, h⟩
theorem rdS_open {v : Value} {d : DataW H} {p : List MemPlace} (hok : Value.okWide Try.prog W .any base 24 v) (h : DataW.Trod enc Try.prog W 0 (fun _ => true) true 24 v d p) : ∃ l, RdS W v l := by
  obtain ⟨l, h, h2⟩ := rdG_open ow2 (by omega) (fun o : Ow => RdL W o.s o.l) ⟨0, .slice none 0 0, []⟩ Try.underlying24 cells_ow ow_trod hok h
  exact ⟨l, h, h2⟩
end
end Go.Proofs.Ytfgkmimhibpceaa

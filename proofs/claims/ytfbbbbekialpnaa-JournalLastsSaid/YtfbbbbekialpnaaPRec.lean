/-
  Records of bare rows read out.
-/
import Derived.Test.YtfbbbbekialpnaaPOpen
import Derived.Test.YtfbbbbekialpnaaRec
namespace Go.Proofs.Ytfbbbbekialpnaa
open Go.ChangeShapes Go.WideShapes Go.RowKit Go.Deep Go.Joins
set_option maxRecDepth 100000

section
variable {H : Type} {enc : TypeId × Value → H} {W : World} {base : Nat}
theorem cells_rec : Try.prog.cellsOf 58 = 3 := by kernel_rfl
theorem rcL_at0 (l : List Rc) (k j : Nat) (hk : k < l.length) (hj : j < 3) : (rcL l)[k * 3 + j]? = (l[k].cells)[j]? := rcL_at l hk hj
/-- three cells that read as a record are one. -/
theorem rec_open {cs : List Value} {spare : Nat → Bool} {held : Bool} {n : Nat} {y : DataW H × List MemPlace} (h : DataW.trod enc Try.prog W base spare held n 58 cs = some y) : ∃ e : Rc, cs = e.cells.toList := by
  obtain ⟨xs, n', _, _, hl, hlx, hf⟩ := DataW.trod_struct Try.underlying58 h
  rw [cells_rec] at hl
  match cs, hl with
  | [c0, c1, c2], _ =>
    match xs, hlx with
    | [y0, y1, y2], _ =>
      have h0 := hf 0 _ rfl
      have h1 := hf 1 _ rfl
      have h2 := hf 2 _ rfl
      obtain ⟨x0, rfl⟩ := rd_u32 (y := y0) Try.underlying56 h0
      obtain ⟨x1, rfl⟩ := rd_u32 (y := y1) Try.underlying56 h1
      obtain ⟨x2, rfl⟩ := rd_u32 (y := y2) Try.underlying56 h2
      exact ⟨⟨x0, x1, x2⟩, rfl⟩
/-- a []api.Rec that came in reads as records. -/
theorem rdR_trod {cs : List Value} {fuel : Nat} {held : Bool} {y : DataW H × List MemPlace} {A : Option Addr} {n c : Nat} (hcs : cs = [.slice A n c]) (hf : DataW.trod enc Try.prog W base (fun _ => true) held fuel 49 cs = some y) : ∃ l, RdR W (.slice A n c) l := by
  rcases open_slice Try.underlying49 hf with ⟨hc, _⟩ | ⟨a, len, cap, m, k, D, Pl, hc, _, hl, hm, hmm, _, hi⟩
  · rw [hcs] at hc
    simp at hc
    obtain ⟨rfl, rfl, rfl⟩ := hc
    exact ⟨[], Rd.nil _ _⟩
  · rw [hcs] at hc
    simp at hc
    obtain ⟨rfl, rfl, rfl⟩ := hc
    simp at hmm
    subst hmm
    have he : ∀ i, ∃ e : Rc, i < m → ∀ j, j < 3 → W.cell? (a.add (i * 3 + j)) = e.cells[j]? := fun i => by
      by_cases h : i < m
      · obtain ⟨cs', h1, h2⟩ := hi i h
        rw [cells_rec] at h1
        obtain ⟨_, _, hat⟩ := World.cells?_some h1
        obtain ⟨e, rfl⟩ := rec_open h2
        refine ⟨e, fun _ j hj => ?_⟩
        rw [← Go.Deep.add_add, hat j hj]
        simp
      · exact ⟨⟨0, 0, 0⟩, fun h' => absurd h' h⟩
    let f : Nat → Rc := fun i => Classical.choose (he i)
    have hfs : ∀ i, i < m → ∀ j, j < 3 → W.cell? (a.add (i * 3 + j)) = (f i).cells[j]? := fun i hi' => Classical.choose_spec (he i) hi'
    have hlen : ((List.range n).map f).length = n := by simp
    refine ⟨(List.range n).map f, ?_⟩
    have hx : a.spot = none ∨ m = 0 := by
      rcases Nat.eq_zero_or_pos m with h0 | h0
      · exact .inr h0
      · have := hfs 0 h0 0 (by omega)
        left
        have hx0 : a.add (0 * 3 + 0) = a := by simp [Addr.add]
        rw [hx0] at this
        have hsome : (W.cell? a).isSome = true := by rw [this]; rfl
        unfold World.cell? at hsome
        split at hsome
        · split at hsome
          · cases hsome
          · rename_i hs; simpa using hs
        · cases hsome
    unfold RdR
    rw [hlen]
    refine ⟨by rw [rcL_len, hlen], some a, m, a.block, a.off, rfl, hl, hm, fun e => (by cases e), fun h0 => ?_, fun j hj => ?_⟩
    · rcases hx with hx | hx
      · obtain ⟨b, o, s⟩ := a; simp at hx; subst hx; rfl
      · omega
    · rcases hx with hx | hx
      · obtain ⟨b, o, s⟩ := a
        simp at hx
        subst hx
        have hq : j / 3 < n := by omega
        have h1 := hfs (j / 3) (by omega) (j % 3) (by omega)
        have h2 := rcL_at0 ((List.range n).map f) (j / 3) (j % 3) (by rw [hlen]; exact hq) (by omega)
        have e : j / 3 * 3 + j % 3 = j := by omega
        rw [e] at h1 h2
        rw [Addr.add_lit] at h1
        rw [h1, h2]
        simp
      · omega
theorem rdR_open {v : Value} {d : DataW H} {p : List MemPlace} (hok : Value.okWide Try.prog W .any base 49 v) (h : DataW.Trod enc Try.prog W 0 (fun _ => true) true 49 v d p) : ∃ l, RdR W v l := by
  obtain ⟨a0, len0, cap0, rfl⟩ := okWide_slice Try.underlying49 hok
  obtain ⟨fuel, hf⟩ := h
  exact rdR_trod (by simp [Value.cells]) hf
end
end Go.Proofs.Ytfbbbbekialpnaa

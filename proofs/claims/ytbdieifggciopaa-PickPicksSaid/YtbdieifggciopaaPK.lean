/-
  Candidates and numbers, read out of a bare row's arguments.
-/
import Derived.Test.YtbdieifggciopaaKx
import Derived.ChangeSame
import Derived.ChangeVars
import Derived.JoinedOf
import Derived.RowKit
import Derived.RowKitTokens
import Derived.ProofKit
import Derived.OpenShut
import Derived.Deep.Slices
import Derived.Deep.Fields
import Derived.Lib.SmallJoins
namespace Go.Proofs.Ytbdieifggciopaa
open Go.ChangeShapes Go.WideShapes Go.RowKit Go.Deep Go.Joins
set_option maxRecDepth 100000

theorem Try.own : ownKnob Try.prog.godebug = none := by kernel_rfl
theorem Try.lout : laidOutB Try.prog = true := by kernel_rfl
theorem u32_of_wf {z : Int} (h : (Lit.int .u32 z).wf = true) : ∃ x : UInt32, z = (x.toNat : Int) := by
  have := bounds_u32 h
  exact ⟨UInt32.ofNat z.toNat, by simp; omega⟩
theorem u64_of_wf {z : Int} (h : (Lit.int .u64 z).wf = true) : ∃ x : UInt64, z = (x.toNat : Int) := by
  have := bounds_u64 h
  exact ⟨UInt64.ofNat z.toNat, by simp; omega⟩
section
variable {H : Type} {enc : TypeId × Value → H} {W : World} {base : Nat}
/-- a cell that reads as a slice of rows. -/
theorem rdG_trod {α : Type} {enc' : α → List Value} {k : Nat} (hk : ∀ x, (enc' x).length = k) (hk0 : 0 < k) (ok : α → Prop) (o0 : α) {ts te : TypeId} (hts : Try.prog.underlying ts = some (.slice te)) (hcl : Try.prog.cellsOf te = k)
    (htr : ∀ {cs : List Value} {held : Bool} {n : Nat} {y : DataW H × List MemPlace}, DataW.trod enc Try.prog W base (fun _ => true) held n te cs = some y → ∃ o : α, cs = enc' o ∧ ok o)
    {cs : List Value} {y : DataW H × List MemPlace} {fuel : Nat} {held : Bool} (hf : DataW.trod enc Try.prog W base (fun _ => true) held fuel ts cs = some y) : ∃ v l, cs = [v] ∧ RdG enc' k W v l ∧ ∀ o ∈ l, ok o := by
  rcases open_slice hts hf with ⟨hc, _⟩ | ⟨a, len, cap, m, q, D, Pl, hc, _, hl, hm, hmm, _, hi⟩
  · exact ⟨_, [], hc, RdG.nil _ _ _, fun _ h => by cases h⟩
  · simp at hmm
    subst hmm
    have he : ∀ i, ∃ e : α, i < m → (∀ j, j < k → W.cell? (a.add (i * k + j)) = (enc' e)[j]?) ∧ ok e := fun i => by
      by_cases h : i < m
      · obtain ⟨cs', h1, h2⟩ := hi i h
        rw [hcl] at h1
        obtain ⟨_, _, hat⟩ := World.cells?_some h1
        obtain ⟨e, rfl, hok2⟩ := htr h2
        refine ⟨e, fun _ => ⟨fun j hj => ?_, hok2⟩⟩
        rw [← Go.Deep.add_add, hat j hj]
      · exact ⟨o0, fun h' => absurd h' h⟩
    let f : Nat → α := fun i => Classical.choose (he i)
    have hfs : ∀ i, i < m → (∀ j, j < k → W.cell? (a.add (i * k + j)) = (enc' (f i))[j]?) ∧ ok (f i) := fun i hi' => Classical.choose_spec (he i) hi'
    have hlen : ((List.range len).map f).length = len := by simp
    refine ⟨_, (List.range len).map f, hc, ?_, fun o ho => ?_⟩
    · have hx : a.spot = none ∨ m = 0 := by
        rcases Nat.eq_zero_or_pos m with h0 | h0
        · exact .inr h0
        · have := (hfs 0 h0).1 0 hk0
          left
          have hx0 : a.add (0 * k + 0) = a := by simp [Addr.add]
          rw [hx0, List.getElem?_eq_getElem (by rw [hk]; exact hk0)] at this
          have hsome : (W.cell? a).isSome = true := by rw [this]; rfl
          unfold World.cell? at hsome
          split at hsome
          · split at hsome
            · cases hsome
            · rename_i hs; simpa using hs
          · cases hsome
      unfold RdG
      rw [hlen]
      refine ⟨by rw [flat_len hk, hlen], some a, m, a.block, a.off, rfl, hl, hm, fun e => (by cases e), fun h0 => ?_, fun j hj => ?_⟩
      · rcases hx with hx | hx
        · obtain ⟨b, o, s⟩ := a; simp at hx; subst hx; rfl
        · omega
      · have hq : j / k < len := (Nat.div_lt_iff_lt_mul hk0).2 hj
        have hr : j % k < k := Nat.mod_lt _ hk0
        rcases hx with hx | hx
        · obtain ⟨b, o, s⟩ := a
          simp at hx
          subst hx
          have h1 := (hfs (j / k) (by omega)).1 (j % k) hr
          have h2 := flat_at hk ((List.range len).map f) (i := j / k) (j := j % k) (by rw [hlen]; exact hq) hr
          have e : j / k * k + j % k = j := Nat.div_add_mod' j k
          rw [e] at h1 h2
          rw [Addr.add_lit] at h1
          rw [h1, h2]
          simp
        · exfalso
          generalize j / k = t at hq
          omega
    · obtain ⟨i, hi', rfl⟩ := List.mem_map.1 ho
      exact (hfs i (by have := List.mem_range.1 hi'; omega)).2
theorem rdG_open {α : Type} {enc' : α → List Value} {k : Nat} (hk : ∀ x, (enc' x).length = k) (hk0 : 0 < k) (ok : α → Prop) (o0 : α) {ts te : TypeId} (hts : Try.prog.underlying ts = some (.slice te)) (hcl : Try.prog.cellsOf te = k)
    (htr : ∀ {cs : List Value} {held : Bool} {n : Nat} {y : DataW H × List MemPlace}, DataW.trod enc Try.prog W 0 (fun _ => true) held n te cs = some y → ∃ o : α, cs = enc' o ∧ ok o)
    {v : Value} {d : DataW H} {p : List MemPlace} (hok : Value.okWide Try.prog W .any base ts v) (h : DataW.Trod enc Try.prog W 0 (fun _ => true) true ts v d p) : ∃ l, RdG enc' k W v l ∧ ∀ o ∈ l, ok o := by
  obtain ⟨A, n, c, rfl⟩ := okWide_slice hts hok
  obtain ⟨fuel, hf⟩ := h
  obtain ⟨v, l, hv, hr, hl⟩ := rdG_trod hk hk0 ok o0 hts hcl htr hf
  simp [Value.cells] at hv
  subst hv
  exact ⟨l, hr, hl⟩
theorem cells_u32 : Try.prog.cellsOf 30 = 1 := by kernel_rfl
theorem cells_u64 : Try.prog.cellsOf 31 = 1 := by kernel_rfl
theorem cells_cd : Try.prog.cellsOf 33 = 3 := by kernel_rfl
theorem u32_trod {cs : List Value} {held : Bool} {n : Nat} {y : DataW H × List MemPlace} (h : DataW.trod enc Try.prog W base (fun _ => true) held n 30 cs = some y) : ∃ o : UInt32, cs = [.int .u32 o.toNat] ∧ True := by
  obtain ⟨z, e, _, w⟩ := DataW.trod_int Try.underlying30 h
  obtain ⟨a, rfl⟩ := u32_of_wf w
  exact ⟨a, e, trivial⟩
theorem u64_trod {cs : List Value} {held : Bool} {n : Nat} {y : DataW H × List MemPlace} (h : DataW.trod enc Try.prog W base (fun _ => true) held n 31 cs = some y) : ∃ o : UInt64, cs = [.int .u64 o.toNat] ∧ True := by
  obtain ⟨z, e, _, w⟩ := DataW.trod_int Try.underlying31 h
  obtain ⟨a, rfl⟩ := u64_of_wf w
  exact ⟨a, e, trivial⟩
theorem encL_flat (l : List UInt32) : encL l = l.flatMap fun x => [.int .u32 x.toNat] := by
  induction l with
  | nil => rfl
  | cons a r ih => rw [List.flatMap_cons, ← ih]; rfl
theorem cd_trod {cs : List Value} {held : Bool} {n : Nat} {y : DataW H × List MemPlace} (h : DataW.trod enc Try.prog W base (fun _ => true) held n 33 cs = some y) : ∃ o : Cd, cs = o.enc ∧ RdU W o.s o.d.near := by
  obtain ⟨xs, n', _, _, hl, hlx, hf⟩ := DataW.trod_struct Try.underlying33 h
  rw [cells_cd] at hl
  match cs, hl with
  | [c0, c1, c2], _ =>
    match xs, hlx with
    | [y0, y1, y2], _ =>
      have h0 := hf 0 _ rfl
      have h1 := hf 1 _ rfl
      have h2 := hf 2 _ rfl
      obtain ⟨z0, e0, _, w0⟩ := DataW.trod_int (x := y0) (cs := [c0]) Try.underlying30 h0
      obtain ⟨z1, e1, _, w1⟩ := DataW.trod_int (x := y1) (cs := [c1]) Try.underlying31 h1
      obtain ⟨v2, l2, e2, r2, _⟩ := rdG_trod (k := 1) (enc' := fun x : UInt32 => [.int .u32 x.toNat]) (fun _ => rfl) (by omega) (fun _ => True) 0 Try.underlying26 cells_u32 u32_trod (cs := [c2]) (y := y2) h2
      simp only [List.cons.injEq, and_true] at e0 e1 e2
      subst e0 e1 e2
      obtain ⟨a, rfl⟩ := u32_of_wf w0
      obtain ⟨b, rfl⟩ := u64_of_wf w1
      refine ⟨⟨⟨a, b, l2⟩, _⟩, rfl, ?_⟩
      show Rd _ _ _ _ _
      rw [encL_flat]
      exact r2
theorem rd_u32 {t : TypeId} (ht : Try.prog.underlying t = some (.int .u32)) {v : Value} {spare : Nat → Bool} {held : Bool} {n : Nat} {y : DataW H × List MemPlace} (h : DataW.trod enc Try.prog W base spare held n t [v] = some y) : ∃ x : UInt32, v = .int .u32 x.toNat := by
  obtain ⟨z, hz, _, hw⟩ := DataW.trod_int ht h
  obtain ⟨x, rfl⟩ := u32_of_wf hw
  exact ⟨x, by simpa using hz⟩
theorem rdC_open {v : Value} {d : DataW H} {p : List MemPlace} (hok : Value.okWide Try.prog W .any base 22 v) (h : DataW.Trod enc Try.prog W 0 (fun _ => true) true 22 v d p) : ∃ l, RdC W v l := by
  obtain ⟨l, h, h2⟩ := rdG_open cd3 (by omega) (fun o : Cd => RdU W o.s o.d.near) ⟨⟨0, 0, []⟩, .slice none 0 0⟩ Try.underlying22 cells_cd cd_trod hok h
  exact ⟨l, h, h2⟩
theorem rdK_open {v : Value} {d : DataW H} {p : List MemPlace} (hok : Value.okWide Try.prog W .any base 36 v) (h : DataW.Trod enc Try.prog W 0 (fun _ => true) true 36 v d p) : ∃ l, RdK W v l := by
  obtain ⟨l, h, _⟩ := rdG_open (k := 1) (enc' := fun x : UInt64 => [.int .u64 x.toNat]) (fun _ => rfl) (by omega) (fun _ => True) 0 Try.underlying36 cells_u64 u64_trod hok h
  exact ⟨l, h⟩
end
end Go.Proofs.Ytbdieifggciopaa

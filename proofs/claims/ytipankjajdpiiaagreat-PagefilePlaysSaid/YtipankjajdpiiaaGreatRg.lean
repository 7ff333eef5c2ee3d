/-
  Memory words that all proofs of this seat share: a slice that reads as a list of cells, worlds that grow, append and cuts.
-/
import Derived.Test.YtipankjajdpiiaaGreatRows
import Derived.WalkKit
import Derived.WalkSpells
import Derived.WalkLawsBesides
import Derived.Maps.AppendAt
import Derived.Deep.AppendLies
import Derived.BigQuiet
import Derived.Deep.QuietTactic
import Derived.Lib.Hide
import Derived.Deep.DeepFit
namespace Go.Proofs.YtipankjajdpiiaaGreat
open Go.RowKit

theorem results_four {fn : Func} {t u v x : Tmp} (h : fn.results = #[.tmp t, .tmp u, .tmp v, .tmp x]) (tmps : Array Value) (P : Program) (w : World) :
    (results fn tmps).run P w = .ok (.tuple #[tmps.getD t undef, tmps.getD u undef, tmps.getD v undef, tmps.getD x undef]) w := by simp [results, h]

/-- where a cut begins. -/
def cutA (a : Option Addr) (c l s : Nat) : Option Addr := if c = l then a else a.map (·.add (l * s))
@[go_sem 2000] theorem cut_lh {P : Program} (w : World) (t : TypeId) (a : Option Addr) (len cap : Nat) (ht : P.underlying t = some (.slice (P.elem t))) (kl kh : IntKind) (l h : Int) (h0 : 0 ≤ l) (h1 : l ≤ h) (h2 : h ≤ cap) :
    (Instr.slice t (.slice a len cap) (some (.int kl l)) (some (.int kh h)) none).run P w = ((sizeOf (P.elem t)).run P w).andThen fun s w => .ok (.slice (cutA a cap l.toNat s) (h.toNat - l.toNat) (cap - l.toNat)) w :=
  run_slice_lh w t a len cap ht kl kh l h h0 h1 h2
@[go_sem 2000] theorem cut_h {P : Program} (w : World) (t : TypeId) (a : Option Addr) (len cap : Nat) (ht : P.underlying t = some (.slice (P.elem t))) (kh : IntKind) (h : Int) (h0 : 0 ≤ h) (h2 : h ≤ cap) :
    (Instr.slice t (.slice a len cap) none (some (.int kh h)) none).run P w = ((sizeOf (P.elem t)).run P w).andThen fun _ w => .ok (.slice a h.toNat cap) w := by
  have e : ∀ s, cutA a cap 0 s = a := fun s => by unfold cutA; cases a <;> simp [Addr.add]
  rw [run_slice_h w t a len cap ht kh h h0 h2]
  congr 1
  funext s w
  show Result.ok (Value.slice (cutA a cap 0 s) (h.toNat - 0) (cap - 0)) w = _
  rw [e]; rfl
@[go_sem 2000] theorem cut_l {P : Program} (w : World) (t : TypeId) (a : Option Addr) (len cap : Nat) (ht : P.underlying t = some (.slice (P.elem t))) (kl : IntKind) (l : Int) (h0 : 0 ≤ l) (h1 : l ≤ len) :
    (Instr.slice t (.slice a len cap) (some (.int kl l)) none none).run P w = ((sizeOf (P.elem t)).run P w).andThen fun s w => .ok (.slice (cutA a cap l.toNat s) (len - l.toNat) (cap - l.toNat)) w :=
  run_slice_l w t a len cap ht kl l h0 h1

@[go_sem 500] theorem cut_some {P : Program} (w : World) (t : TypeId) (a : Option Addr) (len cap : Nat) (ht : P.underlying t = some (.slice (P.elem t))) (lo : Value) (hi mx : Option Value) :
    (Instr.slice t (.slice a len cap) (some lo) hi mx).run P w =
      ((Instr.sliceBounds true len cap (some lo) hi mx).run P w).andThen fun b w => ((sizeOf (P.elem t)).run P w).andThen fun s w => .ok (.slice (cutA a b.2.2 b.1 s) (b.2.1 - b.1) (b.2.2 - b.1)) w :=
  run_slice_any w t a len cap ht (some lo) hi mx

/-! worlds -/
theorem gr_refl (w : World) (r : Option Nat) : w.grownBy w r := ⟨rfl, rfl, rfl, Nat.le_refl _, fun _ _ _ => rfl⟩
theorem gr_trans {a b c : World} {r r' : Option Nat} (h : a.grownBy b r) (k : b.grownBy c r') (hr : r' = r ∨ ∀ g, r' = some g → a.heap.size ≤ g) : a.grownBy c r := by
  refine ⟨k.os.trans h.os, k.tape.trans h.tape, k.output.trans h.output, Nat.le_trans h.size k.size, fun i hi hne => ?_⟩
  have hs := h.size
  rw [k.block i (by omega) ?_, h.block i hi hne]
  rcases hr with rfl | hr
  · exact hne
  · intro e; have := hr i e.symm; omega
theorem gr_none {a b c : World} {r : Option Nat} (h : a.grownBy b r) (k : b.grownBy c none) : a.grownBy c r := gr_trans h k (.inr (fun _ e => by cases e))
theorem gr_of_none {a b : World} {r : Option Nat} (h : a.grownBy b none) : a.grownBy b r := ⟨h.os, h.tape, h.output, h.size, fun i hi _ => h.block i hi (by simp)⟩
theorem gr_drew (w : World) (r : Option Nat) : w.grownBy w.drew r := ⟨rfl, rfl, rfl, Nat.le_refl _, fun _ _ _ => rfl⟩
theorem gr_drewN (w : World) (n : Nat) (r : Option Nat) : w.grownBy (w.drewN n) r := ⟨rfl, rfl, rfl, Nat.le_refl _, fun _ _ _ => rfl⟩
theorem gr_alloc (w : World) (o : Obj) (r : Option Nat) : w.grownBy (w.alloc o) r := World.grownBy_alloc w o r
theorem gr_setCell (w : World) (p : Addr) (u : Value) : w.grownBy (w.setCell p u) (some p.block) :=
  ⟨rfl, rfl, rfl, by simp [World.setCell], fun k _ hne => Below.heap_setCell w p u k (fun e => hne (by rw [e]))⟩
/-- a store into a block that is newer than the world a. -/
theorem gr_set_new {a b : World} {r : Option Nat} (h : a.grownBy b r) (p : Addr) (u : Value) (hp : a.heap.size ≤ p.block) : a.grownBy (b.setCell p u) r :=
  gr_trans h (gr_setCell b p u) (.inr (fun g e => by cases e; exact hp))
theorem gr_below {a b : World} {r : Option Nat} (h : a.grownBy b r) {B : Nat} (hB : B ≤ a.heap.size) (hr : ∀ g, r = some g → B ≤ g) : Below B a b :=
  ⟨h.os, h.tape, h.output, h.size, fun k hk => h.block k (by omega) (fun e => by have := hr k e.symm; omega)⟩
theorem gr_below0 {a b : World} (h : a.grownBy b none) : Below a.heap.size a b := gr_below h (Nat.le_refl _) (fun _ e => by cases e)
theorem gr_of_below {a b : World} (h : Below a.heap.size a b) : a.grownBy b none := ⟨h.os, h.tape, h.output, h.size, fun k hk _ => h.block k hk⟩

theorem below_cell {B : Nat} {w w' : World} (h : Below B w w') {b o : Nat} {v : Value} (hb : b < B) (hc : w.cell? ⟨b, o, none⟩ = some v) : w'.cell? ⟨b, o, none⟩ = some v := (h.cell (p := ⟨b, o, none⟩) hb).trans hc
/-- from a world with new blocks beside a base. -/
theorem gr_from {a w w' : World} {B : Nat} (h : Below B w w') (ha : a.grownBy w none) (hB : a.heap.size ≤ B) : a.grownBy w' none :=
  gr_of_below ((gr_below0 ha).trans (h.mono hB))

/-! a slice that reads as cells -/
def Rd (w : World) (s : Nat) (v : Value) (n : Nat) (xs : List Value) : Prop :=
  xs.length = n * s ∧ ∃ A c g off, v = .slice A n c ∧ n ≤ c ∧ c ≤ maxLen ∧ (A = none → c = 0) ∧ (0 < c → A = some ⟨g, off, none⟩) ∧ ∀ j, j < n * s → w.cell? ⟨g, off + j, none⟩ = xs[j]?

/-- a slice of the call's own: nobody else holds its cells, the spare ones too; they may be written. -/
def Own (w : World) (B s : Nat) (v : Value) (n : Nat) (xs : List Value) : Prop :=
  xs.length = n * s ∧ ∃ A c g off, v = .slice A n c ∧ n ≤ c ∧ c ≤ maxLen ∧ (A = none → c = 0) ∧ (0 < c → A = some ⟨g, off, none⟩) ∧ (∀ a, A = some a → B ≤ a.block) ∧
    (∀ j, j < n * s → w.cell? ⟨g, off + j, none⟩ = xs[j]?) ∧ ∀ j, j < c * s → (w.cell? ⟨g, off + j, none⟩).isSome = true ∧ w.frozen? ⟨g, off + j, none⟩ = false

section
variable {w w' : World} {s n B : Nat} {v : Value} {xs : List Value}
theorem cell_kept {r : Option Nat} (hg : w.grownBy w' r) {a : Addr} (h : (w.cell? a).isSome = true) (hr : r ≠ some a.block) : w'.cell? a = w.cell? a := by
  obtain ⟨u, hu⟩ := Option.isSome_iff_exists.1 h
  exact World.cell?_of_block (hg.block _ (World.block_lt_of_cell? w _ hu) (fun e => hr e.symm))
theorem frozen_kept {r : Option Nat} (hg : w.grownBy w' r) {a : Addr} (h : (w.cell? a).isSome = true) (hr : r ≠ some a.block) : w'.frozen? a = w.frozen? a := by
  obtain ⟨u, hu⟩ := Option.isSome_iff_exists.1 h
  exact World.frozen?_of_block (hg.block _ (World.block_lt_of_cell? w _ hu) (fun e => hr e.symm))
theorem pos_of_lt {n s j : Nat} (h : j < n * s) : 0 < n := by
  rcases Nat.eq_zero_or_pos n with e | e
  · subst e; omega
  · exact e
theorem Rd.gr (h : Rd w s v n xs) {r : Option Nat} (hg : w.grownBy w' r) (hr : ∀ k, r = some k → v.ownBlock ≠ some k) : Rd w' s v n xs := by
  obtain ⟨hl, A, c, g, off, rfl, hn, hc, hA0, hA, hx⟩ := h
  refine ⟨hl, A, c, g, off, rfl, hn, hc, hA0, hA, fun j hj => ?_⟩
  have hn0 := pos_of_lt hj
  have hcell := hx j hj
  rw [cell_kept hg (by rw [hcell, List.getElem?_eq_getElem (by omega)]; rfl), hcell]
  intro e
  exact hr _ e (by rw [hA (by omega)]; rfl)
theorem Rd.ext (h : Rd w s v n xs) (hg : w.grownBy w' none) : Rd w' s v n xs := h.gr hg (fun _ e => by cases e)
theorem Rd.alloc (h : Rd w s v n xs) (o : Obj) : Rd (w.alloc o) s v n xs := h.ext (gr_alloc w o none)
theorem Rd.len (h : Rd w s v n xs) : xs.length = n * s := h.1
theorem Rd.nil (w : World) (s : Nat) : Rd w s (.slice none 0 0) 0 [] := ⟨by simp, none, 0, 0, 0, rfl, Nat.le_refl _, Nat.zero_le _, fun _ => rfl, fun h => absurd h (by omega), fun j hj => by omega⟩
theorem Own.rd (h : Own w B s v n xs) : Rd w s v n xs := by
  obtain ⟨hl, A, c, g, off, rfl, hn, hc, hA0, hA, _, hx, _⟩ := h
  exact ⟨hl, A, c, g, off, rfl, hn, hc, hA0, hA, hx⟩
theorem Own.len (h : Own w B s v n xs) : xs.length = n * s := h.1
theorem Own.nil (w : World) (B s : Nat) : Own w B s (.slice none 0 0) 0 [] :=
  ⟨by simp, none, 0, 0, 0, rfl, Nat.le_refl _, Nat.zero_le _, fun _ => rfl, fun h => absurd h (by omega), fun _ e => (by cases e), fun j hj => by omega, fun j hj => by omega⟩
theorem Own.gr (h : Own w B s v n xs) {r : Option Nat} (hg : w.grownBy w' r) (hr : ∀ k, r = some k → v.ownBlock ≠ some k) : Own w' B s v n xs := by
  obtain ⟨hl, A, c, g, off, rfl, hn, hc, hA0, hA, hB, hx, hf⟩ := h
  have hne : 0 < c → r ≠ some g := fun h0 e => hr _ e (by rw [hA h0]; rfl)
  refine ⟨hl, A, c, g, off, rfl, hn, hc, hA0, hA, hB, fun j hj => ?_, fun j hj => ?_⟩
  · have h0 := pos_of_lt hj
    have := hf j (Nat.lt_of_lt_of_le hj (Nat.mul_le_mul_right s hn))
    rw [cell_kept hg this.1 (hne (by omega)), hx j hj]
  · have h0 := pos_of_lt hj
    have := hf j hj
    rw [cell_kept hg this.1 (hne h0), frozen_kept hg this.1 (hne h0)]
    exact this
theorem Own.ext (h : Own w B s v n xs) (hg : w.grownBy w' none) : Own w' B s v n xs := h.gr hg (fun _ e => by cases e)
theorem Own.alloc (h : Own w B s v n xs) (o : Obj) : Own (w.alloc o) B s v n xs := h.ext (gr_alloc w o none)
theorem Own.drew (h : Own w B s v n xs) : Own w.drew B s v n xs := h
theorem Own.mono {B' : Nat} (h : Own w B s v n xs) (hB : B' ≤ B) : Own w B' s v n xs := by
  obtain ⟨hl, A, c, g, off, rfl, hn, hc, hA0, hA, hb, hx, hf⟩ := h
  exact ⟨hl, A, c, g, off, rfl, hn, hc, hA0, hA, fun a e => Nat.le_trans hB (hb a e), hx, hf⟩
theorem Own.lt (h : Own w B s v n xs) : ∀ k, v.ownBlock = some k → B ≤ k := by
  obtain ⟨_, A, c, g, off, rfl, _, _, _, _, hb, _⟩ := h
  intro k hk
  cases A with
  | none => cases hk
  | some a => cases hk; exact hb a rfl
theorem Own.of_row {e : TypeId} (h : w.ownsRow B e s v n xs) : Own w B s v n xs := by
  refine ⟨h.1, ?_⟩
  rcases h.2 with ⟨rfl, rfl⟩ | ⟨g, cap, cur, rfl, hB, hg, hn, hm, hs, ht⟩
  · obtain rfl : xs = [] := List.eq_nil_of_length_eq_zero (by simpa using h.1)
    exact (Own.nil w B s).2
  · refine ⟨_, cap, g, 0, rfl, hn, hm, fun e => (by cases e), fun _ => rfl, fun a e => by cases e; exact hB, fun j hj => ?_, fun j hj => ?_⟩
    · rw [Nat.zero_add, cell_of_row w g j cur e (0, 0) hg, ← ht, List.getElem?_take, if_pos hj]
      simp
    · rw [Nat.zero_add, cell_of_row w g j cur e (0, 0) hg]
      exact ⟨by simp; omega, by simp [World.frozen?, hg]⟩
/-- an owned slice, its first k elements. -/
theorem Own.take {A : Option Addr} {c : Nat} (h : Own w B 1 (.slice A n c) n xs) {k : Nat} (hk : k ≤ n) : Own w B 1 (.slice A k c) k (xs.take k) := by
  obtain ⟨hl, A', c', g, off, e, hn, hc, hA0, hA, hb, hx, hf⟩ := h
  cases e
  refine ⟨by simp; omega, _, _, g, off, rfl, by omega, hc, hA0, hA, hb, fun j hj => ?_, hf⟩
  rw [hx j (by omega), List.getElem?_take, if_pos (by omega)]
/-- a store into an owned slice. -/
theorem Own.set {A : Option Addr} {c g off : Nat} (hv : A = some ⟨g, off, none⟩) (h : Own w B s (.slice A n c) n xs) {j : Nat} (hj : j < n * s) (u : Value) :
    Own (w.setCell ⟨g, off + j, none⟩ u) B s (.slice A n c) n (xs.set j u) := by
  obtain ⟨hl, A', c', g', off', e, hn, hc, hA0, hA, hb, hx, hf⟩ := h
  cases e
  have h0 := pos_of_lt hj
  have := hA (by omega)
  subst hv
  cases this
  refine ⟨by simpa using hl, _, _, g, off, rfl, hn, hc, hA0, hA, hb, fun i hi => ?_, fun i hi => ?_⟩
  · by_cases e : i = j
    · subst e
      rw [World.cell?_setCell_same' _ _ _ (hf i (Nat.lt_of_lt_of_le hi (Nat.mul_le_mul_right s hn))).1]
      simp [hl, hi]
    · rw [World.cell?_setCell_other _ _ _ _ (by simp), hx i hi, List.getElem?_set_ne (by omega)]
  · by_cases e : i = j
    · subst e
      rw [World.cell?_setCell_same' _ _ _ (hf i hi).1]
      exact ⟨rfl, by rw [World.frozen?_setCell]; exact (hf i hi).2⟩
    · rw [World.cell?_setCell_other _ _ _ _ (by simp)]
      exact ⟨(hf i hi).1, by rw [World.frozen?_setCell]; exact (hf i hi).2⟩
end

/-! a block that is known whole -/
def Blk (w : World) (g : Nat) (t : TypeId) (cs : Array Value) : Prop := w.heap[g]? = some (.cells cs t (0, 0))
section
variable {w w' : World} {g : Nat} {t : TypeId} {cs : Array Value}
theorem Blk.lt (h : Blk w g t cs) : g < w.heap.size := (Array.getElem?_eq_some_iff.1 h).1
theorem Blk.cell (h : Blk w g t cs) (i : Nat) : w.cell? ⟨g, i, none⟩ = cs[i]? := cell_of_row w g i cs t (0, 0) h
theorem Blk.frozen (h : Blk w g t cs) (i : Nat) : w.frozen? ⟨g, i, none⟩ = false := by
  unfold Blk at h
  simp [World.frozen?, h]
theorem Blk.new (w : World) (t : TypeId) (cs : Array Value) : Blk (w.alloc (.cells cs t)) w.heap.size t cs := heap_alloc_new w _
theorem Blk.gr (h : Blk w g t cs) {r : Option Nat} (hg : w.grownBy w' r) (hr : r ≠ some g) : Blk w' g t cs := (hg.block g h.lt (fun e => hr e.symm)).trans h
theorem Blk.ext (h : Blk w g t cs) (hg : w.grownBy w' none) : Blk w' g t cs := h.gr hg (by simp)
theorem Blk.set (h : Blk w g t cs) (i : Nat) (u : Value) : Blk (w.setCell ⟨g, i, none⟩ u) g t (cs.setIfInBounds i u) := by
  unfold Blk at h ⊢
  simp [World.setCell, Array.getElem?_modify, h]
theorem Blk.far (h : Blk w g t cs) {p : Addr} (hp : g ≠ p.block) (u : Value) : Blk (w.setCell p u) g t cs := (Below.heap_setCell w p u g hp).trans h
end

/-- the cut v[i:j] as the model spells it. -/
theorem Rd.cut {w : World} {A : Option Addr} {n c s : Nat} {xs : List Value} (h : Rd w s (.slice A n c) n xs) {i j : Nat} (hij : i ≤ j) (hj : j ≤ n) :
    Rd w s (.slice (cutA A c i s) (j - i) (c - i)) (j - i) ((xs.take (j * s)).drop (i * s)) := by
  obtain ⟨hl, A', c', g, off, e, hn, hc, hA0, hA, hx⟩ := h
  cases e
  have hjs : j * s ≤ n * s := Nat.mul_le_mul_right s hj
  refine ⟨by simp [hl, Nat.min_eq_left hjs, Nat.sub_mul], _, _, g, off + i * s, rfl, by omega, by omega, ?_, ?_, fun k hk => ?_⟩
  · intro e
    unfold cutA at e
    by_cases hci : c = i
    · omega
    · rw [if_neg hci] at e
      have := hA0 (by simpa using e)
      omega
  · intro hpos
    unfold cutA
    rw [if_neg (by omega), hA (by omega)]
    simp [Addr.add_lit]
  · rw [Nat.sub_mul] at hk
    have := hx (i * s + k) (by omega)
    rw [Nat.add_assoc, this]
    simp only [List.getElem?_drop, List.getElem?_take]
    rw [if_pos (by omega)]

/-! append onto a slice of the call's own -/
theorem gr_setCells (b : Nat) : ∀ (vs : List Value) (o : Nat) (w : World), w.grownBy (w.setCells b o vs) (some b)
  | [], _, w => gr_refl w _
  | u :: vs, o, w => gr_trans (gr_setCell w ⟨b, o, none⟩ u) (gr_setCells b vs (o + 1) _) (.inl rfl)
section
variable {P : Program} (w : World)
theorem run_app_zero (t ty e : TypeId) (i : TypeInfo) (ht : P.underlying t = some (.slice e)) (hi : P.info? e = some i) (A A2 : Option Addr) (n c c2 : Nat) (hn : n ≤ c) :
    (Builtin.append_ #[t, t] ty #[.slice A n c, .slice A2 0 c2]).run P w = .ok (.slice A n c) w := by
  cases A <;> cases A2 <;> simp [Builtin.append_, run_underlying ht, sizeOf, typeInfo, hi, Builtin.lenOf, Builtin.firstCells, hn, storeCells, loadCells, loadCellsFrom]

theorem run_app (B : Nat) (t ty e : TypeId) (z : Value) (s bytes : Nat) (ht : P.underlying t = some (.slice e)) (hinfo : (P.info? e).map (fun i => (i.zero, i.size, i.bytes)) = some (some z, s, bytes))
    (hzs : z.cells.size = s) (hsz : 0 < s) (v : Value) (n : Nat) (xs : List Value) (hown : Own w B s v n xs)
    (x : Value) (m : Nat) (news : List Value) (hr : Rd w s x m news) (h1 : ∀ u ∈ news, u.oneCell' = true)
    (h63 : n + m ≤ maxLen) (hbytes : (n + m) * bytes ≤ 140737488355328) (hB : B ≤ w.heap.size) :
    ∃ v' w', (Builtin.append_ #[t, t] ty #[v, x]).run P w = .ok v' w' ∧ Own w' B s v' (n + m) (xs ++ news) ∧ w.grownBy w' v.ownBlock ∧
      (v'.ownBlock = v.ownBlock ∨ ∃ k, v'.ownBlock = some k ∧ w.heap.size ≤ k) := by
  obtain ⟨i, hi, hz, hsize, hby⟩ := info_parts hinfo
  have hown0 := hown
  obtain ⟨hl, A, c, g, off, rfl, hn, hc, hA0, hA, hb, hx, hf⟩ := hown
  obtain ⟨hl2, A2, c2, g2, off2, rfl, hn2, hc2, hA02, hA2, hx2⟩ := hr
  rcases Nat.eq_zero_or_pos m with hm | hm
  · subst hm
    have hnil : news = [] := List.eq_nil_of_length_eq_zero (by simpa using hl2)
    subst hnil
    exact ⟨_, w, run_app_zero w t ty e i ht hi A A2 n c c2 hn, by simpa using hown0, gr_refl w _, .inl rfl⟩
  · have hA2' := hA2 (by omega)
    subst hA2'
    have hnews : ∀ j u, news[j]? = some u → w.cell? ((⟨g2, off2, none⟩ : Addr).add j) = some u := by
      intro j u hu
      have hj : j < news.length := (List.getElem?_eq_some_iff.1 hu).1
      rw [Addr.add_lit, hx2 j (by omega), hu]
    by_cases hroom : n + m ≤ c
    · have hA' := hA (by omega)
      subst hA'
      subst hsize
      have hcs : n * i.size + news.length ≤ c * i.size := by rw [hl2, ← Nat.add_mul]; exact Nat.mul_le_mul_right _ hroom
      have hrun := run_append_room_cells (P := P) w t ty e i ht hi g off n c ⟨g2, off2, none⟩ m c2 news hl2 hnews h1 hroom
        (fun j hj => by rw [Nat.add_assoc]; exact (hf _ (by omega)).1) (fun j hj => by rw [Nat.add_assoc]; exact (hf _ (by omega)).2)
      have hin := World.cell?_setCells_in g news (off + n * i.size) w (fun j hj => by rw [Nat.add_assoc]; exact (hf _ (by omega)).1)
      have hout : ∀ j, (j < n * i.size ∨ n * i.size + news.length ≤ j) → (w.setCells g (off + n * i.size) news).cell? ⟨g, off + j, none⟩ = w.cell? ⟨g, off + j, none⟩ := fun j hj =>
        World.cell?_setCells_out g news _ w _ (fun _ _ => by simp; omega)
      refine ⟨_, _, hrun, ⟨by rw [List.length_append, hl, hl2, Nat.add_mul], _, c, g, off, rfl, hroom, hc, hA0, hA, hb, fun j hj => ?_, fun j hj => ?_⟩, gr_setCells g _ _ _, .inl rfl⟩
      · by_cases hjn : j < n * i.size
        · rw [hout j (.inl hjn), hx j hjn, List.getElem?_append_left (by omega)]
        · have hjm : j - n * i.size < news.length := by rw [Nat.add_mul, ← hl2] at hj; omega
          have := hin (j - n * i.size) hjm
          rw [show off + n * i.size + (j - n * i.size) = off + j from by omega] at this
          rw [this, List.getElem?_append_right (by omega), hl, List.getElem?_eq_getElem hjm]
      · refine ⟨?_, by rw [World.frozen?_setCells]; exact (hf j hj).2⟩
        by_cases hjn : j < n * i.size ∨ n * i.size + news.length ≤ j
        · rw [hout j hjn]; exact (hf j hj).1
        · have := hin (j - n * i.size) (by omega)
          rw [show off + n * i.size + (j - n * i.size) = off + j from by omega] at this
          rw [this]; rfl
    · have grows : ∃ v' w', (Builtin.append_ #[t, t] ty #[.slice A n c, .slice (some ⟨g2, off2, none⟩) m c2]).run P w = .ok v' w' ∧ w'.ownsRow w.heap.size e s v' (n + m) (xs ++ news) ∧ w.grownBy w' none := by
        cases A with
        | none =>
          have hc0 := hA0 rfl
          obtain rfl : n = 0 := by omega
          subst hc0
          obtain rfl : xs = [] := List.eq_nil_of_length_eq_zero (by simpa using hl)
          obtain ⟨v', w', hrun, r1, r2, _⟩ := run_append_own (P := P) w w.heap.size t ty e i z s bytes ht hi hz hsize hby hzs hsz (.slice none 0 0) 0 [] (World.ownsRow_nil w _ e s) _ m c2 news hl2 hnews h1 h63 hbytes (Nat.le_refl _)
          exact ⟨v', w', hrun, r1, r2⟩
        | some a =>
          refine run_append_arg_grows (P := P) w t ty e i z s bytes ht hi hz hsize hby hzs hsz a n c xs hl (fun j u hj => ?_) _ m c2 news hl2 hnews (by omega) h63 hbytes
          have hjl : j < xs.length := (List.getElem?_eq_some_iff.1 hj).1
          have h0 := pos_of_lt (show j < n * s by omega)
          have := hA (by omega)
          cases this
          rw [Addr.add_lit, hx j (by omega), hj]
      obtain ⟨v', w', hrun, r1, r2⟩ := grows
      refine ⟨v', w', hrun, (Own.of_row r1).mono hB, gr_of_none r2, ?_⟩
      rcases r1.2 with ⟨_, h0⟩ | ⟨g', cap', cur', e', hg', _⟩
      · omega
      · exact .inr ⟨g', by rw [e']; rfl, hg'⟩

/-- append(v, x...) in a plain region. -/
theorem wp_app {ops : Array Oper} {rest : List Oper} {o : Oper} {a : Act} {Q : Exit → Act → World → Prop} (hgd : o.guard = none) (s0 x0 : Operand) (t : TypeId)
    (ho : o.op = .call { callee := .builtin .append, args := #[s0, x0], argTypes := #[t, t] })
    (B : Nat) (e : TypeId) (z : Value) (s bytes : Nat) (ht : P.underlying t = some (.slice e)) (hinfo : (P.info? e).map (fun i => (i.zero, i.size, i.bytes)) = some (some z, s, bytes))
    (hzs : z.cells.size = s) (hsz : 0 < s) (v : Value) (n : Nat) (xs : List Value) (hs : a.eval s0 = v) (hown : Own w B s v n xs)
    (x : Value) (m : Nat) (news : List Value) (hx : a.eval x0 = x) (hr : Rd w s x m news) (h1 : ∀ u ∈ news, u.oneCell' = true)
    (h63 : n + m ≤ maxLen) (hbytes : (n + m) * bytes ≤ 140737488355328) (hB : B ≤ w.heap.size)
    (h : ∀ v' w', Own w' B s v' (n + m) (xs ++ news) → w.grownBy w' v.ownBlock → (v'.ownBlock = v.ownBlock ∨ ∃ k, v'.ownBlock = some k ∧ w.heap.size ≤ k) → wpList P ops Q rest (a.put o.dst v') w') : wpList P ops Q (o :: rest) a w := by
  refine wpList_plain hgd fun K hK => ?_
  obtain ⟨v', w', hrun, h2, h3, h4⟩ := run_app (P := P) w B t o.type e z s bytes ht hinfo hzs hsz v n xs hown x m news hr h1 h63 hbytes hB
  unfold Oper.wp execOp
  simp only [ho, resolve, invoke, builtin, Sem.run_bind, Sem.run_pure, Result.andThen_ok, List.map_toArray, List.map_cons, List.map_nil, hs, hx, hrun]
  exact hK _ _ (h v' w' h2 h3 h4)

/-- a new row that is written out. -/
theorem rd_lit (w : World) (s n c : Nat) (cs : Array Value) (e : TypeId) (hs : cs.size = n * s) (hn : n ≤ c) (hc : c ≤ maxLen) : Rd (w.alloc (.cells cs e)) s (.slice (some ⟨w.heap.size, 0, none⟩) n c) n cs.toList := by
  refine ⟨by simp [hs], _, c, w.heap.size, 0, rfl, hn, hc, fun e => (by cases e), fun _ => rfl, fun j hj => ?_⟩
  rw [Nat.zero_add, World.cell?_alloc_at _ _ _ _ rfl]
  simp
theorem cell_new (w : World) (cs : Array Value) (e : TypeId) (fr : Nat × Nat) (j : Nat) : (w.alloc (.cells cs e fr)).cell? ⟨w.heap.size, j, none⟩ = cs[j]? :=
  cell_of_row _ _ j cs e fr (heap_alloc_new w _)
/-- a new row that is written out, of the call's own; its mark, if it has one, stands behind its cells. -/
theorem own_lit (w : World) (B s n c : Nat) (cs : Array Value) (e : TypeId) (fr : Nat × Nat) (hfr : cs.size ≤ fr.1 ∨ fr.2 ≤ fr.1) (hs : cs.size = c * s) (hn : n ≤ c) (hc : c ≤ maxLen) (hB : B ≤ w.heap.size) :
    Own (w.alloc (.cells cs e fr)) B s (.slice (some ⟨w.heap.size, 0, none⟩) n c) n (cs.toList.take (n * s)) := by
  have hns : n * s ≤ c * s := Nat.mul_le_mul_right s hn
  refine ⟨by simp [hs, Nat.min_eq_left hns], _, c, w.heap.size, 0, rfl, hn, hc, fun e => (by cases e), fun _ => rfl, fun a e => (by cases e; exact hB), fun j hj => ?_, fun j hj => ?_⟩
  · rw [Nat.zero_add, cell_new, List.getElem?_take, if_pos hj]
    simp
  · rw [Nat.zero_add, cell_new]
    refine ⟨by simp; omega, ?_⟩
    have hh : (w.alloc (.cells cs e fr)).heap[w.heap.size]? = some (.cells cs e fr) := heap_alloc_new w _
    simp only [World.frozen?, hh]
    obtain ⟨lo, hi⟩ := fr
    simp at hfr ⊢
    omega

/-- append(v, x), one element: it stands in the block that was laid just ahead. -/
theorem wp_app1 {ops : Array Oper} {rest : List Oper} {o : Oper} {a : Act} {Q : Exit → Act → World → Prop} (cs : Array Value) (hgd : o.guard = none) (s0 x0 : Operand) (t : TypeId)
    (ho : o.op = .call { callee := .builtin .append, args := #[s0, x0], argTypes := #[t, t] })
    (B : Nat) (e : TypeId) (z : Value) (s bytes : Nat) (ht : P.underlying t = some (.slice e)) (hinfo : (P.info? e).map (fun i => (i.zero, i.size, i.bytes)) = some (some z, s, bytes))
    (hzs : z.cells.size = s) (hsz : 0 < s) (v : Value) (n : Nat) (xs : List Value) (hs : a.eval s0 = v) (hown : Own w B s v n xs)
    (hx : a.eval x0 = .slice (some ⟨w.heap.size, 0, none⟩) 1 1) (hcs : cs.size = s) (h1 : ∀ u ∈ cs.toList, u.oneCell' = true)
    (h63 : n + 1 ≤ maxLen) (hbytes : (n + 1) * bytes ≤ 140737488355328) (hB : B ≤ w.heap.size)
    (h : ∀ v' w', Own w' B s v' (n + 1) (xs ++ cs.toList) → w.grownBy w' v.ownBlock → (v'.ownBlock = v.ownBlock ∨ ∃ k, v'.ownBlock = some k ∧ w.heap.size ≤ k) → wpList P ops Q rest (a.put o.dst v') w') :
    wpList P ops Q (o :: rest) a (w.alloc (.cells cs e)) := by
  refine wp_app (w.alloc (.cells cs e)) hgd s0 x0 t ho B e z s bytes ht hinfo hzs hsz v n xs hs (hown.alloc _) _ 1 cs.toList hx (rd_lit w s 1 1 cs e (by omega) (Nat.le_refl _) (by unfold maxLen; omega)) h1 h63 hbytes (by simp; omega) fun v' w' h2 h3 h4 => ?_
  refine h v' w' h2 (gr_trans (gr_alloc w _ _) h3 (.inl rfl)) ?_
  rcases h4 with h4 | ⟨k, h4, hk⟩
  · exact .inl h4
  · exact .inr ⟨k, h4, by simp at hk; omega⟩
end
theorem Own.cap {w : World} {B s n c : Nat} {A : Option Addr} {xs : List Value} (h : Own w B s (.slice A n c) n xs) : n ≤ c := by
  obtain ⟨_, _, _, _, _, e, hn, _⟩ := h; cases e; exact hn
end Go.Proofs.YtipankjajdpiiaaGreat

/- append, with what it says of the slice that it was given. -/
namespace Go.Proofs.YtipankjajdpiiaaGreat
open Go.RowKit
section
variable {P : Program} (w : World)
theorem run_appS (B : Nat) (t ty e : TypeId) (z : Value) (s bytes : Nat) (ht : P.underlying t = some (.slice e)) (hinfo : (P.info? e).map (fun i => (i.zero, i.size, i.bytes)) = some (some z, s, bytes))
    (hzs : z.cells.size = s) (hsz : 0 < s) (v : Value) (n : Nat) (xs : List Value) (hown : Own w B s v n xs)
    (x : Value) (m : Nat) (news : List Value) (hr : Rd w s x m news) (h1 : ∀ u ∈ news, u.oneCell' = true)
    (h63 : n + m ≤ maxLen) (hbytes : (n + m) * bytes ≤ 140737488355328) (hB : B ≤ w.heap.size) :
    ∃ v' w', (Builtin.append_ #[t, t] ty #[v, x]).run P w = .ok v' w' ∧ Own w' B s v' (n + m) (xs ++ news) ∧
      ((∃ A c, v = .slice A n c ∧ v' = .slice A (n + m) c ∧ w.grownBy w' v.ownBlock) ∨ ∃ k, v'.ownBlock = some k ∧ w.heap.size ≤ k ∧ w.grownBy w' none) := by
  obtain ⟨i, hi, hz, hsize, hby⟩ := info_parts hinfo
  have hown0 := hown
  obtain ⟨hl, A, c, g, off, rfl, hn, hc, hA0, hA, hb, hx, hf⟩ := hown
  obtain ⟨hl2, A2, c2, g2, off2, rfl, hn2, hc2, hA02, hA2, hx2⟩ := hr
  rcases Nat.eq_zero_or_pos m with hm | hm
  · subst hm
    have hnil : news = [] := List.eq_nil_of_length_eq_zero (by simpa using hl2)
    subst hnil
    exact ⟨_, w, run_app_zero w t ty e i ht hi A A2 n c c2 hn, by simpa using hown0, .inl ⟨_, _, rfl, rfl, gr_refl w _⟩⟩
  · have hA2' := hA2 (by omega)
    subst hA2'
    have hnews : ∀ j u, news[j]? = some u → w.cell? ((⟨g2, off2, none⟩ : Addr).add j) = some u := by
      intro j u hu
      have hj : j < news.length := (List.getElem?_eq_some_iff.1 hu).1
      rw [Addr.add_lit, hx2 j (by omega), hu]
    by_cases hroom : n + m ≤ c
    · have hA' := hA (by omega)
      subst hA'
      subst hsize
      have hcs : n * i.size + news.length ≤ c * i.size := by rw [hl2, ← Nat.add_mul]; exact Nat.mul_le_mul_right _ hroom
      have hrun := run_append_room_cells (P := P) w t ty e i ht hi g off n c ⟨g2, off2, none⟩ m c2 news hl2 hnews h1 hroom
        (fun j hj => by rw [Nat.add_assoc]; exact (hf _ (by omega)).1) (fun j hj => by rw [Nat.add_assoc]; exact (hf _ (by omega)).2)
      have hin := World.cell?_setCells_in g news (off + n * i.size) w (fun j hj => by rw [Nat.add_assoc]; exact (hf _ (by omega)).1)
      have hout : ∀ j, (j < n * i.size ∨ n * i.size + news.length ≤ j) → (w.setCells g (off + n * i.size) news).cell? ⟨g, off + j, none⟩ = w.cell? ⟨g, off + j, none⟩ := fun j hj =>
        World.cell?_setCells_out g news _ w _ (fun _ _ => by simp; omega)
      refine ⟨_, _, hrun, ⟨by rw [List.length_append, hl, hl2, Nat.add_mul], _, c, g, off, rfl, hroom, hc, hA0, hA, hb, fun j hj => ?_, fun j hj => ?_⟩, .inl ⟨_, _, rfl, rfl, gr_setCells g _ _ _⟩⟩
      · by_cases hjn : j < n * i.size
        · rw [hout j (.inl hjn), hx j hjn, List.getElem?_append_left (by omega)]
        · have hjm : j - n * i.size < news.length := by rw [Nat.add_mul, ← hl2] at hj; omega
          have := hin (j - n * i.size) hjm
          rw [show off + n * i.size + (j - n * i.size) = off + j from by omega] at this
          rw [this, List.getElem?_append_right (by omega), hl, List.getElem?_eq_getElem hjm]
      · refine ⟨?_, by rw [World.frozen?_setCells]; exact (hf j hj).2⟩
        by_cases hjn : j < n * i.size ∨ n * i.size + news.length ≤ j
        · rw [hout j hjn]; exact (hf j hj).1
        · have := hin (j - n * i.size) (by omega)
          rw [show off + n * i.size + (j - n * i.size) = off + j from by omega] at this
          rw [this]; rfl
    · have grows : ∃ v' w', (Builtin.append_ #[t, t] ty #[.slice A n c, .slice (some ⟨g2, off2, none⟩) m c2]).run P w = .ok v' w' ∧ w'.ownsRow w.heap.size e s v' (n + m) (xs ++ news) ∧ w.grownBy w' none := by
        cases A with
        | none =>
          have hc0 := hA0 rfl
          obtain rfl : n = 0 := by omega
          subst hc0
          obtain rfl : xs = [] := List.eq_nil_of_length_eq_zero (by simpa using hl)
          obtain ⟨v', w', hrun, r1, r2, _⟩ := run_append_own (P := P) w w.heap.size t ty e i z s bytes ht hi hz hsize hby hzs hsz (.slice none 0 0) 0 [] (World.ownsRow_nil w _ e s) _ m c2 news hl2 hnews h1 h63 hbytes (Nat.le_refl _)
          exact ⟨v', w', hrun, r1, r2⟩
        | some a =>
          refine run_append_arg_grows (P := P) w t ty e i z s bytes ht hi hz hsize hby hzs hsz a n c xs hl (fun j u hj => ?_) _ m c2 news hl2 hnews (by omega) h63 hbytes
          have hjl : j < xs.length := (List.getElem?_eq_some_iff.1 hj).1
          have h0 := pos_of_lt (show j < n * s by omega)
          have := hA (by omega)
          cases this
          rw [Addr.add_lit, hx j (by omega), hj]
      obtain ⟨v', w', hrun, r1, r2⟩ := grows
      refine ⟨v', w', hrun, (Own.of_row r1).mono hB, ?_⟩
      rcases r1.2 with ⟨_, h0⟩ | ⟨g', cap', cur', e', hg', _⟩
      · omega
      · exact .inr ⟨g', by rw [e']; rfl, hg', r2⟩

/-- append(v, x...) in a plain region. -/
theorem wp_appS {ops : Array Oper} {rest : List Oper} {o : Oper} {a : Act} {Q : Exit → Act → World → Prop} (hgd : o.guard = none) (s0 x0 : Operand) (t : TypeId)
    (ho : o.op = .call { callee := .builtin .append, args := #[s0, x0], argTypes := #[t, t] })
    (B : Nat) (e : TypeId) (z : Value) (s bytes : Nat) (ht : P.underlying t = some (.slice e)) (hinfo : (P.info? e).map (fun i => (i.zero, i.size, i.bytes)) = some (some z, s, bytes))
    (hzs : z.cells.size = s) (hsz : 0 < s) (v : Value) (n : Nat) (xs : List Value) (hs : a.eval s0 = v) (hown : Own w B s v n xs)
    (x : Value) (m : Nat) (news : List Value) (hx : a.eval x0 = x) (hr : Rd w s x m news) (h1 : ∀ u ∈ news, u.oneCell' = true)
    (h63 : n + m ≤ maxLen) (hbytes : (n + m) * bytes ≤ 140737488355328) (hB : B ≤ w.heap.size)
    (h : ∀ v' w', Own w' B s v' (n + m) (xs ++ news) → ((∃ A c, v = .slice A n c ∧ v' = .slice A (n + m) c ∧ w.grownBy w' v.ownBlock) ∨ ∃ k, v'.ownBlock = some k ∧ w.heap.size ≤ k ∧ w.grownBy w' none) → wpList P ops Q rest (a.put o.dst v') w') : wpList P ops Q (o :: rest) a w := by
  refine wpList_plain hgd fun K hK => ?_
  obtain ⟨v', w', hrun, h2, h3⟩ := run_appS (P := P) w B t o.type e z s bytes ht hinfo hzs hsz v n xs hown x m news hr h1 h63 hbytes hB
  unfold Oper.wp execOp
  simp only [ho, resolve, invoke, builtin, Sem.run_bind, Sem.run_pure, Result.andThen_ok, List.map_toArray, List.map_cons, List.map_nil, hs, hx, hrun]
  exact hK _ _ (h v' w' h2 h3)

end
/-- a slice of the call's own that is not struck by a write: its block is another one, or it holds nothing. -/
theorem Own.far {w w' : World} {B s n c : Nat} {A : Option Addr} {xs : List Value} (h : Own w B s (.slice A n c) n xs) {r : Option Nat} (hg : w.grownBy w' r) (hr : ∀ k a, r = some k → A = some a → 0 < c → a.block ≠ k) : Own w' B s (.slice A n c) n xs := by
  rcases Nat.eq_zero_or_pos c with h0 | h0
  · obtain ⟨hl, A', c', g, off, e, hn, hc, hA0, hA, hB, hx, hf⟩ := h
    cases e
    subst h0
    obtain rfl : n = 0 := by omega
    exact ⟨hl, _, _, g, off, rfl, hn, hc, hA0, hA, hB, fun j hj => by omega, fun j hj => by omega⟩
  · refine h.gr hg fun k hk e => ?_
    cases A with
    | none => cases e
    | some a => cases e; exact hr _ a hk rfl h0 rfl
theorem Own.in_ {w : World} {B s n c : Nat} {a : Addr} {xs : List Value} (h : Own w B s (.slice (some a) n c) n xs) (hs : 0 < s) (h0 : 0 < c) : a.block < w.heap.size := by
  obtain ⟨hl, A', c', g, off, e, hn, hc, hA0, hA, hB, hx, hf⟩ := h
  cases e
  have := hA h0
  cases this
  have := (hf 0 (by have := Nat.mul_le_mul h0 hs; omega)).1
  obtain ⟨u, hu⟩ := Option.isSome_iff_exists.1 this
  exact World.block_lt_of_cell? w _ hu
end Go.Proofs.YtipankjajdpiiaaGreat

/- Which block a slice may be written in. -/
namespace Go.Proofs.YtipankjajdpiiaaGreat
open Go.RowKit
set_option maxRecDepth 100000

/-- what append says of one byte more. -/
def App1 (w w' : World) (n m : Nat) (v v' : Value) : Prop :=
  (∃ A c, v = .slice A n c ∧ v' = .slice A (n + m) c ∧ w.grownBy w' v.ownBlock) ∨ ∃ k, v'.ownBlock = some k ∧ w.heap.size ≤ k ∧ w.grownBy w' none
/-- the block that a slice's cells stand in, if it has room for any. -/
def blk : Value → Option Nat
  | .slice (some a) _ c => if c = 0 then none else some a.block
  | _ => none
section
variable {w w' : World} {B s n : Nat} {v v' : Value} {xs : List Value}
theorem Own.off (h : Own w B s v n xs) {r : Option Nat} (hg : w.grownBy w' r) (hr : ∀ k, r = some k → blk v ≠ some k) : Own w' B s v n xs := by
  obtain ⟨A, c, rfl⟩ : ∃ A c, v = .slice A n c := by obtain ⟨_, A, c, _, _, e, _⟩ := h; exact ⟨A, c, e⟩
  refine Own.far h hg fun k a e e' h0 e2 => hr k e ?_
  subst e'
  simp [blk, e2]
  omega
theorem Own.blk_lt (h : Own w B s v n xs) (hs : 0 < s) {k : Nat} (hk : blk v = some k) : B ≤ k ∧ k < w.heap.size := by
  obtain ⟨A, c, rfl⟩ : ∃ A c, v = .slice A n c := by obtain ⟨_, A, c, _, _, e, _⟩ := h; exact ⟨A, c, e⟩
  cases A with
  | none => cases hk
  | some a =>
    by_cases h0 : c = 0
    · simp [blk, h0] at hk
    · simp [blk, h0] at hk
      subst hk
      exact ⟨Own.lt h _ rfl, Own.in_ h hs (by omega)⟩
theorem Own.blk_some (h : Own w B s v n xs) (h0 : 0 < n) : ∃ k, blk v = some k := by
  obtain ⟨_, A, c, g, off, rfl, hn, _, hA0, hA, _⟩ := h
  have := hA (by omega)
  subst this
  exact ⟨g, by simp [blk]; omega⟩
/-- what a write onto a slice's end says: only its own block was struck, and where the longer one stands. -/
def Ext (w w' : World) (v u : Value) : Prop :=
  ∃ r, w.grownBy w' r ∧ (∀ k, r = some k → blk v = some k) ∧ ∃ ku, blk u = some ku ∧ (blk v = some ku ∨ w.heap.size ≤ ku)
theorem ext_of_app {m : Nat} (ho : Own w' B s v' (n + m) xs) (hm : 0 < m) (h : App1 w w' n m v v') : Ext w w' v v' := by
  obtain ⟨ku, hku⟩ := ho.blk_some (by omega)
  rcases h with ⟨A, c, rfl, rfl, g⟩ | ⟨k, e, hk, g⟩
  · have hc := ho.cap
    cases A with
    | none => cases hku
    | some a =>
      have e : (if c = 0 then none else some a.block) = some a.block := if_neg (by omega)
      refine ⟨some a.block, g, fun k hk => by rw [← hk]; exact e, a.block, e, .inl e⟩
  · refine ⟨none, g, fun k hk => (by cases hk), ku, hku, .inr ?_⟩
    obtain ⟨A, c, rfl⟩ : ∃ A c, v' = .slice A (n + m) c := by obtain ⟨_, A, c, _, _, e, _⟩ := ho; exact ⟨A, c, e⟩
    cases A with
    | none => cases e
    | some a =>
      have hc := ho.cap
      have e2 : (if c = 0 then none else some a.block) = some ku := hku
      rw [if_neg (by omega)] at e2
      cases e2
      cases e
      exact hk
theorem Ext.none_of {r : Option Nat} {W0 : World} (h : Ext w w' v v') (hg : W0.grownBy w r) (hv : ∀ k, blk v = some k → W0.heap.size ≤ k) : W0.grownBy w' r := by
  obtain ⟨r', g, hr, _⟩ := h
  exact gr_trans hg g (.inr fun k e => hv k (hr k e))
end
end Go.Proofs.YtipankjajdpiiaaGreat

/- Rows of structs in memory. -/
namespace Go.Proofs.YtipankjajdpiiaaGreat
open Go.RowKit
set_option maxRecDepth 100000
set_option maxHeartbeats 400000

/-! rows of structs -/
section
variable {α : Type} {enc : α → List Value} {k : Nat}
theorem flat_len (hk : ∀ x, (enc x).length = k) (l : List α) : (l.flatMap enc).length = l.length * k := by
  induction l with
  | nil => simp
  | cons a l ih => rw [List.flatMap_cons, List.length_append, hk, ih, List.length_cons, Nat.add_mul]; omega
theorem flat_at (hk : ∀ x, (enc x).length = k) (l : List α) {i j : Nat} (hi : i < l.length) (hj : j < k) : (l.flatMap enc)[i * k + j]? = (enc l[i])[j]? := by
  induction l generalizing i with
  | nil => simp at hi
  | cons a l ih =>
    rw [List.flatMap_cons]
    cases i with
    | zero => rw [Nat.zero_mul, Nat.zero_add, List.getElem?_append_left (by rw [hk]; exact hj)]; rfl
    | succ i =>
      rw [List.getElem?_append_right (by rw [hk, Nat.add_mul]; omega), hk, show (i + 1) * k + j - k = i * k + j from by rw [Nat.add_mul]; omega]
      exact ih (by simpa using hi)
/-- a slice that reads as rows. -/
def RdG (enc : α → List Value) (k : Nat) (w : World) (v : Value) (l : List α) : Prop := Rd w k v l.length (l.flatMap enc)
def OwnG (enc : α → List Value) (k : Nat) (w : World) (B : Nat) (v : Value) (l : List α) : Prop := Own w B k v l.length (l.flatMap enc)
variable {w w' : World} {B : Nat} {v : Value} {l : List α}
theorem OwnG.rd (h : OwnG enc k w B v l) : RdG enc k w v l := Own.rd h
theorem RdG.ext (h : RdG enc k w v l) (hg : w.grownBy w' none) : RdG enc k w' v l := Rd.ext h hg
theorem OwnG.ext (h : OwnG enc k w B v l) (hg : w.grownBy w' none) : OwnG enc k w' B v l := Own.ext h hg
theorem OwnG.mono {B' : Nat} (h : OwnG enc k w B v l) (hB : B' ≤ B) : OwnG enc k w B' v l := Own.mono h hB
theorem RdG.form (h : RdG enc k w v l) : ∃ A c, v = .slice A l.length c := by obtain ⟨_, A, c, _, _, e, _⟩ := h; exact ⟨A, c, e⟩
theorem RdG.nil (enc : α → List Value) (k : Nat) (w : World) : RdG enc k w (.slice none 0 0) [] := Rd.nil _ _
theorem OwnG.nil (enc : α → List Value) (k : Nat) (w : World) (B : Nat) : OwnG enc k w B (.slice none 0 0) [] := Own.nil _ _ _
theorem RdG.at_ (hk : ∀ x, (enc x).length = k) {A : Option Addr} {c : Nat} (h : RdG enc k w (.slice A l.length c) l) : ∃ g off, (0 < l.length → A = some ⟨g, off, none⟩) ∧ l.length ≤ c ∧ ∀ i (hi : i < l.length), ∀ j, j < k → w.cell? ⟨g, off + i * k + j, none⟩ = (enc l[i])[j]? := by
  obtain ⟨_, _, _, g, off, e, hn, hc, _, hA, hx⟩ := h
  cases e
  refine ⟨g, off, fun h0 => hA (by omega), hn, fun i hi j hj => ?_⟩
  have hij : i * k + j < l.length * k := by
    have : (i + 1) * k ≤ l.length * k := Nat.mul_le_mul_right k hi
    rw [Nat.add_mul] at this; omega
  rw [Nat.add_assoc, hx _ hij, flat_at hk l hi hj]
end
end Go.Proofs.YtipankjajdpiiaaGreat

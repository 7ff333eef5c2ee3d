/-
  does of law10 over any owned state, kind by kind (printed by wip/tools/gen_qs.py).
-/
import Derived.Test.YtkpmadahfmpeiaaGreatGg
import Derived.Test.YtkpmadahfmpeiaaGreatRec
namespace Go.Proofs.YtkpmadahfmpeiaaGreat
open Go.RowKit Go.Maps
set_option maxRecDepth 100000
set_option maxHeartbeats 400000

/-- something owned, seen from an older world: what a proof wants of it. -/
structure Sta (w0 : World) (St : Own1 → World → Prop) : Prop where
  far : ∀ {O : Own1} {w w' : World} {r : Option Nat}, St O w → w.grownBy w' r → (∀ k, r = some k → O k = none ∧ w0.heap.size ≤ k) → St O w'
  gr : ∀ {O : Own1} {w : World}, St O w → w0.grownBy w none
  fresh : ∀ {O : Own1} {w : World} {i : Nat}, St O w → w.heap.size ≤ i → O i = none
theorem Sta.ext {w0 : World} {St : Own1 → World → Prop} (h : Sta w0 St) {O : Own1} {w w' : World} (hs : St O w) (g : w.grownBy w' none) : St O w' := h.far hs g fun k e => by cases e
def StN (St : Own1 → World → Prop) (O : Own1) (w w' : World) : Prop := ∃ O', St O' w' ∧ Ch O w O' w'
theorem Ch.far {O0 O : Own1} {wb w w' : World} (h : Ch O0 wb O w) {r : Option Nat} (g : w.grownBy w' r) (hr : ∀ k, r = some k → wb.heap.size ≤ k) : Ch O0 wb O w' :=
  ⟨g.os.trans h.os, g.tape.trans h.tape, g.output.trans h.output, Nat.le_trans h.size g.size, fun i hi h0 => (g.block i (Nat.lt_of_lt_of_le hi h.size) fun e => by have := hr i e.symm; omega).trans (h.block i hi h0), h.free⟩
theorem does3q (w : World) (cs : Array Value) {W : World} (hW : W = ((w.alloc (.cells cs 35)).alloc (.cells #[.slice none 0 0, .int .i64 0, .int .i64 0] 38)).alloc (.cells #[.slice none 0 0, .int .i64 0, .int .i64 0] 38)) :
    Blk W w.heap.size 35 cs ∧ Blk W (w.heap.size + 1) 38 #[.slice none 0 0, .int .i64 0, .int .i64 0] ∧ Blk W (w.heap.size + 2) 38 #[.slice none 0 0, .int .i64 0, .int .i64 0] ∧ w.grownBy W none := by
  subst hW
  have h1 := Blk.new w 35 cs
  have h2 := Blk.new (w.alloc (.cells cs 35)) 38 #[.slice none 0 0, .int .i64 0, .int .i64 0]
  have h3 := Blk.new ((w.alloc (.cells cs 35)).alloc (.cells #[.slice none 0 0, .int .i64 0, .int .i64 0] 38)) 38 #[.slice none 0 0, .int .i64 0, .int .i64 0]
  rw [World.size_alloc] at h2
  rw [World.size_alloc, World.size_alloc] at h3
  exact ⟨(h1.ext (gr_alloc _ _ none)).ext (gr_alloc _ _ none), h2.ext (gr_alloc _ _ none), h3, gr_none (gr_none (gr_alloc _ _ none) (gr_alloc _ _ none)) (gr_alloc _ _ none)⟩
section
variable {w0 w w' w2 : World} {B Z : Nat} {v : Value} {bs : List UInt8} {d p : Nat} {O : Own1} {St St' : Own1 → World → Prop}
theorem qfin {w3 : World} {K : Nat} {cs : Array Value} (hcs : cs.size = 3) (b4 : Blk w3 K 38 cs) (v n e : Value) {WF : World}
    (hWF : WF = ((w3.setCell ⟨K, 0, none⟩ v).setCell ⟨K, 1, none⟩ n).setCell ⟨K, 2, none⟩ e) : ∀ i, WF.cell? ⟨K, i, none⟩ = #[v, n, e][i]? := by
  subst hWF
  have hb := ((b4.set 0 v).set 1 n).set 2 e
  intro i
  rw [hb.cell i]
  obtain ⟨l⟩ := cs
  match l, hcs with
  | [a, b, c], _ => rfl
/-- the state behind an operation, and the call's own two blocks. -/
def DoQ (w0 : World) (St : Own1 → World → Prop) (O : Own1) (w w2 : World) : Prop := ∃ O2, St O2 w2 ∧ Ch O w O2 w2 ∧ O2 (w.heap.size + 1) = none ∧ O2 (w.heap.size + 2) = none ∧ w0.heap.size ≤ w.heap.size
theorem DoQ.stn (h : DoQ w0 St O w w2) : StN St O w w2 := by obtain ⟨O2, h1, h2, -⟩ := h; exact ⟨O2, h1, h2⟩
theorem DoQ.of {W : World} (h : StN St O W w2) (g : w.grownBy W none) (hz : w.heap.size + 3 ≤ W.heap.size) (ho : ∀ k, w.heap.size ≤ k → O k = none) (h0 : w0.heap.size ≤ w.heap.size) : DoQ w0 St O w w2 := by
  obtain ⟨O2, h1, h2⟩ := h
  exact ⟨O2, h1, (Ch.ext g).trans h2, h2.free _ (by omega) (ho _ (by omega)), h2.free _ (by omega) (ho _ (by omega)), h0⟩
theorem DoQ.set (hS : Sta w0 St) (h : DoQ w0 St O w w2) {k : Nat} (hk : k = w.heap.size + 1 ∨ k = w.heap.size + 2) (off : Nat) (v : Value) : DoQ w0 St O w (w2.setCell ⟨k, off, none⟩ v) := by
  obtain ⟨O2, h1, h2, h3, h4, h6⟩ := h
  have hk0 : O2 k = none := by rcases hk with rfl | rfl <;> assumption
  exact ⟨O2, hS.far h1 (gr_setCell w2 ⟨k, off, none⟩ v) fun q e => by
    have hq : k = q := Option.some.inj e
    subst hq
    exact ⟨hk0, by omega⟩, h2.far (gr_setCell w2 ⟨k, off, none⟩ v) fun q e => by
    have hq : k = q := Option.some.inj e
    subst hq
    omega, h3, h4, h6⟩
theorem DoQ.ext (hS : Sta w0 St) (h : DoQ w0 St O w w2) (g : w2.grownBy w' none) : DoQ w0 St O w w' := by
  obtain ⟨O2, h1, h2, h3⟩ := h
  exact ⟨O2, hS.ext h1 g, h2.trans (Ch.ext g), h3⟩
/-- the same with a slice of the call's own beside. -/
def DvQ (w0 : World) (St : Own1 → World → Prop) (O : Own1) (w w2 : World) (B : Nat) (v : Value) (bs : List UInt8) (Z : Nat) : Prop := OwnB w2 B v bs ∧ w.heap.size + 3 ≤ B ∧ ∃ O2, St O2 w2 ∧ Ch O w O2 w2 ∧ O2 (w.heap.size + 1) = none ∧ O2 (w.heap.size + 2) = none ∧ w0.heap.size ≤ w.heap.size ∧ (∀ q, Z ≤ q → O2 q = none) ∧ ∀ q, blk v = some q → O2 q = none
theorem DvQ.doq (h : DvQ w0 St O w w2 B v bs Z) : DoQ w0 St O w w2 := by
  obtain ⟨-, -, O2, h1, h2, h3, h4, h5, -⟩ := h
  exact ⟨O2, h1, h2, h3, h4, h5⟩
theorem DvQ.put (hS : Sta w0 St) (h : DvQ w0 St O w w2 B v bs Z) {k : Nat} (hk : k = w.heap.size + 1 ∨ k = w.heap.size + 2) (off : Nat) (x : Value) : DvQ w0 St O w (w2.setCell ⟨k, off, none⟩ x) B v bs Z := by
  obtain ⟨h2, h3, O2, k1, k2, k3, k4, k6, k7, k5⟩ := h
  have hk0 : O2 k = none := by rcases hk with rfl | rfl <;> assumption
  refine ⟨?_, h3, O2, hS.far k1 (gr_setCell w2 ⟨k, off, none⟩ x) fun q e => ?_, k2.far (gr_setCell w2 ⟨k, off, none⟩ x) fun q e => ?_, k3, k4, k6, k7, k5⟩
  · refine Own.same h2 fun q e => (gr_setCell w2 ⟨k, off, none⟩ x).block q (Own.blk_lt h2 (by omega) e).2 fun e2 => ?_
    have hq : k = q := (Option.some.inj e2).symm
    have := (Own.blk_lt h2 (by omega) e).1
    omega
  · have hq : k = q := Option.some.inj e
    subst hq
    exact ⟨hk0, by omega⟩
  · have hq : k = q := Option.some.inj e
    subst hq
    omega
theorem DvQ.ext (hS : Sta w0 St) (h : DvQ w0 St O w w2 B v bs Z) (g : w2.grownBy w' none) : DvQ w0 St O w w' B v bs Z := by
  obtain ⟨h2, h3, O2, k1, k2, k3⟩ := h
  exact ⟨OwnB.ext h2 g, h3, O2, hS.ext k1 g, k2.trans (Ch.ext g), k3⟩
/-- a byte of the slice is written. -/
theorem DvQ.byte (hS : Sta w0 St) {A : Option Addr} {c : Nat} (h : DvQ w0 St O w w2 B (.slice A bs.length c) bs Z) {k : Nat} (hk : k < bs.length) : ∃ g off, A = some ⟨g, off, none⟩ ∧ B ≤ g ∧ bs.length ≤ c ∧ w2.frozen? ⟨g, off + k, none⟩ = false ∧ w2.cell? ⟨g, off + k, none⟩ = some (.int .u8 bs[k].toNat) ∧
    ∀ u : UInt8, DvQ w0 St O w (w2.setCell ⟨g, off + k, none⟩ (.int .u8 u.toNat)) B (.slice A (bs.set k u).length c) (bs.set k u) Z := by
  obtain ⟨h2, h3, O2, k1, k2, k3, k4, k6, k7, k5⟩ := h
  obtain ⟨g, off, rfl, hB, -, hc, hcell, hfr, hset⟩ := h2.at_ hk
  have hb : blk (.slice (some ⟨g, off, none⟩) bs.length c) = some g := by show (if c = 0 then none else some g) = some g; rw [if_neg (by omega)]
  have hO : O2 g = none := k5 g hb
  refine ⟨g, off, rfl, hB, hc, hfr, hcell, fun u => ?_⟩
  rw [List.length_set]
  exact ⟨hset u, h3, O2, hS.far k1 (gr_setCell w2 ⟨g, off + k, none⟩ _) (fun q e => by
    have hq : g = q := Option.some.inj e
    subst hq
    exact ⟨hO, by omega⟩), k2.far (gr_setCell w2 ⟨g, off + k, none⟩ _) (fun q e => by
    have hq : g = q := Option.some.inj e
    subst hq
    omega), k3, k4, k6, k7, k5⟩
/-- what does tells: bytes of its own, a number, an error. -/
def ToldQ (St : Own1 → World → Prop) (O : Own1) (w : World) (bs : List UInt8) (n : Int) (er : Nat) (e : Ending) (w' : World) : Prop := ∃ A c, e = .returned (.agg #[.slice A bs.length c, .int .i64 n, .int .i64 er]) ∧ OwnB w' w.heap.size (.slice A bs.length c) bs ∧ ∃ O', St O' w' ∧ Ch O w O' w' ∧ ∀ q, blk (.slice A bs.length c) = some q → O' q = none
theorem ToldQ.none_ {n : Int} {er : Nat} (h : StN St O w w2) : ToldQ St O w [] n er (.returned (.agg #[.slice none 0 0, .int .i64 n, .int .i64 er])) w2 := by
  obtain ⟨O', h1, h2⟩ := h
  exact ⟨none, 0, rfl, OwnB.nil _ _, O', h1, h2, fun q e => by cases e⟩
theorem qdoes_create (hS : Sta w0 St) (hS' : Sta w0 St') (h : St O w) (n : List UInt8) (k : Int) (bv : Value) {er : Nat}
    (hc : ∀ W, w.grownBy W none → Calls Tryz.prog 45 #[.pointer (some ⟨p, 0, none⟩), .string ⟨n.toArray⟩] W fun e w' => e = .returned (.int .i64 er) ∧ StN St' O W w') :
    Calls Tryz.prog 13 #[.pointer (some ⟨p, 0, none⟩), .pointer (some ⟨d, 0, none⟩), .agg #[.int .i64 0, .string ⟨n.toArray⟩, .int .i64 k, bv]] w (ToldQ St' O w [] 0 er) := by
  have HC := Lib.hid hc
  have HOF : Hid (∀ k, w.heap.size ≤ k → O k = none) := fun k hk => hS.fresh h hk
  have HW0 := Lib.hid (hS.gr h).size
  clear h hc
  go_enter Tryz.func13, Tryz.ntmps13
  go_wp2_with fail
  obtain ⟨W, hW⟩ : ∃ W, W = ((w.alloc (.cells #[.int .i64 0, .string ⟨n.toArray⟩, .int .i64 k, bv] 35)).alloc (.cells #[.slice none 0 0, .int .i64 0, .int .i64 0] 38)).alloc (.cells #[.slice none 0 0, .int .i64 0, .int .i64 0] 38) := ⟨_, rfl⟩
  rw [← hW]
  obtain ⟨b3, b4, b6, gW⟩ := does3q w _ hW
  have hz : w.heap.size + 3 ≤ W.heap.size := by rw [hW]; simp only [World.size_alloc]; omega
  clear hW
  refine (HC.out W gW).mono ?_
  rintro e w2 ⟨rfl, O2, s2, c2⟩
  have b42 := c2.blk b4 (HOF.out _ (by omega))
  have b62 := c2.blk b6 (HOF.out _ (by omega))
  have HD : Hid (DoQ w0 St' O w w2) := DoQ.of ⟨O2, s2, c2⟩ gW hz HOF.out HW0.out
  clear s2 c2 b3 b4 b6 gW hz
  have hc4 := b42.cell
  have hf4 := b42.frozen
  have hc6 := b62.cell
  have hf6 := b62.frozen
  have HB4 := Lib.hid b42
  clear b42 b62
  go_wp2
  obtain ⟨W3, hW3⟩ : ∃ W3, W3 = w2.setCell ⟨w.heap.size + 1 + 1, 2, none⟩ (.int .i64 er) := ⟨_, rfl⟩
  rw [← hW3]
  have hb3 : Blk W3 (w.heap.size + 1) 38 #[.slice none 0 0, .int .i64 0, .int .i64 0] := by rw [hW3]; exact HB4.out.far (by simp) _
  have hd3 : DoQ w0 St' O w W3 := by rw [hW3]; exact HD.out.set hS' (.inr rfl) _ _
  obtain ⟨WF, hWF⟩ : ∃ WF, WF = ((W3.setCell ⟨w.heap.size + 1, 0, none⟩ (.slice none 0 0)).setCell ⟨w.heap.size + 1, 1, none⟩ (.int .i64 0)).setCell ⟨w.heap.size + 1, 2, none⟩ (.int .i64 er) := ⟨_, rfl⟩
  rw [← hWF]
  have hcf := qfin (by rfl) hb3 _ _ _ hWF
  have HDF : Hid (DoQ w0 St' O w WF) := by show DoQ _ _ _ _ _; rw [hWF]; exact ((hd3.set hS' (.inl rfl) _ _).set hS' (.inl rfl) _ _).set hS' (.inl rfl) _ _
  clear hWF hW3 hb3 hd3 hc4 hf4 hc6 hf6
  exact bodyPost_ret (v := .agg #[.slice none 0 0, .int .i64 0, .int .i64 er]) (by simp [results, Tryz.results13, go_sem, hcf]) rfl (ToldQ.none_ HDF.out.stn)
theorem qdoes_drop (hS : Sta w0 St) (hS' : Sta w0 St') (h : St O w) (n : List UInt8) (k : Int) (bv : Value) {er : Nat}
    (hc : ∀ W, w.grownBy W none → Calls Tryz.prog 42 #[.pointer (some ⟨p, 0, none⟩), .string ⟨n.toArray⟩] W fun e w' => e = .returned (.int .i64 er) ∧ StN St' O W w') :
    Calls Tryz.prog 13 #[.pointer (some ⟨p, 0, none⟩), .pointer (some ⟨d, 0, none⟩), .agg #[.int .i64 1, .string ⟨n.toArray⟩, .int .i64 k, bv]] w (ToldQ St' O w [] 0 er) := by
  have HC := Lib.hid hc
  have HOF : Hid (∀ k, w.heap.size ≤ k → O k = none) := fun k hk => hS.fresh h hk
  have HW0 := Lib.hid (hS.gr h).size
  clear h hc
  go_enter Tryz.func13, Tryz.ntmps13
  go_wp2_with fail
  obtain ⟨W, hW⟩ : ∃ W, W = ((w.alloc (.cells #[.int .i64 1, .string ⟨n.toArray⟩, .int .i64 k, bv] 35)).alloc (.cells #[.slice none 0 0, .int .i64 0, .int .i64 0] 38)).alloc (.cells #[.slice none 0 0, .int .i64 0, .int .i64 0] 38) := ⟨_, rfl⟩
  rw [← hW]
  obtain ⟨b3, b4, b6, gW⟩ := does3q w _ hW
  have hz : w.heap.size + 3 ≤ W.heap.size := by rw [hW]; simp only [World.size_alloc]; omega
  clear hW
  refine (HC.out W gW).mono ?_
  rintro e w2 ⟨rfl, O2, s2, c2⟩
  have b42 := c2.blk b4 (HOF.out _ (by omega))
  have b62 := c2.blk b6 (HOF.out _ (by omega))
  have HD : Hid (DoQ w0 St' O w w2) := DoQ.of ⟨O2, s2, c2⟩ gW hz HOF.out HW0.out
  clear s2 c2 b3 b4 b6 gW hz
  have hc4 := b42.cell
  have hf4 := b42.frozen
  have hc6 := b62.cell
  have hf6 := b62.frozen
  have HB4 := Lib.hid b42
  clear b42 b62
  go_wp2
  obtain ⟨W3, hW3⟩ : ∃ W3, W3 = w2.setCell ⟨w.heap.size + 1 + 1, 2, none⟩ (.int .i64 er) := ⟨_, rfl⟩
  rw [← hW3]
  have hb3 : Blk W3 (w.heap.size + 1) 38 #[.slice none 0 0, .int .i64 0, .int .i64 0] := by rw [hW3]; exact HB4.out.far (by simp) _
  have hd3 : DoQ w0 St' O w W3 := by rw [hW3]; exact HD.out.set hS' (.inr rfl) _ _
  obtain ⟨WF, hWF⟩ : ∃ WF, WF = ((W3.setCell ⟨w.heap.size + 1, 0, none⟩ (.slice none 0 0)).setCell ⟨w.heap.size + 1, 1, none⟩ (.int .i64 0)).setCell ⟨w.heap.size + 1, 2, none⟩ (.int .i64 er) := ⟨_, rfl⟩
  rw [← hWF]
  have hcf := qfin (by rfl) hb3 _ _ _ hWF
  have HDF : Hid (DoQ w0 St' O w WF) := by show DoQ _ _ _ _ _; rw [hWF]; exact ((hd3.set hS' (.inl rfl) _ _).set hS' (.inl rfl) _ _).set hS' (.inl rfl) _ _
  clear hWF hW3 hb3 hd3 hc4 hf4 hc6 hf6
  exact bodyPost_ret (v := .agg #[.slice none 0 0, .int .i64 0, .int .i64 er]) (by simp [results, Tryz.results13, go_sem, hcf]) rfl (ToldQ.none_ HDF.out.stn)
theorem qdoes_unpin (hS : Sta w0 St) (hS' : Sta w0 St') (h : St O w) (n : List UInt8) (k : Int) (bv : Value) {er : Nat}
    (hc : ∀ W, w.grownBy W none → Calls Tryz.prog 49 #[.pointer (some ⟨p, 0, none⟩), .string ⟨n.toArray⟩, .int .i64 k] W fun e w' => e = .returned (.int .i64 er) ∧ StN St' O W w') :
    Calls Tryz.prog 13 #[.pointer (some ⟨p, 0, none⟩), .pointer (some ⟨d, 0, none⟩), .agg #[.int .i64 4, .string ⟨n.toArray⟩, .int .i64 k, bv]] w (ToldQ St' O w [] 0 er) := by
  have HC := Lib.hid hc
  have HOF : Hid (∀ k, w.heap.size ≤ k → O k = none) := fun k hk => hS.fresh h hk
  have HW0 := Lib.hid (hS.gr h).size
  clear h hc
  go_enter Tryz.func13, Tryz.ntmps13
  go_wp2_with fail
  obtain ⟨W, hW⟩ : ∃ W, W = ((w.alloc (.cells #[.int .i64 4, .string ⟨n.toArray⟩, .int .i64 k, bv] 35)).alloc (.cells #[.slice none 0 0, .int .i64 0, .int .i64 0] 38)).alloc (.cells #[.slice none 0 0, .int .i64 0, .int .i64 0] 38) := ⟨_, rfl⟩
  rw [← hW]
  obtain ⟨b3, b4, b6, gW⟩ := does3q w _ hW
  have hz : w.heap.size + 3 ≤ W.heap.size := by rw [hW]; simp only [World.size_alloc]; omega
  clear hW
  refine (HC.out W gW).mono ?_
  rintro e w2 ⟨rfl, O2, s2, c2⟩
  have b42 := c2.blk b4 (HOF.out _ (by omega))
  have b62 := c2.blk b6 (HOF.out _ (by omega))
  have HD : Hid (DoQ w0 St' O w w2) := DoQ.of ⟨O2, s2, c2⟩ gW hz HOF.out HW0.out
  clear s2 c2 b3 b4 b6 gW hz
  have hc4 := b42.cell
  have hf4 := b42.frozen
  have hc6 := b62.cell
  have hf6 := b62.frozen
  have HB4 := Lib.hid b42
  clear b42 b62
  go_wp2
  obtain ⟨W3, hW3⟩ : ∃ W3, W3 = w2.setCell ⟨w.heap.size + 1 + 1, 2, none⟩ (.int .i64 er) := ⟨_, rfl⟩
  rw [← hW3]
  have hb3 : Blk W3 (w.heap.size + 1) 38 #[.slice none 0 0, .int .i64 0, .int .i64 0] := by rw [hW3]; exact HB4.out.far (by simp) _
  have hd3 : DoQ w0 St' O w W3 := by rw [hW3]; exact HD.out.set hS' (.inr rfl) _ _
  obtain ⟨WF, hWF⟩ : ∃ WF, WF = ((W3.setCell ⟨w.heap.size + 1, 0, none⟩ (.slice none 0 0)).setCell ⟨w.heap.size + 1, 1, none⟩ (.int .i64 0)).setCell ⟨w.heap.size + 1, 2, none⟩ (.int .i64 er) := ⟨_, rfl⟩
  rw [← hWF]
  have hcf := qfin (by rfl) hb3 _ _ _ hWF
  have HDF : Hid (DoQ w0 St' O w WF) := by show DoQ _ _ _ _ _; rw [hWF]; exact ((hd3.set hS' (.inl rfl) _ _).set hS' (.inl rfl) _ _).set hS' (.inl rfl) _ _
  clear hWF hW3 hb3 hd3 hc4 hf4 hc6 hf6
  exact bodyPost_ret (v := .agg #[.slice none 0 0, .int .i64 0, .int .i64 er]) (by simp [results, Tryz.results13, go_sem, hcf]) rfl (ToldQ.none_ HDF.out.stn)
theorem qdoes_flush (hS : Sta w0 St) (hS' : Sta w0 St') (h : St O w) (n : List UInt8) (k : Int) (bv : Value) {er : Nat}
    (hc : ∀ W, w.grownBy W none → Calls Tryz.prog 16 #[.pointer (some ⟨p, 0, none⟩), .string ⟨n.toArray⟩] W fun e w' => e = .returned (.int .i64 er) ∧ StN St' O W w') :
    Calls Tryz.prog 13 #[.pointer (some ⟨p, 0, none⟩), .pointer (some ⟨d, 0, none⟩), .agg #[.int .i64 7, .string ⟨n.toArray⟩, .int .i64 k, bv]] w (ToldQ St' O w [] 0 er) := by
  have HC := Lib.hid hc
  have HOF : Hid (∀ k, w.heap.size ≤ k → O k = none) := fun k hk => hS.fresh h hk
  have HW0 := Lib.hid (hS.gr h).size
  clear h hc
  go_enter Tryz.func13, Tryz.ntmps13
  go_wp2_with fail
  obtain ⟨W, hW⟩ : ∃ W, W = ((w.alloc (.cells #[.int .i64 7, .string ⟨n.toArray⟩, .int .i64 k, bv] 35)).alloc (.cells #[.slice none 0 0, .int .i64 0, .int .i64 0] 38)).alloc (.cells #[.slice none 0 0, .int .i64 0, .int .i64 0] 38) := ⟨_, rfl⟩
  rw [← hW]
  obtain ⟨b3, b4, b6, gW⟩ := does3q w _ hW
  have hz : w.heap.size + 3 ≤ W.heap.size := by rw [hW]; simp only [World.size_alloc]; omega
  clear hW
  refine (HC.out W gW).mono ?_
  rintro e w2 ⟨rfl, O2, s2, c2⟩
  have b42 := c2.blk b4 (HOF.out _ (by omega))
  have b62 := c2.blk b6 (HOF.out _ (by omega))
  have HD : Hid (DoQ w0 St' O w w2) := DoQ.of ⟨O2, s2, c2⟩ gW hz HOF.out HW0.out
  clear s2 c2 b3 b4 b6 gW hz
  have hc4 := b42.cell
  have hf4 := b42.frozen
  have hc6 := b62.cell
  have hf6 := b62.frozen
  have HB4 := Lib.hid b42
  clear b42 b62
  go_wp2
  obtain ⟨W3, hW3⟩ : ∃ W3, W3 = w2.setCell ⟨w.heap.size + 1 + 1, 2, none⟩ (.int .i64 er) := ⟨_, rfl⟩
  rw [← hW3]
  have hb3 : Blk W3 (w.heap.size + 1) 38 #[.slice none 0 0, .int .i64 0, .int .i64 0] := by rw [hW3]; exact HB4.out.far (by simp) _
  have hd3 : DoQ w0 St' O w W3 := by rw [hW3]; exact HD.out.set hS' (.inr rfl) _ _
  obtain ⟨WF, hWF⟩ : ∃ WF, WF = ((W3.setCell ⟨w.heap.size + 1, 0, none⟩ (.slice none 0 0)).setCell ⟨w.heap.size + 1, 1, none⟩ (.int .i64 0)).setCell ⟨w.heap.size + 1, 2, none⟩ (.int .i64 er) := ⟨_, rfl⟩
  rw [← hWF]
  have hcf := qfin (by rfl) hb3 _ _ _ hWF
  have HDF : Hid (DoQ w0 St' O w WF) := by show DoQ _ _ _ _ _; rw [hWF]; exact ((hd3.set hS' (.inl rfl) _ _).set hS' (.inl rfl) _ _).set hS' (.inl rfl) _ _
  clear hWF hW3 hb3 hd3 hc4 hf4 hc6 hf6
  exact bodyPost_ret (v := .agg #[.slice none 0 0, .int .i64 0, .int .i64 er]) (by simp [results, Tryz.results13, go_sem, hcf]) rfl (ToldQ.none_ HDF.out.stn)
theorem qdoes_quota (hS : Sta w0 St) (hS' : Sta w0 St') (h : St O w) (n : List UInt8) (k : Int) (bv : Value) {er : Nat}
    (hc : ∀ W, w.grownBy W none → Calls Tryz.prog 50 #[.pointer (some ⟨d, 0, none⟩), .int .i64 k] W fun e w' => e = .returned (.int .i64 er) ∧ StN St' O W w') :
    Calls Tryz.prog 13 #[.pointer (some ⟨p, 0, none⟩), .pointer (some ⟨d, 0, none⟩), .agg #[.int .i64 8, .string ⟨n.toArray⟩, .int .i64 k, bv]] w (ToldQ St' O w [] 0 er) := by
  have HC := Lib.hid hc
  have HOF : Hid (∀ k, w.heap.size ≤ k → O k = none) := fun k hk => hS.fresh h hk
  have HW0 := Lib.hid (hS.gr h).size
  clear h hc
  go_enter Tryz.func13, Tryz.ntmps13
  go_wp2_with fail
  obtain ⟨W, hW⟩ : ∃ W, W = ((w.alloc (.cells #[.int .i64 8, .string ⟨n.toArray⟩, .int .i64 k, bv] 35)).alloc (.cells #[.slice none 0 0, .int .i64 0, .int .i64 0] 38)).alloc (.cells #[.slice none 0 0, .int .i64 0, .int .i64 0] 38) := ⟨_, rfl⟩
  rw [← hW]
  obtain ⟨b3, b4, b6, gW⟩ := does3q w _ hW
  have hz : w.heap.size + 3 ≤ W.heap.size := by rw [hW]; simp only [World.size_alloc]; omega
  clear hW
  refine (HC.out W gW).mono ?_
  rintro e w2 ⟨rfl, O2, s2, c2⟩
  have b42 := c2.blk b4 (HOF.out _ (by omega))
  have b62 := c2.blk b6 (HOF.out _ (by omega))
  have HD : Hid (DoQ w0 St' O w w2) := DoQ.of ⟨O2, s2, c2⟩ gW hz HOF.out HW0.out
  clear s2 c2 b3 b4 b6 gW hz
  have hc4 := b42.cell
  have hf4 := b42.frozen
  have hc6 := b62.cell
  have hf6 := b62.frozen
  have HB4 := Lib.hid b42
  clear b42 b62
  go_wp2
  obtain ⟨W3, hW3⟩ : ∃ W3, W3 = w2.setCell ⟨w.heap.size + 1 + 1, 2, none⟩ (.int .i64 er) := ⟨_, rfl⟩
  rw [← hW3]
  have hb3 : Blk W3 (w.heap.size + 1) 38 #[.slice none 0 0, .int .i64 0, .int .i64 0] := by rw [hW3]; exact HB4.out.far (by simp) _
  have hd3 : DoQ w0 St' O w W3 := by rw [hW3]; exact HD.out.set hS' (.inr rfl) _ _
  obtain ⟨WF, hWF⟩ : ∃ WF, WF = ((W3.setCell ⟨w.heap.size + 1, 0, none⟩ (.slice none 0 0)).setCell ⟨w.heap.size + 1, 1, none⟩ (.int .i64 0)).setCell ⟨w.heap.size + 1, 2, none⟩ (.int .i64 er) := ⟨_, rfl⟩
  rw [← hWF]
  have hcf := qfin (by rfl) hb3 _ _ _ hWF
  have HDF : Hid (DoQ w0 St' O w WF) := by show DoQ _ _ _ _ _; rw [hWF]; exact ((hd3.set hS' (.inl rfl) _ _).set hS' (.inl rfl) _ _).set hS' (.inl rfl) _ _
  clear hWF hW3 hb3 hd3 hc4 hf4 hc6 hf6
  exact bodyPost_ret (v := .agg #[.slice none 0 0, .int .i64 0, .int .i64 er]) (by simp [results, Tryz.results13, go_sem, hcf]) rfl (ToldQ.none_ HDF.out.stn)
theorem qdoes_arm (hS : Sta w0 St) (hS' : Sta w0 St') (h : St O w) (n : List UInt8) (k : Int) (bv : Value) {er : Nat}
    (hc : ∀ W, w.grownBy W none → Calls Tryz.prog 17 #[.pointer (some ⟨d, 0, none⟩), .int .i64 k] W fun e w' => e = .returned (.int .i64 er) ∧ StN St' O W w') :
    Calls Tryz.prog 13 #[.pointer (some ⟨p, 0, none⟩), .pointer (some ⟨d, 0, none⟩), .agg #[.int .i64 9, .string ⟨n.toArray⟩, .int .i64 k, bv]] w (ToldQ St' O w [] 0 er) := by
  have HC := Lib.hid hc
  have HOF : Hid (∀ k, w.heap.size ≤ k → O k = none) := fun k hk => hS.fresh h hk
  have HW0 := Lib.hid (hS.gr h).size
  clear h hc
  go_enter Tryz.func13, Tryz.ntmps13
  go_wp2_with fail
  obtain ⟨W, hW⟩ : ∃ W, W = ((w.alloc (.cells #[.int .i64 9, .string ⟨n.toArray⟩, .int .i64 k, bv] 35)).alloc (.cells #[.slice none 0 0, .int .i64 0, .int .i64 0] 38)).alloc (.cells #[.slice none 0 0, .int .i64 0, .int .i64 0] 38) := ⟨_, rfl⟩
  rw [← hW]
  obtain ⟨b3, b4, b6, gW⟩ := does3q w _ hW
  have hz : w.heap.size + 3 ≤ W.heap.size := by rw [hW]; simp only [World.size_alloc]; omega
  clear hW
  refine (HC.out W gW).mono ?_
  rintro e w2 ⟨rfl, O2, s2, c2⟩
  have b42 := c2.blk b4 (HOF.out _ (by omega))
  have b62 := c2.blk b6 (HOF.out _ (by omega))
  have HD : Hid (DoQ w0 St' O w w2) := DoQ.of ⟨O2, s2, c2⟩ gW hz HOF.out HW0.out
  clear s2 c2 b3 b4 b6 gW hz
  have hc4 := b42.cell
  have hf4 := b42.frozen
  have hc6 := b62.cell
  have hf6 := b62.frozen
  have HB4 := Lib.hid b42
  clear b42 b62
  go_wp2
  obtain ⟨W3, hW3⟩ : ∃ W3, W3 = w2.setCell ⟨w.heap.size + 1 + 1, 2, none⟩ (.int .i64 er) := ⟨_, rfl⟩
  rw [← hW3]
  have hb3 : Blk W3 (w.heap.size + 1) 38 #[.slice none 0 0, .int .i64 0, .int .i64 0] := by rw [hW3]; exact HB4.out.far (by simp) _
  have hd3 : DoQ w0 St' O w W3 := by rw [hW3]; exact HD.out.set hS' (.inr rfl) _ _
  obtain ⟨WF, hWF⟩ : ∃ WF, WF = ((W3.setCell ⟨w.heap.size + 1, 0, none⟩ (.slice none 0 0)).setCell ⟨w.heap.size + 1, 1, none⟩ (.int .i64 0)).setCell ⟨w.heap.size + 1, 2, none⟩ (.int .i64 er) := ⟨_, rfl⟩
  rw [← hWF]
  have hcf := qfin (by rfl) hb3 _ _ _ hWF
  have HDF : Hid (DoQ w0 St' O w WF) := by show DoQ _ _ _ _ _; rw [hWF]; exact ((hd3.set hS' (.inl rfl) _ _).set hS' (.inl rfl) _ _).set hS' (.inl rfl) _ _
  clear hWF hW3 hb3 hd3 hc4 hf4 hc6 hf6
  exact bodyPost_ret (v := .agg #[.slice none 0 0, .int .i64 0, .int .i64 er]) (by simp [results, Tryz.results13, go_sem, hcf]) rfl (ToldQ.none_ HDF.out.stn)
theorem qdoes_on (hS : Sta w0 St) (hS' : Sta w0 St') (h : St O w) (n : List UInt8) (k : Int) (bv : Value) {er : Nat}
    (hc : ∀ W, w.grownBy W none → Calls Tryz.prog 19 #[.pointer (some ⟨d, 0, none⟩), .slice none 0 0] W fun e w' => e = .returned (.int .i64 er) ∧ StN St' O W w') :
    Calls Tryz.prog 13 #[.pointer (some ⟨p, 0, none⟩), .pointer (some ⟨d, 0, none⟩), .agg #[.int .i64 10, .string ⟨n.toArray⟩, .int .i64 k, bv]] w (ToldQ St' O w [] 0 er) := by
  have HC := Lib.hid hc
  have HOF : Hid (∀ k, w.heap.size ≤ k → O k = none) := fun k hk => hS.fresh h hk
  have HW0 := Lib.hid (hS.gr h).size
  clear h hc
  go_enter Tryz.func13, Tryz.ntmps13
  go_wp2_with fail
  obtain ⟨W, hW⟩ : ∃ W, W = ((w.alloc (.cells #[.int .i64 10, .string ⟨n.toArray⟩, .int .i64 k, bv] 35)).alloc (.cells #[.slice none 0 0, .int .i64 0, .int .i64 0] 38)).alloc (.cells #[.slice none 0 0, .int .i64 0, .int .i64 0] 38) := ⟨_, rfl⟩
  rw [← hW]
  obtain ⟨b3, b4, b6, gW⟩ := does3q w _ hW
  have hz : w.heap.size + 3 ≤ W.heap.size := by rw [hW]; simp only [World.size_alloc]; omega
  clear hW
  refine (HC.out W gW).mono ?_
  rintro e w2 ⟨rfl, O2, s2, c2⟩
  have b42 := c2.blk b4 (HOF.out _ (by omega))
  have b62 := c2.blk b6 (HOF.out _ (by omega))
  have HD : Hid (DoQ w0 St' O w w2) := DoQ.of ⟨O2, s2, c2⟩ gW hz HOF.out HW0.out
  clear s2 c2 b3 b4 b6 gW hz
  have hc4 := b42.cell
  have hf4 := b42.frozen
  have hc6 := b62.cell
  have hf6 := b62.frozen
  have HB4 := Lib.hid b42
  clear b42 b62
  go_wp2
  obtain ⟨W3, hW3⟩ : ∃ W3, W3 = w2.setCell ⟨w.heap.size + 1 + 1, 2, none⟩ (.int .i64 er) := ⟨_, rfl⟩
  rw [← hW3]
  have hb3 : Blk W3 (w.heap.size + 1) 38 #[.slice none 0 0, .int .i64 0, .int .i64 0] := by rw [hW3]; exact HB4.out.far (by simp) _
  have hd3 : DoQ w0 St' O w W3 := by rw [hW3]; exact HD.out.set hS' (.inr rfl) _ _
  obtain ⟨WF, hWF⟩ : ∃ WF, WF = ((W3.setCell ⟨w.heap.size + 1, 0, none⟩ (.slice none 0 0)).setCell ⟨w.heap.size + 1, 1, none⟩ (.int .i64 0)).setCell ⟨w.heap.size + 1, 2, none⟩ (.int .i64 er) := ⟨_, rfl⟩
  rw [← hWF]
  have hcf := qfin (by rfl) hb3 _ _ _ hWF
  have HDF : Hid (DoQ w0 St' O w WF) := by show DoQ _ _ _ _ _; rw [hWF]; exact ((hd3.set hS' (.inl rfl) _ _).set hS' (.inl rfl) _ _).set hS' (.inl rfl) _ _
  clear hWF hW3 hb3 hd3 hc4 hf4 hc6 hf6
  exact bodyPost_ret (v := .agg #[.slice none 0 0, .int .i64 0, .int .i64 er]) (by simp [results, Tryz.results13, go_sem, hcf]) rfl (ToldQ.none_ HDF.out.stn)
theorem qdoes_flip (hS : Sta w0 St) (hS' : Sta w0 St') (h : St O w) (n : List UInt8) (k : Int) (bv : Value) {er : Nat}
    (hc : ∀ W, w.grownBy W none → Calls Tryz.prog 51 #[.pointer (some ⟨d, 0, none⟩), .string ⟨n.toArray⟩, .int .i64 k, .int .u8 1] W fun e w' => e = .returned (.int .i64 er) ∧ StN St' O W w') :
    Calls Tryz.prog 13 #[.pointer (some ⟨p, 0, none⟩), .pointer (some ⟨d, 0, none⟩), .agg #[.int .i64 11, .string ⟨n.toArray⟩, .int .i64 k, bv]] w (ToldQ St' O w [] 0 er) := by
  have HC := Lib.hid hc
  have HOF : Hid (∀ k, w.heap.size ≤ k → O k = none) := fun k hk => hS.fresh h hk
  have HW0 := Lib.hid (hS.gr h).size
  clear h hc
  go_enter Tryz.func13, Tryz.ntmps13
  go_wp2_with fail
  obtain ⟨W, hW⟩ : ∃ W, W = ((w.alloc (.cells #[.int .i64 11, .string ⟨n.toArray⟩, .int .i64 k, bv] 35)).alloc (.cells #[.slice none 0 0, .int .i64 0, .int .i64 0] 38)).alloc (.cells #[.slice none 0 0, .int .i64 0, .int .i64 0] 38) := ⟨_, rfl⟩
  rw [← hW]
  obtain ⟨b3, b4, b6, gW⟩ := does3q w _ hW
  have hz : w.heap.size + 3 ≤ W.heap.size := by rw [hW]; simp only [World.size_alloc]; omega
  clear hW
  refine (HC.out W gW).mono ?_
  rintro e w2 ⟨rfl, O2, s2, c2⟩
  have b42 := c2.blk b4 (HOF.out _ (by omega))
  have b62 := c2.blk b6 (HOF.out _ (by omega))
  have HD : Hid (DoQ w0 St' O w w2) := DoQ.of ⟨O2, s2, c2⟩ gW hz HOF.out HW0.out
  clear s2 c2 b3 b4 b6 gW hz
  have hc4 := b42.cell
  have hf4 := b42.frozen
  have hc6 := b62.cell
  have hf6 := b62.frozen
  have HB4 := Lib.hid b42
  clear b42 b62
  go_wp2
  obtain ⟨W3, hW3⟩ : ∃ W3, W3 = w2.setCell ⟨w.heap.size + 1 + 1, 2, none⟩ (.int .i64 er) := ⟨_, rfl⟩
  rw [← hW3]
  have hb3 : Blk W3 (w.heap.size + 1) 38 #[.slice none 0 0, .int .i64 0, .int .i64 0] := by rw [hW3]; exact HB4.out.far (by simp) _
  have hd3 : DoQ w0 St' O w W3 := by rw [hW3]; exact HD.out.set hS' (.inr rfl) _ _
  obtain ⟨WF, hWF⟩ : ∃ WF, WF = ((W3.setCell ⟨w.heap.size + 1, 0, none⟩ (.slice none 0 0)).setCell ⟨w.heap.size + 1, 1, none⟩ (.int .i64 0)).setCell ⟨w.heap.size + 1, 2, none⟩ (.int .i64 er) := ⟨_, rfl⟩
  rw [← hWF]
  have hcf := qfin (by rfl) hb3 _ _ _ hWF
  have HDF : Hid (DoQ w0 St' O w WF) := by show DoQ _ _ _ _ _; rw [hWF]; exact ((hd3.set hS' (.inl rfl) _ _).set hS' (.inl rfl) _ _).set hS' (.inl rfl) _ _
  clear hWF hW3 hb3 hd3 hc4 hf4 hc6 hf6
  exact bodyPost_ret (v := .agg #[.slice none 0 0, .int .i64 0, .int .i64 er]) (by simp [results, Tryz.results13, go_sem, hcf]) rfl (ToldQ.none_ HDF.out.stn)
theorem qdoes_pages (hS : Sta w0 St) (hS' : Sta w0 St') (h : St O w) (n : List UInt8) (k : Int) (bv : Value) {er : Nat} {cnt : Int}
    (hc : ∀ W, w.grownBy W none → Calls Tryz.prog 20 #[.pointer (some ⟨p, 0, none⟩), .string ⟨n.toArray⟩] W fun e w' => e = .returned (.tuple #[.int .i64 cnt, .int .i64 er]) ∧ StN St' O W w') :
    Calls Tryz.prog 13 #[.pointer (some ⟨p, 0, none⟩), .pointer (some ⟨d, 0, none⟩), .agg #[.int .i64 2, .string ⟨n.toArray⟩, .int .i64 k, bv]] w (ToldQ St' O w [] cnt er) := by
  have HC := Lib.hid hc
  have HOF : Hid (∀ k, w.heap.size ≤ k → O k = none) := fun k hk => hS.fresh h hk
  have HW0 := Lib.hid (hS.gr h).size
  clear h hc
  go_enter Tryz.func13, Tryz.ntmps13
  go_wp2_with fail
  obtain ⟨W, hW⟩ : ∃ W, W = ((w.alloc (.cells #[.int .i64 2, .string ⟨n.toArray⟩, .int .i64 k, bv] 35)).alloc (.cells #[.slice none 0 0, .int .i64 0, .int .i64 0] 38)).alloc (.cells #[.slice none 0 0, .int .i64 0, .int .i64 0] 38) := ⟨_, rfl⟩
  rw [← hW]
  obtain ⟨b3, b4, b6, gW⟩ := does3q w _ hW
  have hz : w.heap.size + 3 ≤ W.heap.size := by rw [hW]; simp only [World.size_alloc]; omega
  clear hW
  refine (HC.out W gW).mono ?_
  rintro e w2 ⟨rfl, O2, s2, c2⟩
  have b42 := c2.blk b4 (HOF.out _ (by omega))
  have b62 := c2.blk b6 (HOF.out _ (by omega))
  have HD : Hid (DoQ w0 St' O w w2) := DoQ.of ⟨O2, s2, c2⟩ gW hz HOF.out HW0.out
  clear s2 c2 b3 b4 b6 gW hz
  have hc4 := b42.cell
  have hf4 := b42.frozen
  have hc6 := b62.cell
  have hf6 := b62.frozen
  have HB4 := Lib.hid b42
  clear b42 b62
  go_wp2
  obtain ⟨W3, hW3⟩ : ∃ W3, W3 = (w2.setCell ⟨w.heap.size + 1 + 1, 1, none⟩ (.int .i64 cnt)).setCell ⟨w.heap.size + 1 + 1, 2, none⟩ (.int .i64 er) := ⟨_, rfl⟩
  rw [← hW3]
  have hb3 : Blk W3 (w.heap.size + 1) 38 #[.slice none 0 0, .int .i64 0, .int .i64 0] := by rw [hW3]; exact (HB4.out.far (by simp) _).far (by simp) _
  have hd3 : DoQ w0 St' O w W3 := by rw [hW3]; exact (HD.out.set hS' (.inr rfl) _ _).set hS' (.inr rfl) _ _
  obtain ⟨WF, hWF⟩ : ∃ WF, WF = ((W3.setCell ⟨w.heap.size + 1, 0, none⟩ (.slice none 0 0)).setCell ⟨w.heap.size + 1, 1, none⟩ (.int .i64 cnt)).setCell ⟨w.heap.size + 1, 2, none⟩ (.int .i64 er) := ⟨_, rfl⟩
  rw [← hWF]
  have hcf := qfin (by rfl) hb3 _ _ _ hWF
  have HDF : Hid (DoQ w0 St' O w WF) := by show DoQ _ _ _ _ _; rw [hWF]; exact ((hd3.set hS' (.inl rfl) _ _).set hS' (.inl rfl) _ _).set hS' (.inl rfl) _ _
  clear hWF hW3 hb3 hd3 hc4 hf4 hc6 hf6
  exact bodyPost_ret (v := .agg #[.slice none 0 0, .int .i64 cnt, .int .i64 er]) (by simp [results, Tryz.results13, go_sem, hcf]) rfl (ToldQ.none_ HDF.out.stn)
theorem qdoes_other (hS : Sta w0 St) (h : St O w) {kd : Int} (hkd : kd ≠ 0 ∧ kd ≠ 1 ∧ kd ≠ 2 ∧ kd ≠ 3 ∧ kd ≠ 4 ∧ kd ≠ 5 ∧ kd ≠ 6 ∧ kd ≠ 7 ∧ kd ≠ 8 ∧ kd ≠ 9 ∧ kd ≠ 10 ∧ kd ≠ 11) (n : List UInt8) (k : Int) (bv : Value) :
    Calls Tryz.prog 13 #[.pointer (some ⟨p, 0, none⟩), .pointer (some ⟨d, 0, none⟩), .agg #[.int .i64 kd, .string ⟨n.toArray⟩, .int .i64 k, bv]] w (ToldQ St O w [] 0 0) := by
  have H := Lib.hid h
  obtain ⟨n0, n1, n2, n3, n4, n5, n6, n7, n8, n9, n10, n11⟩ := hkd
  clear h
  go_enter Tryz.func13, Tryz.ntmps13
  go_wp2_with fail
  obtain ⟨W, hW⟩ : ∃ W, W = ((w.alloc (.cells #[.int .i64 kd, .string ⟨n.toArray⟩, .int .i64 k, bv] 35)).alloc (.cells #[.slice none 0 0, .int .i64 0, .int .i64 0] 38)).alloc (.cells #[.slice none 0 0, .int .i64 0, .int .i64 0] 38) := ⟨_, rfl⟩
  rw [← hW]
  obtain ⟨b3, b4, b6, gW⟩ := does3q w _ hW
  have HDF : Hid (StN St O w W) := ⟨O, hS.ext H.out gW, Ch.ext gW⟩
  have hcf : ∀ i, W.cell? ⟨w.heap.size + 1, i, none⟩ = #[.slice none 0 0, .int .i64 0, .int .i64 0][i]? := b4.cell
  clear hW b3 b4 b6 gW
  exact bodyPost_ret (v := .agg #[.slice none 0 0, .int .i64 0, .int .i64 0]) (by simp [results, Tryz.results13, go_sem, hcf]) rfl (ToldQ.none_ HDF.out)
set_option maxHeartbeats 2000000 in
theorem qdoes_pin (hS : Sta w0 St) {SF : Nat → Own1 → World → Prop} (hSF : ∀ er, Sta w0 (SF er)) (h : St O w) (n : List UInt8) (k : Int) (bv : Value) {P : List UInt8 → Nat → Prop} (hP : ∀ r er, P r er → r.length ≤ 100000)
    (hc : ∀ W, w.grownBy W none → Calls Tryz.prog 47 #[.pointer (some ⟨p, 0, none⟩), .string ⟨n.toArray⟩, .int .i64 k] W fun e w' => ∃ v r er, P r er ∧ e = .returned (.tuple #[v, .int .i64 er]) ∧ OwnB w' W.heap.size v r ∧ ∃ O', SF er O' w' ∧ Ch O W O' w' ∧ ∀ q, blk v = some q → O' q = none) :
    Calls Tryz.prog 13 #[.pointer (some ⟨p, 0, none⟩), .pointer (some ⟨d, 0, none⟩), .agg #[.int .i64 3, .string ⟨n.toArray⟩, .int .i64 k, bv]] w (fun e w' => ∃ r er, P r er ∧ ToldQ (SF er) O w r 0 er e w') := by
  have HC := Lib.hid hc
  have HOF : Hid (∀ k, w.heap.size ≤ k → O k = none) := fun k hk => hS.fresh h hk
  have HW0 := Lib.hid (hS.gr h).size
  clear h hc
  go_enter Tryz.func13, Tryz.ntmps13
  go_wp2_with fail
  obtain ⟨W, hW⟩ : ∃ W, W = ((w.alloc (.cells #[.int .i64 3, .string ⟨n.toArray⟩, .int .i64 k, bv] 35)).alloc (.cells #[.slice none 0 0, .int .i64 0, .int .i64 0] 38)).alloc (.cells #[.slice none 0 0, .int .i64 0, .int .i64 0] 38) := ⟨_, rfl⟩
  rw [← hW]
  obtain ⟨b3, b4, b6, gW⟩ := does3q w _ hW
  have hz : w.heap.size + 3 ≤ W.heap.size := by rw [hW]; simp only [World.size_alloc]; omega
  clear hW
  refine (HC.out W gW).mono ?_
  rintro e w2 ⟨v2, r, er, hpr, rfl, ho2, O2, s2, c2, hown⟩
  have HRL := Lib.hid (hP r er hpr)
  have HPR := Lib.hid hpr
  clear hpr hP
  obtain ⟨A2, c9, hv2⟩ := RdB.form ho2.rd
  have h42 := c2.blk b4 (HOF.out _ (by omega))
  have h62 := c2.blk b6 (HOF.out _ (by omega))
  have HLT : Hid (∀ q, blk v2 = some q → q < w2.heap.size) := fun q e => (Own.blk_lt ho2 (by omega) e).2
  have HDV : Hid (DvQ w0 (SF er) O w w2 W.heap.size v2 r w2.heap.size) := ⟨ho2, hz, O2, s2, (Ch.ext gW).trans c2, c2.free _ (by omega) (HOF.out _ (by omega)), c2.free _ (by omega) (HOF.out _ (by omega)), HW0.out, fun q hq => (hSF er).fresh s2 hq, hown⟩
  have hz2 : w.heap.size + 3 ≤ w2.heap.size := Nat.le_trans hz c2.size
  have HZ2 := Lib.hid hz2
  have HZ := Lib.hid hz
  have HB4 := Lib.hid h42
  have HB6 := Lib.hid h62
  have hc6 := h62.cell
  have hf6 := h62.frozen
  clear b3 b4 b6 gW s2 c2 ho2 hown h42 h62 hz hz2 HC
  subst hv2
  go_wp2_with fail
  obtain ⟨W4, hW4⟩ : ∃ W4, W4 = w2.setCell ⟨w.heap.size + 1 + 1, 2, none⟩ (.int .i64 er) := ⟨_, rfl⟩
  rw [← hW4]
  have hdv4 : DvQ w0 (SF er) O w W4 W.heap.size (.slice A2 r.length c9) r w2.heap.size := by rw [hW4]; exact HDV.out.put (hSF er) (.inr rfl) _ _
  have h44 : Blk W4 (w.heap.size + 1) 38 #[.slice none 0 0, .int .i64 0, .int .i64 0] := by rw [hW4]; exact HB4.out.far (by simp) _
  have h64 : Blk W4 (w.heap.size + 2) 38 #[.slice none 0 0, .int .i64 0, .int .i64 er] := by rw [hW4]; exact HB6.out.set 2 _
  have hz4 : w2.heap.size ≤ W4.heap.size := by rw [hW4]; exact (gr_setCell w2 _ _).size
  have HCP := Lib.hid (copyBytes_any (.slice A2 r.length c9) r W4 hdv4.1.rd (by have := HRL.out; omega))
  refine HCP.out.mono ?_
  rintro e w5 ⟨v5, rfl, o5, g5⟩
  obtain ⟨A5, c5, hv5⟩ := RdB.form o5.rd
  have HV5 := Lib.hid (hdv4.ext (hSF er) g5)
  have H45 := Lib.hid (h44.ext g5)
  have h65 := h64.ext g5
  have H65 := Lib.hid h65
  have HO5 : Hid (OwnB w5 w2.heap.size v5 r) := Own.mono o5 hz4
  have hc6 := h65.cell
  have hf6 := h65.frozen
  clear hW4 hdv4 h44 h64 h65 o5 g5 hz4 HCP HB4 HB6 HDV
  subst hv5
  go_wp2_with fail
  obtain ⟨W6, hW6⟩ : ∃ W6, W6 = w5.setCell ⟨w.heap.size + 1 + 1, 0, none⟩ (.slice A5 r.length c5) := ⟨_, rfl⟩
  rw [← hW6]
  have HV6 : Hid (DvQ w0 (SF er) O w W6 W.heap.size (.slice A2 r.length c9) r w2.heap.size) := by show DvQ _ _ _ _ _ _ _ _ _; rw [hW6]; exact HV5.out.put (hSF er) (.inr rfl) _ _
  have H46 : Hid (Blk W6 (w.heap.size + 1) 38 #[.slice none 0 0, .int .i64 0, .int .i64 0]) := by show Blk _ _ _ _; rw [hW6]; exact H45.out.far (by simp) _
  have H66 : Hid (Blk W6 (w.heap.size + 2) 38 #[.slice A5 r.length c5, .int .i64 0, .int .i64 er]) := by show Blk _ _ _ _; rw [hW6]; exact H65.out.set 0 _
  have hof : ∀ (wx : World) (K off : Nat) (x : Value), K < w2.heap.size → OwnB wx w2.heap.size (.slice A5 r.length c5) r → OwnB (wx.setCell ⟨K, off, none⟩ x) w2.heap.size (.slice A5 r.length c5) r   := fun wx K off x hK h => Own.off h (gr_setCell wx ⟨K, off, none⟩ x) fun q e e2 => by
    have hq : K = q := Option.some.inj e
    have := (Own.blk_lt h (by omega) e2).1
    omega
  have HOF2 := Lib.hid hof
  have HO6 : Hid (OwnB W6 w2.heap.size (.slice A5 r.length c5) r) := by
    show OwnB _ _ _ _
    have hz2 := HZ2.out
    rw [hW6]
    exact HOF2.out _ _ 0 _ (by omega) HO5.out
  have hrl := HRL.out
  have hzz := HZ.out
  clear hW6 hc6 hf6 HV5 H45 H65 HO5 hof
  go_loopw [9] (fun iv wr => ∃ (k : Nat) (bs : List UInt8), k ≤ r.length ∧ iv = .int .i64 k ∧ bs.length = r.length ∧ DvQ w0 (SF er) O w wr W.heap.size (.slice A2 bs.length c9) bs w2.heap.size ∧ Blk wr (w.heap.size + 1) 38 #[.slice none 0 0, .int .i64 0, .int .i64 0] ∧ Blk wr (w.heap.size + 2) 38 #[.slice A5 r.length c5, .int .i64 0, .int .i64 er] ∧ OwnB wr w2.heap.size (.slice A5 r.length c5) r) (fun iv _ => r.length - (intOf iv).toNat)
  case atStart => exact ⟨0, r, Nat.zero_le _, rfl, rfl, HV6.out, H46.out, H66.out, HO6.out⟩
  case round =>
    obtain ⟨k, bs, hk, rfl, hbs, hdv, h4, h6, ho⟩ := hrel
    by_cases hlt : k < r.length
    · obtain ⟨g, off, hA, hgB, hc, hfr, hcell, hput⟩ := hdv.byte (hSF er) (k := k) (by omega)
      have HPUT := Lib.hid (hput 238)
      have hgB2 := HZ.out
      have H4P : Hid (Blk (wr.setCell ⟨g, off + k, none⟩ (.int .u8 238)) (w.heap.size + 1) 38 #[.slice none 0 0, .int .i64 0, .int .i64 0]) := h4.far (by show _ ≠ _; simp; omega) _
      have H6P : Hid (Blk (wr.setCell ⟨g, off + k, none⟩ (.int .u8 238)) (w.heap.size + 2) 38 #[.slice A5 r.length c5, .int .i64 0, .int .i64 er]) := h6.far (by show _ ≠ _; simp; omega) _
      have hgl : g < w2.heap.size := HLT.out g (by subst hA; show (if c9 = 0 then none else some g) = some g; rw [if_neg (by omega)])
      have HOP : Hid (OwnB (wr.setCell ⟨g, off + k, none⟩ (.int .u8 238)) w2.heap.size (.slice A5 r.length c5) r) := HOF2.out _ g _ _ hgl ho
      obtain ⟨q8, hc8⟩ : ∃ q : Int, wr.cell? ⟨g, off + k, none⟩ = some (.int .u8 q) := ⟨_, hcell⟩
      have HBS := Lib.hid hbs
      clear hput hdv h4 h6 ho hcell hbs hgl hgB2
      subst hA
      go_wp2_with fail
      go_roundw
      case rel => exact ⟨k + 1, bs.set k 238, by omega, by go_num, by rw [List.length_set]; exact HBS.out, HPUT.out, H4P.out, H6P.out, HOP.out⟩
      case measure => simp [intOf] <;> omega
    · have hq4 := h4.cell
      have hfz4 := h4.frozen
      have h60 : wr.cell? ⟨w.heap.size + 1 + 1, 0, none⟩ = some (.slice A5 r.length c5) := h6.cell 0
      have h61 : wr.cell? ⟨w.heap.size + 1 + 1, 1, none⟩ = some (.int .i64 0) := h6.cell 1
      have h62 : wr.cell? ⟨w.heap.size + 1 + 1, 2, none⟩ = some (.int .i64 er) := h6.cell 2
      have HB2 := Lib.hid h4
      have HD2 := Lib.hid hdv
      have HO := Lib.hid ho
      obtain rfl : k = r.length := by omega
      clear h4 h6 hdv hbs ho
      go_wp2_with fail
      obtain ⟨WF, hWF⟩ : ∃ WF, WF = ((wr.setCell ⟨w.heap.size + 1, 0, none⟩ (.slice A5 r.length c5)).setCell ⟨w.heap.size + 1, 1, none⟩ (.int .i64 0)).setCell ⟨w.heap.size + 1, 2, none⟩ (.int .i64 er) := ⟨_, rfl⟩
      rw [← hWF]
      have hcf := qfin (by rfl) HB2.out _ _ _ hWF
      have HDF : Hid (DvQ w0 (SF er) O w WF W.heap.size (.slice A2 bs.length c9) bs w2.heap.size) := by show DvQ _ _ _ _ _ _ _ _ _; rw [hWF]; exact ((HD2.out.put (hSF er) (.inl rfl) _ _).put (hSF er) (.inl rfl) _ _).put (hSF er) (.inl rfl) _ _
      have HRF : Hid (OwnB WF w2.heap.size (.slice A5 r.length c5) r) := by
        show OwnB _ _ _ _
        have hz2 := HZ2.out
        rw [hWF]
        exact HOF2.out _ _ 2 _ (by omega) (HOF2.out _ _ 1 _ (by omega) (HOF2.out _ _ 0 _ (by omega) HO.out))
      clear hWF hq4 hfz4 h60 h61 h62
      refine bodyPost_ret (v := .agg #[.slice A5 r.length c5, .int .i64 0, .int .i64 er]) (by simp [results, Tryz.results13, go_sem, hcf]) rfl ?_
      obtain ⟨-, -, O9, s9, c9', -, -, -, z9, -⟩ := HDF.out
      have hz2 := HZ2.out
      exact ⟨r, er, HPR.out, A5, c5, rfl, Own.mono HRF.out (by omega), O9, s9, c9', fun q e => z9 q (Own.blk_lt HRF.out (by omega) e).1⟩
set_option maxHeartbeats 2000000 in
theorem qdoes_read (hS : Sta w0 St) {SF : Nat → Own1 → World → Prop} (hSF : ∀ er, Sta w0 (SF er)) (h : St O w) (n : List UInt8) (k : Int) (bv : Value) {P : List UInt8 → Nat → Prop} (hP : ∀ r er, P r er → r.length ≤ 100000)
    (hc : ∀ W, w.grownBy W none → Calls Tryz.prog 21 #[.pointer (some ⟨p, 0, none⟩), .string ⟨n.toArray⟩, .int .i64 k] W fun e w' => ∃ v r er, P r er ∧ e = .returned (.tuple #[v, .int .i64 er]) ∧ OwnB w' W.heap.size v r ∧ ∃ O', SF er O' w' ∧ Ch O W O' w' ∧ ∀ q, blk v = some q → O' q = none) :
    Calls Tryz.prog 13 #[.pointer (some ⟨p, 0, none⟩), .pointer (some ⟨d, 0, none⟩), .agg #[.int .i64 5, .string ⟨n.toArray⟩, .int .i64 k, bv]] w (fun e w' => ∃ r er, P r er ∧ ToldQ (SF er) O w r 0 er e w') := by
  have HC := Lib.hid hc
  have HOF : Hid (∀ k, w.heap.size ≤ k → O k = none) := fun k hk => hS.fresh h hk
  have HW0 := Lib.hid (hS.gr h).size
  clear h hc
  go_enter Tryz.func13, Tryz.ntmps13
  go_wp2_with fail
  obtain ⟨W, hW⟩ : ∃ W, W = ((w.alloc (.cells #[.int .i64 5, .string ⟨n.toArray⟩, .int .i64 k, bv] 35)).alloc (.cells #[.slice none 0 0, .int .i64 0, .int .i64 0] 38)).alloc (.cells #[.slice none 0 0, .int .i64 0, .int .i64 0] 38) := ⟨_, rfl⟩
  rw [← hW]
  obtain ⟨b3, b4, b6, gW⟩ := does3q w _ hW
  have hz : w.heap.size + 3 ≤ W.heap.size := by rw [hW]; simp only [World.size_alloc]; omega
  clear hW
  refine (HC.out W gW).mono ?_
  rintro e w2 ⟨v2, r, er, hpr, rfl, ho2, O2, s2, c2, hown⟩
  have HRL := Lib.hid (hP r er hpr)
  have HPR := Lib.hid hpr
  clear hpr hP
  obtain ⟨A2, c9, hv2⟩ := RdB.form ho2.rd
  have h42 := c2.blk b4 (HOF.out _ (by omega))
  have h62 := c2.blk b6 (HOF.out _ (by omega))
  have HLT : Hid (∀ q, blk v2 = some q → q < w2.heap.size) := fun q e => (Own.blk_lt ho2 (by omega) e).2
  have HDV : Hid (DvQ w0 (SF er) O w w2 W.heap.size v2 r w2.heap.size) := ⟨ho2, hz, O2, s2, (Ch.ext gW).trans c2, c2.free _ (by omega) (HOF.out _ (by omega)), c2.free _ (by omega) (HOF.out _ (by omega)), HW0.out, fun q hq => (hSF er).fresh s2 hq, hown⟩
  have hz2 : w.heap.size + 3 ≤ w2.heap.size := Nat.le_trans hz c2.size
  have HZ2 := Lib.hid hz2
  have HZ := Lib.hid hz
  have HB4 := Lib.hid h42
  have HB6 := Lib.hid h62
  have hc6 := h62.cell
  have hf6 := h62.frozen
  clear b3 b4 b6 gW s2 c2 ho2 hown h42 h62 hz hz2 HC
  subst hv2
  go_wp2_with fail
  obtain ⟨W4, hW4⟩ : ∃ W4, W4 = w2.setCell ⟨w.heap.size + 1 + 1, 2, none⟩ (.int .i64 er) := ⟨_, rfl⟩
  rw [← hW4]
  have hdv4 : DvQ w0 (SF er) O w W4 W.heap.size (.slice A2 r.length c9) r w2.heap.size := by rw [hW4]; exact HDV.out.put (hSF er) (.inr rfl) _ _
  have h44 : Blk W4 (w.heap.size + 1) 38 #[.slice none 0 0, .int .i64 0, .int .i64 0] := by rw [hW4]; exact HB4.out.far (by simp) _
  have h64 : Blk W4 (w.heap.size + 2) 38 #[.slice none 0 0, .int .i64 0, .int .i64 er] := by rw [hW4]; exact HB6.out.set 2 _
  have hz4 : w2.heap.size ≤ W4.heap.size := by rw [hW4]; exact (gr_setCell w2 _ _).size
  have HCP := Lib.hid (copyBytes_any (.slice A2 r.length c9) r W4 hdv4.1.rd (by have := HRL.out; omega))
  refine HCP.out.mono ?_
  rintro e w5 ⟨v5, rfl, o5, g5⟩
  obtain ⟨A5, c5, hv5⟩ := RdB.form o5.rd
  have HV5 := Lib.hid (hdv4.ext (hSF er) g5)
  have H45 := Lib.hid (h44.ext g5)
  have h65 := h64.ext g5
  have H65 := Lib.hid h65
  have HO5 : Hid (OwnB w5 w2.heap.size v5 r) := Own.mono o5 hz4
  have hc6 := h65.cell
  have hf6 := h65.frozen
  clear hW4 hdv4 h44 h64 h65 o5 g5 hz4 HCP HB4 HB6 HDV
  subst hv5
  go_wp2_with fail
  obtain ⟨W6, hW6⟩ : ∃ W6, W6 = w5.setCell ⟨w.heap.size + 1 + 1, 0, none⟩ (.slice A5 r.length c5) := ⟨_, rfl⟩
  rw [← hW6]
  have HV6 : Hid (DvQ w0 (SF er) O w W6 W.heap.size (.slice A2 r.length c9) r w2.heap.size) := by show DvQ _ _ _ _ _ _ _ _ _; rw [hW6]; exact HV5.out.put (hSF er) (.inr rfl) _ _
  have H46 : Hid (Blk W6 (w.heap.size + 1) 38 #[.slice none 0 0, .int .i64 0, .int .i64 0]) := by show Blk _ _ _ _; rw [hW6]; exact H45.out.far (by simp) _
  have H66 : Hid (Blk W6 (w.heap.size + 2) 38 #[.slice A5 r.length c5, .int .i64 0, .int .i64 er]) := by show Blk _ _ _ _; rw [hW6]; exact H65.out.set 0 _
  have hof : ∀ (wx : World) (K off : Nat) (x : Value), K < w2.heap.size → OwnB wx w2.heap.size (.slice A5 r.length c5) r → OwnB (wx.setCell ⟨K, off, none⟩ x) w2.heap.size (.slice A5 r.length c5) r   := fun wx K off x hK h => Own.off h (gr_setCell wx ⟨K, off, none⟩ x) fun q e e2 => by
    have hq : K = q := Option.some.inj e
    have := (Own.blk_lt h (by omega) e2).1
    omega
  have HOF2 := Lib.hid hof
  have HO6 : Hid (OwnB W6 w2.heap.size (.slice A5 r.length c5) r) := by
    show OwnB _ _ _ _
    have hz2 := HZ2.out
    rw [hW6]
    exact HOF2.out _ _ 0 _ (by omega) HO5.out
  have hrl := HRL.out
  have hzz := HZ.out
  clear hW6 hc6 hf6 HV5 H45 H65 HO5 hof
  go_loopw [9] (fun iv wr => ∃ (k : Nat) (bs : List UInt8), k ≤ r.length ∧ iv = .int .i64 k ∧ bs.length = r.length ∧ DvQ w0 (SF er) O w wr W.heap.size (.slice A2 bs.length c9) bs w2.heap.size ∧ Blk wr (w.heap.size + 1) 38 #[.slice none 0 0, .int .i64 0, .int .i64 0] ∧ Blk wr (w.heap.size + 2) 38 #[.slice A5 r.length c5, .int .i64 0, .int .i64 er] ∧ OwnB wr w2.heap.size (.slice A5 r.length c5) r) (fun iv _ => r.length - (intOf iv).toNat)
  case atStart => exact ⟨0, r, Nat.zero_le _, rfl, rfl, HV6.out, H46.out, H66.out, HO6.out⟩
  case round =>
    obtain ⟨k, bs, hk, rfl, hbs, hdv, h4, h6, ho⟩ := hrel
    by_cases hlt : k < r.length
    · obtain ⟨g, off, hA, hgB, hc, hfr, hcell, hput⟩ := hdv.byte (hSF er) (k := k) (by omega)
      have HPUT := Lib.hid (hput 238)
      have hgB2 := HZ.out
      have H4P : Hid (Blk (wr.setCell ⟨g, off + k, none⟩ (.int .u8 238)) (w.heap.size + 1) 38 #[.slice none 0 0, .int .i64 0, .int .i64 0]) := h4.far (by show _ ≠ _; simp; omega) _
      have H6P : Hid (Blk (wr.setCell ⟨g, off + k, none⟩ (.int .u8 238)) (w.heap.size + 2) 38 #[.slice A5 r.length c5, .int .i64 0, .int .i64 er]) := h6.far (by show _ ≠ _; simp; omega) _
      have hgl : g < w2.heap.size := HLT.out g (by subst hA; show (if c9 = 0 then none else some g) = some g; rw [if_neg (by omega)])
      have HOP : Hid (OwnB (wr.setCell ⟨g, off + k, none⟩ (.int .u8 238)) w2.heap.size (.slice A5 r.length c5) r) := HOF2.out _ g _ _ hgl ho
      obtain ⟨q8, hc8⟩ : ∃ q : Int, wr.cell? ⟨g, off + k, none⟩ = some (.int .u8 q) := ⟨_, hcell⟩
      have HBS := Lib.hid hbs
      clear hput hdv h4 h6 ho hcell hbs hgl hgB2
      subst hA
      go_wp2_with fail
      go_roundw
      case rel => exact ⟨k + 1, bs.set k 238, by omega, by go_num, by rw [List.length_set]; exact HBS.out, HPUT.out, H4P.out, H6P.out, HOP.out⟩
      case measure => simp [intOf] <;> omega
    · have hq4 := h4.cell
      have hfz4 := h4.frozen
      have h60 : wr.cell? ⟨w.heap.size + 1 + 1, 0, none⟩ = some (.slice A5 r.length c5) := h6.cell 0
      have h61 : wr.cell? ⟨w.heap.size + 1 + 1, 1, none⟩ = some (.int .i64 0) := h6.cell 1
      have h62 : wr.cell? ⟨w.heap.size + 1 + 1, 2, none⟩ = some (.int .i64 er) := h6.cell 2
      have HB2 := Lib.hid h4
      have HD2 := Lib.hid hdv
      have HO := Lib.hid ho
      obtain rfl : k = r.length := by omega
      clear h4 h6 hdv hbs ho
      go_wp2_with fail
      obtain ⟨WF, hWF⟩ : ∃ WF, WF = ((wr.setCell ⟨w.heap.size + 1, 0, none⟩ (.slice A5 r.length c5)).setCell ⟨w.heap.size + 1, 1, none⟩ (.int .i64 0)).setCell ⟨w.heap.size + 1, 2, none⟩ (.int .i64 er) := ⟨_, rfl⟩
      rw [← hWF]
      have hcf := qfin (by rfl) HB2.out _ _ _ hWF
      have HDF : Hid (DvQ w0 (SF er) O w WF W.heap.size (.slice A2 bs.length c9) bs w2.heap.size) := by show DvQ _ _ _ _ _ _ _ _ _; rw [hWF]; exact ((HD2.out.put (hSF er) (.inl rfl) _ _).put (hSF er) (.inl rfl) _ _).put (hSF er) (.inl rfl) _ _
      have HRF : Hid (OwnB WF w2.heap.size (.slice A5 r.length c5) r) := by
        show OwnB _ _ _ _
        have hz2 := HZ2.out
        rw [hWF]
        exact HOF2.out _ _ 2 _ (by omega) (HOF2.out _ _ 1 _ (by omega) (HOF2.out _ _ 0 _ (by omega) HO.out))
      clear hWF hq4 hfz4 h60 h61 h62
      refine bodyPost_ret (v := .agg #[.slice A5 r.length c5, .int .i64 0, .int .i64 er]) (by simp [results, Tryz.results13, go_sem, hcf]) rfl ?_
      obtain ⟨-, -, O9, s9, c9', -, -, -, z9, -⟩ := HDF.out
      have hz2 := HZ2.out
      exact ⟨r, er, HPR.out, A5, c5, rfl, Own.mono HRF.out (by omega), O9, s9, c9', fun q e => z9 q (Own.blk_lt HRF.out (by omega) e).1⟩
set_option maxHeartbeats 2000000 in
theorem qdoes_write (hS : Sta w0 St) {SF : Nat → Own1 → World → Prop} (hSF : ∀ er, Sta w0 (SF er)) (h : St O w) (n : List UInt8) (k : Int) {bv : Value} {P : Nat → Prop} {r : List UInt8} (hb : RdB w bv r) (hrl : r.length ≤ 100000)
    (hc : ∀ W v, w.grownBy W none → RdB W v r → (∀ q, blk v = some q → q < W.heap.size ∧ w.heap.size ≤ q) → Calls Tryz.prog 46 #[.pointer (some ⟨p, 0, none⟩), .string ⟨n.toArray⟩, .int .i64 k, v] W fun e w' => ∃ er, P er ∧ e = .returned (.int .i64 er) ∧ StN (SF er) O W w') :
    Calls Tryz.prog 13 #[.pointer (some ⟨p, 0, none⟩), .pointer (some ⟨d, 0, none⟩), .agg #[.int .i64 6, .string ⟨n.toArray⟩, .int .i64 k, bv]] w (fun e w' => ∃ er, P er ∧ ToldQ (SF er) O w r 0 er e w') := by
  have HC := Lib.hid hc
  have HOF : Hid (∀ k, w.heap.size ≤ k → O k = none) := fun k hk => hS.fresh h hk
  have HW0 := Lib.hid (hS.gr h).size
  have HRL := Lib.hid hrl
  have HBB := Lib.hid hb
  obtain ⟨Ab, cb, rfl⟩ := RdB.form hb
  clear h hc hrl hb
  go_enter Tryz.func13, Tryz.ntmps13
  go_wp2_with fail
  obtain ⟨W, hW⟩ : ∃ W, W = ((w.alloc (.cells #[.int .i64 6, .string ⟨n.toArray⟩, .int .i64 k, .slice Ab r.length cb] 35)).alloc (.cells #[.slice none 0 0, .int .i64 0, .int .i64 0] 38)).alloc (.cells #[.slice none 0 0, .int .i64 0, .int .i64 0] 38) := ⟨_, rfl⟩
  rw [← hW]
  obtain ⟨b3, b4, b6, gW⟩ := does3q w _ hW
  have hz : w.heap.size + 3 ≤ W.heap.size := by rw [hW]; simp only [World.size_alloc]; omega
  clear hW
  have HCP := Lib.hid (copyBytes_any _ _ W (HBB.out.ext gW) (by have := HRL.out; omega))
  refine HCP.out.mono ?_
  rintro e w1 ⟨v2, rfl, o1, g1⟩
  obtain ⟨A2, c9, hv2⟩ := RdB.form o1.rd
  have HWR := Lib.hid (HC.out w1 v2 (gr_none gW g1) o1.rd fun q e => ⟨(Own.blk_lt o1 (by omega) e).2, by have := (Own.blk_lt o1 (by omega) e).1; omega⟩)
  have HO1 := Lib.hid o1
  have HB4 := Lib.hid (b4.ext g1)
  have HB6 := Lib.hid (b6.ext g1)
  have hc30 : w1.cell? ⟨w.heap.size, 1, none⟩ = some (.string ⟨n.toArray⟩) := (b3.ext g1).cell 1
  have hc31 : w1.cell? ⟨w.heap.size, 2, none⟩ = some (.int .i64 k) := (b3.ext g1).cell 2
  have HGW := Lib.hid gW
  have HG1 := Lib.hid g1
  have HZ := Lib.hid hz
  clear b3 b4 b6 gW g1 hz o1 HCP HC
  subst hv2
  go_wp2_with fail
  refine HWR.out.mono ?_
  rintro e w2 ⟨er, hpr, rfl, O2, s2, c2⟩
  have HPR := Lib.hid hpr
  clear hpr
  have hz := HZ.out
  have hg1z := HG1.out.size
  have ho2 : OwnB w2 W.heap.size (.slice A2 r.length c9) r := c2.own HO1.out (by omega) fun q e => HOF.out q (by have := (Own.blk_lt HO1.out (by omega) e).1; omega)
  have h42 := c2.blk HB4.out (HOF.out _ (by omega))
  have h62 := c2.blk HB6.out (HOF.out _ (by omega))
  have HLT : Hid (∀ q, blk (.slice A2 r.length c9) = some q → q < w2.heap.size) := fun q e => (Own.blk_lt ho2 (by omega) e).2
  have HDV : Hid (DvQ w0 (SF er) O w w2 W.heap.size (.slice A2 r.length c9) r w2.heap.size) := ⟨ho2, hz, O2, s2, (Ch.ext (gr_none HGW.out HG1.out)).trans c2, c2.free _ (by omega) (HOF.out _ (by omega)), c2.free _ (by omega) (HOF.out _ (by omega)), HW0.out, fun q hq => (hSF er).fresh s2 hq, fun q e => c2.free q (Own.blk_lt HO1.out (by omega) e).2 (HOF.out q (by have := (Own.blk_lt HO1.out (by omega) e).1; omega))⟩
  have HZ2 : Hid (w.heap.size + 3 ≤ w2.heap.size) := Nat.le_trans (Nat.le_trans hz hg1z) c2.size
  clear HB4 HB6
  have HB4 := Lib.hid h42
  have HB6 := Lib.hid h62
  have hc6 := h62.cell
  have hf6 := h62.frozen
  clear s2 c2 ho2 h42 h62 hz hg1z HO1 hc30 hc31 HWR
  go_wp2_with fail
  obtain ⟨W4, hW4⟩ : ∃ W4, W4 = w2.setCell ⟨w.heap.size + 1 + 1, 2, none⟩ (.int .i64 er) := ⟨_, rfl⟩
  rw [← hW4]
  have hdv4 : DvQ w0 (SF er) O w W4 W.heap.size (.slice A2 r.length c9) r w2.heap.size := by rw [hW4]; exact HDV.out.put (hSF er) (.inr rfl) _ _
  have h44 : Blk W4 (w.heap.size + 1) 38 #[.slice none 0 0, .int .i64 0, .int .i64 0] := by rw [hW4]; exact HB4.out.far (by simp) _
  have h64 : Blk W4 (w.heap.size + 2) 38 #[.slice none 0 0, .int .i64 0, .int .i64 er] := by rw [hW4]; exact HB6.out.set 2 _
  have hz4 : w2.heap.size ≤ W4.heap.size := by rw [hW4]; exact (gr_setCell w2 _ _).size
  have HCP := Lib.hid (copyBytes_any (.slice A2 r.length c9) r W4 hdv4.1.rd (by have := HRL.out; omega))
  refine HCP.out.mono ?_
  rintro e w5 ⟨v5, rfl, o5, g5⟩
  obtain ⟨A5, c5, hv5⟩ := RdB.form o5.rd
  have HV5 := Lib.hid (hdv4.ext (hSF er) g5)
  have H45 := Lib.hid (h44.ext g5)
  have h65 := h64.ext g5
  have H65 := Lib.hid h65
  have HO5 : Hid (OwnB w5 w2.heap.size v5 r) := Own.mono o5 hz4
  have hc6 := h65.cell
  have hf6 := h65.frozen
  clear hW4 hdv4 h44 h64 h65 o5 g5 hz4 HCP HB4 HB6 HDV
  subst hv5
  go_wp2_with fail
  obtain ⟨W6, hW6⟩ : ∃ W6, W6 = w5.setCell ⟨w.heap.size + 1 + 1, 0, none⟩ (.slice A5 r.length c5) := ⟨_, rfl⟩
  rw [← hW6]
  have HV6 : Hid (DvQ w0 (SF er) O w W6 W.heap.size (.slice A2 r.length c9) r w2.heap.size) := by show DvQ _ _ _ _ _ _ _ _ _; rw [hW6]; exact HV5.out.put (hSF er) (.inr rfl) _ _
  have H46 : Hid (Blk W6 (w.heap.size + 1) 38 #[.slice none 0 0, .int .i64 0, .int .i64 0]) := by show Blk _ _ _ _; rw [hW6]; exact H45.out.far (by simp) _
  have H66 : Hid (Blk W6 (w.heap.size + 2) 38 #[.slice A5 r.length c5, .int .i64 0, .int .i64 er]) := by show Blk _ _ _ _; rw [hW6]; exact H65.out.set 0 _
  have hof : ∀ (wx : World) (K off : Nat) (x : Value), K < w2.heap.size → OwnB wx w2.heap.size (.slice A5 r.length c5) r → OwnB (wx.setCell ⟨K, off, none⟩ x) w2.heap.size (.slice A5 r.length c5) r   := fun wx K off x hK h => Own.off h (gr_setCell wx ⟨K, off, none⟩ x) fun q e e2 => by
    have hq : K = q := Option.some.inj e
    have := (Own.blk_lt h (by omega) e2).1
    omega
  have HOF2 := Lib.hid hof
  have HO6 : Hid (OwnB W6 w2.heap.size (.slice A5 r.length c5) r) := by
    show OwnB _ _ _ _
    have hz2 := HZ2.out
    rw [hW6]
    exact HOF2.out _ _ 0 _ (by omega) HO5.out
  have hrl := HRL.out
  have hzz := HZ.out
  clear hW6 hc6 hf6 HV5 H45 H65 HO5 hof
  go_loopw [11] (fun iv wr => ∃ (k : Nat) (bs : List UInt8), k ≤ r.length ∧ iv = .int .i64 k ∧ bs.length = r.length ∧ DvQ w0 (SF er) O w wr W.heap.size (.slice A2 bs.length c9) bs w2.heap.size ∧ Blk wr (w.heap.size + 1) 38 #[.slice none 0 0, .int .i64 0, .int .i64 0] ∧ Blk wr (w.heap.size + 2) 38 #[.slice A5 r.length c5, .int .i64 0, .int .i64 er] ∧ OwnB wr w2.heap.size (.slice A5 r.length c5) r) (fun iv _ => r.length - (intOf iv).toNat)
  case atStart => exact ⟨0, r, Nat.zero_le _, rfl, rfl, HV6.out, H46.out, H66.out, HO6.out⟩
  case round =>
    obtain ⟨k, bs, hk, rfl, hbs, hdv, h4, h6, ho⟩ := hrel
    by_cases hlt : k < r.length
    · obtain ⟨g, off, hA, hgB, hc, hfr, hcell, hput⟩ := hdv.byte (hSF er) (k := k) (by omega)
      have HPUT := Lib.hid (hput 237)
      have hgB2 := HZ.out
      have H4P : Hid (Blk (wr.setCell ⟨g, off + k, none⟩ (.int .u8 237)) (w.heap.size + 1) 38 #[.slice none 0 0, .int .i64 0, .int .i64 0]) := h4.far (by show _ ≠ _; simp; omega) _
      have H6P : Hid (Blk (wr.setCell ⟨g, off + k, none⟩ (.int .u8 237)) (w.heap.size + 2) 38 #[.slice A5 r.length c5, .int .i64 0, .int .i64 er]) := h6.far (by show _ ≠ _; simp; omega) _
      have hgl : g < w2.heap.size := HLT.out g (by subst hA; show (if c9 = 0 then none else some g) = some g; rw [if_neg (by omega)])
      have HOP : Hid (OwnB (wr.setCell ⟨g, off + k, none⟩ (.int .u8 237)) w2.heap.size (.slice A5 r.length c5) r) := HOF2.out _ g _ _ hgl ho
      obtain ⟨q8, hc8⟩ : ∃ q : Int, wr.cell? ⟨g, off + k, none⟩ = some (.int .u8 q) := ⟨_, hcell⟩
      have HBS := Lib.hid hbs
      clear hput hdv h4 h6 ho hcell hbs hgl hgB2
      subst hA
      go_wp2_with fail
      go_roundw
      case rel => exact ⟨k + 1, bs.set k 237, by omega, by go_num, by rw [List.length_set]; exact HBS.out, HPUT.out, H4P.out, H6P.out, HOP.out⟩
      case measure => simp [intOf] <;> omega
    · have hq4 := h4.cell
      have hfz4 := h4.frozen
      have h60 : wr.cell? ⟨w.heap.size + 1 + 1, 0, none⟩ = some (.slice A5 r.length c5) := h6.cell 0
      have h61 : wr.cell? ⟨w.heap.size + 1 + 1, 1, none⟩ = some (.int .i64 0) := h6.cell 1
      have h62 : wr.cell? ⟨w.heap.size + 1 + 1, 2, none⟩ = some (.int .i64 er) := h6.cell 2
      have HB2 := Lib.hid h4
      have HD2 := Lib.hid hdv
      have HO := Lib.hid ho
      obtain rfl : k = r.length := by omega
      clear h4 h6 hdv hbs ho
      go_wp2_with fail
      obtain ⟨WF, hWF⟩ : ∃ WF, WF = ((wr.setCell ⟨w.heap.size + 1, 0, none⟩ (.slice A5 r.length c5)).setCell ⟨w.heap.size + 1, 1, none⟩ (.int .i64 0)).setCell ⟨w.heap.size + 1, 2, none⟩ (.int .i64 er) := ⟨_, rfl⟩
      rw [← hWF]
      have hcf := qfin (by rfl) HB2.out _ _ _ hWF
      have HDF : Hid (DvQ w0 (SF er) O w WF W.heap.size (.slice A2 bs.length c9) bs w2.heap.size) := by show DvQ _ _ _ _ _ _ _ _ _; rw [hWF]; exact ((HD2.out.put (hSF er) (.inl rfl) _ _).put (hSF er) (.inl rfl) _ _).put (hSF er) (.inl rfl) _ _
      have HRF : Hid (OwnB WF w2.heap.size (.slice A5 r.length c5) r) := by
        show OwnB _ _ _ _
        have hz2 := HZ2.out
        rw [hWF]
        exact HOF2.out _ _ 2 _ (by omega) (HOF2.out _ _ 1 _ (by omega) (HOF2.out _ _ 0 _ (by omega) HO.out))
      clear hWF hq4 hfz4 h60 h61 h62
      refine bodyPost_ret (v := .agg #[.slice A5 r.length c5, .int .i64 0, .int .i64 er]) (by simp [results, Tryz.results13, go_sem, hcf]) rfl ?_
      obtain ⟨-, -, O9, s9, c9', -, -, -, z9, -⟩ := HDF.out
      have hz2 := HZ2.out
      exact ⟨er, HPR.out, A5, c5, rfl, Own.mono HRF.out (by omega), O9, s9, c9', fun q e => z9 q (Own.blk_lt HRF.out (by omega) e).1⟩
end
end Go.Proofs.YtkpmadahfmpeiaaGreat

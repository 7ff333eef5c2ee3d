/-
  pool: a frame filled; note; New, Create.
-/
import Derived.Test.YtkpmadahfmpeiaaGreatPo2
import Derived.Deep.RegionHeld3
import Derived.StillTailTactics
import Derived.Test.YtkpmadahfmpeiaaGreatLi
import Derived.Test.YtkpmadahfmpeiaaGreatDw5
namespace Go.Proofs.YtkpmadahfmpeiaaGreat
open Go.RowKit Go.Maps
set_option maxRecDepth 100000
set_option maxHeartbeats 400000

theorem flat_set {fr : List Fr} {i j : Nat} (hi : i < fr.length) (hj : j < 7) {x' : Fr} {v : Value} (he : x'.enc = (fr[i].enc).set j v) : (fr.flatMap Fr.enc).set (i * 7 + j) v = (fr.set i x').flatMap Fr.enc := by
  induction fr generalizing i with
  | nil => simp at hi
  | cons y fr ih =>
    cases i with
    | zero =>
      rw [List.set_cons_zero, List.flatMap_cons, List.flatMap_cons, he]
      rw [show 0 * 7 + j = j from by omega]
      exact List.set_append_left _ _ (by rw [fr7]; exact hj)
    | succ i =>
      have hi2 : i < fr.length := by simpa using hi
      rw [List.set_cons_succ, List.flatMap_cons, List.flatMap_cons, ← ih hi2 he]
      rw [List.set_append_right _ _ (by rw [fr7]; omega), fr7]
      congr 2
      omega
theorem Blk.setFr {w : World} {g : Nat} {fr : List Fr} (h : Blk w g 134 (fr.flatMap Fr.enc).toArray) {i j : Nat} (hi : i < fr.length) (hj : j < 7) {x' : Fr} {v : Value} (he : x'.enc = (fr[i].enc).set j v) :
    Blk (w.setCell ⟨g, i * 7 + j, none⟩ v) g 134 ((fr.set i x').flatMap Fr.enc).toArray := by
  have := h.set (i * 7 + j) v
  rw [List.setIfInBounds_toArray, flat_set hi hj he] at this
  exact this
theorem Blk.setAll {w : World} {g : Nat} {fr : List Fr} (h : Blk w g 134 (fr.flatMap Fr.enc).toArray) {i : Nat} (hi : i < fr.length) (x : Fr) :
    Blk (((((((w.setCell ⟨g, i * 7, none⟩ (.bool x.full)).setCell ⟨g, i * 7 + 1, none⟩ (.string ⟨x.n.toArray⟩)).setCell ⟨g, i * 7 + 2, none⟩ (.int .i64 x.k)).setCell ⟨g, i * 7 + 3, none⟩ x.bv).setCell ⟨g, i * 7 + 4, none⟩ (.int .i64 x.pins)).setCell ⟨g, i * 7 + 5, none⟩ (.bool x.dirty)).setCell ⟨g, i * 7 + 6, none⟩ (.bool x.used))
      g 134 ((fr.set i x).flatMap Fr.enc).toArray := by
  obtain ⟨y, hy⟩ : ∃ y, y = fr[i] := ⟨_, rfl⟩
  have h1 := Blk.setFr h hi (j := 0) (by omega) (x' := { y with full := x.full }) (v := .bool x.full) (by rw [← hy]; rfl)
  have h2 := Blk.setFr h1 (i := i) (by simpa using hi) (j := 1) (by omega) (x' := { y with full := x.full, n := x.n }) (v := .string ⟨x.n.toArray⟩) (by simp [Fr.enc])
  have h3 := Blk.setFr h2 (i := i) (by simpa using hi) (j := 2) (by omega) (x' := { y with full := x.full, n := x.n, k := x.k }) (v := .int .i64 x.k) (by simp [Fr.enc])
  have h4 := Blk.setFr h3 (i := i) (by simpa using hi) (j := 3) (by omega) (x' := { y with full := x.full, n := x.n, k := x.k, b := x.b, bv := x.bv }) (v := x.bv) (by simp [Fr.enc])
  have h5 := Blk.setFr h4 (i := i) (by simpa using hi) (j := 4) (by omega) (x' := { y with full := x.full, n := x.n, k := x.k, b := x.b, bv := x.bv, pins := x.pins }) (v := .int .i64 x.pins) (by simp [Fr.enc])
  have h6 := Blk.setFr h5 (i := i) (by simpa using hi) (j := 5) (by omega) (x' := { y with full := x.full, n := x.n, k := x.k, b := x.b, bv := x.bv, pins := x.pins, dirty := x.dirty }) (v := .bool x.dirty) (by simp [Fr.enc])
  have h7 := Blk.setFr h6 (i := i) (by simpa using hi) (j := 6) (by omega) (x' := x) (v := .bool x.used) (by simp [Fr.enc])
  simp only [List.set_set] at h7
  exact h7
section
variable {w w' : World} {B d p g mb nm : Nat} {o : Own1} {P : Pl}
theorem FrB.far {x : Fr} (h : FrB w B o p g mb x) {r : Nat} (hg : w.grownBy w' (some r)) (hr : ∀ q, blk x.bv = some q → q ≠ r) : FrB w' B o p g mb x :=
  ⟨h.rd.same fun q e => hg.block q (h.off q e).2.2.2.2.1 (fun e2 => hr q e (Option.some.inj e2)), fun q e => by obtain ⟨h1, h2, h3, h4, h5, h6⟩ := h.off q e; exact ⟨h1, h2, h3, h4, Nat.lt_of_lt_of_le h5 hg.size, h6⟩, h.len⟩
/-- the pool's own numbers are written. -/
theorem PoR.numbers (h : PoR w B o d p g mb P nm) (hg : w.grownBy w' (some p)) (hand mf mp : Nat) (hb : Blk w' p 113 #[.pointer (some ⟨d, 0, none⟩), .slice (some ⟨g, 0, none⟩) P.fr.length P.fr.length, .map (some mb), .int .i64 hand, .int .i64 mf, .int .i64 mp])
    (h1 : hand < P.fr.length) (h2 : mf ≤ 4096) (h3 : mp ≤ 4096) : PoR w' B o d p g mb { P with hand := hand, mf := mf, mp := mp } nm :=
  ⟨hb, h.fr.gr hg (fun e => h.apart.1 (Option.some.inj e)), h.wh.gr hg (fun e => h.apart.2.1 (Option.some.inj e)), h.whi, fun x hx => (h.bytes x hx).far hg fun q e => ((h.bytes x hx).off q e).2.1, h.off, h.low, h.apart, ⟨h.lim.1, h.lim.2.1, h1, h2, h3⟩⟩
def Pl.noted (P : Pl) : Pl := { P with mf := max P.mf (heldN Fr.full P.fr), mp := max P.mp (heldN (fun f => decide (0 < f.pins)) P.fr) }
theorem note_any (h : PoR w B o d p g mb P nm) : Calls Tryz.prog 101 #[.pointer (some ⟨p, 0, none⟩)] w fun e w' => e = .returned (.tuple #[]) ∧ w.grownBy w' (some p) ∧ PoR w' B o d p g mb P.noted nm := by
  have hh := held_any h
  have l1 := heldN_le Fr.full P.fr
  have l2 := heldN_le (fun f => decide (0 < f.pins)) P.fr
  have HL := Lib.hid h.lim
  have hm := h.lim.2.2.2
  have hl := h.lim.2.1
  have H := Lib.hid h
  unfold Pl.noted
  obtain ⟨n1, e1⟩ : ∃ n1, n1 = heldN Fr.full P.fr := ⟨_, rfl⟩
  obtain ⟨n2, e2⟩ : ∃ n2, n2 = heldN (fun f => decide (0 < f.pins)) P.fr := ⟨_, rfl⟩
  rw [← e1] at hh l1 ⊢
  rw [← e2] at hh l2 ⊢
  have HH := Lib.hid hh
  clear h hh e1 e2
  go_enter Tryz.func101, Tryz.ntmps101
  go_wp2_with fail
  refine HH.out.mono ?_
  rintro e w1 ⟨rfl, g1⟩
  have h1 := H.out.ext g1
  obtain ⟨s0, s1, s2, s3, s4, s5⟩ := h1.selfc
  have hfz := h1.self.frozen
  have H1 := Lib.hid h1
  have G1 := Lib.hid g1
  clear h1 g1 HH
  go_wp2
  go_end0
  have m1 : max (P.mf : Int) (n1 : Int) = ((max P.mf n1 : Nat) : Int) := by omega
  have m2 : max (P.mp : Int) (n2 : Int) = ((max P.mp n2 : Nat) : Int) := by omega
  rw [m1, m2]
  have g2 : w1.grownBy ((w1.setCell ⟨p, 4, none⟩ (.int .i64 (max P.mf n1 : Nat))).setCell ⟨p, 5, none⟩ (.int .i64 (max P.mp n2 : Nat))) (some p) := gr_trans (gr_setCell w1 ⟨p, 4, none⟩ _) (gr_setCell _ ⟨p, 5, none⟩ _) (.inl rfl)
  refine ⟨rfl, gr_trans (gr_of_none G1.out) g2 (.inl rfl), ?_⟩
  refine H1.out.numbers g2 P.hand _ _ ?_ HL.out.2.2.1 (by omega) (by omega)
  have := (H1.out.self.set 4 (.int .i64 (max P.mf n1 : Nat))).set 5 (.int .i64 (max P.mp n2 : Nat))
  simpa using this
/-- the disk's blocks, and the pool's own. -/
def po (o : Own1) (p g mb : Nat) : Own1 := fun i => if i = p ∨ i = g ∨ i = mb then some (9, []) else o i
theorem po_none {o : Own1} {p g mb i : Nat} (h : po o p g mb i = none) : i ≠ p ∧ i ≠ g ∧ i ≠ mb ∧ o i = none := by
  unfold po at h
  split at h
  · cases h
  · next hn => exact ⟨fun e => hn (.inl e), fun e => hn (.inr (.inl e)), fun e => hn (.inr (.inr e)), h⟩
theorem po_none_mk {o : Own1} {p g mb i : Nat} (h1 : i ≠ p) (h2 : i ≠ g) (h3 : i ≠ mb) (h4 : o i = none) : po o p g mb i = none := by
  unfold po
  rw [if_neg (fun h => h.elim h1 fun h => h.elim h2 h3)]; exact h4
theorem Ch.po {o o' : Own1} {w w' : World} (h : Ch o w o' w') {p g mb : Nat} : Ch (po o p g mb) w (po o' p g mb) w' :=
  ⟨h.os, h.tape, h.output, h.size, fun i hi h0 => h.block i hi (po_none h0).2.2.2, fun i hi h0 => po_none_mk (po_none h0).1 (po_none h0).2.1 (po_none h0).2.2.1 (h.free i hi (po_none h0).2.2.2)⟩
def noO : Own1 := fun _ => none
theorem po_ne (o : Own1) (p g mb : Nat) : po o p g mb p ≠ none ∧ po o p g mb g ≠ none ∧ po o p g mb mb ≠ none := by
  unfold po; refine ⟨?_, ?_, ?_⟩ <;> simp
/-- what is done to a pool alone leaves the disk. -/
theorem DI.pool {S : Dk} {c : Con} (h : DI w B o d S c) (hp : PoR w B o d p g mb P nm) (hc : Ch (po noO p g mb) w (po noO p g mb) w') : DI w' B o d S c :=
  h.keep hc.size fun i hi => hc.block i (h.inb i hi).2 (po_none_mk (fun e => hi (by rw [e]; exact hp.off.1)) (fun e => hi (by rw [e]; exact hp.off.2.1)) (fun e => hi (by rw [e]; exact hp.off.2.2)) rfl)
theorem poGr {w0 : World} (h : Ch (po noO p g mb) w (po noO p g mb) w') (hg : w0.grownBy w none) (hp : w0.heap.size ≤ p ∧ w0.heap.size ≤ g ∧ w0.heap.size ≤ mb) : w0.grownBy w' none :=
  h.gr hg fun i hi => by
    unfold po noO at hi
    split at hi
    · next h1 => rcases h1 with rfl | rfl | rfl <;> omega
    · exact absurd rfl hi
def pkey (f : Fr) (h : okK f.n f.k) : PK := ⟨f.n, f.k, h⟩
def Pl.filled (P : Pl) (i : Nat) (f : Fr) (h : okK f.n f.k) : Pl := { P with fr := P.fr.set i { f with full := true }, wh := fun z => if z = pkey f h then some i else P.wh z }
theorem fill_any (h : PoR w B o d p g mb P nm) {i : Nat} (hi : i < P.fr.length) (h0 : P.fr[i].full = false) {f : Fr} (hf : FrB w B o p g mb f) (hk : okK f.n f.k) (hn : P.wh (pkey f hk) = none) (hnm : nm < 1000000000) :
    Calls Tryz.prog 100 #[.pointer (some ⟨p, 0, none⟩), .int .i64 i, .agg #[.bool false, .string ⟨f.n.toArray⟩, .int .i64 f.k, f.bv, .int .i64 f.pins, .bool f.dirty, .bool f.used]] w fun e w' => e = .returned (.tuple #[]) ∧ PoR w' B o d p g mb (P.filled i f hk).noted (nm + 1) ∧
      Ch (po noO p g mb) w (po noO p g mb) w' := by
  obtain ⟨s0, s1, s2, s3, s4, s5⟩ := h.selfc
  have hfz := h.fr.frozen
  have hl := h.lim.2.1
  obtain ⟨Ab, cb, hbv⟩ := hf.rd.form
  obtain ⟨c0, c1, c2, c3, c4, c5, c6⟩ := frame_cells h.fr hi rfl
  have H := Lib.hid h
  clear h
  have HI := Lib.hid hi
  have HF := Lib.hid hf
  have HN := Lib.hid hn
  have HBV := Lib.hid hbv
  have HBX := Lib.hid (Blk.new w 134 #[.bool true, .string ⟨f.n.toArray⟩, .int .i64 f.k, .slice Ab f.b.length cb, .int .i64 f.pins, .bool f.dirty, .bool f.used])
  have G1 := Lib.hid (gr_alloc w (.cells #[.bool true, .string ⟨f.n.toArray⟩, .int .i64 f.k, .slice Ab f.b.length cb, .int .i64 f.pins, .bool f.dirty, .bool f.used] 134) none)
  clear s0 s1 s2 s3 s4 s5 hfz c0 c1 c2 c3 c4 c5 c6 hf hn
  go_enter Tryz.func100, Tryz.ntmps100
  rw [hbv]
  clear hbv
  go_wp2_with fail
  obtain ⟨w1, hw1⟩ : ∃ w1, w1 = w.alloc (.cells #[.bool true, .string ⟨f.n.toArray⟩, .int .i64 f.k, .slice Ab f.b.length cb, .int .i64 f.pins, .bool f.dirty, .bool f.used] 134) := ⟨_, rfl⟩
  rw [← hw1] at HBX G1 ⊢
  clear hw1
  have H1 := Lib.hid (H.out.ext G1.out)
  obtain ⟨s0, s1, s2, s3, s4, s5⟩ := H1.out.selfc
  have b0 : w1.cell? ⟨w.heap.size, 0, none⟩ = some (.bool true) := HBX.out.cell 0
  have b1 : w1.cell? ⟨w.heap.size, 1, none⟩ = some (.string ⟨f.n.toArray⟩) := HBX.out.cell 1
  have b2 : w1.cell? ⟨w.heap.size, 2, none⟩ = some (.int .i64 f.k) := HBX.out.cell 2
  have b3 : w1.cell? ⟨w.heap.size, 3, none⟩ = some (.slice Ab f.b.length cb) := HBX.out.cell 3
  have b4 : w1.cell? ⟨w.heap.size, 4, none⟩ = some (.int .i64 f.pins) := HBX.out.cell 4
  have b5 : w1.cell? ⟨w.heap.size, 5, none⟩ = some (.bool f.dirty) := HBX.out.cell 5
  have b6 : w1.cell? ⟨w.heap.size, 6, none⟩ = some (.bool f.used) := HBX.out.cell 6
  go_still_tail 7, (by kernel_rfl)
  change wpList _ _ _ _ _ w1.drew
  have H2 : Hid (PoR w1.drew B o d p g mb P nm) := H1.out.ext (gr_drew _ _)
  have HBX2 : Hid (Blk w1.drew w.heap.size 134 #[.bool true, .string ⟨f.n.toArray⟩, .int .i64 f.k, .slice Ab f.b.length cb, .int .i64 f.pins, .bool f.dirty, .bool f.used]) := HBX.out.ext (gr_drew _ _)
  have G2 : Hid (w.grownBy w1.drew none) := gr_none G1.out (gr_drew _ _)
  clear s0 s1 s2 s3 s4 s5 b0 b1 b2 b3 b4 b5 b6
  generalize w1.drew = w2 at *
  obtain ⟨s0, s1, s2, s3, s4, s5⟩ := H2.out.selfc
  have hfz := H2.out.fr.frozen
  obtain ⟨c0, c1, c2, c3, c4, c5, c6⟩ := frame_cells H2.out.fr HI.out rfl
  go_wp2_with fail
  have hb3 := Blk.setAll H2.out.fr HI.out { f with full := true, bv := .slice Ab f.b.length cb }
  have hg3 := gr_trans (gr_trans (gr_trans (gr_trans (gr_trans (gr_trans (gr_setCell w2 ⟨g, i * 7, none⟩ (.bool true)) (gr_setCell _ ⟨g, i * 7 + 1, none⟩ (.string ⟨f.n.toArray⟩)) (.inl rfl)) (gr_setCell _ ⟨g, i * 7 + 2, none⟩ (.int .i64 f.k)) (.inl rfl)) (gr_setCell _ ⟨g, i * 7 + 3, none⟩ (.slice Ab f.b.length cb)) (.inl rfl))
    (gr_setCell _ ⟨g, i * 7 + 4, none⟩ (.int .i64 f.pins)) (.inl rfl)) (gr_setCell _ ⟨g, i * 7 + 5, none⟩ (.bool f.dirty)) (.inl rfl)) (gr_setCell _ ⟨g, i * 7 + 6, none⟩ (.bool f.used)) (.inl rfl)
  dsimp only at hb3 hg3
  clear s0 s1 s2 s3 s4 s5 hfz c0 c1 c2 c3 c4 c5 c6
  generalize hW : World.setCell _ _ (Value.bool f.used) = w3 at hb3 hg3 ⊢
  clear hW
  have HB3 := Lib.hid hb3
  have HG3 := Lib.hid hg3
  have hpw := H.out.self.lt
  have hgw := H.out.fr.lt
  have HBX3 := Lib.hid (HBX2.out.gr hg3 (fun e => by have := Option.some.inj e; omega))
  have HS3 := Lib.hid (H2.out.self.gr hg3 (fun e => H.out.apart.1 (Option.some.inj e).symm))
  have HV3 := Lib.hid (H2.out.wh.gr hg3 (fun e => H.out.apart.2.2 (Option.some.inj e)))
  have s2 : w3.cell? ⟨p, 2, none⟩ = some (.map (some mb)) := HS3.out.cell 2
  have b1 : w3.cell? ⟨w.heap.size, 1, none⟩ = some (.string ⟨f.n.toArray⟩) := HBX3.out.cell 1
  have b2 : w3.cell? ⟨w.heap.size, 2, none⟩ = some (.int .i64 f.k) := HBX3.out.cell 2
  clear hb3 hg3
  go_still_tail 7, (by kernel_rfl)
  change wpList _ _ _ _ _ w3.drew
  have HB4 : Hid (Blk w3.drew g 134 ((P.fr.set i { f with full := true, bv := .slice Ab f.b.length cb }).flatMap Fr.enc).toArray) := HB3.out.ext (gr_drew _ _)
  have HS4 := Lib.hid (HS3.out.ext (gr_drew _ none))
  have HV4 := Lib.hid (HV3.out.ext (gr_drew _ none))
  have HG4 : Hid (w2.grownBy w3.drew (some g)) := gr_none HG3.out (gr_drew _ _)
  clear s2 b1 b2 HB3 HS3 HV3 HG3 HBX3
  generalize w3.drew = w4 at *
  go_wp2_with (at_mapUpdate; refine wp_vm_put (J := pkK) rfl _ _ _ rfl Tryz.underlying111 HV4.out rfl (by unfold maxLen; omega) (pkey f hk) rfl (.int .i64 i) rfl ?_; intro w5 hv5 g5; have HV5 := Lib.hid hv5; have HG5 := Lib.hid g5; clear hv5 g5)
  have hb5 := HB4.out.gr HG5.out (fun e => H.out.apart.2.2 (Option.some.inj e).symm)
  have hs5 := HS4.out.gr HG5.out (fun e => H.out.apart.2.1 (Option.some.inj e).symm)
  have e9 : ({ f with full := true, bv := .slice Ab f.b.length cb } : Fr) = { f with full := true } := by rw [HBV.out]
  rw [← HBV.out] at hb5
  have hlo : ∀ {x : Fr}, FrB w B o p g mb x → FrB w5 B o p g mb x := fun {x} hx =>
    ((hx.ch (Ch.ext G2.out)).far HG4.out fun q e => (hx.off q e).2.2.1).far HG5.out fun q e => (hx.off q e).2.2.2.1
  have HP5 : Hid (PoR w5 B o d p g mb (P.filled i f hk) (nm + 1)) := by
    refine ⟨?_, hb5, ?_, ?_, fun x hx => ?_, H.out.off, H.out.low, H.out.apart, ?_⟩
    · show Blk w5 p _ #[_, .slice (some ⟨g, 0, none⟩) (P.fr.set i { f with full := true }).length (P.fr.set i { f with full := true }).length, _, _, _, _]
      rw [List.length_set]
      exact hs5
    · have e : (fun z => (Pl.filled P i f hk).wh z |>.map fun i => Value.int .i64 i) = (fun z => if z = pkey f hk then some (Value.int .i64 i) else (P.wh z).map fun i => Value.int .i64 i) := by
        funext z
        show ((if z = pkey f hk then some i else P.wh z).map fun i => Value.int .i64 i) = _
        split <;> rfl
      rw [e]
      exact HV5.out
    · intro x j
      show (if x = pkey f hk then some i else P.wh x) = some j ↔ ∃ h : j < (P.fr.set i { f with full := true }).length, ((P.fr.set i { f with full := true })[j]).full = true ∧ ((P.fr.set i { f with full := true })[j]).n = x.n ∧ ((P.fr.set i { f with full := true })[j]).k = x.k
      have hwi := H.out.whi x j
      by_cases hx : x = pkey f hk
      · rw [if_pos hx]
        subst hx
        constructor
        · intro e
          cases e
          refine ⟨by simpa using HI.out, ?_⟩
          rw [List.getElem_set_self]
          exact ⟨rfl, rfl, rfl⟩
        · rintro ⟨hj, h1, h2, h3⟩
          by_cases hij : i = j
          · rw [hij]
          · rw [List.getElem_set_ne hij] at h1 h2 h3
            have := hwi.2 ⟨by simpa using hj, h1, h2, h3⟩
            rw [HN.out] at this; cases this
      · rw [if_neg hx, hwi]
        constructor
        · rintro ⟨hj, h1, h2, h3⟩
          have hij : i ≠ j := fun e => by subst e; rw [h0] at h1; cases h1
          refine ⟨by simpa using hj, ?_⟩
          rw [List.getElem_set_ne hij]
          exact ⟨h1, h2, h3⟩
        · rintro ⟨hj, h1, h2, h3⟩
          by_cases hij : i = j
          · subst hij
            rw [List.getElem_set_self] at h2 h3
            exact absurd (PK.ext' h2.symm h3.symm) hx
          · rw [List.getElem_set_ne hij] at h1 h2 h3
            exact ⟨by simpa using hj, h1, h2, h3⟩
    · rcases List.mem_or_eq_of_mem_set hx with hx | hx
      · exact hlo (H.out.bytes x hx)
      · subst hx
        have := hlo HF.out
        exact ⟨this.rd, this.off, this.len⟩
    · show 1 ≤ (P.fr.set i _).length ∧ (P.fr.set i _).length ≤ 4096 ∧ P.hand < (P.fr.set i _).length ∧ _
      rw [List.length_set]
      exact H.out.lim
  have HNT := Lib.hid (note_any HP5.out)
  clear hb5 hs5 hlo e9 HB4 HS4 HV5 HV4
  refine HNT.out.mono ?_
  rintro e w6 ⟨rfl, g6, h6⟩
  have G6 := Lib.hid g6
  have H6 := Lib.hid h6
  clear g6 h6 HNT
  go_wp2
  go_end0
  have hne := po_ne noO p g mb
  exact ⟨rfl, H6.out, (((Ch.ext G2.out).trans (Ch.of_gr HG4.out fun k e => by cases e; exact hne.2.1)).trans (Ch.of_gr HG5.out fun k e => by cases e; exact hne.2.2)).trans (Ch.of_gr G6.out fun k e => by cases e; exact hne.1)⟩
end
end Go.Proofs.YtkpmadahfmpeiaaGreat

/- disk.Remove. -/
namespace Go.Proofs.YtkpmadahfmpeiaaGreat
open Go.RowKit Go.Maps
set_option maxRecDepth 100000
set_option maxHeartbeats 400000

theorem size_del_lt {H : Type} {D : DataW H} {kl : Lit} (hD : IsMap D) (h : has D kl = true) : Maps.size (D.del kl) + 1 ≤ Maps.size D := by
  obtain ⟨es, rfl⟩ := hD
  rw [has_eq, List.any_eq_true] at h
  obtain ⟨p, hp, hs⟩ := h
  show (es.filter fun p => !p.1.sameKey kl).length + 1 ≤ es.length
  have := List.length_filter_lt_length_iff_exists (p := fun p : Lit × DataW H => !p.1.sameKey kl) (l := es) |>.2 ⟨p, hp, by simp [hs]⟩
  omega
/-- delete(m, s), where it is there: the map is smaller by one. -/
theorem wp_fm_del1 {w : World} {m n : Nat} {dom : List UInt8 → Option Nat} {ops : Array Oper} {rest : List Oper} {o : Oper} {a : Act} {Q : Exit → Act → World → Prop} (hg : o.guard = none) (mm x : Operand) (hop : o.op = .call { callee := .builtin .delete, args := #[mm, x], argTypes := #[106, 9] })
    (h : FM w m (n + 1) dom) (hm : a.eval mm = .map (some m)) {s : List UInt8} (hs : s.length ≤ maxLen) (hin : dom s ≠ none) (hx : a.eval x = .string ⟨s.toArray⟩)
    (hK : ∀ w', FM w' m n (fun x => if x = s then none else dom x) → w.grownBy w' (some m) → wpList Tryz.prog ops Q rest (a.put o.dst (.tuple #[])) w') : wpList Tryz.prog ops Q (o :: rest) a w := by
  obtain ⟨D, h, h0, h1⟩ := h
  obtain ⟨b0, hb0⟩ := Option.ne_none_iff_exists'.1 hin
  have hsz := size_del_lt (FM.isMap h) (h1 s b0 hb0).2.1
  have hle := h.size_le
  refine wpList_delete_own w hg mm x _ _ hop 122 Tryz.keyedS Tryz.underlying106 ptrElem m (n + 1) D hm h _ _ hx (keyS hs) fun w' h' g' => hK w' ?_ g'.grown
  obtain ⟨es, clock, q1, q2, q3, q4⟩ := h'
  have hes : es.size ≤ n := by
    have : Maps.size (D.del (.string s)) = es.size := by rw [q4]; simp [Maps.size, Go.length_sorted]
    omega
  refine ⟨D.del (.string s), ⟨es, clock, q1, q2, hes, q4⟩, fun y hy hn => ?_, fun y c hc => ?_⟩
  · by_cases e : y = s
    · subst e; exact has_del_same
    · simp only [e, if_false] at hn
      rw [has_del_other (string_ne e)]; exact h0 y hy hn
  · by_cases e : y = s
    · simp [e] at hc
    · simp only [e, if_false] at hc
      obtain ⟨k1, k2, k3⟩ := h1 y c hc
      exact ⟨k1, by rw [has_del_other (string_ne e)]; exact k2, fun z => by rw [atKey_del_other (string_ne e)]; exact k3 z⟩
/-- the other files. -/
def butF (fs : List Fi) (n : List UInt8) : List Fi := fs.filter fun f => !(f.name == n)
def Dk.removed (S : Dk) (n : List UInt8) : Dk := { S with fs := butF S.fs n, loose := fun s k => S.loose s k && !(s == n) }
def Dk.remove (S : Dk) (n : List UInt8) : Dk × Nat :=
  if S.begin.dead then (S.begin, 6) else if rightB n = false then (S.begin, 1) else
  match S.find n with
  | none => (S.begin, 3)
  | some _ => (S.begin.removed n, 0)
theorem butF_find (fs : List Fi) (n s : List UInt8) : (butF fs n).find? (fun f => f.name == s) = if s = n then none else fs.find? fun f => f.name == s := by
  unfold butF
  rw [List.find?_filter]
  by_cases e : s = n
  · subst e
    rw [if_pos rfl, List.find?_eq_none]
    intro f _
    simp
  · rw [if_neg e]
    congr 1
    funext f
    by_cases e2 : f.name = s
    · simp [e2, e]
    · simp [e2]
theorem butF_len {fs : List Fi} (hn : (fs.map Fi.name).Nodup) {f : Fi} (hf : f ∈ fs) : (butF fs f.name).length + 1 = fs.length := by
  induction fs with
  | nil => cases hf
  | cons a l ih =>
    rw [List.map_cons, List.nodup_cons] at hn
    unfold butF
    rw [List.filter_cons]
    by_cases e : a.name = f.name
    · have hl : l.filter (fun g => !(g.name == f.name)) = l := List.filter_eq_self.2 fun g hg => by
        have : g.name ≠ f.name := fun e2 => hn.1 (List.mem_map.2 ⟨g, hg, by rw [e2, e]⟩)
        simpa using this
      rw [if_neg (by simp [e]), hl]; rfl
    · rw [if_pos (by simpa using e)]
      have hfl : f ∈ l := by
        rcases List.mem_cons.1 hf with h | h
        · exact absurd (by rw [h]) e
        · exact h
      have := ih hn.2 hfl
      unfold butF at this
      simp only [List.length_cons]
      omega
theorem mem_butF {fs : List Fi} {n : List UInt8} {f : Fi} (h : f ∈ butF fs n) : f ∈ fs ∧ f.name ≠ n := by
  unfold butF at h
  rw [List.mem_filter] at h
  exact ⟨h.1, by simpa using h.2⟩
section
variable {w w' : World} {B d : Nat} {o : Own1} {S : Dk} {c : Con}
/-- a file less. -/
theorem DI.less (h : DI w B o d S c) {n : List UInt8} (hg : w.grownBy w' (some c.mb)) (hm : FM w' c.mb (butF S.fs n).length (fun x => if x = n then none else domOf S.fs c.fb x)) : DI w' B o d { S with fs := butF S.fs n } c := by
  have hs : ∀ i, o i ≠ none → i ≠ c.mb → w'.heap[i]? = w.heap[i]? := fun i hi hd => hg.block i (h.inb i hi).2 (fun e => hd (by cases e; rfl))
  have hM := h.tM
  refine { self := h.self.same (hs _ (by rw [h.tD]; simp) (fun e => by have := h.tD; rw [e, hM] at this; cases this)), fm := ?_, lm := h.lm.same (hs _ (by rw [h.tL]; simp) (fun e => by have := h.tL; rw [e, hM] at this; cases this)), file := fun f hf => ?_, tag := fun f hf => h.tag f (mem_butF hf).1, names := ?_, tD := h.tD, tM := h.tM, tL := h.tL, inb := fun i hi => ⟨(h.inb i hi).1, Nat.lt_of_lt_of_le (h.inb i hi).2 hg.size⟩, lim := h.lim }
  · refine (show (fun x => if x = n then none else domOf S.fs c.fb x) = domOf (butF S.fs n) c.fb from ?_) ▸ hm
    funext x
    unfold domOf
    rw [butF_find]
    split <;> rfl
  · obtain ⟨hf1, _⟩ := mem_butF hf
    refine (h.file f hf1).same (hs _ (by rw [(h.tag f hf1).file]; simp) (fun e => by have := (h.tag f hf1).file; rw [e, hM] at this; cases this)) (fun k hk => hs k (by rw [(h.tag f hf1).now k hk]; simp) (fun e => by have := (h.tag f hf1).now k hk; rw [e, hM] at this; cases this))
      (fun k hk => hs k (by rw [(h.tag f hf1).lasts k hk]; simp) (fun e => by have := (h.tag f hf1).lasts k hk; rw [e, hM] at this; cases this))
  · show ((butF S.fs n).map Fi.name).Nodup
    exact List.Nodup.sublist (List.Sublist.map _ List.filter_sublist) h.names
set_option maxHeartbeats 1000000 in
theorem remove_any (h : DI w B o d S c) (n : List UInt8) (hn : n.length ≤ 1000000000) :
    Calls Tryz.prog 98 #[.pointer (some ⟨d, 0, none⟩), .string ⟨n.toArray⟩] w fun e w' => e = .returned (.int .i64 (S.remove n).2) ∧ DOut o w B d (S.remove n).1 w' := by
  have H := Lib.hid h
  have hbg := begin_any h
  have HB := Lib.hid hbg
  clear h hbg
  cases hd : S.begin.dead with
  | true =>
    have e : S.remove n = (S.begin, 6) := by unfold Dk.remove; rw [hd]; rfl
    rw [e]
    clear e
    go_enter Tryz.func98, Tryz.ntmps98
    go_wp2_with fail
    refine HB.out.mono ?_
    rintro e w1 ⟨rfl, h1, g1⟩
    have H1 := Lib.hid h1
    clear h1
    rw [hd]
    go_wp2
    go_ret
    exact ⟨rfl, dout_begin H.out H1.out g1 (gr_refl _ _)⟩
  | false =>
    cases hr : rightB n with
    | false =>
      have e : S.remove n = (S.begin, 1) := by unfold Dk.remove; rw [hd, hr]; rfl
      rw [e]
      clear e
      go_enter Tryz.func98, Tryz.ntmps98
      go_wp2_with fail
      refine HB.out.mono ?_
      rintro e w1 ⟨rfl, h1, g1⟩
      have H1 := Lib.hid h1
      clear h1
      rw [hd]
      go_wp2_with (go_at_call 57; refine (find_bad d n true _ hn (.inl hr)).mono ?_; rintro e w2 ⟨rfl, g2⟩)
      go_ret
      exact ⟨rfl, dout_begin H.out H1.out g1 g2⟩
    | true =>
      cases hf : S.find n with
      | none =>
        have e : S.remove n = (S.begin, 3) := by unfold Dk.remove; rw [hd, hr, hf]; rfl
        rw [e]
        clear e
        have hf1 : S.begin.find n = none := by rw [begin_find]; exact hf
        clear hf
        go_enter Tryz.func98, Tryz.ntmps98
        go_wp2_with fail
        refine HB.out.mono ?_
        rintro e w1 ⟨rfl, h1, g1⟩
        have H1 := Lib.hid h1
        have Hfo := Lib.hid (find_no h1 hn hr hf1)
        clear h1 hf1
        rw [hd]
        go_wp2_with (go_at_call 57; refine Hfo.out.mono ?_; rintro e w2 ⟨rfl, g2⟩)
        go_ret
        exact ⟨rfl, dout_begin H.out H1.out g1 g2⟩
      | some f =>
        have e : S.remove n = (S.begin.removed n, 0) := by unfold Dk.remove; rw [hd, hr, hf]; rfl
        rw [e]
        clear e
        have hf1 : S.begin.find n = some f := by rw [begin_find]; exact hf
        obtain ⟨hmem, rfl⟩ := find_some hf1
        have HM := Lib.hid hmem
        have HF1 := Lib.hid hf1
        clear hf hmem
        go_enter Tryz.func98, Tryz.ntmps98
        go_wp2_with fail
        refine HB.out.mono ?_
        rintro e w1 ⟨rfl, h1, g1⟩
        have H1 := Lib.hid h1
        have G1 := Lib.hid g1
        have Hfo := Lib.hid (find_ok h1 hn hr hf1)
        clear h1 hf1 g1
        rw [hd]
        go_wp2_with fail
        refine Hfo.out.mono ?_
        rintro e w2 ⟨rfl, g2⟩
        have h2 := H1.out.ext g2
        have hc : w2.cell? ⟨d, 0, none⟩ = some (.map (some c.mb)) := h2.self.cell 0
        have hlen := butF_len H1.out.names HM.out
        have hfm := h2.fm
        rw [← hlen] at hfm
        have hnm : f.name.length ≤ maxLen := by unfold maxLen; omega
        have hin : Hid (domOf S.begin.fs c.fb f.name ≠ none) := by
          show domOf S.begin.fs c.fb f.name ≠ none
          unfold domOf
          rw [find_mem H1.out.names HM.out]; simp
        have H2 := Lib.hid h2
        have HFM := Lib.hid hfm
        have G2 := Lib.hid g2
        clear h2 hlen hfm g2 hd hr
        go_wp2_with (refine wp_fm_del1 rfl (.tmp 25) (.tmp 26) rfl HFM.out rfl hnm hin.out rfl ?_; intro w3 hm3 g3)
        have h3 := H2.out.less g3 hm3
        have hst := settle_all h3 f.name
        have HST := Lib.hid hst
        have H3 := Lib.hid h3
        have HT := Lib.hid h3.tL
        have C3 : Hid (Ch o w o w3) := ((Ch.of_gr G1.out (fun k e => by cases e; rw [H.out.tD]; simp)).trans (Ch.ext G2.out)).trans (Ch.of_gr g3 (fun k e => by cases e; rw [H2.out.tM]; simp))
        clear h3 hst hm3 g3
        go_wp2_with fail
        refine HST.out.mono ?_
        rintro e w4 ⟨rfl, hl4, g4⟩
        have h4 := H3.out.loose g4 hl4
        have H4 := Lib.hid h4
        have C4 : Hid (Ch o w o w4) := C3.out.trans (Ch.of_gr g4 (fun k e => by cases e; rw [HT.out]; simp))
        clear h4 hl4 g4
        go_wp2
        go_ret
        exact ⟨rfl, o, c, H4.out, C4.out⟩
end
end Go.Proofs.YtkpmadahfmpeiaaGreat

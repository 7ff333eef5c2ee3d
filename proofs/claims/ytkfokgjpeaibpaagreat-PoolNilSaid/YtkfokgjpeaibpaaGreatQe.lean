/-
  PoolNil: does with no pool, a write; all kinds; the walk.
-/
import Derived.Test.YtkfokgjpeaibpaaGreatQd
namespace Go.Proofs.YtkfokgjpeaibpaaGreat
open Go.RowKit Go.Maps
set_option maxRecDepth 100000
set_option maxHeartbeats 400000

theorem Own.cellAt {w : World} {B n c g off : Nat} {xs : List Value} (h : Own w B 1 (.slice (some ⟨g, off, none⟩) n c) n xs) {k : Nat} (hk : k < n) : (∃ u, w.cell? ⟨g, off + k, none⟩ = some u) ∧ w.frozen? ⟨g, off + k, none⟩ = false := by
  obtain ⟨hl, A', c', g', off', e, hn, hc, hA0, hA, hb, hx, hf⟩ := h
  cases e
  cases hA (by omega)
  obtain ⟨h1, h2⟩ := hf k (by omega)
  exact ⟨Option.isSome_iff_exists.1 h1, h2⟩
set_option maxHeartbeats 4000000 in
theorem does_nil_write (w : World) (name : List UInt8) (k : Int) (bv : Value) (b : List UInt8) (hb : RdB w bv b) (hbl : b.length ≤ 65536) :
    Calls Tryz.prog 13 #[.pointer none, .pointer none, .agg #[.int .i64 6, .string ⟨name.toArray⟩, .int .i64 k, bv]] w (DoesNil w) := by
  have HB := Lib.hid hb
  obtain ⟨Ab, cb, rfl⟩ := hb.form
  clear hb
  obtain ⟨W, hW⟩ : ∃ W, W = ((w.alloc (.cells #[.int .i64 6, .string ⟨name.toArray⟩, .int .i64 k, .slice Ab b.length cb] 35)).alloc (.cells #[.slice none 0 0, .int .i64 0, .int .i64 0] 38)).alloc (.cells #[.slice none 0 0, .int .i64 0, .int .i64 0] 38) := ⟨_, rfl⟩
  have HWE := Lib.hid hW
  obtain ⟨b3, b4, b6, gW⟩ := does3 w _ hW
  have hzW : W.heap.size = w.heap.size + 3 := by rw [hW]; simp [World.size_alloc]
  have HC1 := Lib.hid (copyBytes_any _ b W (HB.out.ext gW) (by omega))
  have B3 := Lib.hid b3
  have B4 := Lib.hid b4
  have B6 := Lib.hid b6
  have GW := Lib.hid gW
  clear hW b3 b4 b6 gW
  go_enter Tryz.func13, Tryz.ntmps13
  go_wp2_with fail
  rw [← HWE.out]
  refine HC1.out.mono ?_
  rintro e w1 ⟨v1, rfl, o1, g1⟩
  have B31 := Lib.hid (B3.out.ext g1)
  have B41 := Lib.hid (B4.out.ext g1)
  have B61 := Lib.hid (B6.out.ext g1)
  have GW1 := Lib.hid (gr_none GW.out g1)
  have O1 := Lib.hid o1
  obtain ⟨A1, c1, rfl⟩ := o1.rd.form
  have hz1 := g1.size
  have hn1 : w1.cell? ⟨w.heap.size, 1, none⟩ = some (.string ⟨name.toArray⟩) := B31.out.cell 1
  have hn2 : w1.cell? ⟨w.heap.size, 2, none⟩ = some (.int .i64 k) := B31.out.cell 2
  clear o1 g1 HC1 B3 B4 B6 GW
  go_wp2_with fail
  refine (pwrite_nil _ _ _ _).mono ?_
  rintro e w2 ⟨rfl, rfl⟩
  have hc6 := B61.out.cell
  have hf6 := B61.out.frozen
  have HC2 := Lib.hid (fun wx hx => copyBytes_any (.slice A1 b.length c1) b wx hx (by omega))
  go_wp2_with fail
  obtain ⟨W1, hW1⟩ : ∃ W1, W1 = w1.setCell ⟨w.heap.size + 1 + 1, 2, none⟩ (.int .i64 2) := ⟨_, rfl⟩
  rw [← hW1]
  have HC4 : Hid (Blk W1 (w.heap.size + 1) 38 #[.slice none 0 0, .int .i64 0, .int .i64 0]) := by show Blk _ _ _ _; rw [hW1]; exact B41.out.far (by simp) _
  have HC6 : Hid (Blk W1 (w.heap.size + 2) 38 #[.slice none 0 0, .int .i64 0, .int .i64 2]) := by show Blk _ _ _ _; rw [hW1]; exact B61.out.set 2 _
  have HGW : Hid (w.grownBy W1 none) := by show World.grownBy _ _ _; rw [hW1]; exact gr_set_new GW1.out _ _ (by show w.heap.size ≤ w.heap.size + 1 + 1; omega)
  have O2 : Hid (OwnB W1 W.heap.size (.slice A1 b.length c1) b) := by
    show OwnB _ _ _ _
    rw [hW1]
    exact Own.off O1.out (gr_setCell w1 ⟨w.heap.size + 1 + 1, 2, none⟩ _) fun q e hq => by cases e; have h9 : W.heap.size ≤ w.heap.size + 1 + 1 := (Own.blk_lt O1.out (by omega) hq).1; omega
  clear hW1 hc6 hf6 hn1 hn2 B31 B41 B61 GW1 O1
  refine (HC2.out _ O2.out.rd).mono ?_
  rintro e w2 ⟨v2, rfl, o2, g2⟩
  obtain ⟨A2, c2, rfl⟩ := o2.rd.form
  have hb4 := HC4.out.ext g2
  have hb6 := HC6.out.ext g2
  have hc6 := hb6.cell
  have hf6 := hb6.frozen
  have HBB4 := Lib.hid hb4
  have HBB6 := Lib.hid hb6
  have HG2 := Lib.hid (gr_none HGW.out g2)
  have O3 := Lib.hid (Own.ext O2.out g2)
  clear hb4 hb6 o2 g2 HC2 HC4 HC6 HGW O2
  go_wp2_with fail
  have hin : Hid (Blk (w2.setCell ⟨w.heap.size + 1 + 1, 0, none⟩ (.slice A2 b.length c2)) (w.heap.size + 1) 38 #[.slice none 0 0, .int .i64 0, .int .i64 0] ∧ Blk (w2.setCell ⟨w.heap.size + 1 + 1, 0, none⟩ (.slice A2 b.length c2)) (w.heap.size + 2) 38 #[.slice A2 b.length c2, .int .i64 0, .int .i64 2] ∧
      w.grownBy (w2.setCell ⟨w.heap.size + 1 + 1, 0, none⟩ (.slice A2 b.length c2)) none ∧ ∃ xs, Own (w2.setCell ⟨w.heap.size + 1 + 1, 0, none⟩ (.slice A2 b.length c2)) W.heap.size 1 (.slice A1 b.length c1) b.length xs) :=
    ⟨HBB4.out.far (by simp) _, HBB6.out.set 0 _, gr_set_new HG2.out _ _ (by show w.heap.size ≤ w.heap.size + 1 + 1; omega), _, Own.off O3.out (gr_setCell w2 ⟨w.heap.size + 1 + 1, 0, none⟩ _) fun q e hq => by cases e; have h9 : W.heap.size ≤ w.heap.size + 1 + 1 := (Own.blk_lt O3.out (by omega) hq).1; omega⟩
  clear hc6 hf6 HBB4 HBB6 HG2 O3
  go_loopw [11] (fun i wr => ∃ j : Nat, j ≤ b.length ∧ i = .int .i64 j ∧ Hid (Blk wr (w.heap.size + 1) 38 #[.slice none 0 0, .int .i64 0, .int .i64 0] ∧ Blk wr (w.heap.size + 2) 38 #[.slice A2 b.length c2, .int .i64 0, .int .i64 2] ∧ w.grownBy wr none ∧ ∃ xs, Own wr W.heap.size 1 (.slice A1 b.length c1) b.length xs)) (fun i _ => b.length - (intOf i).toNat)
  case atStart => exact ⟨0, by omega, rfl, hin⟩
  case round =>
    obtain ⟨j, hj, rfl, hst⟩ := hrel
    by_cases hlt : j < b.length
    · obtain ⟨h1, h2, h3, xs, h4⟩ := hst.out
      have h4' := h4
      obtain ⟨_, _, _, g1, off1, e, _, _, _, hA1, _⟩ := h4'
      cases e
      obtain rfl := hA1 (by omega)
      obtain ⟨⟨u, hcu⟩, hfz⟩ := Own.cellAt h4 hlt
      have hg1 := (Own.lt h4 g1 rfl)
      have HN : Hid (Blk (wr.setCell ⟨g1, off1 + j, none⟩ (.int .u8 237)) (w.heap.size + 1) 38 #[.slice none 0 0, .int .i64 0, .int .i64 0] ∧ Blk (wr.setCell ⟨g1, off1 + j, none⟩ (.int .u8 237)) (w.heap.size + 2) 38 #[.slice A2 b.length c2, .int .i64 0, .int .i64 2] ∧ w.grownBy (wr.setCell ⟨g1, off1 + j, none⟩ (.int .u8 237)) none ∧ ∃ xs, Own (wr.setCell ⟨g1, off1 + j, none⟩ (.int .u8 237)) W.heap.size 1 (.slice (some ⟨g1, off1, none⟩) b.length c1) b.length xs) :=
        ⟨h1.far (by show w.heap.size + 1 ≠ g1; omega) _, h2.far (by show w.heap.size + 2 ≠ g1; omega) _, gr_set_new h3 _ _ (by show w.heap.size ≤ g1; omega), _, Own.set rfl h4 (by omega) _⟩
      clear h1 h2 h3 h4 hst hin hA1
      go_wp2
      go_roundw
      case rel => exact ⟨j + 1, by omega, by go_num, HN⟩
      case measure => simp [intOf] <;> omega
    · obtain rfl : j = b.length := by omega
      obtain ⟨h1, h2, h3, -⟩ := hst.out
      have hq4 := h1.cell
      have hfz4 := h1.frozen
      have h60 : wr.cell? ⟨w.heap.size + 1 + 1, 0, none⟩ = some (.slice A2 b.length c2) := h2.cell 0
      have h61 : wr.cell? ⟨w.heap.size + 1 + 1, 1, none⟩ = some (.int .i64 0) := h2.cell 1
      have h62 : wr.cell? ⟨w.heap.size + 1 + 1, 2, none⟩ = some (.int .i64 2) := h2.cell 2
      have HB2 := Lib.hid h1
      have HG3 := Lib.hid h3
      clear h1 h2 h3 hst hin
      go_wp2
      obtain ⟨WF, hWF⟩ : ∃ WF, WF = ((wr.setCell ⟨w.heap.size + 1, 0, none⟩ (.slice A2 b.length c2)).setCell ⟨w.heap.size + 1, 1, none⟩ (.int .i64 0)).setCell ⟨w.heap.size + 1, 2, none⟩ (.int .i64 2) := ⟨_, rfl⟩
      rw [← hWF]
      obtain ⟨hcf, hgf⟩ := told_fin (by rfl) HB2.out HG3.out _ _ _ hWF
      have HGF := Lib.hid hgf
      clear hWF hq4 hfz4 h60 h61 h62 hgf
      exact bodyPost_ret (v := .agg #[.slice A2 b.length c2, .int .i64 0, .int .i64 2]) (by simp [results, Tryz.results13, go_sem, hcf]) rfl ⟨_, _, _, rfl, HGF.out⟩
theorem does_nil_any (w : World) (o : OpQ) (h : OpQk w o) (hbl : o.b.length ≤ 65536) (h0 : 0 ≤ o.kind) (h7 : o.kind ≤ 7) :
    Calls Tryz.prog 13 #[.pointer none, .pointer none, .agg #[.int .i64 o.kind, .string ⟨o.name.toArray⟩, .int .i64 o.k, o.bv]] w (DoesNil w) := by
  have hk : o.kind = 0 ∨ o.kind = 1 ∨ o.kind = 2 ∨ o.kind = 3 ∨ o.kind = 4 ∨ o.kind = 5 ∨ o.kind = 6 ∨ o.kind = 7 := by omega
  rcases hk with e | e | e | e | e | e | e | e <;> rw [e]
  · exact does_nil_create _ _ _ _
  · exact does_nil_drop _ _ _ _
  · exact does_nil_pages _ _ _ _
  · exact does_nil_pin _ _ _ _
  · exact does_nil_unpin _ _ _ _
  · exact does_nil_read _ _ _ _
  · exact does_nil_write _ _ _ _ _ h.b hbl
  · exact does_nil_flush _ _ _ _
set_option maxHeartbeats 2000000 in
theorem ponil_any (w : World) (o : OpQ) (ho : OpQk w o) :
    Calls Tryz.prog 4 #[.agg #[.int .i64 o.kind, .string ⟨o.name.toArray⟩, .int .i64 o.k, o.bv]] w fun e w' => e = .returned (.bool true) ∧ w.grownBy w' none := by
  have HO := Lib.hid ho
  obtain ⟨Ab, cb, hbv⟩ := ho.b.form
  obtain ⟨w1, hw1⟩ : ∃ w1, w1 = w.alloc (.cells #[.int .i64 o.kind, .string ⟨o.name.toArray⟩, .int .i64 o.k, o.bv] 35) := ⟨_, rfl⟩
  obtain ⟨w2, hw2⟩ : ∃ w2, w2 = w1.alloc (.cells #[.int .i64 o.kind, .string ⟨o.name.toArray⟩, .int .i64 o.k, o.bv] 35) := ⟨_, rfl⟩
  have g1 : w.grownBy w1 none := by rw [hw1]; exact gr_alloc _ _ _
  have g12 : w1.grownBy w2 none := by rw [hw2]; exact gr_alloc _ _ _
  have g2 := gr_none g1 g12
  have hz1 : w1.heap.size = w.heap.size + 1 := by rw [hw1]; simp
  have hb1 : Blk w2 w.heap.size 35 #[.int .i64 o.kind, .string ⟨o.name.toArray⟩, .int .i64 o.k, o.bv] := by
    refine Blk.ext ?_ g12
    rw [hw1]; exact Blk.new _ _ _
  have hb2 : Blk w2 (w.heap.size + 1) 35 #[.int .i64 o.kind, .string ⟨o.name.toArray⟩, .int .i64 o.k, o.bv] := by rw [hw2, ← hz1]; exact Blk.new _ _ _
  have HV := Lib.hid (vast1_any o (w.heap.size + 1) w2 (ho.ext g2) hb2)
  have HB1 := Lib.hid hb1
  have G2 := Lib.hid g2
  have HW2 : Hid (w2 = (w.alloc (.cells #[.int .i64 o.kind, .string ⟨o.name.toArray⟩, .int .i64 o.k, o.bv] 35)).alloc (.cells #[.int .i64 o.kind, .string ⟨o.name.toArray⟩, .int .i64 o.k, o.bv] 35)) := by show _ = _; rw [hw2, hw1]
  have HK := Lib.hid ho.kind
  have HDO := Lib.hid (fun wx (hx : w.grownBy wx none) => does_nil_any wx o (ho.ext hx))
  obtain ⟨kind, name, k, bv, b⟩ := o
  dsimp only at hbv HV HB1 HW2 HK HDO ⊢
  subst hbv
  clear hw1 hw2 g1 g12 g2 hz1 hb1 hb2 ho
  go_enter Tryz.func4, Tryz.ntmps4
  go_wp2_with fail
  rw [← HW2.out]
  refine HV.out.mono ?_
  rintro e w3 ⟨⟨bb, rfl, hsm⟩, q3, hq3⟩
  have g3 : w2.grownBy w3 none := by rw [hq3]; exact gr_drewN _ _ none
  have HC3 := Lib.hid (HB1.out.ext g3)
  have G3 := Lib.hid (gr_none G2.out g3)
  clear hq3 g3 HV HB1 HW2
  cases bb with
  | true =>
    go_wp2_with (go_at_call 9; refine (works10_any _).mono ?_; rintro e w4 ⟨rfl, g4⟩)
    go_ret
    exact ⟨rfl, gr_none G3.out g4⟩
  | false =>
    have HSM : Hid (b.length ≤ 65536) := hsm.out rfl
    clear hsm
    have c0 : w3.cell? ⟨w.heap.size, 0, none⟩ = some (.int .i64 kind) := HC3.out.cell 0
    have c1 : w3.cell? ⟨w.heap.size, 1, none⟩ = some (.string ⟨name.toArray⟩) := HC3.out.cell 1
    have c2 : w3.cell? ⟨w.heap.size, 2, none⟩ = some (.int .i64 k) := HC3.out.cell 2
    have c3 : w3.cell? ⟨w.heap.size, 3, none⟩ = some (.slice Ab b.length cb) := HC3.out.cell 3
    by_cases hk : 0 ≤ kind ∧ kind ≤ 7
    · have HD := Lib.hid (HDO.out w3 G3.out HSM.out hk.1 hk.2)
      have k1 : decide (0 ≤ kind) = true := by simpa using hk.1
      have k2 : decide (kind ≤ 7) = true := by simpa using hk.2
      clear hk HDO
      go_wp2_with (first
        | (go_at_call 11; refine (pnew_nil _).mono ?_; rintro e w4 ⟨rfl, rfl⟩)
        | (go_at_call 22; refine (pheld_nil _).mono ?_; rintro e w4 ⟨rfl, rfl⟩)
        | (go_at_call 23; refine (ppeak_nil _).mono ?_; rintro e w4 ⟨rfl, rfl⟩)
        | (go_at_call 24; refine (pdisk_nil _).mono ?_; rintro e w4 ⟨rfl, rfl⟩)
        | (go_at_call 25; refine (pframes_nil _).mono ?_; rintro e w4 ⟨rfl, rfl⟩)
        | (go_at_call 13; refine HD.out.mono ?_; rintro e w5 ⟨A5, n5, c5, rfl, g5⟩)
        | (go_at_call 9; refine (works10_any _).mono ?_; rintro e w6 ⟨rfl, g6⟩))
      go_ret
      exact ⟨rfl, gr_none (gr_none (gr_none G3.out g5) (gr_alloc _ _ none)) g6⟩
    · have hor : kind < 0 ∨ (0 ≤ kind ∧ 7 < kind) := by omega
      clear hk HDO
      rcases hor with h | ⟨h, h'⟩
      · have k1 : decide (0 ≤ kind) = false := by simpa using h
        go_wp2_with (first
          | (go_at_call 11; refine (pnew_nil _).mono ?_; rintro e w4 ⟨rfl, rfl⟩)
          | (go_at_call 22; refine (pheld_nil _).mono ?_; rintro e w4 ⟨rfl, rfl⟩)
          | (go_at_call 23; refine (ppeak_nil _).mono ?_; rintro e w4 ⟨rfl, rfl⟩)
          | (go_at_call 24; refine (pdisk_nil _).mono ?_; rintro e w4 ⟨rfl, rfl⟩)
          | (go_at_call 25; refine (pframes_nil _).mono ?_; rintro e w4 ⟨rfl, rfl⟩)
          | (go_at_call 9; refine (works10_any _).mono ?_; rintro e w6 ⟨rfl, g6⟩))
        go_ret
        exact ⟨rfl, gr_none G3.out g6⟩
      · have k1 : decide (0 ≤ kind) = true := by simpa using h
        have k2 : decide (kind ≤ 7) = false := by simpa using h'
        go_wp2_with (first
          | (go_at_call 11; refine (pnew_nil _).mono ?_; rintro e w4 ⟨rfl, rfl⟩)
          | (go_at_call 22; refine (pheld_nil _).mono ?_; rintro e w4 ⟨rfl, rfl⟩)
          | (go_at_call 23; refine (ppeak_nil _).mono ?_; rintro e w4 ⟨rfl, rfl⟩)
          | (go_at_call 24; refine (pdisk_nil _).mono ?_; rintro e w4 ⟨rfl, rfl⟩)
          | (go_at_call 25; refine (pframes_nil _).mono ?_; rintro e w4 ⟨rfl, rfl⟩)
          | (go_at_call 9; refine (works10_any _).mono ?_; rintro e w6 ⟨rfl, g6⟩))
        go_ret
        exact ⟨rfl, gr_none G3.out g6⟩
end Go.Proofs.YtkfokgjpeaibpaaGreat

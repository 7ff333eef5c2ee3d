/-
  The document's disk: Flip.
-/
import Derived.Test.YtipankjajdpiiaaGreatRd
namespace Go.Proofs.YtipankjajdpiiaaGreat
open Go.RowKit Go.Maps
set_option maxRecDepth 100000
set_option maxHeartbeats 400000

def RD.flipA (R : RD) (n : List UInt8) (k : Int) (m : UInt8) : RD × Nat := if R.off then (R, 6) else if rightB n = false ∨ m = 0 ∨ k < 0 then (R, 1) else match R.find n with | none => (R, 3) | some f => if (f.now.length : Int) ≤ k then (R, 1) else (R.flip n k.toNat m, 0)
theorem flip_set {l : List UInt8} {k : Nat} {u m : UInt8} (hk : k < l.length) (hu : u = l[k] ^^^ m) : l.set k u = flipL l k m := by
  unfold flipL
  rw [List.getD_eq_getElem?_getD, List.getElem?_eq_getElem hk, hu]; rfl
theorem flip_far {l : List UInt8} {k : Nat} {m : UInt8} (hk : l.length ≤ k) : flipL l k m = l := by
  unfold flipL
  exact List.set_eq_of_length_le hk
section
variable {w0 w w' wb wx wy : World} {r N c q a i : Nat} {O O1 : Own1} {A : Option Addr} {l : List Rm} {off : Bool} {R : RD}
set_option maxHeartbeats 4000000 in
theorem rflip_any (h : RS w0 w r O R) (hnd : (R.L.map Rf.n).Nodup) (n : List UInt8) (hn : n.length ≤ 1000000000) (k : Int) (m : UInt8) (hk : -9223372036854775808 ≤ k ∧ k ≤ 9223372036854775807) : Calls Tryz.prog 37 #[.pointer (some ⟨r, 0, none⟩), .string ⟨n.toArray⟩, .int .i64 k, .int .u8 m.toNat] w fun e w' => e = .returned (.int .i64 (R.flipA n k m).2) ∧ RSn w0 r O (R.flipA n k m).1 w w' := by
  obtain ⟨A0, N0, c0', l0, hv0, hl0⟩ := id h
  have hself0 := hv0.self.cell
  have H1 := Lib.hid h
  have HNM := Lib.hid (fun wx => rname_any n wx hn)
  have hC : R.flipA n k m = if R.off then (R, 6) else if rightB n = false ∨ m = 0 ∨ k < 0 then (R, 1) else match R.find n with | none => (R, 3) | some f => if (f.now.length : Int) ≤ k then (R, 1) else (R.flip n k.toNat m, 0) := rfl
  have HC := Lib.hid hC
  have HND := Lib.hid hnd
  have HK := Lib.hid hk
  clear h hC hn hnd hk hv0 hl0
  cases hd : R.off with
  | true =>
    have HR : Hid (R.flipA n k m = (R, 6)) := by show _ = _; rw [HC.out, if_pos hd]
    rw [hd] at hself0
    clear hd
    go_enter Tryz.func37, Tryz.ntmps37
    go_wp2_with fail
    go_ret
    exact ⟨by rw [HR.out]; rfl, by rw [HR.out]; exact ⟨O, H1.out, Ch.refl _ _⟩⟩
  | false =>
    have hd2 := hd
    rw [hd] at hself0
    go_enter Tryz.func37, Tryz.ntmps37
    go_wp2_with fail
    refine (HNM.out w).mono ?_
    rintro e w2 ⟨rfl, rfl⟩
    by_cases hbad : rightB n = false ∨ m = 0 ∨ k < 0
    · have HR : Hid (R.flipA n k m = (R, 1)) := by show _ = _; rw [HC.out, if_neg (by rw [hd]; simp), if_pos hbad]
      have hb3 : rightB n = false ∨ (rightB n = true ∧ m = 0) ∨ (rightB n = true ∧ m ≠ 0 ∧ k < 0) := by
        cases e : rightB n with
        | false => exact .inl rfl
        | true =>
          rw [e] at hbad
          by_cases hm : m = 0
          · exact .inr (.inl ⟨rfl, hm⟩)
          · rcases hbad with h9 | h9 | h9
            · cases h9
            · exact absurd h9 hm
            · exact .inr (.inr ⟨rfl, hm, h9⟩)
      clear hd hbad
      rcases hb3 with hr | ⟨hr, hm⟩ | ⟨hr, hm, hk0⟩
      · rw [hr]
        go_wp2_with fail
        go_ret
        exact ⟨by rw [HR.out]; rfl, by rw [HR.out]; exact ⟨O, H1.out, Ch.refl _ _⟩⟩
      · rw [hr]
        have hm0 : ((m.toNat : Int) == 0) = true := by rw [hm]; rfl
        clear hm
        go_wp2_with fail
        go_ret
        exact ⟨by rw [HR.out]; rfl, by rw [HR.out]; exact ⟨O, H1.out, Ch.refl _ _⟩⟩
      · rw [hr]
        have hm0 : ((m.toNat : Int) == 0) = false := by
          rw [beq_eq_false_iff_ne]
          exact fun e => hm (UInt8.toNat_inj.1 (by simpa using e))
        clear hm
        go_wp2_with fail
        go_ret
        exact ⟨by rw [HR.out]; rfl, by rw [HR.out]; exact ⟨O, H1.out, Ch.refl _ _⟩⟩
    · have hr : rightB n = true := by
        cases e : rightB n with
        | true => rfl
        | false => exact absurd (.inl e) hbad
      have hm0 : ((m.toNat : Int) == 0) = false := by
        rw [beq_eq_false_iff_ne]
        exact fun e => hbad (.inr (.inl (UInt8.toNat_inj.1 (by simpa using e))))
      have hk0 : ¬ k < 0 := fun e => hbad (.inr (.inr e))
      obtain ⟨A, N, c, l, hv, hl⟩ := H1.out
      have HV := Lib.hid hv
      have HLL := Lib.hid hl
      clear hv hl
      rw [hr]
      go_wp2_with fail
      refine (rat_any HV.out n).mono ?_
      rintro e w2 ⟨⟨z, rfl, hz⟩, g2⟩
      have CH2 : Hid (Ch O w O w2) := Ch.ext g2
      rcases ixm_find HLL.out hz with ⟨i, rfl, hi, hni, hf⟩ | ⟨rfl, hf⟩
      · obtain ⟨k', rfl⟩ := Int.eq_ofNat_of_zero_le (show 0 ≤ k by omega)
        have hCR : R.flipA n (k' : Int) m = if (l[i].now.length : Int) ≤ (k' : Int) then (R, 1) else (R.flip n k' m, 0) := by
          have hf2 : R.find n = some l[i].rf := hf
          rw [HC.out, if_neg (by rw [hd]; simp), if_neg hbad, hf2, Int.toNat_natCast]; rfl
        have h2 := HV.out.ext g2
        have hiN : i < N := by rw [← HV.out.len]; exact hi
        obtain ⟨gl, offl, rfl, -, -, -, -, -, -⟩ := h2.at_ hiN
        obtain ⟨c0, c1, c2, c3, hfz, hgr, hgO, hNc⟩ := h2.cellsA hiN hi
        have hok := h2.ok l[i] (List.getElem_mem hi)
        obtain ⟨X, hX⟩ : ∃ X, X = l[i] := ⟨_, rfl⟩
        rw [← hX] at c0 c1 c2 c3 hok hni hCR
        obtain ⟨A1, d1, e1⟩ := RdB.form hok.now
        obtain ⟨A2, d2, e2⟩ := RdB.form hok.lasts
        obtain ⟨_, A3, d3, _, _, e3, hc3, _⟩ := hok.loose
        obtain ⟨M1, hM1⟩ : ∃ M, M = X.now.length := ⟨_, rfl⟩
        obtain ⟨M2, hM2⟩ : ∃ M, M = X.lasts.length := ⟨_, rfl⟩
        obtain ⟨M3, hM3⟩ : ∃ M, M = X.loose.length := ⟨_, rfl⟩
        have hsm := hok.small
        have hr1 := hok.now
        have hr2 := hok.lasts
        have hr3 := hok.loose
        rw [e1] at c1 hr1
        rw [e2] at c2 hr2
        rw [e3] at c3 hr3
        have hc1 := RdB.cap hr1
        have hc2 := RdB.cap hr2
        rw [← hM1] at c1 hc1 hsm hCR
        rw [← hM2] at c2 hc2 hsm
        rw [← hM3] at c3 hc3 hsm hr3
        have s0 : w2.cell? ⟨r, 0, none⟩ = some (.slice (some ⟨gl, offl, none⟩) N c) := h2.self.cell 0
        have hi0 : (0 : Int) ≤ (i : Int) := by omega
        have hi1 : (i : Int) < (N : Int) := by omega
        have hi2 : ¬ (i : Int) < 0 := by omega
        have H2 := Lib.hid h2
        have HNI := Lib.hid hni
        have HX := Lib.hid hX
        have HI : Hid (True ∧ i < l.length) := ⟨trivial, hi⟩
        obtain ⟨nm, hnm⟩ : ∃ nm, nm = X.n := ⟨_, rfl⟩
        rw [← hnm] at c0
        obtain ⟨w3, hw3⟩ : ∃ w3, w3 = w2.alloc (.cells #[.string ⟨nm.toArray⟩, .slice A1 M1 d1, .slice A2 M2 d2, .slice A3 M3 d3] 100) := ⟨_, rfl⟩
        have hg3 : w2.grownBy w3 none := by rw [hw3]; exact gr_alloc _ _ none
        have hbk : Blk w3 w2.heap.size 100 #[.string ⟨nm.toArray⟩, .slice A1 M1 d1, .slice A2 M2 d2, .slice A3 M3 d3] := by rw [hw3]; exact Blk.new w2 _ _
        have hbc := hbk.cell
        rw [hw3] at hbc
        have HBK := Lib.hid hbk
        have G3 := Lib.hid hg3
        have HW3 := Lib.hid hw3
        have hne1 : gl ≠ w2.heap.size := by have := (h2.inb gl hgO).2; omega
        have HRN : Hid (RdB w2 (.slice A1 M1 d1) X.now) := by show RdB _ _ _; rw [hM1]; exact hr1
        have HR2 : Hid (RdB w2 (.slice A2 M2 d2) X.lasts) := by show RdB _ _ _; rw [hM2]; exact hr2
        have HR3 : Hid (Rd w2 1 (.slice A3 M3 d3) M3 (blL X.loose)) := hr3
        have HMM : Hid (M1 = X.now.length ∧ M2 = X.lasts.length ∧ M3 = X.loose.length) := ⟨hM1, hM2, hM3⟩
        have HE2 : Hid (X.lv = .slice A2 M2 d2) := by show _ = _; rw [hM2]; exact e2
        have HE3 : Hid (X.sv = .slice A3 M3 d3) := by show _ = _; rw [hM3]; exact e3
        clear hd hd2 hbad g2 hf hz h2 hfz hok e1 e2 e3 hr1 hr2 hr3 hM1 hM2 hM3 hni hX hnm hg3 hbk hw3
        by_cases hlt : (M1 : Int) ≤ (k' : Int)
        · have HR : Hid (R.flipA n (k' : Int) m = (R, 1)) := by show _ = _; rw [hCR, if_pos hlt]
          have HX2 : Hid (RS w0 w3 r O R ∧ Ch O w O w3) := ⟨⟨_, N, c, l, H2.out.ext G3.out, HLL.out⟩, CH2.out.trans (Ch.ext G3.out)⟩
          clear hCR
          go_wp2_with fail
          go_ret
          rw [← HW3.out]
          exact ⟨by rw [HR.out]; rfl, by rw [HR.out]; exact ⟨O, HX2.out.1, HX2.out.2⟩⟩
        · have HR : Hid (R.flipA n (k' : Int) m = (R.flip n k' m, 0)) := by show _ = _; rw [hCR, if_neg hlt]
          have hkM : k' < M1 := by omega
          clear hCR
          have HZ3 : Hid (w3.heap.size = w2.heap.size + 1) := by show _ = _; rw [HW3.out, World.size_alloc]
          have HLT : Hid (gl < w2.heap.size ∧ r < w2.heap.size) := ⟨(H2.out.inb gl hgO).2, (H2.out.inb r H2.out.me).2⟩
          have H3 : Hid (RV w0 w3 r O (some ⟨gl, offl, none⟩) N c l R.q R.armed R.off) := H2.out.ext G3.out
          have hki : (k' : Int) < (M1 : Int) := by omega
          have hkd : ¬ (M1 : Int) ≤ (k' : Int) := hlt
          have hkd2 : decide (M1 ≤ k') = false := decide_eq_false (by omega)

          by_cases hk2 : k' < M2
          · have hq1 : (k' : Int) < (M2 : Int) := by omega
            have hq2 : decide (k' < M2) = true := decide_eq_true hk2
            go_wp2_with (first
              | (at_builtin; rw [← HW6.out]; have hil : i < (l.set i { X with nv := .slice (some ⟨g5, off5, none⟩) M1 c4, now := X.now.set k' u }).length := (by rw [List.length_set]; exact hi); have hrl6 : RdB w6 (.slice A2 M2 d2) X.lasts := (by have h9 := H6.out.ok _ (List.getElem_mem hil); rw [List.getElem_set_self] at h9; have h8 : RdB w6 X.lv X.lasts := h9.lasts; rw [HE2.out] at h8; exact h8); refine wp_appB (m := X.lasts) (l := []) rfl (.tmp 73) (.tmp 75) rfl (by rw [HZ6.out]; rfl) (own_empty w6 w6.heap.size (Nat.le_refl _)) rfl (hrl6.ext (gr_alloc _ _ none)) (by rw [← HMM.out.2.1]; show 0 + M2 ≤ _; omega) (by rw [World.size_alloc]; omega) ?_; rintro v7 w7 o7 g7 -; obtain ⟨A7, c7, ev7⟩ := RdB.form (OwnB.rd o7); rw [List.nil_append, ← HMM.out.2.1] at ev7; subst ev7; rw [List.nil_append] at o7; have g67 : w6.grownBy w7 none := gr_trans (gr_alloc _ _ none) g7 (.inr fun q e => by cases e; exact Nat.le_refl _); obtain ⟨g8, off8, rfl, hB8, -, hle8, hc8, hfz8, hset8⟩ := OwnB.at_ o7 (k := k') (by rw [← HMM.out.2.1]; exact hk2); obtain ⟨u2, hu2⟩ : ∃ u, u = (X.lasts[k']'(by rw [← HMM.out.2.1]; exact hk2)) ^^^ m := ⟨_, rfl⟩; obtain ⟨y2, hy2⟩ : ∃ y, y = X.lasts[k']'(by rw [← HMM.out.2.1]; exact hk2) := ⟨_, rfl⟩; rw [← hy2] at hc8 hu2; have hxo2 : bits .xor .u8 (y2.toNat : Int) (m.toNat : Int) = ((u2.toNat : Nat) : Int) := (by rw [hu2, u8_xor_nat _ _ y2.toNat_lt m.toNat_lt, UInt8.toNat_xor]); have HU2 : Hid (X.lasts.set k' u2 = flipL X.lasts k' m) := flip_set (by rw [← HMM.out.2.1]; exact hk2) (by rw [hu2, hy2]); have hs7 := (H6.out.ext g67).self.cell; obtain ⟨-, -, z2, -, zf8, -, -, -⟩ := (H6.out.ext g67).cellsA hiN hil; have zf2 := zf8 2 (by omega); have hz6 := (H6.out.inb gl ((H6.out.cellsA hiN hil).2.2.2.2.2.2.1)).2; have hz7 := (H6.out.inb r H6.out.me).2; have p1 : ¬ g8 = r := (by omega); have p2 : ¬ g8 = gl := (by omega); have p4 : ¬ r = g8 := (by omega); have p5 : ¬ gl = g8 := (by omega); have O8 := Lib.hid (hset8 u2); have G67 := Lib.hid g67; have HB8 := Lib.hid hB8; clear o7 g7 hset8 hu2 hy2 zf8 g67)
              | (at_builtin; rw [← HW3.out]; refine wp_appB (m := X.now) (l := []) rfl (.tmp 47) (.tmp 49) rfl (by rw [HZ3.out]; rfl) (own_empty w3 w3.heap.size (Nat.le_refl _)) rfl (HRN.out.ext (gr_none G3.out (gr_alloc _ _ none))) (by rw [← HMM.out.1]; show 0 + M1 ≤ _; omega) (by rw [World.size_alloc]; omega) ?_; rintro v4 w4 o4 g4 -; obtain ⟨A4, c4, ev4⟩ := RdB.form (OwnB.rd o4); rw [List.nil_append, ← HMM.out.1] at ev4; subst ev4; rw [List.nil_append] at o4; have g34 : w3.grownBy w4 none := gr_trans (gr_alloc _ _ none) g4 (.inr fun q e => by cases e; exact Nat.le_refl _); obtain ⟨g5, off5, rfl, hB5, -, hle5, hc5, hfz5, hset5⟩ := OwnB.at_ o4 (k := k') (by rw [← HMM.out.1]; exact hkM); obtain ⟨u, hu⟩ : ∃ u, u = (X.now[k']'(by rw [← HMM.out.1]; exact hkM)) ^^^ m := ⟨_, rfl⟩; obtain ⟨y, hy⟩ : ∃ y, y = X.now[k']'(by rw [← HMM.out.1]; exact hkM) := ⟨_, rfl⟩; rw [← hy] at hc5 hu; have hxo : bits .xor .u8 (y.toNat : Int) (m.toNat : Int) = ((u.toNat : Nat) : Int) := (by rw [hu, u8_xor_nat _ _ y.toNat_lt m.toNat_lt, UInt8.toNat_xor]); have HU : Hid (X.now.set k' u = flipL X.now k' m) := flip_set (by rw [← HMM.out.1]; exact hkM) (by rw [hu, hy]); have hs4 := (H3.out.ext g34).self.cell; have hbx4 := (HBK.out.ext g34).cell; obtain ⟨-, z1, -, -, zf, -, -, -⟩ := (H3.out.ext g34).cellsA hiN hi; have zf1 := zf 1 (by omega); have hz := HZ3.out; have hgl := HLT.out.1; have hrl := HLT.out.2; have n1 : ¬ g5 = r := (by omega); have n2 : ¬ g5 = gl := (by omega); have n3 : ¬ g5 = w2.heap.size := (by omega); have n4 : ¬ r = g5 := (by omega); have n5 : ¬ gl = g5 := (by omega); have n6 : ¬ w2.heap.size = g5 := (by omega); have O5 := Lib.hid (hset5 u); have G34 := Lib.hid g34; have HB5 := Lib.hid hB5; clear o4 g4 hset5 hu hy zf; have g35 : w3.grownBy (w4.setCell ⟨g5, off5 + k', none⟩ (.int .u8 u.toNat)) none := gr_trans G34.out (gr_setCell _ _ _) (.inr fun b e => by cases e; exact HB5.out); have hx := ((H3.out.ext g35).grow (wb := w3) H3.out.gr.size).ok l[i] (List.getElem_mem hi); rw [← HX.out] at hx; have h6 := H3.out.field hiN hi g35 (j := 1) (u := .slice (some ⟨g5, off5, none⟩) M1 c4) (x' := { X with nv := .slice (some ⟨g5, off5, none⟩) M1 c4, now := X.now.set k' u }) (by omega) (by rw [← HX.out]; rfl) (RmOk.mk3 O5.out.rd hx.lasts hx.loose (offB_new H3.out O5.out (by omega)) hx.offL hx.offS ⟨hx.small.1, by show (X.now.set k' u).length ≤ _; rw [List.length_set, ← HMM.out.1]; omega, hx.small.2.2⟩); have hch6 : Ch O w2 O ((w4.setCell ⟨g5, off5 + k', none⟩ (.int .u8 u.toNat)).setCell ⟨gl, offl + i * 4 + 1, none⟩ (.slice (some ⟨g5, off5, none⟩) M1 c4)) := (Ch.ext (gr_none G3.out g35)).trans (Ch.of_gr (gr_setCell _ _ _) fun b e => by cases e; exact hgO); obtain ⟨w6, hw6⟩ : ∃ w6, w6 = (w4.setCell ⟨g5, off5 + k', none⟩ (.int .u8 u.toNat)).setCell ⟨gl, offl + i * 4 + 1, none⟩ (.slice (some ⟨g5, off5, none⟩) M1 c4) := ⟨_, rfl⟩; have hbk6 := ((HBK.out.ext G34.out).far (p := ⟨g5, off5 + k', none⟩) (fun e => n3 e.symm) (.int .u8 u.toNat)).far (p := ⟨gl, offl + i * 4 + 1, none⟩) (fun e => hne1 e.symm) (.slice (some ⟨g5, off5, none⟩) M1 c4); have hbc6 := (hbk6.ext (gr_alloc _ (.cells #[] 5) none)).cell; rw [← hw6] at h6 hch6 hbk6; have H6 := Lib.hid h6; have CH6 := Lib.hid hch6; have HBK6 := Lib.hid hbk6; have HW6 := Lib.hid hw6; have HZ6 : Hid (w6.heap.size = w4.heap.size) := (by show _ = _; rw [HW6.out, World.size_setCell, World.size_setCell]); clear h6 hch6 hbk6 hw6 hx g35))
            have hil : i < (l.set i { X with nv := .slice (some ⟨g5, off5, none⟩) M1 c4, now := X.now.set k' u }).length := by rw [List.length_set]; exact hi
            have g68 : w6.grownBy (w7.setCell ⟨g8, off8 + k', none⟩ (.int .u8 u2.toNat)) none := gr_trans G67.out (gr_setCell _ _ _) (.inr fun b e => by cases e; exact HB8.out)
            have hx := ((H6.out.ext g68).grow (wb := w6) H6.out.gr.size).ok _ (List.getElem_mem hil)
            rw [List.getElem_set_self] at hx
            have h9 := H6.out.field hiN hil g68 (j := 2) (u := .slice (some ⟨g8, off8, none⟩) M2 c7) (x' := { X with nv := .slice (some ⟨g5, off5, none⟩) M1 c4, now := X.now.set k' u, lv := .slice (some ⟨g8, off8, none⟩) M2 c7, lasts := X.lasts.set k' u2 }) (by omega) (by rw [List.getElem_set_self]; rfl) (RmOk.mk3 hx.now O8.out.rd hx.loose hx.offN (offB_new H6.out O8.out (by omega)) hx.offS ⟨hx.small.1, hx.small.2.1, by show (X.lasts.set k' u2).length ≤ _; rw [List.length_set, ← HMM.out.2.1]; omega, hx.small.2.2.2⟩)
            rw [List.set_set] at h9
            have hch9 := CH6.out.trans ((Ch.ext g68).trans (Ch.of_gr (gr_setCell _ ⟨gl, offl + i * 4 + 2, none⟩ (.slice (some ⟨g8, off8, none⟩) M2 c7)) fun b e => by cases e; exact hgO))
            go_ret
            have hL9 : (l.set i { X with nv := .slice (some ⟨g5, off5, none⟩) M1 c4, now := X.now.set k' u, lv := .slice (some ⟨g8, off8, none⟩) M2 c7, lasts := X.lasts.set k' u2 }).map Rm.rf = (R.flip n k' m).L := by
              show _ = setR R.L n _
              rw [← HLL.out]
              refine setR_map (by have := HND.out; rw [← HLL.out, List.map_map] at this; exact this) hi (by rw [← HX.out]; exact HNI.out) ?_
              rw [← HX.out]
              show (⟨X.n, X.now.set k' u, X.lasts.set k' u2, X.loose⟩ : Rf) = ⟨X.n, flipL X.now k' m, flipL X.lasts k' m, X.loose⟩
              rw [HU.out, HU2.out]
            exact ⟨by rw [HR.out]; rfl, by rw [HR.out]; exact ⟨_, ⟨_, _, _, _, h9, hL9⟩, CH2.out.trans ⟨hch9.os, hch9.tape, hch9.output, hch9.size, hch9.block, growO_free (growO_free (fun _ _ h => h) G3.out.size) CH6.out.size⟩⟩⟩
          · have hq1 : ¬ (k' : Int) < (M2 : Int) := by omega
            have hq2 : decide (k' < M2) = false := decide_eq_false hk2
            go_wp2_with (at_builtin; rw [← HW3.out]; refine wp_appB (m := X.now) (l := []) rfl (.tmp 47) (.tmp 49) rfl (by rw [HZ3.out]; rfl) (own_empty w3 w3.heap.size (Nat.le_refl _)) rfl (HRN.out.ext (gr_none G3.out (gr_alloc _ _ none))) (by rw [← HMM.out.1]; show 0 + M1 ≤ _; omega) (by rw [World.size_alloc]; omega) ?_; rintro v4 w4 o4 g4 -; obtain ⟨A4, c4, ev4⟩ := RdB.form (OwnB.rd o4); rw [List.nil_append, ← HMM.out.1] at ev4; subst ev4; rw [List.nil_append] at o4; have g34 : w3.grownBy w4 none := gr_trans (gr_alloc _ _ none) g4 (.inr fun q e => by cases e; exact Nat.le_refl _); obtain ⟨g5, off5, rfl, hB5, -, hle5, hc5, hfz5, hset5⟩ := OwnB.at_ o4 (k := k') (by rw [← HMM.out.1]; exact hkM); obtain ⟨u, hu⟩ : ∃ u, u = (X.now[k']'(by rw [← HMM.out.1]; exact hkM)) ^^^ m := ⟨_, rfl⟩; obtain ⟨y, hy⟩ : ∃ y, y = X.now[k']'(by rw [← HMM.out.1]; exact hkM) := ⟨_, rfl⟩; rw [← hy] at hc5 hu; have hxo : bits .xor .u8 (y.toNat : Int) (m.toNat : Int) = ((u.toNat : Nat) : Int) := (by rw [hu, u8_xor_nat _ _ y.toNat_lt m.toNat_lt, UInt8.toNat_xor]); have HU : Hid (X.now.set k' u = flipL X.now k' m) := flip_set (by rw [← HMM.out.1]; exact hkM) (by rw [hu, hy]); have hs4 := (H3.out.ext g34).self.cell; have hbx4 := (HBK.out.ext g34).cell; obtain ⟨-, z1, -, -, zf, -, -, -⟩ := (H3.out.ext g34).cellsA hiN hi; have zf1 := zf 1 (by omega); have hz := HZ3.out; have hgl := HLT.out.1; have hrl := HLT.out.2; have n1 : ¬ g5 = r := (by omega); have n2 : ¬ g5 = gl := (by omega); have n3 : ¬ g5 = w2.heap.size := (by omega); have n4 : ¬ r = g5 := (by omega); have n5 : ¬ gl = g5 := (by omega); have n6 : ¬ w2.heap.size = g5 := (by omega); have O5 := Lib.hid (hset5 u); have G34 := Lib.hid g34; have HB5 := Lib.hid hB5; clear o4 g4 hset5 hu hy zf)
            have g35 : w3.grownBy (w4.setCell ⟨g5, off5 + k', none⟩ (.int .u8 u.toNat)) none := gr_trans G34.out (gr_setCell _ _ _) (.inr fun b e => by cases e; exact HB5.out)
            have hx := ((H3.out.ext g35).grow (wb := w3) H3.out.gr.size).ok l[i] (List.getElem_mem hi)
            rw [← HX.out] at hx
            have h6 := H3.out.field hiN hi g35 (j := 1) (u := .slice (some ⟨g5, off5, none⟩) M1 c4) (x' := { X with nv := .slice (some ⟨g5, off5, none⟩) M1 c4, now := X.now.set k' u }) (by omega) (by rw [← HX.out]; rfl) (RmOk.mk3 O5.out.rd hx.lasts hx.loose (offB_new H3.out O5.out (by omega)) hx.offL hx.offS ⟨hx.small.1, by show (X.now.set k' u).length ≤ _; rw [List.length_set, ← HMM.out.1]; omega, hx.small.2.2⟩)
            have hch6 : Ch O w2 O ((w4.setCell ⟨g5, off5 + k', none⟩ (.int .u8 u.toNat)).setCell ⟨gl, offl + i * 4 + 1, none⟩ (.slice (some ⟨g5, off5, none⟩) M1 c4)) := (Ch.ext (gr_none G3.out g35)).trans (Ch.of_gr (gr_setCell _ _ _) fun b e => by cases e; exact hgO)
            go_ret
            have hL6 : (l.set i { X with nv := .slice (some ⟨g5, off5, none⟩) M1 c4, now := X.now.set k' u }).map Rm.rf = (R.flip n k' m).L := by
              show _ = setR R.L n _
              rw [← HLL.out]
              refine setR_map (by have := HND.out; rw [← HLL.out, List.map_map] at this; exact this) hi (by rw [← HX.out]; exact HNI.out) ?_
              rw [← HX.out]
              show (⟨X.n, X.now.set k' u, X.lasts, X.loose⟩ : Rf) = ⟨X.n, flipL X.now k' m, flipL X.lasts k' m, X.loose⟩
              rw [HU.out, flip_far (l := X.lasts) (by rw [← HMM.out.2.1]; omega)]
            exact ⟨by rw [HR.out]; rfl, by rw [HR.out]; exact ⟨_, ⟨_, _, _, _, h6, hL6⟩, CH2.out.trans ⟨hch6.os, hch6.tape, hch6.output, hch6.size, hch6.block, growO_free (fun _ _ h => h) G3.out.size⟩⟩⟩
      · have HR : Hid (R.flipA n k m = (R, 3)) := by
          show _ = _
          have hf2 : R.find n = none := hf
          rw [HC.out, if_neg (by rw [hd]; simp), if_neg hbad, hf2]
        have HX : Hid (RS w0 w2 r O R) := ⟨A, N, c, l, HV.out.ext g2, HLL.out⟩
        clear hd hd2 g2 hf hz hbad
        go_wp2_with fail
        go_ret
        exact ⟨by rw [HR.out]; rfl, by rw [HR.out]; exact ⟨O, HX.out, CH2.out⟩⟩
end
end Go.Proofs.YtipankjajdpiiaaGreat

/- What a Write leaves, step by step: plain. -/
namespace Go.Proofs.YtipankjajdpiiaaGreat
open Go.RowKit Go.Maps
set_option maxRecDepth 100000

theorem overZ_len2 {l m : List UInt8} {p : Nat} (h : p + m.length ≤ l.length) : (overZ l p m).length = l.length := overZ_len h
theorem overZ_nil (l : List UInt8) (p : Nat) : overZ l p [] = l := by unfold overZ; simp
theorem overZ_step {P b : List UInt8} {p i : Nat} (hi : i < b.length) (hp : p + b.length ≤ P.length) : (overZ P p (b.take i)).set (p + i) b[i] = overZ P p (b.take (i + 1)) := by
  have hl1 : (b.take i).length = i := by rw [List.length_take]; omega
  have hl2 : (b.take (i + 1)).length = i + 1 := by rw [List.length_take]; omega
  unfold overZ
  rw [hl1, hl2, List.take_succ_eq_append_getElem hi]
  have hd : P.drop (p + i) = P[p + i] :: P.drop (p + i + 1) := by rw [List.drop_eq_getElem_cons (by omega)]
  rw [hd]
  have hq : (P.take p ++ b.take i).length = p + i := by rw [List.length_append, List.length_take, hl1]; omega
  rw [List.set_append_right _ _ (by omega), hq, Nat.sub_self, List.set_cons_zero]
  simp only [List.append_assoc, List.cons_append, List.nil_append, Nat.add_assoc]
/-- the bytes padded to where a write ends. -/
def padN (l : List UInt8) (E : Nat) : List UInt8 := l ++ List.replicate (E - l.length) 0
theorem padN_len {l : List UInt8} {E : Nat} (h : l.length ≤ E) : (padN l E).length = E := by unfold padN; simp; omega
theorem overZ_pad {l b : List UInt8} {p : Nat} (hp : p ≤ l.length) : overZ (padN l (max l.length (p + b.length))) p b = overZ l p b := by
  unfold overZ padN
  congr 1
  · rw [List.take_append_of_le_length hp]
  · rcases Nat.lt_or_ge (p + b.length) l.length with h | h
    · rw [show max l.length (p + b.length) - l.length = 0 from by omega, List.replicate_zero, List.append_nil]
    · rw [List.drop_of_length_le (by simp; omega), List.drop_of_length_le h]
def padF (l : List Bool) (m : Nat) : List Bool := l ++ List.replicate (m - l.length) false
theorem padF_len (l : List Bool) (m : Nat) : (padF l m).length = max l.length m := by unfold padF; simp; omega
theorem padF_getD (l : List Bool) (m k : Nat) : (padF l m).getD k false = l.getD k false := by
  unfold padF
  rw [List.getD_eq_getElem?_getD, List.getD_eq_getElem?_getD]
  by_cases h : k < l.length
  · rw [List.getElem?_append_left h]
  · rw [List.getElem?_append_right (by omega), List.getElem?_eq_none (l := l) (by omega), List.getElem?_replicate]
    split <;> rfl
/-- the loose sectors behind the first i bytes. -/
def hitI (l : List Bool) (m off i : Nat) : List Bool := (List.range m).map fun k => l.getD k false || hits off i (k : Int)
theorem hitI_len (l : List Bool) (m off i : Nat) : (hitI l m off i).length = m := by unfold hitI; simp
theorem hitI_get (l : List Bool) (m off i k : Nat) : (hitI l m off i)[k]? = if k < m then some (l.getD k false || hits off i (k : Int)) else none := by
  unfold hitI
  rw [List.getElem?_map]
  by_cases h : k < m
  · rw [List.getElem?_range h, if_pos h]; rfl
  · rw [List.getElem?_eq_none (by rw [List.length_range]; omega), if_neg h]; rfl
theorem hitI_zero (l : List Bool) {m : Nat} (off : Nat) : hitI l (max l.length m) off 0 = padF l m := by
  apply List.ext_getElem?
  intro k
  rw [hitI_get]
  by_cases h : k < max l.length m
  · rw [if_pos h]
    have h2 : k < (padF l m).length := by rw [padF_len]; exact h
    have h3 := padF_getD l m k
    rw [List.getD_eq_getElem?_getD, List.getElem?_eq_getElem h2] at h3
    have h4 : (padF l m)[k] = l.getD k false := h3
    rw [List.getElem?_eq_getElem h2, h4]
    have : hits off 0 (k : Int) = false := by unfold hits; simp
    rw [this, Bool.or_false]
  · rw [if_neg h, List.getElem?_eq_none (by rw [padF_len]; omega)]
theorem hits_succ2 (off i : Nat) (k : Int) : hits off (i + 1) k = (hits off i k || (((off + i) / 64 : Nat) : Int) == k) := by
  unfold hits
  rw [List.range_succ, List.any_append]
  simp
theorem hitI_step (l : List Bool) {m off i : Nat} : (hitI l m off i).set ((off + i) / 64) true = hitI l m off (i + 1) := by
  apply List.ext_getElem?
  intro k
  rw [List.getElem?_set, hitI_get, hitI_get, hitI_len, hits_succ2]
  by_cases e : (off + i) / 64 = k
  · have h5 : ((((off + i) / 64 : Nat) : Int) == (k : Int)) = true := by rw [beq_iff_eq, e]
    rw [if_pos e, h5]
    by_cases h : k < m
    · rw [if_pos (by rw [e]; exact h), if_pos h]; simp
    · rw [if_neg (by rw [e]; exact h), if_neg h]
  · have h5 : ((((off + i) / 64 : Nat) : Int) == (k : Int)) = false := by rw [beq_eq_false_iff_ne]; omega
    rw [if_neg e, h5, Bool.or_false]
theorem sectors_mono {a b : Nat} (h : a ≤ b) : sectors a ≤ sectors b := by unfold sectors; omega
theorem sectors_le {a : Nat} (h : a ≤ 16777216) : sectors a ≤ 262144 := by unfold sectors; omega
theorem sec_lt {p E : Nat} (h : p < E) : p / 64 < sectors E := by unfold sectors; omega
/-- append(v, x), one bool. -/
theorem wp_app1Bl {ops : Array Oper} {rest : List Oper} {o : Oper} {a : Act} {Q : Exit → Act → World → Prop} {w : World} (u : Bool) (hgd : o.guard = none) (s0 x0 : Operand)
    (ho : o.op = .call { callee := .builtin .append, args := #[s0, x0], argTypes := #[98, 98] }) {B : Nat} {v : Value} {l : List Bool} (hs : a.eval s0 = v) (hown : Own w B 1 v l.length (blL l))
    (g : Nat) (hx : a.eval x0 = .slice (some ⟨g, 0, none⟩) 1 1) (hg : g = w.heap.size) (hn : l.length ≤ 1000000000) (hB : B ≤ w.heap.size)
    (h : ∀ v' w', Own w' B 1 v' (l ++ [u]).length (blL (l ++ [u])) → w.grownBy w' v.ownBlock → wpList Tryz.prog ops Q rest (a.put o.dst v') w') :
    wpList Tryz.prog ops Q (o :: rest) a (w.alloc (.cells #[.bool u] 4)) := by
  subst hg
  exact wp_app1 w #[.bool u] hgd s0 x0 98 ho B 4 _ 1 1 Tryz.underlying98 Tryz.infoBool rfl (by omega) v _ _ hs hown hx rfl (fun u hu => by simp at hu; subst hu; rfl) (by unfold maxLen; omega) (by omega) hB
    fun v' w' h1 h2 h3 => h v' w' (by unfold blL; rw [List.length_append, List.map_append]; exact h1) h2
/-- append(v, x...), bools. -/
theorem wp_appBl {ops : Array Oper} {rest : List Oper} {o : Oper} {a : Act} {Q : Exit → Act → World → Prop} {w : World} (hgd : o.guard = none) (s0 x0 : Operand)
    (ho : o.op = .call { callee := .builtin .append, args := #[s0, x0], argTypes := #[98, 98] }) {B n : Nat} {v x : Value} {l m : List Bool} (hs : a.eval s0 = v) (hown : Own w B 1 v l.length (blL l))
    (hx : a.eval x0 = x) (hr : Rd w 1 x n (blL m)) (hn : l.length + n ≤ 1000000000) (hB : B ≤ w.heap.size)
    (h : ∀ v' w', Own w' B 1 v' (l.length + n) (blL (l ++ m)) → w.grownBy w' v.ownBlock → wpList Tryz.prog ops Q rest (a.put o.dst v') w') :
    wpList Tryz.prog ops Q (o :: rest) a w :=
  wp_app w hgd s0 x0 98 ho B 4 _ 1 1 Tryz.underlying98 Tryz.infoBool rfl (by omega) v _ _ hs hown x n (blL m) hx hr (bl_one m) (by unfold maxLen; omega) (by omega) hB
    fun v' w' h1 h2 h3 => h v' w' (by unfold blL; rw [List.map_append]; exact h1) h2
theorem padN_succ {l : List UInt8} {n : Nat} (h : l.length ≤ n) : padN l n ++ [0] = padN l (n + 1) := by
  unfold padN
  rw [show n + 1 - l.length = (n - l.length) + 1 from by omega, List.replicate_succ', List.append_assoc]
theorem padN_self (l : List UInt8) : padN l l.length = l := by unfold padN; simp
theorem padF_succ {l : List Bool} {n : Nat} (h : l.length ≤ n) : padF l n ++ [false] = padF l (n + 1) := by
  unfold padF
  rw [show n + 1 - l.length = (n - l.length) + 1 from by omega, List.replicate_succ', List.append_assoc]
theorem padF_self (l : List Bool) : padF l l.length = l := by unfold padF; simp
theorem padF_max (l : List Bool) (T : Nat) : padF l (max l.length T) = padF l T := by unfold padF; rw [show max l.length T - l.length = T - l.length from by omega]
def lenV : Value → Nat
  | .slice _ n _ => n
  | _ => 0
theorem own_blAt {w : World} {B n c : Nat} {A : Option Addr} {l : List Bool} (h : Own w B 1 (.slice A n c) n (blL l)) {k : Nat} (hk : k < n) : ∃ g off, A = some ⟨g, off, none⟩ ∧ B ≤ g ∧ n ≤ c ∧ (∃ u, w.cell? ⟨g, off + k, none⟩ = some u) ∧ w.frozen? ⟨g, off + k, none⟩ = false ∧ ∀ u : Bool, Own (w.setCell ⟨g, off + k, none⟩ (.bool u)) B 1 (.slice A n c) n (blL (l.set k u)) := by
  obtain ⟨hl, A', c', g, off, e, hn, hc, hA0, hA, hB, hx, hf⟩ := id h
  cases e
  obtain rfl := hA (by omega)
  refine ⟨g, off, rfl, hB _ rfl, hn, Option.isSome_iff_exists.1 (hf k (by omega)).1, (hf k (by omega)).2, fun u => ?_⟩
  have := Own.set (A := some ⟨g, off, none⟩) rfl h (j := k) (by omega) (.bool u)
  unfold blL at this ⊢
  rw [List.map_set]
  exact this
theorem rd_byte {w : World} {A : Option Addr} {n c : Nat} {b : List UInt8} (h : RdB w (.slice A n c) b) {k : Nat} (hk : k < b.length) : ∃ g off, A = some ⟨g, off, none⟩ ∧ n ≤ c ∧ w.cell? ⟨g, off + k, none⟩ = some (.int .u8 b[k].toNat) := by
  obtain ⟨hl, A', c', g, off, e, hn, hc, hA0, hA, hx⟩ := h
  cases e
  have hA' := hA (by omega)
  subst hA'
  refine ⟨g, off, rfl, hn, ?_⟩
  rw [hx k (by omega), List.getElem?_map, List.getElem?_eq_getElem hk]
  rfl
theorem own_size {w : World} {B n c : Nat} {A : Option Addr} {b : List UInt8} (h : OwnB w B (.slice A n c) b) (h0 : 0 < b.length) : ∀ q, (Value.slice A n c).ownBlock = some q → q < w.heap.size := by
  obtain ⟨g, off, rfl, _, _, _, hc, _⟩ := h.at_ h0
  intro q e
  cases e
  exact World.block_lt_of_cell? w _ hc
/-- a byte and a mark stored, in blocks that lie apart. -/
theorem store2 {w : World} {B1 B2 E cn mm cm p s : Nat} {An Am : Option Addr} {P : List UInt8} {L : List Bool} (h1 : OwnB w B1 (.slice An E cn) P) (h2 : Own w B2 1 (.slice Am mm cm) mm (blL L)) (hlt : ∀ q, (Value.slice An E cn).ownBlock = some q → q < B2) (hp : p < P.length) (hs : s < mm) (u : UInt8) :
    ∃ g1 o1 g2 o2, An = some ⟨g1, o1, none⟩ ∧ Am = some ⟨g2, o2, none⟩ ∧ E ≤ cn ∧ mm ≤ cm ∧ B1 ≤ g1 ∧ B2 ≤ g2 ∧ (∃ v, w.cell? ⟨g1, o1 + p, none⟩ = some v) ∧ w.frozen? ⟨g1, o1 + p, none⟩ = false ∧
      (∃ v, (w.setCell ⟨g1, o1 + p, none⟩ (.int .u8 u.toNat)).cell? ⟨g2, o2 + s, none⟩ = some v) ∧ (w.setCell ⟨g1, o1 + p, none⟩ (.int .u8 u.toNat)).frozen? ⟨g2, o2 + s, none⟩ = false ∧
      OwnB ((w.setCell ⟨g1, o1 + p, none⟩ (.int .u8 u.toNat)).setCell ⟨g2, o2 + s, none⟩ (.bool true)) B1 (.slice An E cn) (P.set p u) ∧
      Own ((w.setCell ⟨g1, o1 + p, none⟩ (.int .u8 u.toNat)).setCell ⟨g2, o2 + s, none⟩ (.bool true)) B2 1 (.slice Am mm cm) mm (blL (L.set s true)) := by
  obtain ⟨g1, o1, rfl, hB1, _, hle1, hc1, hf1, hset1⟩ := h1.at_ hp
  have hg1 := hlt g1 rfl
  have h2' : Own (w.setCell ⟨g1, o1 + p, none⟩ (.int .u8 u.toNat)) B2 1 (.slice Am mm cm) mm (blL L) := h2.gr (gr_setCell w ⟨g1, o1 + p, none⟩ _) fun k e e2 => by
    cases e
    have h5 : B2 ≤ g1 := Own.lt h2 _ e2
    omega
  obtain ⟨g2, o2, rfl, hB2, hle2, hc2, hf2, hset2⟩ := own_blAt h2' hs
  refine ⟨g1, o1, g2, o2, rfl, rfl, hle1, hle2, hB1, hB2, ⟨_, hc1⟩, hf1, hc2, hf2, ?_, hset2 true⟩
  exact Own.gr (hset1 u) (gr_setCell _ ⟨g2, o2 + s, none⟩ _) fun k e e2 => by
    cases e
    have h5 : g1 = g2 := by cases e2; rfl
    omega
theorem quo64 {p : Nat} (hp : p ≤ 16777216) : IntKind.i64.wrap ((p : Int).tdiv 64) = ((p / 64 : Nat) : Int) := by
  rw [Int.tdiv_eq_ediv_of_nonneg (by omega), IntWalk.i64_in _ (by omega)]
  omega
section
variable {w0 w3 wt : World} {r N c q a i gl offl E cn mm cm : Nat} {O : Own1} {l : List Rm} {off : Bool} {An Am : Option Addr} {P : List UInt8} {L : List Bool}
/-- the two stores of a Write. -/
theorem wrote_mem (h : RV w0 w3 r O (some ⟨gl, offl, none⟩) N c l q a off) (hiN : i < N) (hi : i < l.length) (g : w3.grownBy wt none) (h1 : OwnB wt w3.heap.size (.slice An E cn) P) (h2 : Own wt w3.heap.size 1 (.slice Am mm cm) mm (blL L)) (hP : P.length ≤ 16777216) (hL : L.length = mm) (hmm : mm ≤ 262144) :
    RV w0 ((wt.setCell ⟨gl, offl + i * 4 + 1, none⟩ (.slice An E cn)).setCell ⟨gl, offl + i * 4 + 3, none⟩ (.slice Am mm cm)) r (growO O w3 wt) (some ⟨gl, offl, none⟩) N c (l.set i { l[i] with nv := .slice An E cn, now := P, sv := .slice Am mm cm, loose := L }) q a off ∧
      Ch O w3 O ((wt.setCell ⟨gl, offl + i * 4 + 1, none⟩ (.slice An E cn)).setCell ⟨gl, offl + i * 4 + 3, none⟩ (.slice Am mm cm)) := by
  obtain ⟨_, _, _, _, _, hgr, hgO, _⟩ := h.cellsA hiN hi
  have hlt : gl < w3.heap.size := (h.inb gl hgO).2
  have hx := (h.ext g |>.grow (wb := w3) h.gr.size).ok l[i] (List.getElem_mem hi)
  have h5 := h.field hiN hi g (j := 1) (u := .slice An E cn) (x' := { l[i] with nv := .slice An E cn, now := P }) (by omega) rfl (RmOk.mk3 h1.rd hx.lasts hx.loose (offB_new h h1 (by omega)) hx.offL hx.offS ⟨hx.small.1, hP, hx.small.2.2⟩)
  have hil : i < (l.set i { l[i] with nv := .slice An E cn, now := P }).length := by rw [List.length_set]; exact hi
  have hy := h5.ok _ (List.getElem_mem hil)
  rw [List.getElem_set_self] at hy
  have h2' : Own (wt.setCell ⟨gl, offl + i * 4 + 1, none⟩ (.slice An E cn)) w3.heap.size 1 (.slice Am mm cm) mm (blL L) := h2.gr (gr_setCell wt ⟨gl, offl + i * 4 + 1, none⟩ _) fun k e e2 => by
    cases e
    have h5 : w3.heap.size ≤ gl := Own.lt h2 _ e2
    omega
  obtain ⟨gl', offl', e3, -, -, -, -, -, hput⟩ := h5.at_ hiN
  cases e3
  have h7 := hput hil 3 (.slice Am mm cm) { l[i] with nv := .slice An E cn, now := P, sv := .slice Am mm cm, loose := L } (by omega) (by rw [List.getElem_set_self]; rfl) (RmOk.mk3 hy.now hy.lasts (by show Rd _ _ _ L.length _; rw [hL]; exact h2'.rd) hy.offN hy.offL (offB_new h h2 (by omega)) ⟨hx.small.1, hP, hx.small.2.2.1, by show L.length ≤ _; rw [hL]; exact hmm⟩)
  rw [List.set_set] at h7
  exact ⟨h7, ((Ch.ext g).trans (Ch.of_gr (gr_setCell wt ⟨gl, offl + i * 4 + 1, none⟩ _) fun b e => by cases e; exact hgO)).trans (Ch.of_gr (gr_setCell _ ⟨gl, offl + i * 4 + 3, none⟩ _) fun b e => by cases e; exact hgO)⟩
end
theorem sum_sec (l : List Rm) (h : ∀ x ∈ l, x.now.length ≤ 16777216) : (l.map fun x => sectors x.now.length).sum ≤ 262144 * l.length := by
  induction l with
  | nil => simp
  | cons a l ih =>
    have h1 := sectors_le (h a (List.mem_cons_self ..))
    have h2 := ih fun x hx => h x (List.mem_cons_of_mem _ hx)
    rw [List.map_cons, List.sum_cons, List.length_cons]
    omega
theorem used_sum {w0 w : World} {r : Nat} {O : Own1} {R : RD} (h : RS w0 w r O R) : R.used ≤ 1000000000000000000 := by
  obtain ⟨A, N, c, l, h, hl⟩ := h
  have h1 := sum_sec l fun x hx => (h.ok x hx).small.2.1
  have h2 : R.used = (l.map fun x => sectors x.now.length).sum := by unfold RD.used; rw [← hl, List.map_map]; rfl
  have h3 := h.lim.2.2
  have h4 := h.len
  rw [h2]
  omega
end Go.Proofs.YtipankjajdpiiaaGreat

/-
  pool, any of it: frames are written back.
-/
import Derived.Test.YtkpmadahfmpeiaaGreatG6
namespace Go.Proofs.YtkpmadahfmpeiaaGreat
open Go.RowKit Go.Maps
set_option maxRecDepth 100000
set_option maxHeartbeats 400000

theorem write_small (S : Dk) (n : List UInt8) (k : Int) (b : List UInt8) : (S.write n k b).1.fs.length = S.fs.length ∧ (S.write n k b).1.nl ≤ S.nl + b.length := by
  have hb : S.begin.fs.length = S.fs.length ∧ S.begin.nl ≤ S.nl + b.length := ⟨by rw [begin_fs], by rw [(begin_loose S).2.1]; omega⟩
  unfold Dk.write
  split
  · exact hb
  · split
    · exact hb
    · split
      · exact hb
      · split
        · exact hb
        · split
          · exact hb
          · split
            · exact hb
            · refine ⟨?_, ?_⟩
              · show (setF S.begin.fs _ _).length = _
                rw [setF_len]; exact hb.1
              · show S.begin.nl + b.length ≤ _
                rw [(begin_loose S).2.1]; exact Nat.le_refl _
theorem pwrite_small (S : Dk) (n : List UInt8) (k : Int) (b : List UInt8) : (S.pwrite n k b).1.fs.length = S.fs.length ∧ (S.pwrite n k b).1.nl ≤ S.nl + 256 := by
  have hb : S.fs.length = S.fs.length ∧ S.nl ≤ S.nl + 256 := ⟨rfl, by omega⟩
  unfold Dk.pwrite
  split
  · exact hb
  · split
    · exact hb
    · split
      · exact hb
      · split
        · exact hb
        · next h1 _ _ =>
          have := write_small S n (k * 256) (pagB (crcS n) k.toNat b)
          rwa [pagB_len (by omega)] at this
/-- what frames that are written back leave. -/
def BkOut (o : Own1) (w : World) (B d p g mb : Nat) (P : Pl) (nm : Nat) (R : PutR) (w' : World) : Prop := ∃ o' c', DI w' B o' d R.S c' ∧ PoR w' B o' d p g mb { P with fr := R.fr } nm ∧ Ch (po o p g mb) w (po o' p g mb) w'
section
variable {w w' : World} {B d p g mb nm pf : Nat} {o : Own1} {P : Pl} {S : Dk} {c : Con} {n : List UInt8}
theorem putL_cons {n : List UInt8} {i : Nat} {l : List Nat} {fr : List Fr} {S : Dk} {f : Fr} (hf : fr[i]? = some f) :
    putL n (i :: l) fr S = if (S.pwrite n f.k f.b).2 ≠ 0 then ⟨fr, (S.pwrite n f.k f.b).1, (S.pwrite n f.k f.b).2⟩ else putL n l (fr.set i f.clean) (S.pwrite n f.k f.b).1 := by
  show (match fr[i]? with | none => _ | some f => _) = _
  rw [hf]
set_option maxHeartbeats 4000000 in
theorem poput_any {l : List Nat} {v : Value} (h : DI w B o d S c) (hp : PoR w B o d p g mb P nm) (hpf : PfR w B o d pf n) (hpo : po o p g mb pf = none) (hn : n.length ≤ 1000000000) (hv : RdI w v (ixL l)) (hvo : ∀ q, blk v = some q → q < w.heap.size ∧ po o p g mb q = none)
    (hl : ∀ i ∈ l, i < P.fr.length) (hll : l.length ≤ 1000000) (hfl : S.fs.length ≤ 1000000) (hnl : S.nl ≤ 1000000000000) :
    Calls Tryz.prog 53 #[.pointer (some ⟨p, 0, none⟩), .pointer (some ⟨pf, 0, none⟩), v] w fun e w' => e = .returned (.int .i64 (putL n l P.fr S).e) ∧ BkOut o w B d p g mb P nm (putL n l P.fr S) w' := by
  obtain ⟨Al, cl, rfl⟩ := hv.form
  have HL := Lib.hid hl
  have HV := Lib.hid hv
  have HVO := Lib.hid hvo
  have HI : Hid (∃ fr' S' o' c', putL n l P.fr S = putL n (l.drop 0) fr' S' ∧ DI w B o' d S' c' ∧ PoR w B o' d p g mb { P with fr := fr' } nm ∧ PfR w B o' d pf n ∧ Ch (po o p g mb) w (po o' p g mb) w ∧ S'.fs.length ≤ 1000000 ∧ S'.nl ≤ 1000000000000 + 256 * 0 ∧ fr'.length = P.fr.length) := ⟨P.fr, S, o, c, rfl, h, hp, hpf, Ch.refl _ _, hfl, by omega, rfl⟩
  have hfrl := hp.lim.2.1
  have HPO : Hid (∀ q, w.heap.size ≤ q → po o p g mb q = none) := fun q hq => by
    have h1 := hp.self.lt
    have h2 := hp.fr.lt
    have h3 := hp.wh.lt
    refine po_none_mk (by omega) (by omega) (by omega) ?_
    cases e : o q with
    | none => rfl
    | some t => exact absurd (h.inb q (by rw [e]; simp)).2 (by omega)
  clear h hp hpf hl hv hvo
  rw [ixL_len]
  go_enter Tryz.func53, Tryz.ntmps53
  go_wp2_with fail
  go_loopw [8, 9, 12] (fun _ _ k wr => ∃ j : Nat, j ≤ l.length ∧ k = .int .i64 j ∧ ∃ fr' S' o' c', putL n l P.fr S = putL n (l.drop j) fr' S' ∧ DI wr B o' d S' c' ∧ PoR wr B o' d p g mb { P with fr := fr' } nm ∧ PfR wr B o' d pf n ∧ Ch (po o p g mb) w (po o' p g mb) wr ∧ S'.fs.length ≤ 1000000 ∧ S'.nl ≤ 1000000000000 + 256 * j ∧ fr'.length = P.fr.length) (fun _ _ k _ => l.length - (intOf k).toNat)
  case atStart => exact ⟨0, by omega, rfl, HI.out⟩
  case round =>
    obtain ⟨j, hj, rfl, fr', S', o', c', he, h1, hp1, hpf1, ch1, hf1, hn1, hl1⟩ := hrel
    by_cases hlt : j < l.length
    · have hil : l[j] < fr'.length := by rw [hl1]; exact HL.out _ (List.getElem_mem hlt)
      have hfi : fr'[l[j]]? = some fr'[l[j]] := List.getElem?_eq_getElem hil
      have hdrop : l.drop j = l[j] :: l.drop (j + 1) := List.drop_eq_getElem_cons hlt
      have hvr : RdI wr (.slice Al (ixL l).length cl) (ixL l) := ch1.rd HV.out HVO.out
      have hx := List.getElem?_eq_getElem hlt
      obtain ⟨i, hi⟩ : ∃ i, i = l[j] := ⟨_, rfl⟩
      have hil2 : i < fr'.length := by rw [hi]; exact hil
      rw [← hi] at hdrop hx
      obtain ⟨-, A', c'', g2, off, ea, hnc, -, -, hA, hcell⟩ := hvr
      cases ea
      rw [ixL_len] at hnc
      obtain rfl := hA (by omega)
      have c7 : wr.cell? ⟨g2, off + j, none⟩ = some (.int .i64 (i : Int)) := by
        rw [hcell j (by rw [ixL_len]; omega)]
        unfold intL ixL
        rw [List.getElem?_map, List.getElem?_map, hx]; rfl
      obtain ⟨x, hxe⟩ : ∃ x, x = fr'[i] := ⟨_, rfl⟩
      have hbx := hp1.bytes x (by rw [hxe]; exact List.getElem_mem hil2)
      obtain ⟨c0, c1, c2, c3, c4, c5, c6⟩ := frame_cells hp1.fr hil2 hxe.symm
      obtain ⟨s0, s1, -⟩ := hp1.selfc
      have s1' : wr.cell? ⟨p, 1, none⟩ = some (.slice (some ⟨g, 0, none⟩) fr'.length fr'.length) := s1
      have hst : putL n (l.drop j) fr' S' = if (S'.pwrite n x.k x.b).2 ≠ 0 then ⟨fr', (S'.pwrite n x.k x.b).1, (S'.pwrite n x.k x.b).2⟩ else putL n (l.drop (j + 1)) (fr'.set i x.clean) (S'.pwrite n x.k x.b).1 := by
        rw [hdrop]
        exact putL_cons (by rw [hxe]; exact List.getElem?_eq_getElem hil2)
      have HX := Lib.hid hxe
      have H1 := Lib.hid h1
      have HP1 := Lib.hid hp1
      have HPF := Lib.hid hpf1
      have CH1 := Lib.hid ch1
      have HE := Lib.hid he
      have HST := Lib.hid hst
      have HBX := Lib.hid hbx
      obtain ⟨Ab, cb, hbv⟩ := hbx.rd.form
      have HBV := Lib.hid hbv
      have hkb := hbx.len.2.2.2
      have hbl := hbx.len.1
      have HSM := Lib.hid (pwrite_small S' n x.k x.b)
      have HW : Hid (∀ wx, wr.grownBy wx none → Calls Tryz.prog 77 #[.pointer (some ⟨pf, 0, none⟩), .int .i64 x.k, x.bv] wx fun e w' => e = .returned (.int .i64 (S'.pwrite n x.k x.b).2) ∧ DOut o' wx B d (S'.pwrite n x.k x.b).1 w') := fun wx hg =>
        pwrite_any (H1.out.ext hg) (HPF.out.ext hg) hn x.k (by omega) x.bv x.b (HBX.out.rd.ext hg) (by omega) hf1 (by omega)
      clear s0 s1 c0 c1 c4 c5 c6 hxe h1 hp1 hpf1 ch1 he hst hbx hi hx hdrop hil hfi hcell hA
      rw [hbv] at c3 HW
      obtain ⟨k, hk⟩ : ∃ k, k = x.k := ⟨_, rfl⟩
      obtain ⟨bl, hbl2⟩ : ∃ bl, bl = x.b.length := ⟨_, rfl⟩
      have HBL := Lib.hid hbl2
      rw [← hk] at c2
      rw [← hbl2] at c3 hbl
      rw [← hk, ← hbl2] at HW
      have HK := Lib.hid hk
      clear hk hbl2 hbv
      obtain ⟨L, hL⟩ : ∃ L, L = fr'.length := ⟨_, rfl⟩
      rw [← hL] at s1' hil2
      have hiL : (i : Int) < (L : Int) := by omega
      have HLL := Lib.hid hL
      have HL1 := Lib.hid hl1
      have hLb : L ≤ 4096 := by omega
      obtain ⟨E, hE⟩ : ∃ E, E = (S'.pwrite n x.k x.b).2 := ⟨_, rfl⟩
      have e0 : S'.pwrite n k x.b = S'.pwrite n x.k x.b := by rw [HK.out]
      rw [e0, ← hE] at HW
      rw [← hE] at HST
      have HEE := Lib.hid hE
      have HCE : Hid (∀ (wx : World) (oo : Own1), PoR wx B oo d p g mb { P with fr := fr' } nm → wx.cell? ⟨p, 1, none⟩ = some (.slice (some ⟨g, 0, none⟩) L L) ∧ wx.cell? ⟨g, i * 7 + 2, none⟩ = some (.int .i64 k) ∧ wx.cell? ⟨g, i * 7 + 3, none⟩ = some (.slice Ab bl cb) ∧ wx.frozen? ⟨g, i * 7 + 5, none⟩ = false ∧ ∃ u, wx.cell? ⟨g, i * 7 + 5, none⟩ = some u) := fun wx oo hq => by
        obtain ⟨-, q1, -⟩ := hq.selfc
        obtain ⟨-, -, q2, q3, -, q5, -⟩ := frame_cells hq.fr (i := i) (x := x) (by show i < fr'.length; omega) HX.out.symm
        rw [HBV.out, ← HBL.out] at q3
        exact ⟨by rw [HLL.out]; exact q1, by rw [HK.out]; exact q2, q3, hq.fr.frozen _, _, q5⟩
      clear hl1 hL hE e0 hnc hil2
      by_cases he0 : E = 0
      · subst he0
        go_wp2
        go_region_held3 (fun w' => w'.cell? ⟨p, 1, none⟩ = some (.slice (some ⟨g, 0, none⟩) L L) ∧ w'.cell? ⟨g, i * 7 + 2, none⟩ = some (.int .i64 k) ∧ w'.cell? ⟨g, i * 7 + 3, none⟩ = some (.slice Ab bl cb)) (go_keep) (first
          | (go_at_call 77; (with_reducible refine (HW.out _ ?_).mono ?_); (first | exact gr_drew _ _ | exact gr_refl _ _); rintro e w1 ⟨rfl, o2, c2', h2, ch2⟩; obtain ⟨k1, k2, k3, k4, u5, k5⟩ := HCE.out w1 o2 ((HP1.out.ext (gr_drew _ none)).ch ch2)))
        have HP2 := Lib.hid ((HP1.out.ext (gr_drew _ none)).ch ch2)
        have HPF2 := Lib.hid ((HPF.out.ext (gr_drew _ none)).ch ch2)
        have H2 := Lib.hid h2
        have CH2 := Lib.hid ((CH1.out.trans (Ch.ext (gr_drew _ none))).trans (ch2.po (p := p) (g := g) (mb := mb)))
        clear h2 ch2 HW HCE
        go_wp2
        go_roundw
        case rel =>
          have hg5 : w1.grownBy (w1.setCell ⟨g, i * 7 + 5, none⟩ (.bool false)) (some g) := gr_setCell w1 ⟨g, i * 7 + 5, none⟩ _
          have hi2 : i < fr'.length := by have := HLL.out; omega
          have b3 := Blk.setFr HP2.out.fr (i := i) hi2 (j := 5) (by omega) (x' := x.clean) (v := .bool false) (by show _ = (fr'[i].enc).set 5 _; rw [← HX.out]; rfl)
          have hbx := HP2.out.bytes x (by rw [HX.out]; exact List.getElem_mem hi2)
          have hx5 : FrB w1 B o2 p g mb x.clean := ⟨hbx.rd, hbx.off, hbx.len⟩
          have hp3 := HP2.out.put hg5 (i := i) hi2 b3 (by show _ = (fr'[i]).full; rw [← HX.out]; rfl) (by show _ = (fr'[i]).n; rw [← HX.out]; rfl) (by show _ = (fr'[i]).k; rw [← HX.out]; rfl) (hx5.far hg5 fun q e => (hx5.off q e).2.2.1)
          refine ⟨j + 1, by omega, by go_num, fr'.set i x.clean, (S'.pwrite n x.k x.b).1, o2, c2', ?_, H2.out.far hg5 (fun k e => by cases e; exact HP2.out.off.2.1), hp3, ?_, CH2.out.trans (Ch.of_gr hg5 fun k e => by cases e; exact (po_ne o2 p g mb).2.1), ?_, ?_, ?_⟩
          · rw [HE.out, HST.out, if_neg (by simp)]
          · refine ⟨HPF2.out.box.gr hg5 fun e => ?_, HPF2.out.free, HPF2.out.pB⟩
            have := Option.some.inj e
            exact (po_none hpo).2.1 this.symm
          · rw [HSM.out.1]; exact hf1
          · have := HSM.out.2; omega
          · rw [List.length_set]; exact HL1.out
        case measure => simp [intOf] <;> omega
      · have hne : ((E : Int) != 0) = true := by rw [bne_iff_ne]; omega
        have HE0 := Lib.hid he0
        clear he0
        go_wp2
        go_region_held3 (fun w' => w'.cell? ⟨p, 1, none⟩ = some (.slice (some ⟨g, 0, none⟩) L L) ∧ w'.cell? ⟨g, i * 7 + 2, none⟩ = some (.int .i64 k) ∧ w'.cell? ⟨g, i * 7 + 3, none⟩ = some (.slice Ab bl cb)) (go_keep) (first
          | (go_at_call 77; (with_reducible refine (HW.out _ ?_).mono ?_); (first | exact gr_drew _ _ | exact gr_refl _ _); rintro e w1 ⟨rfl, o2, c2', h2, ch2⟩; obtain ⟨k1, k2, k3, k4, u5, k5⟩ := HCE.out w1 o2 ((HP1.out.ext (gr_drew _ none)).ch ch2)))
        have HP2 := Lib.hid ((HP1.out.ext (gr_drew _ none)).ch ch2)
        have H2 := Lib.hid h2
        have CH2 := Lib.hid ((CH1.out.trans (Ch.ext (gr_drew _ none))).trans (ch2.po (p := p) (g := g) (mb := mb)))
        clear h2 ch2 HW HCE
        go_wp2
        go_ret
        have hR : putL n l P.fr S = ⟨fr', (S'.pwrite n x.k x.b).1, E⟩ := by rw [HE.out, HST.out, if_pos HE0.out]
        rw [hR]
        exact ⟨rfl, o2, c2', H2.out, HP2.out, CH2.out⟩
    · obtain rfl : j = l.length := by omega
      have HH := Lib.hid (show putL n l P.fr S = ⟨fr', S', 0⟩ ∧ DI wr B o' d S' c' ∧ PoR wr B o' d p g mb { P with fr := fr' } nm ∧ Ch (po o p g mb) w (po o' p g mb) wr from ⟨by rw [he, List.drop_length]; rfl, h1, hp1, ch1⟩)
      clear he h1 hp1 hpf1 ch1
      go_wp2
      go_ret
      obtain ⟨hR, k1, k2, k3⟩ := HH.out
      rw [hR]
      exact ⟨rfl, o', c', k1, k2, k3⟩
end
end Go.Proofs.YtkpmadahfmpeiaaGreat

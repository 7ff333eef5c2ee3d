/-
  pool, any of it: Write.
-/
import Derived.Test.YtkpmadahfmpeiaaGreatGb
namespace Go.Proofs.YtkpmadahfmpeiaaGreat
open Go.RowKit Go.Maps
set_option maxRecDepth 100000
set_option maxHeartbeats 400000

section
variable {w w' : World} {B d p g mb nm pf : Nat} {o : Own1} {S : Dk} {c : Con} {n : List UInt8} {Q : Pm}
theorem DI.pool' {w w' : World} {B d p g mb : Nat} {o : Own1} {S : Dk} {c : Con} {Q : Pm} (h : DI w B o d S c) (hp : PoS w B o d p g mb Q) (hc : Ch (po noO p g mb) w (po noO p g mb) w') : DI w' B o d S c := by obtain ⟨wh, hp⟩ := hp; exact h.pool hp hc
theorem po_fresh_s {w : World} {B d p g mb : Nat} {o : Own1} {S : Dk} {c : Con} {Q : Pm} (hp : PoS w B o d p g mb Q) (h : DI w B o d S c) {q : Nat} (hq : w.heap.size ≤ q) : po o p g mb q = none := hp.fresh h hq
def WriteOut (o : Own1) (w : World) (B d p g mb : Nat) (F : Value → WriteR) (e : Ending) (w' : World) : Prop := ∃ v, (∀ q, blk v = some q → w.heap.size ≤ q) ∧ e = .returned (.int .i64 (F v).e) ∧ PdOut o w B d p g mb (F v).Q (F v).S w'
/-- a frame's page is another one. -/
theorem PoS.wrote (h : PoS w B o d p g mb Q) {i : Nat} {x : Fr} (hx : Q.fr[i]? = some x) {b : List UInt8} {v : Value} (hv : FrB w B o p g mb { x with b := b, bv := v, dirty := true, used := true }) :
    PoOut o w B d p g mb (Q.wrote i b v) (((w.setCell ⟨g, i * 7 + 3, none⟩ v).setCell ⟨g, i * 7 + 5, none⟩ (.bool true)).setCell ⟨g, i * 7 + 6, none⟩ (.bool true)) := by
  obtain ⟨hi, hxe⟩ := List.getElem?_eq_some_iff.1 hx
  have hg5 : w.grownBy (((w.setCell ⟨g, i * 7 + 3, none⟩ v).setCell ⟨g, i * 7 + 5, none⟩ (.bool true)).setCell ⟨g, i * 7 + 6, none⟩ (.bool true)) (some g) :=
    gr_trans (gr_trans (gr_setCell w ⟨g, i * 7 + 3, none⟩ _) (gr_setCell _ ⟨g, i * 7 + 5, none⟩ _) (.inl rfl)) (gr_setCell _ ⟨g, i * 7 + 6, none⟩ _) (.inl rfl)
  have b1 := Blk.setFr h.frames hi (j := 3) (by omega) (x' := { x with b := b, bv := v }) (v := v) (by rw [hxe]; rfl)
  have b2 := Blk.setFr b1 (i := i) (by simpa using hi) (j := 5) (by omega) (x' := { x with b := b, bv := v, dirty := true }) (v := .bool true) (by rw [List.getElem_set_self]; rfl)
  have b3 := Blk.setFr b2 (i := i) (by simpa using hi) (j := 6) (by omega) (x' := { x with b := b, bv := v, dirty := true, used := true }) (v := .bool true) (by rw [List.getElem_set_self]; rfl)
  simp only [List.set_set] at b3
  have := h.upd hg5 hx b3 rfl rfl rfl (hv.far hg5 fun q e => (hv.off q e).2.2.1)
  unfold Pm.wrote
  rw [modify_eq hx]
  exact this
set_option maxHeartbeats 4000000 in
theorem powrite_any (h : DI w B o d S c) (hp : PoS w B o d p g mb Q) (hn : n.length ≤ 1000000000) {k : Int} (hk : -9223372036854775808 ≤ k ∧ k ≤ 9223372036854775807) (hlo : lowF 1000000000 Q.fr) (hfl : S.fs.length ≤ 1000000) (hnl : S.nl ≤ 1000000000000)
    {bv : Value} {b : List UInt8} (hb : RdB w bv b) (hbo : ∀ q, blk bv = some q → q < w.heap.size ∧ po o p g mb q = none) (hbl : b.length ≤ 1000000000) :
    Calls Tryz.prog 46 #[.pointer (some ⟨p, 0, none⟩), .string ⟨n.toArray⟩, .int .i64 k, bv] w (WriteOut o w B d p g mb (Q.write S n k b)) := by
  obtain ⟨Ab, cb, rfl⟩ := hb.form
  have HPG := Lib.hid (popages_any h hp hn)
  have hple := pages_le h hlo n
  have H := Lib.hid h
  have HP := Lib.hid hp
  have hB := h.base
  have HB := Lib.hid hb
  have HBO := Lib.hid hbo
  have HFR : Hid (∀ q, w.heap.size ≤ q → po o p g mb q = none) := fun q hq => hp.fresh h hq
  have hl : Q.fr.length ≤ 4096 := hp.lim.2.1
  have hok : okK n k := ⟨by unfold maxLen; omega, WalkArith.wf_i64 (by omega)⟩
  have HOK := Lib.hid hok
  have hhand : Q.hand < Q.fr.length := hp.lim.2.2.1
  have HTG := Lib.hid (take_gen Q S hhand)
  have HBR : Hid (∀ v, Q.write S n k b v = if 240 < b.length then ⟨9, Q, S⟩
    else if (Q.pages S n).2 ≠ 0 then ⟨(Q.pages S n).2, Q, S⟩
    else if k < 0 ∨ (Q.pages S n).1 < k then ⟨1, Q, S⟩
    else match Q.at n k with
    | some i => ⟨0, Q.wrote i b v, S⟩
    | none => if (Q.take S).e ≠ 0 then ⟨(Q.take S).e, (Q.take S).Q, (Q.take S).S⟩
      else ⟨0, ((Q.take S).Q.fill (Q.take S).i ⟨true, n, k, [], .slice none 0 0, 0, false, false⟩).wrote (Q.take S).i b v, (Q.take S).S⟩) := fun v => rfl
  clear h hp hok hlo hhand hb hbo
  obtain ⟨X, hX⟩ : ∃ X, X = Q.pages S n := ⟨_, rfl⟩
  rw [← hX] at HPG HBR hple
  clear hX
  obtain ⟨m, pe⟩ := X
  simp only [] at HPG HBR hple
  unfold PagesOut at HPG
  simp only [] at HPG
  by_cases h0 : 240 < b.length
  · have HB2 : Hid (∀ v, Q.write S n k b v = ⟨9, Q, S⟩) := fun v => by rw [HBR.out, if_pos h0]
    have h0' : (240 : Int) < (b.length : Int) := by omega
    clear HBR h0
    go_enter Tryz.func46, Tryz.ntmps46
    go_wp2
    go_ret
    refine ⟨.slice none 0 0, (fun q e => by cases e), ?_⟩
    rw [HB2.out]
    exact ⟨rfl, PdOut.refl H.out HP.out⟩
  have hbl2 : b.length ≤ 240 := by omega
  have d1 : decide ((240 : Int) < (b.length : Int)) = false := by simp; omega
  by_cases h1 : pe = 0
  · subst h1
    by_cases h2 : k < 0
    · have HB2 : Hid (∀ v, Q.write S n k b v = ⟨1, Q, S⟩) := fun v => by rw [HBR.out, if_neg h0, if_neg (by simp), if_pos (.inl h2)]
      clear HBR h0
      go_enter Tryz.func46, Tryz.ntmps46
      go_wp2_with fail
      refine HPG.out.mono ?_
      rintro e w1 ⟨rfl, g1⟩
      have G1 := Lib.hid g1
      clear g1 HPG
      go_wp2
      go_ret
      refine ⟨.slice none 0 0, (fun q e => by cases e), ?_⟩
      rw [HB2.out]
      exact ⟨rfl, PdOut.ext H.out HP.out G1.out⟩
    · have h2' : 0 ≤ k := by omega
      have d2 : decide (k < 0) = false := by simp; omega
      by_cases h3 : m < k
      · have HB2 : Hid (∀ v, Q.write S n k b v = ⟨1, Q, S⟩) := fun v => by rw [HBR.out, if_neg h0, if_neg (by simp), if_pos (.inr h3)]
        clear HBR h0 h2
        go_enter Tryz.func46, Tryz.ntmps46
        go_wp2_with fail
        refine HPG.out.mono ?_
        rintro e w1 ⟨rfl, g1⟩
        have G1 := Lib.hid g1
        clear g1 HPG
        go_wp2
        go_ret
        refine ⟨.slice none 0 0, (fun q e => by cases e), ?_⟩
        rw [HB2.out]
        exact ⟨rfl, PdOut.ext H.out HP.out G1.out⟩
      · have h3' : k ≤ m := by omega
        have d3 : decide (m < k) = false := by simp; omega
        have hno : ¬ (k < 0 ∨ m < k) := fun h => h.elim h2 h3
        have HCL : Hid (∀ wx, RdB wx (.slice Ab b.length cb) b → Calls Tryz.prog 58 #[.slice Ab b.length cb] wx fun e w' => ∃ v', e = .returned v' ∧ OwnB w' wx.heap.size v' b ∧ wx.grownBy w' none) := fun wx hx => cloneB _ b wx hx (by omega)
        cases hat : Q.at n k with
        | some i =>
          have HB2 : Hid (∀ v, Q.write S n k b v = ⟨0, Q.wrote i b v, S⟩) := fun v => by rw [HBR.out, if_neg h0, if_neg (by simp), if_neg hno, hat]
          obtain ⟨x, x1, x2, x3, x4⟩ := at_some hat
          have HAT := Lib.hid hat
          have HX1 := Lib.hid x1
          have hil : (i : Int) < (Q.fr.length : Int) := by have := (List.getElem?_eq_some_iff.1 x1).1; omega
          clear HBR h2 h3 hat x1 x2 x3 x4 hno h0
          go_enter Tryz.func46, Tryz.ntmps46
          go_wp2_with fail
          refine HPG.out.mono ?_
          rintro e w1 ⟨rfl, g1⟩
          have G1 := Lib.hid g1
          have hp1 := HP.out.ext g1
          have hlk := hp1.look HOK.out
          rw [HAT.out] at hlk
          have hlk2 : (Instr.lookup 111 (.map (some mb)) (.agg #[.string ⟨n.toArray⟩, .int .i64 k]) true).run Tryz.prog w1 = .ok (.tuple #[.int .i64 i, .bool true]) w1 := hlk
          obtain ⟨s0, s1, s2, -⟩ := hp1.selfc
          have HCL1 := Lib.hid (HCL.out w1 (HB.out.ext g1))
          clear g1 HPG hp1 hlk HCL
          go_wp2_with fail
          refine HCL1.out.mono ?_
          rintro e w2 ⟨v2, rfl, o2, g2⟩
          obtain ⟨A2, c2', rfl⟩ := RdB.form (Own.rd o2)
          have hp2 := HP.out.ext (gr_none G1.out g2)
          have hfz := hp2.frames.frozen
          obtain ⟨hi2, hxe⟩ := List.getElem?_eq_some_iff.1 HX1.out
          obtain ⟨c0, c1, c2, c3, c4, c5, c6⟩ := frame_cells hp2.frames hi2 hxe
          have G2 := Lib.hid (gr_none G1.out g2)
          have HP2 := Lib.hid hp2
          have hbx := hp2.cellsOk i x HX1.out
          have hz1 := G1.out.size
          have HFB : Hid (FrB w2 B o p g mb ({ x with b := b, bv := .slice A2 b.length c2', dirty := true, used := true } : Fr)) := ⟨Own.rd o2, fun q e => by
            obtain ⟨q1, q2⟩ := Own.blk_lt o2 (by omega) e
            obtain ⟨p1, p2, p3, p4⟩ := po_none (HFR.out q (by omega))
            exact ⟨p4, p1, p2, p3, q2, by omega⟩, ⟨hbl2, hbx.len.2.1, hbx.len.2.2.1, hbx.len.2.2.2⟩⟩
          have HVQ : Hid (∀ q, blk (.slice A2 b.length c2') = some q → w.heap.size ≤ q) := fun q e => by have := (Own.blk_lt o2 (by omega) e).1; omega
          clear o2 g2 hp2 hi2 hxe HCL1 hbx hlk2 s0 s1 s2
          go_wp2
          go_ret
          obtain ⟨u1, u2⟩ := HP2.out.wrote HX1.out HFB.out
          refine ⟨.slice A2 b.length c2', HVQ.out, ?_⟩
          rw [HB2.out]
          exact ⟨rfl, o, c, by obtain ⟨wh, hp2⟩ := HP2.out; exact (H.out.ext G2.out).pool hp2 u2, u1, po_wide ((Ch.ext G2.out).trans u2) o⟩
        | none =>
          have HTK : Hid (∀ wx, w.grownBy wx none → Calls Tryz.prog 99 #[.pointer (some ⟨p, 0, none⟩)] wx (TakeOut o wx B d p g mb (Q.take S))) := fun wx hg => take_any (H.out.ext hg) (HP.out.ext hg) hfl hnl
          have HBY : Hid (∀ v, Q.write S n k b v = if (Q.take S).e ≠ 0 then ⟨(Q.take S).e, (Q.take S).Q, (Q.take S).S⟩
            else ⟨0, ((Q.take S).Q.fill (Q.take S).i ⟨true, n, k, [], .slice none 0 0, 0, false, false⟩).wrote (Q.take S).i b v, (Q.take S).S⟩) := fun v => by rw [HBR.out, if_neg h0, if_neg (by simp), if_neg hno, hat]
          have HAT := Lib.hid hat
          have HNA := Lib.hid (HTG.out.2.2.1.at_none hat)
          have HTE := Lib.hid HTG.out.2.1
          have HTL := Lib.hid HTG.out.1
          clear HBR h2 h3 hat hno h0 HTG
          obtain ⟨R, hR⟩ : ∃ R, R = Q.take S := ⟨_, rfl⟩
          rw [← hR] at HTK HBY HNA HTE HTL
          clear hR
          obtain ⟨ri, re, RQ, RS⟩ := R
          simp only [] at HTK HBY HNA HTE HTL
          by_cases h5 : re = 0
          · subst h5
            have HBZ : Hid (∀ v, Q.write S n k b v = ⟨0, (RQ.fill ri ⟨true, n, k, [], .slice none 0 0, 0, false, false⟩).wrote ri b v, RS⟩) := fun v => by rw [HBY.out]; exact if_neg (by simp)
            clear HBY
            obtain ⟨f0, hf0, hf1⟩ := HTE.out rfl
            have hil : (ri : Int) < (RQ.fr.length : Int) := by have := (List.getElem?_eq_some_iff.1 hf0).1; omega
            have HF0 := Lib.hid hf0
            have HF1 := Lib.hid hf1
            clear hf0 hf1 HTE
            go_enter Tryz.func46, Tryz.ntmps46
            go_wp2_with fail
            refine HPG.out.mono ?_
            rintro e w1 ⟨rfl, g1⟩
            have G1 := Lib.hid g1
            have hp1 := HP.out.ext g1
            have hlk := hp1.look HOK.out
            rw [HAT.out] at hlk
            have hlk2 : (Instr.lookup 111 (.map (some mb)) (.agg #[.string ⟨n.toArray⟩, .int .i64 k]) true).run Tryz.prog w1 = .ok (.tuple #[.int .i64 0, .bool false]) w1 := hlk
            obtain ⟨s0, s1, s2, -⟩ := hp1.selfc
            have HTK1 := Lib.hid (HTK.out w1 g1)
            clear g1 HPG hp1 hlk HTK
            go_wp2_with fail
            refine HTK1.out.mono ?_
            rintro e w3 ⟨rfl, o3, c3, k1, k2, k3⟩
            have K1 := Lib.hid k1
            have K2 := Lib.hid k2
            have K3 := Lib.hid ((Ch.ext G1.out).trans k3)
            have hfn : FrB w3 B o3 p g mb (⟨false, n, k, [], .slice none 0 0, 0, false, false⟩ : Fr) := ⟨Rd.nil _ _, (fun q e => by cases e), ⟨Nat.zero_le _, hn, Nat.zero_le _, by show -4611686018427387904 ≤ k ∧ k ≤ 4611686018427387904; omega⟩⟩
            have HFI := Lib.hid (pofill_any k2 HF0.out HF1.out hfn HOK.out HNA.out)
            clear k1 k2 k3 hfn HTK1 hlk2 s0 s1 s2
            go_wp2_with fail
            refine HFI.out.mono ?_
            rintro e w4 ⟨rfl, u1, u2⟩
            have HRF : Hid ((RQ.fill ri ⟨false, n, k, [], .slice none 0 0, 0, false, false⟩).fr[ri]? = some (⟨true, n, k, [], .slice none 0 0, 0, false, false⟩ : Fr)) := List.getElem?_set_self (List.getElem?_eq_some_iff.1 HF0.out).1
            have hlen4 : (RQ.fill ri ⟨false, n, k, [], .slice none 0 0, 0, false, false⟩).fr.length = RQ.fr.length := List.length_set
            obtain ⟨-, s1, -⟩ := u1.selfc
            rw [hlen4] at s1
            have hl4 := u1.lim.2.1
            rw [hlen4] at hl4
            have U1 := Lib.hid u1
            have U2 := Lib.hid u2
            have K4 : Hid (Ch (po o p g mb) w (po o3 p g mb) w4) := K3.out.trans (po_wide u2 o3)
            have HCL1 := Lib.hid (HCL.out w4 (K4.out.rd HB.out HBO.out))
            clear u1 u2 HFI HCL hlen4
            go_wp2_with fail
            refine HCL1.out.mono ?_
            rintro e w5 ⟨v5, rfl, o5, g5⟩
            obtain ⟨A5, c5', rfl⟩ := RdB.form (Own.rd o5)
            have hp5 := U1.out.ext g5
            have hfz := hp5.frames.frozen
            obtain ⟨hi2, hxe⟩ := List.getElem?_eq_some_iff.1 HRF.out
            obtain ⟨c0, c1, c2, c3', c4, c5, c6⟩ := frame_cells hp5.frames hi2 hxe
            have hfn : FrB w5 B o3 p g mb ({ (⟨true, n, k, [], .slice none 0 0, 0, false, false⟩ : Fr) with b := b, bv := .slice A5 b.length c5', dirty := true, used := true } : Fr) := ⟨Own.rd o5, fun q e => by
              obtain ⟨q1, q2⟩ := Own.blk_lt o5 (by omega) e
              have h9 := (po_none (po_fresh_s U1.out (K1.out.pool' K2.out U2.out) q1))
              have hz := K4.out.size
              exact ⟨h9.2.2.2, h9.1, h9.2.1, h9.2.2.1, q2, by omega⟩, ⟨hbl2, hn, Nat.zero_le _, by show -4611686018427387904 ≤ k ∧ k ≤ 4611686018427387904; omega⟩⟩
            have HFB := Lib.hid hfn
            have G5 := Lib.hid g5
            have HP5 := Lib.hid hp5
            have HVQ : Hid (∀ q, blk (.slice A5 b.length c5') = some q → w.heap.size ≤ q) := fun q e => by have := (Own.blk_lt o5 (by omega) e).1; have := K4.out.size; omega
            clear o5 g5 hp5 hi2 hxe HCL1 hfn s1
            go_wp2
            go_ret
            obtain ⟨u1, u2⟩ := HP5.out.wrote HRF.out HFB.out
            refine ⟨.slice A5 b.length c5', HVQ.out, ?_⟩
            rw [HBZ.out]
            have hch := (U2.out.trans (Ch.ext G5.out)).trans u2
            exact ⟨rfl, o3, c3, K1.out.pool' K2.out hch, u1, K3.out.trans (po_wide hch o3)⟩
          · have HBZ : Hid (∀ v, Q.write S n k b v = ⟨re, RQ, RS⟩) := fun v => by rw [HBY.out]; exact if_pos h5
            have hne : ((re : Int) != 0) = true := by rw [bne_iff_ne]; omega
            clear HBY h5 HTE HCL
            go_enter Tryz.func46, Tryz.ntmps46
            go_wp2_with fail
            refine HPG.out.mono ?_
            rintro e w1 ⟨rfl, g1⟩
            have G1 := Lib.hid g1
            have hp1 := HP.out.ext g1
            have hlk := hp1.look HOK.out
            rw [HAT.out] at hlk
            have hlk2 : (Instr.lookup 111 (.map (some mb)) (.agg #[.string ⟨n.toArray⟩, .int .i64 k]) true).run Tryz.prog w1 = .ok (.tuple #[.int .i64 0, .bool false]) w1 := hlk
            obtain ⟨s0, s1, s2, -⟩ := hp1.selfc
            have HTK1 := Lib.hid (HTK.out w1 g1)
            clear g1 HPG hp1 hlk HTK
            go_wp2_with fail
            refine HTK1.out.mono ?_
            rintro e w3 ⟨rfl, o3, c3, k1, k2, k3⟩
            have K1 := Lib.hid k1
            have K2 := Lib.hid k2
            have K3 := Lib.hid ((Ch.ext G1.out).trans k3)
            clear k1 k2 k3 HTK1 hlk2 s0 s1 s2
            go_wp2
            go_ret
            refine ⟨.slice none 0 0, (fun q e => by cases e), ?_⟩
            rw [HBZ.out]
            exact ⟨rfl, o3, c3, K1.out, K2.out, K3.out⟩
  · have HB2 : Hid (∀ v, Q.write S n k b v = ⟨pe, Q, S⟩) := fun v => by rw [HBR.out, if_neg h0, if_pos h1]
    have hne : ((pe : Int) != 0) = true := by rw [bne_iff_ne]; omega
    clear HBR h1 h0
    go_enter Tryz.func46, Tryz.ntmps46
    go_wp2_with fail
    refine HPG.out.mono ?_
    rintro e w1 ⟨rfl, g1⟩
    have G1 := Lib.hid g1
    clear g1 HPG
    go_wp2
    go_ret
    refine ⟨.slice none 0 0, (fun q e => by cases e), ?_⟩
    rw [HB2.out]
    exact ⟨rfl, PdOut.ext H.out HP.out G1.out⟩
end
end Go.Proofs.YtkpmadahfmpeiaaGreat

/-
  pool, any of it: Flush, Drop, Create, Held, Peak.
-/
import Derived.Test.YtkpmadahfmpeiaaGreatGc
namespace Go.Proofs.YtkpmadahfmpeiaaGreat
open Go.RowKit Go.Maps
set_option maxRecDepth 100000
set_option maxHeartbeats 400000

section
variable {w w' : World} {B d p g mb nm pf : Nat} {o : Own1} {S : Dk} {c : Con} {n : List UInt8} {Q : Pm}
def OpOut (o : Own1) (w : World) (B d p g mb : Nat) (R : WriteR) (e : Ending) (w' : World) : Prop := e = .returned (.int .i64 R.e) ∧ PdOut o w B d p g mb R.Q R.S w'
set_option maxHeartbeats 4000000 in
theorem poflush_any (h : DI w B o d S c) (hp : PoS w B o d p g mb Q) (hn : n.length ≤ 1000000000) (hfl : S.fs.length ≤ 1000000) (hnl : S.nl ≤ 1000000000000) :
    Calls Tryz.prog 16 #[.pointer (some ⟨p, 0, none⟩), .string ⟨n.toArray⟩] w (OpOut o w B d p g mb (Q.flush S n)) := by
  have hB := h.base
  have HFR : Hid (∀ q, w.heap.size ≤ q → po o p g mb q = none) := fun q hq => hp.fresh h hq
  have hl : Q.fr.length ≤ 4096 := hp.lim.2.1
  obtain ⟨wh, hp⟩ := hp
  have HOD := Lib.hid (onDisk_any h hp hn)
  have H := Lib.hid h
  have HP := Lib.hid hp
  have HR : Hid (Q.flush S n = if (S.pgs n).2 ≠ 0 then ⟨(S.pgs n).2, Q, S⟩
    else if (putL n (dirtyL Q.fr n 0 16777216) Q.fr S).e ≠ 0 then ⟨(putL n (dirtyL Q.fr n 0 16777216) Q.fr S).e, { Q with fr := (putL n (dirtyL Q.fr n 0 16777216) Q.fr S).fr }, (putL n (dirtyL Q.fr n 0 16777216) Q.fr S).S⟩
    else ⟨((putL n (dirtyL Q.fr n 0 16777216) Q.fr S).S.sync n).2, { Q with fr := (putL n (dirtyL Q.fr n 0 16777216) Q.fr S).fr }, ((putL n (dirtyL Q.fr n 0 16777216) Q.fr S).S.sync n).1⟩) := rfl
  clear h hp
  obtain ⟨R, hR⟩ : ∃ R, R = Q.flush S n := ⟨_, rfl⟩
  rw [← hR] at HR ⊢
  clear hR
  obtain ⟨X, hX⟩ : ∃ X, X = S.pgs n := ⟨_, rfl⟩
  rw [← hX] at HOD HR
  clear hX
  go_enter Tryz.func16, Tryz.ntmps16
  go_wp2_with fail
  refine HOD.out.mono ?_
  rintro e w1 ⟨g1, ⟨he, rfl⟩ | ⟨he, pf, rfl, hpf, hpr⟩⟩
  · have G1 := Lib.hid g1
    have HE : Hid (R = ⟨X.2, Q, S⟩) := by show _ = _; rw [HR.out, if_pos he]
    have hne : ((X.2 : Int) != 0) = true := by rw [bne_iff_ne]; omega
    clear g1 he HOD HR
    go_wp2
    go_ret
    rw [HE.out]
    exact ⟨rfl, o, c, H.out.ext G1.out, ⟨wh, HP.out.ext G1.out⟩, Ch.ext G1.out⟩
  · have G1 := Lib.hid g1
    have hz1 := g1.size
    have HPR : Hid (PfR w1 B o d pf n) := ⟨hpr.box, hpr.free, by omega⟩
    have hpfw : w.heap.size ≤ pf := hpf
    have hDL : (dirtyL Q.fr n 0 16777216).length ≤ 4096 := by
      unfold dirtyL
      rw [List.length_mergeSort]
      unfold dirtyIx
      exact Nat.le_trans (List.length_filter_le _ _) (by simp; exact hl)
    have HM : Hid (∀ j ∈ dirtyL Q.fr n 0 16777216, j < Q.fr.length) := fun j hj => by
      obtain ⟨f, f1, -⟩ := mem_dirtyL.1 hj
      exact (List.getElem?_eq_some_iff.1 f1).1
    have HDI : Hid (Calls Tryz.prog 54 #[.pointer (some ⟨p, 0, none⟩), .string ⟨n.toArray⟩, .int .i64 0, .int .i64 16777216] w1 fun e w' => (∃ v, e = .returned v ∧ OwnI w' w1.heap.size v (ixL (dirtyL Q.fr n 0 16777216))) ∧ w1.grownBy w' none) :=
      dirty_any (HP.out.ext G1.out) (n := n) (a := 0) (b := 16777216) (by omega) (by omega)
    have HE : Hid (R = if (putL n (dirtyL Q.fr n 0 16777216) Q.fr S).e ≠ 0 then ⟨(putL n (dirtyL Q.fr n 0 16777216) Q.fr S).e, { Q with fr := (putL n (dirtyL Q.fr n 0 16777216) Q.fr S).fr }, (putL n (dirtyL Q.fr n 0 16777216) Q.fr S).S⟩
      else ⟨((putL n (dirtyL Q.fr n 0 16777216) Q.fr S).S.sync n).2, { Q with fr := (putL n (dirtyL Q.fr n 0 16777216) Q.fr S).fr }, ((putL n (dirtyL Q.fr n 0 16777216) Q.fr S).S.sync n).1⟩) := by show _ = _; rw [HR.out, if_neg (by rw [he]; simp)]
    have HSG : Hid ((putL n (dirtyL Q.fr n 0 16777216) Q.fr S).fr.map sig = Q.fr.map sig) := putL_sig _ _ _
    obtain ⟨dl, hdl⟩ : ∃ dl, dl = dirtyL Q.fr n 0 16777216 := ⟨_, rfl⟩
    rw [← hdl] at hDL HM HDI HE HSG
    have hX0 : (X.2 : Int) = 0 := by omega
    clear g1 he HOD HR hdl hpr hpf
    go_wp2_with fail
    refine HDI.out.mono ?_
    rintro e w2 ⟨⟨v2, rfl, ho2⟩, g2⟩
    have HV2 : Hid (RdI w2 v2 (ixL dl)) := Own.rd ho2
    obtain ⟨A2, c2, rfl⟩ := RdI.form (Own.rd ho2)
    have G2 := Lib.hid (gr_none G1.out g2)
    have hb2 : ∀ q, blk (.slice A2 (ixL dl).length c2) = some q → q < w2.heap.size ∧ po o p g mb q = none := fun q e => by
      obtain ⟨q1, q2⟩ := Own.blk_lt ho2 (by omega) e
      exact ⟨q2, HFR.out q (by omega)⟩
    have G12 := Lib.hid g2
    have HPU := Lib.hid (poput_any (H.out.ext G2.out) (HP.out.ext G2.out) (HPR.out.ext g2) (HFR.out pf hpfw) hn HV2.out hb2 HM.out (by omega) hfl hnl)
    clear ho2 g2 HDI hb2
    have HPU2 : Hid (Calls Tryz.prog 53 #[.pointer (some ⟨p, 0, none⟩), .pointer (some ⟨pf, 0, none⟩), .slice A2 (ixL dl).length c2] w2 fun e w' => e = .returned (.int .i64 (putL n dl Q.fr S).e) ∧ BkOut o w2 B d p g mb (Q.pl wh) (heldN Fr.full Q.fr) (putL n dl Q.fr S) w') := HPU.out
    have HPFK := Lib.hid (HPR.out.ext G12.out)
    have HPOF := Lib.hid (HFR.out pf hpfw)
    clear HPU
    obtain ⟨Y, hY⟩ : ∃ Y, Y = putL n dl Q.fr S := ⟨_, rfl⟩
    rw [← hY] at HE HSG HPU2
    clear hY
    obtain ⟨yf, YS, ye⟩ := Y
    simp only [] at HE HSG HPU2
    have HHE : Hid (heldN Fr.full yf = heldN Fr.full Q.fr) := heldN_sig HSG.out
    by_cases hye : ye = 0
    · subst hye
      have HE2 : Hid (R = ⟨(YS.sync n).2, { Q with fr := yf }, (YS.sync n).1⟩) := by show _ = _; rw [HE.out]; exact if_neg (by simp)
      clear HE
      go_wp2_with fail
      refine HPU2.out.mono ?_
      rintro e w3 ⟨rfl, o3, c3, k1, k2, k3⟩
      have hpf3 : PfR w3 B o3 d pf n := ⟨k3.blk HPFK.out.box HPOF.out, (po_none (k3.free pf HPFK.out.box.lt HPOF.out)).2.2.2, HPFK.out.pB⟩
      have HSY := Lib.hid (psync_any k1 hpf3 hn)
      have K2 := Lib.hid k2
      have K3 := Lib.hid ((Ch.ext G2.out).trans k3)
      clear k1 k2 k3 hpf3 HPU2
      go_wp2_with fail
      refine HSY.out.mono ?_
      rintro e w4 ⟨rfl, o4, c4, h4, ch4⟩
      have H4 := Lib.hid h4
      have CH4 := Lib.hid ch4
      clear h4 ch4 HSY
      go_wp2
      go_ret
      rw [HE2.out]
      exact ⟨rfl, o4, c4, H4.out, ⟨wh, by rw [show heldN Fr.full ({ Q with fr := yf } : Pm).fr = heldN Fr.full Q.fr from HHE.out]; exact K2.out.ch CH4.out⟩, K3.out.trans (CH4.out.po (p := p) (g := g) (mb := mb))⟩
    · have HE2 : Hid (R = ⟨ye, { Q with fr := yf }, YS⟩) := by show _ = _; rw [HE.out]; exact if_pos hye
      have hne : ((ye : Int) != 0) = true := by rw [bne_iff_ne]; omega
      clear HE hye
      go_wp2_with fail
      refine HPU2.out.mono ?_
      rintro e w3 ⟨rfl, o3, c3, k1, k2, k3⟩
      have K1 := Lib.hid k1
      have K2 := Lib.hid k2
      have K3 := Lib.hid ((Ch.ext G2.out).trans k3)
      clear k1 k2 k3 HPU2
      go_wp2
      go_ret
      rw [HE2.out]
      exact ⟨rfl, o3, c3, K1.out, ⟨wh, by rw [show heldN Fr.full ({ Q with fr := yf } : Pm).fr = heldN Fr.full Q.fr from HHE.out]; exact K2.out⟩, K3.out⟩
/-- Drop, the second loop: the first frames were emptied. -/
def dropTo (n : List UInt8) (j : Nat) (fr : List Fr) : List Fr := (fr.take j).map (dropF n) ++ fr.drop j
theorem dropTo_at (n : List UInt8) (j : Nat) (fr : List Fr) (i : Nat) : (dropTo n j fr)[i]? = if i < j then (fr[i]?).map (dropF n) else fr[i]? := by
  unfold dropTo
  by_cases hj : j ≤ fr.length
  · have hl : ((fr.take j).map (dropF n)).length = j := by rw [List.length_map, List.length_take]; omega
    by_cases h : i < j
    · rw [if_pos h, List.getElem?_append_left (by omega), List.getElem?_map, List.getElem?_take, if_pos h]
    · rw [if_neg h, List.getElem?_append_right (by omega), hl, List.getElem?_drop]
      congr 1; omega
  · have e1 : fr.take j = fr := List.take_of_length_le (by omega)
    have e2 : fr.drop j = [] := List.drop_of_length_le (by omega)
    rw [e1, e2, List.append_nil, List.getElem?_map]
    by_cases h : i < j
    · rw [if_pos h]
    · rw [if_neg h, List.getElem?_eq_none (by omega)]; rfl
theorem dropTo_len (n : List UInt8) (j : Nat) (fr : List Fr) : (dropTo n j fr).length = fr.length := by
  unfold dropTo
  rw [List.length_append, List.length_map, List.length_take, List.length_drop]; omega
theorem dropTo_succ {n : List UInt8} {j : Nat} {fr : List Fr} {x : Fr} (hx : fr[j]? = some x) : dropTo n (j + 1) fr = (dropTo n j fr).set j (dropF n x) := by
  have hj := (List.getElem?_eq_some_iff.1 hx).1
  apply List.ext_getElem?
  intro i
  rw [dropTo_at]
  by_cases e : j = i
  · subst e
    rw [if_pos (by omega), List.getElem?_set_self (by rw [dropTo_len]; exact hj), hx]; rfl
  · rw [List.getElem?_set_ne e, dropTo_at]
    by_cases h : i < j
    · rw [if_pos h, if_pos (by omega)]
    · rw [if_neg h, if_neg (by omega)]
theorem dropTo_all (n : List UInt8) (fr : List Fr) : dropTo n fr.length fr = fr.map (dropF n) := by
  unfold dropTo
  rw [List.take_length, List.drop_length, List.append_nil]
theorem set_id {fr : List Fr} {j : Nat} {x : Fr} (hx : fr[j]? = some x) : fr.set j x = fr := by
  apply List.ext_getElem?
  intro i
  by_cases e : j = i
  · subst e; rw [List.getElem?_set_self (List.getElem?_eq_some_iff.1 hx).1, hx]
  · rw [List.getElem?_set_ne e]
theorem poempty_any (h : PoS w B o d p g mb Q) {i : Nat} {x : Fr} (hx : Q.fr[i]? = some x) (hf : x.full = true) :
    Calls Tryz.prog 97 #[.pointer (some ⟨p, 0, none⟩), .int .i64 i] w fun e w' => e = .returned (.tuple #[]) ∧ PoOut o w B d p g mb { Q with fr := Q.fr.set i fr0 } w' := by
  have hk := okK_frame (h.cellsOk i x hx)
  obtain ⟨wh, h⟩ := h
  have h9 := heldN_set Fr.full (y := fr0) hx
  rw [if_pos hf, if_neg (by simp [fr0])] at h9
  have h9' : heldN Fr.full Q.fr = heldN Fr.full (Q.fr.set i fr0) + 1 := h9.symm
  rw [h9'] at h
  refine (empty_any h (i := i) (x := x) hx hf hk).mono ?_
  rintro e w' ⟨rfl, h1, h2⟩
  exact ⟨rfl, ⟨fun z => if z = ⟨x.n, x.k, hk⟩ then none else wh z, h1⟩, h2⟩
set_option maxHeartbeats 4000000 in
theorem podrop_any (h : DI w B o d S c) (hp : PoS w B o d p g mb Q) (hn : n.length ≤ 1000000000) :
    Calls Tryz.prog 42 #[.pointer (some ⟨p, 0, none⟩), .string ⟨n.toArray⟩] w (OpOut o w B d p g mb (Q.drop S n)) := by
  obtain ⟨s0, s1, -⟩ := hp.selfc
  have HFR := Lib.hid hp.frames
  have HB : Hid (∀ x ∈ Q.fr, FrB w B o p g mb x) := by obtain ⟨wh, hp⟩ := hp; exact hp.bytes
  have hl : Q.fr.length ≤ 4096 := hp.lim.2.1
  have H := Lib.hid h
  have HP := Lib.hid hp
  clear h hp
  obtain ⟨L, hL⟩ : ∃ L, L = Q.fr.length := ⟨_, rfl⟩
  rw [← hL] at s1 hl
  have HL := Lib.hid hL
  clear hL
  go_enter Tryz.func42, Tryz.ntmps42
  go_wp2
  go_loopw [6, 16] (fun _ k wr => ∃ j : Nat, j ≤ L ∧ k = .int .i64 j ∧ (∀ (i : Nat) (f : Fr), i < j → Q.fr[i]? = some f → (ofN n f && decide (0 < f.pins)) = false) ∧ w.grownBy wr none) (fun _ k _ => L - (intOf k).toNat)
  case atStart => exact ⟨0, by omega, rfl, fun i f hi => by omega, gr_refl _ _⟩
  case round =>
    obtain ⟨j, hj, rfl, hno, hg⟩ := hrel
    have HG := Lib.hid hg
    have HNO := Lib.hid hno
    by_cases hlt : j < L
    · have hltq : j < Q.fr.length := by have := HL.out; omega
      have hxj := List.getElem?_eq_getElem hltq
      have hb := HB.out _ (List.getElem_mem hltq)
      obtain ⟨x, hx⟩ : ∃ x, x = Q.fr[j] := ⟨_, rfl⟩
      rw [← hx] at hb hxj
      obtain ⟨c0, c1, c2, c3, c4, c5, c6⟩ := frame_cells (HFR.out.ext hg) hltq hx.symm
      obtain ⟨Ab, cb, hbv⟩ := hb.rd.form
      rw [hbv] at c3
      have HXJ := Lib.hid hxj
      have hstep : Hid ((ofN n x && decide (0 < x.pins)) = false → ∀ (i : Nat) (f : Fr), i < j + 1 → Q.fr[i]? = some f → (ofN n f && decide (0 < f.pins)) = false) := fun h0 i f hi hf => by
        by_cases e : i = j
        · subst e; rw [HXJ.out] at hf; cases hf; exact h0
        · exact HNO.out i f (by omega) hf
      have HDR : Hid ((ofN n x && decide (0 < x.pins)) = true → Q.drop S n = ⟨10, Q, S⟩) := fun h0 => by
        unfold Pm.drop
        rw [if_pos]
        exact List.any_eq_true.2 ⟨x, List.mem_of_getElem? HXJ.out, h0⟩
      clear hx hb hbv hg hno hltq hxj
      obtain ⟨xf, xn, xk, xb, xv, xp, xd, xu⟩ := x
      simp only [] at c0 c1 c2 c3 c4 c5 c6
      cases xf
      · have HS2 := Lib.hid (hstep.out (by unfold ofN; simp))
        go_wp2
        go_roundw
        case rel => exact ⟨j + 1, by omega, by go_num, HS2.out, gr_none HG.out (gr_alloc _ _ _)⟩
        case measure => simp [intOf] <;> omega
      by_cases hnm : xn = n
      · subst hnm
        by_cases hp0 : 0 < xp
        · have HD := Lib.hid (HDR.out (by unfold ofN; simp [hp0]))
          have hp1 : (0 : Int) < (xp : Int) := by omega
          clear HDR hstep hp0
          go_wp2
          go_ret
          rw [HD.out]
          exact ⟨rfl, PdOut.ext H.out HP.out (gr_none HG.out (gr_alloc _ _ _))⟩
        · have HS2 := Lib.hid (hstep.out (by simp [hp0]))
          obtain rfl : xp = 0 := by omega
          clear HDR hstep hp0
          go_wp2
          go_roundw
          case rel => exact ⟨j + 1, by omega, by go_num, HS2.out, gr_none HG.out (gr_alloc _ _ _)⟩
          case measure => simp [intOf] <;> omega
      · have b1 : (xn == n) = false := by simpa using hnm
        have HS2 := Lib.hid (hstep.out (by unfold ofN; simp [b1]))
        clear HDR hstep hnm
        go_wp2
        go_roundw
        case rel => exact ⟨j + 1, by omega, by go_num, HS2.out, gr_none HG.out (gr_alloc _ _ _)⟩
        case measure => simp [intOf] <;> omega
    · obtain rfl : j = L := by omega
      have HD : Hid (Q.drop S n = ⟨(S.remove n).2, { Q with fr := Q.fr.map (dropF n) }, (S.remove n).1⟩) := by
        show _ = _
        unfold Pm.drop
        rw [if_neg]
        · rfl
        · intro ha
          obtain ⟨f, hf, hb⟩ := List.any_eq_true.1 ha
          obtain ⟨i, hi, e⟩ := List.mem_iff_getElem.1 hf
          have := HNO.out i f (by rw [HL.out]; exact hi) (by rw [List.getElem?_eq_getElem hi, e])
          rw [this] at hb; cases hb
      have hp2 := HP.out.ext hg
      obtain ⟨q0, q1, -⟩ := hp2.selfc
      rw [← HL.out] at q1
      have HP2 := Lib.hid hp2
      clear hp2 hg hno s0 s1
      go_wp2
      rename World => wv
      clear q0 q1
      go_loopw [7, 8, 40] (fun _ _ k wr => ∃ t : Nat, t ≤ j ∧ k = .int .i64 t ∧ PoS wr B o d p g mb { Q with fr := dropTo n t Q.fr } ∧ Ch (po noO p g mb) wv (po noO p g mb) wr) (fun _ _ k _ => j - (intOf k).toNat)
      case atStart => exact ⟨0, by omega, rfl, HP2.out, Ch.refl _ _⟩
      case round =>
        obtain ⟨t, ht, rfl, hps, hch⟩ := hrel
        have hlen : (dropTo n t Q.fr).length = j := by rw [dropTo_len, HL.out]
        by_cases htl : t < j
        · have htq : t < Q.fr.length := by have := HL.out; omega
          have hxj := List.getElem?_eq_getElem htq
          obtain ⟨x, hx⟩ : ∃ x, x = Q.fr[t] := ⟨_, rfl⟩
          rw [← hx] at hxj
          have hcur : (dropTo n t Q.fr)[t]? = some x := by rw [dropTo_at, if_neg (by omega)]; exact hxj
          obtain ⟨hi, hxe⟩ := List.getElem?_eq_some_iff.1 hcur
          have hb := hps.cellsOk t x hcur
          obtain ⟨c0, c1, c2, c3, c4, c5, c6⟩ := frame_cells hps.frames hi hxe
          obtain ⟨Ab, cb, hbv⟩ := hb.rd.form
          rw [hbv] at c3
          have hsu := dropTo_succ (n := n) hxj
          have HSAME : Hid (ofN n x = false → dropTo n (t + 1) Q.fr = dropTo n t Q.fr) := fun h0 => by
            rw [hsu]
            unfold dropF
            rw [if_neg (by rw [h0]; simp)]
            exact set_id hcur
          have HGONE : Hid (ofN n x = true → dropTo n (t + 1) Q.fr = (dropTo n t Q.fr).set t fr0) := fun h0 => by
            rw [hsu]
            unfold dropF
            rw [if_pos h0]
          have HPS := Lib.hid hps
          have HCH := Lib.hid hch
          have HCUR := Lib.hid hcur
          have htj : (t : Int) < (j : Int) := by omega
          clear hx hxe hi hb hbv hsu hps hch hcur hxj htq hlen
          by_cases hof : ofN n x = true
          · have HXF : Hid (x.full = true) := by unfold ofN at hof; show _ = _; simp at hof; exact hof.1
            have HXN : Hid (x.n = n) := by unfold ofN at hof; show _ = _; simp at hof; exact hof.2
            have HG2 := Lib.hid (HGONE.out hof)
            have HEM : Hid (∀ wx, wr.grownBy wx none → Calls Tryz.prog 97 #[.pointer (some ⟨p, 0, none⟩), .int .i64 t] wx fun e w' => e = .returned (.tuple #[]) ∧ PoOut o wx B d p g mb { Q with fr := (dropTo n t Q.fr).set t fr0 } w') := fun wx hg =>
              poempty_any (HPS.out.ext hg) HCUR.out HXF.out
            rw [HXF.out] at c0
            rw [HXN.out] at c1
            clear hof HGONE HSAME
            obtain ⟨xf, xn, xk, xb, xv, xp, xd, xu⟩ := x
            simp only [] at c0 c1 c2 c3 c4 c5 c6
            go_wp2_with fail
            refine (HEM.out _ (gr_alloc _ _ none)).mono ?_
            rintro e w5 ⟨rfl, u1, u2⟩
            have U1 := Lib.hid u1
            have U2 := Lib.hid ((HCH.out.trans (Ch.ext (gr_alloc _ _ none))).trans u2)
            clear u1 u2 HEM
            go_wp2
            go_roundw
            case rel => exact ⟨t + 1, by omega, by go_num, by rw [HG2.out]; exact U1.out, U2.out⟩
            case measure => simp [intOf] <;> omega
          · have hof2 : ofN n x = false := by simpa using hof
            have HS2 := Lib.hid (HSAME.out hof2)
            clear hof HGONE HSAME
            obtain ⟨xf, xn, xk, xb, xv, xp, xd, xu⟩ := x
            simp only [] at c0 c1 c2 c3 c4 c5 c6
            cases xf
            · clear hof2
              go_wp2
              go_roundw
              case rel => exact ⟨t + 1, by omega, by go_num, by rw [HS2.out]; exact HPS.out.ext (gr_alloc _ _ none), HCH.out.trans (Ch.ext (gr_alloc _ _ none))⟩
              case measure => simp [intOf] <;> omega
            · have b1 : (xn == n) = false := by unfold ofN at hof2; simpa using hof2
              clear hof2
              go_wp2
              go_roundw
              case rel => exact ⟨t + 1, by omega, by go_num, by rw [HS2.out]; exact HPS.out.ext (gr_alloc _ _ none), HCH.out.trans (Ch.ext (gr_alloc _ _ none))⟩
              case measure => simp [intOf] <;> omega
        · obtain rfl : t = j := by omega
          rw [HL.out, dropTo_all] at hps
          have hd := (H.out.ext HG.out).pool' HP2.out hch
          have HRM := Lib.hid (remove_any hd n hn)
          obtain ⟨q0, -⟩ := hps.selfc
          have HPS := Lib.hid hps
          have HCH := Lib.hid hch
          clear hps hch hd hlen
          go_wp2_with fail
          refine HRM.out.mono ?_
          rintro e w5 ⟨rfl, o5, c5, h5, ch5⟩
          have H5 := Lib.hid h5
          have CH5 := Lib.hid ch5
          clear h5 ch5 HRM
          go_wp2
          go_ret
          rw [HD.out]
          exact ⟨rfl, o5, c5, H5.out, HPS.out.ch CH5.out, (((Ch.ext HG.out).trans (po_wide HCH.out o))).trans (CH5.out.po (p := p) (g := g) (mb := mb))⟩
theorem pocreates_any (h : DI w B o d S c) (hp : PoS w B o d p g mb Q) (hn : n.length ≤ 1000000000) (hfl : S.fs.length ≤ 1000000) :
    Calls Tryz.prog 45 #[.pointer (some ⟨p, 0, none⟩), .string ⟨n.toArray⟩] w (OpOut o w B d p g mb ⟨(S.create n).2, Q, (S.create n).1⟩) := by
  obtain ⟨wh, hp⟩ := hp
  refine (pocreate_any h hp hn hfl).mono ?_
  rintro e w' ⟨rfl, o', c', h1, ch, hp1⟩
  exact ⟨rfl, o', c', h1, ⟨wh, hp1⟩, ch.po (p := p) (g := g) (mb := mb)⟩
theorem poheld_any (hp : PoS w B o d p g mb Q) : Calls Tryz.prog 41 #[.pointer (some ⟨p, 0, none⟩)] w fun e w' =>
    e = .returned (.tuple #[.int .i64 (heldN Fr.full Q.fr), .int .i64 (heldN (fun f => decide (0 < f.pins)) Q.fr), .int .i64 (heldN Fr.dirty Q.fr)]) ∧ w.grownBy w' none := by
  obtain ⟨wh, hp⟩ := hp
  exact held_any hp
end
end Go.Proofs.YtkpmadahfmpeiaaGreat

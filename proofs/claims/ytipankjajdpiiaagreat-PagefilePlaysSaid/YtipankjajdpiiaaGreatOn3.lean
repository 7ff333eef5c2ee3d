/-
  disk.On.
-/
import Derived.Test.YtipankjajdpiiaaGreatOn3a
namespace Go.Proofs.YtipankjajdpiiaaGreat
open Go.RowKit Go.Maps
set_option maxRecDepth 100000
set_option maxHeartbeats 400000
section
variable {w : World} {B d : Nat} {o : Own1} {S : Dk} {c : Con}
set_option maxHeartbeats 4000000 in
theorem on_any (hsort : SortsP) (h : DI w B o d S c) (hli : LooseIn S) (hnl : S.nl ≤ 1000000000) (hfl : S.fs.length ≤ 1000000) (hd : S.dead = true) (kv : Value) (keep : List Int) (hkv : Rd w 1 kv keep.length (intL keep)) (hkl : keep.length ≤ 1000000000) :
    Calls Tryz.prog 26 #[.pointer (some ⟨d, 0, none⟩), kv] w (OnOut o w B d S keep) := by
  have hc := h.self.cell
  have hfm := h.fm
  unfold selfC at hc
  rw [hd] at hc
  have hmm := @run_makeMap Tryz.prog
  have H := Lib.hid h
  have HS := Lib.hid hsort
  have HLI := Lib.hid hli
  have HKV := Lib.hid hkv
  have hmb : c.mb < w.heap.size := hfm.lt
  have hli0 := Lib.hid (LI.made w w.heap.size (Nat.le_refl _) (fun _ => Value.slice none 0 0) S.lastsOf)
  have hfm1 : FM (w.alloc (.map #[] 0)) c.mb S.fs.length (domOf S.fs c.fb) := hfm.gr (gr_alloc _ _ none) (by simp)
  have hc2 : (w.alloc (.map #[] 0)).cell? ⟨d, 0, none⟩ = some (.map (some c.mb)) := (h.self.ext (gr_alloc _ _ none)).cell 0
  clear h hsort hli hkv hd hfm
  go_enter Tryz.func26, Tryz.ntmps26
  go_wp2_with (first | (at_range; refine wp_fm_range2 rfl _ rfl hfm1 rfl ?_; intro w0 left cnt hcnt hlr hall g0 hz0))
  have hsz1 : (w.alloc (.map #[] 0)).heap.size = w.heap.size + 1 := by simp
  rw [hsz1] at hlr hz0 ⊢
  go_frame
  have HLR := Lib.hid hlr
  have HALL := Lib.hid hall
  have G0 := Lib.hid g0
  have hb0 : Hid (LI w0 w.heap.size w.heap.size 0 (hasBut S left) (fun _ => Value.slice none 0 0) S.lastsOf (fun _ => none)) := (hli0.out.ext g0).cast (by
    funext x
    unfold hasBut
    cases hx : S.has x with
    | false => rfl
    | true =>
      unfold Dk.has Dk.find at hx
      obtain ⟨f, hf⟩ := Option.isSome_iff_exists.1 hx
      rw [hall x (c.fb x) (by unfold domOf; rw [hf]; rfl)]; rfl) rfl
  clear hlr g0 hall hli0 hfm1 hc2
  go_loopw [6, 7] (fun _ _ wr => ∃ (left : List UInt8 → Bool) (cnt n : Nat) (val : List UInt8 → Value) (q : Nat → Option (List UInt8)), FR wr c.mb (w.heap.size + 1) S.fs.length (domOf S.fs c.fb) left cnt ∧ LI wr w.heap.size w.heap.size n (hasBut S left) val S.lastsOf q ∧ q (w.heap.size + 1) = none ∧ n + cnt ≤ S.fs.length ∧ w.grownBy wr none) (fun _ _ wr => wr.rangeLeft c.mb (w.heap.size + 1))
  case atStart => exact ⟨_, _, 0, _, _, HLR.out, hb0.out, rfl, by omega, gr_trans (gr_alloc _ _ none) G0.out (.inl rfl)⟩
  case round =>
    obtain ⟨left, cnt, n, val, q, hlr, hli, hq, hnc, hgr⟩ := hrel
    have hleft := hlr.left_eq
    have HL0 := Lib.hid hleft
    have HR := Lib.hid hgr
    have HLI1 := Lib.hid hli
    have HQ := Lib.hid hq
    have hrs : w.heap.size + 1 < wr.heap.size := hlr.lt.1
    clear hleft hgr hli hq
    go_wp2_with (first | (at_next; refine wp_fm_next rfl _ rfl hlr rfl ?_ ?_))
    · intro h0 hl0
      have hli2 : Hid (LI wr w.heap.size w.heap.size n S.has val S.lastsOf q) := HLI1.out.cast (by funext x; unfold hasBut; rw [hl0 x]; simp) rfl
      clear hl0 hlr
      have HLO := Lib.hid (loose_any HS.out (H.out.ext HR.out) (looseOk H.out HLI.out) hnl)
      go_wp2_with fail
      refine HLO.out.mono ?_
      rintro e w5 ⟨vl, ls, rfl, ho5, hup, hiff, hok, hll, g5⟩
      have HLS := Lib.hid (show LsIs S ls from ⟨hup, hiff, hok⟩)
      have HO5 := Lib.hid ho5
      have G5 := Lib.hid (gr_trans HR.out g5 (.inl rfl))
      have HLI5 := Lib.hid (hli2.out.ext g5)
      have hz5 := g5.size
      obtain ⟨Al, cl, rfl⟩ := OwnP.form ho5
      have HR2 : Hid (R2 w S keep ls (.slice Al ls.length cl) 0 w5) := ⟨⟨n, val, q, HLI5.out, fun b hb => by
        have hb2 : wr.heap.size ≤ b := (Own.blk_lt HO5.out (by omega) hb).1
        refine ⟨?_, by omega⟩
        cases e : q b with
        | none => rfl
        | some t => have := (hli2.out.inb b (by rw [e]; simp)).2.1; omega, by omega⟩, Own.mono HO5.out (by omega), G5.out⟩
      clear ho5 hup hiff hok g5 h0 HLI1 hli2 HLO HLI5 HO5 HR HL0 HQ hrs hz5 HLR HALL G0 hb0 hz0
      go_wp2_with fail
      go_loopw [8, 9, 10, 11, 12, 13, 46] (fun _ _ _ _ _ _ i wr => ∃ k : Nat, k ≤ ls.length ∧ i = .int .i64 k ∧ R2 w S keep ls (.slice Al ls.length cl) k wr) (fun _ _ _ _ _ _ i _ => ls.length - (intOf i).toNat)
      case atStart => exact ⟨0, by omega, rfl, HR2.out⟩
      case round =>
        obtain ⟨k, hk, rfl, hr⟩ := hrel
        have HR := Lib.hid hr
        clear hr HR2 G5
        by_cases hlt : k < ls.length
        · obtain ⟨g, off, rfl⟩ : ∃ g off, Al = some ⟨g, off, none⟩ := by
            obtain ⟨_, _, _, g', off', e, hn, hc, _, hA, _⟩ := HR.out.own
            cases e
            exact ⟨g', off', hA (by omega)⟩
          obtain ⟨q0, q1⟩ := OwnP.at_ HR.out.own hlt
          obtain ⟨n2, val2, q2, hli0, hqv, hn2⟩ := HR.out.ex
          have HLI0 := Lib.hid hli0
          have HQV := Lib.hid hqv
          clear hli0 hqv
          rcases hx : ls[k] with ⟨s, p⟩
          rw [hx] at q0 q1
          have HX := Lib.hid hx
          have hpl := p.toNat_lt
          have hpN : Hid ((p.toNat : Int) < 4294967296) := (show (p.toNat : Int) < 4294967296 by omega)
          clear hx hpl
          go_wp2_with fail
          obtain ⟨wa, hwa⟩ : ∃ wa, wa = wr.alloc (.cells #[.string ⟨s.toArray⟩, .int .i64 (p.toNat : Int)] 130) := ⟨_, rfl⟩
          have ga : wr.grownBy wa none := by rw [hwa]; exact gr_alloc _ _ none
          have hbx : Blk wa wr.heap.size 130 #[.string ⟨s.toArray⟩, .int .i64 (p.toNat : Int)] := by rw [hwa]; exact Blk.new _ _ _
          rw [← hwa]
          have HRA := Lib.hid (HR.out.ext ga)
          have hza := ga.size
          have HKW := Lib.hid (HKV.out.ext HRA.out.gr)
          have GWA := Lib.hid ga
          clear hwa ga q0 q1 HR
          refine (contains_any kv keep (k : Int) _ HKW.out hkl).mono ?_
          rintro e w6 ⟨rfl, rfl⟩
          clear HKW
          cases hm : memI keep (k : Int) with
          | false =>
            have HR3 := Lib.hid (HRA.out.skip hlt hm)
            clear hm
            go_wp2
            go_roundw
            case rel => exact ⟨k + 1, by omega, by go_num, HR3.out⟩
            case measure => simp [intOf]; omega
          | true =>
            have HM := Lib.hid hm
            clear hm
            obtain ⟨f, hff, hkk⟩ : ∃ f, S.find s = some f ∧ 64 * p.toNat < f.now.length := by
              have hmem : (⟨s, p⟩ : Sec) ∈ ls := HX.out ▸ List.getElem_mem hlt
              obtain ⟨f, h1, h2, h3⟩ := HLI.out s _ ((HLS.out.2.1 s _ (HLS.out.2.2 _ hmem)).2 ⟨p, hmem, rfl⟩)
              have h4 : 64 * (p.toNat : Int) < (f.now.length : Int) := h3
              exact ⟨f, h1, by omega⟩
            obtain ⟨hfm, rfl⟩ := find_some hff
            have HFM := Lib.hid hfm
            have hda := H.out.ext HRA.out.gr
            have hsm := (hda.file f hfm).small
            have hns : f.name.length ≤ maxLen := by unfold maxLen; omega
            have hd0 : wa.cell? ⟨d, 0, none⟩ = some (.map (some c.mb)) := hda.self.cell 0
            have hpa : wa.cell? ⟨wr.heap.size, 0, none⟩ = some (.string ⟨f.name.toArray⟩) := hbx.cell 0
            have hlk := fun j => (hda.fm.gr (gr_drewN wa j none) (by simp)).look hns
            rw [show domOf S.fs c.fb f.name = some (c.fb f.name) from by unfold domOf; rw [find_mem H.out.names hfm]; rfl] at hlk
            clear hff hfm hda
            go_wp2_with fail
            go_quiet (fail)
            obtain ⟨wb, hwb⟩ : ∃ wb, wb = wa.drewN nq := ⟨_, rfl⟩
            have gb : wa.grownBy wb none := by rw [hwb]; exact gr_drewN _ _ none
            rw [← hwb]
            have HRB := Lib.hid (HRA.out.ext gb)
            have HBX := Lib.hid (hbx.ext gb)
            have hzb := gb.size
            have hfr := (H.out.ext HRB.out.gr).file f HFM.out
            obtain ⟨A, cp, hv⟩ := hfr.now.rd.form
            have HV := Lib.hid hv
            have hfc : wb.cell? ⟨c.fb f.name, 0, none⟩ = some (.slice A f.now.length cp) := by rw [← hv]; exact hfr.box.cell 0
            obtain ⟨P, hP⟩ : ∃ P, P = p.toNat := ⟨_, rfl⟩
            have HP := Lib.hid hP
            rw [← hP] at hkk
            have hp1 : wb.cell? ⟨wr.heap.size, 1, none⟩ = some (.int .i64 (P : Int)) := by rw [hP]; exact HBX.out.cell 1
            have hp0 : wb.cell? ⟨wr.heap.size, 0, none⟩ = some (.string ⟨f.name.toArray⟩) := HBX.out.cell 0
            clear hwb hbx hlk hd0 hpa hfr hv hP
            go_wp2_with fail
            go_quiet (fail)
            obtain ⟨wq, hwq⟩ : ∃ wq, wq = wb.drewN nq := ⟨_, rfl⟩
            have gc : wb.grownBy wq none := by rw [hwq]; exact gr_drewN _ _ none
            rw [← hwq]
            have HRC := Lib.hid (HRB.out.ext gc)
            have HBX2 := Lib.hid (HBX.out.ext gc)
            have hp0c : wq.cell? ⟨wr.heap.size, 0, none⟩ = some (.string ⟨f.name.toArray⟩) := HBX2.out.cell 0
            obtain ⟨T, hT⟩ : ∃ T, T = secTo f.now P := ⟨_, rfl⟩
            have hTb := (onB_mid f.now P (by omega)).2
            rw [← hT] at hTb
            have hmin : min (((P : Int) + 1) * 64) (f.now.length : Int) = (T : Int) := by rw [hT]; unfold secTo; omega
            rw [hmin]
            have HT := Lib.hid hT
            have GWQ := Lib.hid (gr_none (gr_none GWA.out gb) gc)
            have hli := HLI0.out.ext GWQ.out
            have hasf : S.has f.name = true := has_at H.out.names HFM.out
            have hbs := onT_small H.out HLI.out HLS.out keep k f.name
            have hob0 := hli.own _ hasf
            obtain ⟨bl, hbl⟩ : ∃ bl, bl = onT S keep ls k f.name := ⟨_, rfl⟩
            rw [← hbl] at hbs hob0
            obtain ⟨Ab, cb, hvb⟩ := hob0.rd.form
            have hlk2 : (Instr.lookup 126 (.map (some w.heap.size)) (.string ⟨f.name.toArray⟩) false).run Tryz.prog wq = .ok (.slice Ab bl.length cb) wq := by
              have := hli.map.look Tryz.underlying126 (z := .slice none 0 0) (by kernel_rfl) (⟨f.name, hns⟩ : Nm)
              rw [show domL S.has val2 ⟨f.name, hns⟩ = some (val2 f.name) from if_pos hasf, hvb] at this
              exact this
            rw [hvb] at hob0
            have HOB := Lib.hid hob0
            have HBL := Lib.hid hbl
            have HVB := Lib.hid hvb
            have HLI2 := Lib.hid hli
            have HAS := Lib.hid hasf
            clear hwq gc hfc hp1 hp0 hmin hT hli hasf hob0 hbl hvb HRB HBX gb
            have HBS := Lib.hid hbs
            have HNS := Lib.hid hns
            have HTB := Lib.hid hTb
            have HKK := Lib.hid hkk
            have HSM := Lib.hid hsm
            have hTi : (T : Int) ≤ 16777216 := by omega
            have hbi : (bl.length : Int) ≤ 16777216 := by omega
            clear hbs hTb hkk hsm hns hpN
            go_upto_if 82 with fail
            go_cut [13] (fun v wx => OwnB wx w.heap.size v (bl ++ List.replicate (T - bl.length) 0) ∧ Ext0 wq wx (.slice Ab bl.length cb) v)
            case first =>
              by_cases hsh : bl.length < T
              · have hdec : decide (bl.length < T) = true := by simpa using hsh
                have hTm : ((T : Int) - (bl.length : Int)) = ((T - bl.length : Nat) : Int) := by omega
                go_wp2_with (at_builtin; refine wp_appZc (m := T - bl.length) rfl (.tmp 83) (.tmp 87) rfl rfl (by rw [← hTm]; rfl) HOB.out (by have := HBS.out; have := HTB.out; have := HSM.out; omega) (by have := HRC.out.gr.size; omega) ?_; intro v13 w13 ho13 hx13)
                go_meet
                exact ⟨ho13, hx13⟩
              · have hdec : decide (bl.length < T) = false := by simpa using hsh
                have e0 : T - bl.length = 0 := by omega
                go_wp2_with fail
                go_meet
                rw [e0]
                exact ⟨by simpa using HOB.out, ext0_refl _ _⟩
            case rest =>
              obtain ⟨ho13, hx13⟩ := hcut
              obtain ⟨L1, hL1⟩ : ∃ L1, L1 = bl ++ List.replicate (T - bl.length) 0 := ⟨_, rfl⟩
              rw [← hL1] at ho13
              have hlen1 : L1.length = max bl.length T := by rw [hL1]; simp; omega
              obtain ⟨A1, c1, rfl⟩ := ho13.rd.form
              have hcap1 := ho13.cap
              have HX13 := Lib.hid hx13
              have HO13 := Lib.hid ho13
              have HL1 := Lib.hid hL1
              have gw : w.grownBy wc none := by
                obtain ⟨r1, a1, b1, _⟩ := hx13
                refine gr_trans HRC.out.gr a1 (.inr fun j e => ?_)
                have := HLI2.out.inb j (by rw [HLI2.out.tag _ HAS.out j (by rw [HVB.out]; exact b1 j e)]; simp)
                exact this.1
              have hbxc : Blk wc wr.heap.size 130 #[.string ⟨f.name.toArray⟩, .int .i64 (p.toNat : Int)] := by
                obtain ⟨r1, a1, b1, _⟩ := hx13
                refine HBX2.out.gr a1 fun e => ?_
                have := HLI0.out.inb _ (by rw [HLI0.out.tag _ HAS.out _ (by rw [HVB.out]; exact b1 _ e)]; simp)
                omega
              have HBX3 := Lib.hid hbxc
              have hfr := (H.out.ext gw).file f HFM.out
              have hfc : wc.cell? ⟨c.fb f.name, 0, none⟩ = some (.slice A f.now.length cp) := by rw [← HV.out]; exact hfr.box.cell 0
              have hrn : Hid (RdB wc (.slice A f.now.length cp) f.now) := by rw [← HV.out]; exact hfr.now.rd
              have hcp : f.now.length ≤ cp := by
                have := hfr.now
                rw [HV.out] at this
                exact this.cap.1
              have hn1 : L1.length ≤ 33554432 := by have := HBS.out; have := HTB.out; have := HSM.out; omega
              have G13 := Lib.hid gw
              obtain ⟨m, hm⟩ : ∃ m, m = (f.now.drop (P * 64)).take (T - P * 64) := ⟨_, rfl⟩
              have hml : m.length = T - P * 64 := by rw [hm, HT.out]; exact (onB_mid f.now P (by have := HKK.out; omega)).1
              have hmr : RdB wc.drew (.slice (cutA A cp (P * 64) 1) m.length (cp - P * 64)) m := by
                have := hrn.out.cut (i := P * 64) (j := T) (by have := HTB.out; omega) HTB.out.2
                rw [hml]
                rw [List.drop_take, ← hm] at this
                exact this
              have hpm : P * 64 + m.length ≤ L1.length := by have := HTB.out; omega
              obtain ⟨w14, hrun, ho14, hx14⟩ := run_copyM wc.drew 3 w.heap.size (P * 64) A1 c1 L1 m ho13 hpm _ hmr
              rw [hml] at hrun
              have HRUN := Lib.hid hrun
              have HO14 := Lib.hid ho14
              have HX14 := Lib.hid hx14
              have HML := Lib.hid hml
              have HM1 := Lib.hid hm
              have hpt : ((P : Int) * 64).toNat = P * 64 := by omega
              have hb0 : (0 : Int) ≤ (P : Int) * 64 := by omega
              have hb1 : (P : Int) * 64 ≤ (T : Int) := by have := HTB.out; omega
              have hb2 : (T : Int) ≤ (c1 : Int) := by omega
              have hb3 : (T : Int) ≤ (cp : Int) := by have := HTB.out; omega
              have HLEN := Lib.hid hlen1
              clear hL1 hlen1 ho13 hx13 gw hbxc hfr hcap1 hcp hn1 hm hml hmr hpm hrun ho14 hx14 hp0c hlk2
              go_wp2_with fail
              go_region_law (refine step_copyM (.tmp 92) (.tmp 99) rfl rfl rfl HRUN.out ?_)
              have hx14' : Hid (Ext0 wc w14 (.slice A1 L1.length c1) (.slice A1 L1.length c1)) := by
                obtain ⟨r2, a2, b2, c2⟩ := HX14.out
                exact ⟨r2, gr_trans (gr_drew wc r2) a2 (.inl rfl), b2, c2⟩
              have hpn : w14.cell? ⟨wr.heap.size, 0, none⟩ = some (.string ⟨f.name.toArray⟩) := by
                obtain ⟨r1, a1, b1, c1'⟩ := HX13.out
                obtain ⟨r2, a2, b2, c2⟩ := hx14'.out
                have h0 : ∀ j, blk (.slice Ab bl.length cb) = some j → j < wr.heap.size := fun j e => (HLI0.out.inb _ (by rw [HLI0.out.tag _ HAS.out _ (by rw [HVB.out]; exact e)]; simp)).2.1
                refine (HBX3.out.gr a2 fun e => ?_).cell 0
                have hlt := HBX2.out.lt
                rcases c1' _ (b2 _ e) with h | h
                · have := h0 _ h; omega
                · omega
              have hvm := Lib.hid (HLI2.out.vm2 HAS.out HVB.out HX13.out hx14'.out)
              have hnn := Lib.hid (show n2 < maxLen by unfold maxLen; omega)
              clear hfc hpt hb0 hb1 hb2 hb3
              all_goals
                go_wp2_with (at_mapUpdate; refine wp_vm_put (J := strK) rfl _ _ _ rfl Tryz.underlying126 hvm.out rfl hnn.out ⟨f.name, HNS.out⟩ rfl _ rfl ?_; intro w15 hm15 g15)
                have HR4 := Lib.hid (R2.put HLI2.out HQV.out hn2 HRC.out.own HRC.out.gr hlt HX.out HAS.out HNS.out HM.out HVB.out HX13.out hx14'.out (by
                  have e : onB (S.nowOf f.name) (onT S keep ls k f.name) p.toNat = over L1 (P * 64) m := by
                    rw [nowOf_some (find_at H.out.names HFM.out), ← HBL.out, ← HP.out, HM1.out, HL1.out, HT.out]; rfl
                  rw [e]; exact HO14.out) g15 hm15)
                exact ⟨⟨k + 1, by omega, by go_num, HR4.out⟩, by simp [intOf]; omega⟩
        · obtain rfl : k = ls.length := by omega
          obtain ⟨wo, rfl⟩ : ∃ wo : World, wo = wr := ⟨_, rfl⟩
          obtain ⟨n3, val3, q3, hli3, -, hn3⟩ := HR.out.ex
          have HLI3 := Lib.hid hli3
          have HVM3 := Lib.hid hli3.map
          have GR3 := Lib.hid HR.out.gr
          have hsz3 := GR3.out.size
          clear hli3 hc
          go_wp2_with (at_range; refine wp_vm_range rfl _ rfl Tryz.underlying126 HVM3.out rfl ?_; intro w6 cnt6 hc6 hvr6 g6 hz6)
          go_frame
          have HVR6 := Lib.hid hvr6
          have HR3 : Hid (R3 w S c (onT S keep ls ls.length) val3 wo.heap.size (fun x => (domL S.has val3 x).isSome) w6) := by
            have hq : q3 wo.heap.size = none := by
              cases e : q3 wo.heap.size with
              | none => rfl
              | some t => have := (HLI3.out.inb wo.heap.size (by rw [e]; simp)).2.1; omega
            have g06 := gr_none GR3.out g6
            refine ⟨⟨_, _, _, Bx.start (HLI3.out.ext g6) H.out.names (H.out.fm.gr g06 (by simp)) hmb, ⟨rfl, rfl, rfl⟩, ?_, fun f hf hl hlt => ?_⟩, gr_of_none g06⟩
            · show (q3 wo.heap.size).map _ = none
              rw [hq]; rfl
            · exfalso
              have hlt' : (domL S.has val3 ⟨f.name, hl⟩).isSome = false := hlt
              rw [show domL S.has val3 ⟨f.name, hl⟩ = some (val3 f.name) from if_pos (has_at H.out.names hf)] at hlt'
              cases hlt'
          clear hvr6 g6 HVM3 HLI3 HR
          go_loopw [14, 15] (fun _ _ wx => ∃ (left : Nm → Bool) (cnt : Nat), VR strK wx w.heap.size wo.heap.size n3 (domL S.has val3) left cnt ∧ R3 w S c (onT S keep ls ls.length) val3 wo.heap.size left wx) (fun _ _ wx => wx.rangeLeft w.heap.size wo.heap.size)
          case atStart => exact ⟨_, _, HVR6.out, HR3.out⟩
          case round =>
            obtain ⟨left, cnt, hvr, hr3⟩ := hrel
            have hleft := hvr.left_eq
            have HL3 := Lib.hid hleft
            have HR3B := Lib.hid hr3
            have hrl := hvr.lt.1
            clear hleft hr3 HR3
            go_wp2_with (at_next; refine wp_vm_next rfl _ rfl hvr rfl ?_ ?_)
            · intro h0 hl0
              obtain ⟨⟨c3, o3, done, hbx, ⟨e1, e2, e3⟩, hor3, hdn3⟩, hgr⟩ := HR3B.out
              have hlt1 := H.out.inb d (by rw [H.out.tD]; simp)
              have hlt2 := H.out.inb c.lb (by rw [H.out.tL]; simp)
              have hnd : c.mb ≠ d := fun e => by have := H.out.tM; rw [e, H.out.tD] at this; cases this
              have hnl2 : c.mb ≠ c.lb := fun e => by have := H.out.tM; rw [e, H.out.tL] at this; cases this
              have hdl : d ≠ c.lb := fun e => by have := H.out.tD; rw [e, H.out.tL] at this; cases this
              have hself : Blk wr d 74 (selfC c S.quota S.armed S.dead) := H.out.self.gr hgr (by simpa using hnd)
              have hlmr : LM wr c.lb S.nl S.loose := H.out.lm.gr hgr (by simpa using hnl2)
              have hdn : Hid (∀ f ∈ S.fs, done f.name = true) := fun f hf => hdn3 f hf (by unfold maxLen; have := (H.out.file f hf).small.1; omega) (hl0 _ _)
              have hc1 : wr.cell? ⟨d, 1, none⟩ = some (.map (some c.lb)) := hself.cell 1
              have HDN2 : Hid (∀ f ∈ S.fs, done f.name = true) := hdn
              clear hdn
              have HSELF := Lib.hid hself
              have HLMR := Lib.hid hlmr
              have HBX := Lib.hid hbx
              have HE1 := Lib.hid e1
              have HE2 := Lib.hid e2
              have HE3 := Lib.hid e3
              have HGR := Lib.hid hgr
              have HND := Lib.hid hnd
              have HNL := Lib.hid hnl2
              have HDL := Lib.hid hdl
              clear hself hlmr hbx e1 e2 e3 hgr hnd hnl2 hdl hdn3 hl0 hor3 hvr HR3B h0
              go_wp2_with (refine wp_lm_clear rfl (.tmp 126) rfl HLMR.out rfl ?_; intro w10 hlm10 g10; have hs10 : Blk w10 d 74 (selfC c S.quota S.armed S.dead) := HSELF.out.gr g10 (by simpa using Ne.symm HDL.out); have hc10 := hs10.cell; have hf10 := hs10.frozen; unfold selfC at hc10; have HS10 := Lib.hid hs10; have HLM10 := Lib.hid hlm10; have HG10 := Lib.hid g10; clear hs10 hlm10 g10)
              go_ret
              have gs1 := gr_setCell w10 ⟨d, 4, none⟩ (.bool false)
              have gs2 := gr_setCell (w10.setCell ⟨d, 4, none⟩ (.bool false)) ⟨d, 3, none⟩ (.int .i64 0)
              have gs := gr_trans gs1 gs2 (.inl rfl)
              have hod : o3 d = none := by
                cases e : o3 d with
                | none => rfl
                | some t => have := (HBX.out.inb d (by rw [e]; simp)).1; omega
              have hol : o3 c.lb = none := by
                cases e : o3 c.lb with
                | none => rfl
                | some t => have := (HBX.out.inb c.lb (by rw [e]; simp)).1; omega
              have hB := (HBX.out.off HG10.out hol (by rw [HE2.out]; exact Ne.symm HNL.out)).off gs hod (by rw [HE2.out]; exact Ne.symm HND.out)
              have hblk : Blk ((w10.setCell ⟨d, 4, none⟩ (.bool false)).setCell ⟨d, 3, none⟩ (.int .i64 0)) d 74 (selfC c3 S.quota 0 false) := by
                have := (HS10.out.set 4 (.bool false)).set 3 (.int .i64 0)
                unfold selfC at this ⊢
                rw [HE2.out, HE3.out]
                simpa using this
              have hfin := Bx.fin H.out hB rfl HE2.out HE3.out HDN2.out (Nat.le_trans HGR.out.size (Nat.le_trans HG10.out.size gs.size)) hblk (by rw [HE3.out]; exact HLM10.out.gr gs (by simpa using HDL.out)) (onT_small H.out HLI.out HLS.out keep ls.length)
                (gs.os.trans (HG10.out.os.trans HGR.out.os)) (gs.tape.trans (HG10.out.tape.trans HGR.out.tape)) (gs.output.trans (HG10.out.output.trans HGR.out.output))
                (fun i hi h1 h2 h3 => by
                  rw [HE2.out] at h2
                  rw [HE3.out] at h3
                  have z1 := HGR.out.size
                  have z2 := HG10.out.size
                  rw [gs.block i (by omega) (fun e => h1 (by cases e; rfl)), HG10.out.block i (by omega) (fun e => h3 (by cases e; rfl)), HGR.out.block i hi (fun e => h2 (by cases e; rfl))])
              obtain ⟨o', hdi, hch⟩ := hfin
              exact ⟨rfl, ls, HLS.out, o', c3, hdi, hch⟩
            · intro xs hxl u w7 cnt7 hlx hdx hvr7 hlt7 g7 hz7 hen7
              obtain ⟨hsx, rfl⟩ := domL_inv hdx
              obtain ⟨f, hf, rfl⟩ := has_inv hsx
              have hr7 := HR3B.out.off g7 (by omega) (by omega)
              obtain ⟨⟨c3, o3, done, hbx, he3, hor3, hdn3⟩, hgr7⟩ := hr7
              have ho7 := (hbx.now f hf).1
              rw [he3.1] at ho7
              have hfm7 := hbx.fm
              rw [he3.2.1] at hfm7
              have hcd : w7.cell? ⟨d, 0, none⟩ = some (.map (some c.mb)) := by
                have hne : some c.mb ≠ some d := fun e => by have := H.out.tM; rw [Option.some.inj e, H.out.tD] at this; cases this
                exact (H.out.self.gr hgr7 hne).cell 0
              have HCD := Lib.hid hcd
              have hsm : (onT S keep ls ls.length f.name).length ≤ 16777216 := onT_small H.out HLI.out HLS.out keep ls.length f.name
              have HF := Lib.hid hf
              have HBX := Lib.hid hbx
              have HE3 := Lib.hid he3
              have HOR := Lib.hid hor3
              have HDN := Lib.hid hdn3
              have HGR := Lib.hid hgr7
              have HFM7 := Lib.hid hfm7
              have HVR7 := Lib.hid hvr7
              have HO7 := Lib.hid ho7.rd
              have hcnt : Hid (w7.rangeLeft w.heap.size wo.heap.size < wr.rangeLeft w.heap.size wo.heap.size) := by
                show _ < _
                rw [hvr7.left_eq, HL3.out]; exact hlt7
              clear hlx hdx hvr7 g7 hsx hf hbx he3 hor3 hdn3 hgr7 hfm7 ho7 hvr HR3B
              obtain ⟨A7, c7, hv7⟩ := HO7.out.form
              have HV7 := Lib.hid hv7
              obtain ⟨tl, htl⟩ : ∃ tl, tl = onT S keep ls ls.length f.name := ⟨_, rfl⟩
              rw [← htl] at hv7 hsm
              have hdom : Hid (domOf S.fs c3.fb f.name ≠ none) := by
                show domOf S.fs c3.fb f.name ≠ none
                unfold domOf
                rw [find_mem H.out.names HF.out]; simp
              have hcl := Lib.hid (fun wx (hx : w7.grownBy wx none) => cloneB (.slice A7 tl.length c7) tl wx (by have := (HO7.out.ext hx); rw [hv7, ← htl] at this; exact this) (by omega))
              rw [hv7]
              have HTL := Lib.hid htl
              have hnd : Hid (some c.mb ≠ some d) := fun e => by have := H.out.tM; rw [Option.some.inj e, H.out.tD] at this; cases this
              have hfln : S.fs.length < maxLen := by unfold maxLen; omega
              have HFLN := Lib.hid hfln
              clear htl hcd hfln
              rw [hv7] at hen7
              clear hv7
              go_wp2_with fail
              clear hen7
              go_region_held3 (fun w' => w'.cell? ⟨d, 0, none⟩ = some (.map (some c.mb)))
                (first | exact HCD.out | exact hcd8 | exact hcd9 | go_keep)
                (first
                  | (go_at_call 42; refine (hcl.out _ (by first | exact gr_refl _ _ | exact gr_drew _ _ | exact gr_drewN _ _ _)).mono ?_; rintro e w8 ⟨v8, rfl, o8, g8⟩; have g78 : w7.grownBy w8 none := gr_none (by first | exact gr_drewN _ _ none | exact gr_drew _ none | exact gr_refl _ none) g8; have hcd8 : w8.cell? ⟨d, 0, none⟩ = some (.map (some c.mb)) := (H.out.self.gr (gr_none HGR.out g78) hnd.out).cell 0; obtain ⟨A8, c8, rfl⟩ : ∃ A8 c8, v8 = .slice A8 tl.length c8 := o8.rd.form; have HO8 := Lib.hid o8; have HG8 := Lib.hid g78; clear o8 g8 g78; obtain ⟨w9, hrun9, hm9, g9⟩ := run_fm_reput (HFM7.out.gr (gr_none HG8.out (gr_alloc w8 (.cells #[.slice A7 tl.length c7, .slice A8 tl.length c8] 96) none)) (by simp)) HFLN.out hxl hdom.out w8.heap.size; have hrun9' : (Instr.mapUpdate 71 (.map (some c.mb)) (strK.kv ⟨f.name, hxl⟩) (.pointer (some ⟨w8.heap.size, 0, none⟩))).run Tryz.prog (w8.alloc (.cells #[.slice A7 tl.length c7, .slice A8 tl.length c8] 96)) = .ok () w9 := hrun9; clear hrun9; have hcd9 : w9.cell? ⟨d, 0, none⟩ = some (.map (some c.mb)) := (H.out.self.gr (gr_trans (gr_none HGR.out (gr_none HG8.out (gr_alloc w8 (.cells #[.slice A7 tl.length c7, .slice A8 tl.length c8] 96) none))) g9 (.inl rfl)) hnd.out).cell 0; have HM9 := Lib.hid hm9; have HG9 := Lib.hid g9; clear hm9 g9))
              all_goals
                clear hrun9' hcd8 hcd9
                have hgA := gr_none HG8.out (gr_alloc w8 (.cells #[.slice A7 tl.length c7, .slice A8 tl.length c8] 96) none)
                have hz8 := HG8.out.size
                have hR9 := R3.step HBX.out HE3.out HOR.out HDN.out HGR.out (by omega) H.out.names HF.out hgA (k := w8.heap.size) (v := .slice A8 tl.length c8) hz8 (by rw [← HTL.out]; exact HO8.out.alloc _) (fun e => by have := (Own.blk_lt HO8.out (by omega) e).2; omega)
                  (by rw [HV7.out, ← HTL.out]; exact Blk.new _ _ _) HG9.out HM9.out
                have hV9 := (HVR7.out.gr hgA (by simp) (by simp)).gr HG9.out (by simp; omega) (by simp; omega)
                have hlf := hV9.left_eq
                go_roundw
                case rel => exact ⟨_, _, _, _, _, _, _, _, _, _, _, _, _, _, _, _, _, ⟨_, _, hV9, hR9⟩, rfl⟩
                case measure => rw [hlf, HL3.out]; exact hlt7
    · intro s b w2 cnt2 hls hdom hlr2 hlt2 g2 hz2 hen
      obtain ⟨f, hf, rfl, rfl⟩ := domOf_inv hdom
      have g02 : w.grownBy w2 none := gr_trans HR.out g2 (.inr fun q e => by cases e; omega)
      have hfile := (H.out.ext g02).file f hf
      have hfc := hfile.box.cell 1
      have hsm := hfile.small
      have hrd := Lib.hid hfile.lasts.rd
      have HF := Lib.hid hf
      have HLR2 := Lib.hid hlr2
      have G02 := Lib.hid g02
      have G2 := Lib.hid g2
      have HLS := Lib.hid hls
      have hns : f.name.length ≤ maxLen := by unfold maxLen; omega
      have hcnt : Hid (w2.rangeLeft c.mb (w.heap.size + 1) < wr.rangeLeft c.mb (w.heap.size + 1)) := by
        show _ < _
        rw [hlr2.left_eq, HL0.out]; exact hlt2
      have hli2 := Lib.hid (HLI1.out.off g2 (by omega) HQ.out)
      clear hfile hdom hlr2 g02 g2 hf hls hlr
      go_wp2_with fail
      refine (cloneB _ f.lasts w2 hrd.out (by omega)).mono ?_
      rintro e w3 ⟨v3, rfl, o3, g3⟩
      have O3 := Lib.hid o3
      have G3 := Lib.hid g3
      have HVM := Lib.hid (hli2.out.ext g3).map
      have HN := Lib.hid (show n < maxLen by unfold maxLen; omega)
      have hz3 := g3.size
      clear o3 g3 hfc hen
      go_wp2_with (at_mapUpdate; refine wp_vm_put (J := strK) rfl _ _ _ rfl Tryz.underlying126 HVM.out rfl HN.out ⟨f.name, hns⟩ rfl _ rfl ?_; intro w4 hm4 g4)
      have hasf : S.has f.name = true := has_at H.out.names HF.out
      obtain ⟨q4, hli4, hq4⟩ := hli2.out.turn (Tn.of_gr G3.out (fun _ e => by cases e)) (Own.mono O3.out (by omega)) (fun b hb => .inr (Own.blk_lt O3.out (by omega) hb).1) hns g4 hm4
      have hq5 : q4 (w.heap.size + 1) = none := by rw [hq4 _ (by omega)]; exact HQ.out
      have hfr4 := (HLR2.out.gr G3.out (by simp) (by simp)).gr g4 (by simp; omega) (by simp)
      rw [show ∀ (a : Act) (u : Value), a.put none u = a from fun _ _ => rfl]
      go_roundw
      case rel =>
        refine ⟨_, _, _, _, _, hfr4, hli4.cast (hasBut_step hasf) ?_, hq5, by omega, gr_trans (gr_trans G02.out G3.out (.inl rfl)) g4 (.inr fun j e => by cases e; exact Nat.le_refl _)⟩
        funext x
        show (if x = f.name then f.lasts else S.lastsOf x) = S.lastsOf x
        by_cases e : x = f.name
        · rw [if_pos e, e, lastsOf_some (find_at H.out.names HF.out)]
        · rw [if_neg e]
      case measure => rw [hfr4.left_eq, HL0.out]; exact hlt2
end
end Go.Proofs.YtipankjajdpiiaaGreat

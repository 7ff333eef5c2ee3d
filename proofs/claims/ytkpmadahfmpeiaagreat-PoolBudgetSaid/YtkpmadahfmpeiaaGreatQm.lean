/-
  PoolBudget: the walk.
-/
import Derived.Test.YtkpmadahfmpeiaaGreatQl1
import Derived.Test.YtkpmadahfmpeiaaGreatQl
namespace Go.Proofs.YtkpmadahfmpeiaaGreat
open Go.RowKit Go.Maps
set_option maxRecDepth 100000
set_option maxHeartbeats 400000

section
variable {w0 w1 w2 w3 w4 : World} {d f : Nat} {o o2 : Own1} {S S' : Dk}
theorem two_disks (h3 : DA w2 d o S w3) (h4 : DA w3 f o2 S' w4) : DA w2 d o S w4 ∧ DA w2 f o2 S' w4 ∧ Dsj o o2 :=
  ⟨h3.ext h4.gr, h4.low h3.gr, Dsj.mk fun i hi => by
    have h1 := h3.own1 i hi
    cases e : o2 i with
    | none => rfl
    | some t =>
      have := h4.own0 i (by rw [e]; simp)
      omega⟩
end
section
variable {w0 w : World} {d p m : Nat} {O : Own1} {F : List Fz} {L : List (List UInt8)} {n : List UInt8}
theorem PF.img_small (h : PF w0 d p O F L m w) (hn : n ∈ namesF F) (hl : n ∈ L) : (img n (aPg F n)).length ≤ 1000000000 := by
  obtain ⟨Q, S, h1, h2, h3, h4⟩ := h
  have e := h2.nowOf hn (h4 _ hl)
  obtain ⟨G, hG, rfl⟩ := h2.ex
  unfold namesF at hn
  rw [List.map_map] at hn
  obtain ⟨x, hx, rfl⟩ := List.mem_map.1 hn
  obtain ⟨o, c, g, mb, rfl, k1, k2⟩ := h1.ex
  have hf : x.fi ∈ S.fs := by rw [hG.fs]; exact List.mem_map.2 ⟨x, hx, rfl⟩
  have hs := (k1.file x.fi hf).small.2.1
  have e2 : S.nowOf x.fi.name = x.fi.now := nowOf_some (hG.find hx)
  rw [← e]
  show (S.nowOf x.fi.name).length ≤ _
  rw [e2]; omega
theorem alike_of {l1 l2 : List Fl} (h1 : FilesF w l1 F) (h2 : FilesF w l2 F) (hs : ∀ n ∈ namesF F, (img n (aPg F n)).length ≤ 1000000000) : Alike w l1 l2 := by
  have hl : l1.length = l2.length := by
    have := congrArg List.length (h1.1.trans h2.1.symm)
    simpa using this
  refine ⟨hl, fun i h h' => ?_⟩
  have a1 := h1.2 l1[i] (List.getElem_mem h)
  have a2 := h2.2 l2[i] (List.getElem_mem h')
  have en : l1[i].n = l2[i].n := by
    have : (l1.map Fl.n)[i]? = (l2.map Fl.n)[i]? := by rw [h1.1, h2.1]
    rw [List.getElem?_map, List.getElem?_map, List.getElem?_eq_getElem h, List.getElem?_eq_getElem h'] at this
    simpa using this
  have hm : l1[i].n ∈ namesF F := (sortN_prm _).mem_iff.1 (by rw [← h1.1]; exact List.mem_map.2 ⟨_, List.getElem_mem h, rfl⟩)
  refine ⟨en, by rw [a1.1, a2.1, en], by rw [a1.1]; exact hs _ hm, a1.2, a2.2⟩
theorem files_len {l1 : List Fl} (h1 : FilesF w l1 F) : l1.length = F.length := by
  have := congrArg List.length h1.1
  rw [List.length_map, (sortN_prm _).length_eq] at this
  unfold namesF at this
  rw [List.length_map] at this
  exact this
end
set_option maxHeartbeats 8000000 in
theorem pbudget_any (f1 f2 : Int) (v : Value) (l : List OpQ) (w : World) (h : RdQ w v l) : Calls Tryz.prog 6 #[.int .i64 f1, .int .i64 f2, v] w fun e w' => e = .returned (.bool true) ∧ w.grownBy w' none := by
  have HV1 := Lib.hid (vastQ_any f1 v l w h)
  have HV2 := Lib.hid (fun wx (g : w.grownBy wx none) => vastQ_any f2 v l wx (h.ext g))
  have HWK := Lib.hid (fun wx => works10_any wx)
  obtain ⟨A, c, rfl⟩ := h.form
  cases hv1 : vastQ f1 l with
  | true =>
    clear h
    go_enter Tryz.func6, Tryz.ntmps6
    go_wp2_with fail
    refine HV1.out.mono ?_
    rintro e w1 ⟨rfl, g1⟩
    have G1 := Lib.hid g1
    rw [hv1]
    clear g1 HV1 HV2
    go_wp2_with fail
    refine (HWK.out w1).mono ?_
    rintro e w9 ⟨rfl, g9⟩
    have G9 := Lib.hid g9
    clear g9 HWK
    go_wp2_with fail
    go_ret
    exact ⟨rfl, gr_none G1.out G9.out⟩
  | false =>
    by_cases hbad : vastQ f2 l = true ∨ f1 < 1 ∨ f2 < 1
    · have hb3 : (vastQ f2 l = true) ∨ (vastQ f2 l = false ∧ f1 < 1) ∨ (vastQ f2 l = false ∧ ¬ f1 < 1 ∧ f2 < 1) := by
        cases e : vastQ f2 l with
        | true => exact .inl rfl
        | false =>
          rw [e] at hbad
          rcases hbad with h9 | h9 | h9
          · cases h9
          · exact .inr (.inl ⟨rfl, h9⟩)
          · by_cases h8 : f1 < 1
            · exact .inr (.inl ⟨rfl, h8⟩)
            · exact .inr (.inr ⟨rfl, h8, h9⟩)
      clear h hbad
      rcases hb3 with hv | ⟨hv, h1⟩ | ⟨hv, h1, h2⟩
      all_goals
        go_enter Tryz.func6, Tryz.ntmps6
        go_wp2_with fail
        refine HV1.out.mono ?_
        rintro e w1 ⟨rfl, g1⟩
        have G1 := Lib.hid g1
        rw [hv1]
        clear g1 HV1
        go_wp2_with fail
        refine (HV2.out w1 G1.out).mono ?_
        rintro e w2 ⟨rfl, g2⟩
        have G2 := Lib.hid (gr_none G1.out g2)
        rw [hv]
        clear g2 HV2
        go_wp2_with fail
        refine (HWK.out w2).mono ?_
        rintro e w9 ⟨rfl, g9⟩
        have G9 := Lib.hid g9
        clear g9 HWK
        go_wp2_with fail
        go_ret
        exact ⟨rfl, gr_none G2.out G9.out⟩
    · have hv : vastQ f2 l = false := by
        cases e : vastQ f2 l with
        | false => rfl
        | true => exact absurd (.inl e) hbad
      obtain ⟨hn, hf1, hsum⟩ := vastQ_no hv1
      obtain ⟨-, hf2, -⟩ := vastQ_no hv
      have hfb : ¬ f1 < 1 := fun e => hbad (.inr (.inl e))
      have hfb2 : ¬ f2 < 1 := fun e => hbad (.inr (.inr e))
      obtain ⟨fl, rfl⟩ : ∃ fl : Nat, f1 = (fl : Int) := ⟨f1.toNat, by omega⟩
      obtain ⟨gl, rfl⟩ : ∃ gl : Nat, f2 = (gl : Int) := ⟨f2.toNat, by omega⟩
      have HNEW := Lib.hid (fun wx => DA.new 65536 wx (by omega))
      have HN := Lib.hid hn
      have HRT := Lib.hid h
      have HSUM := Lib.hid hsum
      have HFL : Hid (1 ≤ fl ∧ fl ≤ 64) := by show _ ∧ _; omega
      have HGL : Hid (1 ≤ gl ∧ gl ≤ 64) := by show _ ∧ _; omega
      clear h hn hf1 hf2 hsum hbad
      go_enter Tryz.func6, Tryz.ntmps6
      go_wp2_with fail
      refine HV1.out.mono ?_
      rintro e w1 ⟨rfl, g1⟩
      have G1 := Lib.hid g1
      rw [hv1]
      clear g1 HV1
      go_wp2_with fail
      refine (HV2.out w1 G1.out).mono ?_
      rintro e w2 ⟨rfl, g2⟩
      have G2 := Lib.hid (gr_none G1.out g2)
      rw [hv]
      clear g2 HV2
      go_wp2_with fail
      refine (HNEW.out w2).mono ?_
      rintro e w3 ⟨d, o, rfl, h3⟩
      have H3 := Lib.hid h3
      clear h3
      go_wp2_with fail
      refine (HNEW.out w3).mono ?_
      rintro e w4 ⟨f, o2, rfl, h4⟩
      have HDF := Lib.hid (two_disks H3.out h4)
      clear h4 H3 HNEW
      go_wp2_with fail
      refine (PF.new HDF.out.1 fl HFL.out.1 HFL.out.2).mono ?_
      rintro e w5 ⟨p, O5, rfl, h5, ch5⟩
      have HD5 := Lib.hid (HDF.out.2.1.beside ch5 HDF.out.2.2.symm h5.gr)
      have H5 := Lib.hid h5
      clear h5 ch5 HDF
      go_wp2_with fail
      refine (PF.new HD5.out.1 gl HGL.out.1 HGL.out.2).mono ?_
      rintro e w6 ⟨q, O6, rfl, h6, ch6⟩
      have HP6 : Hid (P2 w2 d p f q O5 O6 [] [] [] 0 w6) := ⟨(H5.out.beside ch6 HD5.out.2.symm h6.gr).1, h6, (H5.out.beside ch6 HD5.out.2.symm h6.gr).2⟩
      clear h6 ch6 HD5 H5
      go_wp2_with fail
      have hnn := HN.out
      clear hv hv1 hfb hfb2
      go_loopw [13, 14, 15] (fun iv _ _ wr => ∃ (k m : Nat) (F : List Fz) (O O' : Own1), k ≤ l.length ∧ iv = .int .i64 k ∧ m ≤ k ∧ P2 w2 d p f q O O' F [] [] m wr) (fun iv _ _ _ => l.length - (intOf iv).toNat)
      case atStart => exact ⟨0, 0, [], O5, O6, Nat.zero_le _, rfl, Nat.le_refl _, HP6.out⟩
      case round =>
        obtain ⟨k, m, F, O, O', hk, rfl, hmk, hp2⟩ := hrel
        by_cases hlt : k < l.length
        · have hgr := gr_none G2.out hp2.one.gr
          obtain ⟨g, off, hA, hcap, hmx, hcells⟩ := (HRT.out.ext hgr).at_
          obtain rfl := hA (by omega)
          have hok := HRT.out.2 l[k] (List.getElem_mem hlt)
          have hbl := opQW_small (Nat.le_trans (opQW_le l[k] (List.getElem_mem hlt)) HSUM.out)
          obtain ⟨⟨kd, nm, i, bv, b⟩, hx⟩ : ∃ o, o = l[k] := ⟨_, rfl⟩
          have hcw : ∀ w' : World, w2.grownBy w' none → w'.cell? ⟨g, off + k * 4, none⟩ = some (.int .i64 kd) ∧ w'.cell? ⟨g, off + k * 4 + 1, none⟩ = some (.string ⟨nm.toArray⟩) ∧ w'.cell? ⟨g, off + k * 4 + 2, none⟩ = some (.int .i64 i) ∧ w'.cell? ⟨g, off + k * 4 + 3, none⟩ = some bv := fun w' g9 => by
            obtain ⟨g', off', hA', -, -, hc'⟩ := (HRT.out.ext (gr_none G2.out g9)).at_
            have := hA' (by omega)
            cases this
            have hq := hc' k hlt
            rw [← hx] at hq
            exact ⟨hq 0 (by omega), hq 1 (by omega), hq 2 (by omega), hq 3 (by omega)⟩
          rw [← hx] at hok hbl
          obtain ⟨Ab, cb, rfl⟩ : ∃ Ab cb, bv = .slice Ab b.length cb := hok.b.form
          obtain ⟨c0, c1, c2, c3⟩ := hcw wr hp2.one.gr
          have HCW := Lib.hid hcw
          have HPL := Lib.hid (plain_any kd ⟨nm.toArray⟩ i (.slice Ab b.length cb) wr)
          have HPF := Lib.hid hp2
          have hbl2 : b.length ≤ 65536 ∧ nm.length ≤ 65536 := hbl
          have HBL := Lib.hid hbl2
          have HOB : Hid (RdB w (.slice Ab b.length cb) b) := hok.b
          have HOK : Hid (-9223372036854775808 ≤ i ∧ i ≤ 9223372036854775807) := hok.k
          clear hok hbl hbl2 hx hcells hgr hp2 hcw
          go_wp2_with fail
          refine HPL.out.mono ?_
          rintro e w7 ⟨rfl, g7⟩
          have hp7 := HPF.out.ext g7
          cases hpl : isPlain kd with
          | false =>
            have H7 := Lib.hid hp7
            clear hp7 g7 HPF c0 c1 c2 c3 HPL
            go_wp2_with fail
            go_roundw
            case rel => exact ⟨k + 1, m, F, O, O', by omega, by go_num, by omega, H7.out⟩
            case measure => simp [intOf] <;> omega
          | true =>
            have HD := Lib.hid (pf_does hp7.one (by omega) hpl (n := nm) (by have := HBL.out; omega) HOK.out (HOB.out.ext (gr_none G2.out hp7.one.gr)) (by have := HBL.out; omega))
            obtain ⟨e0, e1, e2, e3⟩ := HCW.out w7 hp7.one.gr
            have HP7 := Lib.hid hp7
            clear hp7 g7 HPF c0 c1 c2 c3 HPL
            go_wp2_with fail
            refine HD.out.mono ?_
            rintro e w8 ⟨A8, c8, rfl, o8, O8, h8, ch8, b8⟩
            have hb8 := HP7.out.two.beside ch8 HP7.out.apart.symm h8.gr
            have hq8 : ∀ x, blk (.slice A8 (stepF F kd nm i b).b.length c8) = some x → O8 x = none ∧ O' x = none := fun x hx => ⟨b8 x hx, HP7.out.two.fresh (Own.blk_lt o8 (by omega) hx).1⟩
            have hd2 := fun wx (g : w8.grownBy wx none) => pf_does (hb8.1.ext g) (by omega) hpl (n := nm) (by have := HBL.out; omega) HOK.out (HOB.out.ext (gr_none G2.out (hb8.1.ext g).gr)) (by have := HBL.out; omega)
            have hbe : (stepF F kd nm i b).b.length ≤ 1000000000 := by
              have hx := HBL.out
              unfold stepF
              split
              · simp
              · split
                · simp
                · split
                  · simp
                  · split
                    · show (aRead F nm i).1.length ≤ _
                      have := hb8.1.read_len nm i
                      omega
                    · split
                      · show b.length ≤ _
                        omega
                      · simp
            obtain ⟨⟨F8, bs, n8, er⟩, hst⟩ : ∃ x, x = stepF F kd nm i b := ⟨_, rfl⟩
            rw [← hst] at h8 o8 hq8 hd2 hbe ⊢
            obtain ⟨wa, hwa⟩ : ∃ wa, wa = w8.alloc (.cells #[.slice A8 bs.length c8, .int .i64 n8, .int .i64 er] 38) := ⟨_, rfl⟩
            have hga : w8.grownBy wa none := by rw [hwa]; exact gr_alloc _ _ none
            have hblk : Blk wa w8.heap.size 38 #[.slice A8 bs.length c8, .int .i64 n8, .int .i64 er] := by rw [hwa]; exact Blk.new w8 _ _
            have HBLK := Lib.hid hblk
            have HPFA : Hid (PF w2 d p O8 F8 [] (m + 1) wa) := h8.ext hga
            have HPFB : Hid (PF w2 f q O' F [] m wa) := hb8.1.ext hga
            have HDS : Hid (Dsj O' O8) := hb8.2
            have HOA : Hid (OwnB wa w7.heap.size (.slice A8 bs.length c8) bs) := OwnB.ext o8 hga
            have HQ8 := Lib.hid hq8
            have HD2 := Lib.hid (hd2 wa hga)
            have HZ : Hid (w8.heap.size < wa.heap.size) := hblk.lt
            have HZ8 : Hid (∀ x, w8.heap.size ≤ x → O' x = none) := fun x hx => hb8.1.fresh hx
            have hcell := hblk.cell
            obtain ⟨e0, e1, e2, e3⟩ := HCW.out wa (h8.ext hga).gr
            have HWA := Lib.hid hwa
            clear h8 ch8 b8 o8 hb8 HD HP7 hst hq8 hd2 hblk hga
            rw [hwa] at hcell e0 e1 e2 e3
            clear hwa
            go_wp2_with fail
            rw [← HWA.out]
            refine HD2.out.mono ?_
            rintro e w9 ⟨A9, c9, rfl, o9, O9, h9, ch9, b9⟩
            have hk9 := HPFA.out.beside ch9 HDS.out.symm h9.gr
            have hp9 : P2 w2 d p f q O8 O9 F8 [] [] (m + 1) w9 := ⟨hk9.1, h9, hk9.2⟩
            have hba : Blk w9 w8.heap.size 38 #[.slice A8 bs.length c8, .int .i64 n8, .int .i64 er] := ch9.blk HBLK.out (HZ8.out _ (Nat.le_refl _))
            have hra : RdB w9 (.slice A8 bs.length c8) bs := ch9.rd HOA.out.rd fun x hx => ⟨(Own.blk_lt HOA.out (by omega) hx).2, (HQ8.out x hx).2⟩
            obtain ⟨wb, hwb⟩ : ∃ wb, wb = w9.alloc (.cells #[.slice A9 bs.length c9, .int .i64 n8, .int .i64 er] 38) := ⟨_, rfl⟩
            have hgb : w9.grownBy wb none := by rw [hwb]; exact gr_alloc _ _ none
            have hcell1 := (hba.ext hgb).cell
            have hcell2 : ∀ i, wb.cell? ⟨w9.heap.size, i, none⟩ = #[.slice A9 bs.length c9, .int .i64 n8, .int .i64 er][i]? := by rw [hwb]; exact (Blk.new w9 _ _).cell
            have HST := Lib.hid (sameTold_any bs n8 er wb (hra.ext hgb) (o9.rd.ext hgb))
            have HP9 := Lib.hid (hp9.ext hgb)
            have HWB := Lib.hid hwb
            rw [hwb] at hcell1 hcell2
            clear hk9 hp9 hba hra h9 ch9 b9 o9 HPFA HPFB HDS HBLK HOA HQ8 HD2 HZ HZ8 HWA hgb hwb hcell e0 e1 e2 e3
            go_wp2_with fail
            rw [← HWB.out]
            refine HST.out.mono ?_
            rintro e w10 ⟨rfl, g10⟩
            have HP10 := Lib.hid (HP9.out.ext g10)
            clear g10 HST HP9 HWB hcell1 hcell2
            go_wp2_with fail
            go_roundw
            case rel => exact ⟨k + 1, m + 1, F8, O8, O9, by omega, by go_num, by omega, HP10.out⟩
            case measure => simp [intOf] <;> omega
        · obtain rfl : k = l.length := by omega
          have hfl : F.length ≤ m := hp2.one.flen
          have HNM := Lib.hid (hp2.one.names (by omega))
          have HPF := Lib.hid hp2
          obtain ⟨ns, hns⟩ : ∃ ns, ns = sortN (namesF F) := ⟨_, rfl⟩
          rw [← hns] at HNM
          have hnl : ns.length ≤ 150 := by
            have := (sortN_prm (namesF F)).length_eq
            rw [← hns] at this
            unfold namesF at this
            rw [List.length_map] at this
            omega
          have HNS := Lib.hid hns
          have hm150 : m ≤ 150 := by omega
          rename World => wr
          clear hp2 hns hfl hlt hk hmk
          go_wp2_with fail
          refine HNM.out.mono ?_
          rintro e w7 ⟨vn, rfl, o7, g7⟩
          obtain ⟨An, cn, rfl⟩ := OwnS.form o7
          have HKP : Hid (Kp O w7 wr.heap.size 1 (.slice An ns.length cn) ns.length (strL ns)) := ⟨o7, fun q e => HPF.out.one.fresh (Own.blk_lt o7 (by omega) e).1⟩
          have HKP2 : Hid (Kp O' w7 wr.heap.size 1 (.slice An ns.length cn) ns.length (strL ns)) := ⟨o7, fun q e => HPF.out.two.fresh (Own.blk_lt o7 (by omega) e).1⟩
          have H7 := Lib.hid (HPF.out.ext g7)
          clear o7 g7 HNM HPF
          go_wp2_with fail
          go_loopw [17, 18, 19] (fun iv _ _ wz => ∃ (i m9 : Nat) (O O' : Own1) (L L' : List (List UInt8)), i ≤ ns.length ∧ iv = .int .i64 i ∧ m9 ≤ m + i ∧ P2 w2 d p f q O O' F L L' m9 wz ∧ Kp O wz wr.heap.size 1 (.slice An ns.length cn) ns.length (strL ns) ∧ Kp O' wz wr.heap.size 1 (.slice An ns.length cn) ns.length (strL ns) ∧ ∀ s ∈ ns.take i, s ∈ L ∧ s ∈ L') (fun iv _ _ _ => ns.length - (intOf iv).toNat)
          case atStart => exact ⟨0, m, O, O', [], [], Nat.zero_le _, rfl, by omega, H7.out, HKP.out, HKP2.out, fun s hs => by simp at hs⟩
          case round =>
            obtain ⟨i, m9, O9, O9', L9, L9', hi, rfl, hm9, hp9, hk1, hk2, hL9⟩ := hrel
            rename World => wz
            by_cases hil : i < ns.length
            · obtain ⟨_, _, _, gs, offs, e, hcap, hcm, _, hAs, hxs⟩ := hk1.own.rd
              cases e
              obtain rfl := hAs (by omega)
              have hcs : wz.cell? ⟨gs, offs + i, none⟩ = some (.string ⟨ns[i].toArray⟩) := by
                rw [hxs i (by omega)]; simp [strL, hil]
              obtain ⟨nmi, hnmi⟩ : ∃ nmi, nmi = ns[i] := ⟨_, rfl⟩
              have hmem : nmi ∈ namesF F := (sortN_prm _).mem_iff.1 (by rw [← HNS.out, hnmi]; exact List.getElem_mem hil)
              obtain ⟨he0, hlen⟩ := hp9.one.err0 hmem
              have hfl9 := hp9.one.flush (n := nmi) (by omega) hlen
              rw [he0, if_pos rfl] at hfl9
              have HFL9 := Lib.hid hfl9
              have HE0 : Hid (aErr F nmi = 0 ∧ nmi.length ≤ 1000000000) := ⟨he0, hlen⟩
              have HP9 := Lib.hid hp9
              have HK1 := Lib.hid hk1
              have HK2 := Lib.hid hk2
              have HL9 : Hid (∀ s ∈ ns.take (i + 1), s ∈ nmi :: L9 ∧ s ∈ nmi :: L9') := fun s hs => by
                rw [List.take_succ_eq_append_getElem hil] at hs
                rcases List.mem_append.1 hs with hs | hs
                · exact ⟨List.mem_cons_of_mem _ (hL9 s hs).1, List.mem_cons_of_mem _ (hL9 s hs).2⟩
                · rw [List.mem_singleton.1 hs, hnmi]; simp
              have HNI := Lib.hid hnmi
              rw [← hnmi] at hcs
              clear hp9 hk1 hk2 hL9 hfl9 hxs hnmi hmem he0 hlen
              have hik : (0 : Int) ≤ (i : Int) := by omega
              have hik2 : (i : Int) < (ns.length : Int) := by omega
              go_wp2_with fail
              refine HFL9.out.mono ?_
              rintro e w8 ⟨rfl, O8, h8, ch8⟩
              have hb8 := HP9.out.two.beside ch8 HP9.out.apart.symm h8.gr
              have hk8 := HK1.out.ch ch8 (by omega)
              have hk8' : Kp O9' w8 wr.heap.size 1 (.slice (some ⟨gs, offs, none⟩) ns.length cn) ns.length (strL ns) := ⟨hk8.own, HK2.out.off⟩
              have hcs8 : w8.cell? ⟨gs, offs + i, none⟩ = some (.string ⟨nmi.toArray⟩) := by
                obtain ⟨_, _, _, gs', offs', e, _, _, _, hAs, hxs⟩ := hk8.own.rd
                cases e
                have := hAs (by omega)
                cases this
                rw [hxs i (by omega)]; simp [strL, hil, HNI.out]
              have hfl9' := hb8.1.flush (n := nmi) (by omega) HE0.out.2
              rw [HE0.out.1, if_pos rfl] at hfl9'
              have HFL2 := Lib.hid hfl9'
              have H8 := Lib.hid h8
              have HB8 := Lib.hid hb8
              have HK8 := Lib.hid hk8
              have HK8' := Lib.hid hk8'
              clear h8 ch8 hb8 hk8 hk8' hfl9' HFL9 HP9 HK1 HK2 hcs
              go_wp2_with fail
              refine HFL2.out.mono ?_
              rintro e w10 ⟨rfl, O10, h10, ch10⟩
              have hb10 := H8.out.beside ch10 HB8.out.2.symm h10.gr
              have HP10 : Hid (P2 w2 d p f q O8 O10 F (nmi :: L9) (nmi :: L9') (m9 + 1) w10) := ⟨hb10.1, h10, hb10.2⟩
              have hkx := HK8'.out.ch ch10 (by omega)
              have HKX := Lib.hid hkx
              have HKY : Hid (Kp O8 w10 wr.heap.size 1 (.slice (some ⟨gs, offs, none⟩) ns.length cn) ns.length (strL ns)) := ⟨hkx.own, HK8.out.off⟩
              clear h10 ch10 hb10 hkx HFL2 H8 HB8 HK8 HK8' hcs8
              go_wp2_with fail
              go_roundw
              case rel => exact ⟨i + 1, m9 + 1, O8, O10, _, _, by omega, by go_num, by omega, HP10.out, HKY.out, HKX.out, HL9.out⟩
              case measure => simp [intOf] <;> omega
            · obtain rfl : i = ns.length := by omega
              rw [List.take_length] at hL9
              have hLF : ∀ s ∈ namesF F, s ∈ L9 ∧ s ∈ L9' := fun s hs => hL9 s (by rw [HNS.out]; exact (sortN_prm _).mem_iff.2 hs)
              have HFI := Lib.hid (hp9.one.files (by omega) fun s hs => (hLF s hs).1)
              have HFJ := Lib.hid (fun wx (g : wz.grownBy wx none) => (hp9.two.ext g).files (by omega) fun s hs => (hLF s hs).2)
              have HLO := Lib.hid (fun wx (g : wz.grownBy wx none) => (hp9.one.ext g).loose0 (by omega) fun s hs => (hLF s hs).1)
              have HBL : Hid (∀ n ∈ namesF F, (img n (aPg F n)).length ≤ 1000000000) := fun n hn => hp9.one.img_small hn (hLF n hn).1
              have HG := Lib.hid (gr_none G2.out hp9.one.gr)
              have hfl : F.length ≤ 300 := by have := hp9.one.flen; omega
              clear hp9 hk1 hk2 hL9 hLF
              go_wp2_with fail
              refine HFI.out.mono ?_
              rintro e w8 ⟨v1, l1, rfl, o1, f1, n1, g1⟩
              obtain ⟨A1, c1, rfl⟩ := OwnF.form o1
              have HO1 := Lib.hid o1
              have HF1 := Lib.hid f1
              have G1 := Lib.hid g1
              clear o1 f1 n1 g1 HFI
              go_wp2_with fail
              refine (HFJ.out _ G1.out).mono ?_
              rintro e w9 ⟨v2, l2, rfl, o2, f2, n2, g2⟩
              obtain ⟨A2, c2, rfl⟩ := OwnF.form o2
              have hal : Alike w9 l1 l2 := alike_of (HF1.out.ext g2) f2 HBL.out
              have HSF := Lib.hid (sameFiles_any l1 l2 w9 (OwnG.rd (HO1.out.ext g2).1) (OwnG.rd o2.1) hal (by rw [files_len HF1.out]; omega))
              have G2 := Lib.hid (gr_none G1.out g2)
              clear o2 f2 n2 g2 HFJ hal
              go_wp2_with fail
              refine HSF.out.mono ?_
              rintro e w10 ⟨rfl, g10⟩
              have G10 := Lib.hid (gr_none G2.out g10)
              clear g10 HSF
              go_wp2_with fail
              refine (HLO.out _ G10.out).mono ?_
              rintro e w11 ⟨A7, c7, rfl, g11⟩
              have G11 := Lib.hid (gr_none G10.out g11)
              clear g11 HLO
              go_wp2_with fail
              refine (HWK.out w11).mono ?_
              rintro e w12 ⟨rfl, g12⟩
              have G12 := Lib.hid g12
              clear g12 HWK
              go_wp2_with fail
              go_ret
              exact ⟨rfl, gr_none (gr_none HG.out G11.out) G12.out⟩
end Go.Proofs.YtkpmadahfmpeiaaGreat

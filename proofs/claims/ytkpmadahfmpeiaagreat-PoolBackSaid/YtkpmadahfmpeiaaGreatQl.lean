/-
  PoolFlushes: the walk.
-/
import Derived.Test.YtkpmadahfmpeiaaGreatQl1
namespace Go.Proofs.YtkpmadahfmpeiaaGreat
open Go.RowKit Go.Maps
set_option maxRecDepth 100000
set_option maxHeartbeats 400000

section
variable {w0 w w' w1 : World} {d p m : Nat} {O : Own1} {F : List Fz} {L : List (List UInt8)} {n : List UInt8}
theorem PF.err0 (h : PF w0 d p O F L m w) (hn : n ∈ namesF F) : aErr F n = 0 ∧ n.length ≤ 1000000000 := by
  obtain ⟨Q, S, h1, h2, h3, -⟩ := h
  obtain ⟨G, hG, rfl⟩ := h2.ex
  unfold namesF at hn
  rw [List.map_map] at hn
  obtain ⟨x, hx, rfl⟩ := List.mem_map.1 hn
  obtain ⟨o, c, g, mb, rfl, k1, k2⟩ := h1.ex
  have hf : x.fi ∈ S.fs := by rw [hG.fs]; exact List.mem_map.2 ⟨x, hx, rfl⟩
  have := (k1.file x.fi hf).small.1
  refine ⟨?_, ?_⟩
  · show aErr (G.map Ge.fz) x.fi.name = 0
    unfold aErr
    rw [fg_some hG hx, (hG.ok x hx).right]; rfl
  · show x.fi.name.length ≤ _
    omega
theorem PF.flen (h : PF w0 d p O F L m w) : F.length ≤ m := by
  obtain ⟨Q, S, h1, h2, h3, -⟩ := h
  have := h3.sm.fl
  obtain ⟨G, hG, rfl⟩ := h2.ex
  rw [hG.fs, List.length_map] at this
  rw [List.length_map]; exact this
end
set_option maxHeartbeats 8000000 in
theorem pflushes_any (fr : Int) (v : Value) (l : List OpQ) (gone : ByteArray) (w : World) (h : RdQ w v l) : Calls Tryz.prog 7 #[.int .i64 fr, v, .string gone] w fun e w' => e = .returned (.bool true) ∧ w.grownBy w' none := by
  have HV := Lib.hid (vastQ_any fr v l w h)
  have HWK := Lib.hid (fun wx => works10_any wx)
  obtain ⟨A, c, rfl⟩ := h.form
  obtain ⟨gn, rfl⟩ : ∃ gn : List UInt8, gone = ⟨gn.toArray⟩ := ⟨gone.data.toList, by simp⟩
  by_cases hbad : vastQ fr l = true ∨ fr < 1 ∨ 100 < gn.length
  · have hb3 : (vastQ fr l = true) ∨ (vastQ fr l = false ∧ fr < 1) ∨ (vastQ fr l = false ∧ ¬ fr < 1 ∧ 100 < gn.length) := by
      cases e : vastQ fr l with
      | true => exact .inl rfl
      | false =>
        rw [e] at hbad
        rcases hbad with h9 | h9 | h9
        · cases h9
        · exact .inr (.inl ⟨rfl, h9⟩)
        · by_cases h8 : fr < 1
          · exact .inr (.inl ⟨rfl, h8⟩)
          · exact .inr (.inr ⟨rfl, h8, h9⟩)
    clear h hbad
    rcases hb3 with hv | ⟨hv, h1⟩ | ⟨hv, h1, h2⟩
    all_goals
      go_enter Tryz.func7, Tryz.ntmps7
      go_wp2_with fail
      refine HV.out.mono ?_
      rintro e w1 ⟨rfl, g1⟩
      have G1 := Lib.hid g1
      rw [hv]
      clear g1 HV
      go_wp2_with fail
      refine (HWK.out w1).mono ?_
      rintro e w9 ⟨rfl, g9⟩
      have G9 := Lib.hid g9
      clear g9 HWK
      go_wp2_with fail
      go_ret
      exact ⟨rfl, gr_none G1.out G9.out⟩
  · have hv : vastQ fr l = false := by
      cases e : vastQ fr l with
      | false => rfl
      | true => exact absurd (.inl e) hbad
    obtain ⟨hn, hf2, hsum⟩ := vastQ_no hv
    have hfb : ¬ fr < 1 := fun e => hbad (.inr (.inl e))
    have hgl : ¬ (100 : Int) < (gn.length : Int) := fun e => hbad (.inr (.inr (by omega)))
    obtain ⟨fl, rfl⟩ : ∃ fl : Nat, fr = (fl : Int) := ⟨fr.toNat, by omega⟩
    have HNEW := Lib.hid (fun wx => DA.new 65536 wx (by omega))
    have HN := Lib.hid hn
    have HRT := Lib.hid h
    have HSUM := Lib.hid hsum
    have HFL : Hid (1 ≤ fl ∧ fl ≤ 64) := by show _ ∧ _; omega
    clear h hn hf2 hsum hbad
    go_enter Tryz.func7, Tryz.ntmps7
    go_wp2_with fail
    refine HV.out.mono ?_
    rintro e w1 ⟨rfl, g1⟩
    have G1 := Lib.hid g1
    rw [hv]
    clear g1 HV
    go_wp2_with fail
    refine (HNEW.out w1).mono ?_
    rintro e w2 ⟨d, o, rfl, h2⟩
    have HPO := Lib.hid (PF.new h2 fl HFL.out.1 HFL.out.2)
    clear h2 HNEW
    go_wp2_with fail
    refine HPO.out.mono ?_
    rintro e w3 ⟨p, O3, rfl, h3, -⟩
    have H3 := Lib.hid h3
    clear h3 HPO
    go_wp2_with fail
    have hnn := HN.out
    clear hv hfb hgl
    go_loopw [10] (fun iv wr => ∃ (k m : Nat) (F : List Fz) (O : Own1), k ≤ l.length ∧ iv = .int .i64 k ∧ m ≤ k ∧ PF w1 d p O F [] m wr) (fun iv _ => l.length - (intOf iv).toNat)
    case atStart => exact ⟨0, 0, [], O3, Nat.zero_le _, rfl, Nat.le_refl _, H3.out⟩
    case round =>
      obtain ⟨k, m, F, O, hk, rfl, hmk, hpf⟩ := hrel
      by_cases hlt : k < l.length
      · have hgr := gr_none G1.out hpf.gr
        obtain ⟨g, off, hA, hcap, hmx, hcells⟩ := (HRT.out.ext hgr).at_
        obtain rfl := hA (by omega)
        have hok := HRT.out.2 l[k] (List.getElem_mem hlt)
        have hbl := opQW_small (Nat.le_trans (opQW_le l[k] (List.getElem_mem hlt)) HSUM.out)
        obtain ⟨⟨kd, nm, i, bv, b⟩, hx⟩ : ∃ o, o = l[k] := ⟨_, rfl⟩
        have hcw : ∀ w' : World, w1.grownBy w' none → w'.cell? ⟨g, off + k * 4, none⟩ = some (.int .i64 kd) ∧ w'.cell? ⟨g, off + k * 4 + 1, none⟩ = some (.string ⟨nm.toArray⟩) ∧ w'.cell? ⟨g, off + k * 4 + 2, none⟩ = some (.int .i64 i) ∧ w'.cell? ⟨g, off + k * 4 + 3, none⟩ = some bv := fun w' g9 => by
          obtain ⟨g', off', hA', -, -, hc'⟩ := (HRT.out.ext (gr_none G1.out g9)).at_
          have := hA' (by omega)
          cases this
          have hq := hc' k hlt
          rw [← hx] at hq
          exact ⟨hq 0 (by omega), hq 1 (by omega), hq 2 (by omega), hq 3 (by omega)⟩
        rw [← hx] at hok hbl
        obtain ⟨Ab, cb, rfl⟩ : ∃ Ab cb, bv = .slice Ab b.length cb := hok.b.form
        obtain ⟨c0, c1, c2, c3⟩ := hcw wr hpf.gr
        have HCW := Lib.hid hcw
        have HPL := Lib.hid (plain_any kd ⟨nm.toArray⟩ i (.slice Ab b.length cb) wr)
        have HPF := Lib.hid hpf
        have hbl2 : b.length ≤ 65536 ∧ nm.length ≤ 65536 := hbl
        have HBL := Lib.hid hbl2
        have HOB : Hid (RdB w (.slice Ab b.length cb) b) := hok.b
        have HOK : Hid (-9223372036854775808 ≤ i ∧ i ≤ 9223372036854775807) := hok.k
        clear hok hbl hbl2 hx hcells hgr hpf hcw
        go_wp2_with fail
        refine HPL.out.mono ?_
        rintro e w4 ⟨rfl, g4⟩
        have hp4 := HPF.out.ext g4
        cases hpl : isPlain kd with
        | false =>
          have H4 := Lib.hid hp4
          clear hp4 g4 HPF c0 c1 c2 c3 HPL
          go_wp2_with fail
          go_roundw
          case rel => exact ⟨k + 1, m, F, O, by omega, by go_num, by omega, H4.out⟩
          case measure => simp [intOf] <;> omega
        | true =>
          have HD := Lib.hid (pf_does hp4 (by omega) hpl (n := nm) (by have := HBL.out; omega) HOK.out (HOB.out.ext (gr_none G1.out hp4.gr)) (by have := HBL.out; omega))
          obtain ⟨e0, e1, e2, e3⟩ := HCW.out w4 hp4.gr
          clear hp4 g4 HPF c0 c1 c2 c3 HPL
          go_wp2_with fail
          refine HD.out.mono ?_
          rintro e w5 ⟨A5, c5, rfl, -, O5, h5, -, -⟩
          have H5 := Lib.hid h5
          clear h5 HD
          go_wp2_with fail
          go_roundw
          case rel => exact ⟨k + 1, m + 1, _, O5, by omega, by go_num, by omega, H5.out⟩
          case measure => simp [intOf] <;> omega
      · obtain rfl : k = l.length := by omega
        have hfl : F.length ≤ m := hpf.flen
        have HNM := Lib.hid (hpf.names (by omega))
        have HPF := Lib.hid hpf
        obtain ⟨ns, hns⟩ : ∃ ns, ns = sortN (namesF F) := ⟨_, rfl⟩
        rw [← hns] at HNM
        have hnl : ns.length ≤ 150 := by
          have := (sortN_prm (namesF F)).length_eq
          rw [← hns] at this
          unfold namesF at this
          rw [List.length_map] at this
          omega
        have HNS := Lib.hid hns
        have hm150 : m ≤ 150 := by omega
        rename World => wr
        clear hpf hns hfl hlt hk hmk
        go_wp2_with fail
        refine HNM.out.mono ?_
        rintro e w5 ⟨vn, rfl, o5, g5⟩
        obtain ⟨An, cn, rfl⟩ := OwnS.form o5
        have HKP : Hid (Kp O w5 wr.heap.size 1 (.slice An ns.length cn) ns.length (strL ns)) := ⟨o5, fun q e => HPF.out.fresh (Own.blk_lt o5 (by omega) e).1⟩
        have H5 := Lib.hid (HPF.out.ext g5)
        clear o5 g5 HNM HPF
        go_wp2_with fail
        go_loopw [12, 13, 14, 15, 16] (fun tv _ _ _ _ wy => ∃ (t m' : Nat) (O : Own1) (L : List (List UInt8)), t ≤ 2 ∧ tv = .int .i64 t ∧ m' ≤ 150 + t * 150 ∧ PF w1 d p O F L m' wy ∧ Kp O wy wr.heap.size 1 (.slice An ns.length cn) ns.length (strL ns) ∧ (1 ≤ t → ∀ s ∈ ns, s ∈ L)) (fun tv _ _ _ _ _ => 2 - (intOf tv).toNat)
        case atStart => exact ⟨0, m, O, [], by omega, rfl, by omega, H5.out, HKP.out, fun e => by omega⟩
        case round =>
          obtain ⟨t, m', O, L, ht, rfl, hm', hpf, hkp, hL⟩ := hrel
          rename World => wy
          by_cases htl : t < 2
          · have HPF := Lib.hid hpf
            have HKQ := Lib.hid hkp
            have htl2 : (t : Int) < 2 := by omega
            clear hpf hkp hL
            go_wp2_with fail
            go_loopw [13] (fun iv wz => ∃ (i m9 : Nat) (O : Own1) (L : List (List UInt8)), i ≤ ns.length ∧ iv = .int .i64 i ∧ m9 ≤ m' + i ∧ PF w1 d p O F L m9 wz ∧ Kp O wz wr.heap.size 1 (.slice An ns.length cn) ns.length (strL ns) ∧ ∀ s ∈ ns.take i, s ∈ L) (fun iv _ => ns.length - (intOf iv).toNat)
            case atStart => exact ⟨0, m', O, L, Nat.zero_le _, rfl, by omega, HPF.out, HKQ.out, fun s hs => by simp at hs⟩
            case round =>
              obtain ⟨i, m9, O9, L9, hi, rfl, hm9, hpf9, hkp9, hL9⟩ := hrel
              rename World => wz
              by_cases hil : i < ns.length
              · obtain ⟨_, _, _, gs, offs, e, hcap, hcm, _, hAs, hxs⟩ := hkp9.own.rd
                cases e
                obtain rfl := hAs (by omega)
                have hcs : wz.cell? ⟨gs, offs + i, none⟩ = some (.string ⟨ns[i].toArray⟩) := by
                  rw [hxs i (by omega)]; simp [strL, hil]
                obtain ⟨nmi, hnmi⟩ : ∃ nmi, nmi = ns[i] := ⟨_, rfl⟩
                have hmem : nmi ∈ namesF F := (sortN_prm _).mem_iff.1 (by rw [← HNS.out, hnmi]; exact List.getElem_mem hil)
                obtain ⟨he0, hlen⟩ := hpf9.err0 hmem
                have hfl9 := hpf9.flush (n := nmi) (by omega) hlen
                rw [he0, if_pos rfl] at hfl9
                have HFL9 := Lib.hid hfl9
                have HKP9 := Lib.hid hkp9
                have HL9 : Hid (∀ s ∈ ns.take (i + 1), s ∈ nmi :: L9) := fun s hs => by
                  rw [List.take_succ_eq_append_getElem hil] at hs
                  rcases List.mem_append.1 hs with hs | hs
                  · exact List.mem_cons_of_mem _ (hL9 s hs)
                  · rw [List.mem_singleton.1 hs, hnmi]; simp
                rw [← hnmi] at hcs
                clear hpf9 hkp9 hL9 hfl9 hxs hnmi hmem he0 hlen
                have hik : (0 : Int) ≤ (i : Int) := by omega
                have hik2 : (i : Int) < (ns.length : Int) := by omega
                go_wp2_with fail
                refine HFL9.out.mono ?_
                rintro e w6 ⟨rfl, O6, h6, ch6⟩
                have H6 := Lib.hid h6
                have HKP6 := Lib.hid (HKP9.out.ch ch6 (by omega))
                clear h6 ch6 HFL9 HKP9
                go_wp2_with fail
                go_roundw
                case rel => exact ⟨i + 1, m9 + 1, O6, _, by omega, by go_num, by omega, H6.out, HKP6.out, HL9.out⟩
                case measure => simp [intOf] <;> omega
              · obtain rfl : i = ns.length := by omega
                rw [List.take_length] at hL9
                have hLF : ∀ s ∈ namesF F, s ∈ L9 := fun s hs => hL9 s (by rw [HNS.out]; exact (sortN_prm _).mem_iff.2 hs)
                have HHE := Lib.hid (hpf9.held0 hLF)
                have HLO := Lib.hid (fun wx (hg : wz.grownBy wx none) => (hpf9.ext hg).loose0 (by omega) hLF)
                have HP9 := Lib.hid hpf9
                have HKP9 := Lib.hid hkp9
                have HL9 := Lib.hid hL9
                clear hpf9 hkp9 hL9 hLF
                go_wp2_with fail
                refine HHE.out.mono ?_
                rintro e w6 ⟨ha, hb, rfl, g6⟩
                have G6 := Lib.hid g6
                clear g6 HHE
                go_wp2_with fail
                refine (HLO.out _ G6.out).mono ?_
                rintro e w7 ⟨A7, c7, rfl, g7⟩
                have G7 := Lib.hid (gr_none G6.out g7)
                clear g7 HLO
                go_wp2_with fail
                go_roundw
                case rel => exact ⟨t + 1, m9, O9, L9, by omega, by go_num, by have := hnl; rw [Nat.add_mul]; omega, HP9.out.ext G7.out, HKP9.out.ext G7.out, fun _ => HL9.out⟩
                case measure => simp [intOf] <;> omega
          · obtain rfl : t = 2 := by omega
            have hL2 := hL (by omega)
            have hLF : ∀ s ∈ namesF F, s ∈ L := fun s hs => hL2 s (by rw [HNS.out]; exact (sortN_prm _).mem_iff.2 hs)
            have HFI := Lib.hid (hpf.files (by omega) hLF)
            have HPF := Lib.hid hpf
            have HLF := Lib.hid hLF
            clear hpf hkp hL hL2 hLF
            go_wp2_with fail
            refine HFI.out.mono ?_
            rintro e w6 ⟨v1, l1, rfl, o1, f1, n1, g1⟩
            obtain ⟨A1, c1, rfl⟩ := OwnF.form o1
            have hp6 := HPF.out.ext g1
            have HK6 : Hid (Kp O w6 wy.heap.size 2 (.slice A1 l1.length c1) l1.length (l1.flatMap Fl.enc)) := ⟨o1.1, fun q e => HPF.out.fresh (Own.blk_lt o1.1 (by omega) e).1⟩
            have HX6 : Hid (∀ x ∈ l1, RdB w6 x.s x.b ∧ ∀ q, blk x.s = some q → q < w6.heap.size ∧ O q = none) := fun x hx => ⟨(f1.2 x hx).2, fun q e => ⟨(n1 x hx q e).2, HPF.out.fresh (n1 x hx q e).1⟩⟩
            have HF1 : Hid (l1.map Fl.n = ns ∧ ∀ x ∈ l1, x.b = img x.n (aPg F x.n)) := ⟨by rw [HNS.out]; exact f1.1, fun x hx => (f1.2 x hx).1⟩
            have HER : Hid (∀ n ∈ namesF F, aErr F n = 0) := fun n hn => (hp6.err0 hn).1
            have HDR := Lib.hid (hp6.drop2 (n := gn) (by omega) (by omega))
            clear o1 f1 n1 g1 hp6 HFI HPF
            go_wp2_with fail
            refine HDR.out.mono ?_
            rintro e w7 ⟨rfl, O7, h7, ch7⟩
            have HK7 := Lib.hid (HK6.out.ch ch7 (by omega))
            have HX7 : Hid (∀ x ∈ l1, RdB w7 x.s x.b) := fun x hx => ch7.rd (HX6.out x hx).1 (HX6.out x hx).2
            obtain ⟨F', hF'⟩ : ∃ F', F' = (aDrop F gn).1 := ⟨_, rfl⟩
            obtain ⟨E, hE⟩ : ∃ E, E = (aDrop F gn).2 := ⟨_, rfl⟩
            rw [← hF'] at h7
            rw [← hE]
            have HDN : Hid (namesF F' = (namesF F).filter (notB gn)) := by show _ = _; rw [hF']; exact drop_names HER.out
            have HDG : Hid (aErr F' gn ≠ 0) := by show _ ≠ _; rw [hF']; exact drop_gone gn
            have HDP : Hid (∀ n, n ≠ gn → aPg F' n = aPg F n) := fun n hn => by rw [hF']; exact drop_pg hn
            have HE0 : Hid (gn ∈ ns → E = 0) := fun hg => by
              have := HER.out gn ((sortN_prm _).mem_iff.1 (by rw [← HNS.out]; exact hg))
              rw [hE]; unfold aDrop; rw [if_neg (by simpa using this)]
            have HFI := Lib.hid (h7.files (by omega) fun s hs => by
              rw [HDN.out] at hs
              exact List.mem_filter.2 ⟨HLF.out s (List.mem_filter.1 hs).1, (List.mem_filter.1 hs).2⟩)
            have H7 := Lib.hid h7
            clear h7 ch7 HK6 HX6 hF' hE HDR
            go_wp2_with fail
            refine HFI.out.mono ?_
            rintro e w8 ⟨v2, l2, rfl, o2, f2, -, g2⟩
            obtain ⟨A2, c2, rfl⟩ := OwnF.form o2
            have HF2 := Lib.hid f2
            have HO2 : Hid (RdF w8 (.slice A2 l2.length c2) l2) := OwnG.rd o2.1
            have HO1 : Hid (RdF w8 (.slice A1 l1.length c1) l1) := OwnG.rd (Own.ext HK7.out.own g2)
            have HX8 : Hid (∀ x ∈ l1, RdB w8 x.s x.b) := fun x hx => (HX7.out x hx).ext g2
            have HN2 : Hid (l2.map Fl.n = ns.filter (notB gn)) := by
              show _ = _
              rw [f2.1, HDN.out, sortN_filter, ← HNS.out]
            have HPG := Lib.hid ((H7.out.ext g2))
            have HGR := Lib.hid (gr_none G1.out (H7.out.ext g2).gr)
            clear o2 f2 g2 HFI HK7 HX7 H7
            go_wp2_with fail
            go_loopw [19, 20] (fun kv iv wz => ∃ i : Nat, i ≤ l1.length ∧ iv = .int .i64 i ∧ kv = .int .i64 (((ns.take i).filter (notB gn)).length : Nat) ∧ w8.grownBy wz none) (fun _ iv _ => l1.length - (intOf iv).toNat)
            case atStart => exact ⟨0, Nat.zero_le _, rfl, rfl, gr_refl _ _⟩
            case round =>
              obtain ⟨i, hi, rfl, rfl, hg8⟩ := hrel
              rename World => wz
              by_cases hil : i < l1.length
              · obtain ⟨ga, offa, hAa, hca, hcella⟩ := RdG.at_ fl2 (RdG.ext HO1.out hg8)
                obtain rfl := hAa (by omega)
                have hlen : l1.length = ns.length := by rw [← HF1.out.1, List.length_map]
                have hl150 : l1.length ≤ 150 := by omega
                have hnsi : ns[i]'(by omega) = l1[i].n := by simp [← HF1.out.1]
                have h0 := hcella i hil 0 (by omega)
                have h1 := hcella i hil 1 (by omega)
                have hb1 := HF1.out.2 l1[i] (List.getElem_mem hil)
                have hr1 := (HX8.out l1[i] (List.getElem_mem hil)).ext hg8
                have hst := filter_step (notB gn) ns (i := i) (by omega)
                have hat := filter_at (notB gn) ns i (by omega)
                rw [hnsi] at hst hat
                have hin : l1[i].n ∈ ns := by rw [← hnsi]; exact List.getElem_mem (by omega)
                obtain ⟨⟨nm, b, s⟩, hx⟩ : ∃ x, x = l1[i] := ⟨_, rfl⟩
                rw [← hx] at h0 h1 hb1 hr1 hst hat hin
                have c0 : wz.cell? ⟨ga, offa + i * 2, none⟩ = some (.string ⟨nm.toArray⟩) := h0
                have c1 : wz.cell? ⟨ga, offa + i * 2 + 1, none⟩ = some s := h1
                obtain ⟨k0, hk0⟩ : ∃ k0, k0 = ((ns.take i).filter (notB gn)).length := ⟨_, rfl⟩
                rw [← hk0] at hst hat ⊢
                have HST := Lib.hid hst
                have HAT := Lib.hid hat
                have HG8 := Lib.hid hg8
                have HB1 : Hid (b = img nm (aPg F nm)) := hb1
                have HR1 : Hid (RdB wz s b) := hr1
                have hik : (0 : Int) ≤ (i : Int) := by omega
                have hik2 : (i : Int) < (l1.length : Int) := by omega
                have hk150 : k0 ≤ 150 := by
                  rw [hk0]
                  exact Nat.le_trans (List.length_filter_le _ _) (by rw [List.length_take]; omega)
                clear hcella h0 h1 hb1 hr1 hst hat hx hnsi hk0 hg8
                by_cases hnm : nm = gn
                · have b1 : (nm == gn) = true := by simpa using hnm
                  have hE1 : ((E : Int) == 0) = true := by rw [beq_iff_eq, HE0.out (hnm ▸ hin)]; rfl
                  have hnb : notB gn nm = false := by unfold notB; rw [b1]; rfl
                  have HS2 : Hid (((ns.take (i + 1)).filter (notB gn)).length = k0) := by show _ = _; rw [HST.out, hnb]; rfl
                  clear hnm hnb hin
                  go_wp2_with fail
                  go_roundw
                  case rel => exact ⟨i + 1, by omega, by go_num, by rw [HS2.out], HG8.out⟩
                  case measure => simp [intOf] <;> omega
                · have b1 : (nm == gn) = false := by simpa using hnm
                  have hnb : notB gn nm = true := by unfold notB; rw [b1]; rfl
                  have HS2 : Hid (((ns.take (i + 1)).filter (notB gn)).length = k0 + 1) := by show _ = _; rw [HST.out, hnb]; rfl
                  have ha2 := HAT.out hnb
                  rw [← HN2.out, List.getElem?_map] at ha2
                  have hk2 : k0 < l2.length := by
                    rcases Nat.lt_or_ge k0 l2.length with h9 | h9
                    · exact h9
                    · rw [List.getElem?_eq_none h9] at ha2; cases ha2
                  rw [List.getElem?_eq_getElem hk2] at ha2
                  have hn2 : l2[k0].n = nm := by simpa using ha2
                  obtain ⟨gb, offb, hAb, hcb, hcellb⟩ := RdG.at_ fl2 (RdG.ext HO2.out HG8.out)
                  obtain rfl := hAb (by omega)
                  have h0 := hcellb k0 hk2 0 (by omega)
                  have h1 := hcellb k0 hk2 1 (by omega)
                  have hb2 := (HF2.out.2 l2[k0] (List.getElem_mem hk2)).1
                  have hr2 := ((HF2.out.2 l2[k0] (List.getElem_mem hk2)).2).ext HG8.out
                  obtain ⟨⟨nm2, b2, s2⟩, hx2⟩ : ∃ x, x = l2[k0] := ⟨_, rfl⟩
                  rw [← hx2] at h0 h1 hb2 hr2 hn2
                  obtain rfl : nm2 = nm := hn2
                  have hbb : b2 = b := by
                    rw [HB1.out, ← HDP.out nm2 hnm]; exact hb2
                  have d0 : wz.cell? ⟨gb, offb + k0 * 2, none⟩ = some (.string ⟨nm2.toArray⟩) := h0
                  have d1 : wz.cell? ⟨gb, offb + k0 * 2 + 1, none⟩ = some s2 := h1
                  have hr2' : RdB wz s2 b := by rw [← hbb]; exact hr2
                  obtain ⟨As, cs, rfl⟩ := RdB.form HR1.out
                  obtain ⟨Bs, ds, rfl⟩ := RdB.form hr2'
                  have HR2 := Lib.hid hr2'
                  have hkk : (0 : Int) ≤ (k0 : Int) := by omega
                  have hkk2 : (k0 : Int) < (l2.length : Int) := by omega
                  have hkd : decide ((l2.length : Int) ≤ (k0 : Int)) = false := by simp; omega
                  have hkd2 : decide (l2.length ≤ k0) = false := by simp; omega
                  have hkd3 : ¬ (l2.length ≤ k0) := by omega
                  have hkd4 : ¬ ((l2.length : Int) ≤ (k0 : Int)) := by omega
                  clear hcellb h0 h1 hb2 hr2 hx2 hbb hr2' hnb ha2 hnm hin hlen
                  go_wp2_with fail
                  go_region_held3 (fun w' => w'.cell? ⟨ga, offa + i * 2, none⟩ = some (.string ⟨nm2.toArray⟩) ∧ w'.cell? ⟨ga, offa + i * 2 + 1, none⟩ = some (.slice As b.length cs) ∧ w'.cell? ⟨gb, offb + k0 * 2, none⟩ = some (.string ⟨nm2.toArray⟩) ∧ w'.cell? ⟨gb, offb + k0 * 2 + 1, none⟩ = some (.slice Bs b.length ds) ∧ (convert 33 9 (.slice As b.length cs)).run Tryz.prog w' = .ok (.string ⟨b.toArray⟩) w' ∧ (convert 33 9 (.slice Bs b.length ds)).run Tryz.prog w' = .ok (.string ⟨b.toArray⟩) w') (first | exact ⟨c0, c1, d0, d1, str_any HR1.out, str_any HR2.out⟩ | exact ⟨c0, c1, d0, d1, str_any (HR1.out.ext (gr_drew _ _)), str_any (HR2.out.ext (gr_drew _ _))⟩) (fail)
                  go_wp2
                  go_roundw
                  case rel => exact ⟨i + 1, by omega, by go_num, by rw [HS2.out]; first | rfl | (congr 1), gr_none HG8.out (gr_drew _ _)⟩
                  case measure => simp [intOf] <;> omega
              · obtain rfl : i = l1.length := by omega
                have hlen : l1.length = ns.length := by rw [← HF1.out.1, List.length_map]
                have hk2 : ((ns.take l1.length).filter (notB gn)).length = l2.length := by
                  rw [hlen, List.take_length, ← HN2.out, List.length_map]
                rw [hk2]
                have HPA := Lib.hid ((HPG.out.ext hg8).pages (n := gn) (by omega))
                obtain ⟨E2, hE2⟩ : ∃ E2, E2 = aErr F' gn := ⟨_, rfl⟩
                obtain ⟨N2, hN2⟩ : ∃ N2, N2 = (aPg F' gn).length := ⟨_, rfl⟩
                have hd2 : ((E2 : Int) != 0) = true := by rw [hE2, bne_iff_ne]; exact fun e => HDG.out (by omega)
                rw [← hE2, ← hN2] at HPA
                have HG := Lib.hid (gr_none HGR.out hg8)
                clear hlen hk2 hE2 hN2 hg8
                go_wp2_with fail
                refine HPA.out.mono ?_
                rintro e w9 ⟨rfl, g9⟩
                have G9 := Lib.hid (gr_none HG.out g9)
                clear g9 HPA
                go_wp2_with fail
                refine (HWK.out w9).mono ?_
                rintro e w10 ⟨rfl, g10⟩
                have G10 := Lib.hid g10
                clear g10 HWK
                go_wp2_with fail
                go_ret
                exact ⟨rfl, gr_none G9.out G10.out⟩
end Go.Proofs.YtkpmadahfmpeiaaGreat

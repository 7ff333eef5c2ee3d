/-
  JournalMoves, the walk.
-/
import Derived.Test.YtnodkbkhdfihcaaMovP
namespace Go.Proofs.Ytnodkbkhdfihcaa
open Go.RowKit
set_option maxRecDepth 100000
set_option maxHeartbeats 400000

theorem Full.one {S : Dk} {l : List Rc} (h : Full S l) (i k : Nat) (hi : i < l.length) (hk : k < l.length) (hn : l.length ≤ 60) :
    ∃ la, S.find jn = some ⟨jn, secs 0 l, la⟩ ∧ S.write jn (64 * i : Nat) (secB (k + 1) l[k]) = (S.wrote jn (64 * i) (secB (k + 1) l[k]), 0) ∧
    (S.wrote jn (64 * i) (secB (k + 1) l[k])).find jn = some ⟨jn, overZ (secs 0 l) (64 * i) (secB (k + 1) l[k]), la⟩ ∧
    (S.wrote jn (64 * i) (secB (k + 1) l[k])).write jn (64 * k : Nat) (secB (i + 1) l[i]) = ((S.wrote jn (64 * i) (secB (k + 1) l[k])).wrote jn (64 * k) (secB (i + 1) l[i]), 0) ∧
    ((S.wrote jn (64 * i) (secB (k + 1) l[k])).wrote jn (64 * k) (secB (i + 1) l[i])).find jn = some ⟨jn, swapB l i k hi hk, la⟩ ∧
    S.fs.length ≤ 1000 ∧ (S.wrote jn (64 * i) (secB (k + 1) l[k])).fs.length ≤ 1000 ∧ S.nl ≤ 1000000 ∧ (S.wrote jn (64 * i) (secB (k + 1) l[k])).nl ≤ 1000000 := by
  obtain ⟨la, hf⟩ := h.find
  obtain ⟨hid, hq, hnl, la', hfs⟩ := h
  have hx1 : 64 * i + (secB (k + 1) l[k]).length ≤ (secs 0 l).length := by rw [secB_len, secs_len]; omega
  have hx2 : (overZ (secs 0 l) (64 * i) (secB (k + 1) l[k])).length = 64 * l.length := by rw [overZ_len _ _ _ hx1, secs_len]
  have hf1 : (S.wrote jn (64 * i) (secB (k + 1) l[k])).find jn = some ⟨jn, overZ (secs 0 l) (64 * i) (secB (k + 1) l[k]), la⟩ := by rw [find_wrote, hf]; simp
  have hid1 : Idle (S.wrote jn (64 * i) (secB (k + 1) l[k])) := hid
  refine ⟨la, hf, write_idle hid jn_right hf (by show _ ≤ (secs 0 l).length; rw [secs_len]; omega) (by rw [secB_len]; omega) ?_, hf1, write_idle hid1 jn_right hf1 (by show _ ≤ (overZ _ _ _).length; rw [hx2]; omega) (by rw [secB_len]; omega) ?_, by rw [find_wrote, hf1]; simp [swapB], by rw [hfs]; simp, by unfold Dk.wrote setF; rw [hfs]; simp, by omega, ?_⟩
  · intro e
    have := e.1
    unfold moreS at this
    rw [show max ((⟨jn, secs 0 l, la⟩ : Fi).now.length) (64 * i + (secB (k + 1) l[k]).length) = (⟨jn, secs 0 l, la⟩ : Fi).now.length from Nat.max_eq_left hx1] at this
    omega
  · intro e
    have := e.1
    unfold moreS at this
    rw [show max ((⟨jn, overZ (secs 0 l) (64 * i) (secB (k + 1) l[k]), la⟩ : Fi).now.length) (64 * k + (secB (i + 1) l[i]).length) = (⟨jn, overZ (secs 0 l) (64 * i) (secB (k + 1) l[k]), la⟩ : Fi).now.length from Nat.max_eq_left (by show _ ≤ (overZ _ _ _).length; rw [hx2, secB_len]; omega)] at this
    omega
  · show S.nl + (secB (k + 1) l[k]).length ≤ _
    rw [secB_len]; omega
set_option maxHeartbeats 4000000 in
theorem moves_law (v : Value) (l : List Rc) (a b : UInt8) (w : World) (h : RdR w v l) :
    Calls Try.prog 5 #[v, .int .u8 a.toNat, .int .u8 b.toNat] w fun e w' => e = .returned (.bool true) ∧ w.grownBy w' none := by
  obtain ⟨A, c0, rfl⟩ := h.form
  have HV := Lib.hid h
  clear h
  by_cases hbig : 60 < l.length
  · go_enter Try.func5, Try.ntmps5
    go_wp2_with (go_at_call 10; refine (works_any _).mono ?_; rintro e w1 ⟨rfl, g1⟩)
    go_ret
    exact ⟨rfl, g1⟩
  have hl60 : l.length ≤ 60 := by omega
  have ha := a.toNat_lt
  have hb := b.toNat_lt
  rcases Nat.eq_zero_or_pos l.length with h00 | hpos
  · obtain rfl := List.length_eq_zero_iff.1 h00
    clear h00 hbig hl60
    go_enter Try.func5, Try.ntmps5
    go_wp2_with fail
    refine (fill_any _ [] _ HV.out (by simp)).mono ?_
    rintro e w1 ⟨d, ⟨h0, jb, v, o, c, S, rfl, h1, h2, h3, g1⟩ | ⟨rfl, g1⟩⟩
    · have G1 := Lib.hid g1
      clear g1 h1 h2 h3 h0
      go_wp2_with (go_at_call 10; refine (works_any _).mono ?_; rintro e w2 ⟨rfl, g2⟩)
      go_ret
      exact ⟨rfl, gr_none G1.out g2⟩
    · have G1 := Lib.hid g1
      clear g1
      go_wp2_with (go_at_call 10; refine (works_any _).mono ?_; rintro e w2 ⟨rfl, g2⟩)
      go_ret
      exact ⟨rfl, gr_none G1.out g2⟩
  have hposi : (0 : Int) < (l.length : Int) := by omega
  have hposb : ((l.length : Int) == 0) = false := by rw [beq_eq_false_iff_ne]; omega
  have hposn : (l.length == 0) = false := by rw [beq_eq_false_iff_ne]; omega
  have hposd : (l.length : Int) ≠ 0 := by omega
  go_enter Try.func5, Try.ntmps5
  go_wp2_with fail
  refine (fill_any _ l _ HV.out hl60).mono ?_
  rintro e w1 ⟨d, ⟨h0, jb, v, o, c, S, rfl, h1, h2, h3, g1⟩ | ⟨rfl, g1⟩⟩
  · have G1 := Lib.hid g1
    have H1 := Lib.hid h1
    have H2 := Lib.hid h2
    have HZ := Lib.hid h0
    clear g1 h1 h2 h3 h0
    go_wp2_with fail
    obtain ⟨i, hie⟩ : ∃ i : Nat, (a.toNat : Int) % (l.length : Int) = (i : Int) := ⟨((a.toNat : Int) % (l.length : Int)).toNat, (Int.toNat_of_nonneg (Int.emod_nonneg _ hposd)).symm⟩
    obtain ⟨k, hke⟩ : ∃ k : Nat, (b.toNat : Int) % (l.length : Int) = (k : Int) := ⟨((b.toNat : Int) % (l.length : Int)).toNat, (Int.toNat_of_nonneg (Int.emod_nonneg _ hposd)).symm⟩
    have hi : i < l.length := by have := Int.emod_lt_of_pos (a.toNat : Int) hposi; omega
    have hk : k < l.length := by have := Int.emod_lt_of_pos (b.toNat : Int) hposi; omega
    rw [hie, hke]
    clear hie hke
    have hwi : wrap64 (64 * (i : Int)) = 64 * (i : Int) := by unfold wrap64; omega
    have hwk : wrap64 (64 * (k : Int)) = 64 * (k : Int) := by unfold wrap64; omega
    rw [hwi]
    obtain ⟨la, hf, hw1, hf1, hw2, hf2, hs1, hs2, hn1, hn2⟩ := H2.out.one i k hi hk hl60
    have HRD : Hid (∀ (j : Nat) (hj : j < l.length) (wx : World), w1.grownBy wx none → Calls Try.prog 23 #[.pointer (some ⟨d, 0, none⟩), .string ⟨jn.toArray⟩, .int .i64 (64 * (j : Int)), .int .i64 64] wx fun e w' => (∃ v, e = .returned (.tuple #[v, .int .i64 0]) ∧ OwnB w' wx.heap.size v (secB (j + 1) l[j])) ∧ wx.grownBy w' none) := fun j hj wx hx => by
      have hr := read_any (H1.out.ext hx) jn (by simp) (64 * j : Nat) (64 : Nat) (by omega) (by omega)
      rw [read_idle H2.out.1 jn_right hf, secs_at 0 l j hj] at hr
      rw [show (64 * (j : Int)) = ((64 * j : Nat) : Int) from by omega]
      rw [show 0 + j + 1 = j + 1 from by omega] at hr
      exact hr
    have hfree : ∀ q, w1.heap.size ≤ q → o q = none := fun q hq => by
      cases e : o q with
      | none => rfl
      | some t => exact absurd (H1.out.inb q (by rw [e]; simp)).2 (by omega)
    have HT1 : Hid (∀ i, o i ≠ none → w.heap.size ≤ i) := fun i hi => (H1.out.inb i hi).1
    refine (HRD.out i hi _ (gr_refl _ _)).mono ?_
    rintro e w2 ⟨⟨v2, rfl, o2⟩, g2⟩
    have G2 := Lib.hid g2
    have O2 := Lib.hid o2
    clear g2 o2
    obtain ⟨S1, hS1⟩ : ∃ S1, S1 = S.wrote jn (64 * i) (secB (k + 1) l[k]) := ⟨_, rfl⟩
    rw [← hS1] at hw1 hf1 hw2 hf2 hs2 hn2
    obtain ⟨S2, hS2⟩ : ∃ S2, S2 = S1.wrote jn (64 * k) (secB (i + 1) l[i]) := ⟨_, rfl⟩
    rw [← hS2] at hw2 hf2
    have hid1 : Idle S1 := by rw [hS1]; exact H2.out.1
    have hid2 : Idle S2 := by rw [hS2]; exact hid1
    have HW1 : Hid (∀ (wx : World) (v3 : Value), w1.grownBy wx none → OwnB wx w1.heap.size v3 (secB (k + 1) l[k]) → Calls Try.prog 13 #[.pointer (some ⟨d, 0, none⟩), .string ⟨jn.toArray⟩, .int .i64 (64 * (i : Int)), v3] wx fun e w' =>
        e = .returned (.int .i64 0) ∧ DOut o wx w.heap.size d S1 w') := fun wx v3 hx ho => by
      have hw := write_any (H1.out.ext hx) jn (by simp) ((64 * i : Nat) : Int) (by omega) v3 _ ho.rd (fun q hq => ⟨(Own.blk_lt ho (by omega) hq).2, hfree q (Own.blk_lt ho (by omega) hq).1⟩) (by rw [secB_len]; omega) (by omega) (by rw [secB_len]; omega)
      rw [hw1] at hw
      rw [show (64 * (i : Int)) = ((64 * i : Nat) : Int) from by omega]
      exact hw
    have HW2 : Hid (∀ (wx : World) (o' : Own1) (c' : Con) (v3 : Value), DI wx w.heap.size o' d S1 c' → OwnB wx w1.heap.size v3 (secB (i + 1) l[i]) → (∀ q, blk v3 = some q → o' q = none) → Calls Try.prog 13 #[.pointer (some ⟨d, 0, none⟩), .string ⟨jn.toArray⟩, .int .i64 (64 * (k : Int)), v3] wx fun e w' =>
        e = .returned (.int .i64 0) ∧ DOut o' wx w.heap.size d S2 w') := fun wx o' c' v3 hd ho hq => by
      have hw := write_any hd jn (by simp) ((64 * k : Nat) : Int) (by omega) v3 _ ho.rd (fun q hq' => ⟨(Own.blk_lt ho (by omega) hq').2, hq q hq'⟩) (by rw [secB_len]; omega) (by omega) (by rw [secB_len]; omega)
      rw [hw2] at hw
      rw [show (64 * (k : Int)) = ((64 * k : Nat) : Int) from by omega]
      exact hw
    have HOP : Hid (∀ (wx : World) (o' : Own1) (c' : Con), DI wx w.heap.size o' d S2 c' → Calls Try.prog 16 #[.pointer (some ⟨d, 0, none⟩)] wx (OpenOut o' wx w.heap.size d S2)) := fun wx o' c' hd => open_some hd hid2 hf2
    have HJR : Hid (jRecs S2 = readJ (swapB l i k hi hk)) := by show _ = _; unfold jRecs; rw [hf2]
    have HFR := Lib.hid hfree
    have HI1 := Lib.hid hid2
    clear hw1 hw2 hf hf1 hf2 hs1 hs2 hn1 hn2 hfree hS1 hS2 hid1 hid2
    go_wp2_with fail
    refine (HRD.out k hk _ G2.out).mono ?_
    rintro e w3 ⟨⟨v3, rfl, o3⟩, g3⟩
    have G3 := Lib.hid (gr_none G2.out g3)
    have O3 := Lib.hid (Own.mono o3 G2.out.size)
    have O2b := Lib.hid (OwnB.ext O2.out g3)
    clear g3 o3
    go_wp2_with fail
    refine (HW1.out _ _ G3.out O3.out).mono ?_
    rintro e w4 ⟨rfl, o4, c4, h4, ch4⟩
    have C4 := Lib.hid ch4
    have H4 := Lib.hid h4
    have G4 : Hid (w.grownBy w4 none) := ch4.gr (gr_none G1.out G3.out) HT1.out
    have HT4 : Hid (∀ i, o4 i ≠ none → w.heap.size ≤ i) := fun i hi => (h4.inb i hi).1
    have O4 : Hid (OwnB w4 w1.heap.size v2 (secB (i + 1) l[i])) := ch4.own O2b.out (by omega) (fun q hq => HFR.out q (Own.blk_lt O2b.out (by omega) hq).1)
    have F4 : Hid (∀ q, blk v2 = some q → o4 q = none) := fun q hq => ch4.free q (Own.blk_lt O2b.out (by omega) hq).2 (HFR.out q (Own.blk_lt O2b.out (by omega) hq).1)
    clear h4 ch4
    go_wp2_with fail
    refine (HW2.out _ _ _ _ H4.out O4.out F4.out).mono ?_
    rintro e w5 ⟨rfl, o5, c5, h5, ch5⟩
    have H5 := Lib.hid h5
    have G5 : Hid (w.grownBy w5 none) := ch5.gr G4.out HT4.out
    have HT5 : Hid (∀ i, o5 i ≠ none → w.heap.size ≤ i) := fun i hi => (h5.inb i hi).1
    clear h5 ch5
    rcases (by omega : i = k ∨ (i ≠ k ∧ k < i) ∨ (i ≠ k ∧ i < k)) with hik | ⟨hik, hlt⟩ | ⟨hik, hlt⟩
    · subst hik
      have HJL : Hid (readJ (swapB l i i hi hk) = l) := by show _ = _; rw [swapB_same]; exact readJ_secs HZ.out (by omega)
      have HSL : Hid (∀ wx : World, w.grownBy wx none → RdR wx (.slice A l.length c0) l) := fun wx hg => RdR.ext HV.out hg
      have hne : ((i : Int) != (i : Int)) = false := by simp
      go_wp2_with fail
      refine (HOP.out _ _ _ H5.out).mono ?_
      rintro e w6 ⟨jb6, v6, o6, c6, rfl, h6, ch6, hj6⟩
      have G6 := Lib.hid (ch6.gr G5.out HT5.out)
      rw [HJR.out, HJL.out] at hj6
      have HRC := Lib.hid (recs_any hj6 (by first | omega | (rw [List.length_take]; omega)))
      clear h6 ch6 hj6
      go_wp2_with (first
        | (go_at_call 20; refine HRC.out.mono ?_; rintro e w7 ⟨⟨v7, rfl, o7⟩, g7⟩)
        | (go_at_call 19; refine (same_any _ _ _ _ _ o7.rd (HSL.out _ (gr_none G6.out g7)) (by first | omega | (rw [List.length_take]; omega)) (by first | omega | (rw [List.length_take]; omega))).mono ?_; rintro e w8 ⟨⟨b8, rfl, hb8⟩, g8⟩; obtain rfl := hb8.2 rfl)
        | (go_at_call 10; refine (works_any _).mono ?_; rintro e w9 ⟨rfl, g9⟩))
      go_ret
      exact ⟨rfl, gr_none (gr_none (gr_none G6.out g7) g8) g9⟩
    · have hmin : min i k = k := by omega
      have HJL : Hid (readJ (swapB l i k hi hk) = l.take k) := by have := readJ_swap l i k hi hk hik hl60 HZ.out; rwa [hmin] at this
      have HSL : Hid (∀ wx : World, w.grownBy wx none → RdR wx (.slice A k c0) (l.take k)) := fun wx hg => (RdR.ext HV.out hg).take (by omega)
      have hne : ((i : Int) != (k : Int)) = true := by rw [bne_iff_ne]; omega
      have hcap : l.length ≤ c0 := by obtain ⟨_, _, _, _, _, e, hn, _⟩ := HV.out; cases e; exact hn
      have hc1 : (k : Int) ≤ (c0 : Int) := by omega
      have hc2 : (i : Int) ≤ (c0 : Int) := by omega
      have hc3 : (k : Int) < (i : Int) := by omega
      clear hmin
      go_wp2_with fail
      refine (HOP.out _ _ _ H5.out).mono ?_
      rintro e w6 ⟨jb6, v6, o6, c6, rfl, h6, ch6, hj6⟩
      have G6 := Lib.hid (ch6.gr G5.out HT5.out)
      rw [HJR.out, HJL.out] at hj6
      have HRC := Lib.hid (recs_any hj6 (by first | omega | (rw [List.length_take]; omega)))
      clear h6 ch6 hj6
      go_wp2_with (first
        | (go_at_call 20; refine HRC.out.mono ?_; rintro e w7 ⟨⟨v7, rfl, o7⟩, g7⟩)
        | (go_at_call 19; refine (same_any _ _ _ _ _ o7.rd (HSL.out _ (gr_none G6.out g7)) (by first | omega | (rw [List.length_take]; omega)) (by first | omega | (rw [List.length_take]; omega))).mono ?_; rintro e w8 ⟨⟨b8, rfl, hb8⟩, g8⟩; obtain rfl := hb8.2 rfl)
        | (go_at_call 10; refine (works_any _).mono ?_; rintro e w9 ⟨rfl, g9⟩))
      go_ret
      exact ⟨rfl, gr_none (gr_none (gr_none G6.out g7) g8) g9⟩
    · have hmin : min i k = i := by omega
      have HJL : Hid (readJ (swapB l i k hi hk) = l.take i) := by have := readJ_swap l i k hi hk hik hl60 HZ.out; rwa [hmin] at this
      have HSL : Hid (∀ wx : World, w.grownBy wx none → RdR wx (.slice A i c0) (l.take i)) := fun wx hg => (RdR.ext HV.out hg).take (by omega)
      have hne : ((i : Int) != (k : Int)) = true := by rw [bne_iff_ne]; omega
      have hcap : l.length ≤ c0 := by obtain ⟨_, _, _, _, _, e, hn, _⟩ := HV.out; cases e; exact hn
      have hc1 : (k : Int) ≤ (c0 : Int) := by omega
      have hc2 : (i : Int) ≤ (c0 : Int) := by omega
      have hc3 : (i : Int) < (k : Int) := by omega
      clear hmin
      go_wp2_with fail
      refine (HOP.out _ _ _ H5.out).mono ?_
      rintro e w6 ⟨jb6, v6, o6, c6, rfl, h6, ch6, hj6⟩
      have G6 := Lib.hid (ch6.gr G5.out HT5.out)
      rw [HJR.out, HJL.out] at hj6
      have HRC := Lib.hid (recs_any hj6 (by first | omega | (rw [List.length_take]; omega)))
      clear h6 ch6 hj6
      go_wp2_with (first
        | (go_at_call 20; refine HRC.out.mono ?_; rintro e w7 ⟨⟨v7, rfl, o7⟩, g7⟩)
        | (go_at_call 19; refine (same_any _ _ _ _ _ o7.rd (HSL.out _ (gr_none G6.out g7)) (by first | omega | (rw [List.length_take]; omega)) (by first | omega | (rw [List.length_take]; omega))).mono ?_; rintro e w8 ⟨⟨b8, rfl, hb8⟩, g8⟩; obtain rfl := hb8.2 rfl)
        | (go_at_call 10; refine (works_any _).mono ?_; rintro e w9 ⟨rfl, g9⟩))
      go_ret
      exact ⟨rfl, gr_none (gr_none (gr_none G6.out g7) g8) g9⟩
  · have G1 := Lib.hid g1
    clear g1
    go_wp2_with (go_at_call 10; refine (works_any _).mono ?_; rintro e w2 ⟨rfl, g2⟩)
    go_ret
    exact ⟨rfl, gr_none G1.out g2⟩
end Go.Proofs.Ytnodkbkhdfihcaa

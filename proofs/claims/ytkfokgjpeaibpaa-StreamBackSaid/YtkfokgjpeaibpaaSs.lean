/-
  StreamShape: the walk.
-/
import Derived.Test.YtkfokgjpeaibpaaSk5
import Derived.Deep.OwnRows
namespace Go.Proofs.Ytkfokgjpeaibpaa
open Go.RowKit Go.Maps
set_option maxRecDepth 100000
set_option maxHeartbeats 400000

section
variable {w0 w w' wb : World} {d p sb size m : Nat} {O O0 : Own1} {l : List (List UInt8)}
theorem ST.far (h : ST w0 d p sb size O l m w) {r : Option Nat} (g : w.grownBy w' r) (hr : ∀ k, r = some k → O k = none ∧ w0.heap.size ≤ k ∧ k ≠ sb) : ST w0 d p sb size O l m w' :=
  ⟨h.pf.far g fun k e => ⟨(hr k e).1, (hr k e).2.1⟩, ⟨h.st.box.gr g fun e => (hr sb e).2.2 rfl, h.st.sB, h.st.lim⟩, h.off, h.rows⟩
theorem mod_u8 (e : Int) : ∃ b : UInt8, e % 256 = (b.toNat : Int) := by
  refine ⟨UInt8.ofNat (e % 256).toNat, ?_⟩
  rw [UInt8.toNat_ofNat_of_lt' (by show _ < 256; omega)]
  omega
theorem own_lies {w : World} {B : Nat} {v : Value} {l : List UInt8} (h : OwnB w B v l) (h0 : 0 < l.length) {q : Nat} (e : v.ownBlock = some q) : q < w.heap.size := by
  have h2 := h
  obtain ⟨hl, A, c, g, off, rfl, hn, hc, hA0, hA, hb, hx, hf⟩ := h
  obtain rfl := hA (by omega)
  cases e
  exact (Own.blk_lt h2 (by omega) (by show (if c = 0 then none else some _) = some _; rw [if_neg (by omega)])).2
theorem wrap_u8 (e : Int) : ∃ b : UInt8, IntKind.u8.wrap e = (b.toNat : Int) := by
  refine ⟨UInt8.ofNat (e % 256).toNat, ?_⟩
  have h1 : IntKind.u8.wrap e = e % 256 := by simp [IntKind.wrap, IntKind.bits, IntKind.signed]
  rw [h1, UInt8.toNat_ofNat_of_lt' (by show _ < 256; omega)]
  omega
def nzC (n : Nat) : Array Value := madeCells #[.int .u8 0] n
theorem nzC_list (n : Nat) : (nzC n).toList = (List.replicate n (0 : UInt8)).map u8v := by
  apply List.ext_getElem?
  intro j
  unfold nzC madeCells
  rw [List.map_replicate, List.getElem?_replicate]
  by_cases h : j < n
  · rw [if_pos h]
    simp [h, Nat.mod_one]
    rfl
  · rw [if_neg h, List.getElem?_eq_none (by simp; omega)]
theorem make_bytes (n : Nat) (hn : n ≤ 1000000) (w : World) : (Instr.makeSlice 27 (.int .i64 (n : Int)) (.int .i64 (n : Int))).run Try.prog w = .ok (.slice (some ⟨w.heap.size, 0, none⟩) n n) (w.alloc (.cells (nzC n) 5)) :=
  run_make_row' (P := Try.prog) 27 5 (.int .u8 0) 1 Try.underlying27 Try.info5 rfl .i64 .i64 n (by omega) (by omega) w
theorem own_made (n : Nat) (hn : n ≤ 1000000) (w : World) : OwnB (w.alloc (.cells (nzC n) 5)) w.heap.size (.slice (some ⟨w.heap.size, 0, none⟩) n n) (List.replicate n 0) := by
  have hs : (nzC n).size = n := by unfold nzC madeCells; simp
  have := own_lit w w.heap.size 1 n n (nzC n) 5 (0, 0) (.inr (Nat.le_refl _)) (by omega) (Nat.le_refl _) (by unfold maxLen; omega) (Nat.le_refl _)
  rw [nzC_list, List.take_of_length_le (by simp)] at this
  unfold OwnB
  rw [List.length_replicate]
  exact this
theorem shapeN {s i N : Nat} (hs : 1 ≤ s ∧ s ≤ 240) (hi : i ≤ 200) (hN : N = (i + 240 / s - 1) / (240 / s)) : ∃ per : Nat, 240 / s = per ∧ 0 < per ∧ 0 < per * s ∧ per * s ≤ 240 ∧ (240 : Int) / (s : Int) = (per : Int) ∧ wrap64 (per : Int) = (per : Int) ∧ ((i : Int) + (per : Int) - 1) / (per : Int) = (N : Int) ∧ N ≤ 1000 ∧ per ≤ 240 ∧ wrap64 ((wrap64 (wrap64 ((i : Int) + 240 / (s : Int)) - 1)).tdiv (240 / (s : Int))) = (N : Int) ∧ ¬ (240 : Int) / (s : Int) = 0 := by
  obtain ⟨p1, p2, p3⟩ := per_pos hs.1 hs.2
  obtain ⟨per, hper⟩ : ∃ per, 240 / s = per := ⟨_, rfl⟩
  have h0 : (240 : Int) / (s : Int) = (per : Int) := by
    rw [← hper]; exact (Int.natCast_ediv 240 s).symm
  have hb : per ≤ 240 := by rw [← hper]; exact Nat.div_le_self _ _
  rw [hper] at hN p1 p2 p3
  have hNb : N ≤ 1000 := by
    clear h0 hper
    rw [hN]
    exact Nat.le_trans (Nat.div_le_self _ _) (by omega)
  refine ⟨per, hper, p1, p2, p3, h0, w64s (q := per) (Nat.le_trans hb (by decide)), ?_, hNb, hb, ?_, by rw [h0]; exact Int.ofNat_ne_zero.mpr (Nat.ne_of_gt p1)⟩
  · clear h0 hper
    rw [show (i : Int) + (per : Int) - 1 = ((i + per - 1 : Nat) : Int) from by omega, hN]
    exact (Int.natCast_ediv _ _).symm
  · rw [h0]
    clear h0 hper
    rw [show wrap64 ((i : Int) + (per : Int)) = ((i + per : Nat) : Int) from w64s (q := i + per) (by omega), show ((i + per : Nat) : Int) - 1 = ((i + per - 1 : Nat) : Int) from by omega, w64s (q := i + per - 1) (by omega), show ((i + per - 1 : Nat) : Int).tdiv (per : Int) = (N : Int) from by rw [hN]; rfl]
    exact w64s (q := N) (by omega)
theorem pageL {c : Nat} (hc : 0 < c) (L : List UInt8) {k N : Nat} (hN : (chk c L).length = N) (hk : k < N) : 0 < ((chk c L).getD k []).length ∧ ((chk c L).getD k []).length ≤ c ∧ (k + 1 < N → ((chk c L).getD k []).length = c) ∧ ((chk c L).take (k + 1)).flatten = ((chk c L).take k).flatten ++ (chk c L).getD k [] := by
  have hl := chk_len c L
  have h1 := (chk_lt hc L k).mp (by omega)
  have h2 := chk_at hc L k
  rw [if_pos h1] at h2
  have h3 : (chk c L).getD k [] = (L.drop (k * c)).take c := by rw [List.getD_eq_getElem?_getD, h2]; rfl
  refine ⟨?_, ?_, ?_, ?_⟩
  · rw [h3, List.length_take, List.length_drop]; omega
  · rw [h3, List.length_take]; omega
  · intro h4
    have h5 := (chk_lt hc L (k + 1)).mp (by omega)
    rw [Nat.succ_mul] at h5
    rw [h3, List.length_take, List.length_drop]; omega
  · rw [List.take_add_one, h2, h3]; simp
set_option maxHeartbeats 8000000 in
theorem shape_any (x y z : UInt8) (w : World) : Calls Try.prog 3 #[.int .u8 x.toNat, .int .u8 y.toNat, .int .u8 z.toNat] w fun e w' => e = .returned (.bool true) ∧ w.grownBy w' none := by
  have hx := x.toNat_lt
  have hy := y.toNat_lt
  obtain ⟨n, hn⟩ : ∃ n, n = y.toNat % 201 := ⟨_, rfl⟩
  obtain ⟨s, hs⟩ : ∃ s, s = 1 + x.toNat % 240 := ⟨_, rfl⟩
  have hn2 : ((y.toNat : Int) % 201) = (n : Int) := by omega
  have hs2 : ((x.toNat : Int) % 240) = (s : Int) - 1 := by omega
  have hsb : 1 ≤ s ∧ s ≤ 240 := by omega
  have hnb : n ≤ 200 := by omega
  have HBG := Lib.hid (begun_st w 3 s (by omega) (by omega) hsb.1 hsb.2)
  clear hn hs
  go_enter Try.func3, Try.ntmps3
  go_wp2_with fail
  rw [hn2, show (1 : Int) + ((s : Int) - 1) = (s : Int) from by omega]
  clear hn2 hs2
  refine HBG.out.mono ?_
  rintro e w1 ⟨d, p, sb, O, rfl, h1⟩
  have H1 := Lib.hid h1
  clear h1 HBG
  go_wp2_with fail
  go_loopw [12, 13, 14, 15] (fun al ii _ _ wr => ∃ (i : Nat) (l : List (List UInt8)) (O : Own1), i ≤ n ∧ ii = .int .i64 i ∧ l.length = i ∧ ST w d p sb s O l (1 + 2 * i) wr ∧ OwnB wr w.heap.size al l.flatten ∧ ∀ q, al.ownBlock = some q → O q = none ∧ q ≠ sb ∧ q < wr.heap.size) (fun _ ii _ _ _ => n - (intOf ii).toNat)
  case atStart => exact ⟨0, [], O, by omega, rfl, rfl, H1.out, OwnB.nil _ _, fun q e => by cases e⟩
  case round =>
    obtain ⟨i, l, O, hi, rfl, hl, hst, hal, hao⟩ := hrel
    by_cases hlt : i < n
    · have hmk := make_bytes s (by omega) wr
      have HOM := Lib.hid (own_made s (by omega) wr)
      have HGM : Hid (wr.grownBy (wr.alloc (.cells (nzC s) 5)) none) := gr_alloc _ _ none
      obtain ⟨Al, cl, hav⟩ := RdB.form (Own.rd hal)
      have HAL := Lib.hid hal
      have HAO := Lib.hid hao
      have HST := Lib.hid hst
      have HL := Lib.hid hl
      have hfl : l.flatten.length ≤ 100000 := by
        have h9 := flat_rows hst.rows
        rw [hl] at h9
        have := Nat.mul_le_mul (show i ≤ 200 by omega) hsb.2
        omega
      obtain ⟨fl, hfl2⟩ : ∃ fl, fl = l.flatten := ⟨_, rfl⟩
      rw [← hfl2] at HAL hav hfl
      have HFL := Lib.hid hfl2
      clear hal hao hst hl hfl2
      subst hav
      go_wp2
      rename World => wv
      generalize hwq : wv.alloc (.cells (nzC s) 5) = wq at *
      clear hwq hmk
      go_loopw [15] (fun kk wr => ∃ (k : Nat) (bs : List UInt8), k ≤ s ∧ kk = .int .i64 k ∧ bs.length = s ∧ OwnB wr wv.heap.size (.slice (some ⟨wv.heap.size, 0, none⟩) s s) bs ∧ wv.grownBy wr none) (fun kk _ => s - (intOf kk).toNat)
      case atStart => exact ⟨0, _, by omega, rfl, by simp, HOM.out, HGM.out⟩
      case round =>
        obtain ⟨k, bs, hk, rfl, hbl, hob, hgb⟩ := hrel
        by_cases hks : k < s
        · obtain ⟨g8, o8, hA8, -, -, -, hcell, hfrz, hset⟩ := hob.at_ (k := k) (by omega)
          cases hA8
          rw [Nat.zero_add] at hcell hfrz hset
          have HSET := Lib.hid hset
          have HGB := Lib.hid hgb
          have HBL := Lib.hid hbl
          obtain ⟨q8, hc8⟩ : ∃ q : Int, wr.cell? ⟨wv.heap.size, k, none⟩ = some (.int .u8 q) := ⟨_, hcell⟩
          clear hset hgb hbl hob hcell
          go_wp2
          go_roundw
          case rel =>
            obtain ⟨b8, hb8⟩ := mod_u8 ((z.toNat : Int) + (i : Int) + 3 * (k : Int))
            rw [hb8]
            exact ⟨k + 1, bs.set k b8, by omega, by go_num, by rw [List.length_set]; exact HBL.out, HSET.out b8, gr_set_new HGB.out _ _ (Nat.le_refl _)⟩
          case measure => simp [intOf] <;> omega
        · obtain rfl : k = s := by omega
          have HAL2 := Lib.hid (OwnB.ext HAL.out hgb)
          have HOB := Lib.hid hob
          have HGB := Lib.hid hgb
          have HBL := Lib.hid hbl
          have hwz : w.heap.size ≤ wr.heap.size := Nat.le_trans HST.out.gr.size hgb.size
          have HOB2 : Hid (RdB wr (.slice (some ⟨wv.heap.size, 0, none⟩) k k) bs) := Own.rd hob
          have hnn : fl.length + bs.length ≤ 70000000000000 := by omega
          have HNN := Lib.hid hnn
          clear hob hgb hbl hnn
          go_wp2_with (at_builtin; refine wp_appB (B := w.heap.size) (v := .slice Al fl.length cl) (l := fl) (m := bs) rfl (.tmp 61) (.tmp 62) rfl rfl HAL2.out rfl HOB2.out HNN.out hwz ?_; intro v6 w6 h6 g6 a6; obtain ⟨A6, c6, rfl⟩ := RdB.form (Own.rd h6); have H6 := Lib.hid h6; have G6 := Lib.hid g6; have A66 := Lib.hid a6; clear h6 g6 a6)
          have HST6 : Hid (ST w d p sb k O l (1 + 2 * i) w6) := (HST.out.ext HGB.out).far G6.out fun q e => ⟨(HAO.out q e).1, by have := Own.lt HAL.out q e; exact this, (HAO.out q e).2.1⟩
          have HB6 : Hid (RdB w6 (.slice (some ⟨wv.heap.size, 0, none⟩) bs.length k) bs) := by
            have h9 := HOB2.out.same (w' := w6) fun q e => by
              have hq : wv.heap.size = q := by
                have h8 : (if k = 0 then none else some wv.heap.size) = some q := e
                rw [if_neg (by omega)] at h8
                exact Option.some.inj h8
              subst hq
              exact G6.out.block _ ((Own.blk_lt HOB.out (by omega) e).2) fun e2 => by have := (HAO.out _ e2.symm).2.2; omega
            rw [HBL.out]
            exact h9
          have hobl : wv.heap.size < wr.heap.size := (Own.blk_lt HOB.out (by omega) (k := wv.heap.size) (by show (if k = 0 then none else some wv.heap.size) = some _; rw [if_neg (by omega)])).2
          have HADD := Lib.hid (HST6.out.add (by omega) (by have := HL.out; omega) HB6.out (fun q e => by
            have h8 : (if k = 0 then none else some wv.heap.size) = some q := e
            rw [if_neg (by omega)] at h8
            cases h8
            exact ⟨Nat.lt_of_lt_of_le hobl G6.out.size, HST.out.pf.fresh (Nat.le_refl _)⟩) (by have := HBL.out; omega))
          have HAD2 : Hid (Calls Try.prog 9 #[.pointer (some ⟨sb, 0, none⟩), .slice (some ⟨wv.heap.size, 0, none⟩) k k] w6 (AddOutS w d p sb k O l (1 + 2 * i + 2) bs w6)) := by
            have h9 := HADD.out
            rw [HBL.out] at h9
            exact h9
          have HOW6 : Hid (∀ q, (Value.slice A6 (fl ++ bs).length c6).ownBlock = some q → O q = none ∧ q ≠ sb ∧ q < w6.heap.size) := fun q e => by
            refine ⟨?_, ?_, own_lies H6.out (by rw [List.length_append]; have := HBL.out; omega) e⟩
            · rcases A66.out with h9 | ⟨q2, h9, h10⟩
              · exact (HAO.out q (h9 ▸ e)).1
              · rw [h9] at e; cases e
                exact HST.out.pf.fresh (Nat.le_trans HGB.out.size h10)
            · rcases A66.out with h9 | ⟨q2, h9, h10⟩
              · exact (HAO.out q (h9 ▸ e)).2.1
              · rw [h9] at e; cases e
                have h11 := HST.out.st.box.lt
                have := HGB.out.size
                omega
          clear HADD
          refine HAD2.out.mono ?_
          rintro e w7 (⟨hl7, rfl, O7, st7, ch7⟩ | ⟨hl7, -⟩)
          · have ST7 := Lib.hid st7
            have CH7 := Lib.hid ch7
            clear hl7 st7 ch7 HAD2
            go_wp2_with fail
            go_roundw
            case rel =>
              refine ⟨i + 1, l ++ [bs], O7, by omega, by go_num, by rw [List.length_append, HL.out]; rfl, by rw [show 1 + 2 * (i + 1) = 1 + 2 * i + 2 from by omega]; exact ST7.out, ?_, fun q e => ?_⟩
              · have h9 := CH7.out.own H6.out (by omega) fun q e => (HOW6.out q (blk_own e)).1
                have h10 : (l ++ [bs]).flatten = fl ++ bs := by rw [HFL.out]; simp
                rw [h10]
                rw [show fl.length + bs.length = (fl ++ bs).length from (List.length_append).symm]
                exact h9
              · rw [show fl.length + bs.length = (fl ++ bs).length from (List.length_append).symm] at e
                obtain ⟨q1, q2, q3⟩ := HOW6.out q e
                exact ⟨CH7.out.free q q3 q1, q2, Nat.lt_of_lt_of_le q3 CH7.out.size⟩
            case measure => simp [intOf] <;> omega
          · exact absurd HBL.out hl7
    · obtain rfl : i = n := by omega
      obtain ⟨N, hN⟩ : ∃ N, (chk (240 / s * s) l.flatten).length = N := ⟨_, rfl⟩
      have hcp := chk_pages hsb.1 hsb.2 hst.rows
      rw [hN, hl] at hcp
      have HPG : Hid (Calls Try.prog 10 #[.pointer (some ⟨p, 0, none⟩), .string ⟨sn.toArray⟩] wr fun e w' => e = .returned (.tuple #[.int .i64 N, .int .i64 0]) ∧ wr.grownBy w' none) := by rw [← hN]; exact hst.pages wr (gr_refl _ _)
      obtain ⟨Al, cl, hav⟩ := RdB.form (Own.rd hal)
      have HAL := Lib.hid hal
      have HAO := Lib.hid hao
      have HST := Lib.hid hst
      have HL := Lib.hid hl
      obtain ⟨per, hper, p1, p2, p3, hpi, hw1, hq2, hNb, hperb, hdv, hd0⟩ := shapeN hsb hnb hcp
      have HDV := Lib.hid hdv
      have HD0 := Lib.hid hd0
      have HPI := Lib.hid hpi
      have HQ2 := Lib.hid hq2
      clear hdv hd0 hpi hq2
      have HPAGE : Hid (∀ k, k < N → 0 < ((chk (240 / s * s) l.flatten).getD k []).length ∧ ((chk (240 / s * s) l.flatten).getD k []).length ≤ per * s ∧ (k + 1 < N → ((chk (240 / s * s) l.flatten).getD k []).length = per * s) ∧ ((chk (240 / s * s) l.flatten).take (k + 1)).flatten = ((chk (240 / s * s) l.flatten).take k).flatten ++ (chk (240 / s * s) l.flatten).getD k []) := fun k hk => by
        have := pageL (c := 240 / s * s) (by rw [hper]; exact p2) l.flatten hN hk
        rw [hper] at this ⊢
        exact this
      have HALL : Hid (((chk (240 / s * s) l.flatten).take N).flatten = l.flatten) := by
        rw [← hN, List.take_length]
        exact chk_flat (by rw [hper]; exact p2) _ _ (Nat.le_refl _)
      have HN := Lib.hid hN
      have HRD : Hid (∀ wx k m', k < N → m' ≤ 9000 → ∀ O', ST w d p sb s O' l m' wx → Calls Try.prog 11 #[.pointer (some ⟨p, 0, none⟩), .string ⟨sn.toArray⟩, .int .i64 k] wx fun e w' =>
          ∃ v, e = .returned (.tuple #[v, .int .i64 0]) ∧ OwnB w' wx.heap.size v ((chk (240 / s * s) l.flatten).getD k []) ∧ wx.heap.size ≤ w'.heap.size ∧ StR w' w.heap.size p sb sn s ∧ STn w d p sb s O' l (m' + 1) wx w') := fun wx k m' hk hm' O' h =>
        h.read hm' (by rw [hN]; exact hk) (by omega) wx (gr_refl _ _)
      obtain ⟨P, hP⟩ : ∃ P, P = chk (240 / s * s) l.flatten := ⟨_, rfl⟩
      rw [← hP] at HPAGE HALL HRD HN
      have hfl : l.flatten.length ≤ 100000 := by
        have h9 := flat_rows hst.rows
        rw [hl] at h9
        have := Nat.mul_le_mul (show i ≤ 200 by omega) hsb.2
        omega
      obtain ⟨fl, hfl2⟩ : ∃ fl, fl = l.flatten := ⟨_, rfl⟩
      rw [← hfl2] at HAL hav HALL hfl
      obtain ⟨ps, hps⟩ : ∃ ps, ps = per * s := ⟨_, rfl⟩
      rw [← hps] at HPAGE p2 p3
      have hps2 : (per : Int) * (s : Int) = (ps : Int) := by rw [hps]; exact (Int.natCast_mul _ _).symm
      have hz2 : ¬ s = 0 := Nat.ne_of_gt hsb.1
      have hz3 : ¬ per = 0 := Nat.ne_of_gt p1
      clear hal hao hst hl hfl2 hper hN hcp hP hps
      subst hav
      have HFL := Lib.hid hfl
      have HPB := Lib.hid hperb
      have HP3 := Lib.hid p3
      have HPS := Lib.hid hps2
      clear hfl hperb p3 hps2 hlt hi
      go_wp2_with fail
      refine HPG.out.mono ?_
      rintro e w2 ⟨rfl, g2⟩
      have G2 := Lib.hid g2
      clear g2 HPG
      rename World => wp
      have hdv := HDV.out
      have hd0 := HD0.out
      go_wp2_with fail
      clear hdv hd0
      rw [HPI.out]
      have hal2 : RdB wp (.slice Al fl.length cl) fl := (Own.rd HAL.out).ext G2.out
      go_loopw [19, 20, 21, 22] (fun gv kk _ _ wx => ∃ (k : Nat) (O' : Own1), k ≤ N ∧ kk = .int .i64 k ∧ ST w d p sb s O' l (1 + 2 * i + k) wx ∧ OwnB wx wp.heap.size gv (P.take k).flatten ∧ (∀ q, gv.ownBlock = some q → O' q = none ∧ q < wx.heap.size) ∧ RdB wx (.slice Al fl.length cl) fl ∧ (∀ q, blk (.slice Al fl.length cl) = some q → O' q = none ∧ q < wp.heap.size) ∧ wp.heap.size ≤ wx.heap.size) (fun _ kk _ _ _ => N - (intOf kk).toNat)
      case atStart => exact ⟨0, O, Nat.zero_le _, rfl, HST.out.ext G2.out, OwnB.nil _ _, fun q e => (by cases e), hal2, fun q e => ⟨(HAO.out q (blk_own e)).1, Nat.lt_of_lt_of_le (HAO.out q (blk_own e)).2.2 G2.out.size⟩, Nat.le_refl _⟩
      case round =>
        obtain ⟨k, O', hk, rfl, hst, hgv, hgo, hra, hrao, hsz⟩ := hrel
        by_cases hks : k < N
        · rename World => wx
          have HSZ := Lib.hid hsz
          have HGO := Lib.hid hgo
          have HRA := Lib.hid hra
          have HRO := Lib.hid hrao
          have HR := Lib.hid (HRD.out wx k (1 + 2 * i + k) hks (by have := hnb; omega) O' hst)
          obtain ⟨Ag, cg, hgf⟩ := RdB.form (Own.rd hgv)
          obtain ⟨b1, b2, b3, b4⟩ := HPAGE.out k hks
          have B4 := Lib.hid b4
          obtain ⟨gl, hgl⟩ : ∃ gl, gl = (P.take k).flatten := ⟨_, rfl⟩
          rw [← hgl] at hgv hgf
          have HGL := Lib.hid hgl
          have HGV := Lib.hid hgv
          obtain ⟨b, hb⟩ : ∃ b, b = P.getD k [] := ⟨_, rfl⟩
          rw [← hb] at b1 b2 b3
          have HB := Lib.hid hb
          have HRR : Hid (Calls Try.prog 11 #[.pointer (some ⟨p, 0, none⟩), .string ⟨sn.toArray⟩, .int .i64 k] wx fun e w' =>
              ∃ v, e = .returned (.tuple #[v, .int .i64 0]) ∧ OwnB w' wx.heap.size v b ∧ wx.heap.size ≤ w'.heap.size ∧ StR w' w.heap.size p sb sn s ∧ STn w d p sb s O' l (1 + 2 * i + k + 1) wx w') := by rw [hb]; exact HR.out
          clear hst hgv hgo hra hrao hsz b4 hgl hb HR
          subst hgf
          go_wp2_with fail
          refine HRR.out.mono ?_
          rintro e w3 ⟨v3, rfl, hv3, hz3', -, O3, st3, ch3⟩
          have HGV3 : Hid (OwnB w3 wp.heap.size (.slice Ag gl.length cg) gl) := ch3.own HGV.out (by omega) fun q e => (HGO.out q (blk_own e)).1
          have HRA3 : Hid (RdB w3 (.slice Al fl.length cl) fl) := ch3.rd HRA.out fun q e => ⟨Nat.lt_of_lt_of_le (HRO.out q e).2 HSZ.out, (HRO.out q e).1⟩
          obtain ⟨A3, c3, hv3f⟩ := RdB.form (Own.rd hv3)
          have HV3 : Hid (RdB w3 v3 b) := Own.rd hv3
          have hz4 : wp.heap.size ≤ w3.heap.size := Nat.le_trans HSZ.out hz3'
          have HZ4 := Lib.hid hz4
          have ST3 := Lib.hid st3
          have CH3 := Lib.hid ch3
          clear hv3 hz3' hz4 st3 ch3 HRR
          subst hv3f
          have hps2 := HPS.out
          have HB2 := Lib.hid b2
          have HP3' := HP3.out
          have HGL5 : Hid (gl.length + b.length ≤ 70000000000000) := by
            have h1 : gl.length ≤ fl.length := by
              rw [HGL.out, ← HALL.out]
              have h2 : List.take N P = List.take k P ++ (List.take N P).drop k := by
                have h3 := List.take_append_drop k (List.take N P)
                rw [List.take_take, Nat.min_eq_left hk] at h3
                exact h3.symm
              rw [h2, List.flatten_append, List.length_append]
              exact Nat.le_add_right _ _
            have := HFL.out
            have := HB2.out
            show _ ≤ _
            omega
          go_wp2_with (at_builtin; refine wp_appB (B := wp.heap.size) (v := .slice Ag gl.length cg) (l := gl) (m := b) rfl (.tmp 127) (.tmp 128) rfl rfl HGV3.out rfl HV3.out HGL5.out HZ4.out ?_; intro v6 w6 h6 g6 a6; obtain ⟨A6, c6, rfl⟩ := RdB.form (Own.rd h6); have H6 := Lib.hid h6; have G6 := Lib.hid g6; have A66 := Lib.hid a6; clear h6 g6 a6)
          all_goals first
            | (exfalso
               have hb0 : b ≠ [] := fun e => by rw [e] at b1; exact Nat.lt_irrefl _ b1
               first
                 | contradiction
                 | (rename_i a1 a2 a3; have h9 := b3 (by omega); rw [h9] at a3; simp at a3; omega)
                 | (rename_i a1 a2 a3; simp at a2; rcases a2 with a2 | a2 <;> first | contradiction | omega))
            | (go_roundw
               case rel =>
                 have hwr := HST.out.gr.size
                 have hsb2 := HST.out.st.box.lt
                 have hg2 := G2.out.size
                 refine ⟨k + 1, O3, by omega, by go_num, ?_, ?_, fun q e => ?_, ?_, fun q e => ?_, Nat.le_trans HZ4.out G6.out.size⟩
                 · exact ST3.out.far G6.out fun q e => ⟨CH3.out.free q (HGO.out q e).2 (HGO.out q e).1, by have h9 : wp.heap.size ≤ q := Own.lt HGV3.out q e; omega, by have h9 : wp.heap.size ≤ q := Own.lt HGV3.out q e; omega⟩
                 · rw [B4.out, ← HGL.out, ← HB.out, ← List.length_append]
                   exact H6.out
                 · rw [← List.length_append] at e
                   refine ⟨?_, own_lies H6.out (by rw [List.length_append]; omega) e⟩
                   rcases A66.out with h9 | ⟨q2, h9, h10⟩
                   · exact CH3.out.free q (HGO.out q (h9 ▸ e)).2 (HGO.out q (h9 ▸ e)).1
                   · rw [h9] at e; cases e
                     exact ST3.out.pf.fresh h10
                 · exact HRA3.out.same fun q e => G6.out.block q (Nat.lt_of_lt_of_le (HRO.out q e).2 HZ4.out) fun e2 => by
                     have h9 : wp.heap.size ≤ q := Own.lt HGV3.out q e2.symm
                     have := (HRO.out q e).2
                     omega
                 · exact ⟨CH3.out.free q (Nat.lt_of_lt_of_le (HRO.out q e).2 HSZ.out) (HRO.out q e).1, (HRO.out q e).2⟩
               case measure => simp [intOf] <;> omega)
        · obtain rfl : k = N := by omega
          rw [HALL.out] at hgv
          have HEQ : Hid (Calls Try.prog 12 #[_, _] _ fun e w' => e = .returned (.bool (fl == fl)) ∧ _ = w') := eqBytes_any _ _ fl fl _ (Own.rd hgv) hra
          have HGR := Lib.hid hst.gr
          clear hst hgv hgo hra hrao hsz
          go_wp2_with fail
          refine HEQ.out.mono ?_
          rintro e w8 ⟨rfl, rfl⟩
          rw [beq_self_eq_true]
          have HWK := Lib.hid (works11_any wr)
          clear HEQ
          go_wp2_with fail
          refine HWK.out.mono ?_
          rintro e w9 ⟨rfl, g9⟩
          have G9 := Lib.hid g9
          clear g9 HWK
          go_wp2_with fail
          go_ret
          exact ⟨rfl, gr_none HGR.out G9.out⟩
end
end Go.Proofs.Ytkfokgjpeaibpaa

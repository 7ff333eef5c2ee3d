/-
  StreamLeaves: the walk.
-/
import Derived.Test.YtkfokgjpeaibpaaSs
import Derived.Test.YtkfokgjpeaibpaaInt
namespace Go.Proofs.Ytkfokgjpeaibpaa
open Go.RowKit Go.Maps
set_option maxRecDepth 100000
set_option maxHeartbeats 400000

/-- a byte of the rows laid one behind the other. -/
theorem flat_byte {s : Nat} (hs : 0 < s) : ∀ {l : List (List UInt8)}, rowsOk s l → ∀ j : Nat, l.flatten.getD j 0 = (l.getD (j / s) []).getD (j % s) 0 := by
  intro l
  induction l with
  | nil => intro _ j; simp
  | cons r l ih =>
    intro h j
    have h1 : r.length = s := h r (by simp)
    have ih' := ih (fun x hx => h x (by simp [hx]))
    rw [List.flatten_cons]
    by_cases hj : j < s
    · rw [Nat.div_eq_of_lt hj, Nat.mod_eq_of_lt hj]
      rw [List.getD_eq_getElem?_getD, List.getElem?_append_left (by omega)]
      simp
    · rw [List.getD_eq_getElem?_getD, List.getElem?_append_right (by omega), ← List.getD_eq_getElem?_getD, h1, ih' (j - s)]
      have e1 : j / s = (j - s) / s + 1 := by rw [Nat.div_eq_sub_div hs (by omega)]
      have e2 : j % s = (j - s) % s := Nat.mod_eq_sub_mod (by omega)
      rw [e1, e2]
      simp
/-- the rows behind Set. -/
def leafL (n s : Nat) (fits : Bool) (i : Nat) (b : List UInt8) : List (List UInt8) := if fits then (List.replicate n (List.replicate s 0)).set i b else List.replicate n (List.replicate s 0)
theorem leaf_rows (n s : Nat) (fits : Bool) (i : Nat) {b : List UInt8} (hb : fits = true → b.length = s) : rowsOk s (leafL n s fits i b) := by
  intro r hr
  unfold leafL at hr
  have h0 : ∀ r, r ∈ List.replicate n (List.replicate s (0 : UInt8)) → r.length = s := fun r h => by rw [List.eq_of_mem_replicate h, List.length_replicate]
  by_cases hf : fits = true
  · rw [if_pos hf] at hr
    rcases List.mem_or_eq_of_mem_set hr with h | h
    · exact h0 r h
    · rw [h]; exact hb hf
  · rw [if_neg hf] at hr; exact h0 r hr
theorem leaf_len (n s : Nat) (fits : Bool) (i : Nat) (b : List UInt8) : (leafL n s fits i b).length = n := by unfold leafL; split <;> simp
theorem leaf_at {n s : Nat} {fits : Bool} {i : Nat} {b : List UInt8} {j q : Nat} (hi : fits = true → i < n) : ((leafL n s fits i b).getD j []).getD q 0 = if fits = true ∧ j = i then b.getD q 0 else 0 := by
  have h0 : ∀ j q : Nat, ((List.replicate n (List.replicate s (0 : UInt8))).getD j []).getD q 0 = 0 := fun j q => by
    simp only [List.getD_eq_getElem?_getD, List.getElem?_replicate]
    split
    · simp only [Option.getD_some, List.getElem?_replicate]; split <;> rfl
    · rfl
  unfold leafL
  by_cases hf : fits = true
  · rw [if_pos hf]
    by_cases hj : j = i
    · subst hj
      rw [if_pos ⟨hf, rfl⟩]
      have := hi hf
      simp [List.getD_eq_getElem?_getD, this]
    · rw [if_neg (fun h => hj h.2), List.getD_eq_getElem?_getD (l := List.set _ _ _), List.getElem?_set_ne (by omega), ← List.getD_eq_getElem?_getD, h0]
  · rw [if_neg hf, if_neg (fun h => hf h.1), h0]
/-- the law's own words: a byte of a page. -/
theorem leaf_page {n s per : Nat} {fits : Bool} {i : Nat} {b : List UInt8} (hs : 0 < s) (hp : 0 < per) (hb : fits = true → b.length = s) (hi : fits = true → i < n) {k q N : Nat} (hN : (chk (per * s) (leafL n s fits i b).flatten).length = N) (hk : k < N)
    (hq : q < ((chk (per * s) (leafL n s fits i b).flatten).getD k []).length) :
    ((chk (per * s) (leafL n s fits i b).flatten).getD k []).getD q 0 = if fits = true ∧ k * per + q / s = i then b.getD (q % s) 0 else 0 := by
  have hc : 0 < per * s := Nat.mul_pos hp hs
  have hl := chk_len (per * s) (leafL n s fits i b).flatten
  have h1 := (chk_lt hc (leafL n s fits i b).flatten k).mp (by omega)
  have h2 := chk_at hc (leafL n s fits i b).flatten k
  rw [if_pos h1] at h2
  have h3 : (chk (per * s) (leafL n s fits i b).flatten).getD k [] = ((leafL n s fits i b).flatten.drop (k * (per * s))).take (per * s) := by rw [List.getD_eq_getElem?_getD, h2]; rfl
  rw [h3] at hq ⊢
  have hq2 : q < per * s := by rw [List.length_take] at hq; omega
  rw [List.getD_eq_getElem?_getD, take_drop_at, if_pos hq2, ← List.getD_eq_getElem?_getD, flat_byte hs (leaf_rows n s fits i hb)]
  have e1 : (k * (per * s) + q) / s = k * per + q / s := by
    rw [← Nat.mul_assoc, Nat.add_comm, Nat.add_mul_div_right _ _ hs, Nat.add_comm]
  have e2 : (k * (per * s) + q) % s = q % s := by
    rw [← Nat.mul_assoc, Nat.add_comm, Nat.add_mul_mod_self_right]
  rw [e1, e2, leaf_at hi]

set_option maxHeartbeats 8000000 in
theorem leaves_any (x y : UInt8) (ix : Int) (hix : -9223372036854775808 ≤ ix ∧ ix ≤ 9223372036854775807) (v : Value) (b : List UInt8) (w : World) (hv : RdB w v b) : Calls Try.prog 5 #[.int .u8 x.toNat, .int .u8 y.toNat, .int .i64 ix, v] w fun e w' => e = .returned (.bool true) ∧ w.grownBy w' none := by
  have hx := x.toNat_lt
  have hy := y.toNat_lt
  obtain ⟨Ab, cb, rfl⟩ := RdB.form hv
  have HV := Lib.hid hv
  clear hv
  by_cases hbl : 1024 < b.length
  · have HWK := Lib.hid (works11_any w)
    go_enter Try.func5, Try.ntmps5
    go_wp2_with fail
    refine HWK.out.mono ?_
    rintro e w9 ⟨rfl, g9⟩
    have G9 := Lib.hid g9
    clear g9 HWK
    go_wp2_with fail
    go_ret
    exact ⟨rfl, G9.out⟩
  obtain ⟨n, hn⟩ : ∃ n, n = y.toNat % 101 := ⟨_, rfl⟩
  obtain ⟨s, hs⟩ : ∃ s, s = 1 + x.toNat % 240 := ⟨_, rfl⟩
  have hn2 : ((y.toNat : Int) % 101) = (n : Int) := by omega
  have hs2 : ((x.toNat : Int) % 240) = (s : Int) - 1 := by omega
  have hsb : 1 ≤ s ∧ s ≤ 240 := by omega
  have hnb : n ≤ 100 := by omega
  have HBG := Lib.hid (begun_st w 3 s (by omega) (by omega) hsb.1 hsb.2)
  clear hn hs
  go_enter Try.func5, Try.ntmps5
  go_wp2_with fail
  rw [hn2, show (1 : Int) + ((s : Int) - 1) = (s : Int) from by omega]
  clear hn2 hs2
  refine HBG.out.mono ?_
  rintro e w1 ⟨d, p, sb, O, rfl, h1⟩
  have H1 := Lib.hid h1
  clear h1 HBG
  go_wp2_with fail
  have HNB := Lib.hid hnb
  clear hnb
  have hs0 : ¬ (s : Int) < 0 := by omega
  go_loopw [14] (fun kk wr => ∃ (k : Nat) (O : Own1), k ≤ n ∧ kk = .int .i64 k ∧ ST w d p sb s O (List.replicate k (List.replicate s 0)) (1 + 2 * k) wr) (fun kk _ => n - (intOf kk).toNat)
  case atStart => exact ⟨0, O, Nat.zero_le _, rfl, H1.out⟩
  case round =>
    obtain ⟨k, O2, hk, rfl, hst⟩ := hrel
    have hnb := HNB.out
    by_cases hlt : k < n
    · rename World => wv
      have hmk := make_bytes s (by omega) wv
      have hom := own_made s (by omega) wv
      obtain ⟨wq, hwq⟩ : ∃ wq, wq = wv.alloc (.cells (nzC s) 5) := ⟨_, rfl⟩
      have hsz : wv.heap.size < wq.heap.size := by rw [hwq, World.size_alloc]; exact Nat.lt_succ_self _
      have gq : wv.grownBy wq none := by rw [hwq]; exact gr_alloc _ _ none
      rw [← hwq] at hom hmk
      have HADD : Hid (Calls Try.prog 9 #[.pointer (some ⟨sb, 0, none⟩), .slice (some ⟨wv.heap.size, 0, none⟩) s s] wq (AddOutS w d p sb s O2 (List.replicate k (List.replicate s 0)) (1 + 2 * k + 2) (List.replicate s 0) wq)) := by
        refine (hst.ext gq).add (by omega) (by rw [List.length_replicate]; omega) (Own.rd hom) (fun q e => ?_) (by rw [List.length_replicate]; omega)
        have h8 : (if s = 0 then none else some wv.heap.size) = some q := e
        rw [if_neg (by omega)] at h8
        cases h8
        exact ⟨hsz, hst.pf.fresh (Nat.le_refl _)⟩
      clear hst hom hwq hsz gq
      go_wp2_with fail
      refine HADD.out.mono ?_
      rintro e w7 (⟨hl7, rfl, O7, st7, ch7⟩ | ⟨hl7, -⟩)
      · have ST7 := Lib.hid st7
        clear hl7 st7 ch7 HADD
        go_wp2_with fail
        go_roundw
        case rel => exact ⟨k + 1, O7, by omega, by go_num, by rw [List.replicate_succ', show 1 + 2 * (k + 1) = 1 + 2 * k + 2 from by omega]; exact ST7.out⟩
        case measure => simp [intOf] <;> omega
      · exact absurd (List.length_replicate ..) hl7
    · obtain rfl : k = n := by omega
      rename World => wv
      have HCP := Lib.hid (copyBytes_any _ _ wv (HV.out.ext hst.gr) (by omega))
      have HST := Lib.hid hst
      have HVV := Lib.hid (HV.out.ext hst.gr)
      obtain ⟨F, hF⟩ : ∃ F : Bool, F = decide (b.length = s ∧ 0 ≤ ix ∧ ix < k) := ⟨_, rfl⟩
      have HSET : Hid (∀ w2 v2, wv.grownBy w2 none → OwnB w2 wv.heap.size v2 b → Calls Try.prog 17 #[.pointer (some ⟨sb, 0, none⟩), .int .i64 ix, v2] w2 fun e w' => ∃ (er : Nat) (O3 : Own1), e = .returned (.int .i64 er) ∧ (F = true ↔ er = 0) ∧ er ≤ 9 ∧ ST w d p sb s O3 (leafL k s F ix.toNat b) (1 + 2 * k + 2) w' ∧ wv.heap.size ≤ w'.heap.size ∧ RdB w' (.slice Ab b.length cb) b) := fun w2 v2 g2 o2 => by
        refine ((hst.ext g2).set (by omega) (by rw [List.length_replicate]; omega) hix (Own.rd o2) (fun q e => ⟨(Own.blk_lt o2 (by omega) e).2, hst.pf.fresh (Own.blk_lt o2 (by omega) e).1⟩) (by omega)).mono ?_
        have hgr := hst.gr
        have hold : ∀ {O3 : Own1} {l' : List (List UInt8)} {w3 : World}, ST w d p sb s O3 l' (1 + 2 * k + 2) w3 → RdB w3 (.slice Ab b.length cb) b := fun h3 => HV.out.ext h3.gr
        rintro e w3 (⟨hf, rfl, O3, st3, ch3⟩ | ⟨hf, ⟨er, h0, h9, rfl⟩, O3, st3, ch3⟩)
        · rw [List.length_replicate] at hf
          have hF1 : F = true := by rw [hF]; exact decide_eq_true hf
          refine ⟨0, O3, rfl, ⟨fun _ => rfl, fun _ => hF1⟩, by omega, ?_, Nat.le_trans g2.size ch3.size, hold st3⟩
          rw [hF1]
          exact st3
        · rw [List.length_replicate] at hf
          have hF1 : F = false := by rw [hF]; exact decide_eq_false hf
          refine ⟨er, O3, rfl, ⟨fun e => (by rw [hF1] at e; cases e), fun e => absurd e h0⟩, h9, ?_, Nat.le_trans g2.size ch3.size, hold st3⟩
          rw [hF1]
          exact st3
      have hs1 : 0 < s := hsb.1
      have HF := Lib.hid hF
      clear hst hF hlt hk
      go_wp2_with fail
      refine HCP.out.mono ?_
      rintro e w2 ⟨v2, rfl, o2, g2⟩
      have HST2 := Lib.hid (HSET.out w2 v2 g2 o2)
      clear o2 g2 HCP HSET
      rename World => wc
      go_wp2_with fail
      refine HST2.out.mono ?_
      rintro e w3 ⟨er, O3, rfl, hfe, her, st3, hz3, hv3⟩
      have ST3 := Lib.hid st3
      have HFE := Lib.hid hfe
      have HV3 := Lib.hid hv3
      have HZ3 := Lib.hid hz3
      clear hfe st3 hv3 hz3 HST2
      have hfe := HFE.out
      rw [HF.out, decide_eq_true_iff] at hfe
      have HFF := Lib.hid hfe
      clear hfe
      go_wp2_with fail
      all_goals first
        | (exfalso
           rename_i a1 a2 a3
           have h1 := HFF.out
           first
             | (have e1 : ((er : Int) == 0) = decide (ix < (k : Int)) := by
                  by_cases e0 : er = 0
                  · obtain ⟨q1, q2, q3⟩ := h1.mpr e0
                    rw [decide_eq_true q3, e0]; rfl
                  · have q5 : ((er : Int) == 0) = false := by rw [beq_eq_false_iff_ne]; omega
                    rw [q5]
                    exact (decide_eq_false fun hl => e0 (h1.mp ⟨by omega, by omega, hl⟩)).symm
                rw [e1, beq_self_eq_true] at a3
                exact Bool.noConfusion a3)
             | (have e0 : er = 0 := by simpa using a2
                obtain ⟨q1, q2, q3⟩ := h1.mpr e0
                omega)
             | (have e0 : er = 0 := by simpa using a3
                obtain ⟨q1, q2, q3⟩ := h1.mpr e0
                omega))
        | skip
      all_goals
        have hFr : F = decide (b.length = s ∧ 0 ≤ ix ∧ ix < k) := HF.out
        first
          | (rw [show decide (ix < (k : Int)) = F from by
               rw [hFr]
               by_cases hl : ix < k
               · rw [decide_eq_true hl, decide_eq_true]
                 refine ⟨?_, ?_, hl⟩ <;> omega
               · rw [decide_eq_false hl, decide_eq_false]
                 exact fun h => hl h.2.2])
          | (have hF0 : F = false := by
               rw [hFr, decide_eq_false]
               omega
             rw [← hF0])
        clear hFr
      all_goals
        obtain ⟨l, hl⟩ : ∃ l, l = leafL k s F ix.toNat b := ⟨_, rfl⟩
        have hbs : F = true → b.length = s ∧ 0 ≤ ix ∧ ix < k := fun e => by rw [HF.out] at e; exact of_decide_eq_true e
        have hbi : F = true → ix.toNat < k := fun e => by have := hbs e; omega
        have hm1 : 1 + 2 * k + 2 ≤ 9000 := by omega
        have hk5 : k ≤ 100000 := by omega
        have hll : l.length = k := by rw [hl]; exact leaf_len _ _ _ _ _
        obtain ⟨N, hN⟩ : ∃ N, (chk (240 / s * s) l.flatten).length = N := ⟨_, rfl⟩
        have hst : ST w d p sb s O3 l (1 + 2 * k + 2) w3 := by rw [hl]; exact ST3.out
        have hcp := chk_pages hsb.1 hsb.2 hst.rows
        rw [hN, hll] at hcp
        have HPG : Hid (Calls Try.prog 10 #[.pointer (some ⟨p, 0, none⟩), .string ⟨sn.toArray⟩] w3 fun e w' => e = .returned (.tuple #[.int .i64 N, .int .i64 0]) ∧ w3.grownBy w' none) := by rw [← hN]; exact hst.pages w3 (gr_refl _ _)
        have HLN : Hid (∀ wx, w3.grownBy wx none → Calls Try.prog 15 #[.pointer (some ⟨sb, 0, none⟩)] wx fun e w' => e = .returned (.tuple #[.int .i64 k, .int .i64 0]) ∧ ∃ O4, ST w d p sb s O4 l (1 + 2 * k + 2 + 1) w') := fun wx g => by
          have h9 := (hst.ext g).len hm1 (by rw [hll]; exact hk5)
          rw [hll] at h9
          exact h9.mono fun e w' ⟨h1, O4, h2, _⟩ => ⟨h1, O4, h2⟩
        obtain ⟨per, hper, p1, p2, p3, hpi, hw1, hq2, hNb, hperb, hdv, hd0⟩ := shapeN hsb (Nat.le_trans HNB.out (by decide)) hcp
        have HRD : Hid (∀ wx g m', g < N → m' ≤ 9000 → ∀ O', ST w d p sb s O' l m' wx → Calls Try.prog 11 #[.pointer (some ⟨p, 0, none⟩), .string ⟨sn.toArray⟩, .int .i64 g] wx fun e w' =>
            ∃ v, e = .returned (.tuple #[v, .int .i64 0]) ∧ OwnB w' wx.heap.size v ((chk (240 / s * s) l.flatten).getD g []) ∧ wx.heap.size ≤ w'.heap.size ∧ StR w' w.heap.size p sb sn s ∧ STn w d p sb s O' l (m' + 1) wx w') := fun wx g m' hk hm' O' h =>
          h.read hm' (by rw [hN]; exact hk) (Nat.le_trans (Nat.le_of_lt hk) (Nat.le_trans hNb (by decide))) wx (gr_refl _ _)
        have HBY : Hid (∀ g q, g < N → q < ((chk (240 / s * s) l.flatten).getD g []).length → ((chk (240 / s * s) l.flatten).getD g []).getD q 0 = if F = true ∧ g * per + q / s = ix.toNat then b.getD (q % s) 0 else 0) := fun g q hg hq => by
          rw [hper] at hN hq ⊢
          rw [hl] at hN hq ⊢
          exact leaf_page hsb.1 p1 (fun e => (hbs e).1) hbi hN hg hq
        have HLE : Hid (∀ g, g < N → ((chk (240 / s * s) l.flatten).getD g []).length ≤ 240) := fun g hg => by
          have := (pageL (c := 240 / s * s) (by rw [hper]; exact p2) l.flatten hN hg).2.1
          rw [hper] at this ⊢
          exact Nat.le_trans this p3
        have HPI := Lib.hid hpi
        have HPB := Lib.hid hperb
        have HW1 := Lib.hid hw1
        have HBS := Lib.hid hbs
        obtain ⟨P, hP⟩ : ∃ P, P = chk (240 / s * s) l.flatten := ⟨_, rfl⟩
        rw [← hP] at HBY HLE HRD
        have hz2 : ¬ s = 0 := Nat.ne_of_gt hsb.1
        have hd1 := hd0
        clear hst hl hll hbs hbi hm1 hk5 hN hcp hper p2 p3 hpi hq2 hperb hdv hP ST3 HFE HFF hw1
        clear hd0
        go_wp2_with fail
        refine HPG.out.mono ?_
        rintro e w4 ⟨rfl, g4⟩
        have HLN4 := Lib.hid (HLN.out w4 g4)
        clear g4 HPG HLN
        rename World => wd
        go_wp2_with fail
        refine HLN4.out.mono ?_
        rintro e w5 ⟨rfl, O4, st4⟩
        have ST4 := Lib.hid st4
        clear st4 HLN4
        rename World => wp
        go_wp2_with fail
        clear hd1
        rw [HPI.out]
        go_loopw [22, 23, 24, 25, 26, 27] (fun gv _ _ _ _ _ wx => ∃ (g : Nat) (O' : Own1), g ≤ N ∧ gv = .int .i64 g ∧ ST w d p sb s O' l (1 + 2 * k + 2 + 1 + g) wx) (fun gv _ _ _ _ _ _ => N - (intOf gv).toNat)
        case atStart => exact ⟨0, O4, Nat.zero_le _, rfl, ST4.out⟩
        case round =>
          obtain ⟨g, O', hg, rfl, hst⟩ := hrel
          by_cases hgN : g < N
          · rename World => wx
            have HR := Lib.hid (HRD.out wx g (1 + 2 * k + 2 + 1 + g) hgN (by omega) O' hst)
            have hle := HLE.out g hgN
            obtain ⟨xs, hxs⟩ : ∃ xs, xs = P.getD g [] := ⟨_, rfl⟩
            have HBQ : Hid (∀ q, q < xs.length → xs.getD q 0 = if F = true ∧ g * per + q / s = ix.toNat then b.getD (q % s) 0 else 0) := fun q hq => by
              rw [hxs] at hq ⊢
              exact HBY.out g q hgN hq
            rw [← hxs] at hle
            have HRR : Hid (Calls Try.prog 11 #[.pointer (some ⟨p, 0, none⟩), .string ⟨sn.toArray⟩, .int .i64 g] wx fun e w' =>
                ∃ v, e = .returned (.tuple #[v, .int .i64 0]) ∧ OwnB w' wx.heap.size v xs ∧ wx.heap.size ≤ w'.heap.size ∧ StR w' w.heap.size p sb sn s ∧ STn w d p sb s O' l (1 + 2 * k + 2 + 1 + g + 1) wx w') := by rw [hxs]; exact HR.out
            clear hst hxs HR
            go_wp2_with fail
            refine HRR.out.mono ?_
            rintro e w6 ⟨v6, rfl, o6, hz6, -, O6, st6, ch6⟩
            obtain ⟨A6, c6, hv6⟩ := RdB.form (Own.rd o6)
            subst hv6
            have HX6 : Hid (RdB w6 (.slice A6 xs.length c6) xs) := Own.rd o6
            have HB6 := Lib.hid (HV.out.ext st6.gr)
            have ST6 := Lib.hid st6
            clear o6 hz6 st6 ch6 HRR
            rename World => wy
            go_wp2_with fail
            go_loopw [25, 26, 27] (fun qv _ _ wx => ∃ q : Nat, q ≤ xs.length ∧ qv = .int .i64 q ∧ wx = wy) (fun qv _ _ _ => xs.length - (intOf qv).toNat)
            case atStart => exact ⟨0, Nat.zero_le _, rfl, rfl⟩
            case round =>
              obtain ⟨q, hq, rfl, rfl⟩ := hrel
              by_cases hqx : q < xs.length
              · obtain ⟨gp, hgp⟩ : ∃ gp, gp = g * per := ⟨_, rfl⟩
                obtain ⟨qs, hqs⟩ : ∃ qs, qs = q / s := ⟨_, rfl⟩
                obtain ⟨qm, hqm⟩ : ∃ qm, qm = q % s := ⟨_, rfl⟩
                have hwant := HBQ.out q hqx
                rw [← hgp, ← hqs, ← hqm] at hwant
                have b1 : gp ≤ 1000 * 240 := by rw [hgp]; exact Nat.mul_le_mul (by omega) HPB.out
                have b2 : qs ≤ 240 := by rw [hqs]; exact Nat.le_trans (Nat.div_le_self _ _) (by omega)
                have b3 : qm < s := by rw [hqm]; exact Nat.mod_lt _ hsb.1
                have e1 : (g : Int) * (per : Int) = (gp : Int) := by rw [hgp]; exact (Int.natCast_mul _ _).symm
                have e2 : (q : Int) / (s : Int) = (qs : Int) := by rw [hqs]; exact (Int.natCast_ediv _ _).symm
                have e3 : (q : Int) % (s : Int) = (qm : Int) := by rw [hqm]; exact (Int.natCast_emod _ _).symm
                obtain ⟨gx, ox, hAx, -, -, hcx⟩ := RdB.at_ HX6.out
                obtain rfl := hAx (by omega)
                have hcq := hcx q hqx
                have hgd : xs.getD q 0 = xs[q] := by rw [List.getD_eq_getElem?_getD, List.getElem?_eq_getElem hqx]; rfl
                rw [hgd] at hwant
                have hsz : ¬ (s : Int) = 0 := by omega
                clear hgp hqs hqm hcx
                by_cases hc : F = true ∧ gp + qs = ix.toNat
                · rw [if_pos hc] at hwant
                  obtain ⟨hc1, hc2⟩ := hc
                  obtain ⟨f1, f2, f3⟩ := HBS.out hc1
                  have hc3 : ((gp : Int) + (qs : Int) == ix) = true := by rw [beq_iff_eq]; omega
                  obtain ⟨gb, ob, hAb, -, -, hcb⟩ := RdB.at_ HB6.out
                  obtain rfl := hAb (by omega)
                  have hcq2 := hcb qm (by omega)
                  have hbd : b.getD qm 0 = b[qm] := by rw [List.getD_eq_getElem?_getD, List.getElem?_eq_getElem (by omega)]; rfl
                  rw [hbd] at hwant
                  rw [hwant] at hcq
                  clear hcb hgd hbd hwant
                  first
                    | (exfalso; rw [hF0] at hc1; exact Bool.noConfusion hc1)
                    | (go_wp2_with fail
                       go_roundw
                       case rel => (refine ⟨q + 1, by omega, ?_⟩; first | exact ⟨by go_num, trivial⟩ | exact ⟨by go_num, rfl⟩ | go_num | omega)
                       case measure => simp [intOf] <;> omega)
                · rw [if_neg hc] at hwant
                  rw [hwant] at hcq
                  clear hgd hwant
                  by_cases hF1 : F = true
                  · first
                      | (exfalso; rw [hF0] at hF1; exact Bool.noConfusion hF1)
                      | (have hc3 : ((gp : Int) + (qs : Int) == ix) = false := by
                           rw [beq_eq_false_iff_ne]
                           have := (HBS.out hF1).2.1
                           exact fun h => hc ⟨hF1, by omega⟩
                         go_wp2_with fail
                         go_roundw
                         case rel => (refine ⟨q + 1, by omega, ?_⟩; first | exact ⟨by go_num, trivial⟩ | exact ⟨by go_num, rfl⟩ | go_num | omega)
                         case measure => simp [intOf] <;> omega)
                  · go_wp2_with fail
                    go_roundw
                    case rel => (refine ⟨q + 1, by omega, ?_⟩; first | exact ⟨by go_num, trivial⟩ | exact ⟨by go_num, rfl⟩ | go_num | omega)
                    case measure => simp [intOf] <;> omega
              · go_wp2_with fail
                go_roundw
                case rel => exact ⟨g + 1, O6, by omega, by go_num, ST6.out⟩
                case measure => simp [intOf] <;> omega
          · have HGR := Lib.hid hst.gr
            clear hst
            rename World => wz
            have HWK := Lib.hid (works11_any wz)
            go_wp2_with fail
            refine HWK.out.mono ?_
            rintro e w9 ⟨rfl, g9⟩
            have G9 := Lib.hid g9
            clear g9 HWK
            go_wp2_with fail
            go_ret
            exact ⟨rfl, gr_none HGR.out G9.out⟩
end Go.Proofs.Ytkfokgjpeaibpaa

/- What is done with a stream, in memory; vast of law11. -/
namespace Go.Proofs.Ytkfokgjpeaibpaa
open Go.RowKit
set_option maxRecDepth 100000
set_option maxHeartbeats 400000

structure OpT where
  kind : Int
  i : Int
  bv : Value
  b : List UInt8
def OpT.cells (o : OpT) : List Value := [.int .i64 o.kind, .int .i64 o.i, o.bv]
structure OpTk (w : World) (o : OpT) : Prop where
  b : RdB w o.bv o.b
  kind : -9223372036854775808 ≤ o.kind ∧ o.kind ≤ 9223372036854775807
  i : -9223372036854775808 ≤ o.i ∧ o.i ≤ 9223372036854775807
def opT (l : List OpT) : List Value := l.flatMap OpT.cells
def RdT (w : World) (v : Value) (l : List OpT) : Prop := Rd w 3 v l.length (opT l) ∧ ∀ o ∈ l, OpTk w o
theorem opT_at (l : List OpT) {k j : Nat} (hk : k < l.length) (hj : j < 3) : (opT l)[k * 3 + j]? = (l[k].cells)[j]? := by
  induction l generalizing k with
  | nil => simp at hk
  | cons r l ih =>
    have hl : r.cells.length = 3 := rfl
    unfold opT at *
    rw [List.flatMap_cons]
    cases k with
    | zero =>
      rw [List.getElem?_append_left (by omega)]
      simp
    | succ k =>
      rw [List.getElem?_append_right (by omega), hl, show (k + 1) * 3 + j - 3 = k * 3 + j from by omega]
      exact ih (by simpa using hk)
theorem OpTk.ext {w w' : World} {o : OpT} (h : OpTk w o) (g : w.grownBy w' none) : OpTk w' o := { h with b := h.b.ext g }
theorem RdT.ext {w w' : World} {v : Value} {l : List OpT} (h : RdT w v l) (g : w.grownBy w' none) : RdT w' v l := ⟨Rd.ext h.1 g, fun o ho => (h.2 o ho).ext g⟩
theorem RdT.form {w : World} {v : Value} {l : List OpT} (h : RdT w v l) : ∃ A c, v = .slice A l.length c := by
  obtain ⟨⟨_, A, c, _, _, e, _⟩, _⟩ := h; exact ⟨A, c, e⟩
theorem RdT.at_ {w : World} {A : Option Addr} {c : Nat} {l : List OpT} (h : RdT w (.slice A l.length c) l) : ∃ g off, (0 < l.length → A = some ⟨g, off, none⟩) ∧ l.length ≤ c ∧ c ≤ maxLen ∧ ∀ k (hk : k < l.length) j, j < 3 → w.cell? ⟨g, off + k * 3 + j, none⟩ = (l[k].cells)[j]? := by
  obtain ⟨⟨hl, A', c', g, off, e, hn, hc, hA0, hA, hx⟩, _⟩ := h
  cases e
  refine ⟨g, off, fun h0 => hA (by omega), hn, hc, fun k hk j hj => ?_⟩
  rw [Nat.add_assoc, hx _ (by omega), opT_at l hk hj]
def opTW (o : OpT) : Nat := min o.b.length 131072
def sumT (l : List OpT) : Nat := (l.map opTW).sum
def vastT (f : Int) (l : List OpT) : Bool := (decide (120 < l.length) || decide (64 < f)) || decide (65536 < sumT l)
theorem sumT_take {l : List OpT} {k : Nat} (hk : k < l.length) : sumT (l.take (k + 1)) = sumT (l.take k) + opTW l[k] := by
  unfold sumT
  rw [List.take_succ_eq_append_getElem hk, List.map_append, List.sum_append]
  simp
theorem sumT_mono (l : List OpT) (k : Nat) : sumT (l.take k) ≤ sumT l := by
  have e : l = l.take k ++ l.drop k := (List.take_append_drop k l).symm
  conv => rhs; rw [e]
  unfold sumT
  rw [List.map_append, List.sum_append]
  omega
theorem vastT_no {f : Int} {l : List OpT} (h : vastT f l = false) : l.length ≤ 120 ∧ f ≤ 64 ∧ sumT l ≤ 65536 := by
  unfold vastT at h
  simp at h
  omega
theorem opTW_le {l : List OpT} (o : OpT) (ho : o ∈ l) : opTW o ≤ sumT l := by
  obtain ⟨k, hk, rfl⟩ := List.getElem_of_mem ho
  have := sumT_take hk
  have := sumT_mono l (k + 1)
  omega
theorem opTW_small {o : OpT} (h : opTW o ≤ 65536) : o.b.length ≤ 65536 := by
  unfold opTW at h
  omega
set_option maxHeartbeats 2000000 in
theorem vastT_any (f : Int) (v : Value) (l : List OpT) (w : World) (h : RdT w v l) :
    Calls Try.prog 29 #[.int .i64 f, v] w fun e w' => e = .returned (.bool (vastT f l)) ∧ w = w' := by
  obtain ⟨A, c, rfl⟩ := h.form
  obtain ⟨g, off, hA, hcap, hmx, hcells⟩ := h.at_
  have HA := Lib.hid hA
  have HC := Lib.hid hcells
  have HOK := Lib.hid h.2
  clear hA hcells h
  by_cases hbig : 120 < l.length
  · have hv : Hid (vastT f l = true) := by show _ = _; unfold vastT; simp [hbig]
    go_enter Try.func29, Try.ntmps29
    go_wp2
    go_ret
    exact ⟨by rw [hv.out]; rfl, rfl⟩
  by_cases hfr : 64 < f
  · have hv : Hid (vastT f l = true) := by show _ = _; unfold vastT; simp [hfr]
    go_enter Try.func29, Try.ntmps29
    go_wp2
    go_ret
    exact ⟨by rw [hv.out]; rfl, rfl⟩
  · have hl : l.length ≤ 120 := by omega
    have hf2 : f ≤ 64 := by omega
    have HF2 := Lib.hid hf2
    clear hbig
    go_enter Try.func29, Try.ntmps29
    go_wp2
    go_loopw [5, 6] (fun s i wr => ∃ k : Nat, k ≤ l.length ∧ i = .int .i64 k ∧ (∃ m : Nat, s = .int .i64 m ∧ Hid (m = sumT (l.take k)) ∧ m ≤ 65536) ∧ wr = w) (fun _ i _ => l.length - (intOf i).toNat)
    case atStart => exact ⟨0, by omega, rfl, ⟨0, rfl, rfl, by omega⟩, rfl⟩
    case round =>
      obtain ⟨k, hk, rfl, ⟨m, rfl, hm, hm2⟩, rfl⟩ := hrel
      by_cases hlt : k < l.length
      · obtain rfl := HA.out (by omega)
        have hc := HC.out k hlt
        have hok := HOK.out l[k] (List.getElem_mem hlt)
        have hsum := sumT_take hlt
        rcases hx : l[k] with ⟨kind, i1, bv, b⟩
        rw [hx] at hc hok hsum
        obtain ⟨Ab, cb, rfl⟩ : ∃ Ab cb, bv = .slice Ab b.length cb := hok.b.form
        have c2 : wr.cell? ⟨g, off + k * 3 + 2, none⟩ = some (.slice Ab b.length cb) := hc 2 (by omega)
        have hbr : RdB wr (.slice Ab b.length cb) b := hok.b
        have hbc : b.length ≤ maxLen := by obtain ⟨_, _, _, _, _, e, h1, h2, _⟩ := hbr; cases e; omega
        obtain ⟨x1, e1⟩ : ∃ x1 : Nat, x1 = min b.length 131072 := ⟨_, rfl⟩
        have m1 : min (b.length : Int) 131072 = (x1 : Int) := by omega
        have b1 : x1 ≤ 131072 := by omega
        have hopw : opTW ⟨kind, i1, .slice Ab b.length cb, b⟩ = x1 := by unfold opTW; dsimp only; omega
        rw [hopw] at hsum
        obtain ⟨t, ht⟩ : ∃ t : Nat, t = m + x1 := ⟨_, rfl⟩
        have HT : Hid (t = sumT (l.take (k + 1))) := by show _ = _; rw [hsum, ht, hm.out]
        have ht2 : (m : Int) + (x1 : Int) = (t : Int) := by omega
        have htb : t ≤ 600000 := by omega
        clear hbr hc hok hsum hx e1 hopw ht
        by_cases hov : 65536 < t
        · have hv : Hid (vastT f l = true) := by
            show _ = _
            unfold vastT
            have := sumT_mono l (k + 1)
            rw [← HT.out] at this
            simp; omega
          go_wp2_with fail
          go_ret
          exact ⟨by rw [hv.out]; rfl, rfl⟩
        · have ht3 : t ≤ 65536 := by omega
          go_wp2_with fail
          go_roundw
          case rel => exact ⟨k + 1, by omega, by go_num, ⟨t, rfl, HT.out, ht3⟩, trivial⟩
          case measure => simp [intOf]; omega
      · obtain rfl : k = l.length := by omega
        have hv : Hid (vastT f l = false) := by
          show _ = _
          have := hm.out
          rw [List.take_length] at this
          unfold vastT
          simp; omega
        go_wp2
        go_ret
        exact ⟨by rw [hv.out]; rfl, rfl⟩
end Go.Proofs.Ytkfokgjpeaibpaa

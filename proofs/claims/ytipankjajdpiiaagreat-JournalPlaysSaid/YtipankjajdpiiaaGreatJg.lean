/-
  journal's Open on any disk (printed by wip/tools/gen_jg.py).
-/
import Derived.Test.YtipankjajdpiiaaGreatJ6
namespace Go.Proofs.YtipankjajdpiiaaGreat
open Go.RowKit
set_option maxRecDepth 100000
set_option maxHeartbeats 400000

def Dk.jsync (S : Dk) (l : List Rc) : Dk × Option (List Rc) × Nat := if (S.sync jn).2 = 0 then ((S.sync jn).1, some l, 0) else ((S.sync jn).1, none, (S.sync jn).2)
def Dk.jcut (S : Dk) (n : Nat) (l : List Rc) : Dk × Option (List Rc) × Nat :=
  if 64 * l.length < n then (if (S.cut jn ((64 * l.length : Nat) : Int)).2 = 0 then (S.cut jn ((64 * l.length : Nat) : Int)).1.jsync l else ((S.cut jn ((64 * l.length : Nat) : Int)).1, none, (S.cut jn ((64 * l.length : Nat) : Int)).2)) else S.jsync l
def Dk.jrest (S : Dk) (n : Nat) : Dk × Option (List Rc) × Nat := if (S.read jn 0 (n : Int)).2 = 0 then S.jcut n (readJ (S.read jn 0 (n : Int)).1) else (S, none, (S.read jn 0 (n : Int)).2)
/-- Open of the journal: the disk, the records, what is told. -/
def Dk.jopen (S : Dk) : Dk × Option (List Rc) × Nat :=
  if (S.size jn).2 = 3 then (if (S.create jn).2 = 0 then (S.create jn).1.jrest 0 else ((S.create jn).1, none, (S.create jn).2)) else
  if (S.size jn).2 = 0 then S.jrest (S.size jn).1 else (S, none, (S.size jn).2)
section
variable {w w' : World} {B d jb : Nat} {o o' : Own1} {S : Dk} {c : Con} {v : Value} {l : List Rc}
theorem size_le (h : DI w B o d S c) (n : List UInt8) : (S.size n).1 ≤ 16777216 ∧ ((S.size n).2 = 3 → (S.size n).1 = 0) := by
  unfold Dk.size
  split
  · exact ⟨Nat.zero_le _, fun _ => rfl⟩
  · split
    · exact ⟨Nat.zero_le _, fun _ => rfl⟩
    · cases hf : S.find n with
      | none => exact ⟨Nat.zero_le _, fun _ => rfl⟩
      | some f => exact ⟨(h.file f (find_some hf).1).small.2.1, fun e => by cases e⟩
theorem read_le (h : DI w B o d S c) (n : List UInt8) (k j : Int) : (S.read n k j).1.length ≤ 16777216 := by
  unfold Dk.read
  split
  · exact Nat.zero_le _
  · split
    · exact Nat.zero_le _
    · cases hf : S.find n with
      | none => exact Nat.zero_le _
      | some f =>
        have := (h.file f (find_some hf).1).small.2.1
        show ((f.now.drop _).take _).length ≤ _
        rw [List.length_take, List.length_drop]; omega
def JOpenOut (o : Own1) (w : World) (B d : Nat) (X : Dk × Option (List Rc) × Nat) (e : Ending) (w' : World) : Prop :=
  ∃ o' c', DI w' B o' d X.1 c' ∧ Ch o w o' w' ∧ ((X.2.1 = none ∧ e = .returned (.tuple #[.pointer none, .int .i64 X.2.2])) ∨ (∃ l jb v, X.2.1 = some l ∧ X.2.2 = 0 ∧ e = .returned (.tuple #[.pointer (some ⟨jb, 0, none⟩), .int .i64 0]) ∧ JR w' w.heap.size o' jb d v l))
theorem JR.low {B' : Nat} (h : JR w B o jb d v l) (hB : B' ≤ B) : JR w B' o jb d v l := ⟨h.box, Own.mono h.own hB, h.free, Nat.le_trans hB h.jB, h.sep⟩
set_option maxHeartbeats 4000000 in
theorem jopen_gen (h : DI w B o d S c) (hfl : S.fs.length ≤ 1000000) : Calls Tryz.prog 22 #[.pointer (some ⟨d, 0, none⟩)] w (JOpenOut o w B d S.jopen) := by
  have hs := size_any h jn (by simp)
  have hsl := size_le h jn
  have hcr := fun wx (g : w.grownBy wx none) => create_any (h.ext g) jn (by simp) hfl
  have hX : S.jopen = if (S.size jn).2 = 3 then (if (S.create jn).2 = 0 then (S.create jn).1.jrest 0 else ((S.create jn).1, none, (S.create jn).2)) else if (S.size jn).2 = 0 then S.jrest (S.size jn).1 else (S, none, (S.size jn).2) := rfl
  obtain ⟨n, hn⟩ : ∃ n, n = (S.size jn).1 := ⟨_, rfl⟩
  obtain ⟨es, hes⟩ : ∃ es, es = (S.size jn).2 := ⟨_, rfl⟩
  obtain ⟨S1, hS1⟩ : ∃ S1, S1 = (S.create jn).1 := ⟨_, rfl⟩
  obtain ⟨ec, hec⟩ : ∃ ec, ec = (S.create jn).2 := ⟨_, rfl⟩
  rw [← hn, ← hes] at hs hX hsl
  rw [← hS1, ← hec] at hX hcr
  have hn1 := hsl.1
  have HS := Lib.hid hs
  have HCR := Lib.hid hcr
  have HX := Lib.hid hX
  have H := Lib.hid h
  have HN0 := Lib.hid hsl.2
  have hfree : Hid (∀ k, w.heap.size ≤ k → o k = none) := fun k hk => by
    cases e : o k with
    | none => rfl
    | some t => exact absurd (H.out.inb k (by rw [e]; simp)).2 (by omega)
  clear h hs hcr hX hn hes hS1 hec hsl
  go_enter Tryz.func22, Tryz.ntmps22
  go_wp2_with fail
  refine HS.out.mono ?_
  rintro e w1 ⟨rfl, g1⟩
  have G1 := Lib.hid g1
  clear g1
  by_cases h3 : es = 3
  · have h3e : ((es : Int) == 3) = true := by rw [h3]; rfl
    have HN : Hid (n = 0) := HN0.out h3
    by_cases hc0 : ec = 0
    · have HJ : Hid (S.jopen = S1.jrest n) := by show _ = _; rw [HX.out, if_pos h3, if_pos hc0, HN.out]
      have hc0e : ((ec : Int) == 0) = true := by rw [hc0]; rfl
      clear h3 hc0
      go_wp2_with fail
      refine (HCR.out _ G1.out).mono ?_
      rintro e wc ⟨rfl, oc, cc, hdc, hcc⟩
      have HD := Lib.hid hdc
      have HC : Hid (Ch o w oc wc) := (Ch.ext G1.out).trans hcc
      clear hdc hcc
      have hrd := read_any HD.out jn (by simp) 0 (n : Int) (by omega) (by omega)
      have hrl := read_le HD.out jn 0 (n : Int)
      have hY : S1.jrest n = if (S1.read jn 0 (n : Int)).2 = 0 then S1.jcut n (readJ (S1.read jn 0 (n : Int)).1) else (S1, none, (S1.read jn 0 (n : Int)).2) := rfl
      obtain ⟨rb, hrb⟩ : ∃ rb, rb = (S1.read jn 0 (n : Int)).1 := ⟨_, rfl⟩
      obtain ⟨er, her⟩ : ∃ er, er = (S1.read jn 0 (n : Int)).2 := ⟨_, rfl⟩
      rw [← hrb, ← her] at hrd hY
      rw [← hrb] at hrl
      have HRD := Lib.hid hrd
      have HY := Lib.hid hY
      have HSZ := Lib.hid HC.out.size
      clear hrd hY hrb her
      go_wp2_with fail
      refine HRD.out.mono ?_
      rintro e w2 ⟨⟨v2, rfl, o2⟩, g2⟩
      have G2 := Lib.hid g2
      have HO2 := Lib.hid o2
      clear o2 g2
      by_cases hr0 : er = 0
      · have hr0e : ((er : Int) == 0) = true := by rw [hr0]; rfl
        have HY2 : Hid (S.jopen = S1.jcut n (readJ rb)) := by show _ = _; rw [HJ.out, HY.out, if_pos hr0]
        obtain ⟨l, hl⟩ : ∃ l, l = readJ rb := ⟨_, rfl⟩
        have hlr : 64 * l.length ≤ 16777216 := by rw [hl]; exact Nat.le_trans (readJ_le rb) hrl
        rw [← hl] at HY2
        have HL := Lib.hid hl
        clear hl hr0
        go_wp2_with fail
        refine (jread_any v2 rb _ HO2.out.rd (by omega)).mono ?_
        rintro e w3 ⟨⟨v3, rfl, o3⟩, g3⟩
        rw [← HL.out] at o3
        have G3 := Lib.hid (gr_none G2.out g3)
        obtain ⟨A3, c3, rfl⟩ := o3.rd.form
        have HO3B := Lib.hid (Own.mono o3 G2.out.size)
        clear o3 g3
        have HBX := Lib.hid (Blk.new w3 87 #[.pointer (some ⟨d, 0, none⟩), .slice A3 l.length c3])
        have GA := Lib.hid (gr_none G3.out (gr_alloc w3 (.cells #[.pointer (some ⟨d, 0, none⟩), .slice A3 l.length c3] 87) none))
        have hfr2 : Hid (∀ k, wc.heap.size ≤ k → oc k = none) := fun k hk => by
          cases e : oc k with
          | none => rfl
          | some t => exact absurd (HD.out.inb k (by rw [e]; simp)).2 (by omega)
        have HJR : Hid (JR (w3.alloc (.cells #[.pointer (some ⟨d, 0, none⟩), .slice A3 l.length c3] 87)) wc.heap.size oc w3.heap.size d (.slice A3 l.length c3) l) :=
          ⟨HBX.out, (Own.mono HO3B.out (Nat.le_refl _)).alloc _, ⟨hfr2.out _ G3.out.size, fun k hk => hfr2.out k (Own.blk_lt HO3B.out (by omega) hk).1⟩, G3.out.size, fun k hk => Nat.ne_of_lt (Own.blk_lt HO3B.out (by omega) hk).2⟩
        have HDA := Lib.hid (HD.out.ext GA.out)
        have HCA : Hid (Ch o w oc (w3.alloc (.cells #[.pointer (some ⟨d, 0, none⟩), .slice A3 l.length c3] 87))) := HC.out.trans (Ch.ext GA.out)
        clear hfr2
        have hZ : S1.jcut n l = if 64 * l.length < n then (if (S1.cut jn ((64 * l.length : Nat) : Int)).2 = 0 then (S1.cut jn ((64 * l.length : Nat) : Int)).1.jsync l else ((S1.cut jn ((64 * l.length : Nat) : Int)).1, none, (S1.cut jn ((64 * l.length : Nat) : Int)).2)) else S1.jsync l := rfl
        by_cases hlt : 64 * l.length < n
        · have hlti : (l.length : Int) * 64 < (n : Int) := by omega
          have hcu := cut_any HDA.out jn (by simp) ((64 * l.length : Nat) : Int) (by omega)
          obtain ⟨S2, hS2⟩ : ∃ S2, S2 = (S1.cut jn ((64 * l.length : Nat) : Int)).1 := ⟨_, rfl⟩
          obtain ⟨e2, he2⟩ : ∃ e2, e2 = (S1.cut jn ((64 * l.length : Nat) : Int)).2 := ⟨_, rfl⟩
          rw [if_pos hlt, ← hS2, ← he2] at hZ
          rw [← hS2, ← he2, show ((64 * l.length : Nat) : Int) = (l.length : Int) * 64 from by omega] at hcu
          have HCU := Lib.hid hcu
          have HZ := Lib.hid hZ
          clear hcu hZ hS2 he2 hlt
          go_wp2_with fail
          refine HCU.out.mono ?_
          rintro e w4 ⟨rfl, o4, c4, h4, ch4⟩
          have H4 := Lib.hid h4
          have C4 : Hid (Ch o w o4 w4) := HCA.out.trans ch4
          have HJR4 := Lib.hid (HJR.out.ch ch4)
          clear h4 ch4
          by_cases hz : e2 = 0
          · have hze : ((e2 : Int) == 0) = true := by rw [hz]; rfl
            have HZ2 : Hid (S.jopen = S2.jsync l) := by show _ = _; rw [HY2.out, HZ.out, if_pos hz]
            clear hz
            have hsy := sync_any H4.out jn (by simp)
            have hU : S2.jsync l = if (S2.sync jn).2 = 0 then ((S2.sync jn).1, some l, 0) else ((S2.sync jn).1, none, (S2.sync jn).2) := rfl
            obtain ⟨S5, hS5⟩ : ∃ S5, S5 = (S2.sync jn).1 := ⟨_, rfl⟩
            obtain ⟨e5, he5⟩ : ∃ e5, e5 = (S2.sync jn).2 := ⟨_, rfl⟩
            rw [← hS5, ← he5] at hsy hU
            have HSY := Lib.hid hsy
            have HU := Lib.hid hU
            clear hsy hU hS5 he5
            go_wp2_with fail
            refine HSY.out.mono ?_
            rintro e w5 ⟨rfl, o5, c5, h5, ch5⟩
            have H5 := Lib.hid h5
            have C5 : Hid (Ch o w o5 w5) := C4.out.trans ch5
            have HJR5 := Lib.hid (HJR4.out.ch ch5)
            clear h5 ch5
            by_cases hz5 : e5 = 0
            · have hz5e : ((e5 : Int) == 0) = true := by rw [hz5]; rfl
              have HU2 : Hid (S.jopen = (S5, some l, 0)) := by show _ = _; rw [HZ2.out, HU.out, if_pos hz5]
              clear hz5
              go_wp2_with fail
              go_ret2
              rw [HU2.out]
              exact ⟨o5, c5, H5.out, C5.out, .inr ⟨l, _, _, rfl, rfl, rfl, HJR5.out.low HSZ.out⟩⟩
            · have hz5e : ((e5 : Int) == 0) = false := by rw [beq_eq_false_iff_ne]; omega
              have HU2 : Hid (S.jopen = (S5, none, e5)) := by show _ = _; rw [HZ2.out, HU.out, if_neg hz5]
              clear hz5
              go_wp2_with fail
              go_ret2
              rw [HU2.out]
              exact ⟨o5, c5, H5.out, C5.out, .inl ⟨rfl, rfl⟩⟩
          · have hze : ((e2 : Int) == 0) = false := by rw [beq_eq_false_iff_ne]; omega
            have HZ2 : Hid (S.jopen = (S2, none, e2)) := by show _ = _; rw [HY2.out, HZ.out, if_neg hz]
            clear hz
            go_wp2_with fail
            go_ret2
            rw [HZ2.out]
            exact ⟨o4, c4, H4.out, C4.out, .inl ⟨rfl, rfl⟩⟩
        · have hlti : ¬ (l.length : Int) * 64 < (n : Int) := by omega
          have HZ2 : Hid (S.jopen = S1.jsync l) := by show _ = _; rw [HY2.out, hZ, if_neg hlt]
          clear hZ hlt
          have hsy := sync_any HDA.out jn (by simp)
          have hU : S1.jsync l = if (S1.sync jn).2 = 0 then ((S1.sync jn).1, some l, 0) else ((S1.sync jn).1, none, (S1.sync jn).2) := rfl
          obtain ⟨S5, hS5⟩ : ∃ S5, S5 = (S1.sync jn).1 := ⟨_, rfl⟩
          obtain ⟨e5, he5⟩ : ∃ e5, e5 = (S1.sync jn).2 := ⟨_, rfl⟩
          rw [← hS5, ← he5] at hsy hU
          have HSY := Lib.hid hsy
          have HU := Lib.hid hU
          clear hsy hU hS5 he5
          go_wp2_with fail
          refine HSY.out.mono ?_
          rintro e w5 ⟨rfl, o5, c5, h5, ch5⟩
          have H5 := Lib.hid h5
          have C5 : Hid (Ch o w o5 w5) := HCA.out.trans ch5
          have HJR5 := Lib.hid (HJR.out.ch ch5)
          clear h5 ch5
          by_cases hz5 : e5 = 0
          · have hz5e : ((e5 : Int) == 0) = true := by rw [hz5]; rfl
            have HU2 : Hid (S.jopen = (S5, some l, 0)) := by show _ = _; rw [HZ2.out, HU.out, if_pos hz5]
            clear hz5
            go_wp2_with fail
            go_ret2
            rw [HU2.out]
            exact ⟨o5, c5, H5.out, C5.out, .inr ⟨l, _, _, rfl, rfl, rfl, HJR5.out.low HSZ.out⟩⟩
          · have hz5e : ((e5 : Int) == 0) = false := by rw [beq_eq_false_iff_ne]; omega
            have HU2 : Hid (S.jopen = (S5, none, e5)) := by show _ = _; rw [HZ2.out, HU.out, if_neg hz5]
            clear hz5
            go_wp2_with fail
            go_ret2
            rw [HU2.out]
            exact ⟨o5, c5, H5.out, C5.out, .inl ⟨rfl, rfl⟩⟩
      · have hr0e : ((er : Int) == 0) = false := by rw [beq_eq_false_iff_ne]; omega
        have HY2 : Hid (S.jopen = (S1, none, er)) := by show _ = _; rw [HJ.out, HY.out, if_neg hr0]
        clear hr0
        go_wp2_with fail
        go_ret2
        rw [HY2.out]
        exact ⟨oc, cc, HD.out.ext G2.out, HC.out.trans (Ch.ext G2.out), .inl ⟨rfl, rfl⟩⟩
    · have HJ : Hid (S.jopen = (S1, none, ec)) := by show _ = _; rw [HX.out, if_pos h3, if_neg hc0]
      have hc0e : ((ec : Int) == 0) = false := by rw [beq_eq_false_iff_ne]; omega
      clear h3 hc0
      go_wp2_with fail
      refine (HCR.out _ G1.out).mono ?_
      rintro e wc ⟨rfl, oc, cc, hdc, hcc⟩
      have HD := Lib.hid hdc
      have HC : Hid (Ch o w oc wc) := (Ch.ext G1.out).trans hcc
      clear hdc hcc
      go_wp2_with fail
      go_ret2
      rw [HJ.out]
      exact ⟨oc, cc, HD.out, HC.out, .inl ⟨rfl, rfl⟩⟩
  · have h3e : ((es : Int) == 3) = false := by rw [beq_eq_false_iff_ne]; omega
    by_cases h0 : es = 0
    · have HJ : Hid (S.jopen = S.jrest n) := by show _ = _; rw [HX.out, if_neg h3, if_pos h0]
      have h0e : ((es : Int) == 0) = true := by rw [h0]; rfl
      have HD : Hid (DI w1 B o d S c) := H.out.ext G1.out
      have HC : Hid (Ch o w o w1) := Ch.ext G1.out
      clear h3 h0
      have hrd := read_any HD.out jn (by simp) 0 (n : Int) (by omega) (by omega)
      have hrl := read_le HD.out jn 0 (n : Int)
      have hY : S.jrest n = if (S.read jn 0 (n : Int)).2 = 0 then S.jcut n (readJ (S.read jn 0 (n : Int)).1) else (S, none, (S.read jn 0 (n : Int)).2) := rfl
      obtain ⟨rb, hrb⟩ : ∃ rb, rb = (S.read jn 0 (n : Int)).1 := ⟨_, rfl⟩
      obtain ⟨er, her⟩ : ∃ er, er = (S.read jn 0 (n : Int)).2 := ⟨_, rfl⟩
      rw [← hrb, ← her] at hrd hY
      rw [← hrb] at hrl
      have HRD := Lib.hid hrd
      have HY := Lib.hid hY
      have HSZ := Lib.hid HC.out.size
      clear hrd hY hrb her
      go_wp2_with fail
      refine HRD.out.mono ?_
      rintro e w2 ⟨⟨v2, rfl, o2⟩, g2⟩
      have G2 := Lib.hid g2
      have HO2 := Lib.hid o2
      clear o2 g2
      by_cases hr0 : er = 0
      · have hr0e : ((er : Int) == 0) = true := by rw [hr0]; rfl
        have HY2 : Hid (S.jopen = S.jcut n (readJ rb)) := by show _ = _; rw [HJ.out, HY.out, if_pos hr0]
        obtain ⟨l, hl⟩ : ∃ l, l = readJ rb := ⟨_, rfl⟩
        have hlr : 64 * l.length ≤ 16777216 := by rw [hl]; exact Nat.le_trans (readJ_le rb) hrl
        rw [← hl] at HY2
        have HL := Lib.hid hl
        clear hl hr0
        go_wp2_with fail
        refine (jread_any v2 rb _ HO2.out.rd (by omega)).mono ?_
        rintro e w3 ⟨⟨v3, rfl, o3⟩, g3⟩
        rw [← HL.out] at o3
        have G3 := Lib.hid (gr_none G2.out g3)
        obtain ⟨A3, c3, rfl⟩ := o3.rd.form
        have HO3B := Lib.hid (Own.mono o3 G2.out.size)
        clear o3 g3
        have HBX := Lib.hid (Blk.new w3 87 #[.pointer (some ⟨d, 0, none⟩), .slice A3 l.length c3])
        have GA := Lib.hid (gr_none G3.out (gr_alloc w3 (.cells #[.pointer (some ⟨d, 0, none⟩), .slice A3 l.length c3] 87) none))
        have hfr2 : Hid (∀ k, w1.heap.size ≤ k → o k = none) := fun k hk => by
          cases e : o k with
          | none => rfl
          | some t => exact absurd (HD.out.inb k (by rw [e]; simp)).2 (by omega)
        have HJR : Hid (JR (w3.alloc (.cells #[.pointer (some ⟨d, 0, none⟩), .slice A3 l.length c3] 87)) w1.heap.size o w3.heap.size d (.slice A3 l.length c3) l) :=
          ⟨HBX.out, (Own.mono HO3B.out (Nat.le_refl _)).alloc _, ⟨hfr2.out _ G3.out.size, fun k hk => hfr2.out k (Own.blk_lt HO3B.out (by omega) hk).1⟩, G3.out.size, fun k hk => Nat.ne_of_lt (Own.blk_lt HO3B.out (by omega) hk).2⟩
        have HDA := Lib.hid (HD.out.ext GA.out)
        have HCA : Hid (Ch o w o (w3.alloc (.cells #[.pointer (some ⟨d, 0, none⟩), .slice A3 l.length c3] 87))) := HC.out.trans (Ch.ext GA.out)
        clear hfr2
        have hZ : S.jcut n l = if 64 * l.length < n then (if (S.cut jn ((64 * l.length : Nat) : Int)).2 = 0 then (S.cut jn ((64 * l.length : Nat) : Int)).1.jsync l else ((S.cut jn ((64 * l.length : Nat) : Int)).1, none, (S.cut jn ((64 * l.length : Nat) : Int)).2)) else S.jsync l := rfl
        by_cases hlt : 64 * l.length < n
        · have hlti : (l.length : Int) * 64 < (n : Int) := by omega
          have hcu := cut_any HDA.out jn (by simp) ((64 * l.length : Nat) : Int) (by omega)
          obtain ⟨S2, hS2⟩ : ∃ S2, S2 = (S.cut jn ((64 * l.length : Nat) : Int)).1 := ⟨_, rfl⟩
          obtain ⟨e2, he2⟩ : ∃ e2, e2 = (S.cut jn ((64 * l.length : Nat) : Int)).2 := ⟨_, rfl⟩
          rw [if_pos hlt, ← hS2, ← he2] at hZ
          rw [← hS2, ← he2, show ((64 * l.length : Nat) : Int) = (l.length : Int) * 64 from by omega] at hcu
          have HCU := Lib.hid hcu
          have HZ := Lib.hid hZ
          clear hcu hZ hS2 he2 hlt
          go_wp2_with fail
          refine HCU.out.mono ?_
          rintro e w4 ⟨rfl, o4, c4, h4, ch4⟩
          have H4 := Lib.hid h4
          have C4 : Hid (Ch o w o4 w4) := HCA.out.trans ch4
          have HJR4 := Lib.hid (HJR.out.ch ch4)
          clear h4 ch4
          by_cases hz : e2 = 0
          · have hze : ((e2 : Int) == 0) = true := by rw [hz]; rfl
            have HZ2 : Hid (S.jopen = S2.jsync l) := by show _ = _; rw [HY2.out, HZ.out, if_pos hz]
            clear hz
            have hsy := sync_any H4.out jn (by simp)
            have hU : S2.jsync l = if (S2.sync jn).2 = 0 then ((S2.sync jn).1, some l, 0) else ((S2.sync jn).1, none, (S2.sync jn).2) := rfl
            obtain ⟨S5, hS5⟩ : ∃ S5, S5 = (S2.sync jn).1 := ⟨_, rfl⟩
            obtain ⟨e5, he5⟩ : ∃ e5, e5 = (S2.sync jn).2 := ⟨_, rfl⟩
            rw [← hS5, ← he5] at hsy hU
            have HSY := Lib.hid hsy
            have HU := Lib.hid hU
            clear hsy hU hS5 he5
            go_wp2_with fail
            refine HSY.out.mono ?_
            rintro e w5 ⟨rfl, o5, c5, h5, ch5⟩
            have H5 := Lib.hid h5
            have C5 : Hid (Ch o w o5 w5) := C4.out.trans ch5
            have HJR5 := Lib.hid (HJR4.out.ch ch5)
            clear h5 ch5
            by_cases hz5 : e5 = 0
            · have hz5e : ((e5 : Int) == 0) = true := by rw [hz5]; rfl
              have HU2 : Hid (S.jopen = (S5, some l, 0)) := by show _ = _; rw [HZ2.out, HU.out, if_pos hz5]
              clear hz5
              go_wp2_with fail
              go_ret2
              rw [HU2.out]
              exact ⟨o5, c5, H5.out, C5.out, .inr ⟨l, _, _, rfl, rfl, rfl, HJR5.out.low HSZ.out⟩⟩
            · have hz5e : ((e5 : Int) == 0) = false := by rw [beq_eq_false_iff_ne]; omega
              have HU2 : Hid (S.jopen = (S5, none, e5)) := by show _ = _; rw [HZ2.out, HU.out, if_neg hz5]
              clear hz5
              go_wp2_with fail
              go_ret2
              rw [HU2.out]
              exact ⟨o5, c5, H5.out, C5.out, .inl ⟨rfl, rfl⟩⟩
          · have hze : ((e2 : Int) == 0) = false := by rw [beq_eq_false_iff_ne]; omega
            have HZ2 : Hid (S.jopen = (S2, none, e2)) := by show _ = _; rw [HY2.out, HZ.out, if_neg hz]
            clear hz
            go_wp2_with fail
            go_ret2
            rw [HZ2.out]
            exact ⟨o4, c4, H4.out, C4.out, .inl ⟨rfl, rfl⟩⟩
        · have hlti : ¬ (l.length : Int) * 64 < (n : Int) := by omega
          have HZ2 : Hid (S.jopen = S.jsync l) := by show _ = _; rw [HY2.out, hZ, if_neg hlt]
          clear hZ hlt
          have hsy := sync_any HDA.out jn (by simp)
          have hU : S.jsync l = if (S.sync jn).2 = 0 then ((S.sync jn).1, some l, 0) else ((S.sync jn).1, none, (S.sync jn).2) := rfl
          obtain ⟨S5, hS5⟩ : ∃ S5, S5 = (S.sync jn).1 := ⟨_, rfl⟩
          obtain ⟨e5, he5⟩ : ∃ e5, e5 = (S.sync jn).2 := ⟨_, rfl⟩
          rw [← hS5, ← he5] at hsy hU
          have HSY := Lib.hid hsy
          have HU := Lib.hid hU
          clear hsy hU hS5 he5
          go_wp2_with fail
          refine HSY.out.mono ?_
          rintro e w5 ⟨rfl, o5, c5, h5, ch5⟩
          have H5 := Lib.hid h5
          have C5 : Hid (Ch o w o5 w5) := HCA.out.trans ch5
          have HJR5 := Lib.hid (HJR.out.ch ch5)
          clear h5 ch5
          by_cases hz5 : e5 = 0
          · have hz5e : ((e5 : Int) == 0) = true := by rw [hz5]; rfl
            have HU2 : Hid (S.jopen = (S5, some l, 0)) := by show _ = _; rw [HZ2.out, HU.out, if_pos hz5]
            clear hz5
            go_wp2_with fail
            go_ret2
            rw [HU2.out]
            exact ⟨o5, c5, H5.out, C5.out, .inr ⟨l, _, _, rfl, rfl, rfl, HJR5.out.low HSZ.out⟩⟩
          · have hz5e : ((e5 : Int) == 0) = false := by rw [beq_eq_false_iff_ne]; omega
            have HU2 : Hid (S.jopen = (S5, none, e5)) := by show _ = _; rw [HZ2.out, HU.out, if_neg hz5]
            clear hz5
            go_wp2_with fail
            go_ret2
            rw [HU2.out]
            exact ⟨o5, c5, H5.out, C5.out, .inl ⟨rfl, rfl⟩⟩
      · have hr0e : ((er : Int) == 0) = false := by rw [beq_eq_false_iff_ne]; omega
        have HY2 : Hid (S.jopen = (S, none, er)) := by show _ = _; rw [HJ.out, HY.out, if_neg hr0]
        clear hr0
        go_wp2_with fail
        go_ret2
        rw [HY2.out]
        exact ⟨o, c, HD.out.ext G2.out, HC.out.trans (Ch.ext G2.out), .inl ⟨rfl, rfl⟩⟩
    · have HJ : Hid (S.jopen = (S, none, es)) := by show _ = _; rw [HX.out, if_neg h3, if_neg h0]
      have h0e : ((es : Int) == 0) = false := by rw [beq_eq_false_iff_ne]; omega
      have HD : Hid (DI w1 B o d S c) := H.out.ext G1.out
      clear h3 h0
      go_wp2_with fail
      go_ret2
      rw [HJ.out]
      exact ⟨o, c, HD.out, Ch.ext G1.out, .inl ⟨rfl, rfl⟩⟩
end
end Go.Proofs.YtipankjajdpiiaaGreat

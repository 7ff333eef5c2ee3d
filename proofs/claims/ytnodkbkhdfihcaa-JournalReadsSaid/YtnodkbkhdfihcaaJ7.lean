/-
  JournalReads, the walk.
-/
import Derived.Test.YtnodkbkhdfihcaaJ6
namespace Go.Proofs.Ytnodkbkhdfihcaa
open Go.RowKit
set_option maxRecDepth 100000
set_option maxHeartbeats 400000

/-- a disk with one file of these bytes, that was synced. -/
def oneD (b : List UInt8) : Dk := (({ newD 1024 with fs := (newD 1024).fs ++ [⟨jn, [], []⟩] } : Dk).wrote jn 0 b).synced jn
theorem oneD_find (b : List UInt8) : (oneD b).find jn = some ⟨jn, b, b⟩ := by
  have h1 := find_added (newD 1024) jn (newD_find 1024)
  unfold oneD
  rw [find_synced, find_wrote, h1]
  simp [overZ]
theorem oneD_idle (b : List UInt8) : Idle (oneD b) := ⟨rfl, rfl⟩
def DOut1 (w : World) (B d : Nat) (S : Dk) (w' : World) : Prop := ∃ o' c', DI w' B o' d S c' ∧ ∀ w0 : World, w0.heap.size ≤ B → w0.grownBy w none → w0.grownBy w' none
set_option maxHeartbeats 4000000 in
theorem reads_any (v : Value) (b : List UInt8) (w : World) (hb : RdB w v b) :
    Calls Try.prog 3 #[v] w fun e w' => e = .returned (.bool true) ∧ w.grownBy w' none := by
  obtain ⟨A, cp, rfl⟩ := hb.form
  have HB := Lib.hid hb
  clear hb
  by_cases hbig : 4096 < b.length
  · go_enter Try.func3, Try.ntmps3
    go_wp2_with (go_at_call 10; refine (works_any _).mono ?_; rintro e w1 ⟨rfl, g1⟩)
    go_ret
    exact ⟨rfl, g1⟩
  have hbl : b.length ≤ 4096 := by omega
  have HNEW := Lib.hid (new_ok 1024 w (by omega))
  have hf1 := find_added (newD 1024) jn (newD_find 1024)
  obtain ⟨S1, hS1⟩ : ∃ S1 : Dk, S1 = { newD 1024 with fs := (newD 1024).fs ++ [⟨jn, [], []⟩] } := ⟨_, rfl⟩
  have hi1 : Idle S1 := by rw [hS1]; exact newD_idle 1024
  have HCR : Hid (∀ (wx : World) (d : Nat) (o : Own1) (c : Con), DI wx w.heap.size o d (newD 1024) c → Calls Try.prog 12 #[.pointer (some ⟨d, 0, none⟩), .string ⟨jn.toArray⟩] wx fun e w' => e = .returned (.int .i64 0) ∧ DOut o wx w.heap.size d S1 w') := fun wx d o c h => by
    have := create_any h jn (by simp) (by simp [newD])
    rw [create_idle (newD_idle 1024) jn_right (newD_find 1024), ← hS1] at this
    exact this
  rw [← hS1] at hf1
  have HWR : Hid (∀ (wx : World) (d : Nat) (o : Own1) (c : Con) (v3 : Value), DI wx w.heap.size o d S1 c → RdB wx v3 b → (∀ k, blk v3 = some k → k < wx.heap.size ∧ o k = none) → Calls Try.prog 13 #[.pointer (some ⟨d, 0, none⟩), .string ⟨jn.toArray⟩, .int .i64 0, v3] wx fun e w' => e = .returned (.int .i64 0) ∧ DOut o wx w.heap.size d (S1.wrote jn 0 b) w') := fun wx d o c v3 h hr hk => by
    have := write_any h jn (by simp) ((0 : Nat) : Int) (by omega) v3 b hr hk (by omega) (by rw [hS1]; simp [newD]) (by rw [hS1]; simp [newD]; omega)
    rw [write_idle hi1 jn_right hf1 (by simp) (by omega) (by
      unfold moreS
      intro h
      have h2 := h.2
      have e1 : S1.quota = 1024 := by rw [hS1]; rfl
      have e2 : S1.used = 0 := by rw [hS1]; rfl
      rw [e1, e2] at h2
      simp [sectors] at h2
      omega)] at this
    exact this
  have HSY : Hid (∀ (wx : World) (d : Nat) (o : Own1) (c : Con), DI wx w.heap.size o d (S1.wrote jn 0 b) c → Calls Try.prog 15 #[.pointer (some ⟨d, 0, none⟩), .string ⟨jn.toArray⟩] wx fun e w' => e = .returned (.int .i64 0) ∧ DOut o wx w.heap.size d (oneD b) w') := fun wx d o c h => by
    have := sync_any h jn (by simp)
    rw [sync_idle (f := ⟨jn, b, []⟩) (show Idle (S1.wrote jn 0 b) from hi1) jn_right (by rw [find_wrote, hf1]; simp [overZ])] at this
    have e : oneD b = (S1.wrote jn 0 b).synced jn := by unfold oneD; rw [hS1]
    rw [e]
    exact this
  have HRR : Hid (∀ (wx : World), w.grownBy wx none → Calls Try.prog 18 #[.slice A b.length cp] wx fun e w' => (∃ v', e = .returned v' ∧ OwnR w' wx.heap.size v' (readJ b)) ∧ wx.grownBy w' none) := fun wx hx => rread_any _ b wx (HB.out.ext hx) (by omega)
  have HOP : Hid (∀ (wx : World) (d : Nat) (o : Own1) (c : Con), DI wx w.heap.size o d (oneD b) c → Calls Try.prog 16 #[.pointer (some ⟨d, 0, none⟩)] wx (OpenOut o wx w.heap.size d (oneD b))) := fun wx d o c h => open_some h (oneD_idle b) (oneD_find b)
  obtain ⟨f4, hf4, hn4⟩ := find_jOpen (oneD_find b)
  have hj1 : jRecs (oneD b) = readJ b := by unfold jRecs; rw [oneD_find]
  have hj2 : jRecs (jOpen (oneD b)) = readJ b := by unfold jRecs; rw [hf4]; show readJ f4.now = _; rw [hn4]; exact readJ_take b
  have hle := readJ_le b
  have hsz4 : f4.now.length = 64 * (readJ b).length := by rw [hn4, List.length_take]; show min (64 * (readJ b).length) b.length = _; omega
  have HSZ : Hid (∀ (wx : World) (d : Nat) (o : Own1) (c : Con), DI wx w.heap.size o d (jOpen (oneD b)) c → Calls Try.prog 17 #[.pointer (some ⟨d, 0, none⟩), .string ⟨jn.toArray⟩] wx fun e w' => e = .returned (.tuple #[.int .i64 (64 * (readJ b).length : Nat), .int .i64 0]) ∧ wx.grownBy w' none) := fun wx d o c h => by
    have := size_any h jn (by simp)
    rw [size_idle (jOpen_idle (oneD_idle b)) jn_right hf4, hsz4] at this
    exact this
  have HOP2 : Hid (∀ (wx : World) (d : Nat) (o : Own1) (c : Con), DI wx w.heap.size o d (jOpen (oneD b)) c → Calls Try.prog 16 #[.pointer (some ⟨d, 0, none⟩)] wx (OpenOut o wx w.heap.size d (jOpen (oneD b)))) := fun wx d o c h => open_some h (jOpen_idle (oneD_idle b)) hf4
  have HJ1 := Lib.hid hj1
  have HJ2 := Lib.hid hj2
  clear hf1 hS1 hi1 hf4 hn4 hj1 hj2 hsz4 hbig
  go_enter Try.func3, Try.ntmps3
  go_wp2_with fail
  refine HNEW.out.mono ?_
  rintro e w1 ⟨d, o1, c1, rfl, h1, g1⟩
  have G1 := Lib.hid g1
  have H1 := Lib.hid h1
  have HT1 : Hid (∀ i, o1 i ≠ none → w.heap.size ≤ i) := fun i hi => (h1.inb i hi).1
  clear h1 g1
  go_wp2_with fail
  refine (HCR.out _ _ _ _ H1.out).mono ?_
  rintro e w2 ⟨rfl, o2, c2, h2, ch2⟩
  have G2 := Lib.hid (ch2.gr G1.out HT1.out)
  have HT2 : Hid (∀ i, o2 i ≠ none → w.heap.size ≤ i ∧ i < w2.heap.size) := fun i hi => h2.inb i hi
  have H2 := Lib.hid h2
  clear h2 ch2
  go_wp2_with fail
  refine (copyBytes_any _ b _ (HB.out.ext G2.out) (by omega)).mono ?_
  rintro e w3 ⟨v3, rfl, o3', g3⟩
  obtain ⟨A3, cp3, rfl⟩ := o3'.rd.form
  have hk3 : ∀ k, blk (Value.slice A3 b.length cp3) = some k → k < w3.heap.size ∧ o2 k = none := fun k hk => by
    have h := Own.blk_lt o3' (by omega) hk
    refine ⟨h.2, ?_⟩
    cases e : o2 k with
    | none => rfl
    | some t => have := (HT2.out k (by rw [e]; simp)).2; omega
  have HW := Lib.hid (HWR.out _ _ _ _ _ (H2.out.ext g3) o3'.rd hk3)
  have G3 := Lib.hid (gr_none G2.out g3)
  clear o3' g3 hk3
  go_wp2_with fail
  refine HW.out.mono ?_
  rintro e w4 ⟨rfl, o4, c4, h4, ch4⟩
  have G4 := Lib.hid (ch4.gr G3.out (fun i hi => (HT2.out i hi).1))
  have HT4 : Hid (∀ i, o4 i ≠ none → w.heap.size ≤ i) := fun i hi => (h4.inb i hi).1
  have H4 := Lib.hid h4
  clear h4 ch4
  go_wp2_with fail
  refine (HSY.out _ _ _ _ H4.out).mono ?_
  rintro e w5 ⟨rfl, o5, c5, h5, ch5⟩
  have G5 := Lib.hid (ch5.gr G4.out HT4.out)
  have HT5 : Hid (∀ i, o5 i ≠ none → w.heap.size ≤ i) := fun i hi => (h5.inb i hi).1
  have H5 := Lib.hid h5
  clear h5 ch5
  go_wp2_with fail
  refine (HOP.out _ _ _ _ H5.out).mono ?_
  rintro e w6 ⟨jb6, v6, o6, c6, rfl, h6, ch6, hj6⟩
  have G6 := Lib.hid (ch6.gr G5.out HT5.out)
  have HT6 : Hid (∀ i, o6 i ≠ none → w.heap.size ≤ i) := fun i hi => (h6.inb i hi).1
  have H6 := Lib.hid h6
  rw [HJ1.out] at hj6
  have HJ6 := Lib.hid hj6
  clear h6 ch6 hj6
  go_wp2_with fail
  refine (HSZ.out _ _ _ _ H6.out).mono ?_
  rintro e w7 ⟨rfl, g7⟩
  have G7 := Lib.hid (gr_none G6.out g7)
  have H7 := Lib.hid (H6.out.ext g7)
  have HJ7 := Lib.hid (HJ6.out.ch (Ch.ext g7))
  clear g7
  go_wp2_with fail
  refine (HOP2.out _ _ _ _ H7.out).mono ?_
  rintro e w8 ⟨jb8, v8, o8, c8, rfl, h8, ch8, hj8⟩
  have G8 := Lib.hid (ch8.gr G7.out HT6.out)
  rw [HJ2.out] at hj8
  have HJ8 := Lib.hid hj8
  have HJ78 := Lib.hid (HJ7.out.ch ch8)
  clear h8 ch8 hj8
  generalize readJ b = L at *
  have hL : L.length ≤ 1000000000 := by omega
  go_wp2_with fail
  refine (HRR.out _ G8.out).mono ?_
  rintro e w9 ⟨⟨v9, rfl, o9⟩, g9⟩
  obtain ⟨A9, cp9, rfl⟩ := o9.rd.form
  have G9 := Lib.hid (gr_none G8.out g9)
  have HV9 := Lib.hid o9
  have HJa := Lib.hid (HJ78.out.ch (Ch.ext g9))
  have HJb := Lib.hid (HJ8.out.ch (Ch.ext g9))
  clear o9 g9
  go_wp2_with fail
  refine (recs_any HJa.out hL).mono ?_
  rintro e w10 ⟨⟨v10, rfl, o10⟩, g10⟩
  have G10 := Lib.hid (gr_none G9.out g10)
  have HO10 := Lib.hid o10
  have HV10 := Lib.hid (HV9.out.ext g10)
  have HJb2 := Lib.hid (HJb.out.ch (Ch.ext g10))
  clear o10 g10
  go_wp2_with fail
  refine (same_any _ _ L L _ HO10.out.rd HV10.out.rd hL hL).mono ?_
  rintro e w11 ⟨⟨b1, rfl, hb1⟩, g11⟩
  obtain rfl := hb1.2 rfl
  have G11 := Lib.hid (gr_none G10.out g11)
  have HV11 := Lib.hid (HV10.out.ext g11)
  have HJb3 := Lib.hid (HJb2.out.ch (Ch.ext g11))
  clear g11 hb1
  go_wp2_with fail
  refine (recs_any HJb3.out hL).mono ?_
  rintro e w12 ⟨⟨v12, rfl, o12⟩, g12⟩
  have G12 := Lib.hid (gr_none G11.out g12)
  have HO12 := Lib.hid o12
  have HV12 := Lib.hid (HV11.out.ext g12)
  clear o12 g12
  go_wp2_with fail
  refine (same_any _ _ L L _ HO12.out.rd HV12.out.rd hL hL).mono ?_
  rintro e w13 ⟨⟨b2, rfl, hb2⟩, g13⟩
  obtain rfl := hb2.2 rfl
  have G13 := Lib.hid (gr_none G12.out g13)
  have hbq : ((64 * L.length : Nat) : Int) = 64 * (L.length : Int) := by omega
  have hbt : (((64 * L.length : Nat) : Int) == 64 * (L.length : Int)) = true := by rw [beq_iff_eq]; omega
  clear g13 hb2
  go_wp2_with (go_at_call 10; refine (works_any _).mono ?_; rintro e w14 ⟨rfl, g14⟩)
  go_ret
  exact ⟨rfl, gr_none G13.out g14⟩
end Go.Proofs.Ytnodkbkhdfihcaa

/-
  Files of pages: Read, Write, Create.
-/
import Derived.Test.YtkfokgjpeaibpaaGreatPf
namespace Go.Proofs.YtkfokgjpeaibpaaGreat
open Go.RowKit
set_option maxRecDepth 100000
set_option maxHeartbeats 400000

/-- what is read of a page, or an error. -/
def Dk.pread (S : Dk) (n : List UInt8) (k : Int) : List UInt8 × Nat :=
  if k < 0 then ([], 1) else if (S.size n).2 ≠ 0 then ([], (S.size n).2) else if (((S.size n).1 / 256 : Nat) : Int) ≤ k then ([], 3) else
  match pagO (S.read n (k * 256) 256).1 (crcS n) k.toNat with
  | none => ([], 7)
  | some b => (b, 0)
def Dk.pwrite (S : Dk) (n : List UInt8) (k : Int) (b : List UInt8) : Dk × Nat :=
  if k < 0 then (S, 1) else if 240 < b.length then (S, 9) else if (S.size n).2 ≠ 0 then (S, (S.size n).2) else if (((S.size n).1 / 256 : Nat) : Int) < k then (S, 1) else
  S.write n (k * 256) (pagB (crcS n) k.toNat b)
theorem read_fine {S : Dk} {n : List UInt8} (h : (S.size n).2 = 0) {off k : Int} (ho : 0 ≤ off) (hk : 0 ≤ k) : (S.read n off k).2 = 0 := by
  unfold Dk.size at h
  unfold Dk.read
  split at h
  · cases h
  · next h1 =>
    rw [if_neg h1]
    split at h
    · cases h
    · next h2 =>
      rw [if_neg (by intro e; rcases e with e | e | e; exact h2 e; omega; omega)]
      split at h
      · cases h
      · rfl
section
variable {w w' : World} {B d pf : Nat} {o o' : Own1} {S : Dk} {c : Con} {n : List UInt8}
set_option maxHeartbeats 1000000 in
theorem pread_any (h : DI w B o d S c) (hp : PfR w B o d pf n) (hn : n.length ≤ 1000000000) (k : Int) (hk : -9223372036854775808 ≤ k ∧ k ≤ 9223372036854775807) :
    Calls Tryz.prog 67 #[.pointer (some ⟨pf, 0, none⟩), .int .i64 k] w fun e w' => (∃ v, e = .returned (.tuple #[v, .int .i64 (S.pread n k).2]) ∧ OwnB w' w.heap.size v (S.pread n k).1) ∧ w.grownBy w' none := by
  have HP : Hid (Calls Tryz.prog 60 #[.pointer (some ⟨pf, 0, none⟩)] w fun e w' => e = .returned (.tuple #[.int .i64 (S.ppages n).1, .int .i64 (S.ppages n).2]) ∧ w.grownBy w' none) := pages_any h hp hn
  have hsz := (size_le h n)
  have HK : Hid (∀ wx, w.grownBy wx none → wx.cell? ⟨pf, 0, none⟩ = some (.pointer (some ⟨d, 0, none⟩)) ∧ wx.cell? ⟨pf, 1, none⟩ = some (.string ⟨n.toArray⟩) ∧ wx.cell? ⟨pf, 2, none⟩ = some (.int .u32 (crcS n))) := fun wx hg => (hp.ext hg).cells
  have HR : Hid (∀ wx, w.grownBy wx none → 0 ≤ k → k ≤ 65535 → Calls Tryz.prog 79 #[.pointer (some ⟨d, 0, none⟩), .string ⟨n.toArray⟩, .int .i64 (k * 256), .int .i64 256] wx fun e w' =>
      (∃ v, e = .returned (.tuple #[v, .int .i64 (S.read n (k * 256) 256).2]) ∧ OwnB w' wx.heap.size v (S.read n (k * 256) 256).1) ∧ wx.grownBy w' none) := fun wx hg h1 h2 => read_any (h.ext hg) n hn (k * 256) 256 (by omega) (by omega)
  have HX : Hid (S.pread n k = if k < 0 then ([], 1) else if (S.ppages n).2 ≠ 0 then ([], (S.ppages n).2) else if (((S.ppages n).1 : Nat) : Int) ≤ k then ([], 3) else
    match pagO (S.read n (k * 256) 256).1 (crcS n) k.toNat with
    | none => ([], 7)
    | some b => (b, 0)) := rfl
  have HF : Hid ((S.ppages n).2 = 0 → 0 ≤ k → (S.read n (k * 256) 256).2 = 0) := fun e hk => read_fine e (by omega) (by omega)
  have hpp : (S.ppages n).1 ≤ 65536 := by unfold Dk.ppages; omega
  have hct : crcS n < 4294967296 := crcE_lt _ _
  clear h hp hsz
  generalize S.pread n k = R at *
  generalize (S.ppages n).1 = a at *
  generalize (S.ppages n).2 = b at *
  generalize crcS n = tag at *
  by_cases h1 : k < 0
  · have HX2 : Hid (R = ([], 1)) := by show _ = _; rw [HX.out, if_pos h1]
    rw [HX2.out]
    clear HX HX2
    go_enter Tryz.func67, Tryz.ntmps67
    go_wp2
    go_ret2
    exact ⟨⟨_, rfl, OwnB.nil _ _⟩, gr_refl _ _⟩
  by_cases h2 : b ≠ 0
  · have HX2 : Hid (R = ([], b)) := by show _ = _; rw [HX.out, if_neg h1, if_pos h2]
    rw [HX2.out]
    have hb0 : ((b : Int) != 0) = true := by rw [bne_iff_ne]; omega
    clear HX HX2 h2
    go_enter Tryz.func67, Tryz.ntmps67
    go_wp2_with fail
    refine HP.out.mono ?_
    rintro e w1 ⟨rfl, g1⟩
    go_wp2
    go_ret2
    exact ⟨⟨_, rfl, OwnB.nil _ _⟩, g1⟩
  obtain rfl : b = 0 := by omega
  obtain ⟨kn, rfl⟩ : ∃ kn : Nat, k = (kn : Int) := ⟨k.toNat, by omega⟩
  by_cases h3 : (a : Int) ≤ (kn : Int)
  · have HX2 : Hid (R = ([], 3)) := by show _ = _; rw [HX.out, if_neg h1, if_neg h2, if_pos h3]
    rw [HX2.out]
    clear HX HX2 h2
    go_enter Tryz.func67, Tryz.ntmps67
    go_wp2_with fail
    refine HP.out.mono ?_
    rintro e w1 ⟨rfl, g1⟩
    go_wp2
    go_ret2
    exact ⟨⟨_, rfl, OwnB.nil _ _⟩, g1⟩
  have HX2 : Hid (R = match pagO (S.read n ((kn : Int) * 256) 256).1 tag kn with
    | none => ([], 7)
    | some b => (b, 0)) := by show _ = _; rw [HX.out, if_neg h1, if_neg h2, if_neg h3, Int.toNat_natCast]
  have HF2 := Lib.hid (HF.out rfl (by omega))
  have hk5 : (kn : Int) ≤ 65535 := by omega
  rw [HF2.out] at HR
  clear HX HF HF2 h2 h1
  generalize (S.read n ((kn : Int) * 256) 256).1 = p at *
  have hw1 : IntKind.i64.wrap ((kn : Int) * 256) = (kn : Int) * 256 := by rw [IntWalk.i64_in _ (by omega)]
  have hlt : (kn : Int) < (a : Int) := by omega
  have hk0 : (0 : Int) ≤ (kn : Int) := by omega
  have HOP : Hid (∀ (v : Value) (wx : World), RdB wx v p → Calls Tryz.prog 80 #[v, .int .u32 tag, .int .u32 kn] wx (OpnOut wx (pagO p tag kn))) := fun v wx hv => opn_any tag kn hct (by omega) v p wx hv
  have HW := Lib.hid hw1
  clear hw1
  go_enter Tryz.func67, Tryz.ntmps67
  go_wp2_with fail
  refine HP.out.mono ?_
  rintro e w1 ⟨rfl, g1⟩
  have G1 := Lib.hid g1
  have kk := HK.out w1 g1
  have hw1 := HW.out
  clear g1
  go_wp2
  go_region_held3 (fun w' => w'.cell? ⟨pf, 0, none⟩ = some (.pointer (some ⟨d, 0, none⟩)) ∧ w'.cell? ⟨pf, 1, none⟩ = some (.string ⟨n.toArray⟩)) (go_keep) (first
    | (go_at_call 79; (with_reducible refine (HR.out _ ?_ hk0 hk5).mono ?_); (first | exact gr_none G1.out (gr_drew _ _) | exact G1.out); rintro e w2 ⟨⟨v2, rfl, o2⟩, g2⟩; have kk1 := HK.out _ (gr_none (gr_none G1.out (gr_drew _ _)) g2)))
  have G2 := Lib.hid (gr_none (gr_none G1.out (gr_drew _ none)) g2)
  have O2 := Lib.hid o2
  clear g2 o2 hw1
  go_wp2_with fail
  refine (HOP.out _ _ O2.out.rd).mono ?_
  rintro e w3 ⟨g3, hout⟩
  have G3 := Lib.hid (gr_none G2.out g3)
  have HO : Hid (∃ v', e = .returned (.tuple #[v', .int .i64 R.2]) ∧ OwnB w3 w.heap.size v' R.1) := by
    rcases hout with ⟨b, v', hr, he, ho⟩ | ⟨hr, he⟩
    · rw [hr] at HX2
      rw [HX2.out]
      exact ⟨v', he, ho.mono G2.out.size⟩
    · rw [hr] at HX2
      rw [HX2.out]
      exact ⟨_, he, OwnB.nil _ _⟩
  clear hout g3
  obtain ⟨v', rfl, ho⟩ := HO.out
  have HO2 := Lib.hid ho
  clear ho
  go_wp2
  go_ret2
  exact ⟨⟨_, rfl, HO2.out⟩, G3.out⟩
set_option maxHeartbeats 2000000 in
theorem pwrite_any (h : DI w B o d S c) (hp : PfR w B o d pf n) (hn : n.length ≤ 1000000000) (k : Int) (hk : -9223372036854775808 ≤ k ∧ k ≤ 9223372036854775807) (bv : Value) (b : List UInt8) (hb : RdB w bv b) (hbn : b.length ≤ 1000000000)
    (hfl : S.fs.length ≤ 1000000) (hnl : S.nl + 256 ≤ 4611686018427387904) :
    Calls Tryz.prog 61 #[.pointer (some ⟨pf, 0, none⟩), .int .i64 k, bv] w fun e w' => e = .returned (.int .i64 (S.pwrite n k b).2) ∧ DOut o w B d (S.pwrite n k b).1 w' := by
  obtain ⟨Ab, cb, rfl⟩ := hb.form
  have HP : Hid (Calls Tryz.prog 60 #[.pointer (some ⟨pf, 0, none⟩)] w fun e w' => e = .returned (.tuple #[.int .i64 (S.ppages n).1, .int .i64 (S.ppages n).2]) ∧ w.grownBy w' none) := pages_any h hp hn
  have hsz := (size_le h n)
  have H := Lib.hid h
  have HPF := Lib.hid hp
  have HB := Lib.hid hb
  have HX : Hid (S.pwrite n k b = if k < 0 then (S, 1) else if 240 < b.length then (S, 9) else if (S.ppages n).2 ≠ 0 then (S, (S.ppages n).2) else if (((S.ppages n).1 : Nat) : Int) < k then (S, 1) else
    S.write n (k * 256) (pagB (crcS n) k.toNat b)) := rfl
  have hpp : (S.ppages n).1 ≤ 65536 := by unfold Dk.ppages; omega
  have hct : crcS n < 4294967296 := crcE_lt _ _
  have HTG : Hid (crcS n = crcS n) := rfl
  clear h hp hb hsz
  generalize S.pwrite n k b = R at *
  generalize (S.ppages n).1 = a at *
  generalize (S.ppages n).2 = q at *
  by_cases h1 : k < 0
  · have HX2 : Hid (R = (S, 1)) := by show _ = _; rw [HX.out, if_pos h1]
    rw [HX2.out]
    clear HX HX2
    go_enter Tryz.func61, Tryz.ntmps61
    go_wp2
    go_ret
    exact ⟨rfl, o, c, H.out, Ch.refl _ _⟩
  by_cases h2 : 240 < b.length
  · have HX2 : Hid (R = (S, 9)) := by show _ = _; rw [HX.out, if_neg h1, if_pos h2]
    rw [HX2.out]
    have h1' : (0 : Int) ≤ k := by omega
    clear HX HX2 h1
    go_enter Tryz.func61, Tryz.ntmps61
    go_wp2
    go_ret
    exact ⟨rfl, o, c, H.out, Ch.refl _ _⟩
  have h2' : b.length ≤ 240 := by omega
  by_cases h3 : q ≠ 0
  · have HX2 : Hid (R = (S, q)) := by show _ = _; rw [HX.out, if_neg h1, if_neg h2, if_pos h3]
    rw [HX2.out]
    have hb0 : ((q : Int) != 0) = true := by rw [bne_iff_ne]; omega
    have h1' : (0 : Int) ≤ k := by omega
    clear HX HX2 h3 h1 h2
    go_enter Tryz.func61, Tryz.ntmps61
    go_wp2_with fail
    refine HP.out.mono ?_
    rintro e w1 ⟨rfl, g1⟩
    have G1 := Lib.hid g1
    clear g1
    go_wp2
    go_ret
    exact ⟨rfl, o, c, H.out.ext G1.out, Ch.ext G1.out⟩
  obtain rfl : q = 0 := by omega
  obtain ⟨kn, rfl⟩ : ∃ kn : Nat, k = (kn : Int) := ⟨k.toNat, by omega⟩
  by_cases h4 : (a : Int) < (kn : Int)
  · have HX2 : Hid (R = (S, 1)) := by show _ = _; rw [HX.out, if_neg h1, if_neg h2, if_neg h3, if_pos h4]
    rw [HX2.out]
    clear HX HX2 h3 h1 h2
    go_enter Tryz.func61, Tryz.ntmps61
    go_wp2_with fail
    refine HP.out.mono ?_
    rintro e w1 ⟨rfl, g1⟩
    have G1 := Lib.hid g1
    clear g1
    go_wp2
    go_ret
    exact ⟨rfl, o, c, H.out.ext G1.out, Ch.ext G1.out⟩
  have HX2 : Hid (R = S.write n ((kn : Int) * 256) (pagB (crcS n) kn b)) := by show _ = _; rw [HX.out, if_neg h1, if_neg h2, if_neg h3, if_neg h4, Int.toNat_natCast]
  have hk5 : (kn : Int) ≤ 65536 := by omega
  have hk0 : (0 : Int) ≤ (kn : Int) := by omega
  rw [HX2.out]
  have HL : Hid ((pagB (crcS n) kn b).length = 256) := pagB_len h2'
  have HMK : Hid (∀ wx, w.grownBy wx none → Calls Tryz.prog 76 #[.int .u32 (crcS n), .int .u32 kn, .slice Ab b.length cb] wx fun e w' => (∃ v', e = .returned (.tuple #[v', .int .i64 0]) ∧ OwnB w' wx.heap.size v' (pagB (crcS n) kn b)) ∧ wx.grownBy w' none) := fun wx hg =>
    mk_any (crcS n) kn hct (by omega) _ b wx (HB.out.ext hg) h2'
  have HWR : Hid (∀ (wx : World) (v : Value) (B1 : Nat), w.grownBy wx none → w.heap.size ≤ B1 → OwnB wx B1 v (pagB (crcS n) kn b) → Calls Tryz.prog 77 #[.pointer (some ⟨d, 0, none⟩), .string ⟨n.toArray⟩, .int .i64 ((kn : Int) * 256), v] wx fun e w' => e = .returned (.int .i64 (S.write n ((kn : Int) * 256) (pagB (crcS n) kn b)).2) ∧ DOut o wx B d (S.write n ((kn : Int) * 256) (pagB (crcS n) kn b)).1 w') := fun wx v B1 hg hB ho =>
    write_any (H.out.ext hg) n hn _ (by omega) v _ ho.rd (fun j hj => by
      have hj2 := Own.blk_lt ho (by omega) hj
      refine ⟨hj2.2, ?_⟩
      cases e : o j with
      | none => rfl
      | some t => exact absurd (H.out.inb j (by rw [e]; simp)).2 (by omega)) (by rw [HL.out]; omega) hfl (by rw [HL.out]; omega)
  clear HX HX2 h3 h1 h2 HL
  have HKC : Hid (∀ wx, w.grownBy wx none → wx.cell? ⟨pf, 0, none⟩ = some (.pointer (some ⟨d, 0, none⟩)) ∧ wx.cell? ⟨pf, 1, none⟩ = some (.string ⟨n.toArray⟩) ∧ wx.cell? ⟨pf, 2, none⟩ = some (.int .u32 (crcS n))) := fun wx hg => (HPF.out.ext hg).cells
  generalize S.write n ((kn : Int) * 256) (pagB (crcS n) kn b) = X at *
  generalize pagB (crcS n) kn b = P at *
  generalize crcS n = tag at *
  have hw1 : IntKind.i64.wrap ((kn : Int) * 256) = (kn : Int) * 256 := by rw [IntWalk.i64_in _ (by omega)]
  have HW := Lib.hid hw1
  have hlt : (kn : Int) ≤ (a : Int) := by omega
  clear hw1
  go_enter Tryz.func61, Tryz.ntmps61
  go_wp2_with fail
  refine HP.out.mono ?_
  rintro e w1 ⟨rfl, g1⟩
  have G1 := Lib.hid g1
  have kk := HKC.out w1 g1
  clear g1
  go_wp2_with fail
  refine (HMK.out _ G1.out).mono ?_
  rintro e w2 ⟨⟨v2, rfl, o2⟩, g2⟩
  have G2 := Lib.hid (gr_none G1.out g2)
  have O2 := Lib.hid (o2.mono G1.out.size)
  have kk2 := HKC.out w2 G2.out
  have hw1 := HW.out
  clear o2 g2
  go_wp2
  go_region_held3 (fun w' => w'.cell? ⟨pf, 0, none⟩ = some (.pointer (some ⟨d, 0, none⟩)) ∧ w'.cell? ⟨pf, 1, none⟩ = some (.string ⟨n.toArray⟩)) (go_keep) (first
    | (go_at_call 77; (with_reducible refine (HWR.out _ _ _ ?_ (Nat.le_refl _) ?_).mono ?_); (first | exact gr_none G2.out (gr_drew _ _) | exact G2.out); (first | exact O2.out.ext (gr_drew _ _) | exact O2.out); rintro e w3 ⟨rfl, o3, c3, h3, ch3⟩; have kk3 := And.intro ((HPF.out.ext (gr_none G2.out (gr_drew _ none))).ch ch3).cells.1 ((HPF.out.ext (gr_none G2.out (gr_drew _ none))).ch ch3).cells.2.1))
  go_wp2
  go_ret
  exact ⟨rfl, o3, c3, h3, (Ch.ext (gr_none G2.out (gr_drew _ none))).trans ch3⟩
/-- Create. -/
theorem pcreate_any (h : DI w B o d S c) (hn : n.length ≤ 1000000000) (hfl : S.fs.length ≤ 1000000) :
    Calls Tryz.prog 54 #[.pointer (some ⟨d, 0, none⟩), .string ⟨n.toArray⟩] w fun e w' => ∃ o' c', DI w' B o' d (S.create n).1 c' ∧ Ch o w o' w' ∧
      (((S.create n).2 = 0 ∧ ∃ pf, e = .returned (.tuple #[.pointer (some ⟨pf, 0, none⟩), .int .i64 0]) ∧ w.heap.size ≤ pf ∧ PfR w' B o' d pf n) ∨ ((S.create n).2 ≠ 0 ∧ e = .returned (.tuple #[.pointer none, .int .i64 (S.create n).2]))) := by
  have hC := Lib.hid (create_any h n hn hfl)
  have hM := Lib.hid (made_any d n hn)
  have hdB : B ≤ w.heap.size := by have := h.inb d (by rw [h.tD]; simp); omega
  clear h
  generalize S.create n = X at *
  obtain ⟨S1, q⟩ := X
  by_cases hq : q = 0
  · subst hq
    go_enter Tryz.func54, Tryz.ntmps54
    go_wp2_with fail
    refine hC.out.mono ?_
    rintro e w1 ⟨rfl, o1, c1, h1, ch1⟩
    have H1 := Lib.hid h1
    have C1 := Lib.hid ch1
    clear h1 ch1
    go_wp2_with fail
    refine (hM.out _).mono ?_
    rintro e w2 ⟨pf, rfl, hpf, hb, g2⟩
    have HB := Lib.hid hb
    have G2 := Lib.hid g2
    clear hb g2
    go_wp2
    go_ret2
    refine ⟨o1, c1, H1.out.ext G2.out, C1.out.trans (Ch.ext G2.out), .inl ⟨by trivial, pf, rfl, Nat.le_trans C1.out.size hpf, HB.out, ?_, Nat.le_trans hdB (Nat.le_trans C1.out.size hpf)⟩⟩
    cases e : o1 pf with
    | none => rfl
    | some t => exact absurd (H1.out.inb pf (by rw [e]; simp)).2 (by omega)
  · have hb0 : ((q : Int) != 0) = true := by rw [bne_iff_ne]; omega
    have HQ := Lib.hid hq
    clear hq
    go_enter Tryz.func54, Tryz.ntmps54
    go_wp2_with fail
    refine hC.out.mono ?_
    rintro e w1 ⟨rfl, o1, c1, h1, ch1⟩
    have H1 := Lib.hid h1
    have C1 := Lib.hid ch1
    clear h1 ch1
    go_wp2
    go_ret2
    exact ⟨o1, c1, H1.out, C1.out, .inr ⟨HQ.out, rfl⟩⟩
end
end Go.Proofs.YtkfokgjpeaibpaaGreat

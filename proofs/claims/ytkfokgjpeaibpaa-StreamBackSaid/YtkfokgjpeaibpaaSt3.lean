/-
  stream: Len, page, Get over any contract of the pool.
-/
import Derived.Test.YtkfokgjpeaibpaaSt2
namespace Go.Proofs.Ytkfokgjpeaibpaa
open Go.RowKit Go.Maps
set_option maxRecDepth 100000
set_option maxHeartbeats 400000

section
variable {w w' : World} {B p sb size : Nat} {n : List UInt8} {Q : World → Prop}
def PagesIs (w : World) (p : Nat) (n : List UInt8) (m : Nat) : Prop := ∀ wx, w.grownBy wx none → Calls Try.prog 10 #[.pointer (some ⟨p, 0, none⟩), .string ⟨n.toArray⟩] wx fun e w' => e = .returned (.tuple #[.int .i64 m, .int .i64 0]) ∧ wx.grownBy w' none
def ReadIs (w : World) (B p sb size : Nat) (n : List UInt8) (k : Nat) (b : List UInt8) (Q : World → Prop) : Prop := ∀ wx, w.grownBy wx none → Calls Try.prog 11 #[.pointer (some ⟨p, 0, none⟩), .string ⟨n.toArray⟩, .int .i64 k] wx fun e w' =>
  ∃ v, e = .returned (.tuple #[v, .int .i64 0]) ∧ OwnB w' wx.heap.size v b ∧ wx.heap.size ≤ w'.heap.size ∧ StR w' B p sb n size ∧ Q w'
theorem wrap_small {q : Nat} (h : q ≤ 1000000000) : IntKind.i64.wrap (q : Int) = (q : Int) := by rw [IntWalk.i64_in _ (by omega)]
theorem w64s {q : Nat} (h : q ≤ 1000000000) : wrap64 (q : Int) = (q : Int) := by unfold wrap64; omega
theorem sper_q (h : StR w B p sb n size) (k : Nat) : Calls Try.prog 36 #[.pointer (some ⟨sb, 0, none⟩)] (w.drewN k) fun e w' => e = .returned (.int .i64 (240 / size : Nat)) ∧ w' = w.drewN k :=
  (sper_any (h.ext (gr_drewN _ _ none))).mono fun _ _ ⟨h1, h2⟩ => ⟨h1, h2.symm⟩
set_option maxHeartbeats 4000000 in
theorem slen_of (hs : StR w B p sb n size) {m : Nat} {b : List UInt8} (hm : 1 ≤ m ∧ m ≤ 1000000) (hb : b.length % size = 0 ∧ 0 < b.length ∧ b.length ≤ 240) (hpg : PagesIs w p n m) (hrd : ReadIs w B p sb size n (m - 1) b Q) (hQ : ∀ w w', Q w → w.grownBy w' none → Q w') :
    Calls Try.prog 15 #[.pointer (some ⟨sb, 0, none⟩)] w fun e w' => e = .returned (.tuple #[.int .i64 ((m - 1) * (240 / size) + b.length / size : Nat), .int .i64 0]) ∧ Q w' := by
  have HPG : Hid (PagesIs w p n m) := hpg
  have HRD : Hid (ReadIs w B p sb size n (m - 1) b Q) := hrd
  have HS := Lib.hid hs
  have HQ := Lib.hid hQ
  have l1 := hs.lim.1
  have l2 := hs.lim.2
  have c0 : w.cell? ⟨sb, 0, none⟩ = some (.pointer (some ⟨p, 0, none⟩)) := hs.box.cell 0
  have c1 : w.cell? ⟨sb, 1, none⟩ = some (.string ⟨n.toArray⟩) := hs.box.cell 1
  clear hs hpg hrd hQ
  obtain ⟨k, rfl⟩ : ∃ k, m = k + 1 := ⟨m - 1, by omega⟩
  have e1 : k + 1 - 1 = k := by omega
  rw [e1] at HRD ⊢
  clear e1
  obtain ⟨hb1, hb2, hb3⟩ := hb
  have HB1 := Lib.hid hb1
  have hkk : IntKind.i64.wrap (k : Int) = (k : Int) := by rw [IntWalk.i64_in _ (by omega)]
  have hq1 : (b.length : Int) % (size : Int) = 0 := by omega
  have hq2 : IntKind.i64.wrap ((b.length : Int) % (size : Int)) = 0 := by rw [hq1]; rfl
  have hd2 : (b.length / size) ≤ 240 := Nat.le_trans (Nat.div_le_self _ _) hb3
  have hd3 : (240 / size) ≤ 240 := Nat.div_le_self _ _
  have hz1 : ((b.length : Int) == 0) = false := by simp; rintro rfl; simp at hb2
  have hz2 : ¬ size = 0 := by omega
  have hz3 : ¬ b = [] := by rintro rfl; simp at hb2
  have hx1 : wrap64 ((k : Int) * (240 / (size : Int))) = ((k * (240 / size) : Nat) : Int) := w64s (q := k * (240 / size)) (by have := Nat.mul_le_mul (show k ≤ 1000000 by omega) hd3; omega)
  have hx3 : wrap64 (wrap64 ((k : Int) * (240 / (size : Int))) + wrap64 ((b.length : Int) / (size : Int))) = ((k * (240 / size) + b.length / size : Nat) : Int) := by rw [hx1, show wrap64 ((b.length : Int) / (size : Int)) = ((b.length / size : Nat) : Int) from w64s (q := b.length / size) (by omega)]; exact w64s (q := k * (240 / size) + b.length / size) (by have := Nat.mul_le_mul (show k ≤ 1000000 by omega) hd3; omega)
  have HX3 := Lib.hid hx3
  clear hx1 hx3
  clear hb1
  go_enter Try.func15, Try.ntmps15
  go_wp2_with fail
  go_region_held3 (fun w' => w'.cell? ⟨sb, 0, none⟩ = some (.pointer (some ⟨p, 0, none⟩)) ∧ w'.cell? ⟨sb, 1, none⟩ = some (.string ⟨n.toArray⟩)) (first | exact hk2 | go_keep) (first | (go_at_call 10; refine (HPG.out _ (gr_drew _ none)).mono ?_; rintro e w2 ⟨rfl, g2⟩; have hs2 := HS.out.ext (gr_none (gr_drew _ none) g2); have hk2 := (⟨hs2.box.cell 0, hs2.box.cell 1⟩ : _ ∧ _)))
  all_goals
    have G12 : Hid (w.grownBy w2 none) := gr_none (gr_drew _ none) g2
    have HS2 := Lib.hid hs2
    have k0 : w2.cell? ⟨sb, 0, none⟩ = some (.pointer (some ⟨p, 0, none⟩)) := hs2.box.cell 0
    have k1 : w2.cell? ⟨sb, 1, none⟩ = some (.string ⟨n.toArray⟩) := hs2.box.cell 1
    clear g2 hs2 hk2 c0 c1
    go_wp2_with fail
    go_region_held3 (fun w' => w'.cell? ⟨sb, 0, none⟩ = some (.pointer (some ⟨p, 0, none⟩)) ∧ w'.cell? ⟨sb, 1, none⟩ = some (.string ⟨n.toArray⟩)) (first | exact hk2 | go_keep) (first | (go_at_call 11; refine (HRD.out _ (gr_none G12.out (gr_drew _ none))).mono ?_; rintro e w3 ⟨v3, rfl, hv3, hz3', hs3, hq3⟩; have hk2 := (⟨hs3.box.cell 0, hs3.box.cell 1⟩ : _ ∧ _)))
    all_goals
      obtain ⟨A3, c3, rfl⟩ := RdB.form (Own.rd hv3)
      have HS3 := Lib.hid hs3
      have HQ3 := Lib.hid hq3
      have j2 : w3.cell? ⟨sb, 2, none⟩ = some (.int .i64 size) := hs3.box.cell 2
      clear hs3 hq3 hk2 k0 k1 hv3
      go_wp2_with fail
      have PER := sper_q HS3.out
      go_quiet ((go_at_call 36; exact Calls.quiet_of_same (PER _)))
      rw [HX3.out]
      go_wp2
      go_ret2
      exact ⟨rfl, HQ.out _ _ HQ3.out (gr_drewN _ _ none)⟩
set_option maxHeartbeats 4000000 in
theorem spage_of (hs : StR w B p sb n size) {m i : Nat} {b : List UInt8} (hi : i ≤ 1000000000) (hk : i / (240 / size) < m) (hb : b.length % size = 0 ∧ i % (240 / size) * size < b.length ∧ b.length ≤ 240) (hpg : PagesIs w p n m) (hrd : ReadIs w B p sb size n (i / (240 / size)) b Q) (hQ : ∀ w w', Q w → w.grownBy w' none → Q w') :
    Calls Try.prog 37 #[.pointer (some ⟨sb, 0, none⟩), .int .i64 i] w fun e w' => ∃ v, e = .returned (.tuple #[v, .int .i64 (i / (240 / size) : Nat), .int .i64 (i % (240 / size) * size : Nat), .int .i64 0]) ∧ OwnB w' w.heap.size v b ∧ w.heap.size ≤ w'.heap.size ∧ StR w' B p sb n size ∧ Q w' := by
  have HPG : Hid (PagesIs w p n m) := hpg
  have HRD : Hid (ReadIs w B p sb size n (i / (240 / size)) b Q) := hrd
  have HS := Lib.hid hs
  have HQ := Lib.hid hQ
  have l1 := hs.lim.1
  have l2 := hs.lim.2
  have c0 : w.cell? ⟨sb, 0, none⟩ = some (.pointer (some ⟨p, 0, none⟩)) := hs.box.cell 0
  have c1 : w.cell? ⟨sb, 1, none⟩ = some (.string ⟨n.toArray⟩) := hs.box.cell 1
  clear hs hpg hrd hQ
  obtain ⟨hb1, hb2, hb3⟩ := hb
  have HB1 := Lib.hid hb1
  have hq1 : (b.length : Int) % (size : Int) = 0 := by omega
  have hz2 : ¬ size = 0 := by omega
  have hz4 : 240 / size ≤ 240 := Nat.div_le_self _ _
  have hz5 : 0 < 240 / size := Nat.div_pos l2 (by omega)
  have hneg : decide ((i : Int) < 0) = false := by simp
  obtain ⟨q, hqq⟩ : ∃ q, q = 240 / size := ⟨_, rfl⟩
  have HPER : Hid (∀ wx k, StR wx B p sb n size → Calls Try.prog 36 #[.pointer (some ⟨sb, 0, none⟩)] (wx.drewN k) fun e w' => e = .returned (.int .i64 q) ∧ w' = wx.drewN k) := fun wx k h => by rw [hqq]; exact sper_q h k
  rw [← hqq] at hk hb2 hz4 hz5 HRD ⊢
  clear hqq
  have hq0 : ¬ q = 0 := by omega
  obtain ⟨k, hkk⟩ : ∃ k, k = i / q := ⟨_, rfl⟩
  obtain ⟨a, haa⟩ : ∃ a, a = i % q * size := ⟨_, rfl⟩
  rw [← hkk] at hk HRD ⊢
  rw [← haa] at hb2 ⊢
  have HKK := Lib.hid hkk
  have HAA := Lib.hid haa
  have HW1 : Hid (wrap64 ((i : Int) / (q : Int)) = (k : Int)) := by
    show _ = _
    rw [hkk]; exact w64s (q := i / q) (Nat.le_trans (Nat.div_le_self _ _) hi)
  have HW2 : Hid (wrap64 ((i : Int) % (q : Int) * (size : Int)) = (a : Int)) := by
    show _ = _
    have hle : i % q * size ≤ 1000000000 := by rw [← haa]; omega
    rw [haa]; exact w64s (q := i % q * size) hle
  have d1 : decide ((m : Int) ≤ (k : Int)) = false := by simp; omega
  have d2 : decide ((b.length : Int) ≤ (a : Int)) = false := by simp; omega
  clear hb1 hkk haa
  go_enter Try.func37, Try.ntmps37
  go_wp2_with fail
  go_region_held3 (fun w' => w'.cell? ⟨sb, 0, none⟩ = some (.pointer (some ⟨p, 0, none⟩)) ∧ w'.cell? ⟨sb, 1, none⟩ = some (.string ⟨n.toArray⟩)) (first | exact hk2 | go_keep) (first | (go_at_call 10; refine (HPG.out _ (gr_drew _ none)).mono ?_; rintro e w2 ⟨rfl, g2⟩; have hs2 := HS.out.ext (gr_none (gr_drew _ none) g2); have hk2 := (⟨hs2.box.cell 0, hs2.box.cell 1⟩ : _ ∧ _)))
  all_goals
    have G12 : Hid (w.grownBy w2 none) := gr_none (gr_drew _ none) g2
    have HS2 := Lib.hid hs2
    have PER := fun k => HPER.out _ k hs2
    have k2 : w2.cell? ⟨sb, 2, none⟩ = some (.int .i64 size) := hs2.box.cell 2
    clear g2 hs2 hk2 c0 c1
    go_wp2_with fail
    go_quiet ((go_at_call 36; exact Calls.quiet_of_same (PER _)))
    clear PER
    rw [HW1.out, HW2.out]
    have G13 : Hid (w.grownBy (w2.drewN nq) none) := gr_none G12.out (gr_drewN _ _ none)
    have k0 : (w2.drewN nq).cell? ⟨sb, 0, none⟩ = some (.pointer (some ⟨p, 0, none⟩)) := HS2.out.box.cell 0
    have k1 : (w2.drewN nq).cell? ⟨sb, 1, none⟩ = some (.string ⟨n.toArray⟩) := HS2.out.box.cell 1
    generalize w2.drewN nq = w3 at *
    go_wp2_with fail
    go_region_held3 (fun w' => w'.cell? ⟨sb, 0, none⟩ = some (.pointer (some ⟨p, 0, none⟩)) ∧ w'.cell? ⟨sb, 1, none⟩ = some (.string ⟨n.toArray⟩)) (first | exact hk2 | go_keep) (first | (go_at_call 11; refine (HRD.out _ (gr_none G13.out (gr_drew _ none))).mono ?_; rintro e w4 ⟨v4, rfl, hv4, hz4', hs4, hq4⟩; have hk2 := (⟨hs4.box.cell 0, hs4.box.cell 1⟩ : _ ∧ _)))
    all_goals
      obtain ⟨A4, c4, rfl⟩ := RdB.form (Own.rd hv4)
      have HV4 := Lib.hid (Own.mono hv4 (Nat.le_trans G13.out.size (gr_drew _ none).size))
      have HS4 := Lib.hid hs4
      have HZ4 := Lib.hid hz4'
      clear hz4'
      have HQ4 := Lib.hid hq4
      have j2 : w4.cell? ⟨sb, 2, none⟩ = some (.int .i64 size) := hs4.box.cell 2
      clear hs4 hq4 hk2 k0 k1 hv4
      go_wp2_with fail
      (try simp only [Exit.inBlock, Exit.then])
      refine bodyPost_ret (results_four rfl _ _ _) rfl ?_
      exact ⟨_, rfl, HV4.out, Nat.le_trans (Nat.le_trans G13.out.size (gr_drew _ none).size) HZ4.out, HS4.out, HQ4.out⟩
set_option maxHeartbeats 4000000 in
theorem sget2_of (hs : StR w B p sb n size) {m i : Nat} {b : List UInt8} (hi : i ≤ 1000000000) (hk : i / (240 / size) < m) (hb : b.length % size = 0 ∧ i % (240 / size) * size < b.length ∧ b.length ≤ 240) (hpg : PagesIs w p n m) (hrd : ReadIs w B p sb size n (i / (240 / size)) b Q) (hQ : ∀ w w', Q w → w.grownBy w' none → Q w') :
    Calls Try.prog 16 #[.pointer (some ⟨sb, 0, none⟩), .int .i64 i] w fun e w' => ∃ v w1, e = .returned (.tuple #[v, .int .i64 0]) ∧ OwnB w' w1.heap.size v ((b.drop (i % (240 / size) * size)).take size) ∧ w.heap.size ≤ w1.heap.size ∧ w1.grownBy w' none ∧ Q w1 := by
  have HPA := Lib.hid (spage_of hs hi hk hb hpg hrd hQ)
  have l1 := hs.lim.1
  have hb1 : b.length % size = 0 := hb.1
  have hle : i % (240 / size) * size + size ≤ b.length := by
    obtain ⟨q, hq⟩ : ∃ q, b.length = q * size := ⟨b.length / size, by rw [Nat.mul_comm]; exact (Nat.mul_div_cancel' (Nat.dvd_of_mod_eq_zero hb1)).symm⟩
    have h2 := hb.2.1
    rw [hq] at h2 ⊢
    have h3 : i % (240 / size) < q := Nat.lt_of_mul_lt_mul_right h2
    calc i % (240 / size) * size + size = (i % (240 / size) + 1) * size := by rw [Nat.add_mul, Nat.one_mul]
      _ ≤ q * size := Nat.mul_le_mul_right _ h3
  obtain ⟨a, ha⟩ : ∃ a, a = i % (240 / size) * size := ⟨_, rfl⟩
  obtain ⟨k, hkk⟩ : ∃ k, k = i / (240 / size) := ⟨_, rfl⟩
  rw [← ha, ← hkk] at HPA
  rw [← ha] at hle ⊢
  have hb3 := hb.2.2
  clear hs hpg hrd hQ hb hk ha hkk hb1
  go_enter Try.func16, Try.ntmps16
  go_wp2_with fail
  refine HPA.out.mono ?_
  rintro e w1 ⟨v1, rfl, o1, hz1', hs1, hq1⟩
  obtain ⟨A1, c1, rfl⟩ := RdB.form (Own.rd o1)
  have hcap := Own.cap o1
  have j2 : w1.cell? ⟨sb, 2, none⟩ = some (.int .i64 size) := hs1.box.cell 2
  have hz1 : IntKind.i64.wrap ((a : Int) + (size : Int)) = ((a + size : Nat) : Int) := by rw [IntWalk.i64_in _ (by omega)]; omega
  have HR : Hid (∀ W, w1.grownBy W none → RdB W (.slice (cutA A1 c1 a 1) (a + size - a) (c1 - a)) ((b.drop a).take size)) := fun W hg => by
    have h1 : RdB W (.slice (cutA A1 c1 a 1) (a + size - a) (c1 - a)) ((b.take (a + size)).drop a) := RdB.cut ((Own.rd o1 : RdB w1 _ b).ext hg) (by omega) hle
    rw [List.drop_take] at h1
    rw [show ((b.drop a).take size) = ((b.drop a).take (a + size - a)) from by rw [show a + size - a = size from by omega]]
    exact h1
  have j3 : (w1.alloc (.cells #[] 5)).cell? ⟨sb, 2, none⟩ = some (.int .i64 size) := (hs1.ext (gr_alloc _ _ none)).box.cell 2
  have HLN : Hid (([] : List UInt8).length + ((b.drop a).take size).length ≤ 70000000000000) := by show _ ≤ _; rw [List.length_take]; simp only [List.length_nil]; omega
  have hnn : ((a + size : Nat) : Int).toNat - a = size := by omega
  have O1 := Lib.hid o1
  have HZ1 := Lib.hid hz1'
  have Q1 := Lib.hid hq1
  clear o1 hs1 hq1 HPA hz1'
  go_wp2_with (at_builtin; refine wp_appB (l := []) (m := (b.drop a).take size) rfl (.tmp 23) (.tmp 32) rfl rfl (own_empty _ _ (Nat.le_refl _)) rfl (HR.out _ (gr_alloc _ _ none)) HLN.out (by simp) ?_; intro v6 w6 h6 g6 a6)
  go_ret2
  exact ⟨_, w1, rfl, h6, HZ1.out, gr_trans (gr_alloc w1 (.cells #[] 5) none) (r' := some w1.heap.size) g6 (.inr fun g e => by cases e; exact Nat.le_refl _), Q1.out⟩
theorem sget_of (hs : StR w B p sb n size) {m i : Nat} {b : List UInt8} (hi : i ≤ 1000000000) (hk : i / (240 / size) < m) (hb : b.length % size = 0 ∧ i % (240 / size) * size < b.length ∧ b.length ≤ 240) (hpg : PagesIs w p n m) (hrd : ReadIs w B p sb size n (i / (240 / size)) b Q) (hQ : ∀ w w', Q w → w.grownBy w' none → Q w') :
    Calls Try.prog 16 #[.pointer (some ⟨sb, 0, none⟩), .int .i64 i] w fun e w' => ∃ v, e = .returned (.tuple #[v, .int .i64 0]) ∧ OwnB w' w.heap.size v ((b.drop (i % (240 / size) * size)).take size) ∧ Q w' :=
  (sget2_of hs hi hk hb hpg hrd hQ).mono fun _ _ ⟨v, w1, e, h1, h2, h3, h4⟩ => ⟨v, e, Own.mono h1 h2, hQ _ _ h4 h3⟩
end
end Go.Proofs.Ytkfokgjpeaibpaa

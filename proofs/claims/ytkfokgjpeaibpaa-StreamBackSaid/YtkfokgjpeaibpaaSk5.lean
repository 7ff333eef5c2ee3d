/-
  stream over files of pages: Set.
-/
import Derived.Test.YtkfokgjpeaibpaaSk3
import Derived.Test.YtkfokgjpeaibpaaDw7
namespace Go.Proofs.Ytkfokgjpeaibpaa
open Go.RowKit Go.Maps
set_option maxRecDepth 100000
set_option maxHeartbeats 400000

section
variable {w w' : World} {B p sb size : Nat} {n : List UInt8} {Q : Value → World → Prop}
def ReadIsV (w : World) (B p sb size : Nat) (n : List UInt8) (k : Nat) (b : List UInt8) (Q : Value → World → Prop) : Prop := ∀ wx, w.grownBy wx none → Calls Try.prog 11 #[.pointer (some ⟨p, 0, none⟩), .string ⟨n.toArray⟩, .int .i64 k] wx fun e w' =>
  ∃ v, e = .returned (.tuple #[v, .int .i64 0]) ∧ OwnB w' wx.heap.size v b ∧ wx.heap.size ≤ w'.heap.size ∧ StR w' B p sb n size ∧ Q v w'
set_option maxHeartbeats 4000000 in
theorem spageV_of (hs : StR w B p sb n size) {m i : Nat} {b : List UInt8} (hi : i ≤ 1000000000) (hk : i / (240 / size) < m) (hb : b.length % size = 0 ∧ i % (240 / size) * size < b.length ∧ b.length ≤ 240) (hpg : PagesIs w p n m) (hrd : ReadIsV w B p sb size n (i / (240 / size)) b Q) :
    Calls Try.prog 37 #[.pointer (some ⟨sb, 0, none⟩), .int .i64 i] w fun e w' => ∃ v, e = .returned (.tuple #[v, .int .i64 (i / (240 / size) : Nat), .int .i64 (i % (240 / size) * size : Nat), .int .i64 0]) ∧ OwnB w' w.heap.size v b ∧ w.heap.size ≤ w'.heap.size ∧ StR w' B p sb n size ∧ Q v w' := by
  have HPG : Hid (PagesIs w p n m) := hpg
  have HRD : Hid (ReadIsV w B p sb size n (i / (240 / size)) b Q) := hrd
  have HS := Lib.hid hs
  have l1 := hs.lim.1
  have l2 := hs.lim.2
  have c0 : w.cell? ⟨sb, 0, none⟩ = some (.pointer (some ⟨p, 0, none⟩)) := hs.box.cell 0
  have c1 : w.cell? ⟨sb, 1, none⟩ = some (.string ⟨n.toArray⟩) := hs.box.cell 1
  clear hs hpg hrd
  obtain ⟨hb1, hb2, hb3⟩ := hb
  have HB1 := Lib.hid hb1
  have hq1 : (b.length : Int) % (size : Int) = 0 := by omega
  have hz2 : ¬ size = 0 := by omega
  have hz4 : 240 / size ≤ 240 := Nat.div_le_self _ _
  have hz5 : 0 < 240 / size := Nat.div_pos l2 (by omega)
  have hneg : decide ((i : Int) < 0) = false := by simp
  obtain ⟨q, hqq⟩ : ∃ q, q = 240 / size := ⟨_, rfl⟩
  have HPER : Hid (∀ wx k, StR wx B p sb n size → Calls Try.prog 36 #[.pointer (some ⟨sb, 0, none⟩)] (wx.drewN k) fun e w' => e = .returned (.int .i64 q) ∧ w' = wx.drewN k) := fun wx k h => by rw [hqq]; exact sper_q h k
  rw [← hqq] at hk hb2 hz4 hz5 HRD ⊢
  clear hqq
  have hq0 : ¬ q = 0 := by omega
  obtain ⟨k, hkk⟩ : ∃ k, k = i / q := ⟨_, rfl⟩
  obtain ⟨a, haa⟩ : ∃ a, a = i % q * size := ⟨_, rfl⟩
  rw [← hkk] at hk HRD ⊢
  rw [← haa] at hb2 ⊢
  have HKK := Lib.hid hkk
  have HAA := Lib.hid haa
  have HW1 : Hid (wrap64 ((i : Int) / (q : Int)) = (k : Int)) := by
    show _ = _
    rw [hkk]; exact w64s (q := i / q) (Nat.le_trans (Nat.div_le_self _ _) hi)
  have HW2 : Hid (wrap64 ((i : Int) % (q : Int) * (size : Int)) = (a : Int)) := by
    show _ = _
    have hle : i % q * size ≤ 1000000000 := by rw [← haa]; omega
    rw [haa]; exact w64s (q := i % q * size) hle
  have d1 : decide ((m : Int) ≤ (k : Int)) = false := by simp; omega
  have d2 : decide ((b.length : Int) ≤ (a : Int)) = false := by simp; omega
  clear hb1 hkk haa
  go_enter Try.func37, Try.ntmps37
  go_wp2_with fail
  go_region_held3 (fun w' => w'.cell? ⟨sb, 0, none⟩ = some (.pointer (some ⟨p, 0, none⟩)) ∧ w'.cell? ⟨sb, 1, none⟩ = some (.string ⟨n.toArray⟩)) (first | exact hk2 | go_keep) (first | (go_at_call 10; refine (HPG.out _ (gr_drew _ none)).mono ?_; rintro e w2 ⟨rfl, g2⟩; have hs2 := HS.out.ext (gr_none (gr_drew _ none) g2); have hk2 := (⟨hs2.box.cell 0, hs2.box.cell 1⟩ : _ ∧ _)))
  all_goals
    have G12 : Hid (w.grownBy w2 none) := gr_none (gr_drew _ none) g2
    have HS2 := Lib.hid hs2
    have PER := fun k => HPER.out _ k hs2
    have k2 : w2.cell? ⟨sb, 2, none⟩ = some (.int .i64 size) := hs2.box.cell 2
    clear g2 hs2 hk2 c0 c1
    go_wp2_with fail
    go_quiet ((go_at_call 36; exact Calls.quiet_of_same (PER _)))
    clear PER
    rw [HW1.out, HW2.out]
    have G13 : Hid (w.grownBy (w2.drewN nq) none) := gr_none G12.out (gr_drewN _ _ none)
    have k0 : (w2.drewN nq).cell? ⟨sb, 0, none⟩ = some (.pointer (some ⟨p, 0, none⟩)) := HS2.out.box.cell 0
    have k1 : (w2.drewN nq).cell? ⟨sb, 1, none⟩ = some (.string ⟨n.toArray⟩) := HS2.out.box.cell 1
    generalize w2.drewN nq = w3 at *
    go_wp2_with fail
    go_region_held3 (fun w' => w'.cell? ⟨sb, 0, none⟩ = some (.pointer (some ⟨p, 0, none⟩)) ∧ w'.cell? ⟨sb, 1, none⟩ = some (.string ⟨n.toArray⟩)) (first | exact hk2 | go_keep) (first | (go_at_call 11; refine (HRD.out _ (gr_none G13.out (gr_drew _ none))).mono ?_; rintro e w4 ⟨v4, rfl, hv4, hz4', hs4, hq4⟩; have hk2 := (⟨hs4.box.cell 0, hs4.box.cell 1⟩ : _ ∧ _)))
    all_goals
      obtain ⟨A4, c4, rfl⟩ := RdB.form (Own.rd hv4)
      have HV4 := Lib.hid (Own.mono hv4 (Nat.le_trans G13.out.size (gr_drew _ none).size))
      have HS4 := Lib.hid hs4
      have HZ4 := Lib.hid hz4'
      clear hz4'
      have HQ4 := Lib.hid hq4
      have j2 : w4.cell? ⟨sb, 2, none⟩ = some (.int .i64 size) := hs4.box.cell 2
      clear hs4 hq4 hk2 k0 k1 hv4
      go_wp2_with fail
      (try simp only [Exit.inBlock, Exit.then])
      refine bodyPost_ret (results_four rfl _ _ _) rfl ?_
      exact ⟨_, rfl, HV4.out, Nat.le_trans (Nat.le_trans G13.out.size (gr_drew _ none).size) HZ4.out, HS4.out, HQ4.out⟩
end
theorem over_overZ (l : List UInt8) (p : Nat) (m : List UInt8) : over l p m = overZ l p m := rfl
section
variable {w0 w w' wb : World} {d p sb size m : Nat} {O O0 : Own1} {F : List Fz} {L : List (List UInt8)} {l : List (List UInt8)}
set_option maxHeartbeats 2000000 in
theorem sset1_any {B0 : Nat} {v : Value} {b : List UInt8} {rv : Value} {r : List UInt8} {ba bx a : Nat} (hv : OwnB w B0 v b) (hr : RdB w rv r) (hb : Blk w bx 27 #[rv]) (hba : Blk w ba 3 #[.int .i64 a]) (hle : a + r.length ≤ b.length) :
    Calls Try.prog 38 #[v, .pointer (some ⟨ba, 0, none⟩), .pointer (some ⟨bx, 0, none⟩)] w fun e w' => e = .returned v ∧ OwnB w' B0 v (overZ b a r) ∧ ∃ q, w.grownBy w' q ∧ ∀ k, q = some k → blk v = some k := by
  obtain ⟨A, c, rfl⟩ := RdB.form (Own.rd hv)
  obtain ⟨A2, c2, rfl⟩ := hr.form
  have c0 : w.cell? ⟨bx, 0, none⟩ = some (.slice A2 r.length c2) := hb.cell 0
  have c1 : w.cell? ⟨ba, 0, none⟩ = some (.int .i64 a) := hba.cell 0
  have HV : Hid (OwnB w.drew B0 (.slice A b.length c) b) := hv.drew
  have HR : Hid (RdB w.drew (.slice A2 r.length c2) r) := hr.ext (gr_drew _ _)
  have hcap := Own.cap hv
  have ha1 : (a : Int) ≤ (b.length : Int) := by omega
  have ha0 : (0 : Int) ≤ (a : Int) := by omega
  clear hv hr hb hba
  go_enter Try.func38, Try.ntmps38
  go_wp2_with fail
  go_still_tail 4, (by kernel_rfl)
  change wpList _ _ _ _ _ w.drew
  refine wp_copyB rfl (.tmp 7) (.tmp 8) rfl (p := a) (cc := c) rfl rfl rfl rfl HV.out hle rfl HR.out ?_
  intro w2 ho2 hx2
  obtain ⟨q, x1, x2, -⟩ := hx2
  have X1 := Lib.hid (gr_trans (gr_drew w q) x1 (.inl rfl))
  have X2 := Lib.hid x2
  have O2 := Lib.hid ho2
  clear x1 x2 ho2
  go_wp2
  go_ret
  exact ⟨rfl, O2.out, q, X1.out, X2.out⟩
set_option maxHeartbeats 4000000 in
theorem sturn_set (h : PF w0 d p O F L m w) (hs : StR w w0.heap.size p sb sn size) (hoff : O sb = none) (hc : Ch O0 wb O w) (hwb : w0.heap.size ≤ wb.heap.size) (hsb : sb < wb.heap.size) {v : Value} {b : List UInt8} (hv : OwnB w wb.heap.size v b) (hvo : ∀ q, v.ownBlock = some q → O q = none) (hm : m ≤ 9000)
    {rv : Value} {r : List UInt8} (hr : RdB w rv r) {ba bx a : Nat} (hb : Blk w bx 27 #[rv]) (hba : Blk w ba 3 #[.int .i64 a]) {k : Nat} (hk : k ≤ 1000000) (hle : a + r.length ≤ b.length) (hbl : b.length ≤ 1000000) :
    Calls Try.prog 32 #[.pointer (some ⟨sb, 0, none⟩), .int .i64 k, v, .func (.func 38) #[] #[.pointer (some ⟨ba, 0, none⟩), .pointer (some ⟨bx, 0, none⟩)]] w fun e w' => e = .returned (.int .i64 (aWrite F sn k (overZ b a r)).2) ∧ ∃ O', PF w0 d p O' (aWrite F sn k (overZ b a r)).1 [] (m + 1) w' ∧ Ch O0 wb O' w' := by
  have c0 : w.cell? ⟨sb, 0, none⟩ = some (.pointer (some ⟨p, 0, none⟩)) := hs.box.cell 0
  have c1 : w.cell? ⟨sb, 1, none⟩ = some (.string ⟨sn.toArray⟩) := hs.box.cell 1
  have HS := Lib.hid hs
  have HLT := Lib.hid (Own.lt hv)
  have HVO := Lib.hid hvo
  have hz := hc.size
  have HAD : Hid (∀ wx, w.grownBy wx none → Calls Try.prog 38 #[v, .pointer (some ⟨ba, 0, none⟩), .pointer (some ⟨bx, 0, none⟩)] wx fun e w' => e = .returned v ∧ OwnB w' wb.heap.size v (overZ b a r) ∧ ∃ q, wx.grownBy w' q ∧ ∀ k, q = some k → blk v = some k) := fun wx hx =>
    sset1_any (hv.ext hx) (hr.ext hx) (hb.ext hx) (hba.ext hx) hle
  have HPF2 : Hid (∀ (wx wy : World) (q : Option Nat), w.grownBy wx none → wx.grownBy wy q → (∀ k, q = some k → blk v = some k) → PF w0 d p O F L m wy ∧ Ch O0 wb O wy ∧ StR wy w0.heap.size p sb sn size) := fun wx wy q hx hy hq => by
    refine ⟨(h.ext hx).far hy fun k e => ⟨HVO.out k (blk_own (hq k e)), by have := HLT.out k (blk_own (hq k e)); omega⟩, ch_far (hc.trans (Ch.ext hx)) hy fun k e => HLT.out k (blk_own (hq k e)), ⟨(HS.out.ext hx).box.gr hy fun e => by have := HLT.out sb (blk_own (hq sb e)); omega, HS.out.sB, HS.out.lim⟩⟩
  have HW : Hid (∀ (wy : World), PF w0 d p O F L m wy → OwnB wy wb.heap.size v (overZ b a r) → Ch O0 wb O wy → Calls Try.prog 22 #[.pointer (some ⟨p, 0, none⟩), .string ⟨sn.toArray⟩, .int .i64 k, v] wy fun e w' => e = .returned (.int .i64 (aWrite F sn k (overZ b a r)).2) ∧ ∃ O', PF w0 d p O' (aWrite F sn k (overZ b a r)).1 [] (m + 1) w' ∧ Ch O wy O' w') := fun wy hy ho hcc => by
    exact hy.write hm (n := sn) (by simp [sn]) (k := k) (by omega) (Own.rd ho) (fun q e => ⟨(Own.blk_lt ho (by omega) e).2, HVO.out q (blk_own e)⟩) (by rw [overZ_len8 (by omega)]; omega)
  obtain ⟨Av, cv, rfl⟩ := RdB.form (Own.rd hv)
  clear h hs hv hr hb hc hvo hba
  go_enter Try.func32, Try.ntmps32
  go_wp2_with fail
  go_region_held3 (fun w' => w'.cell? ⟨sb, 0, none⟩ = some (.pointer (some ⟨p, 0, none⟩)) ∧ w'.cell? ⟨sb, 1, none⟩ = some (.string ⟨sn.toArray⟩)) (first | exact hk2 | go_keep)
    (first
      | ((go_at_call 38); refine (HAD.out _ (gr_drew _ none)).mono ?_; rintro e w2 ⟨rfl, o2, q2, g2, x2⟩; obtain ⟨hpf2, hch2, hs2⟩ := HPF2.out _ _ _ (gr_drew _ none) g2 x2; have hk2 := (⟨hs2.box.cell 0, hs2.box.cell 1⟩ : _ ∧ _); have O2 := Lib.hid o2; have HP2 := Lib.hid hpf2; have HC2 := Lib.hid hch2; have HS2 := Lib.hid hs2; clear o2 hpf2 hch2 hs2)
      | ((go_at_call 22); refine (HW.out _ HP2.out O2.out HC2.out).mono ?_; rintro e w3 ⟨rfl, O3, hp3, ch3⟩; have hs3 := HS2.out.ch ch3 hoff; have hk2 := (⟨hs3.box.cell 0, hs3.box.cell 1⟩ : _ ∧ _)))
  all_goals
    go_wp2_with fail
    go_ret
    exact ⟨rfl, O3, hp3, HC2.out.trans ch3⟩
/-- what Set answers. -/
def SetOutS (w0 : World) (d p sb size : Nat) (O : Own1) (l : List (List UInt8)) (m : Nat) (i : Int) (r : List UInt8) (w : World) (e : Ending) (w' : World) : Prop :=
  ((r.length = size ∧ 0 ≤ i ∧ i < l.length) ∧ e = .returned (.int .i64 0) ∧ STn w0 d p sb size O (l.set i.toNat r) m w w') ∨ (¬ (r.length = size ∧ 0 ≤ i ∧ i < l.length) ∧ (∃ er : Nat, er ≠ 0 ∧ er ≤ 9 ∧ e = .returned (.int .i64 er)) ∧ STn w0 d p sb size O l m w w')
theorem rows_set {r : List UInt8} (h : rowsOk size l) (hr : r.length = size) (i : Nat) : rowsOk size (l.set i r) := fun x hx => by
  rcases List.mem_or_eq_of_mem_set hx with hx | hx
  · exact h x hx
  · rw [hx]; exact hr
theorem set_plain (h1 : 1 ≤ size) (h2 : size ≤ 240) (hl : rowsOk size l) {i : Nat} (hi : i < l.length) {r : List UInt8} (hr : r.length = size) :
    aWrite [⟨sn, chk (240 / size * size) l.flatten⟩] sn ((i / (240 / size) : Nat) : Int) (overZ ((chk (240 / size * size) l.flatten).getD (i / (240 / size)) []) (i % (240 / size) * size) r) = ([⟨sn, chk (240 / size * size) (l.set i r).flatten⟩], 0) := by
  obtain ⟨p1, p2, p3⟩ := per_pos h1 h2
  obtain ⟨r1, r2, r3⟩ := page_rec h1 h2 hl hi
  obtain ⟨l1, l2, l3⟩ := page_of h1 h2 hl r1
  have hb : ((chk (240 / size * size) l.flatten).getD (i / (240 / size)) []).length ≤ 240 / size * size := by
    rw [l1]
    exact Nat.mul_le_mul_right _ (Nat.min_le_left _ _)
  have hps := page_some (c := 240 / size * size) (l := l) r1
  have hdm := Nat.div_add_mod i (240 / size)
  have hml := Nat.mod_lt i p1
  have hpos : i / (240 / size) * (240 / size * size) + i % (240 / size) * size = i * size := by
    rw [← Nat.mul_assoc, ← Nat.add_mul, Nat.mul_comm (i / (240 / size)), hdm]
  have hil := Nat.mul_le_mul_right size (show i + 1 ≤ l.length by omega)
  rw [Nat.add_mul, Nat.one_mul] at hil
  have hq := Nat.mul_le_mul_right size (show i % (240 / size) + 1 ≤ 240 / size by omega)
  rw [Nat.add_mul, Nat.one_mul] at hq
  rw [aWrite_one sn_right _ (Nat.le_of_lt r1) (by rw [overZ_len8 (by omega)]; omega), ← chk_over p2 l.flatten r (by omega) (by rw [hpos, flat_rows hl]; omega) (by omega) hps, hpos, flat_set_row hl hi hr]
set_option maxHeartbeats 4000000 in
theorem ST.set (h : ST w0 d p sb size O l m w) (hm : m ≤ 8000) (hll : l.length ≤ 100000) {i : Int} (hi : -9223372036854775808 ≤ i ∧ i ≤ 9223372036854775807) {rv : Value} {r : List UInt8} (hr : RdB w rv r) (hro : ∀ q, blk rv = some q → q < w.heap.size ∧ O q = none) (hrl : r.length ≤ 100000) :
    Calls Try.prog 17 #[.pointer (some ⟨sb, 0, none⟩), .int .i64 i, rv] w (SetOutS w0 d p sb size O l (m + 2) i r w) := by
  obtain ⟨Ar, cr, rfl⟩ := hr.form
  have h1 := h.st.lim.1
  have h2 := h.st.lim.2
  obtain ⟨p1, p2, p3⟩ := per_pos h1 h2
  have c2 : w.cell? ⟨sb, 2, none⟩ = some (.int .i64 size) := h.st.box.cell 2
  obtain ⟨w1, hw1⟩ : ∃ w1, w1 = w.alloc (.cells #[.slice Ar r.length cr] 27) := ⟨_, rfl⟩
  have HW1 := Lib.hid hw1
  have g1 : w.grownBy w1 none := by rw [hw1]; exact gr_alloc _ _ none
  have hbx : Blk w1 w.heap.size 27 #[.slice Ar r.length cr] := by rw [hw1]; exact Blk.new _ _ _
  have hz1 : w1.heap.size = w.heap.size + 1 := by rw [hw1, World.size_alloc]
  have G1 := Lib.hid g1
  have HBX := Lib.hid hbx
  have HST := Lib.hid h
  have HR := Lib.hid hr
  have HRO := Lib.hid hro
  have hsbl := h.st.box.lt
  have a2 : w1.cell? ⟨sb, 2, none⟩ = some (.int .i64 size) := g1.cell c2 (by simp)
  have a3 : w1.cell? ⟨w.heap.size, 0, none⟩ = some (.slice Ar r.length cr) := hbx.cell 0
  by_cases hsz : r.length = size
  · subst hsz
    have hne : ((r.length : Int) != (r.length : Int)) = false := by simp
    clear hbx g1 hw1 c2 hr hro
    by_cases hin : 0 ≤ i ∧ i < l.length
    · obtain ⟨j, rfl⟩ : ∃ j : Nat, i = (j : Int) := ⟨i.toNat, by omega⟩
      have hj : j < l.length := by omega
      have HFIT : Hid (0 ≤ (j : Int) ∧ (j : Int) < l.length) := ⟨by omega, by omega⟩
      have hkb : ((j / (240 / r.length) : Nat) : Int) ≤ 100000 := Int.ofNat_le.2 (Nat.le_trans (Nat.div_le_self _ _) (show j ≤ 100000 by omega))
      obtain ⟨r1, r2, r3⟩ := page_rec h1 h2 HST.out.rows hj
      obtain ⟨l1, l2, l3⟩ := page_of h1 h2 HST.out.rows r1
      have hkl : j / (240 / r.length) ≤ j := Nat.div_le_self _ _
      have HPLN := Lib.hid (set_plain h1 h2 HST.out.rows hj (r := r) rfl)
      have HRW := Lib.hid (rows_set HST.out.rows (rfl : r.length = r.length) j)
      have hblen : ((chk (240 / r.length * r.length) l.flatten).getD (j / (240 / r.length)) []).length ≤ 240 := by
        rw [l1]
        exact Nat.le_trans (Nat.mul_le_mul_right _ (Nat.min_le_left _ _)) p3
      have HSP : Hid (∀ wx, w1.grownBy wx none → Calls Try.prog 37 #[.pointer (some ⟨sb, 0, none⟩), .int .i64 j] wx fun e w' => ∃ v, e = .returned (.tuple #[v, .int .i64 (j / (240 / r.length) : Nat), .int .i64 (j % (240 / r.length) * r.length : Nat), .int .i64 0]) ∧ OwnB w' wx.heap.size v ((chk (240 / r.length * r.length) l.flatten).getD (j / (240 / r.length)) []) ∧ wx.heap.size ≤ w'.heap.size ∧ StR w' w0.heap.size p sb sn r.length ∧
          ∃ O', ST w0 d p sb r.length O' l (m + 1) w' ∧ Ch O w1 O' w' ∧ ∀ q, v.ownBlock = some q → O' q = none) := fun wx hx => by
        have g9 := gr_none G1.out hx
        refine spageV_of (Q := fun v w' => ∃ O', ST w0 d p sb r.length O' l (m + 1) w' ∧ Ch O w1 O' w' ∧ ∀ q, v.ownBlock = some q → O' q = none) (HST.out.ext g9).st (m := (chk (240 / r.length * r.length) l.flatten).length) (i := j) (by omega) r1 ⟨by rw [l1]; exact Nat.mul_mod_left _ _, by omega, hblen⟩ (HST.out.ext g9).pages (fun wy hy => ?_)
        have gy := gr_none g9 hy
        refine ((HST.out.ext gy).pf.read (by omega) (n := sn) (k := (j / (240 / r.length) : Nat)) (by simp [sn]) ⟨Int.le_trans (by omega) (Int.natCast_nonneg _), Int.le_trans hkb (by omega)⟩).mono ?_
        rw [aRead_one sn_right _ r1]
        rintro e w' ⟨vb, rfl, ho, O', k1, k2, k3⟩
        have hlt := (HST.out.ext gy).st.box.lt
        have hst := (HST.out.ext gy).st.ch k2 HST.out.off
        exact ⟨vb, rfl, ho, k2.size, hst, O', ⟨k1, hst, k2.free sb hlt HST.out.off, HST.out.rows⟩, (Ch.ext (gr_none hx hy)).trans k2, k3⟩
      have hle9 := r3
      obtain ⟨b, hb⟩ : ∃ b, b = (chk (240 / r.length * r.length) l.flatten).getD (j / (240 / r.length)) [] := ⟨_, rfl⟩
      obtain ⟨a, ha⟩ : ∃ a, a = j % (240 / r.length) * r.length := ⟨_, rfl⟩
      obtain ⟨k, hk⟩ : ∃ k, k = j / (240 / r.length) := ⟨_, rfl⟩
      rw [← hb, ← ha] at hle9
      rw [← hk] at hkl
      have HKS : Hid (k ≤ 1000000) := by show k ≤ 1000000; omega
      rw [← hb] at hblen
      have HPL2 : Hid (aWrite [⟨sn, chk (240 / r.length * r.length) l.flatten⟩] sn (k : Int) (overZ b a r) = ([⟨sn, chk (240 / r.length * r.length) (l.set j r).flatten⟩], 0)) := by show _ = _; rw [hb, ha, hk]; exact HPLN.out
      have HSP2 : Hid (∀ wx, w1.grownBy wx none → Calls Try.prog 37 #[.pointer (some ⟨sb, 0, none⟩), .int .i64 j] wx fun e w' => ∃ v, e = .returned (.tuple #[v, .int .i64 k, .int .i64 a, .int .i64 0]) ∧ OwnB w' wx.heap.size v b ∧ wx.heap.size ≤ w'.heap.size ∧ StR w' w0.heap.size p sb sn r.length ∧
          ∃ O', ST w0 d p sb r.length O' l (m + 1) w' ∧ Ch O w1 O' w' ∧ ∀ q, v.ownBlock = some q → O' q = none) := by rw [hb, hk, ha]; exact HSP.out
      have HLE := Lib.hid hle9
      have HBL := Lib.hid hblen
      have HTU : Hid (∀ (wx : World) (O1 : Own1) (v : Value), ST w0 d p sb r.length O1 l (m + 1) wx → Ch O w1 O1 wx → OwnB wx w1.heap.size v b → (∀ q, v.ownBlock = some q → O1 q = none) → Calls Try.prog 32 #[.pointer (some ⟨sb, 0, none⟩), .int .i64 k, v, .func (.func 38) #[] #[.pointer (some ⟨wx.heap.size, 0, none⟩), .pointer (some ⟨w.heap.size, 0, none⟩)]] (wx.alloc (.cells #[.int .i64 a] 3)) fun e w' => e = .returned (.int .i64 0) ∧ STn w0 d p sb r.length O (l.set j r) (m + 2) w w') := fun wx O1 v hx hc ho hq => by
        have ga := gr_alloc wx (.cells #[.int .i64 a] 3) none
        have hrx : RdB wx (.slice Ar r.length cr) r := hc.rd (HR.out.ext G1.out) fun q e => ⟨Nat.lt_of_lt_of_le (HRO.out q e).1 G1.out.size, (HRO.out q e).2⟩
        have hbx := hc.blk HBX.out (HST.out.pf.fresh (Nat.le_refl _))
        have h9 := sturn_set (hx.ext ga).pf (hx.ext ga).st hx.off (((Ch.ext G1.out).trans hc).trans (Ch.ext ga)) HST.out.gr.size hsbl (Own.mono (ho.ext ga) (by omega)) hq (by omega) (hrx.ext ga) (hbx.ext ga) (Blk.new wx 3 #[.int .i64 a]) (k := k) HKS.out HLE.out (by have := HBL.out; omega)
        rw [HPL2.out] at h9
        refine h9.mono ?_
        rintro e w' ⟨rfl, k9⟩
        exact ⟨rfl, HST.out.of HRW.out k9⟩
      clear h hb ha hk hin hkb HSP r1 r2 r3 l1 l2 l3 hkl hle9 hblen HPLN
      go_enter Try.func17, Try.ntmps17
      go_wp2_with fail
      rw [← HW1.out]
      go_quiet (fail)
      have G2 : Hid (w1.grownBy (w1.drewN nq) none) := gr_drewN _ _ _
      generalize w1.drewN nq = w2 at *
      have HSQ := Lib.hid (HSP2.out w2 G2.out)
      clear HSP2
      go_wp2_with fail
      refine HSQ.out.mono ?_
      rintro e w3 ⟨v3, rfl, ho3, hz3, hs3, O3, st3, ch3, q3⟩
      have HTU3 := Lib.hid (HTU.out w3 O3 v3 st3 ch3 (Own.mono ho3 G2.out.size) q3)
      obtain ⟨A3, c3, rfl⟩ := RdB.form (Own.rd ho3)
      clear ho3 hz3 hs3 st3 ch3 q3 HSQ HTU
      go_wp2_with fail
      refine HTU3.out.mono ?_
      rintro e w4 ⟨rfl, k4⟩
      have K4 := Lib.hid k4
      clear k4 HTU3
      go_wp2
      go_ret
      exact .inl ⟨⟨rfl, HFIT.out⟩, rfl, by rw [Int.toNat_natCast]; exact K4.out⟩
    · have HNF : Hid (¬ (0 ≤ i ∧ i < l.length)) := hin
      have HNP : Hid (∀ wx, w1.grownBy wx none → ∃ er : Nat, er ≠ 0 ∧ er ≤ 9 ∧ Calls Try.prog 37 #[.pointer (some ⟨sb, 0, none⟩), .int .i64 i] wx fun e w' => e = .returned (.tuple #[.slice none 0 0, .int .i64 0, .int .i64 0, .int .i64 er]) ∧ STn w0 d p sb r.length O l (m + 1) wx w') := fun wx hx => (HST.out.ext (gr_none G1.out hx)).nopage (by omega) hll hi hin
      clear h
      go_enter Try.func17, Try.ntmps17
      go_wp2_with fail
      rw [← HW1.out]
      go_quiet (fail)
      have G2 : Hid (w1.grownBy (w1.drewN nq) none) := gr_drewN _ _ _
      generalize w1.drewN nq = w2 at *
      obtain ⟨er, e1, e2, hp⟩ := HNP.out w2 G2.out
      have hne2 : ((er : Int) != 0) = true := by rw [bne_iff_ne]; omega
      have HP := Lib.hid hp
      clear hp HNP
      go_wp2_with fail
      refine HP.out.mono ?_
      rintro e w3 ⟨rfl, k3⟩
      have K3 := Lib.hid k3
      clear k3 HP
      go_wp2
      go_ret
      refine .inr ⟨fun h => HNF.out h.2, ⟨er, e1, e2, rfl⟩, ?_⟩
      obtain ⟨O', k1, k2⟩ := K3.out.ext (gr_alloc w3 (.cells #[.int .i64 0] 3) none)
      exact ⟨O', k1.more (by omega) (by omega), (Ch.ext (gr_none G1.out G2.out)).trans k2⟩
  · have hne : ((r.length : Int) != (size : Int)) = true := by rw [bne_iff_ne]; omega
    clear hbx g1 hw1 c2 hr hro h
    go_enter Try.func17, Try.ntmps17
    go_wp2_with fail
    rw [← HW1.out]
    go_quiet (fail)
    go_wp2_with fail
    go_ret
    have g9 : w.grownBy (w1.drewN nq) none := gr_none G1.out (gr_drewN _ _ _)
    exact .inr ⟨fun h => hsz h.1, ⟨1, by omega, by omega, rfl⟩, by obtain ⟨O', k1, k2⟩ := HST.out.stay (by omega) g9; exact ⟨O', k1.more (by omega) (by omega), k2⟩⟩
end
end Go.Proofs.Ytkfokgjpeaibpaa

/- law11 over files of pages: begun. -/
namespace Go.Proofs.Ytkfokgjpeaibpaa
open Go.RowKit Go.Maps
set_option maxRecDepth 100000
set_option maxHeartbeats 400000

theorem chk_nil {c : Nat} (hc : 0 < c) : chk c [] = [] := by
  unfold chk
  rw [show ([] : List UInt8).length + c - 1 = c - 1 from by simp, Nat.div_eq_of_lt (by omega)]; rfl
theorem sopen_of {w : World} {p size m : Nat} {n : List UInt8} (hpg : PagesIs w p n m) (h1 : 1 ≤ size) (h2 : size ≤ 240) :
    Calls Try.prog 14 #[.pointer (some ⟨p, 0, none⟩), .string ⟨n.toArray⟩, .int .i64 size] w fun e w' => ∃ sb, e = .returned (.tuple #[.pointer (some ⟨sb, 0, none⟩), .int .i64 0]) ∧ w.heap.size ≤ sb ∧ StR w' w.heap.size p sb n size ∧ w.grownBy w' none := by
  have HPG := Lib.hid (hpg w (gr_refl _ _))
  have d1 : decide ((size : Int) < 1) = false := by simp; omega
  have d2 : decide ((240 : Int) < (size : Int)) = false := by simp; omega
  clear hpg
  go_enter Try.func14, Try.ntmps14
  go_wp2_with fail
  refine HPG.out.mono ?_
  rintro e w1 ⟨rfl, g1⟩
  have G1 := Lib.hid g1
  clear g1 HPG
  go_wp2
  go_ret2
  exact ⟨_, rfl, G1.out.size, ⟨Blk.new _ _ _, G1.out.size, h1, h2⟩, gr_none G1.out (gr_alloc _ _ _)⟩
set_option maxHeartbeats 4000000 in
theorem begun_st (w : World) (fr size : Nat) (hf1 : 1 ≤ fr) (hf2 : fr ≤ 64) (h1 : 1 ≤ size) (h2 : size ≤ 240) : Calls Try.prog 8 #[.int .i64 fr, .int .i64 size] w fun e w' => ∃ d p sb O,
    e = .returned (.tuple #[.pointer (some ⟨d, 0, none⟩), .pointer (some ⟨p, 0, none⟩), .pointer (some ⟨sb, 0, none⟩)]) ∧ ST w d p sb size O [] 1 w' := by
  have HNEW := Lib.hid (DA.new 65536 w (by omega))
  have HF := Lib.hid (And.intro hf1 hf2)
  have HSZ := Lib.hid (And.intro h1 h2)
  clear hf1 hf2 h1 h2
  go_enter Try.func8, Try.ntmps8
  go_wp2_with fail
  refine HNEW.out.mono ?_
  rintro e w1 ⟨d, o, rfl, h1⟩
  have HPN := Lib.hid (PF.new h1 fr HF.out.1 HF.out.2)
  clear h1 HNEW
  go_wp2_with fail
  refine HPN.out.mono ?_
  rintro e w2 ⟨p, O, rfl, h2, -⟩
  have hcr := h2.create (n := sn) (by omega) (by simp [sn])
  rw [show aCreate [] sn = ([⟨sn, []⟩], 0) from by simp [aCreate, sn_right, Fg]] at hcr
  have HCR := Lib.hid hcr
  clear h2 HPN hcr
  go_wp2_with fail
  refine HCR.out.mono ?_
  rintro e w3 ⟨rfl, O3, h3, -⟩
  have hpg : PagesIs w3 p sn 0 := fun wx hx => by
    have := (h3.ext hx).pages (n := sn) (by simp [sn])
    rw [aErr_one sn_right, aPg_one] at this
    exact this
  have HSO := Lib.hid (sopen_of hpg HSZ.out.1 HSZ.out.2)
  have H3 := Lib.hid h3
  clear h3 HCR hpg
  go_wp2_with fail
  refine HSO.out.mono ?_
  rintro e w4 ⟨sb, rfl, hsb, hst, g4⟩
  have HSB := Lib.hid hsb
  have HST := Lib.hid hst
  have G4 := Lib.hid g4
  clear hsb hst g4 HSO
  go_wp2_with fail
  go_ret3
  refine ⟨d, p, sb, O3, rfl, ?_, ⟨HST.out.box, ?_, HST.out.lim⟩, H3.out.fresh HSB.out, fun r hr => by cases hr⟩
  · have := H3.out.ext G4.out
    rw [show ([] : List (List UInt8)).flatten = [] from rfl, chk_nil (per_pos HSZ.out.1 HSZ.out.2).2.1]
    exact this
  · have := H3.out.gr.size
    have := HSB.out
    omega
end Go.Proofs.Ytkfokgjpeaibpaa

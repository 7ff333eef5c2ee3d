/-
  stream: what is no record; Len, Get over files of pages.
-/
import Derived.Test.YtkfokgjpeaibpaaSk1
namespace Go.Proofs.Ytkfokgjpeaibpaa
open Go.RowKit Go.Maps
set_option maxRecDepth 100000
set_option maxHeartbeats 400000

theorem w64b {q : Nat} (h : q ≤ 9223372036854775807) : wrap64 (q : Int) = (q : Int) := by unfold wrap64; omega
section
variable {w w' : World} {B p sb size : Nat} {n : List UInt8} {Q : World → Prop}
theorem spage_neg (sb : Nat) (i : Int) (hi : i < 0) (w : World) : Calls Try.prog 37 #[.pointer (some ⟨sb, 0, none⟩), .int .i64 i] w fun e w' => e = .returned (.tuple #[.slice none 0 0, .int .i64 0, .int .i64 0, .int .i64 1]) ∧ w = w' := by
  go_enter Try.func37, Try.ntmps37
  go_wp2_with fail
  (try simp only [Exit.inBlock, Exit.then])
  refine bodyPost_ret (results_four rfl _ _ _) rfl ?_
  exact ⟨rfl, rfl⟩
set_option maxHeartbeats 4000000 in
theorem spage_none (hs : StR w B p sb n size) {m i : Nat} (hi : i ≤ 9223372036854775807) (hk : m ≤ i / (240 / size)) (hpg : PagesIs w p n m) :
    Calls Try.prog 37 #[.pointer (some ⟨sb, 0, none⟩), .int .i64 i] w fun e w' => e = .returned (.tuple #[.slice none 0 0, .int .i64 0, .int .i64 0, .int .i64 3]) ∧ w.grownBy w' none := by
  have HPG : Hid (PagesIs w p n m) := hpg
  have HS := Lib.hid hs
  have l1 := hs.lim.1
  have l2 := hs.lim.2
  have c0 : w.cell? ⟨sb, 0, none⟩ = some (.pointer (some ⟨p, 0, none⟩)) := hs.box.cell 0
  have c1 : w.cell? ⟨sb, 1, none⟩ = some (.string ⟨n.toArray⟩) := hs.box.cell 1
  clear hs hpg
  have hz2 : ¬ size = 0 := by omega
  have hz4 : 240 / size ≤ 240 := Nat.div_le_self _ _
  have hz5 : 0 < 240 / size := Nat.div_pos l2 (by omega)
  have hneg : decide ((i : Int) < 0) = false := by simp
  obtain ⟨q, hqq⟩ : ∃ q, q = 240 / size := ⟨_, rfl⟩
  have HPER : Hid (∀ wx k, StR wx B p sb n size → Calls Try.prog 36 #[.pointer (some ⟨sb, 0, none⟩)] (wx.drewN k) fun e w' => e = .returned (.int .i64 q) ∧ w' = wx.drewN k) := fun wx k h => by rw [hqq]; exact sper_q h k
  rw [← hqq] at hk hz4 hz5
  clear hqq
  have hq0 : ¬ q = 0 := by omega
  obtain ⟨k, hkk⟩ : ∃ k, k = i / q := ⟨_, rfl⟩
  obtain ⟨a, haa⟩ : ∃ a, a = i % q * size := ⟨_, rfl⟩
  rw [← hkk] at hk
  have HKK := Lib.hid hkk
  have HAA := Lib.hid haa
  have HW1 : Hid (wrap64 ((i : Int) / (q : Int)) = (k : Int)) := by
    show _ = _
    rw [hkk]; exact w64b (q := i / q) (Nat.le_trans (Nat.div_le_self _ _) hi)
  have HW2 : Hid (wrap64 ((i : Int) % (q : Int) * (size : Int)) = (a : Int)) := by
    show _ = _
    have hle : i % q * size ≤ 1000000000 := by have h8 := Nat.mod_lt i hz5; have h9 := Nat.mul_le_mul (show i % q ≤ 240 by omega) l2; omega
    rw [haa]; exact w64s (q := i % q * size) hle
  have d1 : decide ((m : Int) ≤ (k : Int)) = true := by simp; omega
  clear hkk haa
  go_enter Try.func37, Try.ntmps37
  go_wp2_with fail
  go_region_held3 (fun w' => w'.cell? ⟨sb, 0, none⟩ = some (.pointer (some ⟨p, 0, none⟩)) ∧ w'.cell? ⟨sb, 1, none⟩ = some (.string ⟨n.toArray⟩)) (first | exact hk2 | go_keep) (first | (go_at_call 10; refine (HPG.out _ (gr_drew _ none)).mono ?_; rintro e w2 ⟨rfl, g2⟩; have hs2 := HS.out.ext (gr_none (gr_drew _ none) g2); have hk2 := (⟨hs2.box.cell 0, hs2.box.cell 1⟩ : _ ∧ _)))
  all_goals
    have G12 : Hid (w.grownBy w2 none) := gr_none (gr_drew _ none) g2
    have HS2 := Lib.hid hs2
    have PER := fun k => HPER.out _ k hs2
    have k2 : w2.cell? ⟨sb, 2, none⟩ = some (.int .i64 size) := hs2.box.cell 2
    clear g2 hs2 hk2 c0 c1
    go_wp2_with fail
    go_quiet ((go_at_call 36; exact Calls.quiet_of_same (PER _)))
    clear PER
    rw [HW1.out, HW2.out]
    have G13 : Hid (w.grownBy (w2.drewN nq) none) := gr_none G12.out (gr_drewN _ _ none)
    generalize w2.drewN nq = w3 at *
    go_wp2_with fail
    (try simp only [Exit.inBlock, Exit.then])
    refine bodyPost_ret (results_four rfl _ _ _) rfl ?_
    exact ⟨rfl, G13.out⟩
set_option maxHeartbeats 4000000 in
theorem spage_at (hs : StR w B p sb n size) {m i : Nat} {b : List UInt8} (hi : i ≤ 1000000000) (hk : i / (240 / size) < m) (hb : b.length % size = 0 ∧ b.length ≤ i % (240 / size) * size ∧ b.length ≤ 240) (hpg : PagesIs w p n m) (hrd : ReadIs w B p sb size n (i / (240 / size)) b Q) (hQ : ∀ w w', Q w → w.grownBy w' none → Q w') :
    Calls Try.prog 37 #[.pointer (some ⟨sb, 0, none⟩), .int .i64 i] w fun e w' => e = .returned (.tuple #[.slice none 0 0, .int .i64 0, .int .i64 0, .int .i64 3]) ∧ Q w' := by
  have HPG : Hid (PagesIs w p n m) := hpg
  have HRD : Hid (ReadIs w B p sb size n (i / (240 / size)) b Q) := hrd
  have HS := Lib.hid hs
  have HQ := Lib.hid hQ
  have l1 := hs.lim.1
  have l2 := hs.lim.2
  have c0 : w.cell? ⟨sb, 0, none⟩ = some (.pointer (some ⟨p, 0, none⟩)) := hs.box.cell 0
  have c1 : w.cell? ⟨sb, 1, none⟩ = some (.string ⟨n.toArray⟩) := hs.box.cell 1
  clear hs hpg hrd hQ
  obtain ⟨hb1, hb2, hb3⟩ := hb
  have HB1 := Lib.hid hb1
  have hq1 : (b.length : Int) % (size : Int) = 0 := by omega
  have hz2 : ¬ size = 0 := by omega
  have hz4 : 240 / size ≤ 240 := Nat.div_le_self _ _
  have hz5 : 0 < 240 / size := Nat.div_pos l2 (by omega)
  have hneg : decide ((i : Int) < 0) = false := by simp
  obtain ⟨q, hqq⟩ : ∃ q, q = 240 / size := ⟨_, rfl⟩
  have HPER : Hid (∀ wx k, StR wx B p sb n size → Calls Try.prog 36 #[.pointer (some ⟨sb, 0, none⟩)] (wx.drewN k) fun e w' => e = .returned (.int .i64 q) ∧ w' = wx.drewN k) := fun wx k h => by rw [hqq]; exact sper_q h k
  rw [← hqq] at hk hb2 hz4 hz5 HRD
  clear hqq
  have hq0 : ¬ q = 0 := by omega
  obtain ⟨k, hkk⟩ : ∃ k, k = i / q := ⟨_, rfl⟩
  obtain ⟨a, haa⟩ : ∃ a, a = i % q * size := ⟨_, rfl⟩
  rw [← hkk] at hk HRD
  rw [← haa] at hb2
  have HKK := Lib.hid hkk
  have HAA := Lib.hid haa
  have HW1 : Hid (wrap64 ((i : Int) / (q : Int)) = (k : Int)) := by
    show _ = _
    rw [hkk]; exact w64s (q := i / q) (Nat.le_trans (Nat.div_le_self _ _) hi)
  have HW2 : Hid (wrap64 ((i : Int) % (q : Int) * (size : Int)) = (a : Int)) := by
    show _ = _
    have hle : i % q * size ≤ 1000000000 := by have h8 := Nat.mod_lt i hz5; have h9 := Nat.mul_le_mul (show i % q ≤ 240 by omega) l2; omega
    rw [haa]; exact w64s (q := i % q * size) hle
  have d1 : decide ((m : Int) ≤ (k : Int)) = false := by simp; omega
  have d2 : decide ((b.length : Int) ≤ (a : Int)) = true := by simp; omega
  clear hb1 hkk haa
  go_enter Try.func37, Try.ntmps37
  go_wp2_with fail
  go_region_held3 (fun w' => w'.cell? ⟨sb, 0, none⟩ = some (.pointer (some ⟨p, 0, none⟩)) ∧ w'.cell? ⟨sb, 1, none⟩ = some (.string ⟨n.toArray⟩)) (first | exact hk2 | go_keep) (first | (go_at_call 10; refine (HPG.out _ (gr_drew _ none)).mono ?_; rintro e w2 ⟨rfl, g2⟩; have hs2 := HS.out.ext (gr_none (gr_drew _ none) g2); have hk2 := (⟨hs2.box.cell 0, hs2.box.cell 1⟩ : _ ∧ _)))
  all_goals
    have G12 : Hid (w.grownBy w2 none) := gr_none (gr_drew _ none) g2
    have HS2 := Lib.hid hs2
    have PER := fun k => HPER.out _ k hs2
    have k2 : w2.cell? ⟨sb, 2, none⟩ = some (.int .i64 size) := hs2.box.cell 2
    clear g2 hs2 hk2 c0 c1
    go_wp2_with fail
    go_quiet ((go_at_call 36; exact Calls.quiet_of_same (PER _)))
    clear PER
    rw [HW1.out, HW2.out]
    have G13 : Hid (w.grownBy (w2.drewN nq) none) := gr_none G12.out (gr_drewN _ _ none)
    have k0 : (w2.drewN nq).cell? ⟨sb, 0, none⟩ = some (.pointer (some ⟨p, 0, none⟩)) := HS2.out.box.cell 0
    have k1 : (w2.drewN nq).cell? ⟨sb, 1, none⟩ = some (.string ⟨n.toArray⟩) := HS2.out.box.cell 1
    generalize w2.drewN nq = w3 at *
    go_wp2_with fail
    go_region_held3 (fun w' => w'.cell? ⟨sb, 0, none⟩ = some (.pointer (some ⟨p, 0, none⟩)) ∧ w'.cell? ⟨sb, 1, none⟩ = some (.string ⟨n.toArray⟩)) (first | exact hk2 | go_keep) (first | (go_at_call 11; refine (HRD.out _ (gr_none G13.out (gr_drew _ none))).mono ?_; rintro e w4 ⟨v4, rfl, hv4, hz4', hs4, hq4⟩; have hk2 := (⟨hs4.box.cell 0, hs4.box.cell 1⟩ : _ ∧ _)))
    all_goals
      obtain ⟨A4, c4, rfl⟩ := RdB.form (Own.rd hv4)
      have HV4 := Lib.hid (Own.mono hv4 (Nat.le_trans G13.out.size (gr_drew _ none).size))
      have HS4 := Lib.hid hs4
      have HZ4 := Lib.hid hz4'
      clear hz4'
      have HQ4 := Lib.hid hq4
      have j2 : w4.cell? ⟨sb, 2, none⟩ = some (.int .i64 size) := hs4.box.cell 2
      clear hs4 hq4 hk2 k0 k1 hv4
      go_wp2_with fail
      (try simp only [Exit.inBlock, Exit.then])
      refine bodyPost_ret (results_four rfl _ _ _) rfl ?_
      exact ⟨rfl, HQ4.out⟩
set_option maxHeartbeats 4000000 in
theorem slen_zero (hs : StR w B p sb n size) (hpg : PagesIs w p n 0) : Calls Try.prog 15 #[.pointer (some ⟨sb, 0, none⟩)] w fun e w' => e = .returned (.tuple #[.int .i64 0, .int .i64 0]) ∧ w.grownBy w' none := by
  have HPG : Hid (∀ wx, w.grownBy wx none → Calls Try.prog 10 #[.pointer (some ⟨p, 0, none⟩), .string ⟨n.toArray⟩] wx fun e w' => e = .returned (.tuple #[.int .i64 0, .int .i64 0]) ∧ wx.grownBy w' none) := hpg
  have HS := Lib.hid hs
  have c0 : w.cell? ⟨sb, 0, none⟩ = some (.pointer (some ⟨p, 0, none⟩)) := hs.box.cell 0
  have c1 : w.cell? ⟨sb, 1, none⟩ = some (.string ⟨n.toArray⟩) := hs.box.cell 1
  clear hs hpg
  go_enter Try.func15, Try.ntmps15
  go_wp2_with fail
  go_region_held3 (fun w' => w'.cell? ⟨sb, 0, none⟩ = some (.pointer (some ⟨p, 0, none⟩)) ∧ w'.cell? ⟨sb, 1, none⟩ = some (.string ⟨n.toArray⟩)) (first | exact hk2 | go_keep) (first | (go_at_call 10; refine (HPG.out _ (gr_drew _ none)).mono ?_; rintro e w2 ⟨rfl, g2⟩; have hs2 := HS.out.ext (gr_none (gr_drew _ none) g2); have hk2 := (⟨hs2.box.cell 0, hs2.box.cell 1⟩ : _ ∧ _)))
  all_goals
    have G12 : Hid (w.grownBy w2 none) := gr_none (gr_drew _ none) g2
    clear g2 hs2 hk2 c0 c1
    go_wp2
    go_ret2
    exact ⟨rfl, G12.out⟩
/-- an error of page is Get's. -/
theorem sget_bad {sb : Nat} {i : Int} {e : Nat} (he : e ≠ 0) {R : World → Prop} (hp : Calls Try.prog 37 #[.pointer (some ⟨sb, 0, none⟩), .int .i64 i] w fun e' w' => e' = .returned (.tuple #[.slice none 0 0, .int .i64 0, .int .i64 0, .int .i64 e]) ∧ R w') :
    Calls Try.prog 16 #[.pointer (some ⟨sb, 0, none⟩), .int .i64 i] w fun e' w' => e' = .returned (.tuple #[.slice none 0 0, .int .i64 e]) ∧ R w' := by
  have HP := Lib.hid hp
  have hne : ((e : Int) != 0) = true := by rw [bne_iff_ne]; omega
  clear hp he
  go_enter Try.func16, Try.ntmps16
  go_wp2_with fail
  refine HP.out.mono ?_
  rintro e' w1 ⟨rfl, r1⟩
  have R1 := Lib.hid r1
  clear r1 HP
  go_wp2
  go_ret2
  exact ⟨rfl, R1.out⟩
end

/-! plain -/
section
variable {size : Nat} {l : List (List UInt8)}
/-- a page of records. -/
theorem page_of (h1 : 1 ≤ size) (h2 : size ≤ 240) (hl : rowsOk size l) {k : Nat} (hk : k < (chk (240 / size * size) l.flatten).length) :
    ((chk (240 / size * size) l.flatten).getD k []).length = min (240 / size) (l.length - k * (240 / size)) * size ∧ 0 < min (240 / size) (l.length - k * (240 / size)) ∧ k * (240 / size) < l.length := by
  obtain ⟨p1, p2, p3⟩ := per_pos h1 h2
  rw [chk_len] at hk
  have hk2 := (chk_lt p2 _ k).1 hk
  rw [List.getD_eq_getElem?_getD, chk_at p2, if_pos hk2]
  show ((l.flatten.drop (k * (240 / size * size))).take (240 / size * size)).length = _ ∧ _
  rw [List.length_take, List.length_drop, flat_rows hl]
  rw [flat_rows hl] at hk2
  obtain ⟨q, hq⟩ : ∃ q, q = 240 / size := ⟨_, rfl⟩
  rw [← hq] at p1 hk2 ⊢
  rw [← Nat.mul_assoc] at hk2 ⊢
  have h5 : k * q < l.length := Nat.lt_of_mul_lt_mul_right hk2
  have e : l.length * size - k * q * size = (l.length - k * q) * size := (Nat.sub_mul _ _ _).symm
  rw [e]
  refine ⟨?_, by omega, h5⟩
  rcases Nat.le_total q (l.length - k * q) with h | h
  · rw [Nat.min_eq_left h, Nat.min_eq_left (Nat.mul_le_mul_right _ h)]
  · rw [Nat.min_eq_right h, Nat.min_eq_right (Nat.mul_le_mul_right _ h)]
theorem chk_le (h1 : 1 ≤ size) (h2 : size ≤ 240) (hl : rowsOk size l) : (chk (240 / size * size) l.flatten).length ≤ l.length := by
  obtain ⟨p1, p2, p3⟩ := per_pos h1 h2
  obtain ⟨q, hq⟩ : ∃ q, q = (chk (240 / size * size) l.flatten).length := ⟨_, rfl⟩
  rw [← hq]
  by_cases h0 : q = 0
  · omega
  · have := (page_of h1 h2 hl (k := q - 1) (by omega)).2.2
    have h9 := Nat.mul_le_mul_left (q - 1) p1
    omega
theorem page_some {c : Nat} {k : Nat} (hk : k < (chk c l.flatten).length) : (chk c l.flatten)[k]? = some ((chk c l.flatten).getD k []) := by
  rw [List.getD_eq_getElem?_getD, List.getElem?_eq_getElem hk]; rfl
/-- a record's page. -/
theorem page_rec (h1 : 1 ≤ size) (h2 : size ≤ 240) (hl : rowsOk size l) {i : Nat} (hi : i < l.length) : i / (240 / size) < (chk (240 / size * size) l.flatten).length ∧
    (((chk (240 / size * size) l.flatten).getD (i / (240 / size)) []).drop (i % (240 / size) * size)).take size = l[i] ∧ i % (240 / size) * size + size ≤ ((chk (240 / size * size) l.flatten).getD (i / (240 / size)) []).length := by
  obtain ⟨p1, p2, p3⟩ := per_pos h1 h2
  obtain ⟨q, hq⟩ : ∃ q, q = 240 / size := ⟨_, rfl⟩
  have hdm := Nat.div_add_mod i q
  have hml := Nat.mod_lt i (show 0 < q by rw [hq]; exact p1)
  have hk : i / (240 / size) < (chk (240 / size * size) l.flatten).length := by
    rw [chk_len, chk_lt p2, flat_rows hl, ← Nat.mul_assoc]
    exact Nat.mul_lt_mul_of_pos_right (by rw [← hq, Nat.mul_comm]; omega) h1
  obtain ⟨l1, l2, l3⟩ := page_of h1 h2 hl hk
  have hrow := flat_row hl (List.getElem?_eq_getElem hi)
  refine ⟨hk, ?_, ?_⟩
  · have e1 : (chk (240 / size * size) l.flatten).getD (i / (240 / size)) [] = (l.flatten.drop (i / (240 / size) * (240 / size * size))).take (240 / size * size) := by
      rw [chk_len] at hk
      rw [List.getD_eq_getElem?_getD, chk_at p2, if_pos ((chk_lt p2 _ _).1 hk)]; rfl
    rw [e1, ← hrow]
    rw [← hq]
    apply List.ext_getElem?
    intro j
    rw [take_drop_at l.flatten (i * size) size j, take_drop_at]
    by_cases hj : j < size
    · rw [if_pos hj, if_pos hj, take_drop_at]
      have h7 := Nat.mul_le_mul_right size (show i % q + 1 ≤ q by omega)
      rw [Nat.add_mul, Nat.one_mul] at h7
      rw [if_pos (by omega)]
      congr 1
      have : i * size = i / q * (q * size) + i % q * size := by rw [← Nat.mul_assoc, ← Nat.add_mul, Nat.mul_comm (i / q) q, hdm]
      omega
    · rw [if_neg hj, if_neg hj]
  · rw [l1]
    have h8 : i % (240 / size) + 1 ≤ min (240 / size) (l.length - i / (240 / size) * (240 / size)) := by
      rw [← hq] at *
      have : i / q * q = q * (i / q) := Nat.mul_comm _ _
      omega
    have h9 := Nat.mul_le_mul_right size h8
    rw [Nat.add_mul, Nat.one_mul] at h9
    exact h9
end
section
variable {w0 w w' : World} {d p sb size m : Nat} {O : Own1} {l : List (List UInt8)}
theorem ST.len (h : ST w0 d p sb size O l m w) (hm : m ≤ 9000) (hll : l.length ≤ 100000) : Calls Try.prog 15 #[.pointer (some ⟨sb, 0, none⟩)] w fun e w' => e = .returned (.tuple #[.int .i64 l.length, .int .i64 0]) ∧ STn w0 d p sb size O l (m + 1) w w' := by
  have h1 := h.st.lim.1
  have h2 := h.st.lim.2
  obtain ⟨p1, p2, p3⟩ := per_pos h1 h2
  have hcp := chk_pages h1 h2 h.rows
  by_cases h0 : l.length = 0
  · obtain rfl := List.eq_nil_of_length_eq_zero h0
    have hz : (chk (240 / size * size) ([] : List (List UInt8)).flatten).length = 0 := by
      rw [hcp]
      exact Nat.div_eq_of_lt (by simp; omega)
    have hp := h.pages
    rw [hz] at hp
    refine (slen_zero h.st hp).mono ?_
    rintro e w' ⟨rfl, g1⟩
    obtain ⟨Q, S, a1, a2, a3, a4⟩ := (h.ext g1).pf
    exact ⟨rfl, O, ⟨⟨Q, S, a1, a2.more ⟨by omega, by omega⟩, a3.more (by omega), a4⟩, (h.ext g1).st, h.off, h.rows⟩, Ch.ext g1⟩
  · obtain ⟨q, hq⟩ : ∃ q, q = (chk (240 / size * size) l.flatten).length := ⟨_, rfl⟩
    have hq1 : 1 ≤ q := by
      rw [hq, hcp]
      exact (Nat.le_div_iff_mul_le p1).2 (by omega)
    have hq2 : q ≤ l.length := by
      have := (page_of h1 h2 h.rows (k := q - 1) (by omega)).2.2
      have h9 := Nat.mul_le_mul_left (q - 1) p1
      omega
    obtain ⟨l1, l2, l3⟩ := page_of h1 h2 h.rows (k := q - 1) (by omega)
    have hlast : ¬ q * (240 / size) < l.length := fun hlt => by
      have hfl := flat_rows h.rows
      have : q < (l.flatten.length + 240 / size * size - 1) / (240 / size * size) := (chk_lt p2 _ q).2 (by rw [hfl, ← Nat.mul_assoc]; exact Nat.mul_lt_mul_of_pos_right hlt h1)
      rw [chk_len] at hq
      omega
    have hqm : q * (240 / size) = (q - 1) * (240 / size) + 240 / size := by
      have : q = q - 1 + 1 := by omega
      rw [this, Nat.add_mul, Nat.one_mul]; rfl
    have hmin : min (240 / size) (l.length - (q - 1) * (240 / size)) = l.length - (q - 1) * (240 / size) := Nat.min_eq_right (by omega)
    rw [hmin] at l1 l2
    have hpg := h.pages
    rw [← hq] at hpg
    refine (slen_of h.st (m := q) (b := (chk (240 / size * size) l.flatten).getD (q - 1) []) ⟨hq1, by omega⟩ ⟨by rw [l1]; exact Nat.mul_mod_left _ _, by rw [l1]; exact Nat.mul_pos l2 h1, ?_⟩ hpg (h.read hm (k := q - 1) (by omega) (by omega)) (fun _ _ k g => k.ext g)).mono ?_
    · rw [l1, ← hmin]
      exact Nat.le_trans (Nat.mul_le_mul_right _ (Nat.min_le_left _ _)) p3
    · rintro e w' ⟨rfl, k⟩
      refine ⟨?_, k⟩
      rw [l1, Nat.mul_div_cancel _ h1]
      have : (q - 1) * (240 / size) + (l.length - (q - 1) * (240 / size)) = l.length := by omega
      rw [this]
/-- what Get answers. -/
def GetOut (w0 : World) (d p sb size : Nat) (O : Own1) (l : List (List UInt8)) (m : Nat) (i : Int) (w : World) (e : Ending) (w' : World) : Prop := ∃ O', ST w0 d p sb size O' l m w' ∧ Ch O w O' w' ∧
  ((∃ (r : List UInt8) (v : Value), 0 ≤ i ∧ l[i.toNat]? = some r ∧ e = .returned (.tuple #[v, .int .i64 0]) ∧ OwnB w' w.heap.size v r ∧ ∀ q, v.ownBlock = some q → O' q = none) ∨ (¬ (0 ≤ i ∧ i < l.length) ∧ ∃ er : Nat, er ≠ 0 ∧ er ≤ 9 ∧ e = .returned (.tuple #[.slice none 0 0, .int .i64 er])))
theorem ST.stay (h : ST w0 d p sb size O l m w) (hm : m ≤ 9000) (g1 : w.grownBy w' none) : STn w0 d p sb size O l (m + 1) w w' := by
  obtain ⟨Q, S, a1, a2, a3, a4⟩ := (h.ext g1).pf
  exact ⟨O, ⟨⟨Q, S, a1, a2.more ⟨by omega, by omega⟩, a3.more (by omega), a4⟩, (h.ext g1).st, h.off, h.rows⟩, Ch.ext g1⟩
/-- where there is no record. -/
theorem ST.nopage (h : ST w0 d p sb size O l m w) (hm : m ≤ 9000) (hll : l.length ≤ 100000) {i : Int} (hi : -9223372036854775808 ≤ i ∧ i ≤ 9223372036854775807) (hno : ¬ (0 ≤ i ∧ i < l.length)) :
    ∃ er : Nat, er ≠ 0 ∧ er ≤ 9 ∧ Calls Try.prog 37 #[.pointer (some ⟨sb, 0, none⟩), .int .i64 i] w fun e w' => e = .returned (.tuple #[.slice none 0 0, .int .i64 0, .int .i64 0, .int .i64 er]) ∧ STn w0 d p sb size O l (m + 1) w w' := by
  have h1 := h.st.lim.1
  have h2 := h.st.lim.2
  obtain ⟨p1, p2, p3⟩ := per_pos h1 h2
  by_cases hneg : i < 0
  · refine ⟨1, by omega, by omega, (spage_neg sb i hneg w).mono ?_⟩
    rintro e w' ⟨rfl, rfl⟩
    exact ⟨rfl, h.stay hm (gr_refl _ _)⟩
  · obtain ⟨j, rfl⟩ : ∃ j : Nat, i = (j : Int) := ⟨i.toNat, by omega⟩
    refine ⟨3, by omega, by omega, ?_⟩
    by_cases hk : j / (240 / size) < (chk (240 / size * size) l.flatten).length
    · obtain ⟨l1, l2, l3⟩ := page_of h1 h2 h.rows hk
      have hq2 := chk_le h1 h2 h.rows
      have hjm := Nat.mod_lt j p1
      have hdm := Nat.div_add_mod j (240 / size)
      have h240 : 240 / size ≤ 240 := Nat.div_le_self _ _
      have hjs : j ≤ 1000000000 := by
        have h9 := Nat.mul_le_mul (show 240 / size ≤ 240 from h240) (show j / (240 / size) ≤ 100000 by omega)
        omega
      refine (spage_at h.st (m := (chk (240 / size * size) l.flatten).length) (i := j) (b := (chk (240 / size * size) l.flatten).getD (j / (240 / size)) []) hjs hk ⟨by rw [l1]; exact Nat.mul_mod_left _ _, ?_, ?_⟩ h.pages (h.read hm hk (by omega)) (fun _ _ k g => k.ext g)).mono ?_
      · rw [l1]
        refine Nat.mul_le_mul_right _ ?_
        have : j / (240 / size) * (240 / size) = 240 / size * (j / (240 / size)) := Nat.mul_comm _ _
        have hj2 : l.length ≤ j := by omega
        omega
      · rw [l1]
        exact Nat.le_trans (Nat.mul_le_mul_right _ (Nat.min_le_left _ _)) p3
      · rintro e w' ⟨rfl, k⟩
        exact ⟨rfl, k⟩
    · refine (spage_none h.st (m := (chk (240 / size * size) l.flatten).length) (i := j) (by omega) (by omega) h.pages).mono ?_
      rintro e w' ⟨rfl, g⟩
      exact ⟨rfl, h.stay hm g⟩
theorem ST.get (h : ST w0 d p sb size O l m w) (hm : m ≤ 9000) (hll : l.length ≤ 100000) {i : Int} (hi : -9223372036854775808 ≤ i ∧ i ≤ 9223372036854775807) :
    Calls Try.prog 16 #[.pointer (some ⟨sb, 0, none⟩), .int .i64 i] w (GetOut w0 d p sb size O l (m + 1) i w) := by
  by_cases hno : 0 ≤ i ∧ i < l.length
  · have h1 := h.st.lim.1
    have h2 := h.st.lim.2
    obtain ⟨p1, p2, p3⟩ := per_pos h1 h2
    obtain ⟨j, rfl⟩ : ∃ j : Nat, i = (j : Int) := ⟨i.toNat, by omega⟩
    have hj : j < l.length := by omega
    obtain ⟨r1, r2, r3⟩ := page_rec h1 h2 h.rows hj
    obtain ⟨l1, l2, l3⟩ := page_of h1 h2 h.rows r1
    have hkl : j / (240 / size) ≤ j := Nat.div_le_self _ _
    refine (sget2_of h.st (m := (chk (240 / size * size) l.flatten).length) (i := j) (b := (chk (240 / size * size) l.flatten).getD (j / (240 / size)) []) (by omega) r1 ⟨by rw [l1]; exact Nat.mul_mod_left _ _, by omega, ?_⟩ h.pages (h.read hm r1 (by omega)) (fun _ _ k g => k.ext g)).mono ?_
    · rw [l1]
      exact Nat.le_trans (Nat.mul_le_mul_right _ (Nat.min_le_left _ _)) p3
    · rintro e w' ⟨v, w1, rfl, ho, hz, g1, O', k1, k2⟩
      rw [r2] at ho
      exact ⟨O', k1.ext g1, k2.trans (Ch.ext g1), .inl ⟨l[j], v, by omega, by rw [Int.toNat_natCast, List.getElem?_eq_getElem hj], rfl, Own.mono ho hz, fun q e => k1.pf.fresh (Own.lt ho q e)⟩⟩
  · obtain ⟨er, e1, e2, hp⟩ := h.nopage hm hll hi hno
    refine (sget_bad e1 hp).mono ?_
    rintro e w' ⟨rfl, O', k1, k2⟩
    exact ⟨O', k1, k2, .inr ⟨hno, er, e1, e2, rfl⟩⟩
end
end Go.Proofs.Ytkfokgjpeaibpaa

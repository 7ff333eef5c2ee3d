/-
  stream over files of pages: Add.
-/
import Derived.Test.YtkfokgjpeaibpaaSk2
namespace Go.Proofs.Ytkfokgjpeaibpaa
open Go.RowKit Go.Maps
set_option maxRecDepth 100000
set_option maxHeartbeats 400000

section
variable {w0 w w' wb : World} {d p sb size m : Nat} {O O0 : Own1} {F : List Fz} {L : List (List UInt8)} {l : List (List UInt8)}
theorem sadd2_any {B0 : Nat} {v : Value} {l : List UInt8} {rv : Value} {r : List UInt8} {bx : Nat} (hv : OwnB w B0 v l) (hr : RdB w rv r) (hb : Blk w bx 27 #[rv]) (hn : l.length + r.length ≤ 1000000) (hB : B0 ≤ w.heap.size) :
    Calls Try.prog 31 #[v, .pointer (some ⟨bx, 0, none⟩)] w fun e w' => ∃ v', e = .returned v' ∧ OwnB w' B0 v' (l ++ r) ∧ w.grownBy w' v.ownBlock ∧ (v'.ownBlock = v.ownBlock ∨ ∃ k, v'.ownBlock = some k ∧ w.heap.size ≤ k) := by
  obtain ⟨A, c, rfl⟩ := RdB.form (Own.rd hv)
  obtain ⟨A2, c2, rfl⟩ := hr.form
  have c0 : w.cell? ⟨bx, 0, none⟩ = some (.slice A2 r.length c2) := hb.cell 0
  have HV := Lib.hid hv
  have HR := Lib.hid hr
  clear hv hr hb
  go_enter Try.func31, Try.ntmps31
  go_wp2_with (at_builtin; refine wp_appB rfl (.tmp 4) (.tmp 5) rfl rfl HV.out rfl HR.out (by omega) hB ?_; intro v6 w6 h6 g6 a6)
  go_ret
  exact ⟨_, rfl, h6, g6, a6⟩
theorem blk_own {v : Value} {q : Nat} (h : blk v = some q) : v.ownBlock = some q := by
  unfold blk at h
  split at h
  · split at h
    · cases h
    · exact h
  · cases h
set_option maxHeartbeats 4000000 in
theorem sturn_app (h : PF w0 d p O F L m w) (hs : StR w w0.heap.size p sb sn size) (hoff : O sb = none) (hc : Ch O0 wb O w) (hwb : w0.heap.size ≤ wb.heap.size) (hsb : sb < wb.heap.size) {v : Value} {b : List UInt8} (hv : OwnB w wb.heap.size v b) (hvo : ∀ q, v.ownBlock = some q → O q = none) (hm : m ≤ 9000)
    {rv : Value} {r : List UInt8} (hr : RdB w rv r) {bx : Nat} (hb : Blk w bx 27 #[rv]) {k : Nat} (hk : k ≤ 1000000) (hlen : b.length + r.length ≤ 1000000) :
    Calls Try.prog 32 #[.pointer (some ⟨sb, 0, none⟩), .int .i64 k, v, .func (.func 31) #[] #[.pointer (some ⟨bx, 0, none⟩)]] w fun e w' => e = .returned (.int .i64 (aWrite F sn k (b ++ r)).2) ∧ ∃ O', PF w0 d p O' (aWrite F sn k (b ++ r)).1 [] (m + 1) w' ∧ Ch O0 wb O' w' := by
  have c0 : w.cell? ⟨sb, 0, none⟩ = some (.pointer (some ⟨p, 0, none⟩)) := hs.box.cell 0
  have c1 : w.cell? ⟨sb, 1, none⟩ = some (.string ⟨sn.toArray⟩) := hs.box.cell 1
  have HS := Lib.hid hs
  have HLT := Lib.hid (Own.lt hv)
  have HVO := Lib.hid hvo
  have hz := hc.size
  have HAD : Hid (∀ wx, w.grownBy wx none → Calls Try.prog 31 #[v, .pointer (some ⟨bx, 0, none⟩)] wx fun e w' => ∃ v', e = .returned v' ∧ OwnB w' wb.heap.size v' (b ++ r) ∧ wx.grownBy w' v.ownBlock ∧ ∀ q, v'.ownBlock = some q → O q = none) := fun wx hx => by
    refine (sadd2_any (hv.ext hx) (hr.ext hx) (hb.ext hx) hlen (by have := hx.size; omega)).mono ?_
    rintro e w' ⟨v', rfl, o', g', q'⟩
    refine ⟨v', rfl, o', g', fun q e => ?_⟩
    rcases q' with q3 | ⟨k3, q3, q4⟩
    · exact HVO.out q (q3 ▸ e)
    · rw [q3] at e
      cases e
      exact h.fresh (Nat.le_trans hx.size q4)
  have HPF2 : Hid (∀ (wx wy : World), w.grownBy wx none → wx.grownBy wy v.ownBlock → PF w0 d p O F L m wy ∧ Ch O0 wb O wy ∧ StR wy w0.heap.size p sb sn size) := fun wx wy hx hy => by
    refine ⟨(h.ext hx).far hy fun k e => ⟨HVO.out k e, by have := HLT.out k e; omega⟩, ch_far (hc.trans (Ch.ext hx)) hy fun k e => HLT.out k e, ⟨(HS.out.ext hx).box.gr hy fun e => by have := HLT.out sb e; omega, HS.out.sB, HS.out.lim⟩⟩
  have HW : Hid (∀ (wy : World) (v' : Value), PF w0 d p O F L m wy → OwnB wy wb.heap.size v' (b ++ r) → (∀ q, v'.ownBlock = some q → O q = none) → Ch O0 wb O wy → Calls Try.prog 22 #[.pointer (some ⟨p, 0, none⟩), .string ⟨sn.toArray⟩, .int .i64 k, v'] wy fun e w' => e = .returned (.int .i64 (aWrite F sn k (b ++ r)).2) ∧ ∃ O', PF w0 d p O' (aWrite F sn k (b ++ r)).1 [] (m + 1) w' ∧ Ch O wy O' w') := fun wy v' hy ho hq hcc => by
    exact hy.write hm (n := sn) (by simp [sn]) (k := k) (by omega) (Own.rd ho) (fun q e => ⟨(Own.blk_lt ho (by omega) e).2, hq q (blk_own e)⟩) (by simp; omega)
  clear h hs hv hr hb hc hvo
  go_enter Try.func32, Try.ntmps32
  go_wp2_with fail
  go_region_held3 (fun w' => w'.cell? ⟨sb, 0, none⟩ = some (.pointer (some ⟨p, 0, none⟩)) ∧ w'.cell? ⟨sb, 1, none⟩ = some (.string ⟨sn.toArray⟩)) (first | exact hk2 | go_keep)
    (first
      | ((go_at_call 31); refine (HAD.out _ (gr_drew _ none)).mono ?_; rintro e w2 ⟨v2, rfl, o2, g2, q2⟩; obtain ⟨hpf2, hch2, hs2⟩ := HPF2.out _ _ (gr_drew _ none) g2; have hk2 := (⟨hs2.box.cell 0, hs2.box.cell 1⟩ : _ ∧ _); have hq2 := Lib.hid q2; have O2 := Lib.hid o2; have HP2 := Lib.hid hpf2; have HC2 := Lib.hid hch2; have HS2 := Lib.hid hs2; clear o2 hpf2 hch2 hs2 q2)
      | ((go_at_call 22); refine (HW.out _ _ HP2.out O2.out hq2.out HC2.out).mono ?_; rintro e w3 ⟨rfl, O3, hp3, ch3⟩; have hs3 := HS2.out.ch ch3 hoff; have hk2 := (⟨hs3.box.cell 0, hs3.box.cell 1⟩ : _ ∧ _)))
  all_goals
    go_wp2_with fail
    go_ret
    exact ⟨rfl, O3, hp3, HC2.out.trans ch3⟩
/-- what Add answers. -/
def AddOutS (w0 : World) (d p sb size : Nat) (O : Own1) (l : List (List UInt8)) (m : Nat) (r : List UInt8) (w : World) (e : Ending) (w' : World) : Prop :=
  (r.length = size ∧ e = .returned (.int .i64 0) ∧ STn w0 d p sb size O (l ++ [r]) m w w') ∨ (r.length ≠ size ∧ e = .returned (.int .i64 1) ∧ STn w0 d p sb size O l m w w')
theorem ST.more (h : ST w0 d p sb size O l m w) {m' : Nat} (hm : m ≤ m') (hm2 : m' ≤ 10000) : ST w0 d p sb size O l m' w := by
  obtain ⟨⟨Q, S, a1, a2, a3, a4⟩, h2, h3, h4⟩ := h
  exact ⟨⟨Q, S, a1, a2.more ⟨hm, hm2⟩, a3.more hm, a4⟩, h2, h3, h4⟩
theorem rows_app {r : List UInt8} (h : rowsOk size l) (hr : r.length = size) : rowsOk size (l ++ [r]) := fun x hx => by
  rcases List.mem_append.1 hx with hx | hx
  · exact h x hx
  · have : x = r := by simpa using hx
    rw [this]; exact hr
theorem add_plain {size : Nat} {l : List (List UInt8)} (h1 : 1 ≤ size) (h2 : size ≤ 240) (hl : rowsOk size l) {k : Nat} (hk : (chk (240 / size * size) l.flatten).length = k + 1) {r : List UInt8} (hr : r.length = size) :
    (((chk (240 / size * size) l.flatten).getD k []).length + size ≤ 240 → aWrite [⟨sn, chk (240 / size * size) l.flatten⟩] sn k ((chk (240 / size * size) l.flatten).getD k [] ++ r) = ([⟨sn, chk (240 / size * size) (l ++ [r]).flatten⟩], 0)) ∧
    (240 < ((chk (240 / size * size) l.flatten).getD k []).length + size → aWrite [⟨sn, chk (240 / size * size) l.flatten⟩] sn ((k + 1 : Nat) : Int) ([] ++ r) = ([⟨sn, chk (240 / size * size) (l ++ [r]).flatten⟩], 0)) := by
  obtain ⟨p1, p2, p3⟩ := per_pos h1 h2
  have hfl : (l ++ [r]).flatten = l.flatten ++ r := by simp
  obtain ⟨l1, l2, l3⟩ := page_of h1 h2 hl (k := k) (by omega)
  have hps := page_some (c := 240 / size * size) (l := l) (k := k) (by omega)
  obtain ⟨u, hu⟩ : ∃ u, u = min (240 / size) (l.length - k * (240 / size)) := ⟨_, rfl⟩
  rw [← hu] at l1 l2
  refine ⟨fun h => ?_, fun h => ?_⟩
  · have hle : (u + 1) * size ≤ 240 / size * size := by
      refine Nat.mul_le_mul_right _ ((Nat.le_div_iff_mul_le h1).2 ?_)
      rw [Nat.add_mul, Nat.one_mul]; omega
    rw [Nat.add_mul, Nat.one_mul] at hle
    rw [aWrite_one sn_right _ (by omega) (by rw [List.length_append]; omega), hfl, chk_app p2 l.flatten r hk hps (by omega)]
  · have hge : 240 / size ≤ u := by
      rcases Nat.lt_or_ge u (240 / size) with h9 | h9
      · exfalso
        have := Nat.mul_le_mul_right size (show u + 1 ≤ 240 / size by omega)
        rw [Nat.add_mul, Nat.one_mul] at this
        omega
      · exact h9
    have hup : 240 / size = u := by omega
    have hL : l.flatten.length = (k + 1) * (240 / size * size) := by
      have hfr := flat_rows hl
      have hlast : ¬ (k + 1) * (240 / size * size) < l.flatten.length := fun hlt => by
        have := (chk_lt p2 l.flatten (k + 1)).2 hlt
        rw [chk_len] at hk
        rw [hk] at this
        omega
      have hge2 : (k + 1) * (240 / size) ≤ l.length := by
        rw [Nat.add_mul, Nat.one_mul]
        omega
      have := Nat.mul_le_mul_right size hge2
      rw [Nat.mul_assoc] at this
      omega
    rw [List.nil_append, aWrite_one sn_right _ (by omega) (by omega), hfl, chk_new p2 l.flatten r (n := k + 1) hk hL ⟨by omega, by rw [hr]; exact Nat.le_mul_of_pos_left _ p1⟩]
set_option maxHeartbeats 4000000 in
theorem ST.add (h : ST w0 d p sb size O l m w) (hm : m ≤ 8000) (hll : l.length ≤ 100000) {rv : Value} {r : List UInt8} (hr : RdB w rv r) (hro : ∀ q, blk rv = some q → q < w.heap.size ∧ O q = none) (hrl : r.length ≤ 100000) :
    Calls Try.prog 9 #[.pointer (some ⟨sb, 0, none⟩), rv] w (AddOutS w0 d p sb size O l (m + 2) r w) := by
  obtain ⟨Ar, cr, rfl⟩ := hr.form
  have h1 := h.st.lim.1
  have h2 := h.st.lim.2
  obtain ⟨p1, p2, p3⟩ := per_pos h1 h2
  have c0 : w.cell? ⟨sb, 0, none⟩ = some (.pointer (some ⟨p, 0, none⟩)) := h.st.box.cell 0
  have c1 : w.cell? ⟨sb, 1, none⟩ = some (.string ⟨sn.toArray⟩) := h.st.box.cell 1
  have c2 : w.cell? ⟨sb, 2, none⟩ = some (.int .i64 size) := h.st.box.cell 2
  obtain ⟨w1, hw1⟩ : ∃ w1, w1 = w.alloc (.cells #[.slice Ar r.length cr] 27) := ⟨_, rfl⟩
  have HW1 := Lib.hid hw1
  have g1 : w.grownBy w1 none := by rw [hw1]; exact gr_alloc _ _ none
  have hbx : Blk w1 w.heap.size 27 #[.slice Ar r.length cr] := by rw [hw1]; exact Blk.new _ _ _
  have G1 := Lib.hid g1
  have HBX := Lib.hid hbx
  have HST := Lib.hid h
  have HR := Lib.hid hr
  have HRO := Lib.hid hro
  have hsbl := h.st.box.lt
  have a0 : w1.cell? ⟨sb, 0, none⟩ = some (.pointer (some ⟨p, 0, none⟩)) := g1.cell c0 (by simp)
  have a1 : w1.cell? ⟨sb, 1, none⟩ = some (.string ⟨sn.toArray⟩) := g1.cell c1 (by simp)
  have a2 : w1.cell? ⟨sb, 2, none⟩ = some (.int .i64 size) := g1.cell c2 (by simp)
  have a3 : w1.cell? ⟨w.heap.size, 0, none⟩ = some (.slice Ar r.length cr) := hbx.cell 0
  by_cases hsz : r.length = size
  · subst hsz
    have hne : ((r.length : Int) != (r.length : Int)) = false := by simp
    obtain ⟨N, hN⟩ : ∃ N, N = (chk (240 / r.length * r.length) l.flatten).length := ⟨_, rfl⟩
    have HPG : Hid (∀ wx, w.grownBy wx none → Calls Try.prog 10 #[.pointer (some ⟨p, 0, none⟩), .string ⟨sn.toArray⟩] wx fun e w' => e = .returned (.tuple #[.int .i64 N, .int .i64 0]) ∧ wx.grownBy w' none) := by rw [hN]; exact h.pages
    have hNl : N ≤ l.length := by rw [hN]; exact chk_le h1 h2 h.rows
    have hfl : (l ++ [r]).flatten = l.flatten ++ r := by simp
    have HRW := Lib.hid (rows_app h.rows (rfl : r.length = r.length))
    clear hbx g1 hw1 c0 c1 c2 hr hro
    by_cases hN0 : N = 0
    · have hl0 : l.flatten.length = 0 := by
        rcases Nat.eq_zero_or_pos l.flatten.length with h9 | h9
        · exact h9
        · have := (chk_lt p2 l.flatten 0).2 (by omega)
          rw [chk_len] at hN
          omega
      have HEQ : Hid (aWrite [⟨sn, chk (240 / r.length * r.length) l.flatten⟩] sn (0 : Nat) ([] ++ r) = ([⟨sn, chk (240 / r.length * r.length) (l ++ [r]).flatten⟩], 0)) := by
        show _ = _
        rw [List.nil_append, aWrite_one sn_right _ (by omega) (by omega), hfl, chk_new p2 l.flatten r (n := 0) (by omega) (by rw [hl0]; omega) ⟨by omega, Nat.le_mul_of_pos_left _ p1⟩]
      have HT : Hid (∀ wx, w1.grownBy wx none → Calls Try.prog 32 #[.pointer (some ⟨sb, 0, none⟩), .int .i64 0, .slice none 0 0, .func (.func 31) #[] #[.pointer (some ⟨w.heap.size, 0, none⟩)]] wx fun e w' => e = .returned (.int .i64 0) ∧ STn w0 d p sb r.length O (l ++ [r]) (m + 2) w w') := fun wx hx => by
        have g0 := gr_none G1.out hx
        have h9 := sturn_app (HST.out.ext g0).pf (HST.out.ext g0).st HST.out.off (Ch.ext g0) HST.out.gr.size hsbl (OwnB.nil _ _) (fun q e => by cases e) (by omega) (HR.out.ext g0) (HBX.out.ext hx) (k := 0) (by omega) (by simp; omega)
        rw [HEQ.out] at h9
        refine h9.mono ?_
        rintro e w' ⟨rfl, k⟩
        exact ⟨rfl, by obtain ⟨O', k1, k2⟩ := HST.out.of HRW.out k; exact ⟨O', k1.more (by omega) (by omega), k2⟩⟩
      subst hN0
      clear hN h HEQ
      go_enter Try.func9, Try.ntmps9
      go_wp2_with fail
      rw [← HW1.out]
      go_quiet (fail)
      go_wp2_with fail
      go_region_held3 (fun w' => w'.cell? ⟨sb, 0, none⟩ = some (.pointer (some ⟨p, 0, none⟩)) ∧ w'.cell? ⟨sb, 1, none⟩ = some (.string ⟨sn.toArray⟩)) (first | exact hk2 | go_keep) (first | (go_at_call 10; refine (HPG.out _ (gr_none G1.out (gr_none (gr_drewN _ _ none) (gr_drew _ none)))).mono ?_; rintro e w2 ⟨rfl, g2⟩; have hs2 := HST.out.st.ext (gr_none (gr_none G1.out (gr_none (gr_drewN _ _ none) (gr_drew _ none))) g2); have hk2 := (⟨hs2.box.cell 0, hs2.box.cell 1⟩ : _ ∧ _)))
      all_goals
        have g12 : w1.grownBy w2 none := gr_none (gr_none (gr_drewN _ _ none) (gr_drew _ none)) g2
        have G12 := Lib.hid g12
        clear g2 g12 hs2 hk2
        go_wp2_with fail
        refine (HT.out _ G12.out).mono ?_
        rintro e w3 ⟨rfl, k3⟩
        have K3 := Lib.hid k3
        clear k3 HT
        go_wp2_with fail
        go_ret
        exact   .inl ⟨rfl, rfl, K3.out⟩
    · obtain ⟨k, rfl⟩ : ∃ k, N = k + 1 := ⟨N - 1, by omega⟩
      obtain ⟨pl1, pl2⟩ := add_plain h1 h2 HST.out.rows hN.symm (r := r) rfl
      obtain ⟨q1, q2, q3⟩ := page_of h1 h2 HST.out.rows (k := k) (by omega)
      have hblen : ((chk (240 / r.length * r.length) l.flatten).getD k []).length ≤ 240 := by
        rw [q1]
        exact Nat.le_trans (Nat.mul_le_mul_right _ (Nat.min_le_left _ _)) p3
      have HRD : Hid (∀ wx, w1.grownBy wx none → Calls Try.prog 11 #[.pointer (some ⟨p, 0, none⟩), .string ⟨sn.toArray⟩, .int .i64 k] wx fun e w' => ∃ vb, e = .returned (.tuple #[vb, .int .i64 0]) ∧ OwnB w' w.heap.size vb ((chk (240 / r.length * r.length) l.flatten).getD k []) ∧
          ∃ O', ST w0 d p sb r.length O' l (m + 1) w' ∧ Ch O w1 O' w' ∧ ∀ q, vb.ownBlock = some q → O' q = none) := fun wx hx => by
        have g9 := gr_none G1.out hx
        refine ((HST.out.ext g9).pf.read (by omega) (n := sn) (k := k) (by simp [sn]) (by omega)).mono ?_
        rw [aRead_one sn_right _ (by omega)]
        rintro e w' ⟨vb, rfl, ho, O', k1, k2, k3⟩
        have hlt := (HST.out.ext g9).st.box.lt
        exact ⟨vb, rfl, Own.mono ho g9.size, O', ⟨k1, (HST.out.ext g9).st.ch k2 HST.out.off, k2.free sb hlt HST.out.off, HST.out.rows⟩, (Ch.ext hx).trans k2, k3⟩
      obtain ⟨b, hb⟩ : ∃ b, b = (chk (240 / r.length * r.length) l.flatten).getD k [] := ⟨_, rfl⟩
      rw [← hb] at hblen pl1 pl2 HRD
      have HPL1 := Lib.hid pl1
      have HPL2 := Lib.hid pl2
      have HTA : Hid (∀ (wx : World) (O1 : Own1) (v : Value), ST w0 d p sb r.length O1 l (m + 1) wx → Ch O w1 O1 wx → OwnB wx w.heap.size v b → (∀ q, v.ownBlock = some q → O1 q = none) → b.length + r.length ≤ 240 → Calls Try.prog 32 #[.pointer (some ⟨sb, 0, none⟩), .int .i64 k, v, .func (.func 31) #[] #[.pointer (some ⟨w.heap.size, 0, none⟩)]] wx fun e w' => e = .returned (.int .i64 0) ∧ STn w0 d p sb r.length O (l ++ [r]) (m + 2) w w') := fun wx O1 v hx hc ho hq hlen => by
        have hrx : RdB wx (.slice Ar r.length cr) r := hc.rd (HR.out.ext G1.out) fun q e => ⟨Nat.lt_of_lt_of_le (HRO.out q e).1 G1.out.size, (HRO.out q e).2⟩
        have hbx := hc.blk HBX.out (HST.out.pf.fresh (Nat.le_refl _))
        have h9 := sturn_app hx.pf hx.st hx.off ((Ch.ext G1.out).trans hc) HST.out.gr.size hsbl ho hq (by omega) hrx hbx (k := k) (by omega) (by omega)
        rw [HPL1.out hlen] at h9
        refine h9.mono ?_
        rintro e w' ⟨rfl, k9⟩
        exact ⟨rfl, HST.out.of HRW.out k9⟩
      have HTB : Hid (∀ (wx : World) (O1 : Own1), ST w0 d p sb r.length O1 l (m + 1) wx → Ch O w1 O1 wx → 240 < b.length + r.length → Calls Try.prog 32 #[.pointer (some ⟨sb, 0, none⟩), .int .i64 ((k + 1 : Nat) : Int), .slice none 0 0, .func (.func 31) #[] #[.pointer (some ⟨w.heap.size, 0, none⟩)]] wx fun e w' => e = .returned (.int .i64 0) ∧ STn w0 d p sb r.length O (l ++ [r]) (m + 2) w w') := fun wx O1 hx hc hlen => by
        have hrx : RdB wx (.slice Ar r.length cr) r := hc.rd (HR.out.ext G1.out) fun q e => ⟨Nat.lt_of_lt_of_le (HRO.out q e).1 G1.out.size, (HRO.out q e).2⟩
        have hbx := hc.blk HBX.out (HST.out.pf.fresh (Nat.le_refl _))
        have h9 := sturn_app hx.pf hx.st hx.off ((Ch.ext G1.out).trans hc) HST.out.gr.size hsbl (OwnB.nil _ _) (fun q e => by cases e) (by omega) hrx hbx (k := k + 1) (by omega) (by simp; omega)
        rw [HPL2.out hlen] at h9
        refine h9.mono ?_
        rintro e w' ⟨rfl, k9⟩
        exact ⟨rfl, HST.out.of HRW.out k9⟩
      have hkk : IntKind.i64.wrap (k : Int) = (k : Int) := by rw [IntWalk.i64_in _ (by omega)]
      have hwl : IntKind.i64.wrap ((b.length : Int) + (r.length : Int)) = (b.length : Int) + (r.length : Int) := by rw [IntWalk.i64_in _ (by omega)]
      clear hN h hN0 pl1 pl2 q1 q2 q3 hb hfl
      go_enter Try.func9, Try.ntmps9
      go_wp2_with fail
      rw [← HW1.out]
      go_quiet (fail)
      go_wp2_with fail
      go_region_held3 (fun w' => w'.cell? ⟨sb, 0, none⟩ = some (.pointer (some ⟨p, 0, none⟩)) ∧ w'.cell? ⟨sb, 1, none⟩ = some (.string ⟨sn.toArray⟩)) (first | exact hk2 | go_keep) (first | (go_at_call 10; refine (HPG.out _ (gr_none G1.out (gr_none (gr_drewN _ _ none) (gr_drew _ none)))).mono ?_; rintro e w2 ⟨rfl, g2⟩; have hs2 := HST.out.st.ext (gr_none (gr_none G1.out (gr_none (gr_drewN _ _ none) (gr_drew _ none))) g2); have hk2 := (⟨hs2.box.cell 0, hs2.box.cell 1⟩ : _ ∧ _)))
      all_goals
        have g12 : w1.grownBy w2 none := gr_none (gr_none (gr_drewN _ _ none) (gr_drew _ none)) g2
        have G12 := Lib.hid g12
        have k0 : w2.cell? ⟨sb, 0, none⟩ = some (.pointer (some ⟨p, 0, none⟩)) := hs2.box.cell 0
        have k1 : w2.cell? ⟨sb, 1, none⟩ = some (.string ⟨sn.toArray⟩) := hs2.box.cell 1
        clear g2 g12 hs2 hk2 a0 a1 a2 a3
        go_wp2_with fail
        go_region_held3 (fun w' => w'.cell? ⟨sb, 0, none⟩ = some (.pointer (some ⟨p, 0, none⟩)) ∧ w'.cell? ⟨sb, 1, none⟩ = some (.string ⟨sn.toArray⟩)) (first | exact hk2 | go_keep) (first | (go_at_call 11; refine (HRD.out _ (gr_none G12.out (gr_drew _ none))).mono ?_; rintro e w3 ⟨v3, rfl, ho3, O3, st3, ch3, q3⟩; have hk2 := (⟨st3.st.box.cell 0, st3.st.box.cell 1⟩ : _ ∧ _)))
        all_goals
          obtain ⟨A3, c3, rfl⟩ := RdB.form (Own.rd ho3)
          have HO3 := Lib.hid ho3
          have ST3 := Lib.hid st3
          have CH3 := Lib.hid ch3
          have Q3 := Lib.hid q3
          have j2 : w3.cell? ⟨sb, 2, none⟩ = some (.int .i64 r.length) := st3.st.box.cell 2
          clear ho3 st3 ch3 q3 hk2 k0 k1 HRD
          by_cases hfit : b.length + r.length ≤ 240
          · have hfit2 : (b.length : Int) + (r.length : Int) ≤ 240 := by omega
            have HT := Lib.hid (HTA.out w3 O3 _ ST3.out CH3.out HO3.out Q3.out hfit)
            clear hfit HTA HTB
            go_wp2_with fail
            refine HT.out.mono ?_
            rintro e w4 ⟨rfl, k4⟩
            have K4 := Lib.hid k4
            clear k4 HT
            go_wp2_with fail
            go_ret
            exact .inl ⟨rfl, rfl, K4.out⟩
          · have hfit2 : ¬ (b.length : Int) + (r.length : Int) ≤ 240 := by omega
            have HT := Lib.hid (HTB.out w3 O3 ST3.out CH3.out (by omega))
            clear hfit HTA HTB
            go_wp2_with fail
            refine HT.out.mono ?_
            rintro e w4 ⟨rfl, k4⟩
            have K4 := Lib.hid k4
            clear k4 HT
            go_wp2_with fail
            go_ret
            exact .inl ⟨rfl, rfl, K4.out⟩
  · have hne : ((r.length : Int) != (size : Int)) = true := by rw [bne_iff_ne]; omega
    clear hbx g1 hw1 c0 c1 c2 hr hro h
    go_enter Try.func9, Try.ntmps9
    go_wp2_with fail
    rw [← HW1.out]
    go_quiet (fail)
    go_wp2_with fail
    go_ret
    have g9 : w.grownBy (w1.drewN nq) none := gr_none G1.out (gr_drewN _ _ _)
    exact .inr ⟨hsz, rfl, by obtain ⟨O', k1, k2⟩ := HST.out.stay (by omega) g9; exact ⟨O', k1.more (by omega) (by omega), k2⟩⟩
end
end Go.Proofs.Ytkfokgjpeaibpaa

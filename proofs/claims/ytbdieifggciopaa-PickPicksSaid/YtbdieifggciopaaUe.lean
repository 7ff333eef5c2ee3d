/-
  slices.Sort at []uint32: the pivot.
-/
import Derived.Test.YtbdieifggciopaaUd
namespace Go.Proofs.Ytbdieifggciopaa
open Go.RowKit
set_option maxRecDepth 100000
set_option maxHeartbeats 400000

/-- a counter in a new block behind the world w, some draws on. -/
def Piv (w : World) (s : Nat) (w' : World) : Prop := ∃ m, w' = (w.alloc (.cells #[.int .i64 s] 3)).drewN m
section
variable {w wx : World} {s : Nat}
theorem Piv.new (w : World) : Piv w 0 (w.alloc (.cells #[.int .i64 0] 3)) := ⟨0, rfl⟩
theorem Piv.drewN (h : Piv w s wx) (q : Nat) : Piv w s (wx.drewN q) := by
  obtain ⟨m, rfl⟩ := h
  exact ⟨m + q, World.drewN_drewN _ _ _⟩
theorem Piv.cell (h : Piv w s wx) : wx.cell? ⟨w.heap.size, 0, none⟩ = some (.int .i64 s) ∧ wx.frozen? ⟨w.heap.size, 0, none⟩ = false := by
  obtain ⟨m, rfl⟩ := h
  exact ⟨World.cell?_alloc_at _ _ _ _ rfl, (Blk.new w 3 #[.int .i64 (s : Int)]).frozen 0⟩
theorem Piv.set (h : Piv w s wx) (t : Nat) : Piv w t (wx.setCell ⟨w.heap.size, 0, none⟩ (.int .i64 t)) := by
  obtain ⟨m, rfl⟩ := h
  refine ⟨m, ?_⟩
  show ((w.alloc (.cells #[.int .i64 (s : Int)] 3)).setCell ⟨w.heap.size, 0, none⟩ (.int .i64 t)).drewN m = _
  congr 1
  unfold World.setCell World.alloc
  congr 1
  apply Array.ext_getElem?
  intro k
  simp only [Array.getElem?_modify, Array.getElem?_push]
  by_cases hk : w.heap.size = k
  · subst hk; simp
  · rw [if_neg hk]
    by_cases h : k = w.heap.size
    · exact absurd h.symm hk
    · rw [if_neg h, if_neg h]
theorem Piv.old (h : Piv w s wx) {g off n : Nat} {d : Array UInt32} {G : Nat → Nat} (hd : At32 w g off n d w) (hG : ∀ t, G t = d[t]!.toNat) : ∀ t, t < n → wx.cell? ⟨g, off + t, none⟩ = some (.int .u32 (G t)) := fun t ht => by
  obtain ⟨m, rfl⟩ := h
  have := (hd.cw hG).1 t ht
  exact (gr_alloc w _ none).cell this (by simp)
theorem Piv.at_ (h : Piv w s wx) {g off n : Nat} {d : Array UInt32} (hd : At32 w g off n d w) : At32 w g off n d wx := by
  obtain ⟨m, rfl⟩ := h
  refine hd.same hd.2.2.1 ⟨m, #[.cells #[.int .i64 (s : Int)] 3], ?_⟩
  rw [Go.Sort.alloc_eq_grow]
  rfl
end
theorem order2_in {d : Array UInt32} {a b n s : Nat} (ha : a < n) (hb : b < n) : (Go.Sort.order2 ltU d a b s).1 < n ∧ (Go.Sort.order2 ltU d a b s).2.1 < n := by
  have := Go.Sort.order2_mem ltU d a b s
  omega
set_option maxHeartbeats 4000000 in
theorem order2U (g off cap a b n s : Nat) (d : Array UInt32) (w wx : World) (h : At32 w g off n d w) (hp : Piv w s wx) (ha : a < n) (hb : b < n) (hn : n < 4611686018427387904) (hs : s < 100) :
    Calls Try.prog 47 #[.slice (some ⟨g, off, none⟩) n cap, .int .i64 a, .int .i64 b, .pointer (some ⟨w.heap.size, 0, none⟩)] wx fun e w' => e = .returned (.tuple #[.int .i64 (Go.Sort.order2 ltU d a b s).1, .int .i64 (Go.Sort.order2 ltU d a b s).2.1]) ∧ Piv w (Go.Sort.order2 ltU d a b s).2.2 w' := by
  obtain ⟨G, hG, -, -⟩ := h.cells
  have HG := Lib.hid hG
  have hcw := hp.old h hG
  have HH := Lib.hid h
  clear hG h
  go_enter Try.func47, Try.ntmps47
  go_wp2_with fail
  go_quiet (first | (go_at_call 37; refine Calls.quiet_of_same (lessU _ _ _)))
  have hp2 := hp.drewN nq
  have HP := Lib.hid hp2
  obtain ⟨hpc, hpf⟩ := hp2.cell
  clear hcw hp hp2
  generalize World.drewN _ _ = wz at *
  cases hl : ltN (G b) (G a)
  · have HE : Hid (Go.Sort.order2 ltU d a b s = (a, b, s)) := by
      show _ = _; unfold Go.Sort.order2; rw [ltU_dec (HG.out _) (HG.out _), hl]; rfl
    go_wp2
    go_ret2
    rw [HE.out]
    exact ⟨rfl, HP.out⟩
  · have HE : Hid (Go.Sort.order2 ltU d a b s = (b, a, s + 1)) := by
      show _ = _; unfold Go.Sort.order2; rw [ltU_dec (HG.out _) (HG.out _), hl]; rfl
    have HS := Lib.hid (HP.out.set (s + 1))
    go_wp2
    go_ret2
    rw [HE.out]
    exact ⟨rfl, HS.out⟩
set_option maxHeartbeats 4000000 in
theorem medianU (g off cap a b c n s : Nat) (d : Array UInt32) (w wx : World) (h : At32 w g off n d w) (hp : Piv w s wx) (ha : a < n) (hb : b < n) (hc : c < n) (hn : n < 4611686018427387904) (hs : s < 50) :
    Calls Try.prog 46 #[.slice (some ⟨g, off, none⟩) n cap, .int .i64 a, .int .i64 b, .int .i64 c, .pointer (some ⟨w.heap.size, 0, none⟩)] wx fun e w' => e = .returned (.int .i64 (Go.Sort.median ltU d a b c s).1) ∧ Piv w (Go.Sort.median ltU d a b c s).2 w' := by
  have H1 := Lib.hid (order2U g off cap a b n s d w wx h hp ha hb hn (by omega))
  have HO := Lib.hid fun (a b s : Nat) (wx : World) (hp : Piv w s wx) (ha : a < n) (hb : b < n) (hs : s < 100) => order2U g off cap a b n s d w wx h hp ha hb hn hs
  have s1 := Go.Sort.order2_count ltU d a b s
  have i1 := order2_in (d := d) (s := s) ha hb
  unfold Go.Sort.median
  simp only []
  generalize Go.Sort.order2 ltU d a b s = r1 at *
  have s2 := Go.Sort.order2_count ltU d r1.2.1 c r1.2.2
  have i2 := order2_in (d := d) (s := r1.2.2) i1.2 hc
  have HO2 := Lib.hid fun (wx : World) (hp : Piv w r1.2.2 wx) => HO.out r1.2.1 c r1.2.2 wx hp i1.2 hc (by omega)
  generalize Go.Sort.order2 ltU d r1.2.1 c r1.2.2 = r2 at *
  have s3 := Go.Sort.order2_count ltU d r1.1 r2.1 r2.2.2
  have HO3 := Lib.hid fun (wx : World) (hp : Piv w r2.2.2 wx) => HO.out r1.1 r2.1 r2.2.2 wx hp i1.1 i2.1 (by omega)
  generalize Go.Sort.order2 ltU d r1.1 r2.1 r2.2.2 = r3 at *
  obtain ⟨p1, q1, t1⟩ := r1
  obtain ⟨p2, q2, t2⟩ := r2
  obtain ⟨p3, q3, t3⟩ := r3
  simp only [] at *
  clear HO h hp s1 s2 s3 i1 i2
  go_enter Try.func46, Try.ntmps46
  go_wp2_with fail
  refine H1.out.mono ?_
  rintro e w1 ⟨rfl, hp1⟩
  have HP1 := Lib.hid (HO2.out w1 hp1)
  clear hp1
  go_wp2_with fail
  refine HP1.out.mono ?_
  rintro e w2 ⟨rfl, hp2⟩
  have HP2 := Lib.hid (HO3.out w2 hp2)
  clear hp2
  go_wp2_with fail
  refine HP2.out.mono ?_
  rintro e w3 ⟨rfl, hp3⟩
  have HP3 := Lib.hid hp3
  clear hp3
  go_wp2
  go_ret
  exact ⟨rfl, HP3.out⟩
theorem median_in {d : Array UInt32} {a b c n s : Nat} (ha : a < n) (hb : b < n) (hc : c < n) : (Go.Sort.median ltU d a b c s).1 < n := by
  have := Go.Sort.median_mem ltU d a b c s
  omega
theorem medAdjU (g off cap a n s : Nat) (d : Array UInt32) (w wx : World) (h : At32 w g off n d w) (hp : Piv w s wx) (ha0 : 1 ≤ a) (ha : a + 1 < n) (hn : n < 4611686018427387904) (hs : s < 50) :
    Calls Try.prog 45 #[.slice (some ⟨g, off, none⟩) n cap, .int .i64 a, .pointer (some ⟨w.heap.size, 0, none⟩)] wx fun e w' => e = .returned (.int .i64 (Go.Sort.medianAdjacent ltU d a s).1) ∧ Piv w (Go.Sort.medianAdjacent ltU d a s).2 w' := by
  have H := Lib.hid (medianU g off cap (a - 1) a (a + 1) n s d w wx h hp (by omega) (by omega) ha hn hs)
  unfold Go.Sort.medianAdjacent
  generalize Go.Sort.median ltU d (a - 1) a (a + 1) s = r at *
  obtain ⟨r1, r2⟩ := r
  simp only [] at *
  clear h hp
  go_enter Try.func45, Try.ntmps45
  go_wp2_with fail
  rw [show ((a : Int) - 1) = ((a - 1 : Nat) : Int) by omega, show ((a : Int) + 1) = ((a + 1 : Nat) : Int) by omega]
  refine H.out.mono ?_
  rintro e w1 ⟨rfl, hp1⟩
  have HP1 := Lib.hid hp1
  clear hp1
  go_wp2
  go_ret
  exact ⟨rfl, HP1.out⟩
set_option maxHeartbeats 8000000 in
theorem pivotU (g off cap a l n : Nat) (d : Array UInt32) (w : World) (h : At32 w g off n d w) (hl0 : 0 < l) (hb : a + l ≤ n) (hn : n < 4611686018427387904) :
    Calls Try.prog 34 #[.slice (some ⟨g, off, none⟩) n cap, .int .i64 a, .int .i64 ((a : Int) + l)] w fun e w' => e = .returned (.tuple #[.int .i64 (Go.Sort.choosePivot ltU d a (a + l)).1, .int .i64 (Go.Sort.hintCode (Go.Sort.choosePivot ltU d a (a + l)).2)]) ∧ At32 w g off n d w' := by
  have HH := Lib.hid h
  have HMA := Lib.hid fun (x s : Nat) (wx : World) (hp : Piv w s wx) (h0 : 1 ≤ x) (h1 : x + 1 < n) (hs : s < 50) => medAdjU g off cap x n s d w wx h hp h0 h1 hn hs
  have HM := Lib.hid fun (x y z s : Nat) (wx : World) (hp : Piv w s wx) (h0 : x < n) (h1 : y < n) (h2 : z < n) (hs : s < 50) => medianU g off cap x y z n s d w wx h hp h0 h1 h2 hn hs
  clear h
  rw [Go.Sort.choosePivot_eq]
  obtain ⟨q, hq⟩ : ∃ q, q = l / 4 := ⟨_, rfl⟩
  have hq4 : q * 4 ≤ l := by omega
  have hq8 : 8 ≤ l → 2 ≤ q := by omega
  have hq50 : 50 ≤ l → 12 ≤ q := by omega
  have e0 : ((a : Int) + (l : Int) - (a : Int)) = (l : Int) := by omega
  have e4 : ((l : Int).tdiv 4) = (q : Int) := by rw [Int.tdiv_eq_ediv_of_nonneg (by omega), hq]; simp
  obtain ⟨R, hR⟩ : ∃ R, R = Go.Sort.rawPivot ltU d a (a + l) := ⟨_, rfl⟩
  rw [← hR]
  have HR : Hid (R = if l ≥ 8 then
    if l ≥ 50 then
      Go.Sort.median ltU d (Go.Sort.medianAdjacent ltU d (a + q) 0).1 (Go.Sort.medianAdjacent ltU d (a + q * 2) (Go.Sort.medianAdjacent ltU d (a + q) 0).2).1
        (Go.Sort.medianAdjacent ltU d (a + q * 3) (Go.Sort.medianAdjacent ltU d (a + q * 2) (Go.Sort.medianAdjacent ltU d (a + q) 0).2).2).1
        (Go.Sort.medianAdjacent ltU d (a + q * 3) (Go.Sort.medianAdjacent ltU d (a + q * 2) (Go.Sort.medianAdjacent ltU d (a + q) 0).2).2).2
    else Go.Sort.median ltU d (a + q) (a + q * 2) (a + q * 3) 0
  else (a + q * 2, 0)) := by
    show _ = _
    rw [hR]
    unfold Go.Sort.rawPivot
    rw [Nat.add_sub_cancel_left, ← hq, Nat.mul_one]
  clear hR hq
  have HP0 := Lib.hid (Piv.new w)
  go_enter Try.func34, Try.ntmps34
  go_upto_if 32 with fail
  go_cut [11] from 13 (fun s11 wc => (∃ j s' : Nat, s11 = .int .i64 j ∧ s' < 50 ∧ Hid (R = (j, s')) ∧ Hid (Piv w s' wc)))
  case first =>
    by_cases h8 : 8 ≤ l
    · by_cases h50 : 50 ≤ l
      · have HR2 := HR.out
        rw [if_pos h8, if_pos h50] at HR2
        have HR3 := Lib.hid HR2
        clear HR HR2
        have k1 := hq50 h50
        have H1 := Lib.hid (HMA.out (a + q) 0 _ HP0.out (by omega) (by omega) (by omega))
        have c1 := Go.Sort.medianAdjacent_count ltU d (a + q) 0
        have m1 := Go.Sort.medianAdjacent_mem ltU d (a + q) 0
        generalize Go.Sort.medianAdjacent ltU d (a + q) 0 = r1 at *
        have H2 := Lib.hid fun (wx : World) (hp : Piv w r1.2 wx) => HMA.out (a + q * 2) r1.2 wx hp (by omega) (by omega) (by omega)
        have c2 := Go.Sort.medianAdjacent_count ltU d (a + q * 2) r1.2
        have m2 := Go.Sort.medianAdjacent_mem ltU d (a + q * 2) r1.2
        generalize Go.Sort.medianAdjacent ltU d (a + q * 2) r1.2 = r2 at *
        have H3 := Lib.hid fun (wx : World) (hp : Piv w r2.2 wx) => HMA.out (a + q * 3) r2.2 wx hp (by omega) (by omega) (by omega)
        have c3 := Go.Sort.medianAdjacent_count ltU d (a + q * 3) r2.2
        have m3 := Go.Sort.medianAdjacent_mem ltU d (a + q * 3) r2.2
        generalize Go.Sort.medianAdjacent ltU d (a + q * 3) r2.2 = r3 at *
        have H4 := Lib.hid fun (wx : World) (hp : Piv w r3.2 wx) => HM.out r1.1 r2.1 r3.1 r3.2 wx hp (by omega) (by omega) (by omega) (by omega)
        have c4 := Go.Sort.median_count ltU d r1.1 r2.1 r3.1 r3.2
        generalize Go.Sort.median ltU d r1.1 r2.1 r3.1 r3.2 = r4 at *
        obtain ⟨p1, t1⟩ := r1
        obtain ⟨p2, t2⟩ := r2
        obtain ⟨p3, t3⟩ := r3
        obtain ⟨p4, t4⟩ := r4
        simp only [] at *
        have ht4 : t4 < 50 := by omega
        clear HMA HM c1 c2 c3 c4 m1 m2 m3 k1 hq50 hq8
        go_wp2_with fail
        refine H1.out.mono ?_
        rintro e w1 ⟨rfl, hp1⟩
        have HQ2 := Lib.hid (H2.out w1 hp1)
        clear hp1 H1 H2
        go_wp2_with fail
        refine HQ2.out.mono ?_
        rintro e w2 ⟨rfl, hp2⟩
        have HQ3 := Lib.hid (H3.out w2 hp2)
        clear hp2 HQ2 H3
        go_wp2_with fail
        refine HQ3.out.mono ?_
        rintro e w3 ⟨rfl, hp3⟩
        have HQ4 := Lib.hid (H4.out w3 hp3)
        clear hp3 HQ3 H4
        go_wp2_with fail
        refine HQ4.out.mono ?_
        rintro e w4 ⟨rfl, hp4⟩
        have HQ5 := Lib.hid hp4
        clear hp4 HQ4
        go_wp2_with fail
        go_meet
        case rel => exact ⟨p4, t4, rfl, ht4, HR3, HQ5⟩
      · have HR2 := HR.out
        rw [if_pos h8, if_neg h50] at HR2
        have HR3 := Lib.hid HR2
        clear HR HR2
        have H4 := Lib.hid (HM.out (a + q) (a + q * 2) (a + q * 3) 0 _ HP0.out (by omega) (by omega) (by omega) (by omega))
        have c4 := Go.Sort.median_count ltU d (a + q) (a + q * 2) (a + q * 3) 0
        generalize Go.Sort.median ltU d (a + q) (a + q * 2) (a + q * 3) 0 = r4 at *
        obtain ⟨p4, t4⟩ := r4
        simp only [] at *
        have ht4 : t4 < 50 := by omega
        clear HMA HM c4 hq50 hq8
        go_wp2_with fail
        refine H4.out.mono ?_
        rintro e w4 ⟨rfl, hp4⟩
        have HQ5 := Lib.hid hp4
        clear hp4 H4
        go_wp2_with fail
        go_meet
        case rel => exact ⟨p4, t4, rfl, ht4, HR3, HQ5⟩
    · have HR2 := HR.out
      rw [if_neg h8] at HR2
      have HR3 := Lib.hid HR2
      clear HR HR2 HMA HM
      go_wp2_with fail
      go_meet
      case rel => exact ⟨a + q * 2, 0, by go_num, by omega, HR3, HP0⟩
  case rest =>
    obtain ⟨j, s', rfl, hs', hRj, hP⟩ := hcut
    obtain ⟨hpc, hpf⟩ := hP.out.cell
    have HAT := Lib.hid (hP.out.at_ HH.out)
    clear HMA HM HP0 HR
    by_cases z0 : s' = 0
    · subst z0
      go_wp2
      go_ret2
      rw [hRj.out]
      exact ⟨rfl, HAT.out⟩
    · by_cases z12 : s' = 12
      · subst z12
        go_wp2
        go_ret2
        rw [hRj.out]
        exact ⟨rfl, HAT.out⟩
      · have b0 : ((s' : Int) == 0) = false := by simp; omega
        have b12 : ((s' : Int) == 12) = false := by simp; omega
        have HC : Hid (Go.Sort.hintCode (Go.Sort.hintOf s') = 0) := by show _ = _; unfold Go.Sort.hintOf; rw [if_neg z0, if_neg z12]; rfl
        go_wp2
        go_ret2
        rw [hRj.out]
        show _ = Ending.returned (.tuple #[_, .int .i64 (Go.Sort.hintCode (Go.Sort.hintOf s'))]) ∧ _
        rw [HC.out]
        exact ⟨rfl, HAT.out⟩
end Go.Proofs.Ytbdieifggciopaa

/-
  Hub: the walk of HubNeedless.
-/
import Derived.Test.YtfgkmimhibpceaaHl2
namespace Go.Proofs.Ytfgkmimhibpceaa
open Go.RowKit
set_option maxRecDepth 100000
set_option maxHeartbeats 400000

/-- is there, below place j of all pairs, one that comes to less? -/
def PairTo (d : UInt64) (l b : List Lb) (j : Nat) : Prop := ∃ (i : Nat) (hl : i / b.length < l.length) (hb : i % b.length < b.length), i < j ∧ lessG d l[i / b.length] b[i % b.length] = true
theorem PairTo.zero (d : UInt64) (l b : List Lb) : ¬ PairTo d l b 0 := fun ⟨_, _, _, h, _⟩ => by omega
theorem PairTo.succ {d : UInt64} {l b : List Lb} {j : Nat} (hl : j / b.length < l.length) (hb : j % b.length < b.length) : PairTo d l b (j + 1) ↔ PairTo d l b j ∨ lessG d l[j / b.length] b[j % b.length] = true := by
  constructor
  · rintro ⟨i, h1, h2, h3, h4⟩
    by_cases e : i = j
    · subst e; exact .inr h4
    · exact .inl ⟨i, h1, h2, by omega, h4⟩
  · rintro (⟨i, h1, h2, h3, h4⟩ | h)
    · exact ⟨i, h1, h2, by omega, h4⟩
    · exact ⟨j, hl, hb, by omega, h⟩
theorem PairTo.succ' {d : UInt64} {l b : List Lb} {j p r : Nat} (hp : j / b.length = p) (hr : j % b.length = r) (hl : p < l.length) (hb : r < b.length) : PairTo d l b (j + 1) ↔ PairTo d l b j ∨ lessG d l[p] b[r] = true := by
  subst hp hr
  exact PairTo.succ hl hb
theorem pair_lt {n m j : Nat} (h : j < n * m) : j / m < n ∧ j % m < m := by
  have hm : 0 < m := by
    rcases Nat.eq_zero_or_pos m with e | e
    · subst e; simp at h
    · exact e
  exact ⟨(Nat.div_lt_iff_lt_mul hm).2 h, Nat.mod_lt _ hm⟩
theorem PairTo.all {d : UInt64} {l b : List Lb} : PairTo d l b (l.length * b.length) ↔ (l.any fun x => b.any (lessG d x)) = true := by
  simp only [List.any_eq_true]
  constructor
  · rintro ⟨i, h1, h2, h3, h4⟩
    exact ⟨_, List.getElem_mem h1, _, List.getElem_mem h2, h4⟩
  · rintro ⟨x, hx, y, hy, h⟩
    obtain ⟨p, hp, rfl⟩ := List.mem_iff_getElem.1 hx
    obtain ⟨q, hq, rfl⟩ := List.mem_iff_getElem.1 hy
    have hm : 0 < b.length := by omega
    have e1 : (p * b.length + q) / b.length = p := by
      rw [Nat.mul_comm, Nat.mul_add_div hm, Nat.div_eq_of_lt hq]; omega
    have e2 : (p * b.length + q) % b.length = q := by
      rw [Nat.mul_comm, Nat.mul_add_mod, Nat.mod_eq_of_lt hq]
    refine ⟨p * b.length + q, by omega, by omega, ?_, ?_⟩
    · have : (p + 1) * b.length ≤ l.length * b.length := Nat.mul_le_mul_right _ hp
      rw [Nat.add_mul] at this
      omega
    · simp only [e1, e2]; exact h
theorem filter_at {G : Lb → Bool} {l : List Lb} {k : Nat} (hk : k < l.length) (hg : G l[k] = true) : ∃ h : ((l.take k).filter G).length < (l.filter G).length, (l.filter G)[((l.take k).filter G).length] = l[k] := by
  have e : l.filter G = (l.take k).filter G ++ l[k] :: (l.drop (k + 1)).filter G := by
    conv => lhs; rw [← List.take_append_drop k l]
    rw [List.filter_append, List.drop_eq_getElem_cons hk, List.filter_cons, if_pos hg]
  refine ⟨by rw [e]; simp, ?_⟩
  simp only [e]
  rw [List.getElem_append_right (Nat.le_refl _)]
  simp
set_option maxHeartbeats 8000000 in
theorem hubNeedless_any (lv sv : Value) (l : List Lb) (all : List Ow) (w : World) (h : RdL w lv l) (hS : RdS w sv all) :
    Calls Try.prog 6 #[lv, sv] w fun e w' => e = .returned (.bool true) ∧ w.grownBy w' none := by
  have hmax2 : l.length ≤ maxLen := by obtain ⟨_, _, _, _, _, _, h1, h2, _⟩ := h; omega
  unfold maxLen at hmax2
  have HW := Lib.hid works_any
  have HLG := Lib.hid (large_any sv all w hS)
  have HL := Lib.hid h
  have HS := Lib.hid hS
  obtain ⟨AL, cL, rfl⟩ := h.form
  obtain ⟨AS, cS, rfl⟩ := hS.1.form
  obtain ⟨g, off, hA, _, hcells⟩ := h.at_ lb3
  have HA := Lib.hid hA
  have HC := Lib.hid hcells
  clear h hS hA hcells
  by_cases h60 : l.length ≤ 60
  · go_enter Try.func6, Try.ntmps6
    go_wp2_with fail
    refine HLG.out.mono ?_
    rintro e w1 ⟨⟨b, rfl, hb⟩, g1⟩
    have G1 := Lib.hid g1
    have HB := Lib.hid hb
    clear hb g1
    cases b
    · obtain ⟨ha, hm⟩ := large_len (HB.out rfl)
      have HM := Lib.hid hm
      clear hm
      have HPL := Lib.hid fun (wx : World) (hg : w.grownBy wx none) (sp : Nat) (hs : wx.cell? ⟨sp, 0, none⟩ = some (.slice AS all.length cS)) => prune_of sp _ all _ l wx (HL.out.ext hg) (by omega) hs (HS.out.ext hg) ha HM.out
      have HOF := Lib.hid fun (wx : World) (hg : w.grownBy wx none) (sp : Nat) (hs : wx.cell? ⟨sp, 0, none⟩ = some (.slice AS all.length cS)) (x : UInt32) => of_any sp _ all x wx hs (HS.out.ext hg) (by omega) (by have := HM.out x; omega)
      have hF0 : (l.filter fun y => !goneR l (ofS all) y).length ≤ l.length := List.length_filter_le _ _
      go_wp2_with fail
      have G2 : Hid (w.grownBy (w1.alloc (.cells #[.slice AS all.length cS] 29)) none) := gr_none G1.out (gr_alloc _ _ _)
      have HSP : Hid ((w1.alloc (.cells #[.slice AS all.length cS] 29)).cell? ⟨w1.heap.size, 0, none⟩ = some (.slice AS all.length cS)) := by show _ = _; rw [cell_new]; rfl
      have HA3 := Lib.hid (HPL.out _ G2.out w1.heap.size HSP.out)
      refine HA3.out.mono ?_
      rintro e w4 ⟨⟨u4, rfl, ho4⟩, g4⟩
      have HFA := Lib.hid fun (k : Nat) (hk : k < l.length) (hg : (!goneR l (ofS all) l[k]) = true) => filter_at (G := fun y => !goneR l (ofS all) y) hk hg
      have HFS := Lib.hid fun (k : Nat) (hk : k < l.length) => filter_succ (G := fun y => !goneR l (ofS all) y) hk
      obtain ⟨A4, c4, rfl⟩ := ho4.rd.form
      have G4 := Lib.hid (gr_none G2.out g4)
      have HO4 := Lib.hid ho4.rd
      have HSP4 := Lib.hid (g4.cell HSP.out (by simp))
      obtain ⟨g9, off9, hA9, _, hc9⟩ := HO4.out.at_ lb3
      have HA9 := Lib.hid hA9
      have HC9 := Lib.hid hc9
      have HTL : Hid (∀ k, l.length ≤ k → (l.take k).filter (fun y => !goneR l (ofS all) y) = l.filter fun y => !goneR l (ofS all) y) := fun k hk => by rw [List.take_of_length_le hk]
      clear ho4 g4 hA9 hc9
      generalize hFF : (l.filter fun y => !goneR l (ofS all) y) = F at *
      have HFF := Lib.hid hFF
      clear hFF
      go_wp2
      go_loopw [8, 7] (fun i t wr => ∃ (k j : Nat), k ≤ l.length ∧ i = .int .i64 k ∧ t = .int .i64 j ∧ j ≤ k ∧ Hid (j = ((l.take k).filter fun y => !goneR l (ofS all) y).length) ∧ w4.grownBy wr none) (fun i _ _ => l.length - (intOf i).toNat)
      case atStart => exact ⟨0, 0, by omega, rfl, rfl, by omega, by show _ = _; simp, gr_refl _ _⟩
      case round =>
        obtain ⟨k, q, hk, rfl, rfl, hqk, hq, hg⟩ := hrel
        by_cases hlt : k < l.length
        · have := HA.out (by omega)
          subst this
          rcases hx : l[k] with ⟨za, zb, zc⟩
          obtain ⟨z0, z1, z2⟩ := at3L HC.out (gr_none G4.out hg) hlt hx
          have HZ := Lib.hid hx
          have GR := Lib.hid hg
          have HO5 := Lib.hid (HOF.out wr (gr_none G4.out hg) w1.heap.size (hg.cell HSP4.out (by simp)) za)
          have hLM := HM.out za
          clear hx hg
          generalize hLL : ofS all za = L at HO5 hLM
          have HLL := Lib.hid hLL
          clear hLL
          go_wp2_with fail
          refine HO5.out.mono ?_
          rintro e w5 ⟨⟨u5, rfl, ho5⟩, g5⟩
          obtain ⟨A5, c5, rfl⟩ := ho5.rd.form
          have G45 := Lib.hid (gr_none GR.out g5)
          obtain ⟨gb, offb, hAb, _, hcb⟩ := ho5.rd.at_ lb3
          have HAb := Lib.hid hAb
          have HCb := Lib.hid hcb
          have hmul : IntKind.i64.wrap ((l.length : Int) * (L.length : Int)) = ((l.length * L.length : Nat) : Int) := by
            have h1 : l.length * L.length ≤ 60 * 600 := Nat.mul_le_mul h60 hLM
            rw [IntWalk.i64_in _ (by rw [← Int.natCast_mul]; omega)]; simp
          have hml2 : l.length * L.length ≤ 36000 := Nat.mul_le_mul h60 hLM
          have HPA : Hid (PairTo zc l L (l.length * L.length) ↔ goneR l (ofS all) ⟨za, zb, zc⟩ = true) := by
            show _ ↔ _
            rw [PairTo.all]
            show _ ↔ (l.any fun a => (ofS all za).any (lessG zc a)) = true
            rw [HLL.out]
          clear ho5 g5 hAb hcb
          go_wp2
          go_loopw [11, 10] (fun i t wq => ∃ (j : Nat) (b : Bool), j ≤ l.length * L.length ∧ i = .int .i64 j ∧ t = .bool b ∧ (b = true ↔ PairTo zc l L j) ∧ w5.grownBy wq none) (fun i _ _ => l.length * L.length - (intOf i).toNat)
          case atStart => exact ⟨0, false, by omega, rfl, rfl, ⟨fun h => (by cases h), fun h => absurd h (PairTo.zero _ _ _)⟩, gr_refl _ _⟩
          case round =>
            obtain ⟨j, b, hj, rfl, rfl, hb, hg⟩ := hrel
            have HBP := Lib.hid hb
            clear hb
            by_cases hlj : j < l.length * L.length
            · obtain ⟨hd, hmo⟩ := pair_lt hlj
              have := HAb.out (by omega)
              subst this
              have hL0 : ¬ L.length = 0 := by omega
              have hL1 : ¬ ((L.length : Int) = 0) := by omega
              obtain ⟨p, hjd⟩ : ∃ p, j / L.length = p := ⟨_, rfl⟩
              obtain ⟨r, hjm⟩ : ∃ r, j % L.length = r := ⟨_, rfl⟩
              have ed : (j : Int).tdiv (L.length : Int) = (p : Int) := by rw [← hjd, Int.tdiv_eq_ediv_of_nonneg (by omega), Int.natCast_ediv]
              have hr1 : (j : Int).tmod (L.length : Int) = (r : Int) := by rw [← hjm, Int.tmod_eq_emod_of_nonneg (by omega), Int.natCast_emod]
              rw [hjd] at hd
              rw [hjm] at hmo
              have HP1 := Lib.hid (PairTo.succ' (d := zc) (l := l) (b := L) hjd hjm hd hmo)
              have hq1 : IntKind.i64.wrap ((j : Int).tdiv (L.length : Int)) = (p : Int) := by rw [ed, IntWalk.i64_in _ (by omega)]
              clear hjd hjm
              rcases hx : l[p] with ⟨xa, xb, xc⟩
              rcases hy : L[r] with ⟨ya, yb, yc⟩
              obtain ⟨c0, c1, c2⟩ := at3L HC.out (gr_none G4.out (gr_none G45.out hg)) hd hx
              obtain ⟨d0, d1, d2⟩ := at3L HCb.out hg hmo hy
              rw [hx, hy] at HP1
              clear hx hy
              have hgx := gr_alloc wr (.cells #[.int .u32 xa.toNat, .int .u32 xb.toNat, .int .u64 xc.toNat] 39) none
              have hgy := gr_alloc (wr.alloc (.cells #[.int .u32 xa.toNat, .int .u32 xb.toNat, .int .u64 xc.toNat] 39)) (.cells #[.int .u32 ya.toNat, .int .u32 yb.toNat, .int .u64 yc.toNat] 39) none
              have d0' := hgx.cell d0 (by simp)
              have d1' := hgx.cell d1 (by simp)
              have d2' := hgx.cell d2 (by simp)
              have y2 := (gr_none hgx hgy).cell (at3L HC.out (gr_none G4.out (gr_none G45.out hg)) hlt HZ.out).2.2 (by simp)
              have x0 : ((wr.alloc (.cells #[.int .u32 xa.toNat, .int .u32 xb.toNat, .int .u64 xc.toNat] 39)).alloc (.cells #[.int .u32 ya.toNat, .int .u32 yb.toNat, .int .u64 yc.toNat] 39)).cell? ⟨wr.heap.size, 0, none⟩ = some (.int .u32 xa.toNat) := hgy.cell (cell_new _ _ _ _ 0) (by simp)
              have x2 : ((wr.alloc (.cells #[.int .u32 xa.toNat, .int .u32 xb.toNat, .int .u64 xc.toNat] 39)).alloc (.cells #[.int .u32 ya.toNat, .int .u32 yb.toNat, .int .u64 yc.toNat] 39)).cell? ⟨wr.heap.size, 2, none⟩ = some (.int .u64 xc.toNat) := hgy.cell (cell_new _ _ _ _ 2) (by simp)
              have HAR := Lib.hid (addr_q xc.toNat yc.toNat xc.toNat_lt yc.toNat_lt)
              clear hgx hgy
              cases b
              · have hb0 : ¬ PairTo zc l L j := fun h => by have := HBP.out.2 h; cases this
                by_cases hh : xa.toNat = ya.toNat
                · have hbe : ((xa.toNat : Int) == (ya.toNat : Int)) = true := by simp; omega
                  by_cases h1 : xc.toNat + yc.toNat < 9223372036854775808
                  · rw [addV_lt h1] at HAR
                    by_cases h2 : xc.toNat + yc.toNat < zc.toNat
                    · have HN : Hid (true = true ↔ PairTo zc l L (j + 1)) := ⟨fun _ => HP1.out.2 (.inr (lessG_yes hh h1 h2)), fun _ => rfl⟩
                      generalize xc.toNat + yc.toNat = sm at *
                      clear h1 hh hb0
                      go_wp2_with fail
                      refine (HAR.out _).mono ?_
                      rintro e w9 ⟨rfl, m9, rfl⟩
                      go_wp2
                      go_roundw
                      case rel => exact ⟨j + 1, _, by omega, by go_num, rfl, (by first | exact HN.out | simpa using HN.out), gr_none hg (gr_none (gr_none (gr_alloc _ _ none) (gr_alloc _ _ none)) (gr_drewN _ _ _))⟩
                      case measure => simp [intOf]; omega
                    · have HN : Hid (false = true ↔ PairTo zc l L (j + 1)) := ⟨fun h => (by cases h), fun h => by rcases HP1.out.1 h with h | h; exact absurd h hb0; rw [lessG_nl h2] at h; cases h⟩
                      generalize xc.toNat + yc.toNat = sm at *
                      clear h1 hh hb0
                      go_wp2_with fail
                      refine (HAR.out _).mono ?_
                      rintro e w9 ⟨rfl, m9, rfl⟩
                      go_wp2
                      go_roundw
                      case rel => exact ⟨j + 1, _, by omega, by go_num, rfl, (by first | exact HN.out | simpa using HN.out), gr_none hg (gr_none (gr_none (gr_alloc _ _ none) (gr_alloc _ _ none)) (gr_drewN _ _ _))⟩
                      case measure => simp [intOf]; omega
                  · rw [addV_ge h1] at HAR
                    have HN : Hid (false = true ↔ PairTo zc l L (j + 1)) := ⟨fun h => (by cases h), fun h => by rcases HP1.out.1 h with h | h; exact absurd h hb0; rw [lessG_ge h1] at h; cases h⟩
                    clear h1 hh hb0
                    go_wp2_with fail
                    refine (HAR.out _).mono ?_
                    rintro e w9 ⟨rfl, m9, rfl⟩
                    go_wp2
                    go_roundw
                    case rel => exact ⟨j + 1, _, by omega, by go_num, rfl, (by first | exact HN.out | simpa using HN.out), gr_none hg (gr_none (gr_none (gr_alloc _ _ none) (gr_alloc _ _ none)) (gr_drewN _ _ _))⟩
                    case measure => simp [intOf]; omega
                · have hbe : ((xa.toNat : Int) == (ya.toNat : Int)) = false := by simp; omega
                  have HN : Hid (false = true ↔ PairTo zc l L (j + 1)) := ⟨fun h => (by cases h), fun h => by rcases HP1.out.1 h with h | h; exact absurd h hb0; rw [lessG_no hh] at h; cases h⟩
                  generalize hz : addV xc.toNat yc.toNat = z at *
                  unfold addV at hz
                  generalize (if xc.toNat + yc.toNat < 9223372036854775808 then xc.toNat + yc.toNat else 0) = z1 at hz
                  generalize decide (xc.toNat + yc.toNat < 9223372036854775808) = z2 at hz
                  subst hz
                  clear hh hb0
                  go_wp2_with fail
                  refine (HAR.out _).mono ?_
                  rintro e w9 ⟨rfl, m9, rfl⟩
                  go_wp2
                  go_roundw
                  case rel => exact ⟨j + 1, _, by omega, by go_num, rfl, (by first | exact HN.out | simpa using HN.out), gr_none hg (gr_none (gr_none (gr_alloc _ _ none) (gr_alloc _ _ none)) (gr_drewN _ _ _))⟩
                  case measure => simp [intOf]; omega
              · have HN : Hid (true = true ↔ PairTo zc l L (j + 1)) := ⟨fun _ => HP1.out.2 (.inl (HBP.out.1 rfl)), fun _ => rfl⟩
                generalize hz : addV xc.toNat yc.toNat = z at *
                unfold addV at hz
                generalize (if xc.toNat + yc.toNat < 9223372036854775808 then xc.toNat + yc.toNat else 0) = z1 at hz
                generalize decide (xc.toNat + yc.toNat < 9223372036854775808) = z2 at hz
                subst hz
                go_wp2_with fail
                refine (HAR.out _).mono ?_
                rintro e w9 ⟨rfl, m9, rfl⟩
                go_wp2
                go_roundw
                case rel => exact ⟨j + 1, _, by omega, by go_num, rfl, (by first | exact HN.out | simpa using HN.out), gr_none hg (gr_none (gr_none (gr_alloc _ _ none) (gr_alloc _ _ none)) (gr_drewN _ _ _))⟩
                case measure => simp [intOf]; omega
            · obtain rfl : j = l.length * L.length := by omega
              have G6 := Lib.hid (gr_none G45.out hg)
              have HFK := Lib.hid (HFS.out k hlt)
              have HFAK := Lib.hid (HFA.out k hlt)
              rw [HZ.out] at HFK HFAK
              clear hg
              cases b
              · have hgo : goneR l (ofS all) ⟨za, zb, zc⟩ = false := by
                  by_cases e : goneR l (ofS all) ⟨za, zb, zc⟩ = true
                  · have := HBP.out.2 (HPA.out.2 e); cases this
                  · simpa using e
                rw [hgo] at HFK HFAK
                obtain ⟨hqf, hqe⟩ := HFAK.out rfl
                have hqF : q < F.length := by have := hq.out; omega
                have hqE : F[q]'hqF = ⟨za, zb, zc⟩ := by
                  have e := hq.out
                  subst e
                  exact hqe
                have HQ1 : Hid (q + 1 = ((l.take (k + 1)).filter fun y => !goneR l (ofS all) y).length) := by
                  show _ = _
                  have e := congrArg List.length HFK.out
                  have e2 := hq.out
                  simp only [List.length_append, Bool.not_false, if_true, List.length_cons, List.length_nil] at e
                  omega
                have := HA9.out (by omega)
                subst this
                obtain ⟨c0, c1, c2⟩ := at3L HC9.out G6.out hqF hqE
                obtain ⟨d0, d1, d2⟩ := at3L HC.out (gr_none G4.out G6.out) hlt HZ.out
                have hne := run_neqL ⟨za, zb, zc⟩ ⟨za, zb, zc⟩
                have Hiff : lbEq ⟨za, zb, zc⟩ ⟨za, zb, zc⟩ = true := (lbEq_iff _ _).2 rfl
                rw [Hiff] at hne
                simp only [Lb.v] at hne
                clear hqf hqe hqE hgo Hiff
                go_wp2_with fail
                go_quiet (fail)
                go_wp2
                go_roundw
                case rel => exact ⟨k + 1, q + 1, by omega, by go_num, by go_num, by omega, HQ1, gr_none G6.out (gr_drewN _ _ _)⟩
                case measure => simp [intOf]; omega
              · have hgo : goneR l (ofS all) ⟨za, zb, zc⟩ = true := HPA.out.1 (HBP.out.1 rfl)
                rw [hgo] at HFK
                have HQ1 : Hid (q = ((l.take (k + 1)).filter fun y => !goneR l (ofS all) y).length) := by
                  show _ = _
                  have e := congrArg List.length HFK.out
                  have e2 := hq.out
                  simp only [List.length_append, Bool.not_true, Bool.false_eq_true, if_false, List.length_nil] at e
                  omega
                clear hgo
                go_wp2
                go_roundw
                case rel => exact ⟨k + 1, q, by omega, by go_num, rfl, by omega, HQ1, G6.out⟩
                case measure => simp [intOf]; omega
        · obtain rfl : k = l.length := by omega
          have hqF : q = F.length := by
            have e := hq.out
            rw [HTL.out _ (Nat.le_refl _)] at e
            rw [e]
          subst hqF
          go_wp2_with fail
          refine (HW.out _).mono ?_
          rintro e w7 ⟨rfl, g7⟩
          have G7 := Lib.hid (gr_none G4.out (gr_none hg g7))
          clear g7
          go_wp2
          go_ret
          exact ⟨rfl, G7.out⟩
    · go_wp2_with fail
      refine (HW.out _).mono ?_
      rintro e w3 ⟨rfl, g3⟩
      have G3 := Lib.hid (gr_none G1.out g3)
      clear g3
      go_wp2
      go_ret
      exact ⟨rfl, G3.out⟩
  · have hgt : 60 < l.length := by omega
    go_enter Try.func6, Try.ntmps6
    go_wp2_with fail
    refine HLG.out.mono ?_
    rintro e w1 ⟨⟨b, rfl, hb⟩, g1⟩
    have G1 := Lib.hid g1
    clear hb g1
    cases b
    all_goals
      go_wp2_with fail
      refine (HW.out _).mono ?_
      rintro e w3 ⟨rfl, g3⟩
      have G3 := Lib.hid (gr_none G1.out g3)
      clear g3
      go_wp2
      go_ret
      exact ⟨rfl, G3.out⟩
end Go.Proofs.Ytfgkmimhibpceaa

/-
  The document's Reduce: the walk.
-/
import Derived.Test.YthckjpcknmmagaaDoorIrp
namespace Go.Proofs.YthckjpcknmmagaaDoor.R
open Go.RowKit
set_option maxRecDepth 100000
set_option maxHeartbeats 400000

set_option maxHeartbeats 8000000 in
theorem reduceR_any (v : Value) (l : List Ed) (w : World) (h : RdE w v l) (hn : l.length ≤ 100000) :
    Calls Tryd.prog 10 #[v] w fun e w' => (∃ u, e = .returned u ∧ OwnE w' w.heap.size u (redL l)) ∧ w.grownBy w' none := by
  obtain ⟨A, c, rfl⟩ := h.form
  obtain ⟨g, off, hA, _, hcells⟩ := h.at_ ed4
  have HA := Lib.hid hA
  have HC := Lib.hid hcells
  have HAHA := Lib.hid ahead_any
  have HBET := Lib.hid betterR_any
  clear hA hcells h
  go_enter Tryd.func10, Tryd.ntmps10
  go_wp2
  go_loopw [4, 3] (fun i o wr => ∃ (k : Nat) (r : List Ed), k ≤ l.length ∧ i = .int .i64 k ∧ r.length ≤ k ∧ (r = [] → o = .slice none 0 0) ∧ Hid (OwnE wr w.heap.size o r) ∧ Hid ((l.take k).foldl redLE [] = r) ∧ w.grownBy wr none) (fun i _ _ => l.length - (intOf i).toNat)
  case atStart => exact ⟨0, [], by omega, rfl, by simp, fun _ => rfl, OwnG.nil _ _ _ _, Lib.hid rfl, gr_refl _ _⟩
  case round =>
    obtain ⟨k, r, hk, rfl, hrk, hnil, ho, hr, hg⟩ := hrel
    obtain ⟨wo, rfl⟩ : ∃ wo, wo = wr := ⟨_, rfl⟩
    obtain ⟨AO, cO, rfl⟩ := ho.out.rd.form
    by_cases hlt : k < l.length
    · have := HA.out (by omega)
      subst this
      have HF := Lib.hid (foldl_succ redLE [] hlt)
      rcases hx : l[k] with ⟨xa, xb, xc, xd⟩
      obtain ⟨c0, c1, c2, c3⟩ := at4E HC.out hg hlt hx
      rw [hx, hr.out] at HF
      have HG := Lib.hid hg
      have g1 := gr_alloc wo (.cells #[.int .u32 xa.toNat, .int .u32 xb.toNat, .int .u64 xc.toNat, .int .u32 xd.toNat] 29) none
      have HO1 := Lib.hid (ho.out.ext g1)
      have HBX := Lib.hid (Blk.new wo 29 #[.int .u32 xa.toNat, .int .u32 xb.toNat, .int .u64 xc.toNat, .int .u32 xd.toNat])
      have G1 := Lib.hid (gr_none hg g1)
      have HZ1 : Hid (wo.heap.size < (wo.alloc (.cells #[.int .u32 xa.toNat, .int .u32 xb.toNat, .int .u64 xc.toNat, .int .u32 xd.toNat] 29)).heap.size) := by show _ < _; simp
      have HVS : Hid (∀ q, (Value.slice AO r.length cO).ownBlock = some q → q < wo.heap.size) := by
        show ∀ q, _ → _
        by_cases e : r = []
        · have := hnil e
          rw [this]; intro q hq; cases hq
        · exact OwnE.lt_size ho.out (List.length_pos_iff.2 e)
      have HLB := Lib.hid ho.out.lt
      have HNI := Lib.hid hnil
      clear hx hg g1 hnil ho
      by_cases hne : xa.toNat = xb.toNat
      · have hbe : ((xa.toNat : Int) == (xb.toNat : Int)) = true := by simp; omega
        have HP : Hid (redLE r ⟨xa, xb, xc, xd⟩ = r) := by show _ = _; unfold redLE; rw [if_pos (UInt32.toNat_inj.1 hne)]
        clear hne
        go_wp2
        go_roundw
        case rel => exact ⟨k + 1, r, by omega, by go_num, by omega, HNI.out, HO1, Lib.hid (by rw [HF.out, HP.out]), G1.out⟩
        case measure => simp [intOf]; omega
      · have hbe : ((xa.toNat : Int) == (xb.toNat : Int)) = false := by simp; omega
        have HP : Hid (redLE r ⟨xa, xb, xc, xd⟩ = putLE r ⟨xa, xb, xc, xd⟩) := by show _ = _; unfold redLE; rw [if_neg (fun e => hne (by rw [show xa = xb from e]))]
        clear hne
        go_wp2
        clear c0 c1 c2 c3
        generalize hW1 : wo.alloc (.cells #[.int .u32 xa.toNat, .int .u32 xb.toNat, .int .u64 xc.toNat, .int .u32 xd.toNat] 29) = W1 at *
        clear hW1
        go_loopw [6] (fun i wq => ∃ t : Nat, t ≤ r.length ∧ i = .int .i64 t ∧ Hid (LowE r ⟨xa, xb, xc, xd⟩ t) ∧ W1.grownBy wq none) (fun i _ => r.length - (intOf i).toNat)
        case atStart => exact ⟨0, by omega, rfl, Lib.hid (fun _ _ h => by omega), gr_refl _ _⟩
        case round =>
          obtain ⟨t, ht, rfl, hlow, hgq⟩ := hrel
          have HOR := Lib.hid (HO1.out.ext hgq)
          have HBR := Lib.hid (HBX.out.ext hgq)
          have HGR := Lib.hid (gr_none G1.out hgq)
          have HGQ := Lib.hid hgq
          obtain ⟨wp, rfl⟩ : ∃ wp, wp = wr := ⟨_, rfl⟩
          have e0 : wp.cell? ⟨wo.heap.size, 0, none⟩ = some (.int .u32 xa.toNat) := HBR.out.cell 0
          have e1 : wp.cell? ⟨wo.heap.size, 1, none⟩ = some (.int .u32 xb.toNat) := HBR.out.cell 1
          have e2 : wp.cell? ⟨wo.heap.size, 2, none⟩ = some (.int .u64 xc.toNat) := HBR.out.cell 2
          have e3 : wp.cell? ⟨wo.heap.size, 3, none⟩ = some (.int .u32 xd.toNat) := HBR.out.cell 3
          clear hgq
          by_cases hlt2 : t < r.length
          · obtain ⟨g2, off2, rfl⟩ := OwnE.base HOR.out (by omega)
            rcases hy : r[t] with ⟨ya, yb, yc, yd⟩
            obtain ⟨⟨d0, d1, d2, d3⟩, -⟩ := OwnE.at8 HOR.out hlt2 hy
            have HY := Lib.hid hy
            clear hy
            have KZ : Hid (∀ wz, wp.grownBy wz none → wz.cell? ⟨wo.heap.size, 0, none⟩ = some (.int .u32 xa.toNat) ∧ wz.cell? ⟨wo.heap.size, 1, none⟩ = some (.int .u32 xb.toNat) ∧ wz.cell? ⟨wo.heap.size, 2, none⟩ = some (.int .u64 xc.toNat) ∧ wz.cell? ⟨wo.heap.size, 3, none⟩ = some (.int .u32 xd.toNat) ∧ wz.cell? ⟨g2, off2 + t * 4, none⟩ = some (.int .u32 ya.toNat) ∧ wz.cell? ⟨g2, off2 + t * 4 + 1, none⟩ = some (.int .u32 yb.toNat) ∧ wz.cell? ⟨g2, off2 + t * 4 + 2, none⟩ = some (.int .u64 yc.toNat) ∧ wz.cell? ⟨g2, off2 + t * 4 + 3, none⟩ = some (.int .u32 yd.toNat)) := fun wz hz =>
              ⟨hz.cell e0 (by simp), hz.cell e1 (by simp), hz.cell e2 (by simp), hz.cell e3 (by simp), hz.cell d0 (by simp), hz.cell d1 (by simp), hz.cell d2 (by simp), hz.cell d3 (by simp)⟩
            have HAH : Hid (∀ wx, wp.grownBy wx none → Calls Tryd.prog 19 #[.agg #[.int .u32 ya.toNat, .int .u32 yb.toNat, .int .u64 yc.toNat, .int .u32 yd.toNat], .agg #[.int .u32 xa.toNat, .int .u32 xb.toNat, .int .u64 xc.toNat, .int .u32 xd.toNat]] wx fun e wz => e = .returned (.bool (decide (kn ⟨ya, yb, yc, yd⟩ < kn ⟨xa, xb, xc, xd⟩))) ∧ wp.grownBy wz none ∧ wz.cell? ⟨wo.heap.size, 0, none⟩ = some (.int .u32 xa.toNat) ∧ wz.cell? ⟨wo.heap.size, 1, none⟩ = some (.int .u32 xb.toNat) ∧ wz.cell? ⟨wo.heap.size, 2, none⟩ = some (.int .u64 xc.toNat) ∧ wz.cell? ⟨wo.heap.size, 3, none⟩ = some (.int .u32 xd.toNat) ∧ wz.cell? ⟨g2, off2 + t * 4, none⟩ = some (.int .u32 ya.toNat) ∧ wz.cell? ⟨g2, off2 + t * 4 + 1, none⟩ = some (.int .u32 yb.toNat) ∧ wz.cell? ⟨g2, off2 + t * 4 + 2, none⟩ = some (.int .u64 yc.toNat) ∧ wz.cell? ⟨g2, off2 + t * 4 + 3, none⟩ = some (.int .u32 yd.toNat)) := fun wx hx =>
              (HAHA.out ⟨ya, yb, yc, yd⟩ ⟨xa, xb, xc, xd⟩ wx).mono fun e wz h => ⟨h.1, gr_none hx h.2, KZ.out _ (gr_none hx h.2)⟩
            by_cases hyx : kn ⟨ya, yb, yc, yd⟩ < kn ⟨xa, xb, xc, xd⟩
            · have HN := Lib.hid (hlow.out.succ hlt2 (by rw [HY.out]; exact hyx))
              rw [decide_eq_true hyx] at HAH
              clear hyx hlow
              go_wp2_with fail
              go_region_held3 (fun w' => w'.cell? ⟨wo.heap.size, 0, none⟩ = some (.int .u32 xa.toNat) ∧ w'.cell? ⟨wo.heap.size, 1, none⟩ = some (.int .u32 xb.toNat) ∧ w'.cell? ⟨wo.heap.size, 2, none⟩ = some (.int .u64 xc.toNat) ∧ w'.cell? ⟨wo.heap.size, 3, none⟩ = some (.int .u32 xd.toNat) ∧ w'.cell? ⟨g2, off2 + t * 4, none⟩ = some (.int .u32 ya.toNat) ∧ w'.cell? ⟨g2, off2 + t * 4 + 1, none⟩ = some (.int .u32 yb.toNat) ∧ w'.cell? ⟨g2, off2 + t * 4 + 2, none⟩ = some (.int .u64 yc.toNat) ∧ w'.cell? ⟨g2, off2 + t * 4 + 3, none⟩ = some (.int .u32 yd.toNat)) (go_keep) (first | (go_at_call 19; refine (HAH.out _ ?_).mono ?_; (first | exact gr_refl _ _ | exact gr_drew _ _ | exact gr_drewN _ _ _); rintro e wz ⟨rfl, gz, kzwz⟩))
              all_goals
                go_wp2
                go_roundw
                case rel => exact ⟨t + 1, by omega, by go_num, HN, gr_none HGQ.out (by first | exact gz | exact gr_none gz (gr_drew _ _) | exact gr_none gz (gr_drewN _ _ _))⟩
                case measure => simp [intOf]; omega
            · have HAX : Hid (∀ wx, wp.grownBy wx none → Calls Tryd.prog 19 #[.agg #[.int .u32 xa.toNat, .int .u32 xb.toNat, .int .u64 xc.toNat, .int .u32 xd.toNat], .agg #[.int .u32 ya.toNat, .int .u32 yb.toNat, .int .u64 yc.toNat, .int .u32 yd.toNat]] wx fun e wz => e = .returned (.bool (decide (kn ⟨xa, xb, xc, xd⟩ < kn ⟨ya, yb, yc, yd⟩))) ∧ wp.grownBy wz none ∧ wz.cell? ⟨wo.heap.size, 0, none⟩ = some (.int .u32 xa.toNat) ∧ wz.cell? ⟨wo.heap.size, 1, none⟩ = some (.int .u32 xb.toNat) ∧ wz.cell? ⟨wo.heap.size, 2, none⟩ = some (.int .u64 xc.toNat) ∧ wz.cell? ⟨wo.heap.size, 3, none⟩ = some (.int .u32 xd.toNat) ∧ wz.cell? ⟨g2, off2 + t * 4, none⟩ = some (.int .u32 ya.toNat) ∧ wz.cell? ⟨g2, off2 + t * 4 + 1, none⟩ = some (.int .u32 yb.toNat) ∧ wz.cell? ⟨g2, off2 + t * 4 + 2, none⟩ = some (.int .u64 yc.toNat) ∧ wz.cell? ⟨g2, off2 + t * 4 + 3, none⟩ = some (.int .u32 yd.toNat)) := fun wx hx =>
                (HAHA.out ⟨xa, xb, xc, xd⟩ ⟨ya, yb, yc, yd⟩ wx).mono fun e wz h => ⟨h.1, gr_none hx h.2, KZ.out _ (gr_none hx h.2)⟩
              rw [decide_eq_false hyx] at HAH
              by_cases hxy : kn ⟨xa, xb, xc, xd⟩ < kn ⟨ya, yb, yc, yd⟩
              · have HPI := Lib.hid (putLE_ins hlow.out ht (x := ⟨xa, xb, xc, xd⟩) fun _ => by rw [HY.out]; exact hxy)
                rw [decide_eq_true hxy] at HAX
                clear hyx hxy hlow
                go_wp2_with fail
                go_region_held3 (fun w' => w'.cell? ⟨wo.heap.size, 0, none⟩ = some (.int .u32 xa.toNat) ∧ w'.cell? ⟨wo.heap.size, 1, none⟩ = some (.int .u32 xb.toNat) ∧ w'.cell? ⟨wo.heap.size, 2, none⟩ = some (.int .u64 xc.toNat) ∧ w'.cell? ⟨wo.heap.size, 3, none⟩ = some (.int .u32 xd.toNat) ∧ w'.cell? ⟨g2, off2 + t * 4, none⟩ = some (.int .u32 ya.toNat) ∧ w'.cell? ⟨g2, off2 + t * 4 + 1, none⟩ = some (.int .u32 yb.toNat) ∧ w'.cell? ⟨g2, off2 + t * 4 + 2, none⟩ = some (.int .u64 yc.toNat) ∧ w'.cell? ⟨g2, off2 + t * 4 + 3, none⟩ = some (.int .u32 yd.toNat)) (go_keep) (first | (go_at_call 19; refine (HAH.out _ ?_).mono ?_; (first | exact gr_refl _ _ | exact gr_drew _ _ | exact gr_drewN _ _ _); rintro e wz ⟨rfl, gz, kzwz⟩))
                have GA := Lib.hid gz
                clear gz
                go_wp2_with fail
                go_region_held3 (fun w' => w'.cell? ⟨wo.heap.size, 0, none⟩ = some (.int .u32 xa.toNat) ∧ w'.cell? ⟨wo.heap.size, 1, none⟩ = some (.int .u32 xb.toNat) ∧ w'.cell? ⟨wo.heap.size, 2, none⟩ = some (.int .u64 xc.toNat) ∧ w'.cell? ⟨wo.heap.size, 3, none⟩ = some (.int .u32 xd.toNat) ∧ w'.cell? ⟨g2, off2 + t * 4, none⟩ = some (.int .u32 ya.toNat) ∧ w'.cell? ⟨g2, off2 + t * 4 + 1, none⟩ = some (.int .u32 yb.toNat) ∧ w'.cell? ⟨g2, off2 + t * 4 + 2, none⟩ = some (.int .u64 yc.toNat) ∧ w'.cell? ⟨g2, off2 + t * 4 + 3, none⟩ = some (.int .u32 yd.toNat)) (go_keep) (first | (go_at_call 19; refine (HAX.out _ ?_).mono ?_; (first | exact GA.out | exact gr_none GA.out (gr_drew _ _) | exact gr_none GA.out (gr_drewN _ _ _)); rintro e wy ⟨rfl, gz, kzwy⟩))
                have HOI := Lib.hid (HOR.out.ext gz)
                have HBI := Lib.hid (HBR.out.ext gz)
                have GI := Lib.hid (gr_none HGR.out gz)
                have HZI : Hid (wo.heap.size < wy.heap.size) := by
                  have h1 := HGQ.out.size; have h2 := gz.size; have h3 := HZ1.out
                  show _ < _
                  omega
                clear e0 e1 e2 e3 d0 d1 d2 d3 kzwz kzwy gz
                have e0 : wy.cell? ⟨wo.heap.size, 0, none⟩ = some (.int .u32 xa.toNat) := HBI.out.cell 0
                have e1 : wy.cell? ⟨wo.heap.size, 1, none⟩ = some (.int .u32 xb.toNat) := HBI.out.cell 1
                have e2 : wy.cell? ⟨wo.heap.size, 2, none⟩ = some (.int .u64 xc.toNat) := HBI.out.cell 2
                have e3 : wy.cell? ⟨wo.heap.size, 3, none⟩ = some (.int .u32 xd.toNat) := HBI.out.cell 3
                have hzw : w.heap.size ≤ wy.heap.size := GI.out.size
                go_wp2_with (at_builtin; refine wp_app1E ⟨xa, xb, xc, xd⟩ _ rfl rfl (.tmp 60) (.tmp 62) rfl rfl HOI.out wy.heap.size rfl rfl (by omega) hzw ?_; intro v7 w7 h7 g7 a7; have G7 : Hid (wy.grownBy w7 (Value.slice (some ⟨g2, off2, none⟩) r.length cO).ownBlock) := g7; have A7 : Hid (v7.ownBlock = (Value.slice (some ⟨g2, off2, none⟩) r.length cO).ownBlock ∨ ∃ k, v7.ownBlock = some k ∧ wy.heap.size ≤ k) := a7; clear g7 a7; have e7 := h7.rd.form; rw [List.length_append] at e7; obtain ⟨A9, c9, rfl⟩ := e7; have H7 := Lib.hid h7; clear h7)
                have e1L : [(⟨xa, xb, xc, xd⟩ : Ed)].length = 1 := rfl
                rw [e1L] at H7 A7
                obtain ⟨g9, off9, rfl⟩ := OwnE.base H7.out (by simp)
                have HNB : Hid (wo.heap.size ≠ g9) := fun e2 => by
                  have hz := HZI.out
                  rcases A7.out with h | ⟨q, h, hq⟩
                  · have := HVS.out g9 (by rw [← h]; rfl)
                    omega
                  · have h := Option.some.inj h
                    simp at h
                    omega
                have HB7 : Hid (Blk w7 wo.heap.size 29 #[.int .u32 xa.toNat, .int .u32 xb.toNat, .int .u64 xc.toNat, .int .u32 xd.toNat]) := HBI.out.gr G7.out (fun e => by have := HVS.out _ e; omega)
                have HLB9 : Hid (w.heap.size ≤ g9) := H7.out.lt g9 rfl
                have GW7 : Hid (w.grownBy w7 none) := by
                  refine gr_trans GI.out G7.out ?_
                  cases hv : (Value.slice (some ⟨g2, off2, none⟩) r.length cO).ownBlock with
                  | none => exact .inl rfl
                  | some q => exact .inr fun q' e => by cases e; exact HLB.out _ hv
                clear e0 e1 e2 e3
                go_loopw [7] (fun i wq => ∃ (j : Nat) (z : Ed), t ≤ j ∧ j ≤ r.length ∧ i = .int .i64 j ∧ Hid (OwnE wq w.heap.size (.slice (some ⟨g9, off9, none⟩) (r.length + 1) c9) (r.take j ++ z :: r.drop j)) ∧ w7.grownBy wq (some g9)) (fun i _ => (intOf i).toNat)
                case atStart => exact ⟨r.length, ⟨xa, xb, xc, xd⟩, ht, Nat.le_refl _, rfl, by rw [List.take_length, List.drop_length]; exact H7, gr_refl _ _⟩
                case round =>
                  obtain ⟨j, z, hkj, hj, rfl, ho, hg⟩ := hrel
                  by_cases hlt9 : t < j
                  · obtain ⟨i, rfl⟩ : ∃ i, j = i + 1 := ⟨j - 1, by omega⟩
                    have hil : i < r.length := by omega
                    rcases hp : r[i] with ⟨pa, pb, pc, pd⟩
                    rcases hq : (r.take (i + 1) ++ z :: r.drop (i + 1))[i + 1]'(by rw [ins_len hj]; omega) with ⟨qa, qb, qc, qd⟩
                    obtain ⟨⟨p0, p1, p2, p3⟩, -⟩ := OwnE.at8 ho.out (k := i) (by rw [ins_len hj]; omega) ((ins_at hil _).trans hp)
                    obtain ⟨⟨q0, q1, q2, q3⟩, n0, n1, n2, n3⟩ := OwnE.at8 ho.out (k := i + 1) (by rw [ins_len hj]; omega) hq
                    have HS := Lib.hid (OwnE.set ho.out rfl (i := i + 1) (by rw [ins_len hj]; omega) r[i])
                    rw [ins_step hil, hp] at HS
                    clear hp hq ho
                    go_wp2
                    go_roundw
                    case rel => exact ⟨i, _, by omega, by omega, rfl, HS, gr_trans hg (gr_set4 _ _ _ ⟨pa, pb, pc, pd⟩) (.inl rfl)⟩
                    case measure => simp [intOf]
                  · obtain rfl : t = j := by omega
                    have HBQ := Lib.hid (HB7.out.gr hg (by simpa using fun e => HNB.out e.symm))
                    have e0 : wr.cell? ⟨wo.heap.size, 0, none⟩ = some (.int .u32 xa.toNat) := HBQ.out.cell 0
                    have e1 : wr.cell? ⟨wo.heap.size, 1, none⟩ = some (.int .u32 xb.toNat) := HBQ.out.cell 1
                    have e2 : wr.cell? ⟨wo.heap.size, 2, none⟩ = some (.int .u64 xc.toNat) := HBQ.out.cell 2
                    have e3 : wr.cell? ⟨wo.heap.size, 3, none⟩ = some (.int .u32 xd.toNat) := HBQ.out.cell 3
                    rcases hq : (r.take t ++ z :: r.drop t)[t]'(by rw [ins_len hj]; omega) with ⟨qa, qb, qc, qd⟩
                    obtain ⟨⟨q0, q1, q2, q3⟩, n0, n1, n2, n3⟩ := OwnE.at8 ho.out (k := t) (by rw [ins_len hj]; omega) hq
                    have HS := Lib.hid (OwnE.set ho.out rfl (i := t) (by rw [ins_len hj]; omega) ⟨xa, xb, xc, xd⟩)
                    rw [ins_end hj] at HS
                    clear hq ho
                    have GQ := Lib.hid hg
                    clear hg
                    go_wp2
                    go_roundw
                    case rel => exact ⟨k + 1, r.take t ++ ⟨xa, xb, xc, xd⟩ :: r.drop t, by omega, by go_num, by simp; omega, fun e => absurd (congrArg List.length e) (by simp), HS, Lib.hid (by rw [HF.out, HP.out, HPI.out]), gr_trans GW7.out (gr_trans GQ.out (gr_set4 _ _ _ ⟨xa, xb, xc, xd⟩) (.inl rfl)) (.inr fun q e => by cases e; exact HLB9.out)⟩
                    case measure => simp [intOf]; omega
              · have heq : kn ⟨ya, yb, yc, yd⟩ = kn ⟨xa, xb, xc, xd⟩ := by omega
                have HBT : Hid (∀ wx, wp.grownBy wx none → Calls Tryd.prog 20 #[.agg #[.int .u32 xa.toNat, .int .u32 xb.toNat, .int .u64 xc.toNat, .int .u32 xd.toNat], .agg #[.int .u32 ya.toNat, .int .u32 yb.toNat, .int .u64 yc.toNat, .int .u32 yd.toNat]] wx fun e wz => e = .returned (.bool (decide (wn ⟨xa, xb, xc, xd⟩ < wn ⟨ya, yb, yc, yd⟩))) ∧ wp.grownBy wz none ∧ wz.cell? ⟨wo.heap.size, 0, none⟩ = some (.int .u32 xa.toNat) ∧ wz.cell? ⟨wo.heap.size, 1, none⟩ = some (.int .u32 xb.toNat) ∧ wz.cell? ⟨wo.heap.size, 2, none⟩ = some (.int .u64 xc.toNat) ∧ wz.cell? ⟨wo.heap.size, 3, none⟩ = some (.int .u32 xd.toNat) ∧ wz.cell? ⟨g2, off2 + t * 4, none⟩ = some (.int .u32 ya.toNat) ∧ wz.cell? ⟨g2, off2 + t * 4 + 1, none⟩ = some (.int .u32 yb.toNat) ∧ wz.cell? ⟨g2, off2 + t * 4 + 2, none⟩ = some (.int .u64 yc.toNat) ∧ wz.cell? ⟨g2, off2 + t * 4 + 3, none⟩ = some (.int .u32 yd.toNat)) := fun wx hx =>
                  (HBET.out ⟨xa, xb, xc, xd⟩ ⟨ya, yb, yc, yd⟩ wx).mono fun e wz h => ⟨h.1, gr_none hx h.2, KZ.out _ (gr_none hx h.2)⟩
                rw [decide_eq_false hxy] at HAX
                by_cases hw : wn ⟨xa, xb, xc, xd⟩ < wn ⟨ya, yb, yc, yd⟩
                · have HPS := Lib.hid (putLE_set hlow.out hlt2 (x := ⟨xa, xb, xc, xd⟩) (by rw [HY.out]; exact heq) (by rw [HY.out]; exact hw))
                  rw [decide_eq_true hw] at HBT
                  clear hyx hxy hlow heq hw
                  go_wp2_with fail
                  go_region_held3 (fun w' => w'.cell? ⟨wo.heap.size, 0, none⟩ = some (.int .u32 xa.toNat) ∧ w'.cell? ⟨wo.heap.size, 1, none⟩ = some (.int .u32 xb.toNat) ∧ w'.cell? ⟨wo.heap.size, 2, none⟩ = some (.int .u64 xc.toNat) ∧ w'.cell? ⟨wo.heap.size, 3, none⟩ = some (.int .u32 xd.toNat) ∧ w'.cell? ⟨g2, off2 + t * 4, none⟩ = some (.int .u32 ya.toNat) ∧ w'.cell? ⟨g2, off2 + t * 4 + 1, none⟩ = some (.int .u32 yb.toNat) ∧ w'.cell? ⟨g2, off2 + t * 4 + 2, none⟩ = some (.int .u64 yc.toNat) ∧ w'.cell? ⟨g2, off2 + t * 4 + 3, none⟩ = some (.int .u32 yd.toNat)) (go_keep) (first | (go_at_call 19; refine (HAH.out _ ?_).mono ?_; (first | exact gr_refl _ _ | exact gr_drew _ _ | exact gr_drewN _ _ _); rintro e wz ⟨rfl, gz, kzwz⟩))
                  have GA := Lib.hid gz
                  clear gz
                  go_wp2_with fail
                  go_region_held3 (fun w' => w'.cell? ⟨wo.heap.size, 0, none⟩ = some (.int .u32 xa.toNat) ∧ w'.cell? ⟨wo.heap.size, 1, none⟩ = some (.int .u32 xb.toNat) ∧ w'.cell? ⟨wo.heap.size, 2, none⟩ = some (.int .u64 xc.toNat) ∧ w'.cell? ⟨wo.heap.size, 3, none⟩ = some (.int .u32 xd.toNat) ∧ w'.cell? ⟨g2, off2 + t * 4, none⟩ = some (.int .u32 ya.toNat) ∧ w'.cell? ⟨g2, off2 + t * 4 + 1, none⟩ = some (.int .u32 yb.toNat) ∧ w'.cell? ⟨g2, off2 + t * 4 + 2, none⟩ = some (.int .u64 yc.toNat) ∧ w'.cell? ⟨g2, off2 + t * 4 + 3, none⟩ = some (.int .u32 yd.toNat)) (go_keep) (first | (go_at_call 19; refine (HAX.out _ ?_).mono ?_; (first | exact GA.out | exact gr_none GA.out (gr_drew _ _) | exact gr_none GA.out (gr_drewN _ _ _)); rintro e wy ⟨rfl, gz, kzwy⟩))
                  have GB := Lib.hid gz
                  clear gz kzwz
                  go_wp2_with fail
                  go_region_held3 (fun w' => w'.cell? ⟨wo.heap.size, 0, none⟩ = some (.int .u32 xa.toNat) ∧ w'.cell? ⟨wo.heap.size, 1, none⟩ = some (.int .u32 xb.toNat) ∧ w'.cell? ⟨wo.heap.size, 2, none⟩ = some (.int .u64 xc.toNat) ∧ w'.cell? ⟨wo.heap.size, 3, none⟩ = some (.int .u32 xd.toNat) ∧ w'.cell? ⟨g2, off2 + t * 4, none⟩ = some (.int .u32 ya.toNat) ∧ w'.cell? ⟨g2, off2 + t * 4 + 1, none⟩ = some (.int .u32 yb.toNat) ∧ w'.cell? ⟨g2, off2 + t * 4 + 2, none⟩ = some (.int .u64 yc.toNat) ∧ w'.cell? ⟨g2, off2 + t * 4 + 3, none⟩ = some (.int .u32 yd.toNat)) (go_keep) (first | (go_at_call 20; refine (HBT.out _ ?_).mono ?_; (first | exact GB.out | exact gr_none GB.out (gr_drew _ _) | exact gr_none GB.out (gr_drewN _ _ _)); rintro e wu ⟨rfl, gz, kzwu⟩))
                  have HOI := Lib.hid (HOR.out.ext gz)
                  have HBI := Lib.hid (HBR.out.ext gz)
                  have GI := Lib.hid (gr_none HGR.out gz)
                  clear e0 e1 e2 e3 d0 d1 d2 d3 kzwy kzwu gz
                  have e0 : wu.cell? ⟨wo.heap.size, 0, none⟩ = some (.int .u32 xa.toNat) := HBI.out.cell 0
                  have e1 : wu.cell? ⟨wo.heap.size, 1, none⟩ = some (.int .u32 xb.toNat) := HBI.out.cell 1
                  have e2 : wu.cell? ⟨wo.heap.size, 2, none⟩ = some (.int .u64 xc.toNat) := HBI.out.cell 2
                  have e3 : wu.cell? ⟨wo.heap.size, 3, none⟩ = some (.int .u32 xd.toNat) := HBI.out.cell 3
                  obtain ⟨⟨d0, d1, d2, d3⟩, f0, f1, f2, f3⟩ := OwnE.at8 HOI.out hlt2 HY.out
                  have HS := Lib.hid (OwnE.set HOI.out rfl hlt2 ⟨xa, xb, xc, xd⟩)
                  have HLB9 : Hid (w.heap.size ≤ g2) := HLB.out g2 rfl
                  go_wp2
                  go_roundw
                  case rel => exact ⟨k + 1, r.set t ⟨xa, xb, xc, xd⟩, by omega, by go_num, by simp; omega, fun e => absurd (congrArg List.length e) (by rw [List.length_set, List.length_nil]; omega), HS, Lib.hid (by rw [HF.out, HP.out, HPS.out]), gr_trans GI.out (gr_set4 _ _ _ ⟨xa, xb, xc, xd⟩) (.inr fun q e => by cases e; exact HLB9.out)⟩
                  case measure => simp [intOf]; omega
                · have HPS := Lib.hid (putLE_keep hlow.out hlt2 (x := ⟨xa, xb, xc, xd⟩) (by rw [HY.out]; exact heq) (by rw [HY.out]; exact hw))
                  rw [decide_eq_false hw] at HBT
                  clear hyx hxy hlow heq hw
                  go_wp2_with fail
                  go_region_held3 (fun w' => w'.cell? ⟨wo.heap.size, 0, none⟩ = some (.int .u32 xa.toNat) ∧ w'.cell? ⟨wo.heap.size, 1, none⟩ = some (.int .u32 xb.toNat) ∧ w'.cell? ⟨wo.heap.size, 2, none⟩ = some (.int .u64 xc.toNat) ∧ w'.cell? ⟨wo.heap.size, 3, none⟩ = some (.int .u32 xd.toNat) ∧ w'.cell? ⟨g2, off2 + t * 4, none⟩ = some (.int .u32 ya.toNat) ∧ w'.cell? ⟨g2, off2 + t * 4 + 1, none⟩ = some (.int .u32 yb.toNat) ∧ w'.cell? ⟨g2, off2 + t * 4 + 2, none⟩ = some (.int .u64 yc.toNat) ∧ w'.cell? ⟨g2, off2 + t * 4 + 3, none⟩ = some (.int .u32 yd.toNat)) (go_keep) (first | (go_at_call 19; refine (HAH.out _ ?_).mono ?_; (first | exact gr_refl _ _ | exact gr_drew _ _ | exact gr_drewN _ _ _); rintro e wz ⟨rfl, gz, kzwz⟩))
                  have GA := Lib.hid gz
                  clear gz
                  go_wp2_with fail
                  go_region_held3 (fun w' => w'.cell? ⟨wo.heap.size, 0, none⟩ = some (.int .u32 xa.toNat) ∧ w'.cell? ⟨wo.heap.size, 1, none⟩ = some (.int .u32 xb.toNat) ∧ w'.cell? ⟨wo.heap.size, 2, none⟩ = some (.int .u64 xc.toNat) ∧ w'.cell? ⟨wo.heap.size, 3, none⟩ = some (.int .u32 xd.toNat) ∧ w'.cell? ⟨g2, off2 + t * 4, none⟩ = some (.int .u32 ya.toNat) ∧ w'.cell? ⟨g2, off2 + t * 4 + 1, none⟩ = some (.int .u32 yb.toNat) ∧ w'.cell? ⟨g2, off2 + t * 4 + 2, none⟩ = some (.int .u64 yc.toNat) ∧ w'.cell? ⟨g2, off2 + t * 4 + 3, none⟩ = some (.int .u32 yd.toNat)) (go_keep) (first | (go_at_call 19; refine (HAX.out _ ?_).mono ?_; (first | exact GA.out | exact gr_none GA.out (gr_drew _ _) | exact gr_none GA.out (gr_drewN _ _ _)); rintro e wy ⟨rfl, gz, kzwy⟩))
                  have GB := Lib.hid gz
                  clear gz kzwz
                  go_wp2_with fail
                  go_region_held3 (fun w' => w'.cell? ⟨wo.heap.size, 0, none⟩ = some (.int .u32 xa.toNat) ∧ w'.cell? ⟨wo.heap.size, 1, none⟩ = some (.int .u32 xb.toNat) ∧ w'.cell? ⟨wo.heap.size, 2, none⟩ = some (.int .u64 xc.toNat) ∧ w'.cell? ⟨wo.heap.size, 3, none⟩ = some (.int .u32 xd.toNat) ∧ w'.cell? ⟨g2, off2 + t * 4, none⟩ = some (.int .u32 ya.toNat) ∧ w'.cell? ⟨g2, off2 + t * 4 + 1, none⟩ = some (.int .u32 yb.toNat) ∧ w'.cell? ⟨g2, off2 + t * 4 + 2, none⟩ = some (.int .u64 yc.toNat) ∧ w'.cell? ⟨g2, off2 + t * 4 + 3, none⟩ = some (.int .u32 yd.toNat)) (go_keep) (first | (go_at_call 20; refine (HBT.out _ ?_).mono ?_; (first | exact GB.out | exact gr_none GB.out (gr_drew _ _) | exact gr_none GB.out (gr_drewN _ _ _)); rintro e wu ⟨rfl, gz, kzwu⟩))
                  go_wp2
                  go_roundw
                  case rel => exact ⟨k + 1, r, by omega, by go_num, by omega, fun e => absurd (congrArg List.length e) (by rw [List.length_nil]; omega), HOR.out.ext gz, Lib.hid (by rw [HF.out, HP.out, HPS.out]), gr_none HGR.out gz⟩
                  case measure => simp [intOf]; omega
          · obtain rfl : t = r.length := by omega
            have HPI := Lib.hid (putLE_ins hlow.out ht (x := ⟨xa, xb, xc, xd⟩) fun h => absurd h hlt2)
            clear hlow
            go_wp2_with fail
            go_quiet (fail)
            go_wp2_with fail
            go_quiet (fail)
            generalize hwq : World.drewN _ _ = wy
            have gz : wp.grownBy wy none := by rw [← hwq]; first | exact gr_drewN _ _ _ | exact gr_none (gr_drewN _ _ _) (gr_drewN _ _ _)
            have HOI := Lib.hid (HOR.out.ext gz)
            have HBI := Lib.hid (HBR.out.ext gz)
            have GI := Lib.hid (gr_none HGR.out gz)
            have HZI : Hid (wo.heap.size < wy.heap.size) := by
              have h1 := HGQ.out.size; have h2 := gz.size; have h3 := HZ1.out
              show _ < _
              omega
            clear e0 e1 e2 e3 hwq gz
            have e0 : wy.cell? ⟨wo.heap.size, 0, none⟩ = some (.int .u32 xa.toNat) := HBI.out.cell 0
            have e1 : wy.cell? ⟨wo.heap.size, 1, none⟩ = some (.int .u32 xb.toNat) := HBI.out.cell 1
            have e2 : wy.cell? ⟨wo.heap.size, 2, none⟩ = some (.int .u64 xc.toNat) := HBI.out.cell 2
            have e3 : wy.cell? ⟨wo.heap.size, 3, none⟩ = some (.int .u32 xd.toNat) := HBI.out.cell 3
            have hzw : w.heap.size ≤ wy.heap.size := GI.out.size
            go_wp2_with (at_builtin; refine wp_app1E ⟨xa, xb, xc, xd⟩ _ rfl rfl (.tmp 60) (.tmp 62) rfl rfl HOI.out wy.heap.size rfl rfl (by omega) hzw ?_; intro v7 w7 h7 g7 a7; have G7 : Hid (wy.grownBy w7 (Value.slice AO r.length cO).ownBlock) := g7; have A7 : Hid (v7.ownBlock = (Value.slice AO r.length cO).ownBlock ∨ ∃ k, v7.ownBlock = some k ∧ wy.heap.size ≤ k) := a7; clear g7 a7; have e7 := h7.rd.form; rw [List.length_append] at e7; obtain ⟨A9, c9, rfl⟩ := e7; have H7 := Lib.hid h7; clear h7)
            have e1L : [(⟨xa, xb, xc, xd⟩ : Ed)].length = 1 := rfl
            rw [e1L] at H7 A7
            obtain ⟨g9, off9, rfl⟩ := OwnE.base H7.out (by simp)
            have HNB : Hid (wo.heap.size ≠ g9) := fun e2 => by
              have hz := HZI.out
              rcases A7.out with h | ⟨q, h, hq⟩
              · have := HVS.out g9 (by rw [← h]; rfl)
                omega
              · have h := Option.some.inj h
                simp at h
                omega
            have HB7 : Hid (Blk w7 wo.heap.size 29 #[.int .u32 xa.toNat, .int .u32 xb.toNat, .int .u64 xc.toNat, .int .u32 xd.toNat]) := HBI.out.gr G7.out (fun e => by have := HVS.out _ e; omega)
            have HLB9 : Hid (w.heap.size ≤ g9) := H7.out.lt g9 rfl
            have GW7 : Hid (w.grownBy w7 none) := by
              refine gr_trans GI.out G7.out ?_
              cases hv : (Value.slice AO r.length cO).ownBlock with
              | none => exact .inl rfl
              | some q => exact .inr fun q' e => by cases e; exact HLB.out _ hv
            clear e0 e1 e2 e3
            go_loopw [7] (fun i wq => ∃ (j : Nat) (z : Ed), r.length ≤ j ∧ j ≤ r.length ∧ i = .int .i64 j ∧ Hid (OwnE wq w.heap.size (.slice (some ⟨g9, off9, none⟩) (r.length + 1) c9) (r.take j ++ z :: r.drop j)) ∧ w7.grownBy wq (some g9)) (fun i _ => (intOf i).toNat)
            case atStart => exact ⟨r.length, ⟨xa, xb, xc, xd⟩, ht, Nat.le_refl _, rfl, by rw [List.take_length, List.drop_length]; exact H7, gr_refl _ _⟩
            case round =>
              obtain ⟨j, z, hkj, hj, rfl, ho, hg⟩ := hrel
              by_cases hlt9 : r.length < j
              · exfalso; omega
              · obtain rfl : j = r.length := by omega
                have HBQ := Lib.hid (HB7.out.gr hg (by simpa using fun e => HNB.out e.symm))
                have e0 : wr.cell? ⟨wo.heap.size, 0, none⟩ = some (.int .u32 xa.toNat) := HBQ.out.cell 0
                have e1 : wr.cell? ⟨wo.heap.size, 1, none⟩ = some (.int .u32 xb.toNat) := HBQ.out.cell 1
                have e2 : wr.cell? ⟨wo.heap.size, 2, none⟩ = some (.int .u64 xc.toNat) := HBQ.out.cell 2
                have e3 : wr.cell? ⟨wo.heap.size, 3, none⟩ = some (.int .u32 xd.toNat) := HBQ.out.cell 3
                rcases hq : (r.take r.length ++ z :: r.drop r.length)[r.length]'(by rw [ins_len hj]; omega) with ⟨qa, qb, qc, qd⟩
                obtain ⟨⟨q0, q1, q2, q3⟩, n0, n1, n2, n3⟩ := OwnE.at8 ho.out (k := r.length) (by rw [ins_len hj]; omega) hq
                have HS := Lib.hid (OwnE.set ho.out rfl (i := r.length) (by rw [ins_len hj]; omega) ⟨xa, xb, xc, xd⟩)
                rw [ins_end hj] at HS
                clear hq ho
                have GQ := Lib.hid hg
                clear hg
                go_wp2
                go_roundw
                case rel => exact ⟨k + 1, r.take r.length ++ ⟨xa, xb, xc, xd⟩ :: r.drop r.length, by omega, by go_num, by simp; omega, fun e => absurd (congrArg List.length e) (by simp), HS, Lib.hid (by rw [HF.out, HP.out, HPI.out]), gr_trans GW7.out (gr_trans GQ.out (gr_set4 _ _ _ ⟨xa, xb, xc, xd⟩) (.inl rfl)) (.inr fun q e => by cases e; exact HLB9.out)⟩
                case measure => simp [intOf]; omega
    · obtain rfl : k = l.length := by omega
      rw [List.take_length] at hr
      have HR : Hid (OwnE wo w.heap.size (Value.slice AO r.length cO) (redL l)) := by
        have e : redL l = r := hr.out
        rw [e]; exact ho.out
      have HG := Lib.hid hg
      clear hg ho hr
      go_wp2
      go_ret
      exact ⟨⟨_, rfl, HR.out⟩, HG.out⟩
end Go.Proofs.YthckjpcknmmagaaDoor.R

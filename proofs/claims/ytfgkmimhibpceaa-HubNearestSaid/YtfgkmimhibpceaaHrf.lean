/-
  Hub: the document's less and Prune.
-/
import Derived.Test.YtfgkmimhibpceaaHpr2
namespace Go.Proofs.Ytfgkmimhibpceaa
open Go.RowKit
set_option maxRecDepth 100000
set_option maxHeartbeats 400000

def lessG (d : UInt64) (x y : Lb) : Bool := (x.hub.toNat : Int) == y.hub.toNat && (decide (x.dist.toNat + y.dist.toNat < 9223372036854775808) && decide (x.dist.toNat + y.dist.toNat < d.toNat))
theorem lessG_no {d : UInt64} {x y : Lb} (h : ¬ x.hub.toNat = y.hub.toNat) : lessG d x y = false := by
  unfold lessG
  rw [show ((x.hub.toNat : Int) == y.hub.toNat) = false from by simp; omega]; rfl
theorem addr_q (x y : Nat) (hx : x < 18446744073709551616) (hy : y < 18446744073709551616) (w : World) :
    Calls Try.prog 25 #[.int .u64 x, .int .u64 y] w fun e w' => e = .returned (addV x y) ∧ ∃ m, w' = w.drewN m :=
  (addr_any x y hx hy w).mono fun _ _ ⟨h1, h2⟩ => ⟨h1, 0, by rw [← h2]; rfl⟩
theorem lessG_ge {d : UInt64} {x y : Lb} (h : ¬ x.dist.toNat + y.dist.toNat < 9223372036854775808) : lessG d x y = false := by simp [lessG, h]
theorem lessG_nl {d : UInt64} {x y : Lb} (h : ¬ x.dist.toNat + y.dist.toNat < d.toNat) : lessG d x y = false := by simp [lessG, h]
theorem lessG_yes {d : UInt64} {x y : Lb} (h0 : x.hub.toNat = y.hub.toNat) (h1 : x.dist.toNat + y.dist.toNat < 9223372036854775808) (h2 : x.dist.toNat + y.dist.toNat < d.toNat) : lessG d x y = true := by simp [lessG, h0, h1, h2]
set_option maxHeartbeats 4000000 in
theorem less_any (v v' : Value) (l b : List Lb) (d : UInt64) (w : World) (h : RdL w v l) (h' : RdL w v' b) (hn : l.length ≤ 1000000000) (hn' : b.length ≤ 1000000000) :
    Calls Try.prog 40 #[v, v', .int .u64 d.toNat] w fun e w' => e = .returned (.bool (l.any fun x => b.any (lessG d x))) ∧ w.grownBy w' none := by
  obtain ⟨A, c, rfl⟩ := h.form
  obtain ⟨A', c', rfl⟩ := h'.form
  obtain ⟨g, off, hA, _, hcells⟩ := h.at_ lb3
  obtain ⟨g', off', hA', _, hcells'⟩ := h'.at_ lb3
  have HA := Lib.hid hA
  have HC := Lib.hid hcells
  have HA' := Lib.hid hA'
  have HC' := Lib.hid hcells'
  clear hA hcells hA' hcells' h h'
  go_enter Try.func40, Try.ntmps40
  go_wp2
  go_loopw [7] (fun i wr => ∃ k : Nat, k ≤ l.length ∧ i = .int .i64 k ∧ NoneTo (fun x => b.any (lessG d x)) l k ∧ w.grownBy wr none) (fun i _ => l.length - (intOf i).toNat)
  case atStart => exact ⟨0, by omega, rfl, by simp [NoneTo], gr_refl _ _⟩
  case round =>
    obtain ⟨k, hk, rfl, hall, hg⟩ := hrel
    have Hall := Lib.hid hall
    have Hg := Lib.hid hg
    clear hall
    by_cases hlt : k < l.length
    · have := HA.out (by omega)
      subst this
      rcases hx : l[k] with ⟨xa, xb, xc⟩
      have Hx := Lib.hid hx
      clear hx
      obtain ⟨wo, rfl⟩ : ∃ wo, wo = wr := ⟨_, rfl⟩
      clear hg
      go_wp2
      go_loopw [8] (fun i wq => ∃ j : Nat, j ≤ b.length ∧ i = .int .i64 j ∧ NoneTo (lessG d ⟨xa, xb, xc⟩) b j ∧ w.grownBy wq none) (fun i _ => b.length - (intOf i).toNat)
      case atStart => exact ⟨0, by omega, rfl, by simp [NoneTo], Hg.out⟩
      case round =>
        obtain ⟨j, hj, rfl, hnone, hg⟩ := hrel
        have HN := Lib.hid hnone
        clear hnone
        by_cases hlj : j < b.length
        · have := HA'.out (by omega)
          subst this
          rcases hy : b[j] with ⟨ya, yb, yc⟩
          have Hy := Lib.hid hy
          obtain ⟨c0, c1, c2⟩ := at3L HC.out hg hlt Hx.out
          obtain ⟨d0, d1, d2⟩ := at3L HC'.out hg hlj hy
          have HAR := Lib.hid (addr_q xc.toNat yc.toNat xc.toNat_lt yc.toNat_lt)
          clear hy c1 d1
          by_cases hh : xa.toNat = ya.toNat
          · have hb0 : ((xa.toNat : Int) == (ya.toNat : Int)) = true := by simp; omega
            by_cases h1 : xc.toNat + yc.toNat < 9223372036854775808
            · rw [addV_lt h1] at HAR
              by_cases h2 : xc.toNat + yc.toNat < d.toNat
              · have HS : Hid ((l.any fun x => b.any (lessG d x)) = true) := any_at hlt (by rw [Hx.out]; exact any_at hlj (by rw [Hy.out]; exact lessG_yes hh h1 h2))
                generalize xc.toNat + yc.toNat = s at *
                clear h1 hh
                go_wp2_with fail
                go_quiet ((go_at_call 25; with_reducible exact Calls.quiet_of (HAR.out _)))
                go_wp2_with fail
                go_quiet (fail)
                go_wp2
                go_ret
                exact ⟨by rw [HS.out]; rfl, gr_none hg (by first | exact gr_drewN _ _ _ | exact gr_none (gr_drewN _ _ _) (gr_drewN _ _ _))⟩
              · have HS : Hid (NoneTo (lessG d ⟨xa, xb, xc⟩) b (j + 1)) := HN.out.succ hlj (by rw [Hy.out]; exact lessG_nl h2)
                generalize xc.toNat + yc.toNat = s at *
                clear h1 hh
                go_wp2_with fail
                go_quiet ((go_at_call 25; with_reducible exact Calls.quiet_of (HAR.out _)))
                go_wp2_with fail
                go_quiet (fail)
                go_wp2
                go_roundw
                case rel => exact ⟨j + 1, by omega, by go_num, HS.out, gr_none hg (by first | exact gr_drewN _ _ _ | exact gr_none (gr_drewN _ _ _) (gr_drewN _ _ _))⟩
                case measure => simp [intOf]; omega
            · rw [addV_ge h1] at HAR
              have HS : Hid (NoneTo (lessG d ⟨xa, xb, xc⟩) b (j + 1)) := HN.out.succ hlj (by rw [Hy.out]; exact lessG_ge h1)
              clear h1 hh
              go_wp2_with fail
              go_quiet ((go_at_call 25; with_reducible exact Calls.quiet_of (HAR.out _)))
              go_wp2_with fail
              go_quiet (fail)
              go_wp2
              go_roundw
              case rel => exact ⟨j + 1, by omega, by go_num, HS.out, gr_none hg (by first | exact gr_drewN _ _ _ | exact gr_none (gr_drewN _ _ _) (gr_drewN _ _ _))⟩
              case measure => simp [intOf]; omega
          · have hb0 : ((xa.toNat : Int) == (ya.toNat : Int)) = false := by simp; omega
            have HS : Hid (NoneTo (lessG d ⟨xa, xb, xc⟩) b (j + 1)) := HN.out.succ hlj (by rw [Hy.out]; exact lessG_no hh)
            generalize hz : addV xc.toNat yc.toNat = z at *
            unfold addV at hz
            generalize (if xc.toNat + yc.toNat < 9223372036854775808 then xc.toNat + yc.toNat else 0) = z1 at hz
            generalize decide (xc.toNat + yc.toNat < 9223372036854775808) = z2 at hz
            subst hz
            clear hh
            go_wp2_with fail
            go_quiet ((go_at_call 25; with_reducible exact Calls.quiet_of (HAR.out _)))
            go_wp2_with fail
            go_quiet (fail)
            go_wp2
            go_roundw
            case rel => exact ⟨j + 1, by omega, by go_num, HS.out, gr_none hg (by first | exact gr_drewN _ _ _ | exact gr_none (gr_drewN _ _ _) (gr_drewN _ _ _))⟩
            case measure => simp [intOf]; omega
        · obtain rfl : j = b.length := by omega
          have HS : Hid (NoneTo (fun x => b.any (lessG d x)) l (k + 1)) := Hall.out.succ hlt (by
            have := HN.out
            unfold NoneTo at this
            rw [List.take_length] at this
            rw [Hx.out]; exact this)
          go_wp2
          go_roundw
          case rel => exact ⟨k + 1, by omega, by go_num, HS.out, hg⟩
          case measure => simp [intOf]; omega
    · obtain rfl : k = l.length := by omega
      have HV : Hid ((l.any fun x => b.any (lessG d x)) = false) := by
        have := Hall.out
        unfold NoneTo at this
        rw [List.take_length] at this
        exact this
      go_wp2
      go_ret
      exact ⟨by rw [HV.out]; rfl, hg⟩
/-- what the document's Prune lets go. -/
def goneR (l : List Lb) (of : UInt32 → List Lb) (x : Lb) : Bool := l.any fun a => (of x.hub).any (lessG x.dist a)
set_option maxHeartbeats 4000000 in
theorem pruner_any (v sv : Value) (l : List Lb) (all : List Ow) (w : World) (h : RdL w v l) (hS : RdS w sv all) (hn : l.length ≤ 1000000) (ha : all.length ≤ 600) (hm : ∀ x, (ofS all x).length ≤ 600) :
    Calls Try.prog 21 #[v, sv] w fun e w' => (∃ u, e = .returned u ∧ OwnL w' w.heap.size u (l.filter fun y => !goneR l (ofS all) y)) ∧ w.grownBy w' none := by
  obtain ⟨A, c, rfl⟩ := h.form
  obtain ⟨AS, cS, rfl⟩ := hS.1.form
  obtain ⟨g, off, hA, _, hcells⟩ := h.at_ lb3
  have HA := Lib.hid hA
  have HC := Lib.hid hcells
  have HO := Lib.hid fun (wx : World) (hg : w.grownBy wx none) (x : UInt32) => ofr_any _ all x wx (hS.ext hg) (by omega)
  have HL := Lib.hid fun (wx : World) (hg : w.grownBy wx none) (u : Value) (x d) (hu : RdL wx u (ofS all x)) => less_any _ u l (ofS all x) d wx (h.ext hg) hu (by omega) (by have := hm x; omega)
  clear hA hcells h hS hm
  go_enter Try.func21, Try.ntmps21
  go_wp2
  go_loopw [6, 5] (fun i u wr => ∃ k : Nat, k ≤ l.length ∧ i = .int .i64 k ∧ Hid (OwnL wr w.heap.size u ((l.take k).filter fun y => !goneR l (ofS all) y)) ∧ w.grownBy wr none) (fun i _ _ => l.length - (intOf i).toNat)
  case atStart => exact ⟨0, by omega, rfl, Lib.hid (OwnG.nil _ _ _ _), gr_refl _ _⟩
  case round =>
    obtain ⟨k, hk, rfl, ho, hg⟩ := hrel
    by_cases hlt : k < l.length
    · have := HA.out (by omega)
      subst this
      have HF := Lib.hid (filter_succ (G := fun y => !goneR l (ofS all) y) hlt)
      have hfl := filter_len (G := fun y => !goneR l (ofS all) y) (l := l) k
      rcases hx : l[k] with ⟨xa, xb, xc⟩
      obtain ⟨c0, c1, c2⟩ := at3L HC.out hg hlt hx
      have G1 := Lib.hid hg
      have HO1 := ho
      obtain ⟨Au, cu, rfl⟩ := ho.out.rd.form
      rw [hx] at HF
      have Hx := Lib.hid hx
      have HKC : Hid (∀ wx, wr.grownBy wx none → wx.cell? ⟨g, off + k * 3, none⟩ = some (.int .u32 xa.toNat) ∧ wx.cell? ⟨g, off + k * 3 + 2, none⟩ = some (.int .u64 xc.toNat)) := fun wx hg => ⟨hg.cell c0 (by simp), hg.cell c2 (by simp)⟩
      have HK1 : Hid (∀ wx, wr.grownBy wx none → wx.cell? ⟨g, off + k * 3 + 1, none⟩ = some (.int .u32 xb.toNat)) := fun wx hg => hg.cell c1 (by simp)
      have HOF : Hid (∀ wx, wr.grownBy wx none → Calls Try.prog 24 #[.slice AS all.length cS, .int .u32 xa.toNat] wx fun e w' => ∃ A2 c2, e = .returned (.slice A2 (ofS all xa).length c2) ∧ RdL w' (.slice A2 (ofS all xa).length c2) (ofS all xa) ∧ wr.grownBy w' none ∧ w'.cell? ⟨g, off + k * 3, none⟩ = some (.int .u32 xa.toNat) ∧ w'.cell? ⟨g, off + k * 3 + 2, none⟩ = some (.int .u64 xc.toNat)) := fun wx hg => (HO.out wx (gr_none G1.out hg) xa).mono fun e w' ⟨⟨u, he, hu⟩, g'⟩ => by
        obtain ⟨A2, c2, rfl⟩ := hu.form
        exact ⟨A2, c2, he, hu, gr_none hg g', HKC.out _ (gr_none hg g')⟩
      have HLE : Hid (∀ wx, wr.grownBy wx none → ∀ A2 c2, RdL wx (.slice A2 (ofS all xa).length c2) (ofS all xa) → Calls Try.prog 40 #[.slice (some ⟨g, off, none⟩) l.length c, .slice A2 (ofS all xa).length c2, .int .u64 xc.toNat] wx fun e w' => e = .returned (.bool (goneR l (ofS all) ⟨xa, xb, xc⟩)) ∧ wr.grownBy w' none ∧ w'.cell? ⟨g, off + k * 3, none⟩ = some (.int .u32 xa.toNat) ∧ w'.cell? ⟨g, off + k * 3 + 2, none⟩ = some (.int .u64 xc.toNat)) := fun wx hg A2 c2 hu => (HL.out wx (gr_none G1.out hg) _ xa xc hu).mono fun e w' ⟨he, g'⟩ => ⟨he, gr_none hg g', HKC.out _ (gr_none hg g')⟩
      generalize hLL : ofS all xa = L at HOF HLE
      clear hLL hx ho hg
      generalize (l.take k).filter (fun y => !goneR l (ofS all) y) = F at *
      rcases hb : goneR l (ofS all) ⟨xa, xb, xc⟩ with _ | _
      · rw [hb] at HLE HF
        clear hb
        go_wp2_with fail
        go_region_held3 (fun w' => w'.cell? ⟨g, off + k * 3, none⟩ = some (.int .u32 xa.toNat) ∧ w'.cell? ⟨g, off + k * 3 + 2, none⟩ = some (.int .u64 xc.toNat)) (go_keep) (first
          | (go_at_call 24; refine (HOF.out _ ?_).mono ?_; (first | exact gr_refl _ _ | exact gr_drew _ _ | exact gr_drewN _ _ _); rintro e w5 ⟨A5, c5, rfl, hu5, g5, k5, q5⟩)
          | (go_at_call 40; refine (HLE.out _ ?_ _ _ ?_).mono ?_; (first | exact g5 | exact gr_none g5 (gr_drew _ _) | exact gr_none g5 (gr_drewN _ _ _)); (first | exact hu5 | exact hu5.ext (gr_drew _ _) | exact hu5.ext (gr_drewN _ _ _)); rintro e w6 ⟨rfl, g6, k6, q6⟩))
        have c1' := HK1.out _ g6
        have HO6 := Lib.hid (HO1.out.ext g6)
        have G6 := Lib.hid (gr_none G1.out g6)
        have hz6 := G6.out.size
        clear g6 g5 hu5 k5 q5
        go_wp2_with (at_builtin; refine wp_app1L ⟨xa, xb, xc⟩ _ rfl rfl (.tmp 28) (.tmp 33) rfl rfl HO6.out w6.heap.size rfl rfl (by omega) hz6 ?_; intro v7 w7 h7 g7 a7)
        have G7 : w.grownBy w7 none := gr_trans G6.out g7 (.inr HO6.out.lt)
        go_roundw
        case rel => exact ⟨k + 1, by omega, by go_num, by rw [HF.out]; exact Lib.hid h7, G7⟩
        case measure => simp [intOf]; omega
      · rw [hb] at HLE HF
        clear hb
        go_wp2_with fail
        go_region_held3 (fun w' => w'.cell? ⟨g, off + k * 3, none⟩ = some (.int .u32 xa.toNat) ∧ w'.cell? ⟨g, off + k * 3 + 2, none⟩ = some (.int .u64 xc.toNat)) (go_keep) (first
          | (go_at_call 24; refine (HOF.out _ ?_).mono ?_; (first | exact gr_refl _ _ | exact gr_drew _ _ | exact gr_drewN _ _ _); rintro e w5 ⟨A5, c5, rfl, hu5, g5, k5, q5⟩)
          | (go_at_call 40; refine (HLE.out _ ?_ _ _ ?_).mono ?_; (first | exact g5 | exact gr_none g5 (gr_drew _ _) | exact gr_none g5 (gr_drewN _ _ _)); (first | exact hu5 | exact hu5.ext (gr_drew _ _) | exact hu5.ext (gr_drewN _ _ _)); rintro e w6 ⟨rfl, g6, k6, q6⟩))
        have HO6 := Lib.hid (HO1.out.ext g6)
        have G6 := Lib.hid (gr_none G1.out g6)
        clear g6 g5 hu5 k5 q5
        go_wp2
        go_roundw
        case rel => exact ⟨k + 1, by omega, by go_num, by rw [HF.out]; simpa using HO6, G6.out⟩
        case measure => simp [intOf]; omega
    · obtain rfl : k = l.length := by omega
      have ho2 := ho.out
      rw [List.take_length] at ho2
      obtain ⟨Au, cu, rfl⟩ := ho2.rd.form
      have HO2 := Lib.hid ho2
      clear ho ho2
      generalize hF : l.filter (fun y => !goneR l (ofS all) y) = F at *
      have HF := Lib.hid hF
      clear hF
      go_wp2
      go_ret
      exact ⟨⟨_, rfl, by rw [HF.out]; exact HO2.out⟩, hg⟩
end Go.Proofs.Ytfgkmimhibpceaa

/-
  Pick: the walk of the document's Pick.
-/
import Derived.Test.YtbdieifggciopaaKr
import Derived.Test.YtbdieifggciopaaKw
import Derived.Test.YtbdieifggciopaaKo
import Derived.Deep.RegionHeld3
namespace Go.Proofs.Ytbdieifggciopaa
open Go.RowKit
set_option maxRecDepth 100000
set_option maxHeartbeats 400000

def meets (x y : Dt) : Prop := y.v ≠ x.v ∧ nearD x y ∧ aheadD y x
def FirstIs (f : Bool) (m : List Cd) (t : Nat) (x : Dt) : Prop := f = true ↔ ¬ lateD ((m.take t).map Cd.d) x
theorem late_succ {m : List Cd} {t : Nat} (ht : t < m.length) (x : Dt) : lateD ((m.take (t + 1)).map Cd.d) x ↔ lateD ((m.take t).map Cd.d) x ∨ meets x m[t].d := by
  unfold lateD
  rw [List.take_succ_eq_append_getElem ht, List.map_append]
  constructor
  · rintro ⟨y, hy, h⟩
    rcases List.mem_append.1 hy with hy | hy
    · exact .inl ⟨y, hy, h⟩
    · rw [List.map_cons, List.map_nil, List.mem_singleton] at hy
      subst hy
      exact .inr h
  · rintro (⟨y, hy, h⟩ | h)
    · exact ⟨y, List.mem_append.2 (.inl hy), h⟩
    · exact ⟨m[t].d, List.mem_append.2 (.inr (by simp)), h⟩
theorem FirstIs.no {f : Bool} {m : List Cd} {t : Nat} {x : Dt} (h : FirstIs f m t x) (ht : t < m.length) (hn : ¬ meets x m[t].d) : FirstIs f m (t + 1) x := by
  unfold FirstIs at *
  rw [h, late_succ ht]
  exact ⟨fun a b => b.elim a hn, fun a b => a (.inl b)⟩
theorem FirstIs.yes {m : List Cd} {t : Nat} {x : Dt} (ht : t < m.length) (hn : meets x m[t].d) : FirstIs false m (t + 1) x := by
  unfold FirstIs
  rw [late_succ ht]
  exact ⟨(fun a => by cases a), fun a => absurd (.inr hn) a⟩
theorem FirstIs.start (m : List Cd) (x : Dt) : FirstIs true m 0 x := ⟨fun _ => (fun ⟨y, hy, _⟩ => by cases hy), fun _ => rfl⟩
theorem not_late {x y : Dt} (h : aheadD x y) : ¬ meets x y := fun h2 => aheadD_asym h h2.2.2
theorem not_self (x : Dt) : ¬ meets x x := fun h => h.1 rfl
def OutIs (out : List UInt32) (m : List Cd) (k : Nat) : Prop := RisS out ∧ ∀ y, y ∈ out ↔ ∃ x ∈ (m.take k).map Cd.d, x.v = y ∧ ¬ lateD (m.map Cd.d) x
theorem OutIs.start (m : List Cd) : OutIs [] m 0 := ⟨List.Pairwise.nil, fun y => ⟨(fun h => by cases h), fun ⟨x, hx, _⟩ => by cases hx⟩⟩
theorem out_mem {m : List Cd} {k : Nat} (hk : k < m.length) (x : Dt) : x ∈ (m.take (k + 1)).map Cd.d ↔ x ∈ (m.take k).map Cd.d ∨ x = m[k].d := by
  rw [List.take_succ_eq_append_getElem hk, List.map_append, List.mem_append]
  simp
theorem OutIs.skip {out : List UInt32} {m : List Cd} {k : Nat} (h : OutIs out m k) (hk : k < m.length) (hl : lateD (m.map Cd.d) m[k].d) : OutIs out m (k + 1) := by
  refine ⟨h.1, fun y => ?_⟩
  rw [h.2]
  constructor
  · rintro ⟨x, hx, h2⟩
    exact ⟨x, (out_mem hk x).2 (.inl hx), h2⟩
  · rintro ⟨x, hx, h2⟩
    rcases (out_mem hk x).1 hx with hx | rfl
    · exact ⟨x, hx, h2⟩
    · exact absurd hl h2.2
theorem OutIs.add {out out' : List UInt32} {m : List Cd} {k : Nat} (h : OutIs out m k) (hk : k < m.length) (hl : ¬ lateD (m.map Cd.d) m[k].d) (hr : RisS out') (hm : ∀ y, y ∈ out' ↔ y = m[k].d.v ∨ y ∈ out) : OutIs out' m (k + 1) := by
  refine ⟨hr, fun y => ?_⟩
  rw [hm, h.2]
  constructor
  · rintro (rfl | ⟨x, hx, h2⟩)
    · exact ⟨m[k].d, (out_mem hk _).2 (.inr rfl), rfl, hl⟩
    · exact ⟨x, (out_mem hk x).2 (.inl hx), h2⟩
  · rintro ⟨x, hx, h2⟩
    rcases (out_mem hk x).1 hx with hx | rfl
    · exact .inr ⟨x, hx, h2⟩
    · exact .inl h2.1.symm
theorem uni_at {m : List Cd} (hu : UniD (m.map Cd.d)) {i j : Nat} (hi : i < m.length) (hj : j < m.length) (e : m[i].d.v = m[j].d.v) : i = j := by
  unfold UniD at hu
  rw [List.pairwise_map] at hu
  rw [List.pairwise_iff_getElem] at hu
  rcases Nat.lt_trichotomy i j with h | h | h
  · exact absurd e (hu i j hi hj h)
  · exact h
  · exact absurd e.symm (hu j i hj hi h)
theorem OutIs.fresh {out : List UInt32} {m : List Cd} {k : Nat} (h : OutIs out m k) (hu : UniD (m.map Cd.d)) (hk : k < m.length) : m[k].d.v ∉ out := by
  intro hm
  obtain ⟨x, hx, e, _⟩ := (h.2 _).1 hm
  obtain ⟨c, hc, rfl⟩ := List.mem_map.1 hx
  obtain ⟨i, hi, rfl⟩ := List.getElem_of_mem hc
  rw [List.getElem_take] at e
  rw [List.length_take] at hi
  have := uni_at hu (by omega) hk e
  omega
set_option maxHeartbeats 16000000 in
theorem refPick_any (v : Value) (l : List Cd) (w : World) (h : RdC w v l) (hn : l.length ≤ 1000) (hs : ∀ x ∈ l, x.d.near.length ≤ 5000) :
    Calls Try.prog 14 #[v] w (PickOut w l) := by
  have HON := Lib.hid (once_any v l w h hn)
  have HNL := Lib.hid hs
  obtain ⟨A, c, rfl⟩ := h.form
  clear h hs
  go_enter Try.func14, Try.ntmps14
  go_wp2_with fail
  refine HON.out.mono ?_
  rintro e w2 ⟨⟨u2, m, rfl, ho2, hm2, hsub, hml⟩, g2⟩
  have G2 := Lib.hid g2
  have HM := Lib.hid hm2
  have HR2 := Lib.hid ho2.rd
  have HNR : Hid (∀ x ∈ m, x.d.near.length ≤ 5000) := fun x hx => HNL.out x (hsub x hx)
  obtain ⟨A2, c2, rfl⟩ := HR2.out.form
  have HU := Lib.hid (onceD_uni (l.map Cd.d))
  rw [← HM.out] at HU
  obtain ⟨g, off, hA, hmc2, hcells⟩ := HR2.out.1.at_ cd3
  have HA := Lib.hid hA
  have HC := Lib.hid hcells
  have HL := Lib.hid HR2.out.2
  have hz2 := g2.size
  have hm1 : m.length ≤ 1000 := by omega
  clear ho2 hm2 hsub g2 HON hA hcells HNL
  go_wp2
  go_loopw [4, 5] (fun u i wr => ∃ (k : Nat) (out : List UInt32), k ≤ m.length ∧ i = .int .i64 k ∧ Hid (OwnU wr w2.heap.size u out) ∧ Hid (OutIs out m k) ∧ out.length ≤ k ∧ w.grownBy wr none ∧ w2.grownBy wr none) (fun _ i _ => m.length - (intOf i).toNat)
  case atStart => exact ⟨0, [], by omega, rfl, Own.nil _ _ _, OutIs.start m, by simp, G2.out, gr_refl _ _⟩
  case round =>
    obtain ⟨k, out, hk, rfl, ho, hout, hol, hg0, hg⟩ := hrel
    obtain ⟨Au, cu, rfl⟩ := RdU.form (Own.rd ho.out)
    have HG := Lib.hid hg
    have HG0 := Lib.hid hg0
    clear hg hg0
    by_cases hlt : k < m.length
    · have := HA.out (by omega)
      subst this
      have HSKIP := Lib.hid (fun hl => hout.out.skip hlt hl)
      have HADD := Lib.hid (fun (out' : List UInt32) hl hr hm => hout.out.add (out' := out') hlt hl hr hm)
      have HFR := Lib.hid (hout.out.fresh HU.out hlt)
      have HRO := Lib.hid hout.out.1
      have hxn := HNR.out _ (List.getElem_mem hlt)
      have HXL0 := Lib.hid (HL.out _ (List.getElem_mem hlt))
      have HUA := Lib.hid (fun (t : Nat) (ht : t < m.length) (e : m[t].d.v = m[k].d.v) => uni_at HU.out ht hlt e)
      rcases hx : m[k] with ⟨⟨xa, xb, xl⟩, xs⟩
      rw [hx] at HSKIP HADD HFR HXL0 HUA hxn
      simp only [] at hxn
      have HXL : Hid (RdU w2 xs xl) := HXL0.out
      have HX := Lib.hid hx
      clear hx hout HXL0
      obtain ⟨A2, c2', rfl⟩ := RdU.form HXL.out
      go_wp2
      go_loopw [6, 7] (fun b i wq => ∃ (t : Nat) (f : Bool), t ≤ m.length ∧ b = .bool f ∧ i = .int .i64 t ∧ Hid (FirstIs f m t ⟨xa, xb, xl⟩) ∧ wr.grownBy wq none) (fun _ i _ => m.length - (intOf i).toNat)
      case atStart => exact ⟨0, true, by omega, rfl, rfl, FirstIs.start m _, gr_refl _ _⟩
      case round =>
        obtain ⟨t, f, ht, rfl, rfl, hf, hgq⟩ := hrel
        obtain ⟨wo, rfl⟩ : ∃ wo, wo = wr := ⟨_, rfl⟩
        have HGQ := Lib.hid hgq
        have HWO := Lib.hid (gr_none HG.out hgq)
        clear hgq
        by_cases htl : t < m.length
        · have HNO := Lib.hid (fun hn => hf.out.no htl hn)
          have HYES := Lib.hid (fun hn => FirstIs.yes (x := ⟨xa, xb, xl⟩) htl hn)
          by_cases htk : t = k
          · subst htk
            have HN : Hid (FirstIs f m (t + 1) ⟨xa, xb, xl⟩) := HNO.out (by rw [HX.out]; exact not_self _)
            clear HNO HYES hf
            go_wp2_with fail
            go_quiet (fail)
            go_wp2
            go_roundw
            case rel => exact ⟨t + 1, f, by omega, rfl, by go_num, HN, gr_none HGQ.out (gr_drewN _ _ _)⟩
            case measure => simp [intOf]; omega
          · have b0 : ((t : Int) != (k : Int)) = true := by simp; omega
            have HUK := Lib.hid (fun e => htk (HUA.out t htl e))
            have hyn := HNR.out _ (List.getElem_mem htl)
            have HYL0 := Lib.hid (HL.out _ (List.getElem_mem htl))
            rcases hy : m[t] with ⟨⟨ya, yb, yl⟩, ys⟩
            rw [hy] at HNO HYES HUK HYL0 hyn
            simp only [] at hyn
            have HYL : Hid (RdU w2 ys yl) := HYL0.out
            have HY := Lib.hid hy
            have HVN : Hid (ya ≠ xa) := HUK.out
            clear hy HYL0 HUK
            obtain ⟨A3, c3, rfl⟩ := RdU.form HYL.out
            have HK : Hid (∀ wx, w2.grownBy wx none → wx.cell? ⟨g, off + k * 3, none⟩ = some (.int .u32 xa.toNat) ∧ wx.cell? ⟨g, off + k * 3 + 1, none⟩ = some (.int .u64 xb.toNat) ∧ wx.cell? ⟨g, off + k * 3 + 2, none⟩ = some (.slice A2 xl.length c2') ∧ wx.cell? ⟨g, off + t * 3, none⟩ = some (.int .u32 ya.toNat) ∧ wx.cell? ⟨g, off + t * 3 + 1, none⟩ = some (.int .u64 yb.toNat) ∧ wx.cell? ⟨g, off + t * 3 + 2, none⟩ = some (.slice A3 yl.length c3)) := fun wx hx => by
              obtain ⟨h0, h1, h2⟩ := at3C HC.out hx hlt HX.out
              obtain ⟨k0, k1, k2⟩ := at3C HC.out hx htl HY.out
              exact ⟨h0, h1, h2, k0, k1, k2⟩
            have HN1 : Hid (∀ (b : Bool), b = decide (ya ∈ xl) → ∀ wx, wo.grownBy wx none → Calls Try.prog 21 #[.agg #[.int .u32 xa.toNat, .int .u64 xb.toNat, .slice A2 xl.length c2'], .int .u32 ya.toNat] wx fun e wz => e = .returned (.bool b) ∧ wo.grownBy wz none ∧ wz.cell? ⟨g, off + k * 3, none⟩ = some (.int .u32 xa.toNat) ∧ wz.cell? ⟨g, off + k * 3 + 1, none⟩ = some (.int .u64 xb.toNat) ∧ wz.cell? ⟨g, off + k * 3 + 2, none⟩ = some (.slice A2 xl.length c2') ∧ wz.cell? ⟨g, off + t * 3, none⟩ = some (.int .u32 ya.toNat) ∧ wz.cell? ⟨g, off + t * 3 + 1, none⟩ = some (.int .u64 yb.toNat) ∧ wz.cell? ⟨g, off + t * 3 + 2, none⟩ = some (.slice A3 yl.length c3)) := fun b hb wx hx => by
              have hw := gr_none HWO.out hx
              refine (near2_any ⟨⟨xa, xb, xl⟩, .slice A2 xl.length c2'⟩ ya wx (Rd.ext HXL.out hw) (by show xl.length ≤ _; omega)).mono ?_
              rintro e wz ⟨rfl, gz⟩
              exact ⟨by rw [hb], gr_none hx gz, HK.out _ (gr_none hw gz)⟩
            have HN2 : Hid (∀ (b : Bool), b = decide (xa ∈ yl) → ∀ wx, wo.grownBy wx none → Calls Try.prog 21 #[.agg #[.int .u32 ya.toNat, .int .u64 yb.toNat, .slice A3 yl.length c3], .int .u32 xa.toNat] wx fun e wz => e = .returned (.bool b) ∧ wo.grownBy wz none ∧ wz.cell? ⟨g, off + k * 3, none⟩ = some (.int .u32 xa.toNat) ∧ wz.cell? ⟨g, off + k * 3 + 1, none⟩ = some (.int .u64 xb.toNat) ∧ wz.cell? ⟨g, off + k * 3 + 2, none⟩ = some (.slice A2 xl.length c2') ∧ wz.cell? ⟨g, off + t * 3, none⟩ = some (.int .u32 ya.toNat) ∧ wz.cell? ⟨g, off + t * 3 + 1, none⟩ = some (.int .u64 yb.toNat) ∧ wz.cell? ⟨g, off + t * 3 + 2, none⟩ = some (.slice A3 yl.length c3)) := fun b hb wx hx => by
              have hw := gr_none HWO.out hx
              refine (near2_any ⟨⟨ya, yb, yl⟩, .slice A3 yl.length c3⟩ xa wx (Rd.ext HYL.out hw) (by show yl.length ≤ _; omega)).mono ?_
              rintro e wz ⟨rfl, gz⟩
              exact ⟨by rw [hb], gr_none hx gz, HK.out _ (gr_none hw gz)⟩
            have HN3 : Hid (∀ (b : Bool), b = decide (aheadD ⟨xa, xb, xl⟩ ⟨ya, yb, yl⟩) → ∀ wx, wo.grownBy wx none → Calls Try.prog 22 #[.agg #[.int .u32 xa.toNat, .int .u64 xb.toNat, .slice A2 xl.length c2'], .agg #[.int .u32 ya.toNat, .int .u64 yb.toNat, .slice A3 yl.length c3]] wx fun e wz => e = .returned (.bool b) ∧ wo.grownBy wz none ∧ wz.cell? ⟨g, off + k * 3, none⟩ = some (.int .u32 xa.toNat) ∧ wz.cell? ⟨g, off + k * 3 + 1, none⟩ = some (.int .u64 xb.toNat) ∧ wz.cell? ⟨g, off + k * 3 + 2, none⟩ = some (.slice A2 xl.length c2') ∧ wz.cell? ⟨g, off + t * 3, none⟩ = some (.int .u32 ya.toNat) ∧ wz.cell? ⟨g, off + t * 3 + 1, none⟩ = some (.int .u64 yb.toNat) ∧ wz.cell? ⟨g, off + t * 3 + 2, none⟩ = some (.slice A3 yl.length c3)) := fun b hb wx hx => by
              have hw := gr_none HWO.out hx
              refine (ahead2_any ⟨⟨xa, xb, xl⟩, .slice A2 xl.length c2'⟩ ⟨⟨ya, yb, yl⟩, .slice A3 yl.length c3⟩ wx).mono ?_
              rintro e wz ⟨rfl, gz⟩
              exact ⟨by rw [hb], gr_none hx gz, HK.out _ (gr_none hw gz)⟩
            obtain ⟨h0, h1, h2, k0, k1, k2⟩ := HK.out wo HWO.out
            by_cases hn1 : ya ∈ xl
            · have HR1 := Lib.hid (HN1.out true (decide_eq_true hn1).symm)
              by_cases ha : aheadD ⟨xa, xb, xl⟩ ⟨ya, yb, yl⟩
              · have HR3 := Lib.hid (HN3.out true (decide_eq_true ha).symm)
                have HN : Hid (FirstIs f m (t + 1) ⟨xa, xb, xl⟩) := HNO.out (not_late ha)
                clear ha hf HN1 HN2 HN3 HNO HYES
                go_wp2_with fail
                refine wp_region_held_drew (S := fun w' => w'.cell? ⟨g, off + k * 3, none⟩ = some (.int .u32 xa.toNat) ∧ w'.cell? ⟨g, off + k * 3 + 1, none⟩ = some (.int .u64 xb.toNat) ∧ w'.cell? ⟨g, off + k * 3 + 2, none⟩ = some (.slice A2 xl.length c2') ∧ w'.cell? ⟨g, off + t * 3, none⟩ = some (.int .u32 ya.toNat) ∧ w'.cell? ⟨g, off + t * 3 + 1, none⟩ = some (.int .u64 yb.toNat) ∧ w'.cell? ⟨g, off + t * 3 + 2, none⟩ = some (.slice A3 yl.length c3)) (by kernel_rfl) ?_ (fun hHeld => ?_)
                · ((try dsimp only); go_keep)
                first
                  | (refine wpAnyH_take (i := 0) (oi := _) (v := ?vop1) (by simp only [List.getElem?_toArray, List.getElem?_cons_zero]; rfl) (by kernel_rfl) (by kernel_rfl) (by kernel_rfl) (by exact fun _ _ _ h => h) (Or.inl ⟨by rfl, ?hyop1⟩) (by assumption) ?restop1
                     case hyop1 => (intro w hSw; (try dsimp only at hSw); go_simp; try (with_reducible rfl)))
                  | refine wpAnyH_take (i := 0) (oi := _) (v := undef) (by simp only [List.getElem?_toArray, List.getElem?_cons_zero]; rfl) (by kernel_rfl) (by kernel_rfl) (by kernel_rfl) (by exact fun _ _ _ h => h) (Or.inr ⟨by rfl, rfl⟩) (by assumption) ?_
                try simp only [Act.put, List.setIfInBounds_toArray, List.set_cons_zero, List.set_cons_succ]
                first
                  | (refine wpAnyH_take (i := 1) (oi := _) (v := ?vop2) (by simp only [List.getElem?_toArray, List.getElem?_cons_succ, List.getElem?_cons_zero]; rfl) (by kernel_rfl) (by kernel_rfl) (by kernel_rfl) (by exact fun _ _ _ h => h) (Or.inl ⟨by rfl, ?hyop2⟩) (by assumption) ?restop2
                     case hyop2 => (intro w hSw; (try dsimp only at hSw); go_simp; try (with_reducible rfl)))
                  | refine wpAnyH_take (i := 1) (oi := _) (v := undef) (by simp only [List.getElem?_toArray, List.getElem?_cons_succ, List.getElem?_cons_zero]; rfl) (by kernel_rfl) (by kernel_rfl) (by kernel_rfl) (by exact fun _ _ _ h => h) (Or.inr ⟨by rfl, rfl⟩) (by assumption) ?_
                try simp only [Act.put, List.setIfInBounds_toArray, List.set_cons_zero, List.set_cons_succ]
                first
                  | (refine wpAnyH_take (i := 2) (oi := _) (v := ?vop3) (by simp only [List.getElem?_toArray, List.getElem?_cons_succ, List.getElem?_cons_zero]; rfl) (by kernel_rfl) (by kernel_rfl) (by kernel_rfl) (by exact fun _ _ _ h => h) (Or.inl ⟨by rfl, ?hyop3⟩) (by assumption) ?restop3
                     case hyop3 => (intro w hSw; (try dsimp only at hSw); go_simp; try (with_reducible rfl)))
                  | refine wpAnyH_take (i := 2) (oi := _) (v := undef) (by simp only [List.getElem?_toArray, List.getElem?_cons_succ, List.getElem?_cons_zero]; rfl) (by kernel_rfl) (by kernel_rfl) (by kernel_rfl) (by exact fun _ _ _ h => h) (Or.inr ⟨by rfl, rfl⟩) (by assumption) ?_
                try simp only [Act.put, List.setIfInBounds_toArray, List.set_cons_zero, List.set_cons_succ]
                first
                  | (refine wpAnyH_take (i := 3) (oi := _) (v := ?vop4) (by simp only [List.getElem?_toArray, List.getElem?_cons_succ, List.getElem?_cons_zero]; rfl) (by kernel_rfl) (by kernel_rfl) (by kernel_rfl) (by exact fun _ _ _ h => h) (Or.inl ⟨by rfl, ?hyop4⟩) (by assumption) ?restop4
                     case hyop4 => (intro w hSw; (try dsimp only at hSw); go_simp; try (with_reducible rfl)))
                  | refine wpAnyH_take (i := 3) (oi := _) (v := undef) (by simp only [List.getElem?_toArray, List.getElem?_cons_succ, List.getElem?_cons_zero]; rfl) (by kernel_rfl) (by kernel_rfl) (by kernel_rfl) (by exact fun _ _ _ h => h) (Or.inr ⟨by rfl, rfl⟩) (by assumption) ?_
                try simp only [Act.put, List.setIfInBounds_toArray, List.set_cons_zero, List.set_cons_succ]
                first
                  | (refine wpAnyH_take (i := 4) (oi := _) (v := ?vop5) (by simp only [List.getElem?_toArray, List.getElem?_cons_succ, List.getElem?_cons_zero]; rfl) (by kernel_rfl) (by kernel_rfl) (by kernel_rfl) (by exact fun _ _ _ h => h) (Or.inl ⟨by rfl, ?hyop5⟩) (by assumption) ?restop5
                     case hyop5 => (intro w hSw; (try dsimp only at hSw); go_simp; try (with_reducible rfl)))
                  | refine wpAnyH_take (i := 4) (oi := _) (v := undef) (by simp only [List.getElem?_toArray, List.getElem?_cons_succ, List.getElem?_cons_zero]; rfl) (by kernel_rfl) (by kernel_rfl) (by kernel_rfl) (by exact fun _ _ _ h => h) (Or.inr ⟨by rfl, rfl⟩) (by assumption) ?_
                try simp only [Act.put, List.setIfInBounds_toArray, List.set_cons_zero, List.set_cons_succ]
                first
                  | (refine wpAnyH_take (i := 5) (oi := _) (v := ?vop6) (by simp only [List.getElem?_toArray, List.getElem?_cons_succ, List.getElem?_cons_zero]; rfl) (by kernel_rfl) (by kernel_rfl) (by kernel_rfl) (by exact fun _ _ _ h => h) (Or.inl ⟨by rfl, ?hyop6⟩) (by assumption) ?restop6
                     case hyop6 => (intro w hSw; (try dsimp only at hSw); go_simp; try (with_reducible rfl)))
                  | refine wpAnyH_take (i := 5) (oi := _) (v := undef) (by simp only [List.getElem?_toArray, List.getElem?_cons_succ, List.getElem?_cons_zero]; rfl) (by kernel_rfl) (by kernel_rfl) (by kernel_rfl) (by exact fun _ _ _ h => h) (Or.inr ⟨by rfl, rfl⟩) (by assumption) ?_
                try simp only [Act.put, List.setIfInBounds_toArray, List.set_cons_zero, List.set_cons_succ]
                first
                  | (refine wpAnyH_take (i := 6) (oi := _) (v := ?vop7) (by simp only [List.getElem?_toArray, List.getElem?_cons_succ, List.getElem?_cons_zero]; rfl) (by kernel_rfl) (by kernel_rfl) (by kernel_rfl) (by exact fun _ _ _ h => h) (Or.inl ⟨by rfl, ?hyop7⟩) (by assumption) ?restop7
                     case hyop7 => (intro w hSw; (try dsimp only at hSw); go_simp; try (with_reducible rfl)))
                  | refine wpAnyH_take (i := 6) (oi := _) (v := undef) (by simp only [List.getElem?_toArray, List.getElem?_cons_succ, List.getElem?_cons_zero]; rfl) (by kernel_rfl) (by kernel_rfl) (by kernel_rfl) (by exact fun _ _ _ h => h) (Or.inr ⟨by rfl, rfl⟩) (by assumption) ?_
                try simp only [Act.put, List.setIfInBounds_toArray, List.set_cons_zero, List.set_cons_succ]
                first
                  | (refine wpAnyH_take (i := 7) (oi := _) (v := ?vop8) (by simp only [List.getElem?_toArray, List.getElem?_cons_succ, List.getElem?_cons_zero]; rfl) (by kernel_rfl) (by kernel_rfl) (by kernel_rfl) (by exact fun _ _ _ h => h) (Or.inl ⟨by rfl, ?hyop8⟩) (by assumption) ?restop8
                     case hyop8 => (intro w hSw; (try dsimp only at hSw); go_simp; try (with_reducible rfl)))
                  | refine wpAnyH_take (i := 7) (oi := _) (v := undef) (by simp only [List.getElem?_toArray, List.getElem?_cons_succ, List.getElem?_cons_zero]; rfl) (by kernel_rfl) (by kernel_rfl) (by kernel_rfl) (by exact fun _ _ _ h => h) (Or.inr ⟨by rfl, rfl⟩) (by assumption) ?_
                try simp only [Act.put, List.setIfInBounds_toArray, List.set_cons_zero, List.set_cons_succ]
                first
                  | (refine wpAnyH_take (i := 8) (oi := _) (v := ?vop9) (by simp only [List.getElem?_toArray, List.getElem?_cons_succ, List.getElem?_cons_zero]; rfl) (by kernel_rfl) (by kernel_rfl) (by kernel_rfl) (by exact fun _ _ _ h => h) (Or.inl ⟨by rfl, ?hyop9⟩) (by assumption) ?restop9
                     case hyop9 => (intro w hSw; (try dsimp only at hSw); go_simp; try (with_reducible rfl)))
                  | refine wpAnyH_take (i := 8) (oi := _) (v := undef) (by simp only [List.getElem?_toArray, List.getElem?_cons_succ, List.getElem?_cons_zero]; rfl) (by kernel_rfl) (by kernel_rfl) (by kernel_rfl) (by exact fun _ _ _ h => h) (Or.inr ⟨by rfl, rfl⟩) (by assumption) ?_
                try simp only [Act.put, List.setIfInBounds_toArray, List.set_cons_zero, List.set_cons_succ]
                first
                  | (refine wpAnyH_take (i := 9) (oi := _) (v := ?vop10) (by simp only [List.getElem?_toArray, List.getElem?_cons_succ, List.getElem?_cons_zero]; rfl) (by kernel_rfl) (by kernel_rfl) (by kernel_rfl) (by exact fun _ _ _ h => h) (Or.inl ⟨by rfl, ?hyop10⟩) (by assumption) ?restop10
                     case hyop10 => (intro w hSw; (try dsimp only at hSw); go_simp; try (with_reducible rfl)))
                  | refine wpAnyH_take (i := 9) (oi := _) (v := undef) (by simp only [List.getElem?_toArray, List.getElem?_cons_succ, List.getElem?_cons_zero]; rfl) (by kernel_rfl) (by kernel_rfl) (by kernel_rfl) (by exact fun _ _ _ h => h) (Or.inr ⟨by rfl, rfl⟩) (by assumption) ?_
                try simp only [Act.put, List.setIfInBounds_toArray, List.set_cons_zero, List.set_cons_succ]
                first
                  | (refine wpAnyH_take (i := 10) (oi := _) (v := ?vop11) (by simp only [List.getElem?_toArray, List.getElem?_cons_succ, List.getElem?_cons_zero]; rfl) (by kernel_rfl) (by kernel_rfl) (by kernel_rfl) (by exact fun _ _ _ h => h) (Or.inl ⟨by rfl, ?hyop11⟩) (by assumption) ?restop11
                     case hyop11 => (intro w hSw; (try dsimp only at hSw); go_simp; try (with_reducible rfl)))
                  | refine wpAnyH_take (i := 10) (oi := _) (v := undef) (by simp only [List.getElem?_toArray, List.getElem?_cons_succ, List.getElem?_cons_zero]; rfl) (by kernel_rfl) (by kernel_rfl) (by kernel_rfl) (by exact fun _ _ _ h => h) (Or.inr ⟨by rfl, rfl⟩) (by assumption) ?_
                try simp only [Act.put, List.setIfInBounds_toArray, List.set_cons_zero, List.set_cons_succ]
                first
                  | (refine wpAnyH_take (i := 11) (oi := _) (v := ?vop12) (by simp only [List.getElem?_toArray, List.getElem?_cons_succ, List.getElem?_cons_zero]; rfl) (by kernel_rfl) (by kernel_rfl) (by kernel_rfl) (by exact fun _ _ _ h => h) (Or.inl ⟨by rfl, ?hyop12⟩) (by assumption) ?restop12
                     case hyop12 => (intro w hSw; (try dsimp only at hSw); go_simp; try (with_reducible rfl)))
                  | refine wpAnyH_take (i := 11) (oi := _) (v := undef) (by simp only [List.getElem?_toArray, List.getElem?_cons_succ, List.getElem?_cons_zero]; rfl) (by kernel_rfl) (by kernel_rfl) (by kernel_rfl) (by exact fun _ _ _ h => h) (Or.inr ⟨by rfl, rfl⟩) (by assumption) ?_
                try simp only [Act.put, List.setIfInBounds_toArray, List.set_cons_zero, List.set_cons_succ]
                first
                  | (refine wpAnyH_take (i := 12) (oi := _) (v := ?vop13) (by simp only [List.getElem?_toArray, List.getElem?_cons_succ, List.getElem?_cons_zero]; rfl) (by kernel_rfl) (by kernel_rfl) (by kernel_rfl) (by exact fun _ _ _ h => h) (Or.inl ⟨by rfl, ?hyop13⟩) (by assumption) ?restop13
                     case hyop13 => (intro w hSw; (try dsimp only at hSw); go_simp; try (with_reducible rfl)))
                  | refine wpAnyH_take (i := 12) (oi := _) (v := undef) (by simp only [List.getElem?_toArray, List.getElem?_cons_succ, List.getElem?_cons_zero]; rfl) (by kernel_rfl) (by kernel_rfl) (by kernel_rfl) (by exact fun _ _ _ h => h) (Or.inr ⟨by rfl, rfl⟩) (by assumption) ?_
                try simp only [Act.put, List.setIfInBounds_toArray, List.set_cons_zero, List.set_cons_succ]
                refine wpAnyH_ready (rs := [13]) (by kernel_rfl) (by simp) ?_
                refine AllReadyH.cons (o := _) (by simp only [List.getElem?_toArray, List.getElem?_cons_succ, List.getElem?_cons_zero]; rfl) ?_ AllReadyH.nil
                intro K hK
                go_simp
                (go_at_call 21; refine (HR1.out _ ?_).mono ?_; (first | exact gz | exact gr_none gz (gr_drew _ _) | exact gr_none gz (gr_drewN _ _ _) | exact gr_refl _ _ | exact gr_drew _ _ | exact gr_drewN _ _ _); rintro e wz ⟨rfl, gz, kzwz⟩)
                refine hK.out _ _ ?_ (fun hHeld2 => ?_)
                · ((try dsimp only); go_keep)
                clear hK K hHeld
                have hHeld := hHeld2
                clear hHeld2
                try simp only [Act.put, List.setIfInBounds_toArray, List.set_cons_zero, List.set_cons_succ]
                first
                  | (refine wpAnyH_take (i := 14) (oi := _) (v := ?vop14) (by simp only [List.getElem?_toArray, List.getElem?_cons_succ, List.getElem?_cons_zero]; rfl) (by kernel_rfl) (by kernel_rfl) (by kernel_rfl) (by exact fun _ _ _ h => h) (Or.inl ⟨by rfl, ?hyop14⟩) (by assumption) ?restop14
                     case hyop14 => (intro w hSw; (try dsimp only at hSw); go_simp; try (with_reducible rfl)))
                  | refine wpAnyH_take (i := 14) (oi := _) (v := undef) (by simp only [List.getElem?_toArray, List.getElem?_cons_succ, List.getElem?_cons_zero]; rfl) (by kernel_rfl) (by kernel_rfl) (by kernel_rfl) (by exact fun _ _ _ h => h) (Or.inr ⟨by rfl, rfl⟩) (by assumption) ?_
                try simp only [Act.put, List.setIfInBounds_toArray, List.set_cons_zero, List.set_cons_succ]
                refine wpAnyH_take (i := 15) (oi := _) (v := undef) (by simp only [List.getElem?_toArray, List.getElem?_cons_succ, List.getElem?_cons_zero]; rfl) (by kernel_rfl) (by kernel_rfl) (by kernel_rfl) (by exact fun _ _ _ h => h) (Or.inr ⟨by rfl, rfl⟩) (by assumption) ?_
                try simp only [Act.put, List.setIfInBounds_toArray, List.set_cons_zero, List.set_cons_succ]
                refine wpAnyH_take (i := 16) (oi := _) (v := undef) (by simp only [List.getElem?_toArray, List.getElem?_cons_succ, List.getElem?_cons_zero]; rfl) (by kernel_rfl) (by kernel_rfl) (by kernel_rfl) (by exact fun _ _ _ h => h) (Or.inr ⟨by rfl, rfl⟩) (by assumption) ?_
                try simp only [Act.put, List.setIfInBounds_toArray, List.set_cons_zero, List.set_cons_succ]
                refine wpAnyH_take (i := 17) (oi := _) (v := undef) (by simp only [List.getElem?_toArray, List.getElem?_cons_succ, List.getElem?_cons_zero]; rfl) (by kernel_rfl) (by kernel_rfl) (by kernel_rfl) (by exact fun _ _ _ h => h) (Or.inr ⟨by rfl, rfl⟩) (by assumption) ?_
                try simp only [Act.put, List.setIfInBounds_toArray, List.set_cons_zero, List.set_cons_succ]
                refine wpAnyH_take (i := 18) (oi := _) (v := undef) (by simp only [List.getElem?_toArray, List.getElem?_cons_succ, List.getElem?_cons_zero]; rfl) (by kernel_rfl) (by kernel_rfl) (by kernel_rfl) (by exact fun _ _ _ h => h) (Or.inr ⟨by rfl, rfl⟩) (by assumption) ?_
                try simp only [Act.put, List.setIfInBounds_toArray, List.set_cons_zero, List.set_cons_succ]
                refine wpAnyH_take (i := 19) (oi := _) (v := undef) (by simp only [List.getElem?_toArray, List.getElem?_cons_succ, List.getElem?_cons_zero]; rfl) (by kernel_rfl) (by kernel_rfl) (by kernel_rfl) (by exact fun _ _ _ h => h) (Or.inr ⟨by rfl, rfl⟩) (by assumption) ?_
                try simp only [Act.put, List.setIfInBounds_toArray, List.set_cons_zero, List.set_cons_succ]
                refine wpAnyH_take (i := 20) (oi := _) (v := undef) (by simp only [List.getElem?_toArray, List.getElem?_cons_succ, List.getElem?_cons_zero]; rfl) (by kernel_rfl) (by kernel_rfl) (by kernel_rfl) (by exact fun _ _ _ h => h) (Or.inr ⟨by rfl, rfl⟩) (by assumption) ?_
                try simp only [Act.put, List.setIfInBounds_toArray, List.set_cons_zero, List.set_cons_succ]
                refine wpAnyH_take (i := 21) (oi := _) (v := undef) (by simp only [List.getElem?_toArray, List.getElem?_cons_succ, List.getElem?_cons_zero]; rfl) (by kernel_rfl) (by kernel_rfl) (by kernel_rfl) (by exact fun _ _ _ h => h) (Or.inr ⟨by rfl, rfl⟩) (by assumption) ?_
                try simp only [Act.put, List.setIfInBounds_toArray, List.set_cons_zero, List.set_cons_succ]
                refine wpAnyH_take (i := 22) (oi := _) (v := undef) (by simp only [List.getElem?_toArray, List.getElem?_cons_succ, List.getElem?_cons_zero]; rfl) (by kernel_rfl) (by kernel_rfl) (by kernel_rfl) (by exact fun _ _ _ h => h) (Or.inr ⟨by rfl, rfl⟩) (by assumption) ?_
                try simp only [Act.put, List.setIfInBounds_toArray, List.set_cons_zero, List.set_cons_succ]
                refine wpAnyH_take (i := 23) (oi := _) (v := undef) (by simp only [List.getElem?_toArray, List.getElem?_cons_succ, List.getElem?_cons_zero]; rfl) (by kernel_rfl) (by kernel_rfl) (by kernel_rfl) (by exact fun _ _ _ h => h) (Or.inr ⟨by rfl, rfl⟩) (by assumption) ?_
                try simp only [Act.put, List.setIfInBounds_toArray, List.set_cons_zero, List.set_cons_succ]
                refine wpAnyH_take (i := 24) (oi := _) (v := undef) (by simp only [List.getElem?_toArray, List.getElem?_cons_succ, List.getElem?_cons_zero]; rfl) (by kernel_rfl) (by kernel_rfl) (by kernel_rfl) (by exact fun _ _ _ h => h) (Or.inr ⟨by rfl, rfl⟩) (by assumption) ?_
                try simp only [Act.put, List.setIfInBounds_toArray, List.set_cons_zero, List.set_cons_succ]
                first
                  | (refine wpAnyH_take (i := 25) (oi := _) (v := ?vop15) (by simp only [List.getElem?_toArray, List.getElem?_cons_succ, List.getElem?_cons_zero]; rfl) (by kernel_rfl) (by kernel_rfl) (by kernel_rfl) (by exact fun _ _ _ h => h) (Or.inl ⟨by rfl, ?hyop15⟩) (by assumption) ?restop15
                     case hyop15 => (intro w hSw; (try dsimp only at hSw); go_simp; try (with_reducible rfl)))
                  | refine wpAnyH_take (i := 25) (oi := _) (v := undef) (by simp only [List.getElem?_toArray, List.getElem?_cons_succ, List.getElem?_cons_zero]; rfl) (by kernel_rfl) (by kernel_rfl) (by kernel_rfl) (by exact fun _ _ _ h => h) (Or.inr ⟨by rfl, rfl⟩) (by assumption) ?_
                try simp only [Act.put, List.setIfInBounds_toArray, List.set_cons_zero, List.set_cons_succ]
                first
                  | (refine wpAnyH_take (i := 26) (oi := _) (v := ?vop16) (by simp only [List.getElem?_toArray, List.getElem?_cons_succ, List.getElem?_cons_zero]; rfl) (by kernel_rfl) (by kernel_rfl) (by kernel_rfl) (by exact fun _ _ _ h => h) (Or.inl ⟨by rfl, ?hyop16⟩) (by assumption) ?restop16
                     case hyop16 => (intro w hSw; (try dsimp only at hSw); go_simp; try (with_reducible rfl)))
                  | refine wpAnyH_take (i := 26) (oi := _) (v := undef) (by simp only [List.getElem?_toArray, List.getElem?_cons_succ, List.getElem?_cons_zero]; rfl) (by kernel_rfl) (by kernel_rfl) (by kernel_rfl) (by exact fun _ _ _ h => h) (Or.inr ⟨by rfl, rfl⟩) (by assumption) ?_
                try simp only [Act.put, List.setIfInBounds_toArray, List.set_cons_zero, List.set_cons_succ]
                first
                  | (refine wpAnyH_take (i := 27) (oi := _) (v := ?vop17) (by simp only [List.getElem?_toArray, List.getElem?_cons_succ, List.getElem?_cons_zero]; rfl) (by kernel_rfl) (by kernel_rfl) (by kernel_rfl) (by exact fun _ _ _ h => h) (Or.inl ⟨by rfl, ?hyop17⟩) (by assumption) ?restop17
                     case hyop17 => (intro w hSw; (try dsimp only at hSw); go_simp; try (with_reducible rfl)))
                  | refine wpAnyH_take (i := 27) (oi := _) (v := undef) (by simp only [List.getElem?_toArray, List.getElem?_cons_succ, List.getElem?_cons_zero]; rfl) (by kernel_rfl) (by kernel_rfl) (by kernel_rfl) (by exact fun _ _ _ h => h) (Or.inr ⟨by rfl, rfl⟩) (by assumption) ?_
                try simp only [Act.put, List.setIfInBounds_toArray, List.set_cons_zero, List.set_cons_succ]
                first
                  | (refine wpAnyH_take (i := 28) (oi := _) (v := ?vop18) (by simp only [List.getElem?_toArray, List.getElem?_cons_succ, List.getElem?_cons_zero]; rfl) (by kernel_rfl) (by kernel_rfl) (by kernel_rfl) (by exact fun _ _ _ h => h) (Or.inl ⟨by rfl, ?hyop18⟩) (by assumption) ?restop18
                     case hyop18 => (intro w hSw; (try dsimp only at hSw); go_simp; try (with_reducible rfl)))
                  | refine wpAnyH_take (i := 28) (oi := _) (v := undef) (by simp only [List.getElem?_toArray, List.getElem?_cons_succ, List.getElem?_cons_zero]; rfl) (by kernel_rfl) (by kernel_rfl) (by kernel_rfl) (by exact fun _ _ _ h => h) (Or.inr ⟨by rfl, rfl⟩) (by assumption) ?_
                try simp only [Act.put, List.setIfInBounds_toArray, List.set_cons_zero, List.set_cons_succ]
                first
                  | (refine wpAnyH_take (i := 29) (oi := _) (v := ?vop19) (by simp only [List.getElem?_toArray, List.getElem?_cons_succ, List.getElem?_cons_zero]; rfl) (by kernel_rfl) (by kernel_rfl) (by kernel_rfl) (by exact fun _ _ _ h => h) (Or.inl ⟨by rfl, ?hyop19⟩) (by assumption) ?restop19
                     case hyop19 => (intro w hSw; (try dsimp only at hSw); go_simp; try (with_reducible rfl)))
                  | refine wpAnyH_take (i := 29) (oi := _) (v := undef) (by simp only [List.getElem?_toArray, List.getElem?_cons_succ, List.getElem?_cons_zero]; rfl) (by kernel_rfl) (by kernel_rfl) (by kernel_rfl) (by exact fun _ _ _ h => h) (Or.inr ⟨by rfl, rfl⟩) (by assumption) ?_
                try simp only [Act.put, List.setIfInBounds_toArray, List.set_cons_zero, List.set_cons_succ]
                first
                  | (refine wpAnyH_take (i := 30) (oi := _) (v := ?vop20) (by simp only [List.getElem?_toArray, List.getElem?_cons_succ, List.getElem?_cons_zero]; rfl) (by kernel_rfl) (by kernel_rfl) (by kernel_rfl) (by exact fun _ _ _ h => h) (Or.inl ⟨by rfl, ?hyop20⟩) (by assumption) ?restop20
                     case hyop20 => (intro w hSw; (try dsimp only at hSw); go_simp; try (with_reducible rfl)))
                  | refine wpAnyH_take (i := 30) (oi := _) (v := undef) (by simp only [List.getElem?_toArray, List.getElem?_cons_succ, List.getElem?_cons_zero]; rfl) (by kernel_rfl) (by kernel_rfl) (by kernel_rfl) (by exact fun _ _ _ h => h) (Or.inr ⟨by rfl, rfl⟩) (by assumption) ?_
                try simp only [Act.put, List.setIfInBounds_toArray, List.set_cons_zero, List.set_cons_succ]
                first
                  | (refine wpAnyH_take (i := 31) (oi := _) (v := ?vop21) (by simp only [List.getElem?_toArray, List.getElem?_cons_succ, List.getElem?_cons_zero]; rfl) (by kernel_rfl) (by kernel_rfl) (by kernel_rfl) (by exact fun _ _ _ h => h) (Or.inl ⟨by rfl, ?hyop21⟩) (by assumption) ?restop21
                     case hyop21 => (intro w hSw; (try dsimp only at hSw); go_simp; try (with_reducible rfl)))
                  | refine wpAnyH_take (i := 31) (oi := _) (v := undef) (by simp only [List.getElem?_toArray, List.getElem?_cons_succ, List.getElem?_cons_zero]; rfl) (by kernel_rfl) (by kernel_rfl) (by kernel_rfl) (by exact fun _ _ _ h => h) (Or.inr ⟨by rfl, rfl⟩) (by assumption) ?_
                try simp only [Act.put, List.setIfInBounds_toArray, List.set_cons_zero, List.set_cons_succ]
                first
                  | (refine wpAnyH_take (i := 32) (oi := _) (v := ?vop22) (by simp only [List.getElem?_toArray, List.getElem?_cons_succ, List.getElem?_cons_zero]; rfl) (by kernel_rfl) (by kernel_rfl) (by kernel_rfl) (by exact fun _ _ _ h => h) (Or.inl ⟨by rfl, ?hyop22⟩) (by assumption) ?restop22
                     case hyop22 => (intro w hSw; (try dsimp only at hSw); go_simp; try (with_reducible rfl)))
                  | refine wpAnyH_take (i := 32) (oi := _) (v := undef) (by simp only [List.getElem?_toArray, List.getElem?_cons_succ, List.getElem?_cons_zero]; rfl) (by kernel_rfl) (by kernel_rfl) (by kernel_rfl) (by exact fun _ _ _ h => h) (Or.inr ⟨by rfl, rfl⟩) (by assumption) ?_
                try simp only [Act.put, List.setIfInBounds_toArray, List.set_cons_zero, List.set_cons_succ]
                first
                  | (refine wpAnyH_take (i := 33) (oi := _) (v := ?vop23) (by simp only [List.getElem?_toArray, List.getElem?_cons_succ, List.getElem?_cons_zero]; rfl) (by kernel_rfl) (by kernel_rfl) (by kernel_rfl) (by exact fun _ _ _ h => h) (Or.inl ⟨by rfl, ?hyop23⟩) (by assumption) ?restop23
                     case hyop23 => (intro w hSw; (try dsimp only at hSw); go_simp; try (with_reducible rfl)))
                  | refine wpAnyH_take (i := 33) (oi := _) (v := undef) (by simp only [List.getElem?_toArray, List.getElem?_cons_succ, List.getElem?_cons_zero]; rfl) (by kernel_rfl) (by kernel_rfl) (by kernel_rfl) (by exact fun _ _ _ h => h) (Or.inr ⟨by rfl, rfl⟩) (by assumption) ?_
                try simp only [Act.put, List.setIfInBounds_toArray, List.set_cons_zero, List.set_cons_succ]
                first
                  | (refine wpAnyH_take (i := 34) (oi := _) (v := ?vop24) (by simp only [List.getElem?_toArray, List.getElem?_cons_succ, List.getElem?_cons_zero]; rfl) (by kernel_rfl) (by kernel_rfl) (by kernel_rfl) (by exact fun _ _ _ h => h) (Or.inl ⟨by rfl, ?hyop24⟩) (by assumption) ?restop24
                     case hyop24 => (intro w hSw; (try dsimp only at hSw); go_simp; try (with_reducible rfl)))
                  | refine wpAnyH_take (i := 34) (oi := _) (v := undef) (by simp only [List.getElem?_toArray, List.getElem?_cons_succ, List.getElem?_cons_zero]; rfl) (by kernel_rfl) (by kernel_rfl) (by kernel_rfl) (by exact fun _ _ _ h => h) (Or.inr ⟨by rfl, rfl⟩) (by assumption) ?_
                try simp only [Act.put, List.setIfInBounds_toArray, List.set_cons_zero, List.set_cons_succ]
                first
                  | (refine wpAnyH_take (i := 35) (oi := _) (v := ?vop25) (by simp only [List.getElem?_toArray, List.getElem?_cons_succ, List.getElem?_cons_zero]; rfl) (by kernel_rfl) (by kernel_rfl) (by kernel_rfl) (by exact fun _ _ _ h => h) (Or.inl ⟨by rfl, ?hyop25⟩) (by assumption) ?restop25
                     case hyop25 => (intro w hSw; (try dsimp only at hSw); go_simp; try (with_reducible rfl)))
                  | refine wpAnyH_take (i := 35) (oi := _) (v := undef) (by simp only [List.getElem?_toArray, List.getElem?_cons_succ, List.getElem?_cons_zero]; rfl) (by kernel_rfl) (by kernel_rfl) (by kernel_rfl) (by exact fun _ _ _ h => h) (Or.inr ⟨by rfl, rfl⟩) (by assumption) ?_
                try simp only [Act.put, List.setIfInBounds_toArray, List.set_cons_zero, List.set_cons_succ]
                refine wpAnyH_ready (rs := [36]) (by kernel_rfl) (by simp) ?_
                refine AllReadyH.cons (o := _) (by simp only [List.getElem?_toArray, List.getElem?_cons_succ, List.getElem?_cons_zero]; rfl) ?_ AllReadyH.nil
                intro K hK
                go_simp
                (go_at_call 22; refine (HR3.out _ ?_).mono ?_; (first | exact gz | exact gr_none gz (gr_drew _ _) | exact gr_none gz (gr_drewN _ _ _) | exact gr_refl _ _ | exact gr_drew _ _ | exact gr_drewN _ _ _); rintro e wz ⟨rfl, gz, kzwz⟩)
                refine hK.out _ _ ?_ (fun hHeld2 => ?_)
                · ((try dsimp only); go_keep)
                clear hK K hHeld
                have hHeld := hHeld2
                clear hHeld2
                try simp only [Act.put, List.setIfInBounds_toArray, List.set_cons_zero, List.set_cons_succ]
                first
                  | (refine wpAnyH_take (i := 37) (oi := _) (v := ?vop26) (by simp only [List.getElem?_toArray, List.getElem?_cons_succ, List.getElem?_cons_zero]; rfl) (by kernel_rfl) (by kernel_rfl) (by kernel_rfl) (by exact fun _ _ _ h => h) (Or.inl ⟨by rfl, ?hyop26⟩) (by assumption) ?restop26
                     case hyop26 => (intro w hSw; (try dsimp only at hSw); go_simp; try (with_reducible rfl)))
                  | refine wpAnyH_take (i := 37) (oi := _) (v := undef) (by simp only [List.getElem?_toArray, List.getElem?_cons_succ, List.getElem?_cons_zero]; rfl) (by kernel_rfl) (by kernel_rfl) (by kernel_rfl) (by exact fun _ _ _ h => h) (Or.inr ⟨by rfl, rfl⟩) (by assumption) ?_
                try simp only [Act.put, List.setIfInBounds_toArray, List.set_cons_zero, List.set_cons_succ]
                first
                  | (refine wpAnyH_take (i := 38) (oi := _) (v := ?vop27) (by simp only [List.getElem?_toArray, List.getElem?_cons_succ, List.getElem?_cons_zero]; rfl) (by kernel_rfl) (by kernel_rfl) (by kernel_rfl) (by exact fun _ _ _ h => h) (Or.inl ⟨by rfl, ?hyop27⟩) (by assumption) ?restop27
                     case hyop27 => (intro w hSw; (try dsimp only at hSw); go_simp; try (with_reducible rfl)))
                  | refine wpAnyH_take (i := 38) (oi := _) (v := undef) (by simp only [List.getElem?_toArray, List.getElem?_cons_succ, List.getElem?_cons_zero]; rfl) (by kernel_rfl) (by kernel_rfl) (by kernel_rfl) (by exact fun _ _ _ h => h) (Or.inr ⟨by rfl, rfl⟩) (by assumption) ?_
                try simp only [Act.put, List.setIfInBounds_toArray, List.set_cons_zero, List.set_cons_succ]
                refine wpAnyH_done (by kernel_rfl) ?_ _
                go_wp2
                go_roundw
                case rel => exact ⟨t + 1, f, by omega, rfl, by go_num, HN, gr_none HGQ.out (by first | exact gz | exact gr_none gz (gr_drew _ _) | exact gr_none gz (gr_drewN _ _ _) | exact gr_refl _ _ | exact gr_drew _ _ | exact gr_drewN _ _ _)⟩
                case measure => simp [intOf]; omega
              · have HR3 := Lib.hid (HN3.out false (decide_eq_false ha).symm)
                have HN : Hid (FirstIs false m (t + 1) ⟨xa, xb, xl⟩) := HYES.out ⟨HVN.out, .inl hn1, aheadD_not ha (fun e => HVN.out e.symm)⟩
                clear ha hf HN1 HN2 HN3 HNO HYES
                go_wp2_with fail
                refine wp_region_held_drew (S := fun w' => w'.cell? ⟨g, off + k * 3, none⟩ = some (.int .u32 xa.toNat) ∧ w'.cell? ⟨g, off + k * 3 + 1, none⟩ = some (.int .u64 xb.toNat) ∧ w'.cell? ⟨g, off + k * 3 + 2, none⟩ = some (.slice A2 xl.length c2') ∧ w'.cell? ⟨g, off + t * 3, none⟩ = some (.int .u32 ya.toNat) ∧ w'.cell? ⟨g, off + t * 3 + 1, none⟩ = some (.int .u64 yb.toNat) ∧ w'.cell? ⟨g, off + t * 3 + 2, none⟩ = some (.slice A3 yl.length c3)) (by kernel_rfl) ?_ (fun hHeld => ?_)
                · ((try dsimp only); go_keep)
                first
                  | (refine wpAnyH_take (i := 0) (oi := _) (v := ?vop28) (by simp only [List.getElem?_toArray, List.getElem?_cons_zero]; rfl) (by kernel_rfl) (by kernel_rfl) (by kernel_rfl) (by exact fun _ _ _ h => h) (Or.inl ⟨by rfl, ?hyop28⟩) (by assumption) ?restop28
                     case hyop28 => (intro w hSw; (try dsimp only at hSw); go_simp; try (with_reducible rfl)))
                  | refine wpAnyH_take (i := 0) (oi := _) (v := undef) (by simp only [List.getElem?_toArray, List.getElem?_cons_zero]; rfl) (by kernel_rfl) (by kernel_rfl) (by kernel_rfl) (by exact fun _ _ _ h => h) (Or.inr ⟨by rfl, rfl⟩) (by assumption) ?_
                try simp only [Act.put, List.setIfInBounds_toArray, List.set_cons_zero, List.set_cons_succ]
                first
                  | (refine wpAnyH_take (i := 1) (oi := _) (v := ?vop29) (by simp only [List.getElem?_toArray, List.getElem?_cons_succ, List.getElem?_cons_zero]; rfl) (by kernel_rfl) (by kernel_rfl) (by kernel_rfl) (by exact fun _ _ _ h => h) (Or.inl ⟨by rfl, ?hyop29⟩) (by assumption) ?restop29
                     case hyop29 => (intro w hSw; (try dsimp only at hSw); go_simp; try (with_reducible rfl)))
                  | refine wpAnyH_take (i := 1) (oi := _) (v := undef) (by simp only [List.getElem?_toArray, List.getElem?_cons_succ, List.getElem?_cons_zero]; rfl) (by kernel_rfl) (by kernel_rfl) (by kernel_rfl) (by exact fun _ _ _ h => h) (Or.inr ⟨by rfl, rfl⟩) (by assumption) ?_
                try simp only [Act.put, List.setIfInBounds_toArray, List.set_cons_zero, List.set_cons_succ]
                first
                  | (refine wpAnyH_take (i := 2) (oi := _) (v := ?vop30) (by simp only [List.getElem?_toArray, List.getElem?_cons_succ, List.getElem?_cons_zero]; rfl) (by kernel_rfl) (by kernel_rfl) (by kernel_rfl) (by exact fun _ _ _ h => h) (Or.inl ⟨by rfl, ?hyop30⟩) (by assumption) ?restop30
                     case hyop30 => (intro w hSw; (try dsimp only at hSw); go_simp; try (with_reducible rfl)))
                  | refine wpAnyH_take (i := 2) (oi := _) (v := undef) (by simp only [List.getElem?_toArray, List.getElem?_cons_succ, List.getElem?_cons_zero]; rfl) (by kernel_rfl) (by kernel_rfl) (by kernel_rfl) (by exact fun _ _ _ h => h) (Or.inr ⟨by rfl, rfl⟩) (by assumption) ?_
                try simp only [Act.put, List.setIfInBounds_toArray, List.set_cons_zero, List.set_cons_succ]
                first
                  | (refine wpAnyH_take (i := 3) (oi := _) (v := ?vop31) (by simp only [List.getElem?_toArray, List.getElem?_cons_succ, List.getElem?_cons_zero]; rfl) (by kernel_rfl) (by kernel_rfl) (by kernel_rfl) (by exact fun _ _ _ h => h) (Or.inl ⟨by rfl, ?hyop31⟩) (by assumption) ?restop31
                     case hyop31 => (intro w hSw; (try dsimp only at hSw); go_simp; try (with_reducible rfl)))
                  | refine wpAnyH_take (i := 3) (oi := _) (v := undef) (by simp only [List.getElem?_toArray, List.getElem?_cons_succ, List.getElem?_cons_zero]; rfl) (by kernel_rfl) (by kernel_rfl) (by kernel_rfl) (by exact fun _ _ _ h => h) (Or.inr ⟨by rfl, rfl⟩) (by assumption) ?_
                try simp only [Act.put, List.setIfInBounds_toArray, List.set_cons_zero, List.set_cons_succ]
                first
                  | (refine wpAnyH_take (i := 4) (oi := _) (v := ?vop32) (by simp only [List.getElem?_toArray, List.getElem?_cons_succ, List.getElem?_cons_zero]; rfl) (by kernel_rfl) (by kernel_rfl) (by kernel_rfl) (by exact fun _ _ _ h => h) (Or.inl ⟨by rfl, ?hyop32⟩) (by assumption) ?restop32
                     case hyop32 => (intro w hSw; (try dsimp only at hSw); go_simp; try (with_reducible rfl)))
                  | refine wpAnyH_take (i := 4) (oi := _) (v := undef) (by simp only [List.getElem?_toArray, List.getElem?_cons_succ, List.getElem?_cons_zero]; rfl) (by kernel_rfl) (by kernel_rfl) (by kernel_rfl) (by exact fun _ _ _ h => h) (Or.inr ⟨by rfl, rfl⟩) (by assumption) ?_
                try simp only [Act.put, List.setIfInBounds_toArray, List.set_cons_zero, List.set_cons_succ]
                first
                  | (refine wpAnyH_take (i := 5) (oi := _) (v := ?vop33) (by simp only [List.getElem?_toArray, List.getElem?_cons_succ, List.getElem?_cons_zero]; rfl) (by kernel_rfl) (by kernel_rfl) (by kernel_rfl) (by exact fun _ _ _ h => h) (Or.inl ⟨by rfl, ?hyop33⟩) (by assumption) ?restop33
                     case hyop33 => (intro w hSw; (try dsimp only at hSw); go_simp; try (with_reducible rfl)))
                  | refine wpAnyH_take (i := 5) (oi := _) (v := undef) (by simp only [List.getElem?_toArray, List.getElem?_cons_succ, List.getElem?_cons_zero]; rfl) (by kernel_rfl) (by kernel_rfl) (by kernel_rfl) (by exact fun _ _ _ h => h) (Or.inr ⟨by rfl, rfl⟩) (by assumption) ?_
                try simp only [Act.put, List.setIfInBounds_toArray, List.set_cons_zero, List.set_cons_succ]
                first
                  | (refine wpAnyH_take (i := 6) (oi := _) (v := ?vop34) (by simp only [List.getElem?_toArray, List.getElem?_cons_succ, List.getElem?_cons_zero]; rfl) (by kernel_rfl) (by kernel_rfl) (by kernel_rfl) (by exact fun _ _ _ h => h) (Or.inl ⟨by rfl, ?hyop34⟩) (by assumption) ?restop34
                     case hyop34 => (intro w hSw; (try dsimp only at hSw); go_simp; try (with_reducible rfl)))
                  | refine wpAnyH_take (i := 6) (oi := _) (v := undef) (by simp only [List.getElem?_toArray, List.getElem?_cons_succ, List.getElem?_cons_zero]; rfl) (by kernel_rfl) (by kernel_rfl) (by kernel_rfl) (by exact fun _ _ _ h => h) (Or.inr ⟨by rfl, rfl⟩) (by assumption) ?_
                try simp only [Act.put, List.setIfInBounds_toArray, List.set_cons_zero, List.set_cons_succ]
                first
                  | (refine wpAnyH_take (i := 7) (oi := _) (v := ?vop35) (by simp only [List.getElem?_toArray, List.getElem?_cons_succ, List.getElem?_cons_zero]; rfl) (by kernel_rfl) (by kernel_rfl) (by kernel_rfl) (by exact fun _ _ _ h => h) (Or.inl ⟨by rfl, ?hyop35⟩) (by assumption) ?restop35
                     case hyop35 => (intro w hSw; (try dsimp only at hSw); go_simp; try (with_reducible rfl)))
                  | refine wpAnyH_take (i := 7) (oi := _) (v := undef) (by simp only [List.getElem?_toArray, List.getElem?_cons_succ, List.getElem?_cons_zero]; rfl) (by kernel_rfl) (by kernel_rfl) (by kernel_rfl) (by exact fun _ _ _ h => h) (Or.inr ⟨by rfl, rfl⟩) (by assumption) ?_
                try simp only [Act.put, List.setIfInBounds_toArray, List.set_cons_zero, List.set_cons_succ]
                first
                  | (refine wpAnyH_take (i := 8) (oi := _) (v := ?vop36) (by simp only [List.getElem?_toArray, List.getElem?_cons_succ, List.getElem?_cons_zero]; rfl) (by kernel_rfl) (by kernel_rfl) (by kernel_rfl) (by exact fun _ _ _ h => h) (Or.inl ⟨by rfl, ?hyop36⟩) (by assumption) ?restop36
                     case hyop36 => (intro w hSw; (try dsimp only at hSw); go_simp; try (with_reducible rfl)))
                  | refine wpAnyH_take (i := 8) (oi := _) (v := undef) (by simp only [List.getElem?_toArray, List.getElem?_cons_succ, List.getElem?_cons_zero]; rfl) (by kernel_rfl) (by kernel_rfl) (by kernel_rfl) (by exact fun _ _ _ h => h) (Or.inr ⟨by rfl, rfl⟩) (by assumption) ?_
                try simp only [Act.put, List.setIfInBounds_toArray, List.set_cons_zero, List.set_cons_succ]
                first
                  | (refine wpAnyH_take (i := 9) (oi := _) (v := ?vop37) (by simp only [List.getElem?_toArray, List.getElem?_cons_succ, List.getElem?_cons_zero]; rfl) (by kernel_rfl) (by kernel_rfl) (by kernel_rfl) (by exact fun _ _ _ h => h) (Or.inl ⟨by rfl, ?hyop37⟩) (by assumption) ?restop37
                     case hyop37 => (intro w hSw; (try dsimp only at hSw); go_simp; try (with_reducible rfl)))
                  | refine wpAnyH_take (i := 9) (oi := _) (v := undef) (by simp only [List.getElem?_toArray, List.getElem?_cons_succ, List.getElem?_cons_zero]; rfl) (by kernel_rfl) (by kernel_rfl) (by kernel_rfl) (by exact fun _ _ _ h => h) (Or.inr ⟨by rfl, rfl⟩) (by assumption) ?_
                try simp only [Act.put, List.setIfInBounds_toArray, List.set_cons_zero, List.set_cons_succ]
                first
                  | (refine wpAnyH_take (i := 10) (oi := _) (v := ?vop38) (by simp only [List.getElem?_toArray, List.getElem?_cons_succ, List.getElem?_cons_zero]; rfl) (by kernel_rfl) (by kernel_rfl) (by kernel_rfl) (by exact fun _ _ _ h => h) (Or.inl ⟨by rfl, ?hyop38⟩) (by assumption) ?restop38
                     case hyop38 => (intro w hSw; (try dsimp only at hSw); go_simp; try (with_reducible rfl)))
                  | refine wpAnyH_take (i := 10) (oi := _) (v := undef) (by simp only [List.getElem?_toArray, List.getElem?_cons_succ, List.getElem?_cons_zero]; rfl) (by kernel_rfl) (by kernel_rfl) (by kernel_rfl) (by exact fun _ _ _ h => h) (Or.inr ⟨by rfl, rfl⟩) (by assumption) ?_
                try simp only [Act.put, List.setIfInBounds_toArray, List.set_cons_zero, List.set_cons_succ]
                first
                  | (refine wpAnyH_take (i := 11) (oi := _) (v := ?vop39) (by simp only [List.getElem?_toArray, List.getElem?_cons_succ, List.getElem?_cons_zero]; rfl) (by kernel_rfl) (by kernel_rfl) (by kernel_rfl) (by exact fun _ _ _ h => h) (Or.inl ⟨by rfl, ?hyop39⟩) (by assumption) ?restop39
                     case hyop39 => (intro w hSw; (try dsimp only at hSw); go_simp; try (with_reducible rfl)))
                  | refine wpAnyH_take (i := 11) (oi := _) (v := undef) (by simp only [List.getElem?_toArray, List.getElem?_cons_succ, List.getElem?_cons_zero]; rfl) (by kernel_rfl) (by kernel_rfl) (by kernel_rfl) (by exact fun _ _ _ h => h) (Or.inr ⟨by rfl, rfl⟩) (by assumption) ?_
                try simp only [Act.put, List.setIfInBounds_toArray, List.set_cons_zero, List.set_cons_succ]
                first
                  | (refine wpAnyH_take (i := 12) (oi := _) (v := ?vop40) (by simp only [List.getElem?_toArray, List.getElem?_cons_succ, List.getElem?_cons_zero]; rfl) (by kernel_rfl) (by kernel_rfl) (by kernel_rfl) (by exact fun _ _ _ h => h) (Or.inl ⟨by rfl, ?hyop40⟩) (by assumption) ?restop40
                     case hyop40 => (intro w hSw; (try dsimp only at hSw); go_simp; try (with_reducible rfl)))
                  | refine wpAnyH_take (i := 12) (oi := _) (v := undef) (by simp only [List.getElem?_toArray, List.getElem?_cons_succ, List.getElem?_cons_zero]; rfl) (by kernel_rfl) (by kernel_rfl) (by kernel_rfl) (by exact fun _ _ _ h => h) (Or.inr ⟨by rfl, rfl⟩) (by assumption) ?_
                try simp only [Act.put, List.setIfInBounds_toArray, List.set_cons_zero, List.set_cons_succ]
                refine wpAnyH_ready (rs := [13]) (by kernel_rfl) (by simp) ?_
                refine AllReadyH.cons (o := _) (by simp only [List.getElem?_toArray, List.getElem?_cons_succ, List.getElem?_cons_zero]; rfl) ?_ AllReadyH.nil
                intro K hK
                go_simp
                (go_at_call 21; refine (HR1.out _ ?_).mono ?_; (first | exact gz | exact gr_none gz (gr_drew _ _) | exact gr_none gz (gr_drewN _ _ _) | exact gr_refl _ _ | exact gr_drew _ _ | exact gr_drewN _ _ _); rintro e wz ⟨rfl, gz, kzwz⟩)
                refine hK.out _ _ ?_ (fun hHeld2 => ?_)
                · ((try dsimp only); go_keep)
                clear hK K hHeld
                have hHeld := hHeld2
                clear hHeld2
                try simp only [Act.put, List.setIfInBounds_toArray, List.set_cons_zero, List.set_cons_succ]
                first
                  | (refine wpAnyH_take (i := 14) (oi := _) (v := ?vop41) (by simp only [List.getElem?_toArray, List.getElem?_cons_succ, List.getElem?_cons_zero]; rfl) (by kernel_rfl) (by kernel_rfl) (by kernel_rfl) (by exact fun _ _ _ h => h) (Or.inl ⟨by rfl, ?hyop41⟩) (by assumption) ?restop41
                     case hyop41 => (intro w hSw; (try dsimp only at hSw); go_simp; try (with_reducible rfl)))
                  | refine wpAnyH_take (i := 14) (oi := _) (v := undef) (by simp only [List.getElem?_toArray, List.getElem?_cons_succ, List.getElem?_cons_zero]; rfl) (by kernel_rfl) (by kernel_rfl) (by kernel_rfl) (by exact fun _ _ _ h => h) (Or.inr ⟨by rfl, rfl⟩) (by assumption) ?_
                try simp only [Act.put, List.setIfInBounds_toArray, List.set_cons_zero, List.set_cons_succ]
                refine wpAnyH_take (i := 15) (oi := _) (v := undef) (by simp only [List.getElem?_toArray, List.getElem?_cons_succ, List.getElem?_cons_zero]; rfl) (by kernel_rfl) (by kernel_rfl) (by kernel_rfl) (by exact fun _ _ _ h => h) (Or.inr ⟨by rfl, rfl⟩) (by assumption) ?_
                try simp only [Act.put, List.setIfInBounds_toArray, List.set_cons_zero, List.set_cons_succ]
                refine wpAnyH_take (i := 16) (oi := _) (v := undef) (by simp only [List.getElem?_toArray, List.getElem?_cons_succ, List.getElem?_cons_zero]; rfl) (by kernel_rfl) (by kernel_rfl) (by kernel_rfl) (by exact fun _ _ _ h => h) (Or.inr ⟨by rfl, rfl⟩) (by assumption) ?_
                try simp only [Act.put, List.setIfInBounds_toArray, List.set_cons_zero, List.set_cons_succ]
                refine wpAnyH_take (i := 17) (oi := _) (v := undef) (by simp only [List.getElem?_toArray, List.getElem?_cons_succ, List.getElem?_cons_zero]; rfl) (by kernel_rfl) (by kernel_rfl) (by kernel_rfl) (by exact fun _ _ _ h => h) (Or.inr ⟨by rfl, rfl⟩) (by assumption) ?_
                try simp only [Act.put, List.setIfInBounds_toArray, List.set_cons_zero, List.set_cons_succ]
                refine wpAnyH_take (i := 18) (oi := _) (v := undef) (by simp only [List.getElem?_toArray, List.getElem?_cons_succ, List.getElem?_cons_zero]; rfl) (by kernel_rfl) (by kernel_rfl) (by kernel_rfl) (by exact fun _ _ _ h => h) (Or.inr ⟨by rfl, rfl⟩) (by assumption) ?_
                try simp only [Act.put, List.setIfInBounds_toArray, List.set_cons_zero, List.set_cons_succ]
                refine wpAnyH_take (i := 19) (oi := _) (v := undef) (by simp only [List.getElem?_toArray, List.getElem?_cons_succ, List.getElem?_cons_zero]; rfl) (by kernel_rfl) (by kernel_rfl) (by kernel_rfl) (by exact fun _ _ _ h => h) (Or.inr ⟨by rfl, rfl⟩) (by assumption) ?_
                try simp only [Act.put, List.setIfInBounds_toArray, List.set_cons_zero, List.set_cons_succ]
                refine wpAnyH_take (i := 20) (oi := _) (v := undef) (by simp only [List.getElem?_toArray, List.getElem?_cons_succ, List.getElem?_cons_zero]; rfl) (by kernel_rfl) (by kernel_rfl) (by kernel_rfl) (by exact fun _ _ _ h => h) (Or.inr ⟨by rfl, rfl⟩) (by assumption) ?_
                try simp only [Act.put, List.setIfInBounds_toArray, List.set_cons_zero, List.set_cons_succ]
                refine wpAnyH_take (i := 21) (oi := _) (v := undef) (by simp only [List.getElem?_toArray, List.getElem?_cons_succ, List.getElem?_cons_zero]; rfl) (by kernel_rfl) (by kernel_rfl) (by kernel_rfl) (by exact fun _ _ _ h => h) (Or.inr ⟨by rfl, rfl⟩) (by assumption) ?_
                try simp only [Act.put, List.setIfInBounds_toArray, List.set_cons_zero, List.set_cons_succ]
                refine wpAnyH_take (i := 22) (oi := _) (v := undef) (by simp only [List.getElem?_toArray, List.getElem?_cons_succ, List.getElem?_cons_zero]; rfl) (by kernel_rfl) (by kernel_rfl) (by kernel_rfl) (by exact fun _ _ _ h => h) (Or.inr ⟨by rfl, rfl⟩) (by assumption) ?_
                try simp only [Act.put, List.setIfInBounds_toArray, List.set_cons_zero, List.set_cons_succ]
                refine wpAnyH_take (i := 23) (oi := _) (v := undef) (by simp only [List.getElem?_toArray, List.getElem?_cons_succ, List.getElem?_cons_zero]; rfl) (by kernel_rfl) (by kernel_rfl) (by kernel_rfl) (by exact fun _ _ _ h => h) (Or.inr ⟨by rfl, rfl⟩) (by assumption) ?_
                try simp only [Act.put, List.setIfInBounds_toArray, List.set_cons_zero, List.set_cons_succ]
                refine wpAnyH_take (i := 24) (oi := _) (v := undef) (by simp only [List.getElem?_toArray, List.getElem?_cons_succ, List.getElem?_cons_zero]; rfl) (by kernel_rfl) (by kernel_rfl) (by kernel_rfl) (by exact fun _ _ _ h => h) (Or.inr ⟨by rfl, rfl⟩) (by assumption) ?_
                try simp only [Act.put, List.setIfInBounds_toArray, List.set_cons_zero, List.set_cons_succ]
                first
                  | (refine wpAnyH_take (i := 25) (oi := _) (v := ?vop42) (by simp only [List.getElem?_toArray, List.getElem?_cons_succ, List.getElem?_cons_zero]; rfl) (by kernel_rfl) (by kernel_rfl) (by kernel_rfl) (by exact fun _ _ _ h => h) (Or.inl ⟨by rfl, ?hyop42⟩) (by assumption) ?restop42
                     case hyop42 => (intro w hSw; (try dsimp only at hSw); go_simp; try (with_reducible rfl)))
                  | refine wpAnyH_take (i := 25) (oi := _) (v := undef) (by simp only [List.getElem?_toArray, List.getElem?_cons_succ, List.getElem?_cons_zero]; rfl) (by kernel_rfl) (by kernel_rfl) (by kernel_rfl) (by exact fun _ _ _ h => h) (Or.inr ⟨by rfl, rfl⟩) (by assumption) ?_
                try simp only [Act.put, List.setIfInBounds_toArray, List.set_cons_zero, List.set_cons_succ]
                first
                  | (refine wpAnyH_take (i := 26) (oi := _) (v := ?vop43) (by simp only [List.getElem?_toArray, List.getElem?_cons_succ, List.getElem?_cons_zero]; rfl) (by kernel_rfl) (by kernel_rfl) (by kernel_rfl) (by exact fun _ _ _ h => h) (Or.inl ⟨by rfl, ?hyop43⟩) (by assumption) ?restop43
                     case hyop43 => (intro w hSw; (try dsimp only at hSw); go_simp; try (with_reducible rfl)))
                  | refine wpAnyH_take (i := 26) (oi := _) (v := undef) (by simp only [List.getElem?_toArray, List.getElem?_cons_succ, List.getElem?_cons_zero]; rfl) (by kernel_rfl) (by kernel_rfl) (by kernel_rfl) (by exact fun _ _ _ h => h) (Or.inr ⟨by rfl, rfl⟩) (by assumption) ?_
                try simp only [Act.put, List.setIfInBounds_toArray, List.set_cons_zero, List.set_cons_succ]
                first
                  | (refine wpAnyH_take (i := 27) (oi := _) (v := ?vop44) (by simp only [List.getElem?_toArray, List.getElem?_cons_succ, List.getElem?_cons_zero]; rfl) (by kernel_rfl) (by kernel_rfl) (by kernel_rfl) (by exact fun _ _ _ h => h) (Or.inl ⟨by rfl, ?hyop44⟩) (by assumption) ?restop44
                     case hyop44 => (intro w hSw; (try dsimp only at hSw); go_simp; try (with_reducible rfl)))
                  | refine wpAnyH_take (i := 27) (oi := _) (v := undef) (by simp only [List.getElem?_toArray, List.getElem?_cons_succ, List.getElem?_cons_zero]; rfl) (by kernel_rfl) (by kernel_rfl) (by kernel_rfl) (by exact fun _ _ _ h => h) (Or.inr ⟨by rfl, rfl⟩) (by assumption) ?_
                try simp only [Act.put, List.setIfInBounds_toArray, List.set_cons_zero, List.set_cons_succ]
                first
                  | (refine wpAnyH_take (i := 28) (oi := _) (v := ?vop45) (by simp only [List.getElem?_toArray, List.getElem?_cons_succ, List.getElem?_cons_zero]; rfl) (by kernel_rfl) (by kernel_rfl) (by kernel_rfl) (by exact fun _ _ _ h => h) (Or.inl ⟨by rfl, ?hyop45⟩) (by assumption) ?restop45
                     case hyop45 => (intro w hSw; (try dsimp only at hSw); go_simp; try (with_reducible rfl)))
                  | refine wpAnyH_take (i := 28) (oi := _) (v := undef) (by simp only [List.getElem?_toArray, List.getElem?_cons_succ, List.getElem?_cons_zero]; rfl) (by kernel_rfl) (by kernel_rfl) (by kernel_rfl) (by exact fun _ _ _ h => h) (Or.inr ⟨by rfl, rfl⟩) (by assumption) ?_
                try simp only [Act.put, List.setIfInBounds_toArray, List.set_cons_zero, List.set_cons_succ]
                first
                  | (refine wpAnyH_take (i := 29) (oi := _) (v := ?vop46) (by simp only [List.getElem?_toArray, List.getElem?_cons_succ, List.getElem?_cons_zero]; rfl) (by kernel_rfl) (by kernel_rfl) (by kernel_rfl) (by exact fun _ _ _ h => h) (Or.inl ⟨by rfl, ?hyop46⟩) (by assumption) ?restop46
                     case hyop46 => (intro w hSw; (try dsimp only at hSw); go_simp; try (with_reducible rfl)))
                  | refine wpAnyH_take (i := 29) (oi := _) (v := undef) (by simp only [List.getElem?_toArray, List.getElem?_cons_succ, List.getElem?_cons_zero]; rfl) (by kernel_rfl) (by kernel_rfl) (by kernel_rfl) (by exact fun _ _ _ h => h) (Or.inr ⟨by rfl, rfl⟩) (by assumption) ?_
                try simp only [Act.put, List.setIfInBounds_toArray, List.set_cons_zero, List.set_cons_succ]
                first
                  | (refine wpAnyH_take (i := 30) (oi := _) (v := ?vop47) (by simp only [List.getElem?_toArray, List.getElem?_cons_succ, List.getElem?_cons_zero]; rfl) (by kernel_rfl) (by kernel_rfl) (by kernel_rfl) (by exact fun _ _ _ h => h) (Or.inl ⟨by rfl, ?hyop47⟩) (by assumption) ?restop47
                     case hyop47 => (intro w hSw; (try dsimp only at hSw); go_simp; try (with_reducible rfl)))
                  | refine wpAnyH_take (i := 30) (oi := _) (v := undef) (by simp only [List.getElem?_toArray, List.getElem?_cons_succ, List.getElem?_cons_zero]; rfl) (by kernel_rfl) (by kernel_rfl) (by kernel_rfl) (by exact fun _ _ _ h => h) (Or.inr ⟨by rfl, rfl⟩) (by assumption) ?_
                try simp only [Act.put, List.setIfInBounds_toArray, List.set_cons_zero, List.set_cons_succ]
                first
                  | (refine wpAnyH_take (i := 31) (oi := _) (v := ?vop48) (by simp only [List.getElem?_toArray, List.getElem?_cons_succ, List.getElem?_cons_zero]; rfl) (by kernel_rfl) (by kernel_rfl) (by kernel_rfl) (by exact fun _ _ _ h => h) (Or.inl ⟨by rfl, ?hyop48⟩) (by assumption) ?restop48
                     case hyop48 => (intro w hSw; (try dsimp only at hSw); go_simp; try (with_reducible rfl)))
                  | refine wpAnyH_take (i := 31) (oi := _) (v := undef) (by simp only [List.getElem?_toArray, List.getElem?_cons_succ, List.getElem?_cons_zero]; rfl) (by kernel_rfl) (by kernel_rfl) (by kernel_rfl) (by exact fun _ _ _ h => h) (Or.inr ⟨by rfl, rfl⟩) (by assumption) ?_
                try simp only [Act.put, List.setIfInBounds_toArray, List.set_cons_zero, List.set_cons_succ]
                first
                  | (refine wpAnyH_take (i := 32) (oi := _) (v := ?vop49) (by simp only [List.getElem?_toArray, List.getElem?_cons_succ, List.getElem?_cons_zero]; rfl) (by kernel_rfl) (by kernel_rfl) (by kernel_rfl) (by exact fun _ _ _ h => h) (Or.inl ⟨by rfl, ?hyop49⟩) (by assumption) ?restop49
                     case hyop49 => (intro w hSw; (try dsimp only at hSw); go_simp; try (with_reducible rfl)))
                  | refine wpAnyH_take (i := 32) (oi := _) (v := undef) (by simp only [List.getElem?_toArray, List.getElem?_cons_succ, List.getElem?_cons_zero]; rfl) (by kernel_rfl) (by kernel_rfl) (by kernel_rfl) (by exact fun _ _ _ h => h) (Or.inr ⟨by rfl, rfl⟩) (by assumption) ?_
                try simp only [Act.put, List.setIfInBounds_toArray, List.set_cons_zero, List.set_cons_succ]
                first
                  | (refine wpAnyH_take (i := 33) (oi := _) (v := ?vop50) (by simp only [List.getElem?_toArray, List.getElem?_cons_succ, List.getElem?_cons_zero]; rfl) (by kernel_rfl) (by kernel_rfl) (by kernel_rfl) (by exact fun _ _ _ h => h) (Or.inl ⟨by rfl, ?hyop50⟩) (by assumption) ?restop50
                     case hyop50 => (intro w hSw; (try dsimp only at hSw); go_simp; try (with_reducible rfl)))
                  | refine wpAnyH_take (i := 33) (oi := _) (v := undef) (by simp only [List.getElem?_toArray, List.getElem?_cons_succ, List.getElem?_cons_zero]; rfl) (by kernel_rfl) (by kernel_rfl) (by kernel_rfl) (by exact fun _ _ _ h => h) (Or.inr ⟨by rfl, rfl⟩) (by assumption) ?_
                try simp only [Act.put, List.setIfInBounds_toArray, List.set_cons_zero, List.set_cons_succ]
                first
                  | (refine wpAnyH_take (i := 34) (oi := _) (v := ?vop51) (by simp only [List.getElem?_toArray, List.getElem?_cons_succ, List.getElem?_cons_zero]; rfl) (by kernel_rfl) (by kernel_rfl) (by kernel_rfl) (by exact fun _ _ _ h => h) (Or.inl ⟨by rfl, ?hyop51⟩) (by assumption) ?restop51
                     case hyop51 => (intro w hSw; (try dsimp only at hSw); go_simp; try (with_reducible rfl)))
                  | refine wpAnyH_take (i := 34) (oi := _) (v := undef) (by simp only [List.getElem?_toArray, List.getElem?_cons_succ, List.getElem?_cons_zero]; rfl) (by kernel_rfl) (by kernel_rfl) (by kernel_rfl) (by exact fun _ _ _ h => h) (Or.inr ⟨by rfl, rfl⟩) (by assumption) ?_
                try simp only [Act.put, List.setIfInBounds_toArray, List.set_cons_zero, List.set_cons_succ]
                first
                  | (refine wpAnyH_take (i := 35) (oi := _) (v := ?vop52) (by simp only [List.getElem?_toArray, List.getElem?_cons_succ, List.getElem?_cons_zero]; rfl) (by kernel_rfl) (by kernel_rfl) (by kernel_rfl) (by exact fun _ _ _ h => h) (Or.inl ⟨by rfl, ?hyop52⟩) (by assumption) ?restop52
                     case hyop52 => (intro w hSw; (try dsimp only at hSw); go_simp; try (with_reducible rfl)))
                  | refine wpAnyH_take (i := 35) (oi := _) (v := undef) (by simp only [List.getElem?_toArray, List.getElem?_cons_succ, List.getElem?_cons_zero]; rfl) (by kernel_rfl) (by kernel_rfl) (by kernel_rfl) (by exact fun _ _ _ h => h) (Or.inr ⟨by rfl, rfl⟩) (by assumption) ?_
                try simp only [Act.put, List.setIfInBounds_toArray, List.set_cons_zero, List.set_cons_succ]
                refine wpAnyH_ready (rs := [36]) (by kernel_rfl) (by simp) ?_
                refine AllReadyH.cons (o := _) (by simp only [List.getElem?_toArray, List.getElem?_cons_succ, List.getElem?_cons_zero]; rfl) ?_ AllReadyH.nil
                intro K hK
                go_simp
                (go_at_call 22; refine (HR3.out _ ?_).mono ?_; (first | exact gz | exact gr_none gz (gr_drew _ _) | exact gr_none gz (gr_drewN _ _ _) | exact gr_refl _ _ | exact gr_drew _ _ | exact gr_drewN _ _ _); rintro e wz ⟨rfl, gz, kzwz⟩)
                refine hK.out _ _ ?_ (fun hHeld2 => ?_)
                · ((try dsimp only); go_keep)
                clear hK K hHeld
                have hHeld := hHeld2
                clear hHeld2
                try simp only [Act.put, List.setIfInBounds_toArray, List.set_cons_zero, List.set_cons_succ]
                first
                  | (refine wpAnyH_take (i := 37) (oi := _) (v := ?vop53) (by simp only [List.getElem?_toArray, List.getElem?_cons_succ, List.getElem?_cons_zero]; rfl) (by kernel_rfl) (by kernel_rfl) (by kernel_rfl) (by exact fun _ _ _ h => h) (Or.inl ⟨by rfl, ?hyop53⟩) (by assumption) ?restop53
                     case hyop53 => (intro w hSw; (try dsimp only at hSw); go_simp; try (with_reducible rfl)))
                  | refine wpAnyH_take (i := 37) (oi := _) (v := undef) (by simp only [List.getElem?_toArray, List.getElem?_cons_succ, List.getElem?_cons_zero]; rfl) (by kernel_rfl) (by kernel_rfl) (by kernel_rfl) (by exact fun _ _ _ h => h) (Or.inr ⟨by rfl, rfl⟩) (by assumption) ?_
                try simp only [Act.put, List.setIfInBounds_toArray, List.set_cons_zero, List.set_cons_succ]
                first
                  | (refine wpAnyH_take (i := 38) (oi := _) (v := ?vop54) (by simp only [List.getElem?_toArray, List.getElem?_cons_succ, List.getElem?_cons_zero]; rfl) (by kernel_rfl) (by kernel_rfl) (by kernel_rfl) (by exact fun _ _ _ h => h) (Or.inl ⟨by rfl, ?hyop54⟩) (by assumption) ?restop54
                     case hyop54 => (intro w hSw; (try dsimp only at hSw); go_simp; try (with_reducible rfl)))
                  | refine wpAnyH_take (i := 38) (oi := _) (v := undef) (by simp only [List.getElem?_toArray, List.getElem?_cons_succ, List.getElem?_cons_zero]; rfl) (by kernel_rfl) (by kernel_rfl) (by kernel_rfl) (by exact fun _ _ _ h => h) (Or.inr ⟨by rfl, rfl⟩) (by assumption) ?_
                try simp only [Act.put, List.setIfInBounds_toArray, List.set_cons_zero, List.set_cons_succ]
                refine wpAnyH_done (by kernel_rfl) ?_ _
                go_wp2
                go_roundw
                case rel => exact ⟨t + 1, false, by omega, rfl, by go_num, HN, gr_none HGQ.out (by first | exact gz | exact gr_none gz (gr_drew _ _) | exact gr_none gz (gr_drewN _ _ _) | exact gr_refl _ _ | exact gr_drew _ _ | exact gr_drewN _ _ _)⟩
                case measure => simp [intOf]; omega
            · have HR1 := Lib.hid (HN1.out false (decide_eq_false hn1).symm)
              by_cases hn2 : xa ∈ yl
              · have HR2 := Lib.hid (HN2.out true (decide_eq_true hn2).symm)
                by_cases ha : aheadD ⟨xa, xb, xl⟩ ⟨ya, yb, yl⟩
                · have HR3 := Lib.hid (HN3.out true (decide_eq_true ha).symm)
                  have HN : Hid (FirstIs f m (t + 1) ⟨xa, xb, xl⟩) := HNO.out (not_late ha)
                  clear ha hf HN1 HN2 HN3 HNO HYES
                  go_wp2_with fail
                  refine wp_region_held_drew (S := fun w' => w'.cell? ⟨g, off + k * 3, none⟩ = some (.int .u32 xa.toNat) ∧ w'.cell? ⟨g, off + k * 3 + 1, none⟩ = some (.int .u64 xb.toNat) ∧ w'.cell? ⟨g, off + k * 3 + 2, none⟩ = some (.slice A2 xl.length c2') ∧ w'.cell? ⟨g, off + t * 3, none⟩ = some (.int .u32 ya.toNat) ∧ w'.cell? ⟨g, off + t * 3 + 1, none⟩ = some (.int .u64 yb.toNat) ∧ w'.cell? ⟨g, off + t * 3 + 2, none⟩ = some (.slice A3 yl.length c3)) (by kernel_rfl) ?_ (fun hHeld => ?_)
                  · ((try dsimp only); go_keep)
                  first
                    | (refine wpAnyH_take (i := 0) (oi := _) (v := ?vop55) (by simp only [List.getElem?_toArray, List.getElem?_cons_zero]; rfl) (by kernel_rfl) (by kernel_rfl) (by kernel_rfl) (by exact fun _ _ _ h => h) (Or.inl ⟨by rfl, ?hyop55⟩) (by assumption) ?restop55
                       case hyop55 => (intro w hSw; (try dsimp only at hSw); go_simp; try (with_reducible rfl)))
                    | refine wpAnyH_take (i := 0) (oi := _) (v := undef) (by simp only [List.getElem?_toArray, List.getElem?_cons_zero]; rfl) (by kernel_rfl) (by kernel_rfl) (by kernel_rfl) (by exact fun _ _ _ h => h) (Or.inr ⟨by rfl, rfl⟩) (by assumption) ?_
                  try simp only [Act.put, List.setIfInBounds_toArray, List.set_cons_zero, List.set_cons_succ]
                  first
                    | (refine wpAnyH_take (i := 1) (oi := _) (v := ?vop56) (by simp only [List.getElem?_toArray, List.getElem?_cons_succ, List.getElem?_cons_zero]; rfl) (by kernel_rfl) (by kernel_rfl) (by kernel_rfl) (by exact fun _ _ _ h => h) (Or.inl ⟨by rfl, ?hyop56⟩) (by assumption) ?restop56
                       case hyop56 => (intro w hSw; (try dsimp only at hSw); go_simp; try (with_reducible rfl)))
                    | refine wpAnyH_take (i := 1) (oi := _) (v := undef) (by simp only [List.getElem?_toArray, List.getElem?_cons_succ, List.getElem?_cons_zero]; rfl) (by kernel_rfl) (by kernel_rfl) (by kernel_rfl) (by exact fun _ _ _ h => h) (Or.inr ⟨by rfl, rfl⟩) (by assumption) ?_
                  try simp only [Act.put, List.setIfInBounds_toArray, List.set_cons_zero, List.set_cons_succ]
                  first
                    | (refine wpAnyH_take (i := 2) (oi := _) (v := ?vop57) (by simp only [List.getElem?_toArray, List.getElem?_cons_succ, List.getElem?_cons_zero]; rfl) (by kernel_rfl) (by kernel_rfl) (by kernel_rfl) (by exact fun _ _ _ h => h) (Or.inl ⟨by rfl, ?hyop57⟩) (by assumption) ?restop57
                       case hyop57 => (intro w hSw; (try dsimp only at hSw); go_simp; try (with_reducible rfl)))
                    | refine wpAnyH_take (i := 2) (oi := _) (v := undef) (by simp only [List.getElem?_toArray, List.getElem?_cons_succ, List.getElem?_cons_zero]; rfl) (by kernel_rfl) (by kernel_rfl) (by kernel_rfl) (by exact fun _ _ _ h => h) (Or.inr ⟨by rfl, rfl⟩) (by assumption) ?_
                  try simp only [Act.put, List.setIfInBounds_toArray, List.set_cons_zero, List.set_cons_succ]
                  first
                    | (refine wpAnyH_take (i := 3) (oi := _) (v := ?vop58) (by simp only [List.getElem?_toArray, List.getElem?_cons_succ, List.getElem?_cons_zero]; rfl) (by kernel_rfl) (by kernel_rfl) (by kernel_rfl) (by exact fun _ _ _ h => h) (Or.inl ⟨by rfl, ?hyop58⟩) (by assumption) ?restop58
                       case hyop58 => (intro w hSw; (try dsimp only at hSw); go_simp; try (with_reducible rfl)))
                    | refine wpAnyH_take (i := 3) (oi := _) (v := undef) (by simp only [List.getElem?_toArray, List.getElem?_cons_succ, List.getElem?_cons_zero]; rfl) (by kernel_rfl) (by kernel_rfl) (by kernel_rfl) (by exact fun _ _ _ h => h) (Or.inr ⟨by rfl, rfl⟩) (by assumption) ?_
                  try simp only [Act.put, List.setIfInBounds_toArray, List.set_cons_zero, List.set_cons_succ]
                  first
                    | (refine wpAnyH_take (i := 4) (oi := _) (v := ?vop59) (by simp only [List.getElem?_toArray, List.getElem?_cons_succ, List.getElem?_cons_zero]; rfl) (by kernel_rfl) (by kernel_rfl) (by kernel_rfl) (by exact fun _ _ _ h => h) (Or.inl ⟨by rfl, ?hyop59⟩) (by assumption) ?restop59
                       case hyop59 => (intro w hSw; (try dsimp only at hSw); go_simp; try (with_reducible rfl)))
                    | refine wpAnyH_take (i := 4) (oi := _) (v := undef) (by simp only [List.getElem?_toArray, List.getElem?_cons_succ, List.getElem?_cons_zero]; rfl) (by kernel_rfl) (by kernel_rfl) (by kernel_rfl) (by exact fun _ _ _ h => h) (Or.inr ⟨by rfl, rfl⟩) (by assumption) ?_
                  try simp only [Act.put, List.setIfInBounds_toArray, List.set_cons_zero, List.set_cons_succ]
                  first
                    | (refine wpAnyH_take (i := 5) (oi := _) (v := ?vop60) (by simp only [List.getElem?_toArray, List.getElem?_cons_succ, List.getElem?_cons_zero]; rfl) (by kernel_rfl) (by kernel_rfl) (by kernel_rfl) (by exact fun _ _ _ h => h) (Or.inl ⟨by rfl, ?hyop60⟩) (by assumption) ?restop60
                       case hyop60 => (intro w hSw; (try dsimp only at hSw); go_simp; try (with_reducible rfl)))
                    | refine wpAnyH_take (i := 5) (oi := _) (v := undef) (by simp only [List.getElem?_toArray, List.getElem?_cons_succ, List.getElem?_cons_zero]; rfl) (by kernel_rfl) (by kernel_rfl) (by kernel_rfl) (by exact fun _ _ _ h => h) (Or.inr ⟨by rfl, rfl⟩) (by assumption) ?_
                  try simp only [Act.put, List.setIfInBounds_toArray, List.set_cons_zero, List.set_cons_succ]
                  first
                    | (refine wpAnyH_take (i := 6) (oi := _) (v := ?vop61) (by simp only [List.getElem?_toArray, List.getElem?_cons_succ, List.getElem?_cons_zero]; rfl) (by kernel_rfl) (by kernel_rfl) (by kernel_rfl) (by exact fun _ _ _ h => h) (Or.inl ⟨by rfl, ?hyop61⟩) (by assumption) ?restop61
                       case hyop61 => (intro w hSw; (try dsimp only at hSw); go_simp; try (with_reducible rfl)))
                    | refine wpAnyH_take (i := 6) (oi := _) (v := undef) (by simp only [List.getElem?_toArray, List.getElem?_cons_succ, List.getElem?_cons_zero]; rfl) (by kernel_rfl) (by kernel_rfl) (by kernel_rfl) (by exact fun _ _ _ h => h) (Or.inr ⟨by rfl, rfl⟩) (by assumption) ?_
                  try simp only [Act.put, List.setIfInBounds_toArray, List.set_cons_zero, List.set_cons_succ]
                  first
                    | (refine wpAnyH_take (i := 7) (oi := _) (v := ?vop62) (by simp only [List.getElem?_toArray, List.getElem?_cons_succ, List.getElem?_cons_zero]; rfl) (by kernel_rfl) (by kernel_rfl) (by kernel_rfl) (by exact fun _ _ _ h => h) (Or.inl ⟨by rfl, ?hyop62⟩) (by assumption) ?restop62
                       case hyop62 => (intro w hSw; (try dsimp only at hSw); go_simp; try (with_reducible rfl)))
                    | refine wpAnyH_take (i := 7) (oi := _) (v := undef) (by simp only [List.getElem?_toArray, List.getElem?_cons_succ, List.getElem?_cons_zero]; rfl) (by kernel_rfl) (by kernel_rfl) (by kernel_rfl) (by exact fun _ _ _ h => h) (Or.inr ⟨by rfl, rfl⟩) (by assumption) ?_
                  try simp only [Act.put, List.setIfInBounds_toArray, List.set_cons_zero, List.set_cons_succ]
                  first
                    | (refine wpAnyH_take (i := 8) (oi := _) (v := ?vop63) (by simp only [List.getElem?_toArray, List.getElem?_cons_succ, List.getElem?_cons_zero]; rfl) (by kernel_rfl) (by kernel_rfl) (by kernel_rfl) (by exact fun _ _ _ h => h) (Or.inl ⟨by rfl, ?hyop63⟩) (by assumption) ?restop63
                       case hyop63 => (intro w hSw; (try dsimp only at hSw); go_simp; try (with_reducible rfl)))
                    | refine wpAnyH_take (i := 8) (oi := _) (v := undef) (by simp only [List.getElem?_toArray, List.getElem?_cons_succ, List.getElem?_cons_zero]; rfl) (by kernel_rfl) (by kernel_rfl) (by kernel_rfl) (by exact fun _ _ _ h => h) (Or.inr ⟨by rfl, rfl⟩) (by assumption) ?_
                  try simp only [Act.put, List.setIfInBounds_toArray, List.set_cons_zero, List.set_cons_succ]
                  first
                    | (refine wpAnyH_take (i := 9) (oi := _) (v := ?vop64) (by simp only [List.getElem?_toArray, List.getElem?_cons_succ, List.getElem?_cons_zero]; rfl) (by kernel_rfl) (by kernel_rfl) (by kernel_rfl) (by exact fun _ _ _ h => h) (Or.inl ⟨by rfl, ?hyop64⟩) (by assumption) ?restop64
                       case hyop64 => (intro w hSw; (try dsimp only at hSw); go_simp; try (with_reducible rfl)))
                    | refine wpAnyH_take (i := 9) (oi := _) (v := undef) (by simp only [List.getElem?_toArray, List.getElem?_cons_succ, List.getElem?_cons_zero]; rfl) (by kernel_rfl) (by kernel_rfl) (by kernel_rfl) (by exact fun _ _ _ h => h) (Or.inr ⟨by rfl, rfl⟩) (by assumption) ?_
                  try simp only [Act.put, List.setIfInBounds_toArray, List.set_cons_zero, List.set_cons_succ]
                  first
                    | (refine wpAnyH_take (i := 10) (oi := _) (v := ?vop65) (by simp only [List.getElem?_toArray, List.getElem?_cons_succ, List.getElem?_cons_zero]; rfl) (by kernel_rfl) (by kernel_rfl) (by kernel_rfl) (by exact fun _ _ _ h => h) (Or.inl ⟨by rfl, ?hyop65⟩) (by assumption) ?restop65
                       case hyop65 => (intro w hSw; (try dsimp only at hSw); go_simp; try (with_reducible rfl)))
                    | refine wpAnyH_take (i := 10) (oi := _) (v := undef) (by simp only [List.getElem?_toArray, List.getElem?_cons_succ, List.getElem?_cons_zero]; rfl) (by kernel_rfl) (by kernel_rfl) (by kernel_rfl) (by exact fun _ _ _ h => h) (Or.inr ⟨by rfl, rfl⟩) (by assumption) ?_
                  try simp only [Act.put, List.setIfInBounds_toArray, List.set_cons_zero, List.set_cons_succ]
                  first
                    | (refine wpAnyH_take (i := 11) (oi := _) (v := ?vop66) (by simp only [List.getElem?_toArray, List.getElem?_cons_succ, List.getElem?_cons_zero]; rfl) (by kernel_rfl) (by kernel_rfl) (by kernel_rfl) (by exact fun _ _ _ h => h) (Or.inl ⟨by rfl, ?hyop66⟩) (by assumption) ?restop66
                       case hyop66 => (intro w hSw; (try dsimp only at hSw); go_simp; try (with_reducible rfl)))
                    | refine wpAnyH_take (i := 11) (oi := _) (v := undef) (by simp only [List.getElem?_toArray, List.getElem?_cons_succ, List.getElem?_cons_zero]; rfl) (by kernel_rfl) (by kernel_rfl) (by kernel_rfl) (by exact fun _ _ _ h => h) (Or.inr ⟨by rfl, rfl⟩) (by assumption) ?_
                  try simp only [Act.put, List.setIfInBounds_toArray, List.set_cons_zero, List.set_cons_succ]
                  first
                    | (refine wpAnyH_take (i := 12) (oi := _) (v := ?vop67) (by simp only [List.getElem?_toArray, List.getElem?_cons_succ, List.getElem?_cons_zero]; rfl) (by kernel_rfl) (by kernel_rfl) (by kernel_rfl) (by exact fun _ _ _ h => h) (Or.inl ⟨by rfl, ?hyop67⟩) (by assumption) ?restop67
                       case hyop67 => (intro w hSw; (try dsimp only at hSw); go_simp; try (with_reducible rfl)))
                    | refine wpAnyH_take (i := 12) (oi := _) (v := undef) (by simp only [List.getElem?_toArray, List.getElem?_cons_succ, List.getElem?_cons_zero]; rfl) (by kernel_rfl) (by kernel_rfl) (by kernel_rfl) (by exact fun _ _ _ h => h) (Or.inr ⟨by rfl, rfl⟩) (by assumption) ?_
                  try simp only [Act.put, List.setIfInBounds_toArray, List.set_cons_zero, List.set_cons_succ]
                  refine wpAnyH_ready (rs := [13]) (by kernel_rfl) (by simp) ?_
                  refine AllReadyH.cons (o := _) (by simp only [List.getElem?_toArray, List.getElem?_cons_succ, List.getElem?_cons_zero]; rfl) ?_ AllReadyH.nil
                  intro K hK
                  go_simp
                  (go_at_call 21; refine (HR1.out _ ?_).mono ?_; (first | exact gz | exact gr_none gz (gr_drew _ _) | exact gr_none gz (gr_drewN _ _ _) | exact gr_refl _ _ | exact gr_drew _ _ | exact gr_drewN _ _ _); rintro e wz ⟨rfl, gz, kzwz⟩)
                  refine hK.out _ _ ?_ (fun hHeld2 => ?_)
                  · ((try dsimp only); go_keep)
                  clear hK K hHeld
                  have hHeld := hHeld2
                  clear hHeld2
                  try simp only [Act.put, List.setIfInBounds_toArray, List.set_cons_zero, List.set_cons_succ]
                  first
                    | (refine wpAnyH_take (i := 14) (oi := _) (v := ?vop68) (by simp only [List.getElem?_toArray, List.getElem?_cons_succ, List.getElem?_cons_zero]; rfl) (by kernel_rfl) (by kernel_rfl) (by kernel_rfl) (by exact fun _ _ _ h => h) (Or.inl ⟨by rfl, ?hyop68⟩) (by assumption) ?restop68
                       case hyop68 => (intro w hSw; (try dsimp only at hSw); go_simp; try (with_reducible rfl)))
                    | refine wpAnyH_take (i := 14) (oi := _) (v := undef) (by simp only [List.getElem?_toArray, List.getElem?_cons_succ, List.getElem?_cons_zero]; rfl) (by kernel_rfl) (by kernel_rfl) (by kernel_rfl) (by exact fun _ _ _ h => h) (Or.inr ⟨by rfl, rfl⟩) (by assumption) ?_
                  try simp only [Act.put, List.setIfInBounds_toArray, List.set_cons_zero, List.set_cons_succ]
                  first
                    | (refine wpAnyH_take (i := 15) (oi := _) (v := ?vop69) (by simp only [List.getElem?_toArray, List.getElem?_cons_succ, List.getElem?_cons_zero]; rfl) (by kernel_rfl) (by kernel_rfl) (by kernel_rfl) (by exact fun _ _ _ h => h) (Or.inl ⟨by rfl, ?hyop69⟩) (by assumption) ?restop69
                       case hyop69 => (intro w hSw; (try dsimp only at hSw); go_simp; try (with_reducible rfl)))
                    | refine wpAnyH_take (i := 15) (oi := _) (v := undef) (by simp only [List.getElem?_toArray, List.getElem?_cons_succ, List.getElem?_cons_zero]; rfl) (by kernel_rfl) (by kernel_rfl) (by kernel_rfl) (by exact fun _ _ _ h => h) (Or.inr ⟨by rfl, rfl⟩) (by assumption) ?_
                  try simp only [Act.put, List.setIfInBounds_toArray, List.set_cons_zero, List.set_cons_succ]
                  first
                    | (refine wpAnyH_take (i := 16) (oi := _) (v := ?vop70) (by simp only [List.getElem?_toArray, List.getElem?_cons_succ, List.getElem?_cons_zero]; rfl) (by kernel_rfl) (by kernel_rfl) (by kernel_rfl) (by exact fun _ _ _ h => h) (Or.inl ⟨by rfl, ?hyop70⟩) (by assumption) ?restop70
                       case hyop70 => (intro w hSw; (try dsimp only at hSw); go_simp; try (with_reducible rfl)))
                    | refine wpAnyH_take (i := 16) (oi := _) (v := undef) (by simp only [List.getElem?_toArray, List.getElem?_cons_succ, List.getElem?_cons_zero]; rfl) (by kernel_rfl) (by kernel_rfl) (by kernel_rfl) (by exact fun _ _ _ h => h) (Or.inr ⟨by rfl, rfl⟩) (by assumption) ?_
                  try simp only [Act.put, List.setIfInBounds_toArray, List.set_cons_zero, List.set_cons_succ]
                  first
                    | (refine wpAnyH_take (i := 17) (oi := _) (v := ?vop71) (by simp only [List.getElem?_toArray, List.getElem?_cons_succ, List.getElem?_cons_zero]; rfl) (by kernel_rfl) (by kernel_rfl) (by kernel_rfl) (by exact fun _ _ _ h => h) (Or.inl ⟨by rfl, ?hyop71⟩) (by assumption) ?restop71
                       case hyop71 => (intro w hSw; (try dsimp only at hSw); go_simp; try (with_reducible rfl)))
                    | refine wpAnyH_take (i := 17) (oi := _) (v := undef) (by simp only [List.getElem?_toArray, List.getElem?_cons_succ, List.getElem?_cons_zero]; rfl) (by kernel_rfl) (by kernel_rfl) (by kernel_rfl) (by exact fun _ _ _ h => h) (Or.inr ⟨by rfl, rfl⟩) (by assumption) ?_
                  try simp only [Act.put, List.setIfInBounds_toArray, List.set_cons_zero, List.set_cons_succ]
                  first
                    | (refine wpAnyH_take (i := 18) (oi := _) (v := ?vop72) (by simp only [List.getElem?_toArray, List.getElem?_cons_succ, List.getElem?_cons_zero]; rfl) (by kernel_rfl) (by kernel_rfl) (by kernel_rfl) (by exact fun _ _ _ h => h) (Or.inl ⟨by rfl, ?hyop72⟩) (by assumption) ?restop72
                       case hyop72 => (intro w hSw; (try dsimp only at hSw); go_simp; try (with_reducible rfl)))
                    | refine wpAnyH_take (i := 18) (oi := _) (v := undef) (by simp only [List.getElem?_toArray, List.getElem?_cons_succ, List.getElem?_cons_zero]; rfl) (by kernel_rfl) (by kernel_rfl) (by kernel_rfl) (by exact fun _ _ _ h => h) (Or.inr ⟨by rfl, rfl⟩) (by assumption) ?_
                  try simp only [Act.put, List.setIfInBounds_toArray, List.set_cons_zero, List.set_cons_succ]
                  first
                    | (refine wpAnyH_take (i := 19) (oi := _) (v := ?vop73) (by simp only [List.getElem?_toArray, List.getElem?_cons_succ, List.getElem?_cons_zero]; rfl) (by kernel_rfl) (by kernel_rfl) (by kernel_rfl) (by exact fun _ _ _ h => h) (Or.inl ⟨by rfl, ?hyop73⟩) (by assumption) ?restop73
                       case hyop73 => (intro w hSw; (try dsimp only at hSw); go_simp; try (with_reducible rfl)))
                    | refine wpAnyH_take (i := 19) (oi := _) (v := undef) (by simp only [List.getElem?_toArray, List.getElem?_cons_succ, List.getElem?_cons_zero]; rfl) (by kernel_rfl) (by kernel_rfl) (by kernel_rfl) (by exact fun _ _ _ h => h) (Or.inr ⟨by rfl, rfl⟩) (by assumption) ?_
                  try simp only [Act.put, List.setIfInBounds_toArray, List.set_cons_zero, List.set_cons_succ]
                  first
                    | (refine wpAnyH_take (i := 20) (oi := _) (v := ?vop74) (by simp only [List.getElem?_toArray, List.getElem?_cons_succ, List.getElem?_cons_zero]; rfl) (by kernel_rfl) (by kernel_rfl) (by kernel_rfl) (by exact fun _ _ _ h => h) (Or.inl ⟨by rfl, ?hyop74⟩) (by assumption) ?restop74
                       case hyop74 => (intro w hSw; (try dsimp only at hSw); go_simp; try (with_reducible rfl)))
                    | refine wpAnyH_take (i := 20) (oi := _) (v := undef) (by simp only [List.getElem?_toArray, List.getElem?_cons_succ, List.getElem?_cons_zero]; rfl) (by kernel_rfl) (by kernel_rfl) (by kernel_rfl) (by exact fun _ _ _ h => h) (Or.inr ⟨by rfl, rfl⟩) (by assumption) ?_
                  try simp only [Act.put, List.setIfInBounds_toArray, List.set_cons_zero, List.set_cons_succ]
                  first
                    | (refine wpAnyH_take (i := 21) (oi := _) (v := ?vop75) (by simp only [List.getElem?_toArray, List.getElem?_cons_succ, List.getElem?_cons_zero]; rfl) (by kernel_rfl) (by kernel_rfl) (by kernel_rfl) (by exact fun _ _ _ h => h) (Or.inl ⟨by rfl, ?hyop75⟩) (by assumption) ?restop75
                       case hyop75 => (intro w hSw; (try dsimp only at hSw); go_simp; try (with_reducible rfl)))
                    | refine wpAnyH_take (i := 21) (oi := _) (v := undef) (by simp only [List.getElem?_toArray, List.getElem?_cons_succ, List.getElem?_cons_zero]; rfl) (by kernel_rfl) (by kernel_rfl) (by kernel_rfl) (by exact fun _ _ _ h => h) (Or.inr ⟨by rfl, rfl⟩) (by assumption) ?_
                  try simp only [Act.put, List.setIfInBounds_toArray, List.set_cons_zero, List.set_cons_succ]
                  first
                    | (refine wpAnyH_take (i := 22) (oi := _) (v := ?vop76) (by simp only [List.getElem?_toArray, List.getElem?_cons_succ, List.getElem?_cons_zero]; rfl) (by kernel_rfl) (by kernel_rfl) (by kernel_rfl) (by exact fun _ _ _ h => h) (Or.inl ⟨by rfl, ?hyop76⟩) (by assumption) ?restop76
                       case hyop76 => (intro w hSw; (try dsimp only at hSw); go_simp; try (with_reducible rfl)))
                    | refine wpAnyH_take (i := 22) (oi := _) (v := undef) (by simp only [List.getElem?_toArray, List.getElem?_cons_succ, List.getElem?_cons_zero]; rfl) (by kernel_rfl) (by kernel_rfl) (by kernel_rfl) (by exact fun _ _ _ h => h) (Or.inr ⟨by rfl, rfl⟩) (by assumption) ?_
                  try simp only [Act.put, List.setIfInBounds_toArray, List.set_cons_zero, List.set_cons_succ]
                  first
                    | (refine wpAnyH_take (i := 23) (oi := _) (v := ?vop77) (by simp only [List.getElem?_toArray, List.getElem?_cons_succ, List.getElem?_cons_zero]; rfl) (by kernel_rfl) (by kernel_rfl) (by kernel_rfl) (by exact fun _ _ _ h => h) (Or.inl ⟨by rfl, ?hyop77⟩) (by assumption) ?restop77
                       case hyop77 => (intro w hSw; (try dsimp only at hSw); go_simp; try (with_reducible rfl)))
                    | refine wpAnyH_take (i := 23) (oi := _) (v := undef) (by simp only [List.getElem?_toArray, List.getElem?_cons_succ, List.getElem?_cons_zero]; rfl) (by kernel_rfl) (by kernel_rfl) (by kernel_rfl) (by exact fun _ _ _ h => h) (Or.inr ⟨by rfl, rfl⟩) (by assumption) ?_
                  try simp only [Act.put, List.setIfInBounds_toArray, List.set_cons_zero, List.set_cons_succ]
                  refine wpAnyH_ready (rs := [24]) (by kernel_rfl) (by simp) ?_
                  refine AllReadyH.cons (o := _) (by simp only [List.getElem?_toArray, List.getElem?_cons_succ, List.getElem?_cons_zero]; rfl) ?_ AllReadyH.nil
                  intro K hK
                  go_simp
                  (go_at_call 21; refine (HR2.out _ ?_).mono ?_; (first | exact gz | exact gr_none gz (gr_drew _ _) | exact gr_none gz (gr_drewN _ _ _) | exact gr_refl _ _ | exact gr_drew _ _ | exact gr_drewN _ _ _); rintro e wz ⟨rfl, gz, kzwz⟩)
                  refine hK.out _ _ ?_ (fun hHeld2 => ?_)
                  · ((try dsimp only); go_keep)
                  clear hK K hHeld
                  have hHeld := hHeld2
                  clear hHeld2
                  try simp only [Act.put, List.setIfInBounds_toArray, List.set_cons_zero, List.set_cons_succ]
                  first
                    | (refine wpAnyH_take (i := 25) (oi := _) (v := ?vop78) (by simp only [List.getElem?_toArray, List.getElem?_cons_succ, List.getElem?_cons_zero]; rfl) (by kernel_rfl) (by kernel_rfl) (by kernel_rfl) (by exact fun _ _ _ h => h) (Or.inl ⟨by rfl, ?hyop78⟩) (by assumption) ?restop78
                       case hyop78 => (intro w hSw; (try dsimp only at hSw); go_simp; try (with_reducible rfl)))
                    | refine wpAnyH_take (i := 25) (oi := _) (v := undef) (by simp only [List.getElem?_toArray, List.getElem?_cons_succ, List.getElem?_cons_zero]; rfl) (by kernel_rfl) (by kernel_rfl) (by kernel_rfl) (by exact fun _ _ _ h => h) (Or.inr ⟨by rfl, rfl⟩) (by assumption) ?_
                  try simp only [Act.put, List.setIfInBounds_toArray, List.set_cons_zero, List.set_cons_succ]
                  first
                    | (refine wpAnyH_take (i := 26) (oi := _) (v := ?vop79) (by simp only [List.getElem?_toArray, List.getElem?_cons_succ, List.getElem?_cons_zero]; rfl) (by kernel_rfl) (by kernel_rfl) (by kernel_rfl) (by exact fun _ _ _ h => h) (Or.inl ⟨by rfl, ?hyop79⟩) (by assumption) ?restop79
                       case hyop79 => (intro w hSw; (try dsimp only at hSw); go_simp; try (with_reducible rfl)))
                    | refine wpAnyH_take (i := 26) (oi := _) (v := undef) (by simp only [List.getElem?_toArray, List.getElem?_cons_succ, List.getElem?_cons_zero]; rfl) (by kernel_rfl) (by kernel_rfl) (by kernel_rfl) (by exact fun _ _ _ h => h) (Or.inr ⟨by rfl, rfl⟩) (by assumption) ?_
                  try simp only [Act.put, List.setIfInBounds_toArray, List.set_cons_zero, List.set_cons_succ]
                  first
                    | (refine wpAnyH_take (i := 27) (oi := _) (v := ?vop80) (by simp only [List.getElem?_toArray, List.getElem?_cons_succ, List.getElem?_cons_zero]; rfl) (by kernel_rfl) (by kernel_rfl) (by kernel_rfl) (by exact fun _ _ _ h => h) (Or.inl ⟨by rfl, ?hyop80⟩) (by assumption) ?restop80
                       case hyop80 => (intro w hSw; (try dsimp only at hSw); go_simp; try (with_reducible rfl)))
                    | refine wpAnyH_take (i := 27) (oi := _) (v := undef) (by simp only [List.getElem?_toArray, List.getElem?_cons_succ, List.getElem?_cons_zero]; rfl) (by kernel_rfl) (by kernel_rfl) (by kernel_rfl) (by exact fun _ _ _ h => h) (Or.inr ⟨by rfl, rfl⟩) (by assumption) ?_
                  try simp only [Act.put, List.setIfInBounds_toArray, List.set_cons_zero, List.set_cons_succ]
                  first
                    | (refine wpAnyH_take (i := 28) (oi := _) (v := ?vop81) (by simp only [List.getElem?_toArray, List.getElem?_cons_succ, List.getElem?_cons_zero]; rfl) (by kernel_rfl) (by kernel_rfl) (by kernel_rfl) (by exact fun _ _ _ h => h) (Or.inl ⟨by rfl, ?hyop81⟩) (by assumption) ?restop81
                       case hyop81 => (intro w hSw; (try dsimp only at hSw); go_simp; try (with_reducible rfl)))
                    | refine wpAnyH_take (i := 28) (oi := _) (v := undef) (by simp only [List.getElem?_toArray, List.getElem?_cons_succ, List.getElem?_cons_zero]; rfl) (by kernel_rfl) (by kernel_rfl) (by kernel_rfl) (by exact fun _ _ _ h => h) (Or.inr ⟨by rfl, rfl⟩) (by assumption) ?_
                  try simp only [Act.put, List.setIfInBounds_toArray, List.set_cons_zero, List.set_cons_succ]
                  first
                    | (refine wpAnyH_take (i := 29) (oi := _) (v := ?vop82) (by simp only [List.getElem?_toArray, List.getElem?_cons_succ, List.getElem?_cons_zero]; rfl) (by kernel_rfl) (by kernel_rfl) (by kernel_rfl) (by exact fun _ _ _ h => h) (Or.inl ⟨by rfl, ?hyop82⟩) (by assumption) ?restop82
                       case hyop82 => (intro w hSw; (try dsimp only at hSw); go_simp; try (with_reducible rfl)))
                    | refine wpAnyH_take (i := 29) (oi := _) (v := undef) (by simp only [List.getElem?_toArray, List.getElem?_cons_succ, List.getElem?_cons_zero]; rfl) (by kernel_rfl) (by kernel_rfl) (by kernel_rfl) (by exact fun _ _ _ h => h) (Or.inr ⟨by rfl, rfl⟩) (by assumption) ?_
                  try simp only [Act.put, List.setIfInBounds_toArray, List.set_cons_zero, List.set_cons_succ]
                  first
                    | (refine wpAnyH_take (i := 30) (oi := _) (v := ?vop83) (by simp only [List.getElem?_toArray, List.getElem?_cons_succ, List.getElem?_cons_zero]; rfl) (by kernel_rfl) (by kernel_rfl) (by kernel_rfl) (by exact fun _ _ _ h => h) (Or.inl ⟨by rfl, ?hyop83⟩) (by assumption) ?restop83
                       case hyop83 => (intro w hSw; (try dsimp only at hSw); go_simp; try (with_reducible rfl)))
                    | refine wpAnyH_take (i := 30) (oi := _) (v := undef) (by simp only [List.getElem?_toArray, List.getElem?_cons_succ, List.getElem?_cons_zero]; rfl) (by kernel_rfl) (by kernel_rfl) (by kernel_rfl) (by exact fun _ _ _ h => h) (Or.inr ⟨by rfl, rfl⟩) (by assumption) ?_
                  try simp only [Act.put, List.setIfInBounds_toArray, List.set_cons_zero, List.set_cons_succ]
                  first
                    | (refine wpAnyH_take (i := 31) (oi := _) (v := ?vop84) (by simp only [List.getElem?_toArray, List.getElem?_cons_succ, List.getElem?_cons_zero]; rfl) (by kernel_rfl) (by kernel_rfl) (by kernel_rfl) (by exact fun _ _ _ h => h) (Or.inl ⟨by rfl, ?hyop84⟩) (by assumption) ?restop84
                       case hyop84 => (intro w hSw; (try dsimp only at hSw); go_simp; try (with_reducible rfl)))
                    | refine wpAnyH_take (i := 31) (oi := _) (v := undef) (by simp only [List.getElem?_toArray, List.getElem?_cons_succ, List.getElem?_cons_zero]; rfl) (by kernel_rfl) (by kernel_rfl) (by kernel_rfl) (by exact fun _ _ _ h => h) (Or.inr ⟨by rfl, rfl⟩) (by assumption) ?_
                  try simp only [Act.put, List.setIfInBounds_toArray, List.set_cons_zero, List.set_cons_succ]
                  first
                    | (refine wpAnyH_take (i := 32) (oi := _) (v := ?vop85) (by simp only [List.getElem?_toArray, List.getElem?_cons_succ, List.getElem?_cons_zero]; rfl) (by kernel_rfl) (by kernel_rfl) (by kernel_rfl) (by exact fun _ _ _ h => h) (Or.inl ⟨by rfl, ?hyop85⟩) (by assumption) ?restop85
                       case hyop85 => (intro w hSw; (try dsimp only at hSw); go_simp; try (with_reducible rfl)))
                    | refine wpAnyH_take (i := 32) (oi := _) (v := undef) (by simp only [List.getElem?_toArray, List.getElem?_cons_succ, List.getElem?_cons_zero]; rfl) (by kernel_rfl) (by kernel_rfl) (by kernel_rfl) (by exact fun _ _ _ h => h) (Or.inr ⟨by rfl, rfl⟩) (by assumption) ?_
                  try simp only [Act.put, List.setIfInBounds_toArray, List.set_cons_zero, List.set_cons_succ]
                  first
                    | (refine wpAnyH_take (i := 33) (oi := _) (v := ?vop86) (by simp only [List.getElem?_toArray, List.getElem?_cons_succ, List.getElem?_cons_zero]; rfl) (by kernel_rfl) (by kernel_rfl) (by kernel_rfl) (by exact fun _ _ _ h => h) (Or.inl ⟨by rfl, ?hyop86⟩) (by assumption) ?restop86
                       case hyop86 => (intro w hSw; (try dsimp only at hSw); go_simp; try (with_reducible rfl)))
                    | refine wpAnyH_take (i := 33) (oi := _) (v := undef) (by simp only [List.getElem?_toArray, List.getElem?_cons_succ, List.getElem?_cons_zero]; rfl) (by kernel_rfl) (by kernel_rfl) (by kernel_rfl) (by exact fun _ _ _ h => h) (Or.inr ⟨by rfl, rfl⟩) (by assumption) ?_
                  try simp only [Act.put, List.setIfInBounds_toArray, List.set_cons_zero, List.set_cons_succ]
                  first
                    | (refine wpAnyH_take (i := 34) (oi := _) (v := ?vop87) (by simp only [List.getElem?_toArray, List.getElem?_cons_succ, List.getElem?_cons_zero]; rfl) (by kernel_rfl) (by kernel_rfl) (by kernel_rfl) (by exact fun _ _ _ h => h) (Or.inl ⟨by rfl, ?hyop87⟩) (by assumption) ?restop87
                       case hyop87 => (intro w hSw; (try dsimp only at hSw); go_simp; try (with_reducible rfl)))
                    | refine wpAnyH_take (i := 34) (oi := _) (v := undef) (by simp only [List.getElem?_toArray, List.getElem?_cons_succ, List.getElem?_cons_zero]; rfl) (by kernel_rfl) (by kernel_rfl) (by kernel_rfl) (by exact fun _ _ _ h => h) (Or.inr ⟨by rfl, rfl⟩) (by assumption) ?_
                  try simp only [Act.put, List.setIfInBounds_toArray, List.set_cons_zero, List.set_cons_succ]
                  first
                    | (refine wpAnyH_take (i := 35) (oi := _) (v := ?vop88) (by simp only [List.getElem?_toArray, List.getElem?_cons_succ, List.getElem?_cons_zero]; rfl) (by kernel_rfl) (by kernel_rfl) (by kernel_rfl) (by exact fun _ _ _ h => h) (Or.inl ⟨by rfl, ?hyop88⟩) (by assumption) ?restop88
                       case hyop88 => (intro w hSw; (try dsimp only at hSw); go_simp; try (with_reducible rfl)))
                    | refine wpAnyH_take (i := 35) (oi := _) (v := undef) (by simp only [List.getElem?_toArray, List.getElem?_cons_succ, List.getElem?_cons_zero]; rfl) (by kernel_rfl) (by kernel_rfl) (by kernel_rfl) (by exact fun _ _ _ h => h) (Or.inr ⟨by rfl, rfl⟩) (by assumption) ?_
                  try simp only [Act.put, List.setIfInBounds_toArray, List.set_cons_zero, List.set_cons_succ]
                  refine wpAnyH_ready (rs := [36]) (by kernel_rfl) (by simp) ?_
                  refine AllReadyH.cons (o := _) (by simp only [List.getElem?_toArray, List.getElem?_cons_succ, List.getElem?_cons_zero]; rfl) ?_ AllReadyH.nil
                  intro K hK
                  go_simp
                  (go_at_call 22; refine (HR3.out _ ?_).mono ?_; (first | exact gz | exact gr_none gz (gr_drew _ _) | exact gr_none gz (gr_drewN _ _ _) | exact gr_refl _ _ | exact gr_drew _ _ | exact gr_drewN _ _ _); rintro e wz ⟨rfl, gz, kzwz⟩)
                  refine hK.out _ _ ?_ (fun hHeld2 => ?_)
                  · ((try dsimp only); go_keep)
                  clear hK K hHeld
                  have hHeld := hHeld2
                  clear hHeld2
                  try simp only [Act.put, List.setIfInBounds_toArray, List.set_cons_zero, List.set_cons_succ]
                  first
                    | (refine wpAnyH_take (i := 37) (oi := _) (v := ?vop89) (by simp only [List.getElem?_toArray, List.getElem?_cons_succ, List.getElem?_cons_zero]; rfl) (by kernel_rfl) (by kernel_rfl) (by kernel_rfl) (by exact fun _ _ _ h => h) (Or.inl ⟨by rfl, ?hyop89⟩) (by assumption) ?restop89
                       case hyop89 => (intro w hSw; (try dsimp only at hSw); go_simp; try (with_reducible rfl)))
                    | refine wpAnyH_take (i := 37) (oi := _) (v := undef) (by simp only [List.getElem?_toArray, List.getElem?_cons_succ, List.getElem?_cons_zero]; rfl) (by kernel_rfl) (by kernel_rfl) (by kernel_rfl) (by exact fun _ _ _ h => h) (Or.inr ⟨by rfl, rfl⟩) (by assumption) ?_
                  try simp only [Act.put, List.setIfInBounds_toArray, List.set_cons_zero, List.set_cons_succ]
                  first
                    | (refine wpAnyH_take (i := 38) (oi := _) (v := ?vop90) (by simp only [List.getElem?_toArray, List.getElem?_cons_succ, List.getElem?_cons_zero]; rfl) (by kernel_rfl) (by kernel_rfl) (by kernel_rfl) (by exact fun _ _ _ h => h) (Or.inl ⟨by rfl, ?hyop90⟩) (by assumption) ?restop90
                       case hyop90 => (intro w hSw; (try dsimp only at hSw); go_simp; try (with_reducible rfl)))
                    | refine wpAnyH_take (i := 38) (oi := _) (v := undef) (by simp only [List.getElem?_toArray, List.getElem?_cons_succ, List.getElem?_cons_zero]; rfl) (by kernel_rfl) (by kernel_rfl) (by kernel_rfl) (by exact fun _ _ _ h => h) (Or.inr ⟨by rfl, rfl⟩) (by assumption) ?_
                  try simp only [Act.put, List.setIfInBounds_toArray, List.set_cons_zero, List.set_cons_succ]
                  refine wpAnyH_done (by kernel_rfl) ?_ _
                  go_wp2
                  go_roundw
                  case rel => exact ⟨t + 1, f, by omega, rfl, by go_num, HN, gr_none HGQ.out (by first | exact gz | exact gr_none gz (gr_drew _ _) | exact gr_none gz (gr_drewN _ _ _) | exact gr_refl _ _ | exact gr_drew _ _ | exact gr_drewN _ _ _)⟩
                  case measure => simp [intOf]; omega
                · have HR3 := Lib.hid (HN3.out false (decide_eq_false ha).symm)
                  have HN : Hid (FirstIs false m (t + 1) ⟨xa, xb, xl⟩) := HYES.out ⟨HVN.out, .inr hn2, aheadD_not ha (fun e => HVN.out e.symm)⟩
                  clear ha hf HN1 HN2 HN3 HNO HYES
                  go_wp2_with fail
                  refine wp_region_held_drew (S := fun w' => w'.cell? ⟨g, off + k * 3, none⟩ = some (.int .u32 xa.toNat) ∧ w'.cell? ⟨g, off + k * 3 + 1, none⟩ = some (.int .u64 xb.toNat) ∧ w'.cell? ⟨g, off + k * 3 + 2, none⟩ = some (.slice A2 xl.length c2') ∧ w'.cell? ⟨g, off + t * 3, none⟩ = some (.int .u32 ya.toNat) ∧ w'.cell? ⟨g, off + t * 3 + 1, none⟩ = some (.int .u64 yb.toNat) ∧ w'.cell? ⟨g, off + t * 3 + 2, none⟩ = some (.slice A3 yl.length c3)) (by kernel_rfl) ?_ (fun hHeld => ?_)
                  · ((try dsimp only); go_keep)
                  first
                    | (refine wpAnyH_take (i := 0) (oi := _) (v := ?vop91) (by simp only [List.getElem?_toArray, List.getElem?_cons_zero]; rfl) (by kernel_rfl) (by kernel_rfl) (by kernel_rfl) (by exact fun _ _ _ h => h) (Or.inl ⟨by rfl, ?hyop91⟩) (by assumption) ?restop91
                       case hyop91 => (intro w hSw; (try dsimp only at hSw); go_simp; try (with_reducible rfl)))
                    | refine wpAnyH_take (i := 0) (oi := _) (v := undef) (by simp only [List.getElem?_toArray, List.getElem?_cons_zero]; rfl) (by kernel_rfl) (by kernel_rfl) (by kernel_rfl) (by exact fun _ _ _ h => h) (Or.inr ⟨by rfl, rfl⟩) (by assumption) ?_
                  try simp only [Act.put, List.setIfInBounds_toArray, List.set_cons_zero, List.set_cons_succ]
                  first
                    | (refine wpAnyH_take (i := 1) (oi := _) (v := ?vop92) (by simp only [List.getElem?_toArray, List.getElem?_cons_succ, List.getElem?_cons_zero]; rfl) (by kernel_rfl) (by kernel_rfl) (by kernel_rfl) (by exact fun _ _ _ h => h) (Or.inl ⟨by rfl, ?hyop92⟩) (by assumption) ?restop92
                       case hyop92 => (intro w hSw; (try dsimp only at hSw); go_simp; try (with_reducible rfl)))
                    | refine wpAnyH_take (i := 1) (oi := _) (v := undef) (by simp only [List.getElem?_toArray, List.getElem?_cons_succ, List.getElem?_cons_zero]; rfl) (by kernel_rfl) (by kernel_rfl) (by kernel_rfl) (by exact fun _ _ _ h => h) (Or.inr ⟨by rfl, rfl⟩) (by assumption) ?_
                  try simp only [Act.put, List.setIfInBounds_toArray, List.set_cons_zero, List.set_cons_succ]
                  first
                    | (refine wpAnyH_take (i := 2) (oi := _) (v := ?vop93) (by simp only [List.getElem?_toArray, List.getElem?_cons_succ, List.getElem?_cons_zero]; rfl) (by kernel_rfl) (by kernel_rfl) (by kernel_rfl) (by exact fun _ _ _ h => h) (Or.inl ⟨by rfl, ?hyop93⟩) (by assumption) ?restop93
                       case hyop93 => (intro w hSw; (try dsimp only at hSw); go_simp; try (with_reducible rfl)))
                    | refine wpAnyH_take (i := 2) (oi := _) (v := undef) (by simp only [List.getElem?_toArray, List.getElem?_cons_succ, List.getElem?_cons_zero]; rfl) (by kernel_rfl) (by kernel_rfl) (by kernel_rfl) (by exact fun _ _ _ h => h) (Or.inr ⟨by rfl, rfl⟩) (by assumption) ?_
                  try simp only [Act.put, List.setIfInBounds_toArray, List.set_cons_zero, List.set_cons_succ]
                  first
                    | (refine wpAnyH_take (i := 3) (oi := _) (v := ?vop94) (by simp only [List.getElem?_toArray, List.getElem?_cons_succ, List.getElem?_cons_zero]; rfl) (by kernel_rfl) (by kernel_rfl) (by kernel_rfl) (by exact fun _ _ _ h => h) (Or.inl ⟨by rfl, ?hyop94⟩) (by assumption) ?restop94
                       case hyop94 => (intro w hSw; (try dsimp only at hSw); go_simp; try (with_reducible rfl)))
                    | refine wpAnyH_take (i := 3) (oi := _) (v := undef) (by simp only [List.getElem?_toArray, List.getElem?_cons_succ, List.getElem?_cons_zero]; rfl) (by kernel_rfl) (by kernel_rfl) (by kernel_rfl) (by exact fun _ _ _ h => h) (Or.inr ⟨by rfl, rfl⟩) (by assumption) ?_
                  try simp only [Act.put, List.setIfInBounds_toArray, List.set_cons_zero, List.set_cons_succ]
                  first
                    | (refine wpAnyH_take (i := 4) (oi := _) (v := ?vop95) (by simp only [List.getElem?_toArray, List.getElem?_cons_succ, List.getElem?_cons_zero]; rfl) (by kernel_rfl) (by kernel_rfl) (by kernel_rfl) (by exact fun _ _ _ h => h) (Or.inl ⟨by rfl, ?hyop95⟩) (by assumption) ?restop95
                       case hyop95 => (intro w hSw; (try dsimp only at hSw); go_simp; try (with_reducible rfl)))
                    | refine wpAnyH_take (i := 4) (oi := _) (v := undef) (by simp only [List.getElem?_toArray, List.getElem?_cons_succ, List.getElem?_cons_zero]; rfl) (by kernel_rfl) (by kernel_rfl) (by kernel_rfl) (by exact fun _ _ _ h => h) (Or.inr ⟨by rfl, rfl⟩) (by assumption) ?_
                  try simp only [Act.put, List.setIfInBounds_toArray, List.set_cons_zero, List.set_cons_succ]
                  first
                    | (refine wpAnyH_take (i := 5) (oi := _) (v := ?vop96) (by simp only [List.getElem?_toArray, List.getElem?_cons_succ, List.getElem?_cons_zero]; rfl) (by kernel_rfl) (by kernel_rfl) (by kernel_rfl) (by exact fun _ _ _ h => h) (Or.inl ⟨by rfl, ?hyop96⟩) (by assumption) ?restop96
                       case hyop96 => (intro w hSw; (try dsimp only at hSw); go_simp; try (with_reducible rfl)))
                    | refine wpAnyH_take (i := 5) (oi := _) (v := undef) (by simp only [List.getElem?_toArray, List.getElem?_cons_succ, List.getElem?_cons_zero]; rfl) (by kernel_rfl) (by kernel_rfl) (by kernel_rfl) (by exact fun _ _ _ h => h) (Or.inr ⟨by rfl, rfl⟩) (by assumption) ?_
                  try simp only [Act.put, List.setIfInBounds_toArray, List.set_cons_zero, List.set_cons_succ]
                  first
                    | (refine wpAnyH_take (i := 6) (oi := _) (v := ?vop97) (by simp only [List.getElem?_toArray, List.getElem?_cons_succ, List.getElem?_cons_zero]; rfl) (by kernel_rfl) (by kernel_rfl) (by kernel_rfl) (by exact fun _ _ _ h => h) (Or.inl ⟨by rfl, ?hyop97⟩) (by assumption) ?restop97
                       case hyop97 => (intro w hSw; (try dsimp only at hSw); go_simp; try (with_reducible rfl)))
                    | refine wpAnyH_take (i := 6) (oi := _) (v := undef) (by simp only [List.getElem?_toArray, List.getElem?_cons_succ, List.getElem?_cons_zero]; rfl) (by kernel_rfl) (by kernel_rfl) (by kernel_rfl) (by exact fun _ _ _ h => h) (Or.inr ⟨by rfl, rfl⟩) (by assumption) ?_
                  try simp only [Act.put, List.setIfInBounds_toArray, List.set_cons_zero, List.set_cons_succ]
                  first
                    | (refine wpAnyH_take (i := 7) (oi := _) (v := ?vop98) (by simp only [List.getElem?_toArray, List.getElem?_cons_succ, List.getElem?_cons_zero]; rfl) (by kernel_rfl) (by kernel_rfl) (by kernel_rfl) (by exact fun _ _ _ h => h) (Or.inl ⟨by rfl, ?hyop98⟩) (by assumption) ?restop98
                       case hyop98 => (intro w hSw; (try dsimp only at hSw); go_simp; try (with_reducible rfl)))
                    | refine wpAnyH_take (i := 7) (oi := _) (v := undef) (by simp only [List.getElem?_toArray, List.getElem?_cons_succ, List.getElem?_cons_zero]; rfl) (by kernel_rfl) (by kernel_rfl) (by kernel_rfl) (by exact fun _ _ _ h => h) (Or.inr ⟨by rfl, rfl⟩) (by assumption) ?_
                  try simp only [Act.put, List.setIfInBounds_toArray, List.set_cons_zero, List.set_cons_succ]
                  first
                    | (refine wpAnyH_take (i := 8) (oi := _) (v := ?vop99) (by simp only [List.getElem?_toArray, List.getElem?_cons_succ, List.getElem?_cons_zero]; rfl) (by kernel_rfl) (by kernel_rfl) (by kernel_rfl) (by exact fun _ _ _ h => h) (Or.inl ⟨by rfl, ?hyop99⟩) (by assumption) ?restop99
                       case hyop99 => (intro w hSw; (try dsimp only at hSw); go_simp; try (with_reducible rfl)))
                    | refine wpAnyH_take (i := 8) (oi := _) (v := undef) (by simp only [List.getElem?_toArray, List.getElem?_cons_succ, List.getElem?_cons_zero]; rfl) (by kernel_rfl) (by kernel_rfl) (by kernel_rfl) (by exact fun _ _ _ h => h) (Or.inr ⟨by rfl, rfl⟩) (by assumption) ?_
                  try simp only [Act.put, List.setIfInBounds_toArray, List.set_cons_zero, List.set_cons_succ]
                  first
                    | (refine wpAnyH_take (i := 9) (oi := _) (v := ?vop100) (by simp only [List.getElem?_toArray, List.getElem?_cons_succ, List.getElem?_cons_zero]; rfl) (by kernel_rfl) (by kernel_rfl) (by kernel_rfl) (by exact fun _ _ _ h => h) (Or.inl ⟨by rfl, ?hyop100⟩) (by assumption) ?restop100
                       case hyop100 => (intro w hSw; (try dsimp only at hSw); go_simp; try (with_reducible rfl)))
                    | refine wpAnyH_take (i := 9) (oi := _) (v := undef) (by simp only [List.getElem?_toArray, List.getElem?_cons_succ, List.getElem?_cons_zero]; rfl) (by kernel_rfl) (by kernel_rfl) (by kernel_rfl) (by exact fun _ _ _ h => h) (Or.inr ⟨by rfl, rfl⟩) (by assumption) ?_
                  try simp only [Act.put, List.setIfInBounds_toArray, List.set_cons_zero, List.set_cons_succ]
                  first
                    | (refine wpAnyH_take (i := 10) (oi := _) (v := ?vop101) (by simp only [List.getElem?_toArray, List.getElem?_cons_succ, List.getElem?_cons_zero]; rfl) (by kernel_rfl) (by kernel_rfl) (by kernel_rfl) (by exact fun _ _ _ h => h) (Or.inl ⟨by rfl, ?hyop101⟩) (by assumption) ?restop101
                       case hyop101 => (intro w hSw; (try dsimp only at hSw); go_simp; try (with_reducible rfl)))
                    | refine wpAnyH_take (i := 10) (oi := _) (v := undef) (by simp only [List.getElem?_toArray, List.getElem?_cons_succ, List.getElem?_cons_zero]; rfl) (by kernel_rfl) (by kernel_rfl) (by kernel_rfl) (by exact fun _ _ _ h => h) (Or.inr ⟨by rfl, rfl⟩) (by assumption) ?_
                  try simp only [Act.put, List.setIfInBounds_toArray, List.set_cons_zero, List.set_cons_succ]
                  first
                    | (refine wpAnyH_take (i := 11) (oi := _) (v := ?vop102) (by simp only [List.getElem?_toArray, List.getElem?_cons_succ, List.getElem?_cons_zero]; rfl) (by kernel_rfl) (by kernel_rfl) (by kernel_rfl) (by exact fun _ _ _ h => h) (Or.inl ⟨by rfl, ?hyop102⟩) (by assumption) ?restop102
                       case hyop102 => (intro w hSw; (try dsimp only at hSw); go_simp; try (with_reducible rfl)))
                    | refine wpAnyH_take (i := 11) (oi := _) (v := undef) (by simp only [List.getElem?_toArray, List.getElem?_cons_succ, List.getElem?_cons_zero]; rfl) (by kernel_rfl) (by kernel_rfl) (by kernel_rfl) (by exact fun _ _ _ h => h) (Or.inr ⟨by rfl, rfl⟩) (by assumption) ?_
                  try simp only [Act.put, List.setIfInBounds_toArray, List.set_cons_zero, List.set_cons_succ]
                  first
                    | (refine wpAnyH_take (i := 12) (oi := _) (v := ?vop103) (by simp only [List.getElem?_toArray, List.getElem?_cons_succ, List.getElem?_cons_zero]; rfl) (by kernel_rfl) (by kernel_rfl) (by kernel_rfl) (by exact fun _ _ _ h => h) (Or.inl ⟨by rfl, ?hyop103⟩) (by assumption) ?restop103
                       case hyop103 => (intro w hSw; (try dsimp only at hSw); go_simp; try (with_reducible rfl)))
                    | refine wpAnyH_take (i := 12) (oi := _) (v := undef) (by simp only [List.getElem?_toArray, List.getElem?_cons_succ, List.getElem?_cons_zero]; rfl) (by kernel_rfl) (by kernel_rfl) (by kernel_rfl) (by exact fun _ _ _ h => h) (Or.inr ⟨by rfl, rfl⟩) (by assumption) ?_
                  try simp only [Act.put, List.setIfInBounds_toArray, List.set_cons_zero, List.set_cons_succ]
                  refine wpAnyH_ready (rs := [13]) (by kernel_rfl) (by simp) ?_
                  refine AllReadyH.cons (o := _) (by simp only [List.getElem?_toArray, List.getElem?_cons_succ, List.getElem?_cons_zero]; rfl) ?_ AllReadyH.nil
                  intro K hK
                  go_simp
                  (go_at_call 21; refine (HR1.out _ ?_).mono ?_; (first | exact gz | exact gr_none gz (gr_drew _ _) | exact gr_none gz (gr_drewN _ _ _) | exact gr_refl _ _ | exact gr_drew _ _ | exact gr_drewN _ _ _); rintro e wz ⟨rfl, gz, kzwz⟩)
                  refine hK.out _ _ ?_ (fun hHeld2 => ?_)
                  · ((try dsimp only); go_keep)
                  clear hK K hHeld
                  have hHeld := hHeld2
                  clear hHeld2
                  try simp only [Act.put, List.setIfInBounds_toArray, List.set_cons_zero, List.set_cons_succ]
                  first
                    | (refine wpAnyH_take (i := 14) (oi := _) (v := ?vop104) (by simp only [List.getElem?_toArray, List.getElem?_cons_succ, List.getElem?_cons_zero]; rfl) (by kernel_rfl) (by kernel_rfl) (by kernel_rfl) (by exact fun _ _ _ h => h) (Or.inl ⟨by rfl, ?hyop104⟩) (by assumption) ?restop104
                       case hyop104 => (intro w hSw; (try dsimp only at hSw); go_simp; try (with_reducible rfl)))
                    | refine wpAnyH_take (i := 14) (oi := _) (v := undef) (by simp only [List.getElem?_toArray, List.getElem?_cons_succ, List.getElem?_cons_zero]; rfl) (by kernel_rfl) (by kernel_rfl) (by kernel_rfl) (by exact fun _ _ _ h => h) (Or.inr ⟨by rfl, rfl⟩) (by assumption) ?_
                  try simp only [Act.put, List.setIfInBounds_toArray, List.set_cons_zero, List.set_cons_succ]
                  first
                    | (refine wpAnyH_take (i := 15) (oi := _) (v := ?vop105) (by simp only [List.getElem?_toArray, List.getElem?_cons_succ, List.getElem?_cons_zero]; rfl) (by kernel_rfl) (by kernel_rfl) (by kernel_rfl) (by exact fun _ _ _ h => h) (Or.inl ⟨by rfl, ?hyop105⟩) (by assumption) ?restop105
                       case hyop105 => (intro w hSw; (try dsimp only at hSw); go_simp; try (with_reducible rfl)))
                    | refine wpAnyH_take (i := 15) (oi := _) (v := undef) (by simp only [List.getElem?_toArray, List.getElem?_cons_succ, List.getElem?_cons_zero]; rfl) (by kernel_rfl) (by kernel_rfl) (by kernel_rfl) (by exact fun _ _ _ h => h) (Or.inr ⟨by rfl, rfl⟩) (by assumption) ?_
                  try simp only [Act.put, List.setIfInBounds_toArray, List.set_cons_zero, List.set_cons_succ]
                  first
                    | (refine wpAnyH_take (i := 16) (oi := _) (v := ?vop106) (by simp only [List.getElem?_toArray, List.getElem?_cons_succ, List.getElem?_cons_zero]; rfl) (by kernel_rfl) (by kernel_rfl) (by kernel_rfl) (by exact fun _ _ _ h => h) (Or.inl ⟨by rfl, ?hyop106⟩) (by assumption) ?restop106
                       case hyop106 => (intro w hSw; (try dsimp only at hSw); go_simp; try (with_reducible rfl)))
                    | refine wpAnyH_take (i := 16) (oi := _) (v := undef) (by simp only [List.getElem?_toArray, List.getElem?_cons_succ, List.getElem?_cons_zero]; rfl) (by kernel_rfl) (by kernel_rfl) (by kernel_rfl) (by exact fun _ _ _ h => h) (Or.inr ⟨by rfl, rfl⟩) (by assumption) ?_
                  try simp only [Act.put, List.setIfInBounds_toArray, List.set_cons_zero, List.set_cons_succ]
                  first
                    | (refine wpAnyH_take (i := 17) (oi := _) (v := ?vop107) (by simp only [List.getElem?_toArray, List.getElem?_cons_succ, List.getElem?_cons_zero]; rfl) (by kernel_rfl) (by kernel_rfl) (by kernel_rfl) (by exact fun _ _ _ h => h) (Or.inl ⟨by rfl, ?hyop107⟩) (by assumption) ?restop107
                       case hyop107 => (intro w hSw; (try dsimp only at hSw); go_simp; try (with_reducible rfl)))
                    | refine wpAnyH_take (i := 17) (oi := _) (v := undef) (by simp only [List.getElem?_toArray, List.getElem?_cons_succ, List.getElem?_cons_zero]; rfl) (by kernel_rfl) (by kernel_rfl) (by kernel_rfl) (by exact fun _ _ _ h => h) (Or.inr ⟨by rfl, rfl⟩) (by assumption) ?_
                  try simp only [Act.put, List.setIfInBounds_toArray, List.set_cons_zero, List.set_cons_succ]
                  first
                    | (refine wpAnyH_take (i := 18) (oi := _) (v := ?vop108) (by simp only [List.getElem?_toArray, List.getElem?_cons_succ, List.getElem?_cons_zero]; rfl) (by kernel_rfl) (by kernel_rfl) (by kernel_rfl) (by exact fun _ _ _ h => h) (Or.inl ⟨by rfl, ?hyop108⟩) (by assumption) ?restop108
                       case hyop108 => (intro w hSw; (try dsimp only at hSw); go_simp; try (with_reducible rfl)))
                    | refine wpAnyH_take (i := 18) (oi := _) (v := undef) (by simp only [List.getElem?_toArray, List.getElem?_cons_succ, List.getElem?_cons_zero]; rfl) (by kernel_rfl) (by kernel_rfl) (by kernel_rfl) (by exact fun _ _ _ h => h) (Or.inr ⟨by rfl, rfl⟩) (by assumption) ?_
                  try simp only [Act.put, List.setIfInBounds_toArray, List.set_cons_zero, List.set_cons_succ]
                  first
                    | (refine wpAnyH_take (i := 19) (oi := _) (v := ?vop109) (by simp only [List.getElem?_toArray, List.getElem?_cons_succ, List.getElem?_cons_zero]; rfl) (by kernel_rfl) (by kernel_rfl) (by kernel_rfl) (by exact fun _ _ _ h => h) (Or.inl ⟨by rfl, ?hyop109⟩) (by assumption) ?restop109
                       case hyop109 => (intro w hSw; (try dsimp only at hSw); go_simp; try (with_reducible rfl)))
                    | refine wpAnyH_take (i := 19) (oi := _) (v := undef) (by simp only [List.getElem?_toArray, List.getElem?_cons_succ, List.getElem?_cons_zero]; rfl) (by kernel_rfl) (by kernel_rfl) (by kernel_rfl) (by exact fun _ _ _ h => h) (Or.inr ⟨by rfl, rfl⟩) (by assumption) ?_
                  try simp only [Act.put, List.setIfInBounds_toArray, List.set_cons_zero, List.set_cons_succ]
                  first
                    | (refine wpAnyH_take (i := 20) (oi := _) (v := ?vop110) (by simp only [List.getElem?_toArray, List.getElem?_cons_succ, List.getElem?_cons_zero]; rfl) (by kernel_rfl) (by kernel_rfl) (by kernel_rfl) (by exact fun _ _ _ h => h) (Or.inl ⟨by rfl, ?hyop110⟩) (by assumption) ?restop110
                       case hyop110 => (intro w hSw; (try dsimp only at hSw); go_simp; try (with_reducible rfl)))
                    | refine wpAnyH_take (i := 20) (oi := _) (v := undef) (by simp only [List.getElem?_toArray, List.getElem?_cons_succ, List.getElem?_cons_zero]; rfl) (by kernel_rfl) (by kernel_rfl) (by kernel_rfl) (by exact fun _ _ _ h => h) (Or.inr ⟨by rfl, rfl⟩) (by assumption) ?_
                  try simp only [Act.put, List.setIfInBounds_toArray, List.set_cons_zero, List.set_cons_succ]
                  first
                    | (refine wpAnyH_take (i := 21) (oi := _) (v := ?vop111) (by simp only [List.getElem?_toArray, List.getElem?_cons_succ, List.getElem?_cons_zero]; rfl) (by kernel_rfl) (by kernel_rfl) (by kernel_rfl) (by exact fun _ _ _ h => h) (Or.inl ⟨by rfl, ?hyop111⟩) (by assumption) ?restop111
                       case hyop111 => (intro w hSw; (try dsimp only at hSw); go_simp; try (with_reducible rfl)))
                    | refine wpAnyH_take (i := 21) (oi := _) (v := undef) (by simp only [List.getElem?_toArray, List.getElem?_cons_succ, List.getElem?_cons_zero]; rfl) (by kernel_rfl) (by kernel_rfl) (by kernel_rfl) (by exact fun _ _ _ h => h) (Or.inr ⟨by rfl, rfl⟩) (by assumption) ?_
                  try simp only [Act.put, List.setIfInBounds_toArray, List.set_cons_zero, List.set_cons_succ]
                  first
                    | (refine wpAnyH_take (i := 22) (oi := _) (v := ?vop112) (by simp only [List.getElem?_toArray, List.getElem?_cons_succ, List.getElem?_cons_zero]; rfl) (by kernel_rfl) (by kernel_rfl) (by kernel_rfl) (by exact fun _ _ _ h => h) (Or.inl ⟨by rfl, ?hyop112⟩) (by assumption) ?restop112
                       case hyop112 => (intro w hSw; (try dsimp only at hSw); go_simp; try (with_reducible rfl)))
                    | refine wpAnyH_take (i := 22) (oi := _) (v := undef) (by simp only [List.getElem?_toArray, List.getElem?_cons_succ, List.getElem?_cons_zero]; rfl) (by kernel_rfl) (by kernel_rfl) (by kernel_rfl) (by exact fun _ _ _ h => h) (Or.inr ⟨by rfl, rfl⟩) (by assumption) ?_
                  try simp only [Act.put, List.setIfInBounds_toArray, List.set_cons_zero, List.set_cons_succ]
                  first
                    | (refine wpAnyH_take (i := 23) (oi := _) (v := ?vop113) (by simp only [List.getElem?_toArray, List.getElem?_cons_succ, List.getElem?_cons_zero]; rfl) (by kernel_rfl) (by kernel_rfl) (by kernel_rfl) (by exact fun _ _ _ h => h) (Or.inl ⟨by rfl, ?hyop113⟩) (by assumption) ?restop113
                       case hyop113 => (intro w hSw; (try dsimp only at hSw); go_simp; try (with_reducible rfl)))
                    | refine wpAnyH_take (i := 23) (oi := _) (v := undef) (by simp only [List.getElem?_toArray, List.getElem?_cons_succ, List.getElem?_cons_zero]; rfl) (by kernel_rfl) (by kernel_rfl) (by kernel_rfl) (by exact fun _ _ _ h => h) (Or.inr ⟨by rfl, rfl⟩) (by assumption) ?_
                  try simp only [Act.put, List.setIfInBounds_toArray, List.set_cons_zero, List.set_cons_succ]
                  refine wpAnyH_ready (rs := [24]) (by kernel_rfl) (by simp) ?_
                  refine AllReadyH.cons (o := _) (by simp only [List.getElem?_toArray, List.getElem?_cons_succ, List.getElem?_cons_zero]; rfl) ?_ AllReadyH.nil
                  intro K hK
                  go_simp
                  (go_at_call 21; refine (HR2.out _ ?_).mono ?_; (first | exact gz | exact gr_none gz (gr_drew _ _) | exact gr_none gz (gr_drewN _ _ _) | exact gr_refl _ _ | exact gr_drew _ _ | exact gr_drewN _ _ _); rintro e wz ⟨rfl, gz, kzwz⟩)
                  refine hK.out _ _ ?_ (fun hHeld2 => ?_)
                  · ((try dsimp only); go_keep)
                  clear hK K hHeld
                  have hHeld := hHeld2
                  clear hHeld2
                  try simp only [Act.put, List.setIfInBounds_toArray, List.set_cons_zero, List.set_cons_succ]
                  first
                    | (refine wpAnyH_take (i := 25) (oi := _) (v := ?vop114) (by simp only [List.getElem?_toArray, List.getElem?_cons_succ, List.getElem?_cons_zero]; rfl) (by kernel_rfl) (by kernel_rfl) (by kernel_rfl) (by exact fun _ _ _ h => h) (Or.inl ⟨by rfl, ?hyop114⟩) (by assumption) ?restop114
                       case hyop114 => (intro w hSw; (try dsimp only at hSw); go_simp; try (with_reducible rfl)))
                    | refine wpAnyH_take (i := 25) (oi := _) (v := undef) (by simp only [List.getElem?_toArray, List.getElem?_cons_succ, List.getElem?_cons_zero]; rfl) (by kernel_rfl) (by kernel_rfl) (by kernel_rfl) (by exact fun _ _ _ h => h) (Or.inr ⟨by rfl, rfl⟩) (by assumption) ?_
                  try simp only [Act.put, List.setIfInBounds_toArray, List.set_cons_zero, List.set_cons_succ]
                  first
                    | (refine wpAnyH_take (i := 26) (oi := _) (v := ?vop115) (by simp only [List.getElem?_toArray, List.getElem?_cons_succ, List.getElem?_cons_zero]; rfl) (by kernel_rfl) (by kernel_rfl) (by kernel_rfl) (by exact fun _ _ _ h => h) (Or.inl ⟨by rfl, ?hyop115⟩) (by assumption) ?restop115
                       case hyop115 => (intro w hSw; (try dsimp only at hSw); go_simp; try (with_reducible rfl)))
                    | refine wpAnyH_take (i := 26) (oi := _) (v := undef) (by simp only [List.getElem?_toArray, List.getElem?_cons_succ, List.getElem?_cons_zero]; rfl) (by kernel_rfl) (by kernel_rfl) (by kernel_rfl) (by exact fun _ _ _ h => h) (Or.inr ⟨by rfl, rfl⟩) (by assumption) ?_
                  try simp only [Act.put, List.setIfInBounds_toArray, List.set_cons_zero, List.set_cons_succ]
                  first
                    | (refine wpAnyH_take (i := 27) (oi := _) (v := ?vop116) (by simp only [List.getElem?_toArray, List.getElem?_cons_succ, List.getElem?_cons_zero]; rfl) (by kernel_rfl) (by kernel_rfl) (by kernel_rfl) (by exact fun _ _ _ h => h) (Or.inl ⟨by rfl, ?hyop116⟩) (by assumption) ?restop116
                       case hyop116 => (intro w hSw; (try dsimp only at hSw); go_simp; try (with_reducible rfl)))
                    | refine wpAnyH_take (i := 27) (oi := _) (v := undef) (by simp only [List.getElem?_toArray, List.getElem?_cons_succ, List.getElem?_cons_zero]; rfl) (by kernel_rfl) (by kernel_rfl) (by kernel_rfl) (by exact fun _ _ _ h => h) (Or.inr ⟨by rfl, rfl⟩) (by assumption) ?_
                  try simp only [Act.put, List.setIfInBounds_toArray, List.set_cons_zero, List.set_cons_succ]
                  first
                    | (refine wpAnyH_take (i := 28) (oi := _) (v := ?vop117) (by simp only [List.getElem?_toArray, List.getElem?_cons_succ, List.getElem?_cons_zero]; rfl) (by kernel_rfl) (by kernel_rfl) (by kernel_rfl) (by exact fun _ _ _ h => h) (Or.inl ⟨by rfl, ?hyop117⟩) (by assumption) ?restop117
                       case hyop117 => (intro w hSw; (try dsimp only at hSw); go_simp; try (with_reducible rfl)))
                    | refine wpAnyH_take (i := 28) (oi := _) (v := undef) (by simp only [List.getElem?_toArray, List.getElem?_cons_succ, List.getElem?_cons_zero]; rfl) (by kernel_rfl) (by kernel_rfl) (by kernel_rfl) (by exact fun _ _ _ h => h) (Or.inr ⟨by rfl, rfl⟩) (by assumption) ?_
                  try simp only [Act.put, List.setIfInBounds_toArray, List.set_cons_zero, List.set_cons_succ]
                  first
                    | (refine wpAnyH_take (i := 29) (oi := _) (v := ?vop118) (by simp only [List.getElem?_toArray, List.getElem?_cons_succ, List.getElem?_cons_zero]; rfl) (by kernel_rfl) (by kernel_rfl) (by kernel_rfl) (by exact fun _ _ _ h => h) (Or.inl ⟨by rfl, ?hyop118⟩) (by assumption) ?restop118
                       case hyop118 => (intro w hSw; (try dsimp only at hSw); go_simp; try (with_reducible rfl)))
                    | refine wpAnyH_take (i := 29) (oi := _) (v := undef) (by simp only [List.getElem?_toArray, List.getElem?_cons_succ, List.getElem?_cons_zero]; rfl) (by kernel_rfl) (by kernel_rfl) (by kernel_rfl) (by exact fun _ _ _ h => h) (Or.inr ⟨by rfl, rfl⟩) (by assumption) ?_
                  try simp only [Act.put, List.setIfInBounds_toArray, List.set_cons_zero, List.set_cons_succ]
                  first
                    | (refine wpAnyH_take (i := 30) (oi := _) (v := ?vop119) (by simp only [List.getElem?_toArray, List.getElem?_cons_succ, List.getElem?_cons_zero]; rfl) (by kernel_rfl) (by kernel_rfl) (by kernel_rfl) (by exact fun _ _ _ h => h) (Or.inl ⟨by rfl, ?hyop119⟩) (by assumption) ?restop119
                       case hyop119 => (intro w hSw; (try dsimp only at hSw); go_simp; try (with_reducible rfl)))
                    | refine wpAnyH_take (i := 30) (oi := _) (v := undef) (by simp only [List.getElem?_toArray, List.getElem?_cons_succ, List.getElem?_cons_zero]; rfl) (by kernel_rfl) (by kernel_rfl) (by kernel_rfl) (by exact fun _ _ _ h => h) (Or.inr ⟨by rfl, rfl⟩) (by assumption) ?_
                  try simp only [Act.put, List.setIfInBounds_toArray, List.set_cons_zero, List.set_cons_succ]
                  first
                    | (refine wpAnyH_take (i := 31) (oi := _) (v := ?vop120) (by simp only [List.getElem?_toArray, List.getElem?_cons_succ, List.getElem?_cons_zero]; rfl) (by kernel_rfl) (by kernel_rfl) (by kernel_rfl) (by exact fun _ _ _ h => h) (Or.inl ⟨by rfl, ?hyop120⟩) (by assumption) ?restop120
                       case hyop120 => (intro w hSw; (try dsimp only at hSw); go_simp; try (with_reducible rfl)))
                    | refine wpAnyH_take (i := 31) (oi := _) (v := undef) (by simp only [List.getElem?_toArray, List.getElem?_cons_succ, List.getElem?_cons_zero]; rfl) (by kernel_rfl) (by kernel_rfl) (by kernel_rfl) (by exact fun _ _ _ h => h) (Or.inr ⟨by rfl, rfl⟩) (by assumption) ?_
                  try simp only [Act.put, List.setIfInBounds_toArray, List.set_cons_zero, List.set_cons_succ]
                  first
                    | (refine wpAnyH_take (i := 32) (oi := _) (v := ?vop121) (by simp only [List.getElem?_toArray, List.getElem?_cons_succ, List.getElem?_cons_zero]; rfl) (by kernel_rfl) (by kernel_rfl) (by kernel_rfl) (by exact fun _ _ _ h => h) (Or.inl ⟨by rfl, ?hyop121⟩) (by assumption) ?restop121
                       case hyop121 => (intro w hSw; (try dsimp only at hSw); go_simp; try (with_reducible rfl)))
                    | refine wpAnyH_take (i := 32) (oi := _) (v := undef) (by simp only [List.getElem?_toArray, List.getElem?_cons_succ, List.getElem?_cons_zero]; rfl) (by kernel_rfl) (by kernel_rfl) (by kernel_rfl) (by exact fun _ _ _ h => h) (Or.inr ⟨by rfl, rfl⟩) (by assumption) ?_
                  try simp only [Act.put, List.setIfInBounds_toArray, List.set_cons_zero, List.set_cons_succ]
                  first
                    | (refine wpAnyH_take (i := 33) (oi := _) (v := ?vop122) (by simp only [List.getElem?_toArray, List.getElem?_cons_succ, List.getElem?_cons_zero]; rfl) (by kernel_rfl) (by kernel_rfl) (by kernel_rfl) (by exact fun _ _ _ h => h) (Or.inl ⟨by rfl, ?hyop122⟩) (by assumption) ?restop122
                       case hyop122 => (intro w hSw; (try dsimp only at hSw); go_simp; try (with_reducible rfl)))
                    | refine wpAnyH_take (i := 33) (oi := _) (v := undef) (by simp only [List.getElem?_toArray, List.getElem?_cons_succ, List.getElem?_cons_zero]; rfl) (by kernel_rfl) (by kernel_rfl) (by kernel_rfl) (by exact fun _ _ _ h => h) (Or.inr ⟨by rfl, rfl⟩) (by assumption) ?_
                  try simp only [Act.put, List.setIfInBounds_toArray, List.set_cons_zero, List.set_cons_succ]
                  first
                    | (refine wpAnyH_take (i := 34) (oi := _) (v := ?vop123) (by simp only [List.getElem?_toArray, List.getElem?_cons_succ, List.getElem?_cons_zero]; rfl) (by kernel_rfl) (by kernel_rfl) (by kernel_rfl) (by exact fun _ _ _ h => h) (Or.inl ⟨by rfl, ?hyop123⟩) (by assumption) ?restop123
                       case hyop123 => (intro w hSw; (try dsimp only at hSw); go_simp; try (with_reducible rfl)))
                    | refine wpAnyH_take (i := 34) (oi := _) (v := undef) (by simp only [List.getElem?_toArray, List.getElem?_cons_succ, List.getElem?_cons_zero]; rfl) (by kernel_rfl) (by kernel_rfl) (by kernel_rfl) (by exact fun _ _ _ h => h) (Or.inr ⟨by rfl, rfl⟩) (by assumption) ?_
                  try simp only [Act.put, List.setIfInBounds_toArray, List.set_cons_zero, List.set_cons_succ]
                  first
                    | (refine wpAnyH_take (i := 35) (oi := _) (v := ?vop124) (by simp only [List.getElem?_toArray, List.getElem?_cons_succ, List.getElem?_cons_zero]; rfl) (by kernel_rfl) (by kernel_rfl) (by kernel_rfl) (by exact fun _ _ _ h => h) (Or.inl ⟨by rfl, ?hyop124⟩) (by assumption) ?restop124
                       case hyop124 => (intro w hSw; (try dsimp only at hSw); go_simp; try (with_reducible rfl)))
                    | refine wpAnyH_take (i := 35) (oi := _) (v := undef) (by simp only [List.getElem?_toArray, List.getElem?_cons_succ, List.getElem?_cons_zero]; rfl) (by kernel_rfl) (by kernel_rfl) (by kernel_rfl) (by exact fun _ _ _ h => h) (Or.inr ⟨by rfl, rfl⟩) (by assumption) ?_
                  try simp only [Act.put, List.setIfInBounds_toArray, List.set_cons_zero, List.set_cons_succ]
                  refine wpAnyH_ready (rs := [36]) (by kernel_rfl) (by simp) ?_
                  refine AllReadyH.cons (o := _) (by simp only [List.getElem?_toArray, List.getElem?_cons_succ, List.getElem?_cons_zero]; rfl) ?_ AllReadyH.nil
                  intro K hK
                  go_simp
                  (go_at_call 22; refine (HR3.out _ ?_).mono ?_; (first | exact gz | exact gr_none gz (gr_drew _ _) | exact gr_none gz (gr_drewN _ _ _) | exact gr_refl _ _ | exact gr_drew _ _ | exact gr_drewN _ _ _); rintro e wz ⟨rfl, gz, kzwz⟩)
                  refine hK.out _ _ ?_ (fun hHeld2 => ?_)
                  · ((try dsimp only); go_keep)
                  clear hK K hHeld
                  have hHeld := hHeld2
                  clear hHeld2
                  try simp only [Act.put, List.setIfInBounds_toArray, List.set_cons_zero, List.set_cons_succ]
                  first
                    | (refine wpAnyH_take (i := 37) (oi := _) (v := ?vop125) (by simp only [List.getElem?_toArray, List.getElem?_cons_succ, List.getElem?_cons_zero]; rfl) (by kernel_rfl) (by kernel_rfl) (by kernel_rfl) (by exact fun _ _ _ h => h) (Or.inl ⟨by rfl, ?hyop125⟩) (by assumption) ?restop125
                       case hyop125 => (intro w hSw; (try dsimp only at hSw); go_simp; try (with_reducible rfl)))
                    | refine wpAnyH_take (i := 37) (oi := _) (v := undef) (by simp only [List.getElem?_toArray, List.getElem?_cons_succ, List.getElem?_cons_zero]; rfl) (by kernel_rfl) (by kernel_rfl) (by kernel_rfl) (by exact fun _ _ _ h => h) (Or.inr ⟨by rfl, rfl⟩) (by assumption) ?_
                  try simp only [Act.put, List.setIfInBounds_toArray, List.set_cons_zero, List.set_cons_succ]
                  first
                    | (refine wpAnyH_take (i := 38) (oi := _) (v := ?vop126) (by simp only [List.getElem?_toArray, List.getElem?_cons_succ, List.getElem?_cons_zero]; rfl) (by kernel_rfl) (by kernel_rfl) (by kernel_rfl) (by exact fun _ _ _ h => h) (Or.inl ⟨by rfl, ?hyop126⟩) (by assumption) ?restop126
                       case hyop126 => (intro w hSw; (try dsimp only at hSw); go_simp; try (with_reducible rfl)))
                    | refine wpAnyH_take (i := 38) (oi := _) (v := undef) (by simp only [List.getElem?_toArray, List.getElem?_cons_succ, List.getElem?_cons_zero]; rfl) (by kernel_rfl) (by kernel_rfl) (by kernel_rfl) (by exact fun _ _ _ h => h) (Or.inr ⟨by rfl, rfl⟩) (by assumption) ?_
                  try simp only [Act.put, List.setIfInBounds_toArray, List.set_cons_zero, List.set_cons_succ]
                  refine wpAnyH_done (by kernel_rfl) ?_ _
                  go_wp2
                  go_roundw
                  case rel => exact ⟨t + 1, false, by omega, rfl, by go_num, HN, gr_none HGQ.out (by first | exact gz | exact gr_none gz (gr_drew _ _) | exact gr_none gz (gr_drewN _ _ _) | exact gr_refl _ _ | exact gr_drew _ _ | exact gr_drewN _ _ _)⟩
                  case measure => simp [intOf]; omega
              · have HR2 := Lib.hid (HN2.out false (decide_eq_false hn2).symm)
                have HN : Hid (FirstIs f m (t + 1) ⟨xa, xb, xl⟩) := HNO.out (fun h => h.2.1.elim hn1 hn2)
                clear hf HN1 HN2 HN3 HNO HYES
                go_wp2_with fail
                refine wp_region_held_drew (S := fun w' => w'.cell? ⟨g, off + k * 3, none⟩ = some (.int .u32 xa.toNat) ∧ w'.cell? ⟨g, off + k * 3 + 1, none⟩ = some (.int .u64 xb.toNat) ∧ w'.cell? ⟨g, off + k * 3 + 2, none⟩ = some (.slice A2 xl.length c2') ∧ w'.cell? ⟨g, off + t * 3, none⟩ = some (.int .u32 ya.toNat) ∧ w'.cell? ⟨g, off + t * 3 + 1, none⟩ = some (.int .u64 yb.toNat) ∧ w'.cell? ⟨g, off + t * 3 + 2, none⟩ = some (.slice A3 yl.length c3)) (by kernel_rfl) ?_ (fun hHeld => ?_)
                · ((try dsimp only); go_keep)
                first
                  | (refine wpAnyH_take (i := 0) (oi := _) (v := ?vop127) (by simp only [List.getElem?_toArray, List.getElem?_cons_zero]; rfl) (by kernel_rfl) (by kernel_rfl) (by kernel_rfl) (by exact fun _ _ _ h => h) (Or.inl ⟨by rfl, ?hyop127⟩) (by assumption) ?restop127
                     case hyop127 => (intro w hSw; (try dsimp only at hSw); go_simp; try (with_reducible rfl)))
                  | refine wpAnyH_take (i := 0) (oi := _) (v := undef) (by simp only [List.getElem?_toArray, List.getElem?_cons_zero]; rfl) (by kernel_rfl) (by kernel_rfl) (by kernel_rfl) (by exact fun _ _ _ h => h) (Or.inr ⟨by rfl, rfl⟩) (by assumption) ?_
                try simp only [Act.put, List.setIfInBounds_toArray, List.set_cons_zero, List.set_cons_succ]
                first
                  | (refine wpAnyH_take (i := 1) (oi := _) (v := ?vop128) (by simp only [List.getElem?_toArray, List.getElem?_cons_succ, List.getElem?_cons_zero]; rfl) (by kernel_rfl) (by kernel_rfl) (by kernel_rfl) (by exact fun _ _ _ h => h) (Or.inl ⟨by rfl, ?hyop128⟩) (by assumption) ?restop128
                     case hyop128 => (intro w hSw; (try dsimp only at hSw); go_simp; try (with_reducible rfl)))
                  | refine wpAnyH_take (i := 1) (oi := _) (v := undef) (by simp only [List.getElem?_toArray, List.getElem?_cons_succ, List.getElem?_cons_zero]; rfl) (by kernel_rfl) (by kernel_rfl) (by kernel_rfl) (by exact fun _ _ _ h => h) (Or.inr ⟨by rfl, rfl⟩) (by assumption) ?_
                try simp only [Act.put, List.setIfInBounds_toArray, List.set_cons_zero, List.set_cons_succ]
                first
                  | (refine wpAnyH_take (i := 2) (oi := _) (v := ?vop129) (by simp only [List.getElem?_toArray, List.getElem?_cons_succ, List.getElem?_cons_zero]; rfl) (by kernel_rfl) (by kernel_rfl) (by kernel_rfl) (by exact fun _ _ _ h => h) (Or.inl ⟨by rfl, ?hyop129⟩) (by assumption) ?restop129
                     case hyop129 => (intro w hSw; (try dsimp only at hSw); go_simp; try (with_reducible rfl)))
                  | refine wpAnyH_take (i := 2) (oi := _) (v := undef) (by simp only [List.getElem?_toArray, List.getElem?_cons_succ, List.getElem?_cons_zero]; rfl) (by kernel_rfl) (by kernel_rfl) (by kernel_rfl) (by exact fun _ _ _ h => h) (Or.inr ⟨by rfl, rfl⟩) (by assumption) ?_
                try simp only [Act.put, List.setIfInBounds_toArray, List.set_cons_zero, List.set_cons_succ]
                first
                  | (refine wpAnyH_take (i := 3) (oi := _) (v := ?vop130) (by simp only [List.getElem?_toArray, List.getElem?_cons_succ, List.getElem?_cons_zero]; rfl) (by kernel_rfl) (by kernel_rfl) (by kernel_rfl) (by exact fun _ _ _ h => h) (Or.inl ⟨by rfl, ?hyop130⟩) (by assumption) ?restop130
                     case hyop130 => (intro w hSw; (try dsimp only at hSw); go_simp; try (with_reducible rfl)))
                  | refine wpAnyH_take (i := 3) (oi := _) (v := undef) (by simp only [List.getElem?_toArray, List.getElem?_cons_succ, List.getElem?_cons_zero]; rfl) (by kernel_rfl) (by kernel_rfl) (by kernel_rfl) (by exact fun _ _ _ h => h) (Or.inr ⟨by rfl, rfl⟩) (by assumption) ?_
                try simp only [Act.put, List.setIfInBounds_toArray, List.set_cons_zero, List.set_cons_succ]
                first
                  | (refine wpAnyH_take (i := 4) (oi := _) (v := ?vop131) (by simp only [List.getElem?_toArray, List.getElem?_cons_succ, List.getElem?_cons_zero]; rfl) (by kernel_rfl) (by kernel_rfl) (by kernel_rfl) (by exact fun _ _ _ h => h) (Or.inl ⟨by rfl, ?hyop131⟩) (by assumption) ?restop131
                     case hyop131 => (intro w hSw; (try dsimp only at hSw); go_simp; try (with_reducible rfl)))
                  | refine wpAnyH_take (i := 4) (oi := _) (v := undef) (by simp only [List.getElem?_toArray, List.getElem?_cons_succ, List.getElem?_cons_zero]; rfl) (by kernel_rfl) (by kernel_rfl) (by kernel_rfl) (by exact fun _ _ _ h => h) (Or.inr ⟨by rfl, rfl⟩) (by assumption) ?_
                try simp only [Act.put, List.setIfInBounds_toArray, List.set_cons_zero, List.set_cons_succ]
                first
                  | (refine wpAnyH_take (i := 5) (oi := _) (v := ?vop132) (by simp only [List.getElem?_toArray, List.getElem?_cons_succ, List.getElem?_cons_zero]; rfl) (by kernel_rfl) (by kernel_rfl) (by kernel_rfl) (by exact fun _ _ _ h => h) (Or.inl ⟨by rfl, ?hyop132⟩) (by assumption) ?restop132
                     case hyop132 => (intro w hSw; (try dsimp only at hSw); go_simp; try (with_reducible rfl)))
                  | refine wpAnyH_take (i := 5) (oi := _) (v := undef) (by simp only [List.getElem?_toArray, List.getElem?_cons_succ, List.getElem?_cons_zero]; rfl) (by kernel_rfl) (by kernel_rfl) (by kernel_rfl) (by exact fun _ _ _ h => h) (Or.inr ⟨by rfl, rfl⟩) (by assumption) ?_
                try simp only [Act.put, List.setIfInBounds_toArray, List.set_cons_zero, List.set_cons_succ]
                first
                  | (refine wpAnyH_take (i := 6) (oi := _) (v := ?vop133) (by simp only [List.getElem?_toArray, List.getElem?_cons_succ, List.getElem?_cons_zero]; rfl) (by kernel_rfl) (by kernel_rfl) (by kernel_rfl) (by exact fun _ _ _ h => h) (Or.inl ⟨by rfl, ?hyop133⟩) (by assumption) ?restop133
                     case hyop133 => (intro w hSw; (try dsimp only at hSw); go_simp; try (with_reducible rfl)))
                  | refine wpAnyH_take (i := 6) (oi := _) (v := undef) (by simp only [List.getElem?_toArray, List.getElem?_cons_succ, List.getElem?_cons_zero]; rfl) (by kernel_rfl) (by kernel_rfl) (by kernel_rfl) (by exact fun _ _ _ h => h) (Or.inr ⟨by rfl, rfl⟩) (by assumption) ?_
                try simp only [Act.put, List.setIfInBounds_toArray, List.set_cons_zero, List.set_cons_succ]
                first
                  | (refine wpAnyH_take (i := 7) (oi := _) (v := ?vop134) (by simp only [List.getElem?_toArray, List.getElem?_cons_succ, List.getElem?_cons_zero]; rfl) (by kernel_rfl) (by kernel_rfl) (by kernel_rfl) (by exact fun _ _ _ h => h) (Or.inl ⟨by rfl, ?hyop134⟩) (by assumption) ?restop134
                     case hyop134 => (intro w hSw; (try dsimp only at hSw); go_simp; try (with_reducible rfl)))
                  | refine wpAnyH_take (i := 7) (oi := _) (v := undef) (by simp only [List.getElem?_toArray, List.getElem?_cons_succ, List.getElem?_cons_zero]; rfl) (by kernel_rfl) (by kernel_rfl) (by kernel_rfl) (by exact fun _ _ _ h => h) (Or.inr ⟨by rfl, rfl⟩) (by assumption) ?_
                try simp only [Act.put, List.setIfInBounds_toArray, List.set_cons_zero, List.set_cons_succ]
                first
                  | (refine wpAnyH_take (i := 8) (oi := _) (v := ?vop135) (by simp only [List.getElem?_toArray, List.getElem?_cons_succ, List.getElem?_cons_zero]; rfl) (by kernel_rfl) (by kernel_rfl) (by kernel_rfl) (by exact fun _ _ _ h => h) (Or.inl ⟨by rfl, ?hyop135⟩) (by assumption) ?restop135
                     case hyop135 => (intro w hSw; (try dsimp only at hSw); go_simp; try (with_reducible rfl)))
                  | refine wpAnyH_take (i := 8) (oi := _) (v := undef) (by simp only [List.getElem?_toArray, List.getElem?_cons_succ, List.getElem?_cons_zero]; rfl) (by kernel_rfl) (by kernel_rfl) (by kernel_rfl) (by exact fun _ _ _ h => h) (Or.inr ⟨by rfl, rfl⟩) (by assumption) ?_
                try simp only [Act.put, List.setIfInBounds_toArray, List.set_cons_zero, List.set_cons_succ]
                first
                  | (refine wpAnyH_take (i := 9) (oi := _) (v := ?vop136) (by simp only [List.getElem?_toArray, List.getElem?_cons_succ, List.getElem?_cons_zero]; rfl) (by kernel_rfl) (by kernel_rfl) (by kernel_rfl) (by exact fun _ _ _ h => h) (Or.inl ⟨by rfl, ?hyop136⟩) (by assumption) ?restop136
                     case hyop136 => (intro w hSw; (try dsimp only at hSw); go_simp; try (with_reducible rfl)))
                  | refine wpAnyH_take (i := 9) (oi := _) (v := undef) (by simp only [List.getElem?_toArray, List.getElem?_cons_succ, List.getElem?_cons_zero]; rfl) (by kernel_rfl) (by kernel_rfl) (by kernel_rfl) (by exact fun _ _ _ h => h) (Or.inr ⟨by rfl, rfl⟩) (by assumption) ?_
                try simp only [Act.put, List.setIfInBounds_toArray, List.set_cons_zero, List.set_cons_succ]
                first
                  | (refine wpAnyH_take (i := 10) (oi := _) (v := ?vop137) (by simp only [List.getElem?_toArray, List.getElem?_cons_succ, List.getElem?_cons_zero]; rfl) (by kernel_rfl) (by kernel_rfl) (by kernel_rfl) (by exact fun _ _ _ h => h) (Or.inl ⟨by rfl, ?hyop137⟩) (by assumption) ?restop137
                     case hyop137 => (intro w hSw; (try dsimp only at hSw); go_simp; try (with_reducible rfl)))
                  | refine wpAnyH_take (i := 10) (oi := _) (v := undef) (by simp only [List.getElem?_toArray, List.getElem?_cons_succ, List.getElem?_cons_zero]; rfl) (by kernel_rfl) (by kernel_rfl) (by kernel_rfl) (by exact fun _ _ _ h => h) (Or.inr ⟨by rfl, rfl⟩) (by assumption) ?_
                try simp only [Act.put, List.setIfInBounds_toArray, List.set_cons_zero, List.set_cons_succ]
                first
                  | (refine wpAnyH_take (i := 11) (oi := _) (v := ?vop138) (by simp only [List.getElem?_toArray, List.getElem?_cons_succ, List.getElem?_cons_zero]; rfl) (by kernel_rfl) (by kernel_rfl) (by kernel_rfl) (by exact fun _ _ _ h => h) (Or.inl ⟨by rfl, ?hyop138⟩) (by assumption) ?restop138
                     case hyop138 => (intro w hSw; (try dsimp only at hSw); go_simp; try (with_reducible rfl)))
                  | refine wpAnyH_take (i := 11) (oi := _) (v := undef) (by simp only [List.getElem?_toArray, List.getElem?_cons_succ, List.getElem?_cons_zero]; rfl) (by kernel_rfl) (by kernel_rfl) (by kernel_rfl) (by exact fun _ _ _ h => h) (Or.inr ⟨by rfl, rfl⟩) (by assumption) ?_
                try simp only [Act.put, List.setIfInBounds_toArray, List.set_cons_zero, List.set_cons_succ]
                first
                  | (refine wpAnyH_take (i := 12) (oi := _) (v := ?vop139) (by simp only [List.getElem?_toArray, List.getElem?_cons_succ, List.getElem?_cons_zero]; rfl) (by kernel_rfl) (by kernel_rfl) (by kernel_rfl) (by exact fun _ _ _ h => h) (Or.inl ⟨by rfl, ?hyop139⟩) (by assumption) ?restop139
                     case hyop139 => (intro w hSw; (try dsimp only at hSw); go_simp; try (with_reducible rfl)))
                  | refine wpAnyH_take (i := 12) (oi := _) (v := undef) (by simp only [List.getElem?_toArray, List.getElem?_cons_succ, List.getElem?_cons_zero]; rfl) (by kernel_rfl) (by kernel_rfl) (by kernel_rfl) (by exact fun _ _ _ h => h) (Or.inr ⟨by rfl, rfl⟩) (by assumption) ?_
                try simp only [Act.put, List.setIfInBounds_toArray, List.set_cons_zero, List.set_cons_succ]
                refine wpAnyH_ready (rs := [13]) (by kernel_rfl) (by simp) ?_
                refine AllReadyH.cons (o := _) (by simp only [List.getElem?_toArray, List.getElem?_cons_succ, List.getElem?_cons_zero]; rfl) ?_ AllReadyH.nil
                intro K hK
                go_simp
                (go_at_call 21; refine (HR1.out _ ?_).mono ?_; (first | exact gz | exact gr_none gz (gr_drew _ _) | exact gr_none gz (gr_drewN _ _ _) | exact gr_refl _ _ | exact gr_drew _ _ | exact gr_drewN _ _ _); rintro e wz ⟨rfl, gz, kzwz⟩)
                refine hK.out _ _ ?_ (fun hHeld2 => ?_)
                · ((try dsimp only); go_keep)
                clear hK K hHeld
                have hHeld := hHeld2
                clear hHeld2
                try simp only [Act.put, List.setIfInBounds_toArray, List.set_cons_zero, List.set_cons_succ]
                first
                  | (refine wpAnyH_take (i := 14) (oi := _) (v := ?vop140) (by simp only [List.getElem?_toArray, List.getElem?_cons_succ, List.getElem?_cons_zero]; rfl) (by kernel_rfl) (by kernel_rfl) (by kernel_rfl) (by exact fun _ _ _ h => h) (Or.inl ⟨by rfl, ?hyop140⟩) (by assumption) ?restop140
                     case hyop140 => (intro w hSw; (try dsimp only at hSw); go_simp; try (with_reducible rfl)))
                  | refine wpAnyH_take (i := 14) (oi := _) (v := undef) (by simp only [List.getElem?_toArray, List.getElem?_cons_succ, List.getElem?_cons_zero]; rfl) (by kernel_rfl) (by kernel_rfl) (by kernel_rfl) (by exact fun _ _ _ h => h) (Or.inr ⟨by rfl, rfl⟩) (by assumption) ?_
                try simp only [Act.put, List.setIfInBounds_toArray, List.set_cons_zero, List.set_cons_succ]
                first
                  | (refine wpAnyH_take (i := 15) (oi := _) (v := ?vop141) (by simp only [List.getElem?_toArray, List.getElem?_cons_succ, List.getElem?_cons_zero]; rfl) (by kernel_rfl) (by kernel_rfl) (by kernel_rfl) (by exact fun _ _ _ h => h) (Or.inl ⟨by rfl, ?hyop141⟩) (by assumption) ?restop141
                     case hyop141 => (intro w hSw; (try dsimp only at hSw); go_simp; try (with_reducible rfl)))
                  | refine wpAnyH_take (i := 15) (oi := _) (v := undef) (by simp only [List.getElem?_toArray, List.getElem?_cons_succ, List.getElem?_cons_zero]; rfl) (by kernel_rfl) (by kernel_rfl) (by kernel_rfl) (by exact fun _ _ _ h => h) (Or.inr ⟨by rfl, rfl⟩) (by assumption) ?_
                try simp only [Act.put, List.setIfInBounds_toArray, List.set_cons_zero, List.set_cons_succ]
                first
                  | (refine wpAnyH_take (i := 16) (oi := _) (v := ?vop142) (by simp only [List.getElem?_toArray, List.getElem?_cons_succ, List.getElem?_cons_zero]; rfl) (by kernel_rfl) (by kernel_rfl) (by kernel_rfl) (by exact fun _ _ _ h => h) (Or.inl ⟨by rfl, ?hyop142⟩) (by assumption) ?restop142
                     case hyop142 => (intro w hSw; (try dsimp only at hSw); go_simp; try (with_reducible rfl)))
                  | refine wpAnyH_take (i := 16) (oi := _) (v := undef) (by simp only [List.getElem?_toArray, List.getElem?_cons_succ, List.getElem?_cons_zero]; rfl) (by kernel_rfl) (by kernel_rfl) (by kernel_rfl) (by exact fun _ _ _ h => h) (Or.inr ⟨by rfl, rfl⟩) (by assumption) ?_
                try simp only [Act.put, List.setIfInBounds_toArray, List.set_cons_zero, List.set_cons_succ]
                first
                  | (refine wpAnyH_take (i := 17) (oi := _) (v := ?vop143) (by simp only [List.getElem?_toArray, List.getElem?_cons_succ, List.getElem?_cons_zero]; rfl) (by kernel_rfl) (by kernel_rfl) (by kernel_rfl) (by exact fun _ _ _ h => h) (Or.inl ⟨by rfl, ?hyop143⟩) (by assumption) ?restop143
                     case hyop143 => (intro w hSw; (try dsimp only at hSw); go_simp; try (with_reducible rfl)))
                  | refine wpAnyH_take (i := 17) (oi := _) (v := undef) (by simp only [List.getElem?_toArray, List.getElem?_cons_succ, List.getElem?_cons_zero]; rfl) (by kernel_rfl) (by kernel_rfl) (by kernel_rfl) (by exact fun _ _ _ h => h) (Or.inr ⟨by rfl, rfl⟩) (by assumption) ?_
                try simp only [Act.put, List.setIfInBounds_toArray, List.set_cons_zero, List.set_cons_succ]
                first
                  | (refine wpAnyH_take (i := 18) (oi := _) (v := ?vop144) (by simp only [List.getElem?_toArray, List.getElem?_cons_succ, List.getElem?_cons_zero]; rfl) (by kernel_rfl) (by kernel_rfl) (by kernel_rfl) (by exact fun _ _ _ h => h) (Or.inl ⟨by rfl, ?hyop144⟩) (by assumption) ?restop144
                     case hyop144 => (intro w hSw; (try dsimp only at hSw); go_simp; try (with_reducible rfl)))
                  | refine wpAnyH_take (i := 18) (oi := _) (v := undef) (by simp only [List.getElem?_toArray, List.getElem?_cons_succ, List.getElem?_cons_zero]; rfl) (by kernel_rfl) (by kernel_rfl) (by kernel_rfl) (by exact fun _ _ _ h => h) (Or.inr ⟨by rfl, rfl⟩) (by assumption) ?_
                try simp only [Act.put, List.setIfInBounds_toArray, List.set_cons_zero, List.set_cons_succ]
                first
                  | (refine wpAnyH_take (i := 19) (oi := _) (v := ?vop145) (by simp only [List.getElem?_toArray, List.getElem?_cons_succ, List.getElem?_cons_zero]; rfl) (by kernel_rfl) (by kernel_rfl) (by kernel_rfl) (by exact fun _ _ _ h => h) (Or.inl ⟨by rfl, ?hyop145⟩) (by assumption) ?restop145
                     case hyop145 => (intro w hSw; (try dsimp only at hSw); go_simp; try (with_reducible rfl)))
                  | refine wpAnyH_take (i := 19) (oi := _) (v := undef) (by simp only [List.getElem?_toArray, List.getElem?_cons_succ, List.getElem?_cons_zero]; rfl) (by kernel_rfl) (by kernel_rfl) (by kernel_rfl) (by exact fun _ _ _ h => h) (Or.inr ⟨by rfl, rfl⟩) (by assumption) ?_
                try simp only [Act.put, List.setIfInBounds_toArray, List.set_cons_zero, List.set_cons_succ]
                first
                  | (refine wpAnyH_take (i := 20) (oi := _) (v := ?vop146) (by simp only [List.getElem?_toArray, List.getElem?_cons_succ, List.getElem?_cons_zero]; rfl) (by kernel_rfl) (by kernel_rfl) (by kernel_rfl) (by exact fun _ _ _ h => h) (Or.inl ⟨by rfl, ?hyop146⟩) (by assumption) ?restop146
                     case hyop146 => (intro w hSw; (try dsimp only at hSw); go_simp; try (with_reducible rfl)))
                  | refine wpAnyH_take (i := 20) (oi := _) (v := undef) (by simp only [List.getElem?_toArray, List.getElem?_cons_succ, List.getElem?_cons_zero]; rfl) (by kernel_rfl) (by kernel_rfl) (by kernel_rfl) (by exact fun _ _ _ h => h) (Or.inr ⟨by rfl, rfl⟩) (by assumption) ?_
                try simp only [Act.put, List.setIfInBounds_toArray, List.set_cons_zero, List.set_cons_succ]
                first
                  | (refine wpAnyH_take (i := 21) (oi := _) (v := ?vop147) (by simp only [List.getElem?_toArray, List.getElem?_cons_succ, List.getElem?_cons_zero]; rfl) (by kernel_rfl) (by kernel_rfl) (by kernel_rfl) (by exact fun _ _ _ h => h) (Or.inl ⟨by rfl, ?hyop147⟩) (by assumption) ?restop147
                     case hyop147 => (intro w hSw; (try dsimp only at hSw); go_simp; try (with_reducible rfl)))
                  | refine wpAnyH_take (i := 21) (oi := _) (v := undef) (by simp only [List.getElem?_toArray, List.getElem?_cons_succ, List.getElem?_cons_zero]; rfl) (by kernel_rfl) (by kernel_rfl) (by kernel_rfl) (by exact fun _ _ _ h => h) (Or.inr ⟨by rfl, rfl⟩) (by assumption) ?_
                try simp only [Act.put, List.setIfInBounds_toArray, List.set_cons_zero, List.set_cons_succ]
                first
                  | (refine wpAnyH_take (i := 22) (oi := _) (v := ?vop148) (by simp only [List.getElem?_toArray, List.getElem?_cons_succ, List.getElem?_cons_zero]; rfl) (by kernel_rfl) (by kernel_rfl) (by kernel_rfl) (by exact fun _ _ _ h => h) (Or.inl ⟨by rfl, ?hyop148⟩) (by assumption) ?restop148
                     case hyop148 => (intro w hSw; (try dsimp only at hSw); go_simp; try (with_reducible rfl)))
                  | refine wpAnyH_take (i := 22) (oi := _) (v := undef) (by simp only [List.getElem?_toArray, List.getElem?_cons_succ, List.getElem?_cons_zero]; rfl) (by kernel_rfl) (by kernel_rfl) (by kernel_rfl) (by exact fun _ _ _ h => h) (Or.inr ⟨by rfl, rfl⟩) (by assumption) ?_
                try simp only [Act.put, List.setIfInBounds_toArray, List.set_cons_zero, List.set_cons_succ]
                first
                  | (refine wpAnyH_take (i := 23) (oi := _) (v := ?vop149) (by simp only [List.getElem?_toArray, List.getElem?_cons_succ, List.getElem?_cons_zero]; rfl) (by kernel_rfl) (by kernel_rfl) (by kernel_rfl) (by exact fun _ _ _ h => h) (Or.inl ⟨by rfl, ?hyop149⟩) (by assumption) ?restop149
                     case hyop149 => (intro w hSw; (try dsimp only at hSw); go_simp; try (with_reducible rfl)))
                  | refine wpAnyH_take (i := 23) (oi := _) (v := undef) (by simp only [List.getElem?_toArray, List.getElem?_cons_succ, List.getElem?_cons_zero]; rfl) (by kernel_rfl) (by kernel_rfl) (by kernel_rfl) (by exact fun _ _ _ h => h) (Or.inr ⟨by rfl, rfl⟩) (by assumption) ?_
                try simp only [Act.put, List.setIfInBounds_toArray, List.set_cons_zero, List.set_cons_succ]
                refine wpAnyH_ready (rs := [24]) (by kernel_rfl) (by simp) ?_
                refine AllReadyH.cons (o := _) (by simp only [List.getElem?_toArray, List.getElem?_cons_succ, List.getElem?_cons_zero]; rfl) ?_ AllReadyH.nil
                intro K hK
                go_simp
                (go_at_call 21; refine (HR2.out _ ?_).mono ?_; (first | exact gz | exact gr_none gz (gr_drew _ _) | exact gr_none gz (gr_drewN _ _ _) | exact gr_refl _ _ | exact gr_drew _ _ | exact gr_drewN _ _ _); rintro e wz ⟨rfl, gz, kzwz⟩)
                refine hK.out _ _ ?_ (fun hHeld2 => ?_)
                · ((try dsimp only); go_keep)
                clear hK K hHeld
                have hHeld := hHeld2
                clear hHeld2
                try simp only [Act.put, List.setIfInBounds_toArray, List.set_cons_zero, List.set_cons_succ]
                first
                  | (refine wpAnyH_take (i := 25) (oi := _) (v := ?vop150) (by simp only [List.getElem?_toArray, List.getElem?_cons_succ, List.getElem?_cons_zero]; rfl) (by kernel_rfl) (by kernel_rfl) (by kernel_rfl) (by exact fun _ _ _ h => h) (Or.inl ⟨by rfl, ?hyop150⟩) (by assumption) ?restop150
                     case hyop150 => (intro w hSw; (try dsimp only at hSw); go_simp; try (with_reducible rfl)))
                  | refine wpAnyH_take (i := 25) (oi := _) (v := undef) (by simp only [List.getElem?_toArray, List.getElem?_cons_succ, List.getElem?_cons_zero]; rfl) (by kernel_rfl) (by kernel_rfl) (by kernel_rfl) (by exact fun _ _ _ h => h) (Or.inr ⟨by rfl, rfl⟩) (by assumption) ?_
                try simp only [Act.put, List.setIfInBounds_toArray, List.set_cons_zero, List.set_cons_succ]
                first
                  | (refine wpAnyH_take (i := 26) (oi := _) (v := ?vop151) (by simp only [List.getElem?_toArray, List.getElem?_cons_succ, List.getElem?_cons_zero]; rfl) (by kernel_rfl) (by kernel_rfl) (by kernel_rfl) (by exact fun _ _ _ h => h) (Or.inl ⟨by rfl, ?hyop151⟩) (by assumption) ?restop151
                     case hyop151 => (intro w hSw; (try dsimp only at hSw); go_simp; try (with_reducible rfl)))
                  | refine wpAnyH_take (i := 26) (oi := _) (v := undef) (by simp only [List.getElem?_toArray, List.getElem?_cons_succ, List.getElem?_cons_zero]; rfl) (by kernel_rfl) (by kernel_rfl) (by kernel_rfl) (by exact fun _ _ _ h => h) (Or.inr ⟨by rfl, rfl⟩) (by assumption) ?_
                try simp only [Act.put, List.setIfInBounds_toArray, List.set_cons_zero, List.set_cons_succ]
                first
                  | (refine wpAnyH_take (i := 27) (oi := _) (v := ?vop152) (by simp only [List.getElem?_toArray, List.getElem?_cons_succ, List.getElem?_cons_zero]; rfl) (by kernel_rfl) (by kernel_rfl) (by kernel_rfl) (by exact fun _ _ _ h => h) (Or.inl ⟨by rfl, ?hyop152⟩) (by assumption) ?restop152
                     case hyop152 => (intro w hSw; (try dsimp only at hSw); go_simp; try (with_reducible rfl)))
                  | refine wpAnyH_take (i := 27) (oi := _) (v := undef) (by simp only [List.getElem?_toArray, List.getElem?_cons_succ, List.getElem?_cons_zero]; rfl) (by kernel_rfl) (by kernel_rfl) (by kernel_rfl) (by exact fun _ _ _ h => h) (Or.inr ⟨by rfl, rfl⟩) (by assumption) ?_
                try simp only [Act.put, List.setIfInBounds_toArray, List.set_cons_zero, List.set_cons_succ]
                refine wpAnyH_take (i := 28) (oi := _) (v := undef) (by simp only [List.getElem?_toArray, List.getElem?_cons_succ, List.getElem?_cons_zero]; rfl) (by kernel_rfl) (by kernel_rfl) (by kernel_rfl) (by exact fun _ _ _ h => h) (Or.inr ⟨by rfl, rfl⟩) (by assumption) ?_
                try simp only [Act.put, List.setIfInBounds_toArray, List.set_cons_zero, List.set_cons_succ]
                refine wpAnyH_take (i := 29) (oi := _) (v := undef) (by simp only [List.getElem?_toArray, List.getElem?_cons_succ, List.getElem?_cons_zero]; rfl) (by kernel_rfl) (by kernel_rfl) (by kernel_rfl) (by exact fun _ _ _ h => h) (Or.inr ⟨by rfl, rfl⟩) (by assumption) ?_
                try simp only [Act.put, List.setIfInBounds_toArray, List.set_cons_zero, List.set_cons_succ]
                refine wpAnyH_take (i := 30) (oi := _) (v := undef) (by simp only [List.getElem?_toArray, List.getElem?_cons_succ, List.getElem?_cons_zero]; rfl) (by kernel_rfl) (by kernel_rfl) (by kernel_rfl) (by exact fun _ _ _ h => h) (Or.inr ⟨by rfl, rfl⟩) (by assumption) ?_
                try simp only [Act.put, List.setIfInBounds_toArray, List.set_cons_zero, List.set_cons_succ]
                refine wpAnyH_take (i := 31) (oi := _) (v := undef) (by simp only [List.getElem?_toArray, List.getElem?_cons_succ, List.getElem?_cons_zero]; rfl) (by kernel_rfl) (by kernel_rfl) (by kernel_rfl) (by exact fun _ _ _ h => h) (Or.inr ⟨by rfl, rfl⟩) (by assumption) ?_
                try simp only [Act.put, List.setIfInBounds_toArray, List.set_cons_zero, List.set_cons_succ]
                refine wpAnyH_take (i := 32) (oi := _) (v := undef) (by simp only [List.getElem?_toArray, List.getElem?_cons_succ, List.getElem?_cons_zero]; rfl) (by kernel_rfl) (by kernel_rfl) (by kernel_rfl) (by exact fun _ _ _ h => h) (Or.inr ⟨by rfl, rfl⟩) (by assumption) ?_
                try simp only [Act.put, List.setIfInBounds_toArray, List.set_cons_zero, List.set_cons_succ]
                refine wpAnyH_take (i := 33) (oi := _) (v := undef) (by simp only [List.getElem?_toArray, List.getElem?_cons_succ, List.getElem?_cons_zero]; rfl) (by kernel_rfl) (by kernel_rfl) (by kernel_rfl) (by exact fun _ _ _ h => h) (Or.inr ⟨by rfl, rfl⟩) (by assumption) ?_
                try simp only [Act.put, List.setIfInBounds_toArray, List.set_cons_zero, List.set_cons_succ]
                refine wpAnyH_take (i := 34) (oi := _) (v := undef) (by simp only [List.getElem?_toArray, List.getElem?_cons_succ, List.getElem?_cons_zero]; rfl) (by kernel_rfl) (by kernel_rfl) (by kernel_rfl) (by exact fun _ _ _ h => h) (Or.inr ⟨by rfl, rfl⟩) (by assumption) ?_
                try simp only [Act.put, List.setIfInBounds_toArray, List.set_cons_zero, List.set_cons_succ]
                refine wpAnyH_take (i := 35) (oi := _) (v := undef) (by simp only [List.getElem?_toArray, List.getElem?_cons_succ, List.getElem?_cons_zero]; rfl) (by kernel_rfl) (by kernel_rfl) (by kernel_rfl) (by exact fun _ _ _ h => h) (Or.inr ⟨by rfl, rfl⟩) (by assumption) ?_
                try simp only [Act.put, List.setIfInBounds_toArray, List.set_cons_zero, List.set_cons_succ]
                refine wpAnyH_take (i := 36) (oi := _) (v := undef) (by simp only [List.getElem?_toArray, List.getElem?_cons_succ, List.getElem?_cons_zero]; rfl) (by kernel_rfl) (by kernel_rfl) (by kernel_rfl) (by exact fun _ _ _ h => h) (Or.inr ⟨by rfl, rfl⟩) (by assumption) ?_
                try simp only [Act.put, List.setIfInBounds_toArray, List.set_cons_zero, List.set_cons_succ]
                refine wpAnyH_take (i := 37) (oi := _) (v := undef) (by simp only [List.getElem?_toArray, List.getElem?_cons_succ, List.getElem?_cons_zero]; rfl) (by kernel_rfl) (by kernel_rfl) (by kernel_rfl) (by exact fun _ _ _ h => h) (Or.inr ⟨by rfl, rfl⟩) (by assumption) ?_
                try simp only [Act.put, List.setIfInBounds_toArray, List.set_cons_zero, List.set_cons_succ]
                first
                  | (refine wpAnyH_take (i := 38) (oi := _) (v := ?vop153) (by simp only [List.getElem?_toArray, List.getElem?_cons_succ, List.getElem?_cons_zero]; rfl) (by kernel_rfl) (by kernel_rfl) (by kernel_rfl) (by exact fun _ _ _ h => h) (Or.inl ⟨by rfl, ?hyop153⟩) (by assumption) ?restop153
                     case hyop153 => (intro w hSw; (try dsimp only at hSw); go_simp; try (with_reducible rfl)))
                  | refine wpAnyH_take (i := 38) (oi := _) (v := undef) (by simp only [List.getElem?_toArray, List.getElem?_cons_succ, List.getElem?_cons_zero]; rfl) (by kernel_rfl) (by kernel_rfl) (by kernel_rfl) (by exact fun _ _ _ h => h) (Or.inr ⟨by rfl, rfl⟩) (by assumption) ?_
                try simp only [Act.put, List.setIfInBounds_toArray, List.set_cons_zero, List.set_cons_succ]
                refine wpAnyH_done (by kernel_rfl) ?_ _
                go_wp2
                go_roundw
                case rel => exact ⟨t + 1, f, by omega, rfl, by go_num, HN, gr_none HGQ.out (by first | exact gz | exact gr_none gz (gr_drew _ _) | exact gr_none gz (gr_drewN _ _ _) | exact gr_refl _ _ | exact gr_drew _ _ | exact gr_drewN _ _ _)⟩
                case measure => simp [intOf]; omega
        · obtain rfl : t = m.length := by omega
          have HFF : Hid (f = true ↔ ¬ lateD (m.map Cd.d) ⟨xa, xb, xl⟩) := by
            have := hf.out
            unfold FirstIs at this
            rw [List.take_length] at this
            exact this
          have HOW := Lib.hid (Own.ext ho.out HGQ.out)
          have HGW := Lib.hid (gr_none HG0.out HGQ.out)
          clear hf ho
          cases f
          · have HN : Hid (OutIs out m (k + 1)) := HSKIP.out (by
              refine Classical.byContradiction fun hc => ?_
              have := HFF.out.2 hc
              cases this)
            go_wp2
            go_roundw
            case rel => exact ⟨k + 1, out, by omega, by go_num, HOW, HN, by omega, HGW.out, HWO.out⟩
            case measure => simp [intOf]; omega
          · have HRC := Lib.hid (rising_any _ out xa w2.heap.size wo HOW.out HWO.out.size (by omega) HRO.out HFR.out)
            obtain ⟨h0, h1, h2⟩ := at3C HC.out HWO.out hlt HX.out
            go_wp2_with fail
            refine HRC.out.mono ?_
            rintro e w6 ⟨v6, out6, rfl, o6, r6, m6, l6, g6⟩
            have HN : Hid (OutIs out6 m (k + 1)) := HADD.out out6 (HFF.out.1 (by first | exact trivial | rfl)) r6 m6
            have O6 := Lib.hid o6
            have hg6 := g6 w hz2 HGW.out
            have hg7 := g6 w2 (Nat.le_refl _) HWO.out
            clear o6 r6 m6 g6
            go_wp2
            go_roundw
            case rel => exact ⟨k + 1, out6, by omega, by go_num, O6, HN, by omega, hg6, hg7⟩
            case measure => simp [intOf]; omega
    · obtain rfl : k = m.length := by omega
      have HP : Hid (PickOf (onceD (l.map Cd.d)) out) := by
        have := hout.out
        unfold OutIs at this
        rw [List.take_length, HM.out] at this
        exact this
      clear hout
      go_wp2
      go_ret
      exact ⟨⟨_, out, rfl, Own.mono ho.out hz2, HP.out⟩, HG0.out⟩
end Go.Proofs.Ytbdieifggciopaa

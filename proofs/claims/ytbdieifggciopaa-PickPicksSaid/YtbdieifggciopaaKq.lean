/-
  Pick: the walk of the document's Pick.
-/
import Derived.Test.YtbdieifggciopaaKr
import Derived.Test.YtbdieifggciopaaKw
import Derived.Test.YtbdieifggciopaaKo
import Derived.Deep.RegionHeld3
namespace Go.Proofs.Ytbdieifggciopaa
open Go.RowKit
set_option maxRecDepth 100000
set_option maxHeartbeats 400000

open Lean Elab Tactic Meta in
elab "take_op " i:num : tactic => withMainContext do
  let t := (← instantiateMVars (← getMainTarget)).consumeMData
  let ops := t.getAppArgs[2]!
  let some oe := opAt ops i.getNat | throwError "no operation"
  let oStx ← Term.exprToSyntax oe
  Tactic.withoutRecover (evalTactic (← `(tactic| first
    | (refine wpAnyH_take (i := $i) (oi := $oStx) (v := ?_) rfl (by kernel_rfl) (by kernel_rfl) (by kernel_rfl) (fun _ _ _ h => h) (Or.inl ⟨by rfl, ?hy⟩) (by assumption) ?rest
       case hy => (intro w hSw; (try dsimp only at hSw); go_simp; try (with_reducible rfl)))
    | refine wpAnyH_take (i := $i) (oi := $oStx) (v := undef) rfl (by kernel_rfl) (by kernel_rfl) (by kernel_rfl) (fun _ _ _ h => h) (Or.inr ⟨by rfl, rfl⟩) (by assumption) ?_)))
  evalTactic (← `(tactic| try simp only [Act.put, List.setIfInBounds_toArray, List.set_cons_zero, List.set_cons_succ]))
open Lean Elab Tactic Meta in
elab "skip_op " i:num : tactic => withMainContext do
  let t := (← instantiateMVars (← getMainTarget)).consumeMData
  let ops := t.getAppArgs[2]!
  let some oe := opAt ops i.getNat | throwError "no operation"
  let oStx ← Term.exprToSyntax oe
  Tactic.withoutRecover (evalTactic (← `(tactic| refine wpAnyH_take (i := $i) (oi := $oStx) (v := undef) rfl (by kernel_rfl) (by kernel_rfl) (by kernel_rfl) (fun _ _ _ h => h) (Or.inr ⟨by rfl, rfl⟩) (by assumption) ?_)))
  evalTactic (← `(tactic| try simp only [Act.put, List.setIfInBounds_toArray, List.set_cons_zero, List.set_cons_succ]))
open Lean Elab Tactic Meta in
elab "call_op " i:num " (" tac:tacticSeq ") " "(" keep:tactic ")" : tactic => withMainContext do
  let t := (← instantiateMVars (← getMainTarget)).consumeMData
  let ops := t.getAppArgs[2]!
  let some oe := opAt ops i.getNat | throwError "no operation"
  let oStx ← Term.exprToSyntax oe
  evalTactic (← `(tactic| refine wpAnyH_ready (rs := [$i]) (by kernel_rfl) (by simp) ?_))
  evalTactic (← `(tactic| refine AllReadyH.cons (o := $oStx) rfl (fun K hK => ?_) AllReadyH.nil))
  evalTactic (← `(tactic| go_simp))
  evalTactic tac
  evalTactic (← `(tactic| refine hK.out _ _ ?_ (fun hHeld => ?_)))
  let gs ← getGoals
  let g1 :: rest := gs | throwError "two goals expected"
  setGoals [g1]
  evalTactic (← `(tactic| try dsimp only))
  unless (← getUnsolvedGoals).isEmpty do evalTactic keep
  setGoals rest
  evalTactic (← `(tactic| clear hK K))
  evalTactic (← `(tactic| try simp only [Act.put, List.setIfInBounds_toArray, List.set_cons_zero, List.set_cons_succ]))
  clearOldHeld

def meets (x y : Dt) : Prop := y.v ≠ x.v ∧ nearD x y ∧ aheadD y x
def FirstIs (f : Bool) (m : List Cd) (t : Nat) (x : Dt) : Prop := f = true ↔ ¬ lateD ((m.take t).map Cd.d) x
theorem late_succ {m : List Cd} {t : Nat} (ht : t < m.length) (x : Dt) : lateD ((m.take (t + 1)).map Cd.d) x ↔ lateD ((m.take t).map Cd.d) x ∨ meets x m[t].d := by
  unfold lateD
  rw [List.take_succ_eq_append_getElem ht, List.map_append]
  constructor
  · rintro ⟨y, hy, h⟩
    rcases List.mem_append.1 hy with hy | hy
    · exact .inl ⟨y, hy, h⟩
    · rw [List.map_cons, List.map_nil, List.mem_singleton] at hy
      subst hy
      exact .inr h
  · rintro (⟨y, hy, h⟩ | h)
    · exact ⟨y, List.mem_append.2 (.inl hy), h⟩
    · exact ⟨m[t].d, List.mem_append.2 (.inr (by simp)), h⟩
theorem FirstIs.no {f : Bool} {m : List Cd} {t : Nat} {x : Dt} (h : FirstIs f m t x) (ht : t < m.length) (hn : ¬ meets x m[t].d) : FirstIs f m (t + 1) x := by
  unfold FirstIs at *
  rw [h, late_succ ht]
  exact ⟨fun a b => b.elim a hn, fun a b => a (.inl b)⟩
theorem FirstIs.yes {m : List Cd} {t : Nat} {x : Dt} (ht : t < m.length) (hn : meets x m[t].d) : FirstIs false m (t + 1) x := by
  unfold FirstIs
  rw [late_succ ht]
  exact ⟨(fun a => by cases a), fun a => absurd (.inr hn) a⟩
theorem FirstIs.start (m : List Cd) (x : Dt) : FirstIs true m 0 x := ⟨fun _ => (fun ⟨y, hy, _⟩ => by cases hy), fun _ => rfl⟩
theorem not_late {x y : Dt} (h : aheadD x y) : ¬ meets x y := fun h2 => aheadD_asym h h2.2.2
theorem not_self (x : Dt) : ¬ meets x x := fun h => h.1 rfl
def OutIs (out : List UInt32) (m : List Cd) (k : Nat) : Prop := RisS out ∧ ∀ y, y ∈ out ↔ ∃ x ∈ (m.take k).map Cd.d, x.v = y ∧ ¬ lateD (m.map Cd.d) x
theorem OutIs.start (m : List Cd) : OutIs [] m 0 := ⟨List.Pairwise.nil, fun y => ⟨(fun h => by cases h), fun ⟨x, hx, _⟩ => by cases hx⟩⟩
theorem out_mem {m : List Cd} {k : Nat} (hk : k < m.length) (x : Dt) : x ∈ (m.take (k + 1)).map Cd.d ↔ x ∈ (m.take k).map Cd.d ∨ x = m[k].d := by
  rw [List.take_succ_eq_append_getElem hk, List.map_append, List.mem_append]
  simp
theorem OutIs.skip {out : List UInt32} {m : List Cd} {k : Nat} (h : OutIs out m k) (hk : k < m.length) (hl : lateD (m.map Cd.d) m[k].d) : OutIs out m (k + 1) := by
  refine ⟨h.1, fun y => ?_⟩
  rw [h.2]
  constructor
  · rintro ⟨x, hx, h2⟩
    exact ⟨x, (out_mem hk x).2 (.inl hx), h2⟩
  · rintro ⟨x, hx, h2⟩
    rcases (out_mem hk x).1 hx with hx | rfl
    · exact ⟨x, hx, h2⟩
    · exact absurd hl h2.2
theorem OutIs.add {out out' : List UInt32} {m : List Cd} {k : Nat} (h : OutIs out m k) (hk : k < m.length) (hl : ¬ lateD (m.map Cd.d) m[k].d) (hr : RisS out') (hm : ∀ y, y ∈ out' ↔ y = m[k].d.v ∨ y ∈ out) : OutIs out' m (k + 1) := by
  refine ⟨hr, fun y => ?_⟩
  rw [hm, h.2]
  constructor
  · rintro (rfl | ⟨x, hx, h2⟩)
    · exact ⟨m[k].d, (out_mem hk _).2 (.inr rfl), rfl, hl⟩
    · exact ⟨x, (out_mem hk x).2 (.inl hx), h2⟩
  · rintro ⟨x, hx, h2⟩
    rcases (out_mem hk x).1 hx with hx | rfl
    · exact .inr ⟨x, hx, h2⟩
    · exact .inl h2.1.symm
theorem uni_at {m : List Cd} (hu : UniD (m.map Cd.d)) {i j : Nat} (hi : i < m.length) (hj : j < m.length) (e : m[i].d.v = m[j].d.v) : i = j := by
  unfold UniD at hu
  rw [List.pairwise_map] at hu
  rw [List.pairwise_iff_getElem] at hu
  rcases Nat.lt_trichotomy i j with h | h | h
  · exact absurd e (hu i j hi hj h)
  · exact h
  · exact absurd e.symm (hu j i hj hi h)
theorem OutIs.fresh {out : List UInt32} {m : List Cd} {k : Nat} (h : OutIs out m k) (hu : UniD (m.map Cd.d)) (hk : k < m.length) : m[k].d.v ∉ out := by
  intro hm
  obtain ⟨x, hx, e, _⟩ := (h.2 _).1 hm
  obtain ⟨c, hc, rfl⟩ := List.mem_map.1 hx
  obtain ⟨i, hi, rfl⟩ := List.getElem_of_mem hc
  rw [List.getElem_take] at e
  rw [List.length_take] at hi
  have := uni_at hu (by omega) hk e
  omega
set_option maxHeartbeats 16000000 in
theorem refPick_any (v : Value) (l : List Cd) (w : World) (h : RdC w v l) (hn : l.length ≤ 1000) (hs : ∀ x ∈ l, x.d.near.length ≤ 5000) :
    Calls Try.prog 14 #[v] w (PickOut w l) := by
  have HON := Lib.hid (once_any v l w h hn)
  have HNL := Lib.hid hs
  obtain ⟨A, c, rfl⟩ := h.form
  clear h hs
  go_enter Try.func14, Try.ntmps14
  go_wp2_with fail
  refine HON.out.mono ?_
  rintro e w2 ⟨⟨u2, m, rfl, ho2, hm2, hsub, hml⟩, g2⟩
  have G2 := Lib.hid g2
  have HM := Lib.hid hm2
  have HR2 := Lib.hid ho2.rd
  have HNR : Hid (∀ x ∈ m, x.d.near.length ≤ 5000) := fun x hx => HNL.out x (hsub x hx)
  obtain ⟨A2, c2, rfl⟩ := HR2.out.form
  have HU := Lib.hid (onceD_uni (l.map Cd.d))
  rw [← HM.out] at HU
  obtain ⟨g, off, hA, hmc2, hcells⟩ := HR2.out.1.at_ cd3
  have HA := Lib.hid hA
  have HC := Lib.hid hcells
  have HL := Lib.hid HR2.out.2
  have hz2 := g2.size
  have hm1 : m.length ≤ 1000 := by omega
  clear ho2 hm2 hsub g2 HON hA hcells HNL
  go_wp2
  go_loopw [4, 5] (fun u i wr => ∃ (k : Nat) (out : List UInt32), k ≤ m.length ∧ i = .int .i64 k ∧ Hid (OwnU wr w2.heap.size u out) ∧ Hid (OutIs out m k) ∧ out.length ≤ k ∧ w.grownBy wr none ∧ w2.grownBy wr none) (fun _ i _ => m.length - (intOf i).toNat)
  case atStart => exact ⟨0, [], by omega, rfl, Own.nil _ _ _, OutIs.start m, by simp, G2.out, gr_refl _ _⟩
  case round =>
    obtain ⟨k, out, hk, rfl, ho, hout, hol, hg0, hg⟩ := hrel
    obtain ⟨Au, cu, rfl⟩ := RdU.form (Own.rd ho.out)
    have HG := Lib.hid hg
    have HG0 := Lib.hid hg0
    clear hg hg0
    by_cases hlt : k < m.length
    · have := HA.out (by omega)
      subst this
      have HSKIP := Lib.hid (fun hl => hout.out.skip hlt hl)
      have HADD := Lib.hid (fun (out' : List UInt32) hl hr hm => hout.out.add (out' := out') hlt hl hr hm)
      have HFR := Lib.hid (hout.out.fresh HU.out hlt)
      have HRO := Lib.hid hout.out.1
      have hxn := HNR.out _ (List.getElem_mem hlt)
      have HXL0 := Lib.hid (HL.out _ (List.getElem_mem hlt))
      have HUA := Lib.hid (fun (t : Nat) (ht : t < m.length) (e : m[t].d.v = m[k].d.v) => uni_at HU.out ht hlt e)
      rcases hx : m[k] with ⟨⟨xa, xb, xl⟩, xs⟩
      rw [hx] at HSKIP HADD HFR HXL0 HUA hxn
      simp only [] at hxn
      have HXL : Hid (RdU w2 xs xl) := HXL0.out
      have HX := Lib.hid hx
      clear hx hout HXL0
      obtain ⟨A2, c2', rfl⟩ := RdU.form HXL.out
      go_wp2
      go_loopw [6, 7] (fun b i wq => ∃ (t : Nat) (f : Bool), t ≤ m.length ∧ b = .bool f ∧ i = .int .i64 t ∧ Hid (FirstIs f m t ⟨xa, xb, xl⟩) ∧ wr.grownBy wq none) (fun _ i _ => m.length - (intOf i).toNat)
      case atStart => exact ⟨0, true, by omega, rfl, rfl, FirstIs.start m _, gr_refl _ _⟩
      case round =>
        obtain ⟨t, f, ht, rfl, rfl, hf, hgq⟩ := hrel
        obtain ⟨wo, rfl⟩ : ∃ wo, wo = wr := ⟨_, rfl⟩
        have HGQ := Lib.hid hgq
        have HWO := Lib.hid (gr_none HG.out hgq)
        clear hgq
        by_cases htl : t < m.length
        · have HNO := Lib.hid (fun hn => hf.out.no htl hn)
          have HYES := Lib.hid (fun hn => FirstIs.yes (x := ⟨xa, xb, xl⟩) htl hn)
          by_cases htk : t = k
          · subst htk
            have HN : Hid (FirstIs f m (t + 1) ⟨xa, xb, xl⟩) := HNO.out (by rw [HX.out]; exact not_self _)
            clear HNO HYES hf
            go_wp2_with fail
            go_quiet (fail)
            go_wp2
            go_roundw
            case rel => exact ⟨t + 1, f, by omega, rfl, by go_num, HN, gr_none HGQ.out (gr_drewN _ _ _)⟩
            case measure => simp [intOf]; omega
          · have b0 : ((t : Int) != (k : Int)) = true := by simp; omega
            have HUK := Lib.hid (fun e => htk (HUA.out t htl e))
            have hyn := HNR.out _ (List.getElem_mem htl)
            have HYL0 := Lib.hid (HL.out _ (List.getElem_mem htl))
            rcases hy : m[t] with ⟨⟨ya, yb, yl⟩, ys⟩
            rw [hy] at HNO HYES HUK HYL0 hyn
            simp only [] at hyn
            have HYL : Hid (RdU w2 ys yl) := HYL0.out
            have HY := Lib.hid hy
            have HVN : Hid (ya ≠ xa) := HUK.out
            clear hy HYL0 HUK
            obtain ⟨A3, c3, rfl⟩ := RdU.form HYL.out
            have HK : Hid (∀ wx, w2.grownBy wx none → wx.cell? ⟨g, off + k * 3, none⟩ = some (.int .u32 xa.toNat) ∧ wx.cell? ⟨g, off + k * 3 + 1, none⟩ = some (.int .u64 xb.toNat) ∧ wx.cell? ⟨g, off + k * 3 + 2, none⟩ = some (.slice A2 xl.length c2') ∧ wx.cell? ⟨g, off + t * 3, none⟩ = some (.int .u32 ya.toNat) ∧ wx.cell? ⟨g, off + t * 3 + 1, none⟩ = some (.int .u64 yb.toNat) ∧ wx.cell? ⟨g, off + t * 3 + 2, none⟩ = some (.slice A3 yl.length c3)) := fun wx hx => by
              obtain ⟨h0, h1, h2⟩ := at3C HC.out hx hlt HX.out
              obtain ⟨k0, k1, k2⟩ := at3C HC.out hx htl HY.out
              exact ⟨h0, h1, h2, k0, k1, k2⟩
            have HN1 : Hid (∀ (b : Bool), b = decide (ya ∈ xl) → ∀ wx, wo.grownBy wx none → Calls Try.prog 21 #[.agg #[.int .u32 xa.toNat, .int .u64 xb.toNat, .slice A2 xl.length c2'], .int .u32 ya.toNat] wx fun e wz => e = .returned (.bool b) ∧ wo.grownBy wz none ∧ wz.cell? ⟨g, off + k * 3, none⟩ = some (.int .u32 xa.toNat) ∧ wz.cell? ⟨g, off + k * 3 + 1, none⟩ = some (.int .u64 xb.toNat) ∧ wz.cell? ⟨g, off + k * 3 + 2, none⟩ = some (.slice A2 xl.length c2') ∧ wz.cell? ⟨g, off + t * 3, none⟩ = some (.int .u32 ya.toNat) ∧ wz.cell? ⟨g, off + t * 3 + 1, none⟩ = some (.int .u64 yb.toNat) ∧ wz.cell? ⟨g, off + t * 3 + 2, none⟩ = some (.slice A3 yl.length c3)) := fun b hb wx hx => by
              have hw := gr_none HWO.out hx
              refine (near2_any ⟨⟨xa, xb, xl⟩, .slice A2 xl.length c2'⟩ ya wx (Rd.ext HXL.out hw) (by show xl.length ≤ _; omega)).mono ?_
              rintro e wz ⟨rfl, gz⟩
              exact ⟨by rw [hb], gr_none hx gz, HK.out _ (gr_none hw gz)⟩
            have HN2 : Hid (∀ (b : Bool), b = decide (xa ∈ yl) → ∀ wx, wo.grownBy wx none → Calls Try.prog 21 #[.agg #[.int .u32 ya.toNat, .int .u64 yb.toNat, .slice A3 yl.length c3], .int .u32 xa.toNat] wx fun e wz => e = .returned (.bool b) ∧ wo.grownBy wz none ∧ wz.cell? ⟨g, off + k * 3, none⟩ = some (.int .u32 xa.toNat) ∧ wz.cell? ⟨g, off + k * 3 + 1, none⟩ = some (.int .u64 xb.toNat) ∧ wz.cell? ⟨g, off + k * 3 + 2, none⟩ = some (.slice A2 xl.length c2') ∧ wz.cell? ⟨g, off + t * 3, none⟩ = some (.int .u32 ya.toNat) ∧ wz.cell? ⟨g, off + t * 3 + 1, none⟩ = some (.int .u64 yb.toNat) ∧ wz.cell? ⟨g, off + t * 3 + 2, none⟩ = some (.slice A3 yl.length c3)) := fun b hb wx hx => by
              have hw := gr_none HWO.out hx
              refine (near2_any ⟨⟨ya, yb, yl⟩, .slice A3 yl.length c3⟩ xa wx (Rd.ext HYL.out hw) (by show yl.length ≤ _; omega)).mono ?_
              rintro e wz ⟨rfl, gz⟩
              exact ⟨by rw [hb], gr_none hx gz, HK.out _ (gr_none hw gz)⟩
            have HN3 : Hid (∀ (b : Bool), b = decide (aheadD ⟨xa, xb, xl⟩ ⟨ya, yb, yl⟩) → ∀ wx, wo.grownBy wx none → Calls Try.prog 22 #[.agg #[.int .u32 xa.toNat, .int .u64 xb.toNat, .slice A2 xl.length c2'], .agg #[.int .u32 ya.toNat, .int .u64 yb.toNat, .slice A3 yl.length c3]] wx fun e wz => e = .returned (.bool b) ∧ wo.grownBy wz none ∧ wz.cell? ⟨g, off + k * 3, none⟩ = some (.int .u32 xa.toNat) ∧ wz.cell? ⟨g, off + k * 3 + 1, none⟩ = some (.int .u64 xb.toNat) ∧ wz.cell? ⟨g, off + k * 3 + 2, none⟩ = some (.slice A2 xl.length c2') ∧ wz.cell? ⟨g, off + t * 3, none⟩ = some (.int .u32 ya.toNat) ∧ wz.cell? ⟨g, off + t * 3 + 1, none⟩ = some (.int .u64 yb.toNat) ∧ wz.cell? ⟨g, off + t * 3 + 2, none⟩ = some (.slice A3 yl.length c3)) := fun b hb wx hx => by
              have hw := gr_none HWO.out hx
              refine (ahead2_any ⟨⟨xa, xb, xl⟩, .slice A2 xl.length c2'⟩ ⟨⟨ya, yb, yl⟩, .slice A3 yl.length c3⟩ wx).mono ?_
              rintro e wz ⟨rfl, gz⟩
              exact ⟨by rw [hb], gr_none hx gz, HK.out _ (gr_none hw gz)⟩
            obtain ⟨h0, h1, h2, k0, k1, k2⟩ := HK.out wo HWO.out
            by_cases hn1 : ya ∈ xl
            · have HR1 := Lib.hid (HN1.out true (decide_eq_true hn1).symm)
              by_cases ha : aheadD ⟨xa, xb, xl⟩ ⟨ya, yb, yl⟩
              · have HR3 := Lib.hid (HN3.out true (decide_eq_true ha).symm)
                have HN : Hid (FirstIs f m (t + 1) ⟨xa, xb, xl⟩) := HNO.out (not_late ha)
                clear ha hf HN1 HN2 HN3 HNO HYES
                go_wp2_with fail
                refine wp_region_held_drew (S := fun w' => w'.cell? ⟨g, off + k * 3, none⟩ = some (.int .u32 xa.toNat) ∧ w'.cell? ⟨g, off + k * 3 + 1, none⟩ = some (.int .u64 xb.toNat) ∧ w'.cell? ⟨g, off + k * 3 + 2, none⟩ = some (.slice A2 xl.length c2') ∧ w'.cell? ⟨g, off + t * 3, none⟩ = some (.int .u32 ya.toNat) ∧ w'.cell? ⟨g, off + t * 3 + 1, none⟩ = some (.int .u64 yb.toNat) ∧ w'.cell? ⟨g, off + t * 3 + 2, none⟩ = some (.slice A3 yl.length c3)) (by kernel_rfl) ?_ (fun hHeld => ?_)
                · ((try dsimp only); go_keep)
                take_op 0
                take_op 1
                take_op 2
                take_op 3
                take_op 4
                take_op 5
                take_op 6
                take_op 7
                take_op 8
                take_op 9
                take_op 10
                take_op 11
                take_op 12
                call_op 13 (go_at_call 21; refine (HR1.out _ ?_).mono ?_; (first | exact gz | exact gr_none gz (gr_drew _ _) | exact gr_none gz (gr_drewN _ _ _) | exact gr_refl _ _ | exact gr_drew _ _ | exact gr_drewN _ _ _); rintro e wz ⟨rfl, gz, kzwz⟩) (go_keep)
                take_op 14
                skip_op 15
                skip_op 16
                skip_op 17
                skip_op 18
                skip_op 19
                skip_op 20
                skip_op 21
                skip_op 22
                skip_op 23
                skip_op 24
                take_op 25
                take_op 26
                take_op 27
                take_op 28
                take_op 29
                take_op 30
                take_op 31
                take_op 32
                take_op 33
                take_op 34
                take_op 35
                call_op 36 (go_at_call 22; refine (HR3.out _ ?_).mono ?_; (first | exact gz | exact gr_none gz (gr_drew _ _) | exact gr_none gz (gr_drewN _ _ _) | exact gr_refl _ _ | exact gr_drew _ _ | exact gr_drewN _ _ _); rintro e wz ⟨rfl, gz, kzwz⟩) (go_keep)
                take_op 37
                take_op 38
                refine wpAnyH_done (by kernel_rfl) ?_ _
                go_wp2
                go_roundw
                case rel => exact ⟨t + 1, f, by omega, rfl, by go_num, HN, gr_none HGQ.out (by first | exact gz | exact gr_none gz (gr_drew _ _) | exact gr_none gz (gr_drewN _ _ _) | exact gr_refl _ _ | exact gr_drew _ _ | exact gr_drewN _ _ _)⟩
                case measure => simp [intOf]; omega
              · have HR3 := Lib.hid (HN3.out false (decide_eq_false ha).symm)
                have HN : Hid (FirstIs false m (t + 1) ⟨xa, xb, xl⟩) := HYES.out ⟨HVN.out, .inl hn1, aheadD_not ha (fun e => HVN.out e.symm)⟩
                clear ha hf HN1 HN2 HN3 HNO HYES
                go_wp2_with fail
                refine wp_region_held_drew (S := fun w' => w'.cell? ⟨g, off + k * 3, none⟩ = some (.int .u32 xa.toNat) ∧ w'.cell? ⟨g, off + k * 3 + 1, none⟩ = some (.int .u64 xb.toNat) ∧ w'.cell? ⟨g, off + k * 3 + 2, none⟩ = some (.slice A2 xl.length c2') ∧ w'.cell? ⟨g, off + t * 3, none⟩ = some (.int .u32 ya.toNat) ∧ w'.cell? ⟨g, off + t * 3 + 1, none⟩ = some (.int .u64 yb.toNat) ∧ w'.cell? ⟨g, off + t * 3 + 2, none⟩ = some (.slice A3 yl.length c3)) (by kernel_rfl) ?_ (fun hHeld => ?_)
                · ((try dsimp only); go_keep)
                take_op 0
                take_op 1
                take_op 2
                take_op 3
                take_op 4
                take_op 5
                take_op 6
                take_op 7
                take_op 8
                take_op 9
                take_op 10
                take_op 11
                take_op 12
                call_op 13 (go_at_call 21; refine (HR1.out _ ?_).mono ?_; (first | exact gz | exact gr_none gz (gr_drew _ _) | exact gr_none gz (gr_drewN _ _ _) | exact gr_refl _ _ | exact gr_drew _ _ | exact gr_drewN _ _ _); rintro e wz ⟨rfl, gz, kzwz⟩) (go_keep)
                take_op 14
                skip_op 15
                skip_op 16
                skip_op 17
                skip_op 18
                skip_op 19
                skip_op 20
                skip_op 21
                skip_op 22
                skip_op 23
                skip_op 24
                take_op 25
                take_op 26
                take_op 27
                take_op 28
                take_op 29
                take_op 30
                take_op 31
                take_op 32
                take_op 33
                take_op 34
                take_op 35
                call_op 36 (go_at_call 22; refine (HR3.out _ ?_).mono ?_; (first | exact gz | exact gr_none gz (gr_drew _ _) | exact gr_none gz (gr_drewN _ _ _) | exact gr_refl _ _ | exact gr_drew _ _ | exact gr_drewN _ _ _); rintro e wz ⟨rfl, gz, kzwz⟩) (go_keep)
                take_op 37
                take_op 38
                refine wpAnyH_done (by kernel_rfl) ?_ _
                go_wp2
                go_roundw
                case rel => exact ⟨t + 1, false, by omega, rfl, by go_num, HN, gr_none HGQ.out (by first | exact gz | exact gr_none gz (gr_drew _ _) | exact gr_none gz (gr_drewN _ _ _) | exact gr_refl _ _ | exact gr_drew _ _ | exact gr_drewN _ _ _)⟩
                case measure => simp [intOf]; omega
            · have HR1 := Lib.hid (HN1.out false (decide_eq_false hn1).symm)
              by_cases hn2 : xa ∈ yl
              · have HR2 := Lib.hid (HN2.out true (decide_eq_true hn2).symm)
                by_cases ha : aheadD ⟨xa, xb, xl⟩ ⟨ya, yb, yl⟩
                · have HR3 := Lib.hid (HN3.out true (decide_eq_true ha).symm)
                  have HN : Hid (FirstIs f m (t + 1) ⟨xa, xb, xl⟩) := HNO.out (not_late ha)
                  clear ha hf HN1 HN2 HN3 HNO HYES
                  go_wp2_with fail
                  refine wp_region_held_drew (S := fun w' => w'.cell? ⟨g, off + k * 3, none⟩ = some (.int .u32 xa.toNat) ∧ w'.cell? ⟨g, off + k * 3 + 1, none⟩ = some (.int .u64 xb.toNat) ∧ w'.cell? ⟨g, off + k * 3 + 2, none⟩ = some (.slice A2 xl.length c2') ∧ w'.cell? ⟨g, off + t * 3, none⟩ = some (.int .u32 ya.toNat) ∧ w'.cell? ⟨g, off + t * 3 + 1, none⟩ = some (.int .u64 yb.toNat) ∧ w'.cell? ⟨g, off + t * 3 + 2, none⟩ = some (.slice A3 yl.length c3)) (by kernel_rfl) ?_ (fun hHeld => ?_)
                  · ((try dsimp only); go_keep)
                  take_op 0
                  take_op 1
                  take_op 2
                  take_op 3
                  take_op 4
                  take_op 5
                  take_op 6
                  take_op 7
                  take_op 8
                  take_op 9
                  take_op 10
                  take_op 11
                  take_op 12
                  call_op 13 (go_at_call 21; refine (HR1.out _ ?_).mono ?_; (first | exact gz | exact gr_none gz (gr_drew _ _) | exact gr_none gz (gr_drewN _ _ _) | exact gr_refl _ _ | exact gr_drew _ _ | exact gr_drewN _ _ _); rintro e wz ⟨rfl, gz, kzwz⟩) (go_keep)
                  take_op 14
                  take_op 15
                  take_op 16
                  take_op 17
                  take_op 18
                  take_op 19
                  take_op 20
                  take_op 21
                  take_op 22
                  take_op 23
                  call_op 24 (go_at_call 21; refine (HR2.out _ ?_).mono ?_; (first | exact gz | exact gr_none gz (gr_drew _ _) | exact gr_none gz (gr_drewN _ _ _) | exact gr_refl _ _ | exact gr_drew _ _ | exact gr_drewN _ _ _); rintro e wz ⟨rfl, gz, kzwz⟩) (go_keep)
                  take_op 25
                  take_op 26
                  take_op 27
                  take_op 28
                  take_op 29
                  take_op 30
                  take_op 31
                  take_op 32
                  take_op 33
                  take_op 34
                  take_op 35
                  call_op 36 (go_at_call 22; refine (HR3.out _ ?_).mono ?_; (first | exact gz | exact gr_none gz (gr_drew _ _) | exact gr_none gz (gr_drewN _ _ _) | exact gr_refl _ _ | exact gr_drew _ _ | exact gr_drewN _ _ _); rintro e wz ⟨rfl, gz, kzwz⟩) (go_keep)
                  take_op 37
                  take_op 38
                  refine wpAnyH_done (by kernel_rfl) ?_ _
                  go_wp2
                  go_roundw
                  case rel => exact ⟨t + 1, f, by omega, rfl, by go_num, HN, gr_none HGQ.out (by first | exact gz | exact gr_none gz (gr_drew _ _) | exact gr_none gz (gr_drewN _ _ _) | exact gr_refl _ _ | exact gr_drew _ _ | exact gr_drewN _ _ _)⟩
                  case measure => simp [intOf]; omega
                · have HR3 := Lib.hid (HN3.out false (decide_eq_false ha).symm)
                  have HN : Hid (FirstIs false m (t + 1) ⟨xa, xb, xl⟩) := HYES.out ⟨HVN.out, .inr hn2, aheadD_not ha (fun e => HVN.out e.symm)⟩
                  clear ha hf HN1 HN2 HN3 HNO HYES
                  go_wp2_with fail
                  refine wp_region_held_drew (S := fun w' => w'.cell? ⟨g, off + k * 3, none⟩ = some (.int .u32 xa.toNat) ∧ w'.cell? ⟨g, off + k * 3 + 1, none⟩ = some (.int .u64 xb.toNat) ∧ w'.cell? ⟨g, off + k * 3 + 2, none⟩ = some (.slice A2 xl.length c2') ∧ w'.cell? ⟨g, off + t * 3, none⟩ = some (.int .u32 ya.toNat) ∧ w'.cell? ⟨g, off + t * 3 + 1, none⟩ = some (.int .u64 yb.toNat) ∧ w'.cell? ⟨g, off + t * 3 + 2, none⟩ = some (.slice A3 yl.length c3)) (by kernel_rfl) ?_ (fun hHeld => ?_)
                  · ((try dsimp only); go_keep)
                  take_op 0
                  take_op 1
                  take_op 2
                  take_op 3
                  take_op 4
                  take_op 5
                  take_op 6
                  take_op 7
                  take_op 8
                  take_op 9
                  take_op 10
                  take_op 11
                  take_op 12
                  call_op 13 (go_at_call 21; refine (HR1.out _ ?_).mono ?_; (first | exact gz | exact gr_none gz (gr_drew _ _) | exact gr_none gz (gr_drewN _ _ _) | exact gr_refl _ _ | exact gr_drew _ _ | exact gr_drewN _ _ _); rintro e wz ⟨rfl, gz, kzwz⟩) (go_keep)
                  take_op 14
                  take_op 15
                  take_op 16
                  take_op 17
                  take_op 18
                  take_op 19
                  take_op 20
                  take_op 21
                  take_op 22
                  take_op 23
                  call_op 24 (go_at_call 21; refine (HR2.out _ ?_).mono ?_; (first | exact gz | exact gr_none gz (gr_drew _ _) | exact gr_none gz (gr_drewN _ _ _) | exact gr_refl _ _ | exact gr_drew _ _ | exact gr_drewN _ _ _); rintro e wz ⟨rfl, gz, kzwz⟩) (go_keep)
                  take_op 25
                  take_op 26
                  take_op 27
                  take_op 28
                  take_op 29
                  take_op 30
                  take_op 31
                  take_op 32
                  take_op 33
                  take_op 34
                  take_op 35
                  call_op 36 (go_at_call 22; refine (HR3.out _ ?_).mono ?_; (first | exact gz | exact gr_none gz (gr_drew _ _) | exact gr_none gz (gr_drewN _ _ _) | exact gr_refl _ _ | exact gr_drew _ _ | exact gr_drewN _ _ _); rintro e wz ⟨rfl, gz, kzwz⟩) (go_keep)
                  take_op 37
                  take_op 38
                  refine wpAnyH_done (by kernel_rfl) ?_ _
                  go_wp2
                  go_roundw
                  case rel => exact ⟨t + 1, false, by omega, rfl, by go_num, HN, gr_none HGQ.out (by first | exact gz | exact gr_none gz (gr_drew _ _) | exact gr_none gz (gr_drewN _ _ _) | exact gr_refl _ _ | exact gr_drew _ _ | exact gr_drewN _ _ _)⟩
                  case measure => simp [intOf]; omega
              · have HR2 := Lib.hid (HN2.out false (decide_eq_false hn2).symm)
                have HN : Hid (FirstIs f m (t + 1) ⟨xa, xb, xl⟩) := HNO.out (fun h => h.2.1.elim hn1 hn2)
                clear hf HN1 HN2 HN3 HNO HYES
                go_wp2_with fail
                refine wp_region_held_drew (S := fun w' => w'.cell? ⟨g, off + k * 3, none⟩ = some (.int .u32 xa.toNat) ∧ w'.cell? ⟨g, off + k * 3 + 1, none⟩ = some (.int .u64 xb.toNat) ∧ w'.cell? ⟨g, off + k * 3 + 2, none⟩ = some (.slice A2 xl.length c2') ∧ w'.cell? ⟨g, off + t * 3, none⟩ = some (.int .u32 ya.toNat) ∧ w'.cell? ⟨g, off + t * 3 + 1, none⟩ = some (.int .u64 yb.toNat) ∧ w'.cell? ⟨g, off + t * 3 + 2, none⟩ = some (.slice A3 yl.length c3)) (by kernel_rfl) ?_ (fun hHeld => ?_)
                · ((try dsimp only); go_keep)
                take_op 0
                take_op 1
                take_op 2
                take_op 3
                take_op 4
                take_op 5
                take_op 6
                take_op 7
                take_op 8
                take_op 9
                take_op 10
                take_op 11
                take_op 12
                call_op 13 (go_at_call 21; refine (HR1.out _ ?_).mono ?_; (first | exact gz | exact gr_none gz (gr_drew _ _) | exact gr_none gz (gr_drewN _ _ _) | exact gr_refl _ _ | exact gr_drew _ _ | exact gr_drewN _ _ _); rintro e wz ⟨rfl, gz, kzwz⟩) (go_keep)
                take_op 14
                take_op 15
                take_op 16
                take_op 17
                take_op 18
                take_op 19
                take_op 20
                take_op 21
                take_op 22
                take_op 23
                call_op 24 (go_at_call 21; refine (HR2.out _ ?_).mono ?_; (first | exact gz | exact gr_none gz (gr_drew _ _) | exact gr_none gz (gr_drewN _ _ _) | exact gr_refl _ _ | exact gr_drew _ _ | exact gr_drewN _ _ _); rintro e wz ⟨rfl, gz, kzwz⟩) (go_keep)
                take_op 25
                take_op 26
                take_op 27
                skip_op 28
                skip_op 29
                skip_op 30
                skip_op 31
                skip_op 32
                skip_op 33
                skip_op 34
                skip_op 35
                skip_op 36
                skip_op 37
                take_op 38
                refine wpAnyH_done (by kernel_rfl) ?_ _
                go_wp2
                go_roundw
                case rel => exact ⟨t + 1, f, by omega, rfl, by go_num, HN, gr_none HGQ.out (by first | exact gz | exact gr_none gz (gr_drew _ _) | exact gr_none gz (gr_drewN _ _ _) | exact gr_refl _ _ | exact gr_drew _ _ | exact gr_drewN _ _ _)⟩
                case measure => simp [intOf]; omega
        · obtain rfl : t = m.length := by omega
          have HFF : Hid (f = true ↔ ¬ lateD (m.map Cd.d) ⟨xa, xb, xl⟩) := by
            have := hf.out
            unfold FirstIs at this
            rw [List.take_length] at this
            exact this
          have HOW := Lib.hid (Own.ext ho.out HGQ.out)
          have HGW := Lib.hid (gr_none HG0.out HGQ.out)
          clear hf ho
          cases f
          · have HN : Hid (OutIs out m (k + 1)) := HSKIP.out (by
              refine Classical.byContradiction fun hc => ?_
              have := HFF.out.2 hc
              cases this)
            go_wp2
            go_roundw
            case rel => exact ⟨k + 1, out, by omega, by go_num, HOW, HN, by omega, HGW.out, HWO.out⟩
            case measure => simp [intOf]; omega
          · have HRC := Lib.hid (rising_any _ out xa w2.heap.size wo HOW.out HWO.out.size (by omega) HRO.out HFR.out)
            obtain ⟨h0, h1, h2⟩ := at3C HC.out HWO.out hlt HX.out
            go_wp2_with fail
            refine HRC.out.mono ?_
            rintro e w6 ⟨v6, out6, rfl, o6, r6, m6, l6, g6⟩
            have HN : Hid (OutIs out6 m (k + 1)) := HADD.out out6 (HFF.out.1 (by first | exact trivial | rfl)) r6 m6
            have O6 := Lib.hid o6
            have hg6 := g6 w hz2 HGW.out
            have hg7 := g6 w2 (Nat.le_refl _) HWO.out
            clear o6 r6 m6 g6
            go_wp2
            go_roundw
            case rel => exact ⟨k + 1, out6, by omega, by go_num, O6, HN, by omega, hg6, hg7⟩
            case measure => simp [intOf]; omega
    · obtain rfl : k = m.length := by omega
      have HP : Hid (PickOf (onceD (l.map Cd.d)) out) := by
        have := hout.out
        unfold OutIs at this
        rw [List.take_length, HM.out] at this
        exact this
      clear hout
      go_wp2
      go_ret
      exact ⟨⟨_, out, rfl, Own.mono ho.out hz2, HP.out⟩, HG0.out⟩
end Go.Proofs.Ytbdieifggciopaa

/-
  Hub: the walk of HubOrder.
-/
import Derived.Test.YtfgkmimhibpceaaHl2
import Derived.Test.YtfgkmimhibpceaaHbo
namespace Go.Proofs.Ytfgkmimhibpceaa
open Go.RowKit
set_option maxRecDepth 100000
set_option maxHeartbeats 400000

def twice (up : List Ed) (k : Nat) : List Ed := (up.drop k).reverse.flatMap fun e => [e, e]
theorem twice_len (up : List Ed) : twice up up.length = [] := by simp [twice]
theorem twice_step {up : List Ed} {k : Nat} (hk : k < up.length) : twice up k = twice up (k + 1) ++ [up[k], up[k]] := by
  unfold twice
  rw [List.drop_eq_getElem_cons hk, List.reverse_cons, List.flatMap_append]; simp
theorem flat2 (l : List Ed) : (l.flatMap fun e => [e, e]).length = l.length * 2 := by
  induction l with
  | nil => rfl
  | cons a l ih => rw [List.flatMap_cons, List.length_append, ih, List.length_cons]; simp; omega
theorem twice_le (up : List Ed) (k : Nat) : (twice up k).length ≤ 2 * up.length := by
  unfold twice
  rw [flat2, List.length_reverse, List.length_drop]; omega
theorem twice_mem (up : List Ed) (e : Ed) : e ∈ twice up 0 ↔ e ∈ up := by
  unfold twice
  simp [List.mem_flatMap]
/-- append of edges, in a region. -/
theorem step_appE {ops : Array Oper} {q : Oper} {a : Act} {w : World} {K : Act → World → Prop} {Q : Exit → Act → World → Prop} {E : Prop} (hg : q.guard = none) (s0 x0 : Operand) (ho : q.op = .call { callee := .builtin .append, args := #[s0, x0], argTypes := #[23, 23] })
    {B : Nat} {v x : Value} {l m : List Ed} (hs : a.eval s0 = v) (hown : OwnE w B v l) (hx : a.eval x0 = x) (hr : RdE w x m) (hn : l.length + m.length ≤ 1000000000) (hB : B ≤ w.heap.size)
    (hK : ∀ v' w', OwnE w' B v' (l ++ m) → w.grownBy w' v.ownBlock → K (a.put q.dst v') w') : if Region.wanted q (yielded ops a.tmps) = true then Oper.wp Try.prog q a w K Q else E := by
  have hw : Region.wanted q (yielded ops a.tmps) = true := by simp [Region.wanted, hg]
  rw [if_pos hw]
  obtain ⟨v', w', hrun, h2, h3, h4⟩ := run_app (P := Try.prog) w B 23 q.type 49 _ 4 24 Try.underlying23 Try.infoE rfl (by omega) v _ _ hown x _ _ hr (ed_one m) (by unfold maxLen; omega) (by omega) hB
  unfold Oper.wp execOp
  simp only [ho, resolve, invoke, builtin, Sem.run_bind, Sem.run_pure, Result.andThen_ok, List.map_toArray, List.map_cons, List.map_nil, hs, hx, hrun]
  exact hK _ _ (ownE_app h2) h3
theorem gr_some {w wr wx : World} {r : Option Nat} (h : w.grownBy wr none) (hg : wr.grownBy wx r) (hr : ∀ g, r = some g → w.heap.size ≤ g) : w.grownBy wx none := gr_trans h hg (.inr hr)
set_option maxHeartbeats 4000000 in
theorem hubOrder_any (v : UInt32) (ev sv : Value) (up : List Ed) (all : List Ow) (w : World) (hE : RdE w ev up) (hS : RdS w sv all) :
    Calls Try.prog 9 #[.int .u32 v.toNat, ev, sv] w fun e w' => e = .returned (.bool true) ∧ w.grownBy w' none := by
  have hmax2 : up.length ≤ maxLen := by obtain ⟨_, _, _, _, _, _, h1, h2, _⟩ := hE; omega
  unfold maxLen at hmax2
  have HW := Lib.hid works_any
  have HLG := Lib.hid (large_any sv all w hS)
  have HE := Lib.hid hE
  have HS := Lib.hid hS
  obtain ⟨AE, cE, rfl⟩ := hE.form
  obtain ⟨AS, cS, rfl⟩ := hS.1.form
  obtain ⟨g, off, hA, _, hcells⟩ := hE.at_ ed4
  have HA := Lib.hid hA
  have HC := Lib.hid hcells
  clear hE hS hA hcells
  by_cases h60 : up.length ≤ 60
  · go_enter Try.func9, Try.ntmps9
    go_wp2_with fail
    refine HLG.out.mono ?_
    rintro e w1 ⟨⟨b, rfl, hb⟩, g1⟩
    have G1 := Lib.hid g1
    have HB := Lib.hid hb
    clear hb g1
    cases b
    · obtain ⟨ha, hm⟩ := large_len (HB.out rfl)
      have HM := Lib.hid hm
      clear hm
      have HAD := Lib.hid fun (wx : World) (hg : w.grownBy wx none) (u : Value) (l : List Ed) (sp : Nat) (hu : RdE wx u l) (hl : l.length ≤ 400) (hs : wx.cell? ⟨sp, 0, none⟩ = some (.slice AS all.length cS)) => add_of v u l sp _ all wx hu hl hs (HS.out.ext hg) ha HM.out
      go_wp2
      have G2 : Hid (w.grownBy (w1.alloc (.cells #[.slice AS all.length cS] 29)) none) := gr_none G1.out (gr_alloc _ _ _)
      have HSP : Hid ((w1.alloc (.cells #[.slice AS all.length cS] 29)).cell? ⟨w1.heap.size, 0, none⟩ = some (.slice AS all.length cS)) := by show _ = _; rw [cell_new]; rfl
      have HZ1 : w1.heap.size < (w1.alloc (.cells #[.slice AS all.length cS] 29)).heap.size := by simp
      have hzw := G1.out.size
      go_loopw [9, 8] (fun i u wr => ∃ k : Nat, k ≤ up.length ∧ i = .int .i64 ((k : Int) - 1) ∧ Hid (OwnE wr (w1.heap.size + 1) u (twice up k)) ∧ (w1.alloc (.cells #[.slice AS all.length cS] 29)).grownBy wr none) (fun i _ _ => (intOf i + 1).toNat)
      case atStart => exact ⟨up.length, by omega, rfl, Lib.hid (by rw [twice_len]; exact OwnG.nil _ _ _ _), gr_refl _ _⟩
      case round =>
        obtain ⟨k, hk, rfl, ho, hg⟩ := hrel
        have hz := hg.size
        rw [World.size_alloc] at hz
        rcases k with _ | k
        · have GW := Lib.hid (gr_none G2.out hg)
          have HSR := Lib.hid (hg.cell HSP.out (by simp))
          have HO := ho
          have hlen : (twice up 0).length ≤ 400 := by have := twice_le up 0; omega
          obtain ⟨A8, c8, rfl⟩ := ho.out.rd.form
          have HA1 := Lib.hid (HAD.out wr GW.out _ up w1.heap.size (HE.out.ext GW.out) (by omega) HSR.out)
          have HAD2 := Lib.hid fun (wx : World) (hg : wr.grownBy wx none) => HAD.out wx (gr_none GW.out hg) _ _ w1.heap.size (HO.out.rd.ext hg) hlen (hg.cell HSR.out (by simp))
          have HAL := Lib.hid (addL_mem v (ofS all) (twice_mem up))
          have HRI := Lib.hid (BestL.add v up (ofS all)).1
          rw [HAL.out] at HAD2
          clear hg ho
          generalize (twice up 0).length = n8 at *
          generalize addL v up (ofS all) = AL at *
          go_wp2_with fail
          refine HA1.out.mono ?_
          rintro e w4 ⟨⟨u4, rfl, ho4, hl4⟩, g4⟩
          have HAD3 := Lib.hid (HAD2.out w4 g4)
          obtain ⟨A4, c4, rfl⟩ := ho4.rd.form
          have G4 := Lib.hid (gr_none GW.out g4)
          have HO4 := Lib.hid ho4.rd
          clear ho4 g4
          go_wp2_with fail
          refine HAD3.out.mono ?_
          rintro e w5 ⟨⟨u5, rfl, ho5, -⟩, g5⟩
          obtain ⟨A5, c5, rfl⟩ := ho5.rd.form
          have G5 := Lib.hid (gr_none G4.out g5)
          have HO5 := Lib.hid (HO4.out.ext g5)
          have HQ5 := Lib.hid (eqL_any _ _ _ _ w5 HO5.out ho5.rd (by omega) (by omega))
          clear ho5 g5
          go_wp2_with fail
          refine HQ5.out.mono ?_
          rintro e w6 ⟨⟨b, rfl, hb⟩, g6⟩
          obtain rfl : b = true := by first | exact hb.2 rfl | exact hb.2 trivial
          have G6 := Lib.hid (gr_none G5.out g6)
          have HQ6 := Lib.hid (right_any _ _ w6 (HO5.out.ext g6) (by omega))
          clear hb g6
          go_wp2_with fail
          refine HQ6.out.mono ?_
          rintro e w7 ⟨⟨b, rfl, hb⟩, g7⟩
          obtain rfl : b = true := hb.2 HRI.out
          have G7 := Lib.hid (gr_none G6.out g7)
          clear hb g7
          go_wp2_with fail
          refine (HW.out _).mono ?_
          rintro e w9 ⟨rfl, g9⟩
          have G9 := Lib.hid (gr_none G7.out g9)
          clear g9
          go_wp2
          go_ret
          exact ⟨rfl, G9.out⟩
        · have hlt : k < up.length := by omega
          have := HA.out (by omega)
          subst this
          rcases hx : up[k] with ⟨ea, eb, ec, ed⟩
          have GW := Lib.hid (gr_none G2.out hg)
          obtain ⟨c0, c1, c2, c3⟩ := at4E HC.out GW.out hlt hx
          have HT := Lib.hid (twice_step hlt)
          rw [hx] at HT
          have hlen := twice_le up (k + 1)
          have e1 : ((k + 1 : Nat) : Int) - 1 = (k : Int) := by push_cast; omega
          rw [e1]
          have HX := Lib.hid hx
          clear hx
          generalize twice up (k + 1) = TW at *
          obtain ⟨Au, cu, rfl⟩ := ho.out.rd.form
          go_wp2_with fail
          have hB1 : w1.heap.size + 1 ≤ wr.heap.size := hz
          have HOX : Hid (∀ wx, wr.grownBy wx none → OwnE wx (w1.heap.size + 1) (.slice Au TW.length cu) TW) := fun wx hx => ho.out.ext hx
          have HRX : Hid (∀ wx, (wr.alloc (.cells #[.int .u32 ea.toNat, .int .u32 eb.toNat, .int .u64 ec.toNat, .int .u32 ed.toNat, .int .u32 ea.toNat, .int .u32 eb.toNat, .int .u64 ec.toNat, .int .u32 ed.toNat] 49)).grownBy wx none → RdE wx (.slice (some ⟨wr.heap.size, 0, none⟩) 2 2) [⟨ea, eb, ec, ed⟩, ⟨ea, eb, ec, ed⟩]) := fun wx hx =>
            RdG.ext (rd_lit wr 4 2 2 #[.int .u32 ea.toNat, .int .u32 eb.toNat, .int .u64 ec.toNat, .int .u32 ed.toNat, .int .u32 ea.toNat, .int .u32 eb.toNat, .int .u64 ec.toNat, .int .u32 ed.toNat] _ rfl (Nat.le_refl _) (by unfold maxLen; omega)) hx
          have HGX : Hid (∀ wx wy, wr.grownBy wx none → wx.grownBy wy (Value.slice Au TW.length cu).ownBlock → (w1.alloc (.cells #[.slice AS all.length cS] 29)).grownBy wy none) := fun wx wy h1 h2 => gr_trans (gr_none hg h1) h2 (.inr fun q e => by have := ho.out.lt q e; rw [World.size_alloc]; exact this)
          have HKX : Hid (∀ wy, (w1.alloc (.cells #[.slice AS all.length cS] 29)).grownBy wy none → wy.cell? ⟨g, off + k * 4, none⟩ = some (.int .u32 ea.toNat) ∧ wy.cell? ⟨g, off + k * 4 + 1, none⟩ = some (.int .u32 eb.toNat) ∧ wy.cell? ⟨g, off + k * 4 + 2, none⟩ = some (.int .u64 ec.toNat) ∧ wy.cell? ⟨g, off + k * 4 + 3, none⟩ = some (.int .u32 ed.toNat)) := fun wy h => at4E HC.out (gr_none G2.out h) hlt HX.out
          clear ho hg
          go_region_held3 (fun w' => w'.cell? ⟨g, off + k * 4, none⟩ = some (.int .u32 ea.toNat) ∧ w'.cell? ⟨g, off + k * 4 + 1, none⟩ = some (.int .u32 eb.toNat) ∧ w'.cell? ⟨g, off + k * 4 + 2, none⟩ = some (.int .u64 ec.toNat) ∧ w'.cell? ⟨g, off + k * 4 + 3, none⟩ = some (.int .u32 ed.toNat)) (first | exact k6 | go_keep)
            (first
              | (refine step_appE (B := w1.heap.size + 1) (by rfl) (l := TW) (m := [⟨ea, eb, ec, ed⟩, ⟨ea, eb, ec, ed⟩]) (.tmp 29) (.tmp 38) (by rfl) (by rfl) (HOX.out _ ?_) (by rfl) (HRX.out _ ?_) ?_ ?_ ?_; exact gr_none (gr_alloc _ _ none) (gr_drew _ none); exact gr_drew _ none; (simp; omega); (simp [World.drew]; omega); rintro v6 w6 o6 g6; have G6 : (w1.alloc (.cells #[.slice AS all.length cS] 29)).grownBy w6 none := HGX.out _ _ (gr_none (gr_alloc _ _ none) (gr_drew _ none)) g6; have k6 := HKX.out _ G6; have O6 := Lib.hid o6; clear g6 o6))
          go_wp2
          go_roundw
          case rel => exact ⟨k, by omega, by go_num, by rw [HT.out]; exact O6, G6⟩
          case measure => simp [intOf]
    · go_wp2_with fail
      refine (HW.out _).mono ?_
      rintro e w3 ⟨rfl, g3⟩
      have G3 := Lib.hid (gr_none G1.out g3)
      clear g3
      go_wp2
      go_ret
      exact ⟨rfl, G3.out⟩
  · have hgt : 60 < up.length := by omega
    go_enter Try.func9, Try.ntmps9
    go_wp2_with fail
    refine (HW.out _).mono ?_
    rintro e w3 ⟨rfl, g3⟩
    have G3 := Lib.hid g3
    clear g3
    go_wp2
    go_ret
    exact ⟨rfl, G3.out⟩
end Go.Proofs.Ytfgkmimhibpceaa

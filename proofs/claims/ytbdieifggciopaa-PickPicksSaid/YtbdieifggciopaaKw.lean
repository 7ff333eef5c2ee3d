/-
  Pick: the walk of pick.Pick.
-/
import Derived.Test.YtbdieifggciopaaKp
namespace Go.Proofs.Ytbdieifggciopaa
open Go.RowKit
set_option maxRecDepth 100000
set_option maxHeartbeats 400000

def domF (F : UInt32 → Option Cd) (v : UInt32) : Option Value := (F v).map Cd.agg
theorem Try.zeroCd (w : World) : (zeroValue 33).run Try.prog w = .ok (.agg #[.int .u32 0, .int .u64 0, .slice none 0 0]) w := Try.zeroValue33 w
theorem domF_put {l : List Cd} {k : Nat} (hk : k < l.length) (hn : firstC (l.take k) l[k].d.v = none) : (fun z => if z = l[k].d.v then some l[k].agg else domF (firstC (l.take k)) z) = domF (firstC (l.take (k + 1))) := by
  funext z
  unfold domF
  rw [firstC_take hk]
  by_cases e : z = l[k].d.v
  · subst e
    rw [hn, if_pos rfl, if_pos rfl]; rfl
  · rw [if_neg e, if_neg (fun h => e h.symm)]
    cases firstC (l.take k) z <;> rfl
theorem firstC_keep {l : List Cd} {k : Nat} (hk : k < l.length) {o : Cd} (hs : firstC (l.take k) l[k].d.v = some o) : firstC (l.take (k + 1)) = firstC (l.take k) := by
  funext z
  rw [firstC_take hk]
  by_cases e : l[k].d.v = z
  · rw [← e, hs]; rfl
  · rw [if_neg e]; simp
/-- what Pick leaves. -/
def PickOut (w : World) (l : List Cd) (e : Ending) (w' : World) : Prop := (∃ u out, e = .returned u ∧ OwnU w' w.heap.size u out ∧ PickOf (onceD (l.map Cd.d)) out) ∧ w.grownBy w' none
set_option maxHeartbeats 8000000 in
theorem pick_any (v : Value) (l : List Cd) (w : World) (h : RdC w v l) (hn : l.length ≤ 1000) (hs : ∀ x ∈ l, x.d.near.length ≤ 5000) :
    Calls Try.prog 12 #[v] w (PickOut w l) := by
  obtain ⟨A, c, rfl⟩ := h.form
  obtain ⟨g, off, hA, _, hcells⟩ := h.1.at_ cd3
  have HA := Lib.hid hA
  have HC := Lib.hid hcells
  have HL := Lib.hid h.2
  have HNL := Lib.hid hs
  have hmm := @run_makeMap Try.prog
  clear hA hcells h hs
  go_enter Try.func12, Try.ntmps12
  go_wp2
  go_loopw [22] (fun i wr => ∃ k n : Nat, k ≤ l.length ∧ i = .int .i64 k ∧ n ≤ k ∧ Hid (VM jU wr w.heap.size n (domF (firstC (l.take k)))) ∧ w.grownBy wr none) (fun i _ => l.length - (intOf i).toNat)
  case atStart => exact ⟨0, 0, by omega, rfl, by omega, VM.made jU w, gr_alloc _ _ _⟩
  case round =>
    obtain ⟨k, n, hk, rfl, hnk, hm, hg⟩ := hrel
    by_cases hlt : k < l.length
    · have := HA.out (by omega)
      subst this
      have HPUT := Lib.hid (domF_put hlt)
      have HKEEP := Lib.hid (fun (o : Cd) (h : firstC (l.take k) l[k].d.v = some o) => firstC_keep hlt h)
      have hmem := fun (o : Cd) (h : firstC (l.take k) l[k].d.v = some o) => HL.out o (List.mem_of_mem_take (firstC_mem h))
      rcases hx : l[k] with ⟨⟨xa, xb, xl⟩, xs⟩
      have HXL : Hid (RdU w xs xl) := by have := HL.out _ (List.getElem_mem hlt); rw [hx] at this; exact this
      obtain ⟨c0, c1, c2⟩ := at3C HC.out hg hlt hx
      rw [hx] at HPUT HKEEP hmem
      have HG := Lib.hid hg
      clear hx hg
      obtain ⟨A2, c2', rfl⟩ := RdU.form HXL.out
      have G1 := Lib.hid (gr_alloc wr (.cells #[.int .u32 xa.toNat, .int .u64 xb.toNat, .slice A2 xl.length c2'] 33) none)
      have hlk := (hm.out.ext G1.out).look2 Try.underlying40 (Try.zeroCd _) xa
      cases hb : firstC (l.take k) xa with
      | none =>
        have hd : domF (firstC (l.take k)) xa = none := by unfold domF; rw [hb]; rfl
        simp only [hd] at hlk
        change (Instr.lookup 40 (.map (some w.heap.size)) (.int .u32 xa.toNat) true).run Try.prog _ = .ok (.tuple #[.agg #[.int .u32 0, .int .u64 0, .slice none 0 0], .bool false]) _ at hlk
        have HP := Lib.hid (HPUT.out hb)
        clear hb hd hmem HPUT HKEEP
        go_wp2_with (at_mapUpdate; refine wp_vm_put (J := jU) rfl _ _ _ rfl Try.underlying40 (hm.out.ext (gr_none G1.out (gr_alloc _ _ none))) rfl (by unfold maxLen; omega) xa rfl _ rfl ?_; intro w4 hm4 g4)
        go_roundw
        case rel => exact ⟨k + 1, n + 1, by omega, by go_num, by omega, by rw [← HP.out]; exact hm4, gr_trans (gr_none HG.out (gr_none G1.out (gr_alloc _ _ none))) g4 (.inr fun k e => by cases e; exact Nat.le_refl _)⟩
        case measure => simp [intOf]; omega
      | some old =>
        obtain ⟨⟨oa, ob, ol⟩, os⟩ := old
        have hol : RdU w os ol := hmem _ hb
        obtain ⟨A3, c3, rfl⟩ := RdU.form hol
        have hd : domF (firstC (l.take k)) xa = some (Cd.agg ⟨⟨oa, ob, ol⟩, .slice A3 ol.length c3⟩) := by unfold domF; rw [hb]; rfl
        simp only [hd] at hlk
        change (Instr.lookup 40 (.map (some w.heap.size)) (.int .u32 xa.toNat) true).run Try.prog _ = .ok (.tuple #[.agg #[.int .u32 oa.toNat, .int .u64 ob.toNat, .slice A3 ol.length c3], .bool true]) _ at hlk
        have HP := Lib.hid (HKEEP.out _ hb)
        clear hb hd hmem HPUT HKEEP hol
        go_wp2
        go_roundw
        case rel => exact ⟨k + 1, n, by omega, by go_num, by omega, by rw [HP.out]; exact hm.out.ext (gr_none G1.out (gr_alloc _ _ none)), gr_none HG.out (gr_none G1.out (gr_alloc _ _ none))⟩
        case measure => simp [intOf]; omega
    · obtain rfl : k = l.length := by omega
      have HM : Hid (VM jU wr w.heap.size n (domF (firstC l))) := by have := hm.out; rw [List.take_length] at this; exact this
      have HG := Lib.hid hg
      have hz := hg.size
      have hmlt : w.heap.size < wr.heap.size := HM.out.lt
      have HF := Lib.hid (fun (u : UInt32) (a : Cd) (h : firstC l u = some a) => (⟨HL.out a (firstC_mem h), HNL.out a (firstC_mem h)⟩ : RdU w a.s a.d.near ∧ a.d.near.length ≤ 5000))
      clear hm hg HA HC HNL
      have HW3 : Hid (wr.grownBy ((wr.alloc (.map #[] 0)).alloc (.cells #[.map (some wr.heap.size)] 42)) none) := gr_none (gr_alloc _ _ none) (gr_alloc _ _ none)
      have HLS : Hid (LateS ((wr.alloc (.map #[] 0)).alloc (.cells #[.map (some wr.heap.size)] 42)) (wr.heap.size + 1) wr.heap.size 0 (fun _ => false)) :=
        ⟨by have := Blk.new (wr.alloc (.map #[] 0)) 42 #[.map (some wr.heap.size)]; simpa using this, (VM.made jU wr).ext (gr_alloc _ _ none)⟩
      go_wp2_with (at_range; refine wp_vm_range (J := jU) rfl _ rfl Try.underlying40 (HM.out.ext HW3.out) rfl ?_; intro w0 cnt hcnt hvr g0 hz0)
      go_frame
      have e0 : (fun x => (domF (firstC l) x).isSome) = fun v => (firstC l v).isSome := by
        funext x; unfold domF; cases firstC l x <;> rfl
      rw [e0] at hvr
      have hr0 : ((wr.alloc (.map #[] 0)).alloc (.cells #[.map (some wr.heap.size)] 42)).heap.size = wr.heap.size + 2 := by simp
      rw [hr0] at hvr ⊢
      have HVR := Lib.hid hvr
      have HLS0 := Lib.hid (HLS.out.ext g0)
      have G0 := Lib.hid (gr_none HG.out (gr_none HW3.out g0))
      have hz0' : w0.heap.size = wr.heap.size + 3 := by omega
      clear hvr g0 hz0 e0 HLS HW3 HM hr0
      generalize wr.heap.size = ml at *
      go_loopw [45] (fun _ wq => ∃ (left S : UInt32 → Bool) (cn n2 : Nat), VR jU wq w.heap.size (ml + 2) n (domF (firstC l)) left cn ∧ LateS wq (ml + 1) ml n2 S ∧ Hid (LS (firstC l) left S) ∧ n2 + 5001 * cn ≤ 5001 * 1000 ∧ w.grownBy wq none ∧ ml + 3 ≤ wq.heap.size) (fun _ wq => wq.rangeLeft w.heap.size (ml + 2))
      case atStart => exact ⟨_, _, cnt, 0, HVR.out, HLS0.out, Lib.hid (LS.start _), by omega, G0.out, by omega⟩
      case round =>
        obtain ⟨left, S, cn, n2, hvr, hls, hS, hn2, hg, hzq⟩ := hrel
        have HLF := Lib.hid hvr.left_eq
        have HG2 := Lib.hid hg
        have HLT := Lib.hid hls
        clear hg hls HLS0 HVR G0
        go_wp2_with (at_next; refine wp_vm_next (J := jU) rfl _ rfl hvr rfl ?_ ?_)
        · intro h0 hl0
          have HL0 := Lib.hid hl0
          have HVM := Lib.hid hvr.vm
          have hcb := HLT.out.box.cell 0
          clear hvr hl0 hn2 HLF
          go_wp2_with (at_range; refine wp_vm_range (J := jU) rfl _ rfl Try.underlying40 HVM.out rfl ?_; intro w3 cn3 hcn3 hvr3 g3 hz3)
          go_frame
          have e0 : (fun x => (domF (firstC l) x).isSome) = fun v => (firstC l v).isSome := by
            funext x; unfold domF; cases firstC l x <;> rfl
          rw [e0] at hvr3
          have HVR3 := Lib.hid hvr3
          have HLT3 := Lib.hid (HLT.out.ext g3)
          have HG3 := Lib.hid (gr_none HG2.out g3)
          clear hvr3 g3 e0 HLT HVM hcb
          obtain ⟨w9, rfl⟩ : ∃ w9, w9 = wr := ⟨_, rfl⟩
          generalize w9.heap.size = r3 at *
          go_loopw [2] (fun u wq => ∃ (left2 : UInt32 → Bool) (cn : Nat) (out : List UInt32), VR jU wq w.heap.size r3 n (domF (firstC l)) left2 cn ∧ LateS wq (ml + 1) ml n2 S ∧ Hid (OutI (firstC l) left2 S out) ∧ Hid (OwnU wq (r3 + 1) u out) ∧ out.length + cn ≤ n ∧ w.grownBy wq none ∧ r3 + 1 ≤ wq.heap.size) (fun _ wq => wq.rangeLeft w.heap.size r3)
          case atStart => exact ⟨_, cn3, [], HVR3.out, HLT3.out, Lib.hid (OutI.start _ _), Own.nil _ _ _, by simpa using hcn3, HG3.out, by omega⟩
          case round =>
            clear HVR3 HLT3 HG3 hz3
            obtain ⟨left2, cn, out, hvr, hls, ho, hown, hol, hg, hzq3⟩ := hrel
            obtain ⟨wo, rfl⟩ : ∃ wo, wo = wr := ⟨_, rfl⟩
            have HLF := Lib.hid hvr.left_eq
            have HG4 := Lib.hid hg
            have HLT4 := Lib.hid hls
            clear hg hls
            go_wp2_with (at_next; refine wp_vm_next (J := jU) rfl _ rfl hvr rfl ?_ ?_)
            · intro h1 hl1
              have HOI : Hid (OutI (firstC l) left S out) := ⟨ho.out.1, fun v => by rw [ho.out.2 v, hl1 v, HL0.out v]⟩
              have HSO := Lib.hid (sort_any _ _ out wo hown.out (by omega))
              clear hvr hl1 ho
              go_wp2_with fail
              refine HSO.out.mono ?_
              rintro e w5 ⟨rfl, ⟨out', hp, hr, ho5⟩, g5⟩
              have HPK := Lib.hid (pick_plain HL0.out hS.out HOI.out hp hr)
              have HO5 := Lib.hid ho5
              have HG5 : Hid (w.grownBy w5 none) := gr_trans HG4.out g5 (.inr fun q e => by have := hown.out.lt q e; omega)
              clear hp hr ho5 g5
              go_wp2
              go_ret
              exact ⟨⟨_, out', rfl, HO5.out.mono (by omega), HPK.out⟩, HG5.out⟩
            · intro x u w2 cnt' hlx hdx hvr2 hlt2 g2 hz2 hen
              obtain ⟨a, ha, hu⟩ : ∃ a, firstC l x = some a ∧ a.agg = u := by
                unfold domF at hdx
                exact Option.map_eq_some_iff.1 hdx
              subst hu
              unfold Cd.agg at hen ⊢
              have ek : jU.kv x = .int .u32 x.toNat := rfl
              rw [ek] at hen ⊢
              clear ek
              have HSM : Hid ((firstC l x).isSome = true) := by show _ = _; rw [ha]; rfl
              have HG5 : Hid (w.grownBy w2 none) := gr_trans HG4.out g2 (.inr fun q e => by cases e; omega)
              have HLT5 : Hid (LateS w2 (ml + 1) ml n2 S) := HLT4.out.gr g2 (by simp; omega) (by simp; omega)
              have HV2 := Lib.hid hvr2
              have HO2 : Hid (OwnU w2 (r3 + 1) _ out) := Own.gr hown.out g2 (fun k e => by cases e; intro h; have := hown.out.lt _ h; omega)
              have hz2' : r3 + 1 ≤ w2.heap.size := by omega
              have hcb : w2.cell? ⟨ml + 1, 0, none⟩ = some (.map (some ml)) := HLT5.out.box.cell 0
              have hlk := HLT5.out.vm.look2 Try.underlying42 (Try.zeroValue44 w2) x
              have HOI := Lib.hid ho
              clear hvr hvr2 g2 hdx HLT4 hz2 hown ha ho
              cases hsx : S x
              · have hd : domS S x = none := by unfold domS; rw [hsx]; rfl
                have HOK := Lib.hid (HOI.out.out.keep HSM.out hlx hsx)
                simp only [hd] at hlk
                change (Instr.lookup 42 (.map (some ml)) (.int .u32 x.toNat) true).run Try.prog _ = .ok (.tuple #[.agg #[], .bool false]) _ at hlk
                have HD := Lib.hid hd
                clear hd hsx hlx HOI
                obtain ⟨Ao, co, hou⟩ := RdU.form (Own.rd HO2.out)
                subst hou
                have G6 := Lib.hid (gr_alloc w2 (.cells #[] 44) none)
                have HA6 : Hid (OwnU (w2.alloc (.cells #[] 44)) (r3 + 1) _ out) := Own.ext HO2.out G6.out
                have hBB : r3 + 1 ≤ (w2.alloc (.cells #[] 44)).heap.size := by rw [World.size_alloc]; omega
                have hS1 : w2.heap.size + 1 = (w2.alloc (.cells #[] 44)).heap.size := by rw [World.size_alloc]
                have HS1 := Lib.hid hS1
                have HBB := Lib.hid hBB
                clear hS1 hBB hlk
                have hlk := HLT5.out.vm.look2 Try.underlying42 (Try.zeroValue44 w2) x
                have hol2 : out.length ≤ 1000 := by omega
                change (Instr.lookup 42 (.map (some ml)) (.int .u32 x.toNat) true).run Try.prog _ = _ at hlk
                rw [HD.out] at hlk
                change _ = Result.ok (Value.tuple #[Value.agg #[], Value.bool false]) _ at hlk
                go_wp2_with (at_builtin; refine wp_app1U (w := w2.alloc (.cells #[] 44)) x _ rfl rfl (.tmp 81) (.tmp 83) rfl rfl HA6.out (w2.heap.size + 1) rfl HS1.out (by omega) HBB.out ?_; intro v6 w6 h6 g6 a6)
                have hgv : w2.grownBy w6 (Value.slice Ao out.length co).ownBlock := gr_trans (gr_of_none G6.out) g6 (.inl rfl)
                have hlb := HO2.out.lt
                have HV6 := HV2.out.gr hgv (fun e => by have := hlb _ e; omega) (fun e => by have := hlb _ e; omega)
                have HT6 := HLT5.out.gr hgv (fun e => by have := hlb _ e; omega) (fun e => by have := hlb _ e; omega)
                have HG6 : w.grownBy w6 none := gr_trans HG5.out hgv (.inr fun q e => by have := hlb _ e; omega)
                have hz6 := hgv.size
                go_roundw
                case rel => exact ⟨_, cnt', out ++ [x], HV6, HT6, HOK, h6, by rw [List.length_append]; simp; omega, HG6, by omega⟩
                case measure => rw [HV6.left_eq, HLF.out]; exact hlt2
              · have hd : domS S x = some (.agg #[]) := by unfold domS; rw [hsx]; rfl
                have HOK := Lib.hid (HOI.out.out.late hsx)
                simp only [hd] at hlk
                change (Instr.lookup 42 (.map (some ml)) (.int .u32 x.toNat) true).run Try.prog _ = .ok (.tuple #[.agg #[], .bool true]) _ at hlk
                clear hd hsx hlx HOI
                go_wp2
                have HV6 := HV2.out.gr (gr_alloc w2 (.cells #[] 44) none) (by simp) (by simp)
                go_roundw
                case rel => exact ⟨_, cnt', out, HV6, HLT5.out.ext (gr_alloc _ _ none), HOK, Own.ext HO2.out (gr_alloc _ _ none), by omega, gr_none HG5.out (gr_alloc _ _ none), by rw [World.size_alloc]; omega⟩
                case measure => rw [HV6.left_eq, HLF.out]; exact hlt2
        · intro x u w2 cnt' hlx hdx hvr2 hlt2 g2 hz2 hen
          obtain ⟨a, ha, hu⟩ : ∃ a, firstC l x = some a ∧ a.agg = u := by
            unfold domF at hdx
            exact Option.map_eq_some_iff.1 hdx
          subst hu
          obtain ⟨hRA, hNA⟩ := HF.out x a ha
          have HI := Lib.hid (hS.out.inner a)
          have HEND := Lib.hid (fun S' (h : LI (firstC l) left a a.d.near.length S') => h.end_ ha)
          obtain ⟨⟨aa, ab, al⟩, as_⟩ := a
          replace hRA : RdU w as_ al := hRA
          replace hNA : al.length ≤ 5000 := hNA
          obtain ⟨A4, c4, rfl⟩ := RdU.form hRA
          obtain ⟨g4, off4, hA4, hc4⟩ := RdU.at_ hRA
          have HA4 := Lib.hid hA4
          have HC4 := Lib.hid hc4
          have HG3 : Hid (w.grownBy w2 none) := gr_trans HG2.out g2 (.inr fun q e => by cases e; omega)
          have HLT2 : Hid (LateS w2 (ml + 1) ml n2 S) := HLT.out.gr g2 (by simp) (by simp)
          have HV2 := Lib.hid hvr2
          have HB2 : Hid (Blk (w2.alloc (.cells #[.int .u32 aa.toNat, .int .u64 ab.toNat, .slice A4 al.length c4] 33)) w2.heap.size 33 #[.int .u32 aa.toNat, .int .u64 ab.toNat, .slice A4 al.length c4]) := Blk.new _ _ _
          have hz2' : ml + 3 ≤ w2.heap.size := by omega
          unfold Cd.agg at hen ⊢
          clear hvr hvr2 g2 hS hdx hlx hA4 hc4 hRA HLT ha hz2
          go_wp2_with fail
          go_loopw [51] (fun i wq => ∃ (j n3 : Nat) (S' : UInt32 → Bool), j ≤ al.length ∧ i = .int .i64 j ∧ Hid (VR jU wq w.heap.size (ml + 2) n (domF (firstC l)) (fun y => left y && !(y == x)) cnt') ∧ Hid (LateS wq (ml + 1) ml n3 S') ∧ Hid (LI (firstC l) left ⟨⟨aa, ab, al⟩, .slice A4 al.length c4⟩ j S') ∧ n3 ≤ n2 + j ∧ Hid (Blk wq w2.heap.size 33 #[.int .u32 aa.toNat, .int .u64 ab.toNat, .slice A4 al.length c4]) ∧ w.grownBy wq none ∧ ml + 3 ≤ wq.heap.size) (fun i _ => al.length - (intOf i).toNat)
          case atStart => exact ⟨0, n2, S, by omega, rfl, HV2.out.gr (gr_alloc _ _ none) (by simp) (by simp), HLT2.out.ext (gr_alloc _ _ none), HI, by omega, HB2, gr_none HG3.out (gr_alloc _ _ none), by rw [World.size_alloc]; omega⟩
          case round =>
            clear HI HB2 HV2 HLT2 HG3
            obtain ⟨j, n3, S', hj, rfl, hv, hls, hli, hn3, hbx, hg, hzq2⟩ := hrel
            obtain ⟨wo, rfl⟩ : ∃ wo, wo = wr := ⟨_, rfl⟩
            have HG4 := Lib.hid hg
            clear hg
            by_cases hjl : j < al.length
            · have := HA4.out (by omega)
              subst this
              have ct := HG4.out.cell (HC4.out j hjl) (by simp)
              have hlk := (hv.out.vm).look2 Try.underlying40 (Try.zeroCd _) al[j]
              cases hb : firstC l al[j] with
              | none =>
                have hd : domF (firstC l) al[j] = none := by unfold domF; rw [hb]; rfl
                have HLI := Lib.hid (hli.out.none_ (j := j) hjl hb)
                simp only [hd] at hlk
                change (Instr.lookup 40 (.map (some w.heap.size)) (.int .u32 al[j].toNat) true).run Try.prog _ = .ok (.tuple #[.agg #[.int .u32 0, .int .u64 0, .slice none 0 0], .bool false]) _ at hlk
                generalize al[j] = t at *
                clear hb hd hli
                go_wp2
                go_roundw
                case rel => exact ⟨j + 1, n3, S', by omega, by go_num, hv.out.gr (gr_alloc _ _ none) (by simp) (by simp), hls.out.ext (gr_alloc _ _ none), HLI, by omega, hbx.out.ext (gr_alloc _ _ none), gr_none HG4.out (gr_alloc _ _ none), by rw [World.size_alloc]; omega⟩
                case measure => simp [intOf]; omega
              | some b =>
                have HLI := Lib.hid (hli.out.some_ (j := j) hjl hb)
                obtain ⟨⟨ba, bb, bl⟩, bs⟩ := b
                have hRB : RdU w bs bl := (HF.out _ _ hb).1
                obtain ⟨A5, c5, rfl⟩ := RdU.form hRB
                have hd : domF (firstC l) al[j] = some (Cd.agg ⟨⟨ba, bb, bl⟩, .slice A5 bl.length c5⟩) := by unfold domF; rw [hb]; rfl
                simp only [hd] at hlk
                change (Instr.lookup 40 (.map (some w.heap.size)) (.int .u32 al[j].toNat) true).run Try.prog _ = .ok (.tuple #[.agg #[.int .u32 ba.toNat, .int .u64 bb.toNat, .slice A5 bl.length c5], .bool true]) _ at hlk
                have HMT := Lib.hid (meet_any (hls.out.ext (gr_alloc wo (.cells #[.int .u32 ba.toNat, .int .u64 bb.toNat, .slice A5 bl.length c5] 33) none)) (by omega) ⟨⟨aa, ab, al⟩, .slice (some ⟨g4, off4, none⟩) al.length c4⟩ ⟨⟨ba, bb, bl⟩, .slice A5 bl.length c5⟩)
                have hbc0 : (wo.alloc (.cells #[.int .u32 ba.toNat, .int .u64 bb.toNat, .slice A5 bl.length c5] 33)).cell? ⟨w2.heap.size, 0, none⟩ = some (.int .u32 aa.toNat) := (hbx.out.ext (gr_alloc _ _ none)).cell 0
                have hbc1 : (wo.alloc (.cells #[.int .u32 ba.toNat, .int .u64 bb.toNat, .slice A5 bl.length c5] 33)).cell? ⟨w2.heap.size, 1, none⟩ = some (.int .u64 ab.toNat) := (hbx.out.ext (gr_alloc _ _ none)).cell 1
                have hbc2 : (wo.alloc (.cells #[.int .u32 ba.toNat, .int .u64 bb.toNat, .slice A5 bl.length c5] 33)).cell? ⟨w2.heap.size, 2, none⟩ = some (.slice (some ⟨g4, off4, none⟩) al.length c4) := (hbx.out.ext (gr_alloc _ _ none)).cell 2
                generalize al[j] = t at *
                clear hb hd hli hls hRB
                go_wp2_with fail
                refine HMT.out.mono ?_
                rintro e w5 ⟨rfl, hls5, g5⟩
                have HLS5 := Lib.hid hls5
                have g6 : wo.grownBy w5 (some ml) := gr_trans (gr_alloc _ _ (some ml)) g5 (.inl rfl)
                have HV5 : Hid (VR jU w5 w.heap.size (ml + 2) n (domF (firstC l)) (fun y => left y && !(y == x)) cnt') := hv.out.gr g6 (by simp; omega) (by simp)
                have HBX5 := Lib.hid (hbx.out.gr g6 (by simp; omega))
                have HG5 : Hid (w.grownBy w5 none) := gr_trans HG4.out g6 (.inr fun q e => by cases e; omega)
                have hz5 := g6.size
                clear hls5 g5 g6 hv hbx hbc0 hbc1 hbc2
                go_wp2
                go_roundw
                case rel => exact ⟨j + 1, n3 + 1, _, by omega, by go_num, HV5, HLS5, HLI, by omega, HBX5, HG5.out, by omega⟩
                case measure => simp [intOf]; omega
            · obtain rfl : j = al.length := by omega
              have HLSN := Lib.hid (HEND.out S' hli.out)
              have hle := Lib.hid hv.out.left_eq
              clear hli
              go_wp2
              go_roundw
              case rel => exact ⟨_, S', cnt', n3, hv.out, hls.out, HLSN, by omega, HG4.out, hzq2⟩
              case measure => rw [hle.out, HLF.out]; exact hlt2
end Go.Proofs.Ytbdieifggciopaa

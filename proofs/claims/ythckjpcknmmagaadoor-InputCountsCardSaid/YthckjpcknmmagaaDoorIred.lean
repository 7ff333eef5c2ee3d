/-
  Reduce.
-/
import Derived.Test.YthckjpcknmmagaaDoorIcol
namespace Go.Proofs.YthckjpcknmmagaaDoor.R
open Go.RowKit
set_option maxRecDepth 100000
set_option maxHeartbeats 400000

theorem valuesE_any {w : World} {m n : Nat} {best : Pr → Option Ed} (h : VM jP w m n (domE best)) : Calls Tryd.prog 15 #[.map (some m)] w fun e w' =>
    ∃ b, e = .returned (.func (.func 31) #[] #[.pointer (some ⟨b, 0, none⟩)]) ∧ PutE w' b m n best ∧ w.grownBy w' none := by
  have HP := Lib.hid h
  clear h
  go_enter Tryd.func15, Tryd.ntmps15
  go_wp2
  go_ret
  exact ⟨_, rfl, ⟨Blk.new _ _ _, HP.out.ext (gr_alloc _ _ _)⟩, gr_alloc _ _ _⟩
theorem foldl_succ {α β : Type} (f : β → α → β) (b : β) {l : List α} {k : Nat} (hk : k < l.length) : (l.take (k + 1)).foldl f b = f ((l.take k).foldl f b) l[k] := by
  rw [List.take_succ_eq_append_getElem hk, List.foldl_append]; rfl
theorem putE_loop {best : Pr → Option Ed} {x : Ed} (h : x.t = x.h) : putE best x = best := by unfold putE; rw [if_pos h]
theorem putE_keep {best : Pr → Option Ed} {x old : Ed} (hb : best x.k = some old) (hn : ¬ wn x < wn old) : putE best x = best := by
  unfold putE
  by_cases h : x.t = x.h
  · rw [if_pos h]
  · rw [if_neg h]
    funext k
    by_cases e : k = x.k
    · subst e; rw [if_pos rfl, hb]; simp [hn]
    · rw [if_neg e]
theorem putE_set {best : Pr → Option Ed} {x : Ed} (hx : x.t ≠ x.h) (hb : best x.k = none ∨ ∃ old, best x.k = some old ∧ wn x < wn old) : domE (putE best x) = fun h => if h = x.k then some x.v else domE best h := by
  funext h
  unfold domE putE
  rw [if_neg hx]
  by_cases e : h = x.k
  · subst e
    simp only [if_true]
    rcases hb with hb | ⟨old, hb, ha⟩
    · rw [hb]; rfl
    · rw [hb]; simp [ha]
  · simp only [if_neg e]
theorem Tryd.zeroE (w : World) : (zeroValue 29).run Tryd.prog w = .ok (.agg #[.int .u32 0, .int .u32 0, .int .u64 0, .int .u32 0]) w := Tryd.zeroValue29 w
set_option maxHeartbeats 4000000 in
theorem reduce_any (v : Value) (l : List Ed) (w : World) (h : RdE w v l) (hn : l.length ≤ 100000) :
    Calls Tryd.prog 8 #[v] w fun e w' => (∃ u r, e = .returned u ∧ OwnE w' w.heap.size u r ∧ Top (fun c => c ∈ l) r ∧ r.length ≤ l.length) ∧ w.grownBy w' none := by
  obtain ⟨A, c, rfl⟩ := h.form
  obtain ⟨g, off, hA, _, hcells⟩ := h.at_ ed4
  have HA := Lib.hid hA
  have HC := Lib.hid hcells
  have hmm := @run_makeMap Tryd.prog
  clear hA hcells h
  go_enter Tryd.func8, Tryd.ntmps8
  go_wp2
  go_loopw [12] (fun i wr => ∃ k n : Nat, k ≤ l.length ∧ i = .int .i64 k ∧ n ≤ k ∧ Hid (VM jP wr w.heap.size n (domE ((l.take k).foldl putE fun _ => none))) ∧ w.grownBy wr none) (fun i _ => l.length - (intOf i).toNat)
  case atStart => exact ⟨0, 0, by omega, rfl, by omega, VM.made jP w, gr_alloc _ _ _⟩
  case round =>
    obtain ⟨k, n, hk, rfl, hnk, hm, hg⟩ := hrel
    by_cases hlt : k < l.length
    · have := HA.out (by omega)
      subst this
      have HF := Lib.hid (foldl_succ putE (fun _ => none) hlt)
      rcases hx : l[k] with ⟨xa, xb, xc, xd⟩
      obtain ⟨c0, c1, c2, c3⟩ := at4E HC.out hg hlt hx
      rw [hx] at HF
      have HG := Lib.hid hg
      clear hx hg
      generalize (l.take k).foldl putE (fun _ => none) = best at hm HF
      have g1 := gr_none (gr_alloc wr (.cells #[.int .u32 xa.toNat, .int .u32 xb.toNat, .int .u64 xc.toNat, .int .u32 xd.toNat] 29) none) (gr_alloc _ (.cells #[.int .u32 xa.toNat, .int .u32 xb.toNat] 38) none)
      have G1 := Lib.hid g1
      have hlk := (hm.out.ext g1).look2 Tryd.underlying37 (Tryd.zeroE _) ⟨xa, xb⟩
      clear g1
      cases hb : best ⟨xa, xb⟩ with
      | none =>
        have hd : domE best ⟨xa, xb⟩ = none := by unfold domE; rw [hb]; rfl
        simp only [hd] at hlk
        change (Instr.lookup 37 (.map (some w.heap.size)) (.agg #[.int .u32 xa.toNat, .int .u32 xb.toNat]) true).run Tryd.prog _ = .ok (.tuple #[.agg #[.int .u32 0, .int .u32 0, .int .u64 0, .int .u32 0], .bool false]) _ at hlk
        by_cases hne : xa.toNat = xb.toNat
        · have HP := Lib.hid (putE_loop (best := best) (x := ⟨xa, xb, xc, xd⟩) (UInt32.toNat_inj.1 hne))
          have hneb : ((xa.toNat : Int) != (xb.toNat : Int)) = false := by simp; omega
          clear hb hd hne
          go_wp2
          go_roundw
          case rel => exact ⟨k + 1, n, by omega, by go_num, by omega, by rw [HF.out, HP.out]; exact hm.out.ext (gr_none G1.out (gr_alloc _ _ none)), gr_none HG.out (gr_none G1.out (gr_alloc _ _ none))⟩
          case measure => simp [intOf]; omega
        · have HP := Lib.hid (putE_set (best := best) (x := ⟨xa, xb, xc, xd⟩) (fun e => hne (by rw [show xa = xb from e])) (.inl hb))
          have hneb : ((xa.toNat : Int) != (xb.toNat : Int)) = true := by rw [bne_iff_ne]; omega
          clear hb hd hne
          go_wp2_with (at_mapUpdate; refine wp_vm_put (J := jP) rfl _ _ _ rfl Tryd.underlying37 (hm.out.ext (gr_none G1.out (gr_alloc _ _ none))) rfl (by unfold maxLen; omega) ⟨xa, xb⟩ rfl _ rfl ?_; intro w4 hm4 g4)
          go_roundw
          case rel => exact ⟨k + 1, n + 1, by omega, by go_num, by omega, by rw [HF.out, HP.out]; exact hm4, gr_trans (gr_none HG.out (gr_none G1.out (gr_alloc _ _ none))) g4 (.inr fun k e => by cases e; exact Nat.le_refl _)⟩
          case measure => simp [intOf]; omega
      | some old =>
        obtain ⟨oa, ob, oc, od⟩ := old
        have hd : domE best ⟨xa, xb⟩ = some (Ed.v ⟨oa, ob, oc, od⟩) := by unfold domE; rw [hb]; rfl
        simp only [hd] at hlk
        change (Instr.lookup 37 (.map (some w.heap.size)) (.agg #[.int .u32 xa.toNat, .int .u32 xb.toNat]) true).run Tryd.prog _ = .ok (.tuple #[.agg #[.int .u32 oa.toNat, .int .u32 ob.toNat, .int .u64 oc.toNat, .int .u32 od.toNat], .bool true]) _ at hlk
        by_cases hne : xa.toNat = xb.toNat
        · have HP := Lib.hid (putE_loop (best := best) (x := ⟨xa, xb, xc, xd⟩) (UInt32.toNat_inj.1 hne))
          have hneb : ((xa.toNat : Int) != (xb.toNat : Int)) = false := by simp; omega
          clear hb hd hne
          go_wp2
          go_roundw
          case rel => exact ⟨k + 1, n, by omega, by go_num, by omega, by rw [HF.out, HP.out]; exact hm.out.ext (gr_none G1.out (gr_alloc _ _ none)), gr_none HG.out (gr_none G1.out (gr_alloc _ _ none))⟩
          case measure => simp [intOf]; omega
        · have hneb : ((xa.toNat : Int) != (xb.toNat : Int)) = true := by rw [bne_iff_ne]; omega
          have HBT := Lib.hid (better_any ⟨xa, xb, xc, xd⟩ ⟨oa, ob, oc, od⟩)
          by_cases hw : wn ⟨xa, xb, xc, xd⟩ < wn ⟨oa, ob, oc, od⟩
          · have HP := Lib.hid (putE_set (best := best) (x := ⟨xa, xb, xc, xd⟩) (fun e => hne (by rw [show xa = xb from e])) (.inr ⟨_, hb, hw⟩))
            rw [decide_eq_true hw] at HBT
            clear hb hd hne hw
            unfold Ed.v at HBT
            go_wp2_with fail
            refine (HBT.out _).mono ?_
            rintro e w5 ⟨rfl, g5⟩
            have bx := (((Blk.new wr 29 #[.int .u32 xa.toNat, .int .u32 xb.toNat, .int .u64 xc.toNat, .int .u32 xd.toNat]).ext (gr_alloc _ _ none)).ext (gr_alloc _ _ none)).ext g5
            have bk := ((Blk.new (wr.alloc (.cells #[.int .u32 xa.toNat, .int .u32 xb.toNat, .int .u64 xc.toNat, .int .u32 xd.toNat] 29)) 38 #[.int .u32 xa.toNat, .int .u32 xb.toNat]).ext (gr_alloc _ _ none)).ext g5
            rw [World.size_alloc] at bk
            have e0 := bx.cell 0
            have e1 := bx.cell 1
            have e2 := bx.cell 2
            have e3 := bx.cell 3
            have k0 := bk.cell 0
            have k1 := bk.cell 1
            simp only [Nat.reduceAdd, List.getElem?_toArray] at e0 e1 e2 e3 k0 k1
            clear bx bk
            have G5 := Lib.hid (gr_none (gr_none G1.out (gr_alloc _ _ none)) g5)
            clear g5 hlk
            go_wp2_with (at_mapUpdate; refine wp_vm_put (J := jP) rfl _ _ _ rfl Tryd.underlying37 (hm.out.ext G5.out) rfl (by unfold maxLen; omega) ⟨xa, xb⟩ rfl _ rfl ?_; intro w6 hm6 g6)
            go_roundw
            case rel => exact ⟨k + 1, n + 1, by omega, by go_num, by omega, by rw [HF.out, HP.out]; exact hm6, gr_trans (gr_none HG.out G5.out) g6 (.inr fun k e => by cases e; exact Nat.le_refl _)⟩
            case measure => simp [intOf]; omega
          · have HP := Lib.hid (putE_keep (best := best) (x := ⟨xa, xb, xc, xd⟩) hb hw)
            rw [decide_eq_false hw] at HBT
            clear hb hd hne hw
            unfold Ed.v at HBT
            go_wp2_with fail
            refine (HBT.out _).mono ?_
            rintro e w5 ⟨rfl, g5⟩
            have G5 := Lib.hid (gr_none (gr_none G1.out (gr_alloc _ _ none)) g5)
            clear g5 hlk
            go_wp2
            go_roundw
            case rel => exact ⟨k + 1, n, by omega, by go_num, by omega, by rw [HF.out, HP.out]; exact hm.out.ext G5.out, gr_none HG.out G5.out⟩
            case measure => simp [intOf]; omega
    · obtain rfl : k = l.length := by omega
      rw [List.take_length] at hm
      have HB := Lib.hid (redE_best l)
      have HM : Hid (VM jP wr w.heap.size n (domE (redE l))) := hm
      have HG := Lib.hid hg
      have hnn : n ≤ 1000000 := by omega
      clear hm hg
      generalize redE l = best at HM HB
      have HAT := Lib.hid HB.out.atPr
      go_wp2_with fail
      refine (valuesE_any HM.out).mono ?_
      rintro e w3 ⟨b, rfl, hp3, g3⟩
      have HP3 := Lib.hid hp3
      have G3 := Lib.hid (gr_none HG.out g3)
      clear hp3 g3
      go_wp2_with fail
      refine (svE _ _ _ _ _ HP3.out HAT.out hnn).mono ?_
      rintro e w4 ⟨u, r, rfl, o4, hb4, hl4, g4⟩
      have O4 := Lib.hid o4
      have HT := Lib.hid (HB.out.top hb4.1 hb4.2)
      have G4 := Lib.hid (gr_none G3.out g4)
      clear o4 hb4 g4
      go_wp2
      go_ret
      exact ⟨⟨_, _, rfl, O4.out.mono G3.out.size, HT.out, by omega⟩, G4.out⟩
end Go.Proofs.YthckjpcknmmagaaDoor.R

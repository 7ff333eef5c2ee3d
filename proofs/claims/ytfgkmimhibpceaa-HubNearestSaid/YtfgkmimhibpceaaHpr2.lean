/-
  Hub: Prune.
-/
import Derived.Test.YtfgkmimhibpceaaHpr
namespace Go.Proofs.Ytfgkmimhibpceaa
open Go.RowKit
set_option maxRecDepth 100000
set_option maxHeartbeats 400000

theorem prune1_nil {w : World} {bb bp : Nat} (hb : w.cell? ⟨bb, 0, none⟩ = some .nilFunc) (x : Lb) :
    Calls Try.prog 37 #[x.v, .pointer (some ⟨bb, 0, none⟩), .pointer (some ⟨bp, 0, none⟩)] w fun e w' => e = .returned (.bool false) ∧ w.grownBy w' none := by
  obtain ⟨xh, xn, xd⟩ := x
  have hcb := (gr_alloc w (.cells #[.int .u32 xh.toNat, .int .u32 xn.toNat, .int .u64 xd.toNat] 39) none).cell hb (by simp)
  have hnil : ∀ w, (binOp .neq 33 .nilFunc .nilFunc).run Try.prog w = .ok (.bool false) w := fun w => by rfl
  unfold Lb.v
  clear hb
  go_enter Try.func37, Try.ntmps37
  go_wp2
  go_ret
  exact ⟨rfl, gr_alloc _ _ _⟩
/-- what is let go. -/
def goneP (near : UInt32 → Option UInt64) (of : UInt32 → List Lb) (x : Lb) : Bool := (of x.hub).any (gone1 near x)
theorem prune1_of {w : World} {bb bp m n sp : Nat} {near : UInt32 → Option UInt64} {sv : Value} {all : List Ow} (hb : w.cell? ⟨bb, 0, none⟩ = some (.func (.func 15) #[.pointer (some ⟨sp, 0, none⟩)] #[])) (hN : NearS w bp m n near)
    (hs : w.cell? ⟨sp, 0, none⟩ = some sv) (hS : RdS w sv all) (ha : all.length ≤ 600) (hm : ∀ x, (ofS all x).length ≤ 600) (x : Lb) :
    Calls Try.prog 37 #[x.v, .pointer (some ⟨bb, 0, none⟩), .pointer (some ⟨bp, 0, none⟩)] w fun e w' => e = .returned (.bool (goneP near (ofS all) x)) ∧ w.grownBy w' none := by
  obtain ⟨xh, xn, xd⟩ := x
  obtain ⟨w1, hw1⟩ : ∃ w1, w1 = w.alloc (.cells #[.int .u32 xh.toNat, .int .u32 xn.toNat, .int .u64 xd.toNat] 39) := ⟨_, rfl⟩
  have g1 : w.grownBy w1 none := by rw [hw1]; exact gr_alloc _ _ _
  have hbx : Blk w1 w.heap.size 39 #[.int .u32 xh.toNat, .int .u32 xn.toNat, .int .u64 xd.toNat] := by rw [hw1]; exact Blk.new _ _ _
  have HO := Lib.hid (of_any sp sv all xh w1 (g1.cell hs (by simp)) (hS.ext g1) (by omega) (by have := hm xh; omega))
  have HCN : Hid (∀ (wx : World) (u : Value), w1.grownBy wx none → RdL wx u (ofS all xh) → Calls Try.prog 38 #[u, .func (.func 39) #[] #[.pointer (some ⟨bp, 0, none⟩), .pointer (some ⟨w.heap.size, 0, none⟩)]] wx fun e w' => e = .returned (.bool (goneP near (ofS all) ⟨xh, xn, xd⟩)) ∧ wx.grownBy w' none) := fun wx u hg hr =>
    contains_any bp w.heap.size (gone1 near ⟨xh, xn, xd⟩) u (ofS all xh) wx hr (by have := hm xh; omega) fun wy hy y => gone1_any ((hN.ext g1).ext (gr_none hg hy)) ⟨xh, xn, xd⟩ y (hbx.ext (gr_none hg hy))
  have hcb := g1.cell hb (by simp)
  have hcx : w1.cell? ⟨w.heap.size, 0, none⟩ = some (.int .u32 xh.toNat) := hbx.cell 0
  have G1 := Lib.hid g1
  generalize goneP near (ofS all) ⟨xh, xn, xd⟩ = GP at *
  generalize ofS all xh = L at *
  have hnil : ∀ w, (binOp .neq 33 (.func (.func 15) #[.pointer (some ⟨sp, 0, none⟩)] #[]) .nilFunc).run Try.prog w = .ok (.bool true) w := fun w => by rfl
  have hmg : Hid (∀ wx, w1.grownBy wx none → wx.cell? ⟨bb, 0, none⟩ = some (.func (.func 15) #[.pointer (some ⟨sp, 0, none⟩)] #[])) := fun wx hx => hx.cell hcb (by simp)
  clear hb hN hs hS ha hm hbx g1
  subst hw1
  unfold Lb.v
  go_enter Try.func37, Try.ntmps37
  go_wp2_with fail
  refine HO.out.mono ?_
  rintro e w2 ⟨⟨u, rfl, ho⟩, g2⟩
  have HCX := Lib.hid (HCN.out w2 u g2 ho.rd)
  have G2 := Lib.hid (gr_none G1.out g2)
  obtain ⟨A2, c2, rfl⟩ := ho.rd.form
  clear ho g2
  go_wp2_with fail
  refine HCX.out.mono ?_
  rintro e w3 ⟨rfl, g3⟩
  have G3 := Lib.hid (gr_none G2.out g3)
  clear g3
  go_wp2
  go_ret
  exact ⟨rfl, G3.out⟩
theorem filter_succ {G : Lb → Bool} {l : List Lb} {k : Nat} (hk : k < l.length) : (l.take (k + 1)).filter G = (l.take k).filter G ++ (if G l[k] = true then [l[k]] else []) := by
  rw [List.take_succ_eq_append_getElem hk, List.filter_append]
  by_cases h : G l[k] = true
  · rw [if_pos h, List.filter_cons, if_pos h]; rfl
  · rw [if_neg h, List.filter_cons, if_neg h]; rfl
theorem filter_len {G : Lb → Bool} {l : List Lb} (k : Nat) : ((l.take k).filter G).length ≤ l.length := by
  have h1 := List.length_filter_le G (l.take k)
  have h2 : (l.take k).length ≤ l.length := by simp; omega
  omega
set_option maxHeartbeats 2000000 in
theorem without_any (bb bp : Nat) (G : Lb → Bool) (v : Value) (l : List Lb) (w : World) (h : RdL w v l) (hn : l.length ≤ 1000000000)
    (hG : ∀ wx, w.grownBy wx none → ∀ y : Lb, Calls Try.prog 37 #[y.v, .pointer (some ⟨bb, 0, none⟩), .pointer (some ⟨bp, 0, none⟩)] wx fun e w' => e = .returned (.bool (G y)) ∧ wx.grownBy w' none) :
    Calls Try.prog 36 #[v, .func (.func 37) #[] #[.pointer (some ⟨bb, 0, none⟩), .pointer (some ⟨bp, 0, none⟩)]] w fun e w' => (∃ u, e = .returned u ∧ OwnL w' w.heap.size u (l.filter fun y => !G y)) ∧ w.grownBy w' none := by
  obtain ⟨A, c, rfl⟩ := h.form
  obtain ⟨g, off, hA, _, hcells⟩ := h.at_ lb3
  have HA := Lib.hid hA
  have HC := Lib.hid hcells
  have HG := Lib.hid hG
  clear hA hcells h hG
  go_enter Try.func36, Try.ntmps36
  go_wp2
  go_loopw [9, 4] (fun i u wr => ∃ k : Nat, k ≤ l.length ∧ i = .int .i64 k ∧ Hid (OwnL wr w.heap.size u ((l.take k).filter fun y => !G y)) ∧ w.grownBy wr none) (fun i _ _ => l.length - (intOf i).toNat)
  case atStart => exact ⟨0, by omega, rfl, Lib.hid (OwnG.nil _ _ _ _), gr_refl _ _⟩
  case round =>
    obtain ⟨k, hk, rfl, ho, hg⟩ := hrel
    by_cases hlt : k < l.length
    · have := HA.out (by omega)
      subst this
      have HF := Lib.hid (filter_succ (G := fun y => !G y) hlt)
      have hfl := filter_len (G := fun y => !G y) (l := l) k
      rcases hx : l[k] with ⟨xa, xb, xc⟩
      obtain ⟨c0, c1, c2⟩ := at3L HC.out hg hlt hx
      have g1 := gr_none hg (gr_alloc wr (.cells #[.int .u32 xa.toNat, .int .u32 xb.toNat, .int .u64 xc.toNat] 39) none)
      have HCA := Lib.hid (HG.out _ g1 l[k])
      have HB1 := Lib.hid (Blk.new wr 39 #[.int .u32 xa.toNat, .int .u32 xb.toNat, .int .u64 xc.toNat])
      have HO1 := Lib.hid (ho.out.ext (gr_alloc wr (.cells #[.int .u32 xa.toNat, .int .u32 xb.toNat, .int .u64 xc.toNat] 39) none))
      have G1 := Lib.hid g1
      obtain ⟨Au, cu, rfl⟩ := ho.out.rd.form
      rw [hx] at HCA HF
      unfold Lb.v at HCA
      clear hx g1 ho hg
      generalize (l.take k).filter (fun y => !G y) = F at *
      rcases hb : G ⟨xa, xb, xc⟩ with _ | _
      · rw [hb] at HCA HF
        clear hb
        go_wp2_with fail
        refine HCA.out.mono ?_
        rintro e w5 ⟨rfl, g5⟩
        have HO5 := Lib.hid (HO1.out.ext g5)
        have HB5 := HB1.out.ext g5
        have d0 := HB5.cell 0
        have d1 := HB5.cell 1
        have d2 := HB5.cell 2
        have G5 := Lib.hid (gr_none G1.out g5)
        have hz5 := G5.out.size
        clear g5 HB5
        go_wp2_with (at_builtin; refine wp_app1L ⟨xa, xb, xc⟩ _ rfl rfl (.tmp 17) (.tmp 19) rfl rfl HO5.out w5.heap.size rfl rfl (by omega) hz5 ?_; intro v6 w6 h6 g6 a6)
        have G6 : w.grownBy w6 none := gr_trans G5.out g6 (.inr HO5.out.lt)
        go_roundw
        case rel => exact ⟨k + 1, by omega, by go_num, by rw [HF.out]; exact Lib.hid h6, G6⟩
        case measure => simp [intOf]; omega
      · rw [hb] at HCA HF
        clear hb
        go_wp2_with fail
        refine HCA.out.mono ?_
        rintro e w5 ⟨rfl, g5⟩
        have HO5 := Lib.hid (HO1.out.ext g5)
        have G5 := Lib.hid (gr_none G1.out g5)
        clear g5
        go_wp2
        go_roundw
        case rel => exact ⟨k + 1, by omega, by go_num, by rw [HF.out]; simpa using HO5, G5.out⟩
        case measure => simp [intOf]; omega
    · obtain rfl : k = l.length := by omega
      have ho2 := ho.out
      rw [List.take_length] at ho2
      obtain ⟨Au, cu, rfl⟩ := ho2.rd.form
      have HO2 := Lib.hid ho2
      clear ho ho2
      generalize hF : l.filter (fun y => !G y) = F at *
      have HF := Lib.hid hF
      clear hF
      go_wp2
      go_ret
      exact ⟨⟨_, rfl, by rw [HF.out]; exact HO2.out⟩, hg⟩
/-- near's map is another block than its box. -/
theorem NearS.ne {w : World} {bp m n : Nat} {near : UInt32 → Option UInt64} (h : NearS w bp m n near) : bp ≠ m := by
  intro e
  obtain ⟨D, ⟨es, cl, h1, _⟩, _⟩ := h.vm
  have h2 := h.box
  unfold Blk at h2
  rw [e, h1] at h2
  cases h2
/-- what the contract of the closure that lets go tells. -/
def GoneC (w : World) (bv : Value) (go : (UInt32 → Option UInt64) → Lb → Bool) : Prop := ∀ (wx : World) (bb bp m n : Nat) (near : UInt32 → Option UInt64), w.grownBy wx none → wx.cell? ⟨bb, 0, none⟩ = some bv → NearS wx bp m n near → ∀ y : Lb,
  Calls Try.prog 37 #[y.v, .pointer (some ⟨bb, 0, none⟩), .pointer (some ⟨bp, 0, none⟩)] wx fun e w' => e = .returned (.bool (go near y)) ∧ wx.grownBy w' none
theorem near0 (w : World) (o : Obj) : NearS (((w.alloc o).alloc (.map #[] 0)).alloc (.cells #[.map (some (w.heap.size + 1))] 67)) (w.heap.size + 1 + 1) (w.heap.size + 1) 0 (fun _ => none) :=
  ⟨by have := Blk.new ((w.alloc o).alloc (.map #[] 0)) 67 #[.map (some (w.heap.size + 1))]; rwa [World.size_alloc, World.size_alloc] at this, by have := (VM.made jU (w.alloc o)).ext (gr_alloc _ (.cells #[.map (some (w.heap.size + 1))] 67) none); rwa [World.size_alloc] at this⟩
theorem nearP_succ {l : List Lb} {k : Nat} (hk : k < l.length) : nearP (l.take (k + 1)) = nearB (nearP (l.take k)) l[k] := by
  unfold nearP
  rw [List.take_succ_eq_append_getElem hk, List.foldl_append]; rfl
set_option maxHeartbeats 4000000 in
theorem prune_any (bv : Value) (hbv : bv = .nilFunc ∨ ∃ f a b, bv = .func f a b) (go : (UInt32 → Option UInt64) → Lb → Bool) (v : Value) (l : List Lb) (w : World) (h : RdL w v l) (hn : l.length ≤ 1000000) (hgo : GoneC w bv go) :
    Calls Try.prog 20 #[v, bv] w fun e w' => (∃ u, e = .returned u ∧ OwnL w' w.heap.size u (l.filter fun y => !go (nearP l) y)) ∧ w.grownBy w' none := by
  obtain ⟨A, c, rfl⟩ := h.form
  have HR := Lib.hid h
  obtain ⟨g, off, hA, _, hcells⟩ := h.at_ lb3
  have HA := Lib.hid hA
  have HC := Lib.hid hcells
  have HGO := Lib.hid hgo
  have hmm := @run_makeMap Try.prog
  have hgl : 0 < l.length → g < w.heap.size := fun h0 => by
    have := hcells 0 h0 0 (by omega)
    have h2 := World.block_lt_of_cell? w _ (this.trans (List.getElem?_eq_getElem (by rw [lb3]; omega)))
    exact h2
  have HGL := Lib.hid hgl
  clear hA hcells h hgo hgl
  have HBV : Hid (∀ cs, bv ≠ .agg cs) := by rcases hbv with rfl | ⟨ff, fa, fb, rfl⟩ <;> exact fun cs e => by cases e
  clear hbv
  go_enter Try.func20, Try.ntmps20
  go_wp2
  have HN0 := Lib.hid (near0 w (.cells #[bv] 33))
  have HB0 : Hid ((((w.alloc (.cells #[bv] 33)).alloc (.map #[] 0)).alloc (.cells #[.map (some (w.heap.size + 1))] 67)).cell? ⟨w.heap.size, 0, none⟩ = some bv) :=
    ((Blk.new w 33 #[bv]).ext (gr_none (gr_alloc _ _ none) (gr_alloc _ _ none))).cell 0
  go_loopw [13] (fun i wr => ∃ k : Nat, k ≤ l.length ∧ i = .int .i64 k ∧ Hid (NearS wr (w.heap.size + 1 + 1) (w.heap.size + 1) k (nearP (l.take k))) ∧ Hid (wr.cell? ⟨w.heap.size, 0, none⟩ = some bv) ∧ w.grownBy wr none ∧ w.heap.size + 3 ≤ wr.heap.size) (fun i _ => l.length - (intOf i).toNat)
  case atStart => exact ⟨0, by omega, rfl, HN0, HB0, gr_none (gr_none (gr_alloc _ _ none) (gr_alloc _ _ none)) (gr_alloc _ _ none), by simp⟩
  case round =>
    obtain ⟨k, hk, rfl, hN, hB, hg, hz⟩ := hrel
    by_cases hlt : k < l.length
    · have := HA.out (by omega)
      subst this
      have HF := Lib.hid (nearP_succ hlt)
      rcases hx : l[k] with ⟨xa, xb, xc⟩
      obtain ⟨c0, c1, c2⟩ := at3L HC.out hg hlt hx
      have g1 := gr_alloc wr (.cells #[.int .u32 xa.toNat, .int .u32 xb.toNat, .int .u64 xc.toNat] 39) none
      have HN1 := Lib.hid (hN.out.ext g1)
      have HB1 := Lib.hid (g1.cell hB.out (by simp))
      have G1 := Lib.hid (gr_none hg g1)
      have hlk := HN1.out.vm.look2 Try.underlying67 (Try.zeroU _) xa
      have hcb := HN1.out.box.cell 0
      change _ = some (Value.map (some (w.heap.size + 1))) at hcb
      rw [hx] at HF
      clear hx g1 hN hB hg
      generalize nearP (l.take k) = near at *
      cases hb : near xa with
      | none =>
        have HP := Lib.hid (nearB_set (x := ⟨xa, xb, xc⟩) (.inl hb))
        have hd : domN near xa = none := by unfold domN; rw [hb]; rfl
        simp only [hd] at hlk
        change (Instr.lookup 67 (.map (some (w.heap.size + 1))) (.int .u32 xa.toNat) true).run Try.prog _ = .ok (.tuple #[.int .u64 0, .bool false]) _ at hlk
        clear hb hd
        go_wp2_with (at_mapUpdate; refine wp_vm_put (J := jU) rfl _ _ _ rfl Try.underlying67 HN1.out.vm rfl (by unfold maxLen; omega) xa rfl _ rfl ?_; intro w4 hm4 g4)
        have G4 : w.grownBy w4 none := gr_trans G1.out g4 (.inr fun q e => by cases e; omega)
        have HB4 : Hid (w4.cell? ⟨w.heap.size, 0, none⟩ = some bv) := g4.cell HB1.out (by simp)
        have hz4 := g4.size
        have HN4 : Hid (NearS w4 (w.heap.size + 1 + 1) (w.heap.size + 1) (k + 1) (nearP (l.take (k + 1)))) := by
          refine ⟨HN1.out.box.gr g4 (by simp), ?_⟩
          rw [HF.out, HP.out]; exact hm4
        clear hm4 g4
        go_roundw
        case rel => exact ⟨k + 1, by omega, by go_num, HN4, HB4, G4, by simp at hz4; omega⟩
        case measure => simp [intOf]; omega
      | some d =>
        have hd : domN near xa = some (.int .u64 d.toNat) := by unfold domN; rw [hb]; rfl
        simp only [hd] at hlk
        change (Instr.lookup 67 (.map (some (w.heap.size + 1))) (.int .u32 xa.toNat) true).run Try.prog _ = .ok (.tuple #[.int .u64 d.toNat, .bool true]) _ at hlk
        by_cases hlt2 : xc.toNat < d.toNat
        · have HP := Lib.hid (nearB_set (x := ⟨xa, xb, xc⟩) (.inr ⟨d, hb, hlt2⟩))
          clear hb hd
          go_wp2_with (at_mapUpdate; refine wp_vm_put (J := jU) rfl _ _ _ rfl Try.underlying67 HN1.out.vm rfl (by unfold maxLen; omega) xa rfl _ rfl ?_; intro w4 hm4 g4)
          have G4 : w.grownBy w4 none := gr_trans G1.out g4 (.inr fun q e => by cases e; omega)
          have HB4 : Hid (w4.cell? ⟨w.heap.size, 0, none⟩ = some bv) := g4.cell HB1.out (by simp)
          have hz4 := g4.size
          have HN4 : Hid (NearS w4 (w.heap.size + 1 + 1) (w.heap.size + 1) (k + 1) (nearP (l.take (k + 1)))) := by
            refine ⟨HN1.out.box.gr g4 (by simp), ?_⟩
            rw [HF.out, HP.out]; exact hm4
          clear hm4 g4
          go_roundw
          case rel => exact ⟨k + 1, by omega, by go_num, HN4, HB4, G4, by simp at hz4; omega⟩
          case measure => simp [intOf]; omega
        · have HP := Lib.hid (nearB_keep (x := ⟨xa, xb, xc⟩) hb hlt2)
          have HN4 : Hid (NearS (wr.alloc (.cells #[.int .u32 xa.toNat, .int .u32 xb.toNat, .int .u64 xc.toNat] 39)) (w.heap.size + 1 + 1) (w.heap.size + 1) (k + 1) (nearP (l.take (k + 1)))) := by
            refine ⟨HN1.out.box, ?_⟩
            rw [HF.out, HP.out]; exact HN1.out.vm.mono (by omega)
          clear hb hd
          go_wp2
          go_roundw
          case rel => exact ⟨k + 1, by omega, by go_num, HN4, HB1, G1.out, by simp; omega⟩
          case measure => simp [intOf]; omega
    · obtain rfl : k = l.length := by omega
      have HW : Hid (Calls Try.prog 36 #[.slice A l.length c, .func (.func 37) #[] #[.pointer (some ⟨w.heap.size, 0, none⟩), .pointer (some ⟨w.heap.size + 1 + 1, 0, none⟩)]] wr fun e w' => (∃ u, e = .returned u ∧ OwnL w' wr.heap.size u (l.filter fun y => !go (nearP l) y)) ∧ wr.grownBy w' none) := by
        have h1 := hN.out
        rw [List.take_length] at h1
        exact without_any _ _ (go (nearP l)) _ l wr (HR.out.ext hg) (by omega) fun wx hx y => HGO.out wx _ _ _ _ _ (gr_none hg hx) (hx.cell hB.out (by simp)) (h1.ext hx) y
      have G1 := Lib.hid hg
      have hzr := hg.size
      clear hN hB hg
      generalize hFF : (l.filter fun y => !go (nearP l) y) = FF at *
      have HFF := Lib.hid hFF
      clear hFF
      go_wp2_with fail
      refine HW.out.mono ?_
      rintro e w5 ⟨⟨u, rfl, ho⟩, g5⟩
      obtain ⟨A5, c5, rfl⟩ := ho.rd.form
      have HO := Lib.hid (ho.mono hzr)
      have G5 := Lib.hid (gr_none G1.out g5)
      clear ho g5
      go_wp2
      go_ret
      exact ⟨⟨_, rfl, by rw [HFF.out]; exact HO.out⟩, G5.out⟩
end Go.Proofs.Ytfgkmimhibpceaa

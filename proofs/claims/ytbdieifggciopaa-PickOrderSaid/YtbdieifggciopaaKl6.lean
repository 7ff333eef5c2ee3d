/-
  PickOrder: the law's walk.
-/
import Derived.Test.YtbdieifggciopaaKo
namespace Go.Proofs.Ytbdieifggciopaa
open Go.RowKit
set_option maxRecDepth 100000
set_option maxHeartbeats 400000

theorem flat_take (m : List Cd) {j : Nat} (hj : j ≤ m.length) : (m.flatMap Cd.enc).take (j * 3) = (m.take j).flatMap Cd.enc := by
  have e : m.flatMap Cd.enc = (m.take j).flatMap Cd.enc ++ (m.drop j).flatMap Cd.enc := by
    rw [← List.flatMap_append, List.take_append_drop]
  have hl : ((m.take j).flatMap Cd.enc).length = j * 3 := by rw [flat_len cd3, List.length_take, Nat.min_eq_left hj]
  rw [e, ← hl, List.take_left]
theorem rdC_cut1 {w : World} {A : Option Addr} {c : Nat} {m : List Cd} (h : RdC w (.slice A m.length c) m) {i : Nat} (hi : i < m.length) : RdC w (.slice (cutA A c i 3) 1 (c - i)) [m[i]] := by
  refine ⟨?_, fun x hx => by rw [List.mem_singleton.1 hx]; exact h.2 _ (List.getElem_mem hi)⟩
  have h1 := Rd.cut h.1 (i := i) (j := i + 1) (by omega) (by omega)
  have e : ((m.flatMap Cd.enc).take ((i + 1) * 3)).drop (i * 3) = [m[i]].flatMap Cd.enc := by
    have hl : ((m.take i).flatMap Cd.enc).length = i * 3 := by rw [flat_len cd3, List.length_take, Nat.min_eq_left (by omega)]
    rw [flat_take m (by omega), List.take_succ_eq_append_getElem hi, List.flatMap_append, ← hl, List.drop_left]
  rw [e, Nat.add_sub_cancel_left] at h1
  exact h1
/-- near to one more, and to itself. -/
def moreD (o : UInt32) (d : Dt) : Dt := ⟨d.v, d.k, d.near ++ [o, d.v]⟩
def turnD (o : UInt32) (D : List Dt) (k : Nat) : List Dt := (D.drop k).reverse.map (moreD o)
theorem turnD_end (o : UInt32) (D : List Dt) : turnD o D D.length = [] := by simp [turnD]
theorem turnD_step {o : UInt32} {D : List Dt} {k : Nat} (hk : k < D.length) : turnD o D k = turnD o D (k + 1) ++ [moreD o D[k]] := by
  unfold turnD
  rw [List.drop_eq_getElem_cons hk, List.reverse_cons, List.map_append]; rfl
theorem turnD_pick {o : UInt32} {D : List Dt} (hu : UniD D) (hn : ∀ d ∈ D, d.v ≠ o) {a b : List UInt32} (h : PickOf D a) (h' : PickOf (onceD (turnD o D 0)) b) : b = a := by
  have hut : UniD (turnD o D 0) := by
    unfold UniD turnD
    rw [List.pairwise_map, List.drop_zero, List.pairwise_reverse]
    exact hu.imp fun h e => h e.symm
  rw [onceD_uniq hut] at h'
  refine h'.same (⟨h.1, fun v => ?_⟩ : PickOf (turnD o D 0) a)
  rw [h.2]
  have hmem : ∀ x, x ∈ turnD o D 0 ↔ ∃ d ∈ D, moreD o d = x := fun x => by
    unfold turnD
    rw [List.drop_zero, List.mem_map]
    simp
  have hnear : ∀ x ∈ D, ∀ y ∈ D, y.v ≠ x.v → (nearD (moreD o x) (moreD o y) ↔ nearD x y) := by
    intro x hx y hy hne
    unfold nearD moreD
    simp only [List.mem_append, List.mem_cons, List.not_mem_nil, or_false]
    have h1 := hn x hx
    have h2 := hn y hy
    constructor
    · rintro ((h | h | h) | (h | h | h))
      · exact .inl h
      · exact absurd h h2
      · exact absurd h hne
      · exact .inr h
      · exact absurd h h1
      · exact absurd h.symm hne
    · rintro (h | h)
      · exact .inl (.inl h)
      · exact .inr (.inl h)
  have hlate : ∀ x ∈ D, lateD (turnD o D 0) (moreD o x) ↔ lateD D x := by
    intro x hx
    constructor
    · rintro ⟨y, hy, h1, h2, h3⟩
      obtain ⟨d, hd, rfl⟩ := (hmem y).1 hy
      exact ⟨d, hd, h1, (hnear x hx d hd h1).1 h2, h3⟩
    · rintro ⟨y, hy, h1, h2, h3⟩
      exact ⟨moreD o y, (hmem _).2 ⟨y, hy, rfl⟩, h1, (hnear x hx y hy h1).2 h2, h3⟩
  constructor
  · rintro ⟨x, hx, hv, hl⟩
    exact ⟨moreD o x, (hmem _).2 ⟨x, hx, rfl⟩, hv, fun h => hl ((hlate x hx).1 h)⟩
  · rintro ⟨y, hy, hv, hl⟩
    obtain ⟨d, hd, rfl⟩ := (hmem y).1 hy
    exact ⟨d, hd, hv, fun h => hl ((hlate d hd).2 h)⟩
theorem is_step {o : UInt32} {is : Bool} {m r : List Cd} {x : Cd} {k : Nat} (h : m.drop k = x :: r) (his : is = true ↔ ∃ d ∈ r.map Cd.d, d.v = o) : (is || ((x.d.v.toNat : Int) == (o.toNat : Int))) = true ↔ ∃ d ∈ (m.drop k).map Cd.d, d.v = o := by
  have e : ((x.d.v.toNat : Int) == (o.toNat : Int)) = true ↔ x.d.v = o := by
    rw [beq_iff_eq]
    constructor
    · intro e; exact UInt32.toNat_inj.1 (by omega)
    · rintro rfl; rfl
  rw [h, Bool.or_eq_true, e, his, List.map_cons]
  constructor
  · rintro (⟨d, hd, e⟩ | e)
    · exact ⟨d, List.mem_cons_of_mem _ hd, e⟩
    · exact ⟨_, List.mem_cons_self .., e⟩
  · rintro ⟨d, hd, e⟩
    rcases List.mem_cons.1 hd with rfl | hd
    · exact .inr e
    · exact .inl ⟨d, hd, e⟩
theorem turn_facts {wr w5 w5b w6 : World} {B : Nat} {o xa : UInt32} {xl : List UInt32} {A7 A6 : Option Addr} {c7 c6 : Nat} {v : Value} {tl : List Cd} (ho : OwnR wr B v tl) (g5 : wr.grownBy w5 none) (g5b : w5.grownBy w5b none)
    (g6 : w5b.grownBy w6 (Value.slice A7 xl.length c7).ownBlock) (a6 : (Value.slice A6 (xl ++ [o, xa]).length c6).ownBlock = (Value.slice A7 xl.length c7).ownBlock ∨ ∃ k, (Value.slice A6 (xl ++ [o, xa]).length c6).ownBlock = some k ∧ w5b.heap.size ≤ k)
    (h6 : OwnU w6 wr.heap.size (.slice A6 (xl ++ [o, xa]).length c6) (xl ++ [o, xa])) (h7 : ∀ q, (Value.slice A7 xl.length c7).ownBlock = some q → wr.heap.size ≤ q ∧ q < w5.heap.size) (hz : w5b.heap.size = w5.heap.size + 1 + 1) (xb : UInt64) :
    OwnR (w6.setCell ⟨w5.heap.size, 2, none⟩ (.slice A6 (xl.length + 2) c6)) B v tl ∧ Safe (w6.setCell ⟨w5.heap.size, 2, none⟩ (.slice A6 (xl.length + 2) c6)) v ⟨⟨xa, xb, xl ++ [o, xa]⟩, .slice A6 (xl.length + 2) c6⟩ ∧ wr.grownBy (w6.setCell ⟨w5.heap.size, 2, none⟩ (.slice A6 (xl.length + 2) c6)) none := by
  have e2 : (xl ++ [o, xa]).length = xl.length + 2 := by simp
  rw [e2] at a6 h6
  have hz5 := g5.size
  have G6 : wr.grownBy w6 none := gr_trans (gr_none g5 g5b) g6 (.inr fun q e => (h7 q e).1)
  have G7 : wr.grownBy (w6.setCell ⟨w5.heap.size, 2, none⟩ (.slice A6 (xl.length + 2) c6)) none := gr_set_new G6 _ _ hz5
  have hne : (Value.slice A6 (xl.length + 2) c6).ownBlock ≠ some w5.heap.size := by
    intro e
    rcases a6 with a | ⟨k, a, hk⟩
    · rw [a] at e
      have := (h7 _ e).2
      omega
    · rw [a] at e
      cases e
      omega
  have h7' : OwnU (w6.setCell ⟨w5.heap.size, 2, none⟩ (.slice A6 (xl.length + 2) c6)) wr.heap.size (.slice A6 (xl.length + 2) c6) (xl ++ [o, xa]) := Own.gr h6 (gr_setCell _ _ _) (fun k e => by cases e; exact hne)
  refine ⟨ho.ext G7, ⟨Own.rd h7', .inr ⟨Own.lies h7' (by simp) (by omega), fun q e e3 => ?_⟩⟩, G7⟩
  have h1 := ho.2.1 q e
  have h2 := Own.lt h6 q e3
  omega
set_option maxHeartbeats 16000000 in
theorem pickOrder_any (v : Value) (l : List Cd) (o : UInt32) (w : World) (h : RdC w v l) :
    Calls Try.prog 5 #[v, .int .u32 o.toNat] w fun e w' => e = .returned (.bool true) ∧ w.grownBy w' none := by
  have hmax : l.length ≤ maxLen := by obtain ⟨_, _, _, _, _, _, h1, h2, _⟩ := h.1; omega
  unfold maxLen at hmax
  have HW := Lib.hid works_any
  have HLG := Lib.hid (large_any v l w h)
  have HL := Lib.hid h
  obtain ⟨A, c, rfl⟩ := h.form
  clear h
  go_enter Try.func5, Try.ntmps5
  go_wp2_with fail
  refine HLG.out.mono ?_
  rintro e w1 ⟨⟨b, rfl, hb⟩, g1⟩
  have G1 := Lib.hid g1
  have HB := Lib.hid hb
  clear hb g1 HLG
  cases b
  · have HSM := Lib.hid (HB.out (by first | exact trivial | rfl))
    have HON := Lib.hid (once_any _ l w1 (HL.out.ext G1.out) (by have := HSM.out.1; omega))
    clear HB
    go_wp2_with fail
    refine HON.out.mono ?_
    rintro e w2 ⟨⟨u2, m, rfl, ho2, hm2, hsub, hml⟩, g2⟩
    have G2 := Lib.hid (gr_none G1.out g2)
    have HM := Lib.hid hm2
    have HR2 := Lib.hid ho2.rd
    have HNR : Hid (∀ x ∈ m, x.d.near.length ≤ 2000) := fun x hx => HSM.out.2 x (hsub x hx)
    have hm100 : m.length ≤ 100 := by have := HSM.out.1; omega
    obtain ⟨A2, c2, rfl⟩ := HR2.out.form
    have HU := Lib.hid (onceD_uni (l.map Cd.d))
    rw [← HM.out] at HU
    obtain ⟨g, off, hA, hmc2, hcells⟩ := HR2.out.1.at_ cd3
    have HA := Lib.hid hA
    have HC := Lib.hid hcells
    clear ho2 hm2 hsub hml g2 HON hA hcells
    go_wp2
    go_loopw [6, 7, 8] (fun u b i wr => ∃ (k : Nat) (is : Bool) (tl : List Cd), k ≤ m.length ∧ i = .int .i64 ((k : Int) - 1) ∧ b = .bool is ∧ Hid (is = true ↔ ∃ d ∈ (m.drop k).map Cd.d, d.v = o) ∧ Hid (OwnR wr w2.heap.size u tl) ∧ Hid (tl.map Cd.d = turnD o (m.map Cd.d) k) ∧ Hid (tl.length + k = m.length) ∧ w2.grownBy wr none) (fun _ _ i _ => (intOf i + 1).toNat)
    case atStart => exact ⟨m.length, false, [], by omega, rfl, rfl, Lib.hid (by simp), OwnR.nil _ _, Lib.hid (by have := turnD_end o (m.map Cd.d); rw [List.length_map] at this; rw [this]; rfl), Lib.hid (by simp), gr_refl _ _⟩
    case round =>
      obtain ⟨k, is, tl, hk, rfl, rfl, his, ho, ht, htl, hg⟩ := hrel
      have HG := Lib.hid hg
      have hz := hg.size
      obtain ⟨Au, cu, rfl⟩ := RdC.form ho.out.rd
      have htl1 : tl.length ≤ 100 := by have := htl.out; omega
      clear hg
      rcases k with _ | k
      · have HRT := Lib.hid ho.out.rd
        have HDT : Hid (is = true ↔ ∃ d ∈ m.map Cd.d, d.v = o) := his.out
        have HTD : Hid (tl.map Cd.d = turnD o (m.map Cd.d) 0) := ht.out
        have hnear : ∀ x ∈ tl, x.d.near.length ≤ 5000 := fun x hx => by
          have h1 : x.d ∈ turnD o (m.map Cd.d) 0 := by rw [← HTD.out]; exact List.mem_map.2 ⟨x, hx, rfl⟩
          unfold turnD at h1
          obtain ⟨d, hd, e⟩ := List.mem_map.1 h1
          rw [List.drop_zero, List.mem_reverse] at hd
          obtain ⟨y, hy, rfl⟩ := List.mem_map.1 hd
          have := HNR.out y hy
          rw [← e]
          show (y.d.near ++ [o, y.d.v]).length ≤ 5000
          rw [List.length_append]
          simp
          omega
        have e0 : ((0 : Nat) : Int) - 1 = -1 := rfl
        rw [e0]
        have HP1 := Lib.hid (pick_any _ tl wr HRT.out (by omega) hnear)
        have HGW := Lib.hid (gr_none G2.out HG.out)
        clear ho his ht hnear
        cases is
        · have hno : ∀ d ∈ m.map Cd.d, d.v ≠ o := fun d hd e => by have := HDT.out.2 ⟨d, hd, e⟩; cases this
          have HNO := Lib.hid hno
          have HP2 := Lib.hid fun (wx : World) (hx : w.grownBy wx none) => pick_any _ l wx (HL.out.ext hx) (by have := HSM.out.1; omega) fun x hx => by have := HSM.out.2 x hx; omega
          clear hno
          go_wp2_with fail
          refine HP1.out.mono ?_
          rintro e w3 ⟨⟨u3, out1, rfl, ho3, hp3⟩, g3⟩
          rw [HTD.out] at hp3
          have HG3 := Lib.hid (gr_none HGW.out g3)
          have HO3 := Lib.hid (Own.rd ho3)
          have HK3 := Lib.hid hp3
          have HP3 := Lib.hid (HP2.out w3 HG3.out)
          obtain ⟨A3, c3, rfl⟩ := RdU.form HO3.out
          clear ho3 hp3 g3 HP1 HP2
          go_wp2_with fail
          refine HP3.out.mono ?_
          rintro e w4 ⟨⟨u4, out2, rfl, ho4, hp4⟩, g4⟩
          rw [← HM.out] at hp4
          have e1 := turnD_pick HU.out HNO.out hp4 HK3.out
          subst e1
          have hol : out1.length ≤ 100 := by have h1 := hp4.len; simp at h1; omega
          have HQ4 := Lib.hid (eqU_any _ _ out1 out1 w4 (Rd.ext HO3.out g4) (Own.rd ho4) (by omega) (by omega))
          have G4 := Lib.hid (gr_none HG3.out g4)
          obtain ⟨A5, c5, rfl⟩ := RdU.form (Own.rd ho4)
          clear ho4 hp4 g4 HP3
          go_wp2_with fail
          refine HQ4.out.mono ?_
          rintro e w5 ⟨⟨b, rfl, hb⟩, g5⟩
          obtain rfl : b = true := by first | exact hb.2 rfl | exact hb.2 trivial
          have G5 := Lib.hid (gr_none G4.out g5)
          clear hb g5
          go_wp2_with fail
          refine (HW.out _).mono ?_
          rintro e w6 ⟨rfl, g6⟩
          have G6 := Lib.hid (gr_none G5.out g6)
          clear g6
          go_wp2
          go_ret
          exact ⟨rfl, G6.out⟩
        · clear HP1
          go_wp2_with fail
          refine (HW.out _).mono ?_
          rintro e w6 ⟨rfl, g6⟩
          have G6 := Lib.hid (gr_none HGW.out g6)
          clear g6
          go_wp2
          go_ret
          exact ⟨rfl, G6.out⟩
      · have hlt : k < m.length := by omega
        have e1 : ((k + 1 : Nat) : Int) - 1 = (k : Int) := by push_cast; omega
        rw [e1]
        clear e1
        have := HA.out (by omega)
        subst this
        have HCT := Lib.hid (rdC_cut1 (HR2.out.ext HG.out) hlt)
        have HST := Lib.hid (turnD_step (o := o) (D := m.map Cd.d) (k := k) (by simpa using hlt))
        have HDR : Hid (m.drop k = m[k] :: m.drop (k + 1)) := List.drop_eq_getElem_cons hlt
        have hxn := HNR.out _ (List.getElem_mem hlt)
        rcases hx : m[k] with ⟨⟨xa, xb, xl⟩, xs⟩
        rw [List.getElem_map, hx] at HST
        rw [hx] at HCT HDR hxn
        simp only [] at hxn
        have HX := Lib.hid hx
        clear hx
        have HCP := Lib.hid (copied_any _ _ wr HCT.out ⟨by simp, fun x hx => by rw [List.mem_singleton.1 hx]; exact hxn⟩)
        go_wp2_with fail
        refine HCP.out.mono ?_
        rintro e w5 ⟨⟨u5, m5, rfl, ho5, hm5⟩, g5⟩
        obtain ⟨s5, rfl⟩ : ∃ s5, m5 = [⟨⟨xa, xb, xl⟩, s5⟩] := by
          match m5, hm5 with
          | [⟨d, s⟩], hm5 =>
            simp at hm5
            exact ⟨s, by rw [hm5]⟩
        obtain ⟨h51, h52, h53⟩ := ho5
        obtain ⟨h54, h55, h56⟩ := h53 _ (List.mem_singleton.2 rfl)
        obtain ⟨A5, c5, hu5⟩ := RdG.form (OwnG.rd h51)
        subst hu5
        obtain ⟨g6, off6, hA6, _, hc6⟩ := RdG.at_ cd3 (OwnG.rd h51)
        obtain rfl := hA6 (by simp)
        have k0 : w5.cell? ⟨g6, off6, none⟩ = some (.int .u32 xa.toNat) := hc6 0 (by simp) 0 (by omega)
        have k1 : w5.cell? ⟨g6, off6 + 1, none⟩ = some (.int .u64 xb.toNat) := hc6 0 (by simp) 1 (by omega)
        have k2 : w5.cell? ⟨g6, off6 + 2, none⟩ = some s5 := hc6 0 (by simp) 2 (by omega)
        have HOS : Hid (OwnU w5 wr.heap.size s5 xl) := h54
        have HLS : Hid (Lies w5 s5) := h55
        have G5 := Lib.hid g5
        have hz5 := g5.size
        obtain ⟨A7, c7, rfl⟩ := RdU.form (Own.rd HOS.out)
        have hlen1 : ([(⟨⟨xa, xb, xl⟩, .slice A7 xl.length c7⟩ : Cd)] : List Cd).length = 1 := rfl
        rw [hlen1]
        clear h51 h52 h53 h54 h55 h56 hc6 hA6 g5 hm5 HCP HCT hlen1
        -- the box, and what is appended
        have HB6 : Hid (Blk (w5.alloc (.cells #[.int .u32 xa.toNat, .int .u64 xb.toNat, .slice A7 xl.length c7] 33)) w5.heap.size 33 #[.int .u32 xa.toNat, .int .u64 xb.toNat, .slice A7 xl.length c7]) := Blk.new _ _ _
        have HG6 : Hid (w5.grownBy ((w5.alloc (.cells #[.int .u32 xa.toNat, .int .u64 xb.toNat, .slice A7 xl.length c7] 33)).alloc (.cells #[.int .u32 o.toNat, .int .u32 xa.toNat] 30)) none) := gr_none (gr_alloc _ _ none) (gr_alloc _ _ none)
        have HRL : Hid (RdU ((w5.alloc (.cells #[.int .u32 xa.toNat, .int .u64 xb.toNat, .slice A7 xl.length c7] 33)).alloc (.cells #[.int .u32 o.toNat, .int .u32 xa.toNat] 30)) (.slice (some ⟨w5.heap.size + 1, 0, none⟩) 2 2) [o, xa]) := by
          have h1 := rd_lit (w5.alloc (.cells #[.int .u32 xa.toNat, .int .u64 xb.toNat, .slice A7 xl.length c7] 33)) 1 2 2 #[.int .u32 o.toNat, .int .u32 xa.toNat] 30 rfl (Nat.le_refl _) (by unfold maxLen; omega)
          rw [World.size_alloc] at h1
          exact h1
        have HOX := Lib.hid (Own.ext HOS.out HG6.out)
        have hB6 : wr.heap.size ≤ ((w5.alloc (.cells #[.int .u32 xa.toNat, .int .u64 xb.toNat, .slice A7 xl.length c7] 33)).alloc (.cells #[.int .u32 o.toNat, .int .u32 xa.toNat] 30)).heap.size := by rw [World.size_alloc, World.size_alloc]; omega
        have HBX := Lib.hid hB6
        have HL7 := Lib.hid (fun q (e : (Value.slice A7 xl.length c7).ownBlock = some q) => (⟨Own.lt HOS.out q e, HLS.out q e⟩ : wr.heap.size ≤ q ∧ q < w5.heap.size))
        clear hB6
        go_wp2_with (first | (at_builtin; refine wp_appU (w := ((w5.alloc (.cells #[.int .u32 xa.toNat, .int .u64 xb.toNat, .slice A7 xl.length c7] 33)).alloc (.cells #[.int .u32 o.toNat, .int .u32 xa.toNat] 30))) (B := wr.heap.size) (v := .slice A7 xl.length c7) (l := xl) (m := [o, xa]) rfl (.tmp 31) (.tmp 35) rfl rfl HOX.out rfl HRL.out (by simp; omega) HBX.out ?_; intro v6 w6 h6 g6' a6; obtain ⟨A6, c6, rfl⟩ := RdU.form (Own.rd h6); have HB7 := Lib.hid ((HB6.out.ext (gr_alloc _ _ none)).gr g6' (fun e => by have := HL7.out _ e; omega)); have b62 : w6.cell? ⟨w5.heap.size, 2, none⟩ = some (.slice A7 xl.length c7) := HB7.out.cell 2; have b61 : w6.cell? ⟨w5.heap.size, 1, none⟩ = some (.int .u64 xb.toNat) := HB7.out.cell 1; have b60 : w6.cell? ⟨w5.heap.size, 0, none⟩ = some (.int .u32 xa.toNat) := HB7.out.cell 0; have f62 := HB7.out.frozen 2; have HF := Lib.hid (turn_facts ho.out G5.out HG6.out g6' a6 h6 HL7.out (by rw [World.size_alloc, World.size_alloc]) xb); clear g6' h6 a6) | (at_builtin; refine wp_app1C (w := (w6.setCell ⟨w5.heap.size, 2, none⟩ (.slice A6 (xl.length + 2) c6))) ⟨⟨xa, xb, xl ++ [o, xa]⟩, .slice A6 (xl.length + 2) c6⟩ _ rfl rfl rfl (.tmp 38) (.tmp 40) rfl rfl HF.out.1.1 _ rfl (by first | exact (World.size_setCell _ _ _).symm | simp) (by omega) (by have := HF.out.2.2.size; omega) ?_; intro v8 w8 h8 g8 a8; have HO8 := Lib.hid (HF.out.1.app h8 g8 a8 HF.out.2.1); have HG8 := Lib.hid (gr_trans (gr_none HG.out HF.out.2.2) g8 (.inr fun q e => HF.out.1.1.lt q e)); obtain ⟨d0, d1, d2⟩ := at3C HC.out HG8.out hlt HX.out; obtain ⟨A8, c8, rfl⟩ := RdC.form HO8.out.rd; clear h8 g8 a8))
        · have hi := is_step HDR.out his.out
          rw [show is = true by assumption, Bool.true_or] at hi
          have HI := Lib.hid hi
          have h2 := HO8
          rw [List.length_append] at h2
          clear hi his
          go_roundw
          case rel => exact ⟨k, _, tl ++ [⟨⟨xa, xb, xl ++ [o, xa]⟩, .slice A6 (xl.length + 2) c6⟩], by omega, rfl, rfl, HI, h2, Lib.hid (by rw [List.map_append, ht.out, HST.out]; rfl), Lib.hid (by rw [List.length_append]; have := htl.out; simp; omega), HG8.out⟩
          case measure => simp [intOf]
        · have hi := is_step HDR.out his.out
          rw [show is = false by first | assumption | simpa using (by assumption : ¬ is = true), Bool.false_or] at hi
          have HI := Lib.hid hi
          have h2 := HO8
          rw [List.length_append] at h2
          clear hi his
          go_roundw
          case rel => exact ⟨k, _, tl ++ [⟨⟨xa, xb, xl ++ [o, xa]⟩, .slice A6 (xl.length + 2) c6⟩], by omega, rfl, rfl, HI, h2, Lib.hid (by rw [List.map_append, ht.out, HST.out]; rfl), Lib.hid (by rw [List.length_append]; have := htl.out; simp; omega), HG8.out⟩
          case measure => simp [intOf]
  · clear HB
    go_wp2_with fail
    refine (HW.out _).mono ?_
    rintro e w3 ⟨rfl, g3⟩
    have G3 := Lib.hid (gr_none G1.out g3)
    clear g3
    go_wp2
    go_ret
    exact ⟨rfl, G3.out⟩
end Go.Proofs.Ytbdieifggciopaa

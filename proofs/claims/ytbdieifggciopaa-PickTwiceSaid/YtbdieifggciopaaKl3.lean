/-
  PickTwice: the law's walk.
-/
import Derived.Test.YtbdieifggciopaaKl0
namespace Go.Proofs.Ytbdieifggciopaa
open Go.RowKit
set_option maxRecDepth 100000
set_option maxHeartbeats 400000

theorem onceD_app (l m : List Dt) : onceD (l ++ m) = m.foldl putD (onceD l) := by unfold onceD; rw [List.foldl_append]
theorem fold_none {b : List Dt} (m : List Dt) (h : ∀ x ∈ m, hasV b x.v = true) : m.foldl putD b = b := by
  induction m generalizing b with
  | nil => rfl
  | cons x r ih =>
    have hx := h x (by simp)
    have e : putD b x = b := by unfold putD; rw [hx]; rfl
    rw [List.foldl_cons, e]
    exact ih fun y hy => h y (by simp [hy])
theorem onceD_twice {l m : List Dt} (h : m.map Dt.v = l.map Dt.v) : onceD (l ++ m) = onceD l := by
  rw [onceD_app]
  refine fold_none m fun x hx => ?_
  have h1 : x.v ∈ l.map Dt.v := by rw [← h]; exact List.mem_map.2 ⟨x, hx, rfl⟩
  obtain ⟨y, hy, e⟩ := List.mem_map.1 h1
  obtain ⟨z, hz, e2⟩ := onceD_has hy
  exact (hasV_iff _ _).2 ⟨z, hz, e2.trans e⟩
set_option maxHeartbeats 4000000 in
theorem pickTwice_any (v v' : Value) (l : List Cd) (keys : List UInt64) (w : World) (h : RdC w v l) (hk' : RdK w v' keys) :
    Calls Try.prog 8 #[v, v'] w fun e w' => e = .returned (.bool true) ∧ w.grownBy w' none := by
  have hmax : l.length ≤ maxLen := by obtain ⟨_, _, _, _, _, _, h1, h2, _⟩ := h.1; omega
  have hmax2 : keys.length ≤ maxLen := by obtain ⟨_, _, _, _, _, _, h1, h2, _⟩ := hk'; omega
  unfold maxLen at hmax hmax2
  have HW := Lib.hid works_any
  have HLG := Lib.hid (large_any v l w h)
  have HL := Lib.hid h
  obtain ⟨A, c, rfl⟩ := h.form
  obtain ⟨g, off, hA, _, hcells⟩ := h.1.at_ cd3
  have HA := Lib.hid hA
  have HC := Lib.hid hcells
  obtain ⟨A', c', rfl⟩ := hk'.form
  obtain ⟨g', off', hA', hcells'⟩ := hk'.at_
  have HA' := Lib.hid hA'
  have HC' := Lib.hid hcells'
  clear h hA hcells hk' hA' hcells'
  by_cases h50 : l.length ≤ 50
  · go_enter Try.func8, Try.ntmps8
    go_wp2_with fail
    refine HLG.out.mono ?_
    rintro e w1 ⟨⟨b, rfl, hb⟩, g1⟩
    have G1 := Lib.hid g1
    have HB := Lib.hid hb
    clear hb g1 HLG
    cases b
    · have HSM := Lib.hid (HB.out (by first | exact trivial | rfl))
      have HCP := Lib.hid (copied_any _ l w1 (HL.out.ext G1.out) HSM.out)
      have hz1 := G1.out.size
      clear HB
      go_wp2_with fail
      refine HCP.out.mono ?_
      rintro e w2 ⟨⟨u2, m2, rfl, ho2, hm2⟩, g2⟩
      have HO2 := Lib.hid (ho2.own)
      have HM2 := Lib.hid hm2
      have G2 := Lib.hid g2
      have hml2 : m2.length = l.length := by have := congrArg List.length hm2; simpa using this
      clear ho2 hm2 g2 HCP
      go_wp2
      go_loopw [5, 6] (fun u i wr => ∃ (k : Nat) (m : List Cd) (e : List Dt), k ≤ l.length ∧ i = .int .i64 k ∧ Hid (OwnR wr w1.heap.size u m) ∧ Hid (m.map Cd.d = l.map Cd.d ++ e) ∧ Hid (e.map Dt.v = (l.take k).map fun x => x.d.v) ∧ Hid (∀ x ∈ e, x.near.length ≤ 2000) ∧ Hid (m.length = l.length + k) ∧ w.grownBy wr none ∧ w1.heap.size ≤ wr.heap.size) (fun _ i _ => l.length - (intOf i).toNat)
      case atStart => exact ⟨0, m2, [], by omega, rfl, HO2, Lib.hid (by rw [HM2.out]; simp), Lib.hid rfl, Lib.hid (fun x hx => by cases hx), hml2, gr_none G1.out G2.out, G2.out.size⟩
      case round =>
        obtain ⟨k, m, e, hk, rfl, ho, hm, he, hen, hml, hg, hz⟩ := hrel
        obtain ⟨Au, cu, rfl⟩ := RdC.form ho.out.rd
        have HG := Lib.hid hg
        have hm1 : m.length ≤ 100 := by have := hml.out; omega
        clear hg
        by_cases hlt : k < l.length
        · have := HA.out (by omega)
          subst this
          have HTK : Hid ((l.take (k + 1)).map (fun x => x.d.v) = (l.take k).map (fun x => x.d.v) ++ [l[k].d.v]) := by
            show _ = _
            rw [List.take_succ_eq_append_getElem hlt, List.map_append]; rfl
          have hxn : l[k].d.near.length ≤ 2000 := HSM.out.2 _ (List.getElem_mem hlt)
          rcases hx : l[k] with ⟨⟨xa, xb, xl⟩, xs⟩
          have HXL : Hid (RdU w xs xl) := by have := HL.out.2 _ (List.getElem_mem hlt); rw [hx] at this; exact this
          obtain ⟨c0, c1, c2⟩ := at3C HC.out HG.out hlt hx
          rw [hx] at HTK hxn
          simp only [] at hxn
          have HX := Lib.hid hx
          clear hx
          obtain ⟨A2, c2', rfl⟩ := RdU.form HXL.out
          by_cases hki : k < keys.length
          · have := HA'.out (by omega)
            subst this
            obtain ⟨d0, d1, d2⟩ := at3C HC.out (gr_none HG.out (gr_alloc wr (.cells #[.int .u32 0, .int .u64 0, .slice none 0 0] 33) none)) hlt HX.out
            have HB0 : Hid (Blk (wr.alloc (.cells #[.int .u32 xa.toNat, .int .u64 xb.toNat, .slice A2 xl.length c2'] 33)).drew wr.heap.size 33 #[.int .u32 xa.toNat, .int .u64 xb.toNat, .slice A2 xl.length c2']) := (Blk.new wr 33 _).ext (gr_drew _ none)
            have HG0 : Hid (wr.grownBy (wr.alloc (.cells #[.int .u32 xa.toNat, .int .u64 xb.toNat, .slice A2 xl.length c2'] 33)).drew none) := gr_none (gr_alloc _ _ none) (gr_drew _ none)
            go_wp2_with fail
            go_region
            generalize World.drew _ = w7 at *
            have hb0 : w7.cell? ⟨wr.heap.size, 0, none⟩ = some (.int .u32 xa.toNat) := HB0.out.cell 0
            have hb1 : w7.cell? ⟨wr.heap.size, 1, none⟩ = some (.int .u64 xb.toNat) := HB0.out.cell 1
            have hb2 : w7.cell? ⟨wr.heap.size, 2, none⟩ = some (.slice A2 xl.length c2') := HB0.out.cell 2
            clear c0 c1 c2 d0 d1 d2
            have ck := (gr_none HG.out HG0.out).cell (HC'.out k hki) (by simp)
            generalize keys[k] = key at *
            have hf1 := HB0.out.frozen 1
            have hf2 := HB0.out.frozen 2
            have HGR8 : Hid (wr.grownBy ((w7.setCell ⟨wr.heap.size, 1, none⟩ (.int .u64 key.toNat)).setCell ⟨wr.heap.size, 2, none⟩ (.slice none 0 0)) none) := gr_set_new (gr_set_new HG0.out _ _ (Nat.le_refl _)) _ _ (Nat.le_refl _)
            have HS8 : Hid (Safe ((w7.setCell ⟨wr.heap.size, 1, none⟩ (.int .u64 key.toNat)).setCell ⟨wr.heap.size, 2, none⟩ (.slice none 0 0)) (.slice Au m.length cu) ⟨⟨xa, key, []⟩, .slice none 0 0⟩) := ⟨Rd.nil _ _, .inl rfl⟩
            have HO8 := Lib.hid (ho.out.ext HGR8.out)
            have HG8 : Hid (w.grownBy ((w7.setCell ⟨wr.heap.size, 1, none⟩ (.int .u64 key.toNat)).setCell ⟨wr.heap.size, 2, none⟩ (.slice none 0 0)) none) := gr_none HG.out HGR8.out
            have HZ8 : Hid (w1.heap.size ≤ (((w7.setCell ⟨wr.heap.size, 1, none⟩ (.int .u64 key.toNat)).setCell ⟨wr.heap.size, 2, none⟩ (.slice none 0 0))).heap.size) := Nat.le_trans hz (HGR8.out).size
            clear ho
            go_wp2_with (at_builtin; refine wp_app1C (w := ((w7.setCell ⟨wr.heap.size, 1, none⟩ (.int .u64 key.toNat)).setCell ⟨wr.heap.size, 2, none⟩ (.slice none 0 0))) ⟨⟨xa, key, []⟩, .slice none 0 0⟩ _ rfl rfl rfl (.tmp 50) (.tmp 52) rfl rfl HO8.out.1 _ rfl (by simp) (by omega) HZ8.out ?_; intro v6 w6 h6 g6 a6)
            have ho6 := Lib.hid (HO8.out.app h6 g6 a6 HS8.out)
            have hg6 : w.grownBy w6 none := gr_trans HG8.out g6 (.inr fun q e => by have := HO8.out.1.lt q e; omega)
            have hz6 := g6.size
            have hz8 := HZ8.out
            go_roundw
            case rel => exact ⟨k + 1, _, e ++ [⟨xa, key, []⟩], by omega, by go_num, ho6, Lib.hid (by rw [List.map_append, hm.out, List.append_assoc]; rfl), Lib.hid (by rw [List.map_append, he.out, HTK.out]; rfl), Lib.hid (fun x hx => by
              rcases List.mem_append.1 hx with hx | hx
              · exact hen.out x hx
              · rw [List.mem_singleton.1 hx]; simp), Lib.hid (by rw [List.length_append, hml.out]; simp; omega), hg6, by omega⟩
            case measure => simp [intOf]; omega
          · have hkz : ¬ (k : Int) < (keys.length : Int) := by omega
            obtain ⟨d0, d1, d2⟩ := at3C HC.out (gr_none HG.out (gr_alloc wr (.cells #[.int .u32 0, .int .u64 0, .slice none 0 0] 33) none)) hlt HX.out
            have HB0 : Hid (Blk (wr.alloc (.cells #[.int .u32 xa.toNat, .int .u64 xb.toNat, .slice A2 xl.length c2'] 33)).drew wr.heap.size 33 #[.int .u32 xa.toNat, .int .u64 xb.toNat, .slice A2 xl.length c2']) := (Blk.new wr 33 _).ext (gr_drew _ none)
            have HG0 : Hid (wr.grownBy (wr.alloc (.cells #[.int .u32 xa.toNat, .int .u64 xb.toNat, .slice A2 xl.length c2'] 33)).drew none) := gr_none (gr_alloc _ _ none) (gr_drew _ none)
            go_wp2_with fail
            go_region
            generalize World.drew _ = w7 at *
            have hb0 : w7.cell? ⟨wr.heap.size, 0, none⟩ = some (.int .u32 xa.toNat) := HB0.out.cell 0
            have hb1 : w7.cell? ⟨wr.heap.size, 1, none⟩ = some (.int .u64 xb.toNat) := HB0.out.cell 1
            have hb2 : w7.cell? ⟨wr.heap.size, 2, none⟩ = some (.slice A2 xl.length c2') := HB0.out.cell 2
            clear c0 c1 c2 d0 d1 d2
            have HS8 : Hid (Safe w7 (.slice Au m.length cu) ⟨⟨xa, xb, xl⟩, .slice A2 xl.length c2'⟩) := by
              refine ⟨Rd.ext HXL.out (gr_none HG.out HG0.out), ?_⟩
              by_cases h0 : xl = []
              · exact .inl h0
              · have hli : Lies w (.slice A2 xl.length c2') := Rd.lies HXL.out (by simpa using List.length_pos_iff.2 h0) (by omega)
                refine .inr ⟨hli.mono (gr_none HG.out HG0.out).size, fun q e e2 => ?_⟩
                have := hli q e2
                have := Own.lt ho.out.1 q e
                omega
            have HO8 := Lib.hid (ho.out.ext HG0.out)
            have HG8 : Hid (w.grownBy w7 none) := gr_none HG.out HG0.out
            have HZ8 : Hid (w1.heap.size ≤ (w7).heap.size) := Nat.le_trans hz (HG0.out).size
            clear ho
            go_wp2_with (at_builtin; refine wp_app1C (w := w7) ⟨⟨xa, xb, xl⟩, .slice A2 xl.length c2'⟩ _ rfl rfl rfl (.tmp 50) (.tmp 52) rfl rfl HO8.out.1 _ rfl (by simp) (by omega) HZ8.out ?_; intro v6 w6 h6 g6 a6)
            have ho6 := Lib.hid (HO8.out.app h6 g6 a6 HS8.out)
            have hg6 : w.grownBy w6 none := gr_trans HG8.out g6 (.inr fun q e => by have := HO8.out.1.lt q e; omega)
            have hz6 := g6.size
            have hz8 := HZ8.out
            go_roundw
            case rel => exact ⟨k + 1, _, e ++ [⟨xa, xb, xl⟩], by omega, by go_num, ho6, Lib.hid (by rw [List.map_append, hm.out, List.append_assoc]; rfl), Lib.hid (by rw [List.map_append, he.out, HTK.out]; rfl), Lib.hid (fun x hx => by
              rcases List.mem_append.1 hx with hx | hx
              · exact hen.out x hx
              · rw [List.mem_singleton.1 hx]; exact hxn), Lib.hid (by rw [List.length_append, hml.out]; simp; omega), hg6, by omega⟩
            case measure => simp [intOf]; omega
        · obtain rfl : k = l.length := by omega
          have HR := Lib.hid ho.out.rd
          have HDT : Hid (onceD (m.map Cd.d) = onceD (l.map Cd.d)) := by
            show _ = _
            rw [hm.out]
            refine onceD_twice ?_
            have := he.out
            rw [List.take_length] at this
            rw [this, List.map_map]; rfl
          have hnear : ∀ x ∈ m, x.d.near.length ≤ 5000 := fun x hx => by
            have h1 : x.d ∈ l.map Cd.d ++ e := by rw [← hm.out]; exact List.mem_map.2 ⟨x, hx, rfl⟩
            rcases List.mem_append.1 h1 with h1 | h1
            · obtain ⟨y, hy, e2⟩ := List.mem_map.1 h1
              have := HSM.out.2 y hy
              rw [e2] at this
              omega
            · have := hen.out _ h1
              omega
          have HP1 := Lib.hid (pick_any _ l wr (HL.out.ext HG.out) (by omega) fun x hx => by have := HSM.out.2 x hx; omega)
          have HP2 := Lib.hid fun (wx : World) (hx : wr.grownBy wx none) => pick_any _ m wx (HR.out.ext hx) (by omega) hnear
          clear ho hnear
          go_wp2_with fail
          refine HP1.out.mono ?_
          rintro e w3 ⟨⟨u3, out1, rfl, ho3, hp3⟩, g3⟩
          have HP3 := Lib.hid (HP2.out w3 g3)
          have HO3 := Lib.hid (Own.rd ho3)
          have HK3 := Lib.hid hp3
          have G3 := Lib.hid (gr_none HG.out g3)
          obtain ⟨A3, c3, rfl⟩ := RdU.form HO3.out
          clear ho3 hp3 g3 HP1 HP2
          go_wp2_with fail
          refine HP3.out.mono ?_
          rintro e w4 ⟨⟨u4, out2, rfl, ho4, hp4⟩, g4⟩
          rw [HDT.out] at hp4
          rw [hp4.same HK3.out] at ho4
          have hol : out1.length ≤ 100 := by have h1 := HK3.out.len; have h2 := onceD_len (l.map Cd.d); simp at h2; omega
          have HQ4 := Lib.hid (eqU_any _ _ out1 out1 w4 (Rd.ext HO3.out g4) (Own.rd ho4) (by omega) (by omega))
          have G4 := Lib.hid (gr_none G3.out g4)
          obtain ⟨A5, c5, rfl⟩ := RdU.form (Own.rd ho4)
          clear ho4 hp4 g4 HP3
          go_wp2_with fail
          refine HQ4.out.mono ?_
          rintro e w5 ⟨⟨b, rfl, hb⟩, g5⟩
          obtain rfl : b = true := by first | exact hb.2 rfl | exact hb.2 trivial
          have G5 := Lib.hid (gr_none G4.out g5)
          clear hb g5
          go_wp2_with fail
          refine (HW.out _).mono ?_
          rintro e w6 ⟨rfl, g6⟩
          have G6 := Lib.hid (gr_none G5.out g6)
          clear g6
          go_wp2
          go_ret
          exact ⟨rfl, G6.out⟩
    · clear HB
      go_wp2_with fail
      refine (HW.out _).mono ?_
      rintro e w3 ⟨rfl, g3⟩
      have G3 := Lib.hid (gr_none G1.out g3)
      clear g3
      go_wp2
      go_ret
      exact ⟨rfl, G3.out⟩
  · have hgt : 50 < l.length := by omega
    go_enter Try.func8, Try.ntmps8
    go_wp2_with fail
    refine (HW.out _).mono ?_
    rintro e w1 ⟨rfl, g1⟩
    have G1 := Lib.hid g1
    clear g1
    go_wp2
    go_ret
    exact ⟨rfl, G1.out⟩
end Go.Proofs.Ytbdieifggciopaa

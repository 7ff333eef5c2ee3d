/-
  Pages in memory: page.Open.
-/
import Derived.Test.YtkpmadahfmpeiaaGreatPgC
namespace Go.Proofs.YtkpmadahfmpeiaaGreat
open Go.RowKit
set_option maxRecDepth 100000
set_option maxHeartbeats 400000

/-- what page.Open leaves. -/
def OpnOut (w : World) (r : Option (List UInt8)) (e : Ending) (w' : World) : Prop :=
  w.grownBy w' none ∧ ((∃ b v', r = some b ∧ e = .returned (.tuple #[v', .int .i64 0]) ∧ OwnB w' w.heap.size v' b) ∨ (r = none ∧ e = .returned (.tuple #[.slice none 0 0, .int .i64 7])))
/-- at the label. -/
def RotJ (w : World) (a : Act) (w' : World) : Prop := w.grownBy w' none ∧ ∃ u0 u1 u2 u3 u4 u5 u6 u7 u8 u9 u10 u11 u12 u13 u14 u15 u16 u17 u18 u19 u20 u21 u22 u23 u24 u25 u26 u27 u28 u29 u30 u31 u32 u33 u34 u35 u36 u37 u38 u39 u40 u41 u42 u43 u44 u45 u46 u47 u48 u49 u50 u51 u52 u53 u54 u55 : Value, a = { tmps := #[u0, u1, u2, u3, u4, u5, u6, u7, u8, u9, u10, u11, u12, u13, u14, u15, u16, u17, u18, u19, u20, u21, u22, u23, u24, u25, u26, u27, u28, u29, u30, u31, u32, u33, u34, u35, u36, u37, u38, u39, u40, u41, u42, u43, u44, u45, u46, u47, u48, u49, u50, u51, u52, u53, u54, u55], defers := [] }
theorem jump_ret {l : Nat} {J : Act → World → Prop} {Q : Exit → Act → World → Prop} {a : Act} {w : World} : Exit.jump l J Q .ret a w = Q .ret a w := rfl
theorem rotJ_mk {w w' : World} (hg : w.grownBy w' none) {u0 u1 u2 u3 u4 u5 u6 u7 u8 u9 u10 u11 u12 u13 u14 u15 u16 u17 u18 u19 u20 u21 u22 u23 u24 u25 u26 u27 u28 u29 u30 u31 u32 u33 u34 u35 u36 u37 u38 u39 u40 u41 u42 u43 u44 u45 u46 u47 u48 u49 u50 u51 u52 u53 u54 u55 : Value} : RotJ w { tmps := #[u0, u1, u2, u3, u4, u5, u6, u7, u8, u9, u10, u11, u12, u13, u14, u15, u16, u17, u18, u19, u20, u21, u22, u23, u24, u25, u26, u27, u28, u29, u30, u31, u32, u33, u34, u35, u36, u37, u38, u39, u40, u41, u42, u43, u44, u45, u46, u47, u48, u49, u50, u51, u52, u53, u54, u55], defers := [] } w' := ⟨hg, _, _, _, _, _, _, _, _, _, _, _, _, _, _, _, _, _, _, _, _, _, _, _, _, _, _, _, _, _, _, _, _, _, _, _, _, _, _, _, _, _, _, _, _, _, _, _, _, _, _, _, _, _, _, _, _, rfl⟩
/-- are two heads the same? -/
def hdEq (a b c d a' b' c' d' : Nat) : Bool := (a : Int) == a' && ((b : Int) == b' && ((c : Int) == c' && (d : Int) == d'))
theorem hdEq_iff {a b c d a' b' c' d' : Nat} : hdEq a b c d a' b' c' d' = true ↔ a = a' ∧ b = b' ∧ c = c' ∧ d = d' := by
  simp only [hdEq, Bool.and_eq_true, beq_iff_eq, Int.ofNat_inj]
theorem run_neqH (a b c d a' b' c' d' : Nat) (w : World) : (binOp .neq 211 (.agg #[.int .u64 a, .int .u64 b, .int .u64 c, .int .u64 d]) (.agg #[.int .u64 a', .int .u64 b', .int .u64 c', .int .u64 d'])).run Tryz.prog w = .ok (.bool (!hdEq a b c d a' b' c' d')) w := by
  rw [run_neq_struct]
  simp [go_sem]
  by_cases h1 : (a : Int) = a' <;> by_cases h2 : (b : Int) = b' <;> by_cases h3 : (c : Int) = c' <;> by_cases h4 : (d : Int) = d' <;> simp [hdEq, h1, h2, h3, h4]
set_option maxHeartbeats 2000000 in
theorem opn_any (tag k : Nat) (ht : tag < 4294967296) (hk : k < 4294967296) (v : Value) (p : List UInt8) (w : World) (h : RdB w v p) :
    Calls Tryz.prog 130 #[v, .int .u32 tag, .int .u32 k] w (OpnOut w (pagO p tag k)) := by
  obtain ⟨A, c, rfl⟩ := h.form
  obtain ⟨r, hr⟩ : ∃ r, r = pagO p tag k := ⟨_, rfl⟩
  have HR := Lib.hid hr
  have H := Lib.hid h
  rw [← hr]
  clear h hr
  go_enter Tryz.func130, Tryz.ntmps130
  go_wp2
  refine wp_scope_jumps 0 (fun a w' => r = none ∧ RotJ w a w') (fun _ _ => 0) rfl ?first ?pass
  case pass =>
    rintro a w' ⟨hn, g, u0, u1, u2, u3, u4, u5, u6, u7, u8, u9, u10, u11, u12, u13, u14, u15, u16, u17, u18, u19, u20, u21, u22, u23, u24, u25, u26, u27, u28, u29, u30, u31, u32, u33, u34, u35, u36, u37, u38, u39, u40, u41, u42, u43, u44, u45, u46, u47, u48, u49, u50, u51, u52, u53, u54, u55, rfl⟩
    have G := Lib.hid g
    have HN := Lib.hid hn
    clear g hn
    go_wp2
    rw [jump_ret]
    go_ret2
    exact ⟨G.out, .inr ⟨HN.out, rfl⟩⟩
  case first =>
    by_cases hl : p.length = 256
    · have HLN := Lib.hid hl
      have hc0 : p.length ≤ c := RdB.cap H.out
      have hc : (256 : Int) ≤ (c : Int) := by omega
      have hc2 : (252 : Int) ≤ (c : Int) := by omega
      have hcm : (c : Int) ≤ 9223372036854775807 := by obtain ⟨_, _, _, _, _, e, _, hm, _⟩ := H.out; cases e; unfold maxLen at hm; omega
      rw [hl] at H ⊢
      clear hl hc0
      have hH : ∀ wx, w.grownBy wx none → RdB wx (.slice A 256 c) p := fun wx hg => H.out.ext hg
      have HH := Lib.hid hH
      have NUM : ∀ (O S : Int) (at_ size : Nat), O = (at_ : Int) → S = (size : Int) → (size = 1 ∨ size = 2 ∨ size = 4 ∨ size = 8) → at_ + size ≤ 256 → Hid (∀ wx, w.grownBy wx none → Calls Tryz.prog 154 #[.slice A 256 c, .int .i64 O, .int .i64 S] wx fun e w' => e = .returned (.int .u64 (rdN ((p.drop at_).take size))) ∧ wx.grownBy w' none) :=
        fun O S at_ size hO hS hs hn wx hg => pnum_i O S at_ size hO hS _ p wx hs (by rw [HLN.out]; exact hn) (by rw [HLN.out]; omega) (HH.out wx hg)
      have N1 := NUM 252 4 252 4 rfl rfl (by omega) (by omega)
      have N2 := NUM 0 4 0 4 rfl rfl (by omega) (by omega)
      have N3 := NUM 4 4 4 4 rfl rfl (by omega) (by omega)
      have N4 := NUM 8 2 8 2 rfl rfl (by omega) (by omega)
      have N5 := NUM 10 2 10 2 rfl rfl (by omega) (by omega)
      have SUM : Hid (∀ wx, w.grownBy wx none → Calls Tryz.prog 147 #[.slice A 252 c] wx fun e w' => e = .returned (.int .u32 (crcS (p.take 252))) ∧ wx.grownBy w' none) := fun wx hg => by
        have h1 := RdB.take (HH.out wx hg) (k := 252) (by rw [HLN.out]; omega)
        exact sum_any _ (p.take 252) wx h1 (by rw [List.length_take]; omega)
      have hy1 : crcS (p.take 252) < 4294967296 := crcE_lt _ _
      have h4 : ∀ q : List UInt8, rdN (q.take 4) < 4294967296 := fun q => rdN_take_lt q 4
      have h2 : ∀ q : List UInt8, rdN (q.take 2) < 65536 := fun q => rdN_take_lt q 2
      have q1 := h4 (p.drop 252)
      have q2 := h4 (p.drop 0)
      have q3 := h4 (p.drop 4)
      have q4 := h2 (p.drop 8)
      have q5 := h2 (p.drop 10)
      have HU : Hid (pagO p tag k = if p.length = 256 ∧ rdN ((p.drop 252).take 4) = crcS (p.take 252) ∧ rdN ((p.drop 8).take 2) ≤ 240 ∧ rdN ((p.drop 0).take 4) = tag ∧ rdN ((p.drop 4).take 4) = k ∧ rdN ((p.drop 10).take 2) = 0 ∧
        ((p.take 252).drop (12 + rdN ((p.drop 8).take 2))).all (· == 0) = true then some ((p.take (12 + rdN ((p.drop 8).take 2))).drop 12) else none) := rfl
      clear NUM h4 h2 hH
      generalize rdN ((p.drop 252).take 4) = x1 at *
      generalize crcS (p.take 252) = y1 at *
      generalize rdN ((p.drop 0).take 4) = x2 at *
      generalize rdN ((p.drop 4).take 4) = x3 at *
      generalize rdN ((p.drop 8).take 2) = x4 at *
      generalize rdN ((p.drop 10).take 2) = x5 at *
      have hwy : IntKind.u64.wrap (y1 : Int) = (y1 : Int) := by rw [IntWalk.u64_in _ (by omega)]
      have HW := Lib.hid hwy
      clear hwy
      by_cases e1 : x1 = y1
      · subst e1
        have hd : ((x1 : Int) != (x1 : Int)) = false := by simp
        have hwy := HW.out
        go_wp2
        go_region_held3 (fun _ => True) (trivial) (first
          | (go_at_call 154; (with_reducible refine (N1.out _ ?_).mono ?_); (first | exact gr_none (gr_alloc _ _ none) (gr_drew _ _)); rintro e w1 ⟨rfl, g1⟩)
          | (go_at_call 147; (with_reducible refine (SUM.out _ ?_).mono ?_); (first | exact gr_none (gr_none (gr_alloc _ _ none) (gr_drew _ _)) g1); rintro e w2 ⟨rfl, g2⟩))
        have G2 : Hid ((w.alloc (.cells #[.int .u64 0, .int .u64 0, .int .u64 0, .int .u64 0] 211)).grownBy w2 none) := gr_none (gr_trans (gr_drew _ _) g1 (.inl rfl)) g2
        have HB : Hid (∀ wx, w2.grownBy wx none → Blk wx w.heap.size 211 #[.int .u64 0, .int .u64 0, .int .u64 0, .int .u64 0]) := fun wx hg => (Blk.new w _ _).ext (gr_none G2.out hg)
        have HG : Hid (∀ wx, w2.grownBy wx none → w.grownBy wx none) := fun wx hg => gr_none (gr_none (gr_alloc w _ none) G2.out) hg
        clear hwy g1 g2 hd G2
        go_wp2_with fail
        refine (N2.out _ (HG.out _ (gr_refl _ _))).mono ?_
        rintro e w3 ⟨rfl, g3⟩
        have G3 := Lib.hid g3
        clear g3
        go_wp2_with fail
        refine (N3.out _ (HG.out _ G3.out)).mono ?_
        rintro e w4 ⟨rfl, g4⟩
        have G4 := Lib.hid (gr_none G3.out g4)
        clear g4
        go_wp2_with fail
        refine (N4.out _ (HG.out _ G4.out)).mono ?_
        rintro e w5 ⟨rfl, g5⟩
        have G5 := Lib.hid (gr_none G4.out g5)
        clear g5
        go_wp2_with fail
        refine (N5.out _ (HG.out _ G5.out)).mono ?_
        rintro e w6 ⟨rfl, g6⟩
        have G6 := Lib.hid (gr_none G5.out g6)
        clear g6
        have hb6 := HB.out _ G6.out
        have c0 : w6.cell? ⟨w.heap.size, 0, none⟩ = some (.int .u64 0) := hb6.cell 0
        have c1 : w6.cell? ⟨w.heap.size, 1, none⟩ = some (.int .u64 0) := hb6.cell 1
        have c2 : w6.cell? ⟨w.heap.size, 2, none⟩ = some (.int .u64 0) := hb6.cell 2
        have c3 : w6.cell? ⟨w.heap.size, 3, none⟩ = some (.int .u64 0) := hb6.cell 3
        have f0 : w6.frozen? ⟨w.heap.size, 0, none⟩ = false := hb6.frozen 0
        have f1 : w6.frozen? ⟨w.heap.size, 1, none⟩ = false := hb6.frozen 1
        have f2 : w6.frozen? ⟨w.heap.size, 2, none⟩ = false := hb6.frozen 2
        have f3 : w6.frozen? ⟨w.heap.size, 3, none⟩ = false := hb6.frozen 3
        have G7 : Hid (∀ wx, ((((w6.setCell ⟨w.heap.size, 0, none⟩ (.int .u64 x2)).setCell ⟨w.heap.size, 1, none⟩ (.int .u64 x3)).setCell ⟨w.heap.size, 2, none⟩ (.int .u64 x4)).setCell ⟨w.heap.size, 3, none⟩ (.int .u64 x5)).grownBy wx none → w.grownBy wx none) := fun wx hg =>
          gr_none (gr_set_new (gr_set_new (gr_set_new (gr_set_new (HG.out _ G6.out) _ _ (Nat.le_refl _)) _ _ (Nat.le_refl _)) _ _ (Nat.le_refl _)) _ _ (Nat.le_refl _)) hg
        clear hb6
        by_cases e4 : x4 ≤ 240
        · have hne : ∀ w, (binOp .neq 211 (.agg #[.int .u64 x2, .int .u64 x3, .int .u64 x4, .int .u64 x5]) (.agg #[.int .u64 tag, .int .u64 k, .int .u64 x4, .int .u64 0])).run Tryz.prog w = .ok (.bool (!hdEq x2 x3 x4 x5 tag k x4 0)) w := fun w => run_neqH x2 x3 x4 x5 tag k x4 0 w
          by_cases e5 : hdEq x2 x3 x4 x5 tag k x4 0 = true
          · have hcut : ∀ i j, i ≤ j → j ≤ 256 → Hid (∀ wx, w.grownBy wx none → RdB wx (.slice (cutA A c i 1) (j - i) (c - i)) ((p.take j).drop i)) := fun i j hij hj wx hg => by
              have h := HH.out wx hg
              rw [← HLN.out] at h
              exact h.cut hij (by rw [HLN.out]; exact hj)
            have CF : Hid (∀ wx, w.grownBy wx none → Calls Tryz.prog 155 #[.slice (cutA A c (12 + x4) 1) (252 - (12 + x4)) (c - (12 + x4)), .func (.func 156) #[] #[]] wx fun e w' => e = .returned (.bool (anyN ((p.take 252).drop (12 + x4)))) ∧ wx = w') := fun wx hg =>
              cf_any _ _ wx (by have := (hcut (12 + x4) 252 (by omega) (by omega)).out wx hg; unfold RdB at this ⊢; rw [List.length_drop, List.length_take, HLN.out]; rw [List.length_drop, List.length_take, HLN.out] at this; exact this) (by rw [List.length_drop, List.length_take]; omega)
            have CL : Hid (∀ wx, w.grownBy wx none → Calls Tryz.prog 58 #[.slice (cutA A c 12 1) x4 (c - 12)] wx fun e w' => ∃ v', e = .returned v' ∧ OwnB w' wx.heap.size v' ((p.take (12 + x4)).drop 12) ∧ wx.grownBy w' none) := fun wx hg => by
              have h1 := (hcut 12 (12 + x4) (by omega) (by omega)).out wx hg
              rw [show 12 + x4 - 12 = x4 from by omega] at h1
              exact cloneB _ _ wx h1 (by rw [List.length_drop, List.length_take]; omega)
            have ht1 : ((12 : Int) + (x4 : Int)).toNat = 12 + x4 := by omega
            have hi1 : (12 : Int) + (x4 : Int) ≤ 252 := by omega
            have hi2 : (12 : Int) ≤ 12 + (x4 : Int) := by omega
            have hi3 : (12 : Int) + (x4 : Int) ≤ (c : Int) := by omega
            have hi4 : (0 : Int) ≤ 12 + (x4 : Int) := by omega
            clear hcut
            cases hany : anyN ((p.take 252).drop (12 + x4)) with
            | true =>
              have HN : Hid (r = none) := by
                show r = none
                rw [HR.out, HU.out]
                refine if_neg fun hh => ?_
                have := hh.2.2.2.2.2.2
                unfold anyN at hany
                rw [this] at hany
                cases hany
              rw [hany] at CF
              clear hany HU
              go_wp2_with fail
              refine (CF.out _ (G7.out _ (gr_refl _ _))).mono ?_
              rintro e w7 ⟨rfl, rfl⟩
              go_wp2
              go_step3
              exact ⟨rfl, HN.out, rotJ_mk (G7.out _ (gr_refl _ _))⟩
            | false =>
              have HN : Hid (r = some ((p.take (12 + x4)).drop 12)) := by
                show r = _
                obtain ⟨i1, i2, i3, i4⟩ := hdEq_iff.1 e5
                rw [HR.out, HU.out]
                refine if_pos ⟨HLN.out, by trivial, e4, i1, i2, i4, ?_⟩
                unfold anyN at hany
                simpa using hany
              rw [hany] at CF
              clear hany HU
              go_wp2_with fail
              refine (CF.out _ (G7.out _ (gr_refl _ _))).mono ?_
              rintro e w7 ⟨rfl, rfl⟩
              go_wp2_with fail
              refine (CL.out _ (G7.out _ (gr_refl _ _))).mono ?_
              rintro e w8 ⟨v8, rfl, o8, g8⟩
              go_wp2
              rw [jump_ret]
              go_ret2
              exact ⟨G7.out _ g8, .inl ⟨_, _, HN.out, rfl, o8.mono (G7.out _ (gr_refl _ _)).size⟩⟩
          · have e6 : hdEq x2 x3 x4 x5 tag k x4 0 = false := by simpa using e5
            have HN : Hid (r = none) := by show r = none; rw [HR.out, HU.out]; exact if_neg fun hh => e5 (hdEq_iff.2 ⟨hh.2.2.2.1, hh.2.2.2.2.1, rfl, hh.2.2.2.2.2.1⟩)
            clear e5 HU
            go_wp2
            go_step3
            exact ⟨rfl, HN.out, rotJ_mk (G7.out _ (gr_refl _ _))⟩
        · have hd4 : (240 : Int) < (x4 : Int) := by omega
          have HN : Hid (r = none) := by show r = none; rw [HR.out, HU.out]; exact if_neg fun hh => e4 hh.2.2.1
          clear e4 HU
          go_wp2
          go_step3
          exact ⟨rfl, HN.out, rotJ_mk (G7.out _ (gr_refl _ _))⟩
      · have hd : ((x1 : Int) != (y1 : Int)) = true := by rw [bne_iff_ne]; omega
        have HN : Hid (r = none) := by show r = none; rw [HR.out, HU.out]; exact if_neg fun hh => e1 hh.2.1
        have hwy := HW.out
        clear e1 HU
        go_wp2
        go_region_held3 (fun _ => True) (trivial) (first
          | (go_at_call 154; (with_reducible refine (N1.out _ ?_).mono ?_); (first | exact gr_none (gr_alloc _ _ none) (gr_drew _ _)); rintro e w1 ⟨rfl, g1⟩)
          | (go_at_call 147; (with_reducible refine (SUM.out _ ?_).mono ?_); (first | exact gr_none (gr_none (gr_alloc _ _ none) (gr_drew _ _)) g1); rintro e w2 ⟨rfl, g2⟩))
        go_wp2
        go_step3
        exact ⟨rfl, HN.out, rotJ_mk (gr_none (gr_none (gr_none (gr_alloc _ _ none) (gr_drew _ _)) g1) g2)⟩
    · have hd : ((p.length : Int) != 256) = true := by rw [bne_iff_ne]; omega
      have HN : Hid (r = none) := by show r = none; rw [HR.out]; unfold pagO; exact if_neg fun hh => hl hh.1
      clear hl
      go_wp2
      go_quiet (fail)
      go_wp2
      go_step3
      exact ⟨rfl, HN.out, rotJ_mk (gr_none (gr_alloc _ _ none) (gr_drewN _ _ _))⟩
end Go.Proofs.YtkpmadahfmpeiaaGreat

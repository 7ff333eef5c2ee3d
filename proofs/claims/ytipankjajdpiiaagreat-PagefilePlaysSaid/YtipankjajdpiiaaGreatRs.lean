/-
  Pages in memory: what page.Open calls.
-/
import Derived.Test.YtipankjajdpiiaaGreatPg
import Derived.ScopeJumps
import Derived.WalkMore
import Derived.Test.YtipankjajdpiiaaGreatRef
namespace Go.Proofs.YtipankjajdpiiaaGreat
open Go.RowKit
set_option maxRecDepth 100000
set_option maxHeartbeats 400000

theorem pnum_i (O S : Int) (at_ size : Nat) (hO : O = (at_ : Int)) (hS : S = (size : Int)) (v : Value) (l : List UInt8) (w : World) (hs : size = 1 ∨ size = 2 ∨ size = 4 ∨ size = 8) (hn : at_ + size ≤ l.length) (hl : l.length ≤ 1000000000) (h : RdB w v l) :
    Calls Tryz.prog 120 #[v, .int .i64 O, .int .i64 S] w fun e w' => e = .returned (.int .u64 (rdN ((l.drop at_).take size))) ∧ w.grownBy w' none := by
  subst hO hS
  have H := Lib.hid (get_any at_ size v l w hs hn hl h)
  clear hs hn hl h
  go_enter Tryz.func120, Tryz.ntmps120
  go_wp2_with (go_at_call 126; refine H.out.mono ?_; rintro e w2 ⟨rfl, g2⟩)
  go_ret
  exact ⟨rfl, g2⟩
/-- any byte that is not 0? -/
def anyN (l : List UInt8) : Bool := !l.all (· == 0)
theorem all_take_succ {l : List UInt8} {k : Nat} (hk : k < l.length) (h : (l.take k).all (· == 0) = true) (hx : l[k] = 0) : (l.take (k + 1)).all (· == 0) = true := by
  rw [List.take_succ_eq_append_getElem hk, List.all_append, h]; simp [hx]
theorem idxN_any (v : Value) (l : List UInt8) (w : World) (h : RdB w v l) (hn : l.length ≤ 1000000000) :
    Calls Tryz.prog 144 #[v, .func (.func 122) #[] #[]] w fun e w' => (∃ k : Int, e = .returned (.int .i64 k) ∧ decide (0 ≤ k) = anyN l) ∧ w = w' := by
  obtain ⟨hl, A, c, g, off, rfl, hnc, hc, _, hA, hx⟩ := h
  go_enter Tryz.func144, Tryz.ntmps144
  have Hl := Lib.hid hl
  clear hl
  go_wp2
  go_loop [5, 8] (fun _ i => ∃ k : Nat, k ≤ l.length ∧ i = .int .i64 k ∧ (l.take k).all (· == 0) = true) (fun _ i => l.length - (intOf i).toNat)
  case atStart => exact ⟨0, by omega, rfl, by simp⟩
  case round =>
    obtain ⟨k, hk, rfl, hno⟩ := hrel
    have Hno := Lib.hid hno
    clear hno
    by_cases hlt : k < l.length
    · have := hA (by omega)
      subst this
      have hcell : w.cell? ⟨g, off + k, none⟩ = some (.int .u8 l[k].toNat) := by rw [hx k (by omega)]; simp [u8v, hlt]
      clear hx
      by_cases hxk : l[k] = 0
      · have hxk' : ((l[k].toNat : Int) != 0) = false := by rw [hxk]; rfl
        have Hxk := Lib.hid hxk
        clear hxk
        go_wp2_with go_in
        go_round
        case rel => exact ⟨k + 1, by omega, by go_num, all_take_succ hlt Hno.out Hxk.out⟩
        case measure => simp [intOf]; omega
      · have hxk' : ((l[k].toNat : Int) != 0) = true := by
          rw [bne_iff_ne]; intro e; exact hxk (UInt8.toNat_inj.1 (by simpa using e))
        have Hxk := Lib.hid hxk
        clear hxk
        go_wp2_with go_in
        go_ret
        refine ⟨⟨k, rfl, ?_⟩, rfl⟩
        have : anyN l = true := by
          unfold anyN
          rw [Bool.not_eq_true', List.all_eq_false]
          exact ⟨l[k], List.getElem_mem hlt, by simpa using Hxk.out⟩
        rw [this]; simp
    · have : k = l.length := by omega
      subst this
      go_wp2
      go_ret
      have := Hno.out
      rw [List.take_length] at this
      exact ⟨⟨_, rfl, by unfold anyN; rw [this]; rfl⟩, rfl⟩
theorem cf_any (v : Value) (l : List UInt8) (w : World) (h : RdB w v l) (hn : l.length ≤ 1000000000) :
    Calls Tryz.prog 121 #[v, .func (.func 122) #[] #[]] w fun e w' => e = .returned (.bool (anyN l)) ∧ w = w' := by
  have H := Lib.hid (idxN_any v l w h hn)
  clear h
  go_enter Tryz.func121, Tryz.ntmps121
  go_wp2_with fail
  refine H.out.mono ?_
  rintro e w' ⟨⟨k, rfl, hk⟩, rfl⟩
  have HK := Lib.hid hk
  clear hk
  go_wp2
  go_ret
  exact ⟨by rw [← HK.out]; rfl, rfl⟩
end Go.Proofs.YtipankjajdpiiaaGreat

/- Pages in memory: page.Open. -/
namespace Go.Proofs.YtipankjajdpiiaaGreat
open Go.RowKit
set_option maxRecDepth 100000
set_option maxHeartbeats 400000

/-- what page.Open leaves. -/
def OpnOut (w : World) (r : Option (List UInt8)) (e : Ending) (w' : World) : Prop :=
  w.grownBy w' none ∧ ((∃ b v', r = some b ∧ e = .returned (.tuple #[v', .int .i64 0]) ∧ OwnB w' w.heap.size v' b) ∨ (r = none ∧ e = .returned (.tuple #[.slice none 0 0, .int .i64 7])))
/-- at the label. -/
def RotJ (w : World) (a : Act) (w' : World) : Prop := w.grownBy w' none ∧ ∃ u0 u1 u2 u3 u4 u5 u6 u7 u8 u9 u10 u11 u12 u13 u14 u15 u16 u17 u18 u19 u20 u21 u22 u23 u24 u25 u26 u27 u28 u29 u30 u31 u32 u33 u34 u35 u36 u37 u38 u39 u40 u41 u42 u43 u44 u45 u46 u47 u48 u49 u50 u51 u52 u53 u54 u55 : Value, a = { tmps := #[u0, u1, u2, u3, u4, u5, u6, u7, u8, u9, u10, u11, u12, u13, u14, u15, u16, u17, u18, u19, u20, u21, u22, u23, u24, u25, u26, u27, u28, u29, u30, u31, u32, u33, u34, u35, u36, u37, u38, u39, u40, u41, u42, u43, u44, u45, u46, u47, u48, u49, u50, u51, u52, u53, u54, u55], defers := [] }
theorem jump_ret {l : Nat} {J : Act → World → Prop} {Q : Exit → Act → World → Prop} {a : Act} {w : World} : Exit.jump l J Q .ret a w = Q .ret a w := rfl
theorem rotJ_mk {w w' : World} (hg : w.grownBy w' none) {u0 u1 u2 u3 u4 u5 u6 u7 u8 u9 u10 u11 u12 u13 u14 u15 u16 u17 u18 u19 u20 u21 u22 u23 u24 u25 u26 u27 u28 u29 u30 u31 u32 u33 u34 u35 u36 u37 u38 u39 u40 u41 u42 u43 u44 u45 u46 u47 u48 u49 u50 u51 u52 u53 u54 u55 : Value} : RotJ w { tmps := #[u0, u1, u2, u3, u4, u5, u6, u7, u8, u9, u10, u11, u12, u13, u14, u15, u16, u17, u18, u19, u20, u21, u22, u23, u24, u25, u26, u27, u28, u29, u30, u31, u32, u33, u34, u35, u36, u37, u38, u39, u40, u41, u42, u43, u44, u45, u46, u47, u48, u49, u50, u51, u52, u53, u54, u55], defers := [] } w' := ⟨hg, _, _, _, _, _, _, _, _, _, _, _, _, _, _, _, _, _, _, _, _, _, _, _, _, _, _, _, _, _, _, _, _, _, _, _, _, _, _, _, _, _, _, _, _, _, _, _, _, _, _, _, _, _, _, _, _, rfl⟩
/-- are two heads the same? -/
def hdEq (a b c d a' b' c' d' : Nat) : Bool := (a : Int) == a' && ((b : Int) == b' && ((c : Int) == c' && (d : Int) == d'))
theorem hdEq_iff {a b c d a' b' c' d' : Nat} : hdEq a b c d a' b' c' d' = true ↔ a = a' ∧ b = b' ∧ c = c' ∧ d = d' := by
  simp only [hdEq, Bool.and_eq_true, beq_iff_eq, Int.ofNat_inj]
theorem run_neqH (a b c d a' b' c' d' : Nat) (w : World) : (binOp .neq 167 (.agg #[.int .u64 a, .int .u64 b, .int .u64 c, .int .u64 d]) (.agg #[.int .u64 a', .int .u64 b', .int .u64 c', .int .u64 d'])).run Tryz.prog w = .ok (.bool (!hdEq a b c d a' b' c' d')) w := by
  rw [run_neq_struct]
  simp [go_sem]
  by_cases h1 : (a : Int) = a' <;> by_cases h2 : (b : Int) = b' <;> by_cases h3 : (c : Int) = c' <;> by_cases h4 : (d : Int) = d' <;> simp [hdEq, h1, h2, h3, h4]
set_option maxHeartbeats 2000000 in
theorem opn_any (tag k : Nat) (ht : tag < 4294967296) (hk : k < 4294967296) (v : Value) (p : List UInt8) (w : World) (h : RdB w v p) :
    Calls Tryz.prog 94 #[v, .int .u32 tag, .int .u32 k] w (OpnOut w (pagO p tag k)) := by
  obtain ⟨A, c, rfl⟩ := h.form
  obtain ⟨r, hr⟩ : ∃ r, r = pagO p tag k := ⟨_, rfl⟩
  have HR := Lib.hid hr
  have H := Lib.hid h
  rw [← hr]
  clear h hr
  go_enter Tryz.func94, Tryz.ntmps94
  go_wp2
  refine wp_scope_jumps 0 (fun a w' => r = none ∧ RotJ w a w') (fun _ _ => 0) rfl ?first ?pass
  case pass =>
    rintro a w' ⟨hn, g, u0, u1, u2, u3, u4, u5, u6, u7, u8, u9, u10, u11, u12, u13, u14, u15, u16, u17, u18, u19, u20, u21, u22, u23, u24, u25, u26, u27, u28, u29, u30, u31, u32, u33, u34, u35, u36, u37, u38, u39, u40, u41, u42, u43, u44, u45, u46, u47, u48, u49, u50, u51, u52, u53, u54, u55, rfl⟩
    have G := Lib.hid g
    have HN := Lib.hid hn
    clear g hn
    go_wp2
    rw [jump_ret]
    go_ret2
    exact ⟨G.out, .inr ⟨HN.out, rfl⟩⟩
  case first =>
    by_cases hl : p.length = 256
    · have HLN := Lib.hid hl
      have hc0 : p.length ≤ c := RdB.cap H.out
      have hc : (256 : Int) ≤ (c : Int) := by omega
      have hc2 : (252 : Int) ≤ (c : Int) := by omega
      have hcm : (c : Int) ≤ 9223372036854775807 := by obtain ⟨_, _, _, _, _, e, _, hm, _⟩ := H.out; cases e; unfold maxLen at hm; omega
      rw [hl] at H ⊢
      clear hl hc0
      have hH : ∀ wx, w.grownBy wx none → RdB wx (.slice A 256 c) p := fun wx hg => H.out.ext hg
      have HH := Lib.hid hH
      have NUM : ∀ (O S : Int) (at_ size : Nat), O = (at_ : Int) → S = (size : Int) → (size = 1 ∨ size = 2 ∨ size = 4 ∨ size = 8) → at_ + size ≤ 256 → Hid (∀ wx, w.grownBy wx none → Calls Tryz.prog 120 #[.slice A 256 c, .int .i64 O, .int .i64 S] wx fun e w' => e = .returned (.int .u64 (rdN ((p.drop at_).take size))) ∧ wx.grownBy w' none) :=
        fun O S at_ size hO hS hs hn wx hg => pnum_i O S at_ size hO hS _ p wx hs (by rw [HLN.out]; exact hn) (by rw [HLN.out]; omega) (HH.out wx hg)
      have N1 := NUM 252 4 252 4 rfl rfl (by omega) (by omega)
      have N2 := NUM 0 4 0 4 rfl rfl (by omega) (by omega)
      have N3 := NUM 4 4 4 4 rfl rfl (by omega) (by omega)
      have N4 := NUM 8 2 8 2 rfl rfl (by omega) (by omega)
      have N5 := NUM 10 2 10 2 rfl rfl (by omega) (by omega)
      have SUM : Hid (∀ wx, w.grownBy wx none → Calls Tryz.prog 107 #[.slice A 252 c] wx fun e w' => e = .returned (.int .u32 (crcS (p.take 252))) ∧ wx.grownBy w' none) := fun wx hg => by
        have h1 := RdB.take (HH.out wx hg) (k := 252) (by rw [HLN.out]; omega)
        exact sum_any _ (p.take 252) wx h1 (by rw [List.length_take]; omega)
      have hy1 : crcS (p.take 252) < 4294967296 := crcE_lt _ _
      have h4 : ∀ q : List UInt8, rdN (q.take 4) < 4294967296 := fun q => rdN_take_lt q 4
      have h2 : ∀ q : List UInt8, rdN (q.take 2) < 65536 := fun q => rdN_take_lt q 2
      have q1 := h4 (p.drop 252)
      have q2 := h4 (p.drop 0)
      have q3 := h4 (p.drop 4)
      have q4 := h2 (p.drop 8)
      have q5 := h2 (p.drop 10)
      have HU : Hid (pagO p tag k = if p.length = 256 ∧ rdN ((p.drop 252).take 4) = crcS (p.take 252) ∧ rdN ((p.drop 8).take 2) ≤ 240 ∧ rdN ((p.drop 0).take 4) = tag ∧ rdN ((p.drop 4).take 4) = k ∧ rdN ((p.drop 10).take 2) = 0 ∧
        ((p.take 252).drop (12 + rdN ((p.drop 8).take 2))).all (· == 0) = true then some ((p.take (12 + rdN ((p.drop 8).take 2))).drop 12) else none) := rfl
      clear NUM h4 h2 hH
      generalize rdN ((p.drop 252).take 4) = x1 at *
      generalize crcS (p.take 252) = y1 at *
      generalize rdN ((p.drop 0).take 4) = x2 at *
      generalize rdN ((p.drop 4).take 4) = x3 at *
      generalize rdN ((p.drop 8).take 2) = x4 at *
      generalize rdN ((p.drop 10).take 2) = x5 at *
      have hwy : IntKind.u64.wrap (y1 : Int) = (y1 : Int) := by rw [IntWalk.u64_in _ (by omega)]
      have HW := Lib.hid hwy
      clear hwy
      by_cases e1 : x1 = y1
      · subst e1
        have hd : ((x1 : Int) != (x1 : Int)) = false := by simp
        have hwy := HW.out
        go_wp2
        go_region_held3 (fun _ => True) (trivial) (first
          | (go_at_call 120; (with_reducible refine (N1.out _ ?_).mono ?_); (first | exact gr_none (gr_alloc _ _ none) (gr_drew _ _)); rintro e w1 ⟨rfl, g1⟩)
          | (go_at_call 107; (with_reducible refine (SUM.out _ ?_).mono ?_); (first | exact gr_none (gr_none (gr_alloc _ _ none) (gr_drew _ _)) g1); rintro e w2 ⟨rfl, g2⟩))
        have G2 : Hid ((w.alloc (.cells #[.int .u64 0, .int .u64 0, .int .u64 0, .int .u64 0] 167)).grownBy w2 none) := gr_none (gr_trans (gr_drew _ _) g1 (.inl rfl)) g2
        have HB : Hid (∀ wx, w2.grownBy wx none → Blk wx w.heap.size 167 #[.int .u64 0, .int .u64 0, .int .u64 0, .int .u64 0]) := fun wx hg => (Blk.new w _ _).ext (gr_none G2.out hg)
        have HG : Hid (∀ wx, w2.grownBy wx none → w.grownBy wx none) := fun wx hg => gr_none (gr_none (gr_alloc w _ none) G2.out) hg
        clear hwy g1 g2 hd G2
        go_wp2_with fail
        refine (N2.out _ (HG.out _ (gr_refl _ _))).mono ?_
        rintro e w3 ⟨rfl, g3⟩
        have G3 := Lib.hid g3
        clear g3
        go_wp2_with fail
        refine (N3.out _ (HG.out _ G3.out)).mono ?_
        rintro e w4 ⟨rfl, g4⟩
        have G4 := Lib.hid (gr_none G3.out g4)
        clear g4
        go_wp2_with fail
        refine (N4.out _ (HG.out _ G4.out)).mono ?_
        rintro e w5 ⟨rfl, g5⟩
        have G5 := Lib.hid (gr_none G4.out g5)
        clear g5
        go_wp2_with fail
        refine (N5.out _ (HG.out _ G5.out)).mono ?_
        rintro e w6 ⟨rfl, g6⟩
        have G6 := Lib.hid (gr_none G5.out g6)
        clear g6
        have hb6 := HB.out _ G6.out
        have c0 : w6.cell? ⟨w.heap.size, 0, none⟩ = some (.int .u64 0) := hb6.cell 0
        have c1 : w6.cell? ⟨w.heap.size, 1, none⟩ = some (.int .u64 0) := hb6.cell 1
        have c2 : w6.cell? ⟨w.heap.size, 2, none⟩ = some (.int .u64 0) := hb6.cell 2
        have c3 : w6.cell? ⟨w.heap.size, 3, none⟩ = some (.int .u64 0) := hb6.cell 3
        have f0 : w6.frozen? ⟨w.heap.size, 0, none⟩ = false := hb6.frozen 0
        have f1 : w6.frozen? ⟨w.heap.size, 1, none⟩ = false := hb6.frozen 1
        have f2 : w6.frozen? ⟨w.heap.size, 2, none⟩ = false := hb6.frozen 2
        have f3 : w6.frozen? ⟨w.heap.size, 3, none⟩ = false := hb6.frozen 3
        have G7 : Hid (∀ wx, ((((w6.setCell ⟨w.heap.size, 0, none⟩ (.int .u64 x2)).setCell ⟨w.heap.size, 1, none⟩ (.int .u64 x3)).setCell ⟨w.heap.size, 2, none⟩ (.int .u64 x4)).setCell ⟨w.heap.size, 3, none⟩ (.int .u64 x5)).grownBy wx none → w.grownBy wx none) := fun wx hg =>
          gr_none (gr_set_new (gr_set_new (gr_set_new (gr_set_new (HG.out _ G6.out) _ _ (Nat.le_refl _)) _ _ (Nat.le_refl _)) _ _ (Nat.le_refl _)) _ _ (Nat.le_refl _)) hg
        clear hb6
        by_cases e4 : x4 ≤ 240
        · have hne : ∀ w, (binOp .neq 167 (.agg #[.int .u64 x2, .int .u64 x3, .int .u64 x4, .int .u64 x5]) (.agg #[.int .u64 tag, .int .u64 k, .int .u64 x4, .int .u64 0])).run Tryz.prog w = .ok (.bool (!hdEq x2 x3 x4 x5 tag k x4 0)) w := fun w => run_neqH x2 x3 x4 x5 tag k x4 0 w
          by_cases e5 : hdEq x2 x3 x4 x5 tag k x4 0 = true
          · have hcut : ∀ i j, i ≤ j → j ≤ 256 → Hid (∀ wx, w.grownBy wx none → RdB wx (.slice (cutA A c i 1) (j - i) (c - i)) ((p.take j).drop i)) := fun i j hij hj wx hg => by
              have h := HH.out wx hg
              rw [← HLN.out] at h
              exact h.cut hij (by rw [HLN.out]; exact hj)
            have CF : Hid (∀ wx, w.grownBy wx none → Calls Tryz.prog 121 #[.slice (cutA A c (12 + x4) 1) (252 - (12 + x4)) (c - (12 + x4)), .func (.func 122) #[] #[]] wx fun e w' => e = .returned (.bool (anyN ((p.take 252).drop (12 + x4)))) ∧ wx = w') := fun wx hg =>
              cf_any _ _ wx (by have := (hcut (12 + x4) 252 (by omega) (by omega)).out wx hg; unfold RdB at this ⊢; rw [List.length_drop, List.length_take, HLN.out]; rw [List.length_drop, List.length_take, HLN.out] at this; exact this) (by rw [List.length_drop, List.length_take]; omega)
            have CL : Hid (∀ wx, w.grownBy wx none → Calls Tryz.prog 42 #[.slice (cutA A c 12 1) x4 (c - 12)] wx fun e w' => ∃ v', e = .returned v' ∧ OwnB w' wx.heap.size v' ((p.take (12 + x4)).drop 12) ∧ wx.grownBy w' none) := fun wx hg => by
              have h1 := (hcut 12 (12 + x4) (by omega) (by omega)).out wx hg
              rw [show 12 + x4 - 12 = x4 from by omega] at h1
              exact cloneB _ _ wx h1 (by rw [List.length_drop, List.length_take]; omega)
            have ht1 : ((12 : Int) + (x4 : Int)).toNat = 12 + x4 := by omega
            have hi1 : (12 : Int) + (x4 : Int) ≤ 252 := by omega
            have hi2 : (12 : Int) ≤ 12 + (x4 : Int) := by omega
            have hi3 : (12 : Int) + (x4 : Int) ≤ (c : Int) := by omega
            have hi4 : (0 : Int) ≤ 12 + (x4 : Int) := by omega
            clear hcut
            cases hany : anyN ((p.take 252).drop (12 + x4)) with
            | true =>
              have HN : Hid (r = none) := by
                show r = none
                rw [HR.out, HU.out]
                refine if_neg fun hh => ?_
                have := hh.2.2.2.2.2.2
                unfold anyN at hany
                rw [this] at hany
                cases hany
              rw [hany] at CF
              clear hany HU
              go_wp2_with fail
              refine (CF.out _ (G7.out _ (gr_refl _ _))).mono ?_
              rintro e w7 ⟨rfl, rfl⟩
              go_wp2
              go_step3
              exact ⟨rfl, HN.out, rotJ_mk (G7.out _ (gr_refl _ _))⟩
            | false =>
              have HN : Hid (r = some ((p.take (12 + x4)).drop 12)) := by
                show r = _
                obtain ⟨i1, i2, i3, i4⟩ := hdEq_iff.1 e5
                rw [HR.out, HU.out]
                refine if_pos ⟨HLN.out, by trivial, e4, i1, i2, i4, ?_⟩
                unfold anyN at hany
                simpa using hany
              rw [hany] at CF
              clear hany HU
              go_wp2_with fail
              refine (CF.out _ (G7.out _ (gr_refl _ _))).mono ?_
              rintro e w7 ⟨rfl, rfl⟩
              go_wp2_with fail
              refine (CL.out _ (G7.out _ (gr_refl _ _))).mono ?_
              rintro e w8 ⟨v8, rfl, o8, g8⟩
              go_wp2
              rw [jump_ret]
              go_ret2
              exact ⟨G7.out _ g8, .inl ⟨_, _, HN.out, rfl, o8.mono (G7.out _ (gr_refl _ _)).size⟩⟩
          · have e6 : hdEq x2 x3 x4 x5 tag k x4 0 = false := by simpa using e5
            have HN : Hid (r = none) := by show r = none; rw [HR.out, HU.out]; exact if_neg fun hh => e5 (hdEq_iff.2 ⟨hh.2.2.2.1, hh.2.2.2.2.1, rfl, hh.2.2.2.2.2.1⟩)
            clear e5 HU
            go_wp2
            go_step3
            exact ⟨rfl, HN.out, rotJ_mk (G7.out _ (gr_refl _ _))⟩
        · have hd4 : (240 : Int) < (x4 : Int) := by omega
          have HN : Hid (r = none) := by show r = none; rw [HR.out, HU.out]; exact if_neg fun hh => e4 hh.2.2.1
          clear e4 HU
          go_wp2
          go_step3
          exact ⟨rfl, HN.out, rotJ_mk (G7.out _ (gr_refl _ _))⟩
      · have hd : ((x1 : Int) != (y1 : Int)) = true := by rw [bne_iff_ne]; omega
        have HN : Hid (r = none) := by show r = none; rw [HR.out, HU.out]; exact if_neg fun hh => e1 hh.2.1
        have hwy := HW.out
        clear e1 HU
        go_wp2
        go_region_held3 (fun _ => True) (trivial) (first
          | (go_at_call 120; (with_reducible refine (N1.out _ ?_).mono ?_); (first | exact gr_none (gr_alloc _ _ none) (gr_drew _ _)); rintro e w1 ⟨rfl, g1⟩)
          | (go_at_call 107; (with_reducible refine (SUM.out _ ?_).mono ?_); (first | exact gr_none (gr_none (gr_alloc _ _ none) (gr_drew _ _)) g1); rintro e w2 ⟨rfl, g2⟩))
        go_wp2
        go_step3
        exact ⟨rfl, HN.out, rotJ_mk (gr_none (gr_none (gr_none (gr_alloc _ _ none) (gr_drew _ _)) g1) g2)⟩
    · have hd : ((p.length : Int) != 256) = true := by rw [bne_iff_ne]; omega
      have HN : Hid (r = none) := by show r = none; rw [HR.out]; unfold pagO; exact if_neg fun hh => hl hh.1
      clear hl
      go_wp2
      go_quiet (fail)
      go_wp2
      go_step3
      exact ⟨rfl, HN.out, rotJ_mk (gr_none (gr_alloc _ _ none) (gr_drewN _ _ _))⟩
end Go.Proofs.YtipankjajdpiiaaGreat

/- The document's pages: Make, Open, Tag. -/
namespace Go.Proofs.YtipankjajdpiiaaGreat
open Go.RowKit
set_option maxRecDepth 100000
set_option maxHeartbeats 400000

def lenV1 : Value → Nat
  | .slice _ n _ => n
  | _ => 0
theorem le42 {n : Nat} (h : n ≤ 240) : le n 4 = le n 2 ++ le 0 2 := by
  have h1 : rdN (le n 2 ++ le 0 2) = n := by
    have e : le 0 2 = [0] ++ [0] := rfl
    rw [e, ← List.append_assoc, rdN_snoc, rdN_snoc, rd_le, Nat.mod_eq_of_lt (by omega)]
    simp
  have h2 := le_rd (le n 2 ++ le 0 2)
  rw [h1, List.length_append, length_le, length_le] at h2
  exact h2
theorem pagH_ref {tag k : Nat} {b : List UInt8} (h : b.length ≤ 240) : pagH tag k b = le tag 4 ++ le k 4 ++ le b.length 4 ++ b ++ List.replicate (240 - b.length) 0 := by
  rw [le42 h]
  unfold pagH
  simp only [List.append_assoc]
theorem pagO_own {p : List UInt8} {tag k : Nat} {b : List UInt8} (h : pagO p tag k = some b) : p = pagB tag k b ∧ b.length ≤ 240 ∧ rdN ((p.drop 8).take 4) = b.length ∧ (p.drop 12).take b.length = b := by
  unfold pagO at h
  split at h
  · next hc =>
    obtain ⟨h1, h2, h3, h4, h5, h6, h7⟩ := hc
    have hb : (p.take (12 + rdN ((p.drop 8).take 2))).drop 12 = b := Option.some.inj h
    obtain ⟨n, hn⟩ : ∃ n, n = rdN ((p.drop 8).take 2) := ⟨_, rfl⟩
    rw [← hn] at h3 h7 hb
    have hb2 : b = (p.drop 12).take n := by rw [← hb, List.drop_take, show 12 + n - 12 = n from by omega]
    have hbl : b.length = n := by rw [hb2, List.length_take, List.length_drop]; omega
    have t0 : p.take 4 = le tag 4 := by have := le_rd (p.take 4); rw [h4, List.length_take, show min 4 p.length = 4 from by omega] at this; exact this.symm
    have t1 : (p.drop 4).take 4 = le k 4 := by have := le_rd ((p.drop 4).take 4); rw [h5, List.length_take, List.length_drop, show min 4 (p.length - 4) = 4 from by omega] at this; exact this.symm
    have t2 : (p.drop 8).take 2 = le n 2 := by have := le_rd ((p.drop 8).take 2); rw [← hn, List.length_take, List.length_drop, show min 2 (p.length - 8) = 2 from by omega] at this; exact this.symm
    have t3 : (p.drop 10).take 2 = le 0 2 := by have := le_rd ((p.drop 10).take 2); rw [h6, List.length_take, List.length_drop, show min 2 (p.length - 10) = 2 from by omega] at this; exact this.symm
    have t5 : (p.take 252).drop (12 + n) = List.replicate (240 - n) 0 := by
      rw [List.eq_replicate_iff]
      refine ⟨by rw [List.length_drop, List.length_take]; omega, fun x hx => ?_⟩
      have := List.all_eq_true.1 h7 x hx
      simpa using this
    have d1 : p.take 252 = pagH tag k b := by
      have e0 : p.take 252 = p.take 4 ++ ((p.take 252).drop 4) := by
        have := (List.take_append_drop 4 (p.take 252)).symm
        rw [List.take_take, show min 4 252 = 4 from rfl] at this
        exact this
      have e1 : (p.take 252).drop 4 = (p.drop 4).take 4 ++ (p.take 252).drop 8 := by
        have := (List.take_append_drop 4 ((p.take 252).drop 4)).symm
        rw [List.drop_drop, List.drop_take, List.take_take, show min 4 (252 - 4) = 4 from rfl] at this
        rw [← List.drop_take] at this
        exact this
      have e2 : (p.take 252).drop 8 = (p.drop 8).take 2 ++ (p.take 252).drop 10 := by
        have := (List.take_append_drop 2 ((p.take 252).drop 8)).symm
        rw [List.drop_drop, List.drop_take, List.take_take, show min 2 (252 - 8) = 2 from rfl] at this
        rw [← List.drop_take] at this
        exact this
      have e3 : (p.take 252).drop 10 = (p.drop 10).take 2 ++ (p.take 252).drop 12 := by
        have := (List.take_append_drop 2 ((p.take 252).drop 10)).symm
        rw [List.drop_drop, List.drop_take, List.take_take, show min 2 (252 - 10) = 2 from rfl] at this
        rw [← List.drop_take] at this
        exact this
      have e4 : (p.take 252).drop 12 = b ++ (p.take 252).drop (12 + n) := by
        have := (List.take_append_drop n ((p.take 252).drop 12)).symm
        rw [List.drop_drop, List.drop_take, List.take_take, show min n (252 - 12) = n from by omega] at this
        rw [← List.drop_take, ← hb2] at this
        exact this
      rw [e0, e1, e2, e3, e4, t0, t1, t2, t3, t5]
      unfold pagH
      rw [hbl]
    refine ⟨?_, by omega, ?_, ?_⟩
    · have e0 := (List.take_append_drop 252 p).symm
      have e1 : p.drop 252 = le (crcS (p.take 252)) 4 := by
        have := le_rd ((p.drop 252).take 4)
        rw [h2, List.length_take, List.length_drop, show min 4 (p.length - 252) = 4 from by omega] at this
        have e9 : (p.drop 252).take 4 = p.drop 252 := List.take_of_length_le (by rw [List.length_drop]; omega)
        rw [e9] at this
        exact this.symm
      rw [e0, e1, d1]
      rfl
    · have e : (p.drop 8).take 4 = le n 2 ++ le 0 2 := by
        have := (List.take_append_drop 2 ((p.drop 8).take 4)).symm
        rw [List.take_take, List.drop_take, List.drop_drop, show min 2 4 = 2 from rfl, show 4 - 2 = 2 from rfl, t2, show 2 + 8 = 10 from rfl] at this
        rw [this]
        first | rw [t3] | (rw [show 8 + 2 = 10 from rfl, t3])
      rw [e, ← le42 h3, rd_le, hbl, Nat.mod_eq_of_lt (by omega)]
    · rw [hbl, ← hb2]
  · cases h
/-- what Open answers, as the document has it. -/
theorem pagO_ref (p : List UInt8) {tag k : Nat} (ht : tag < 2 ^ 32) (hk : k < 2 ^ 32) :
    pagO p tag k = if p.length = 256 then (if 240 < rdN ((p.drop 8).take 4) then none else if p = pagB tag k ((p.drop 12).take (rdN ((p.drop 8).take 4))) then some ((p.drop 12).take (rdN ((p.drop 8).take 4))) else none) else none := by
  cases h : pagO p tag k with
  | some b =>
    obtain ⟨h1, h2, h3, h4⟩ := pagO_own h
    have hl : p.length = 256 := by rw [h1]; exact pagB_len h2
    rw [if_pos hl, h3, if_neg (by omega), h4, if_pos h1]
  | none =>
    split
    · split
      · rfl
      · next hl hn =>
        split
        · next he =>
          exfalso
          have hbl : ((p.drop 12).take (rdN ((p.drop 8).take 4))).length ≤ 240 := by rw [List.length_take]; omega
          have := pagO_made (tag := tag) (k := k) (m := k) hbl ht hk
          rw [← he, h, if_pos rfl] at this
          cases this
        · rfl
    · rfl
theorem rtag_any (n : List UInt8) (hn : n.length ≤ 1000000000) (w : World) :
    Calls Tryz.prog 98 #[.string ⟨n.toArray⟩] w fun e w' => e = .returned (.int .u32 (crcS n)) ∧ w.grownBy w' none := by
  go_enter Tryz.func98, Tryz.ntmps98
  go_wp2_with (refine wp_bytes rfl (.tmp 3) rfl n rfl (by unfold maxLen; omega) ?_; rintro v1 w1 o1 g1 -)
  have O1 := Lib.hid o1
  have G1 := Lib.hid g1
  clear o1 g1
  go_wp2_with fail
  refine (rsum_any _ _ _ O1.out.rd hn).mono ?_
  rintro e w2 ⟨rfl, rfl⟩
  go_wp2
  go_ret
  exact ⟨rfl, G1.out⟩
theorem rmk_many (tag k : Int) (v : Value) (b : List UInt8) (w : World) (h : RdB w v b) (hb : 240 < b.length) :
    Calls Tryz.prog 99 #[.int .u32 tag, .int .u32 k, v] w fun e w' => e = .returned (.tuple #[.slice none 0 0, .int .i64 9]) ∧ w = w' := by
  obtain ⟨A, c, rfl⟩ := h.form
  clear h
  go_enter Tryz.func99, Tryz.ntmps99
  go_wp2
  go_ret2
  exact ⟨rfl, rfl⟩
set_option maxHeartbeats 4000000 in
theorem rmk_any (tag k : Nat) (ht : tag < 4294967296) (hk : k < 4294967296) (v : Value) (b : List UInt8) (w : World) (h : RdB w v b) (hb : b.length ≤ 240) :
    Calls Tryz.prog 99 #[.int .u32 tag, .int .u32 k, v] w fun e w' => (∃ v', e = .returned (.tuple #[v', .int .i64 0]) ∧ OwnB w' w.heap.size v' (pagB tag k b)) ∧ w.grownBy w' none := by
  obtain ⟨A, c, rfl⟩ := h.form
  have HPH := Lib.hid (pagH_ref (tag := tag) (k := k) hb)
  have HPB : Hid (pagB tag k b = pagH tag k b ++ le (crcS (pagH tag k b)) 4) := rfl
  have HPHL := Lib.hid (pagH_len (tag := tag) (k := k) hb)
  have H := Lib.hid h
  obtain ⟨nb, hnb⟩ : ∃ nb, nb = b.length := ⟨_, rfl⟩
  have HNB := Lib.hid hnb
  have HP := Lib.hid (fun (x : Nat) (hx : x < 18446744073709551616) (v : Value) (l : List UInt8) (wx : World) (hl : l.length ≤ 1000000000) (h : RdB wx v l) => rput_i 4 x 4 x rfl rfl v l wx hx (by omega) hl h)
  rw [← hnb] at hb H HPH ⊢
  clear h hnb
  go_enter Tryz.func99, Tryz.ntmps99
  go_wp2_with fail
  refine (HP.out tag (by omega) _ [] _ (by simp) (Rd.nil _ _)).mono ?_
  rintro e w1 ⟨v1, rfl, o1, g1⟩
  have O1 := Lib.hid o1
  have G1 := Lib.hid g1
  clear o1 g1
  go_wp2_with fail
  refine (HP.out k (by omega) _ _ _ (by simp [length_le]) O1.out.rd).mono ?_
  rintro e w2 ⟨v2, rfl, o2, g2⟩
  have O2 := Lib.hid (Own.mono o2 G1.out.size)
  have G2 := Lib.hid (gr_none G1.out g2)
  clear o2 g2
  go_wp2_with fail
  refine (HP.out nb (by omega) _ _ _ (by simp [length_le]) O2.out.rd).mono ?_
  rintro e w3 ⟨v3, rfl, o3, g3⟩
  have G3 := Lib.hid (gr_none G2.out g3)
  obtain ⟨P, hP⟩ : ∃ P, P = le tag 4 ++ le k 4 ++ le nb 4 := ⟨_, rfl⟩
  have hPl : P.length = 12 := by rw [hP]; simp [length_le]
  have O3 : Hid (OwnB w3 w.heap.size v3 P) := by
    show OwnB _ _ _ _
    rw [hP]
    have := OwnB.mono o3 G2.out.size
    simpa only [List.nil_append] using this
  rw [← hP] at HPH
  clear o3 g3 hP
  have HPL := Lib.hid hPl
  go_wp2_with (at_builtin; refine wp_appB (m := b) (l := P) rfl (.tmp 24) (.tmp 25) rfl rfl O3.out rfl (H.out.ext G3.out) (by rw [HPL.out, ← HNB.out]; omega) G3.out.size ?_; rintro v4 w4 o4 g4 -; have G4 : Hid (w.grownBy w4 none) := gr_own G3.out g4 O3.out (Nat.le_refl _); have O4 := Lib.hid o4; clear o4 g4)
  go_loopw [8] (fun u wr => ∃ j : Nat, j ≤ 240 - nb ∧ OwnB wr w.heap.size u (P ++ b ++ List.replicate j 0) ∧ w.grownBy wr none) (fun u _ => 252 - lenV1 u)
  case atStart => exact ⟨0, by omega, by simpa using O4.out, G4.out⟩
  case round =>
    obtain ⟨j, hj, hown, hg⟩ := hrel
    obtain ⟨A9, c9, e⟩ := hown.rd.form
    subst e
    have hlen : (P ++ b ++ List.replicate j (0 : UInt8)).length = 12 + nb + j := by rw [List.length_append, List.length_append, HPL.out, ← HNB.out]; simp
    rw [hlen] at hown
    have HO := Lib.hid hown
    have HG := Lib.hid hg
    have HLEN := Lib.hid hlen
    clear hown hg
    rw [hlen]
    clear hlen
    by_cases hlt : j < 240 - nb
    · have hlb : (P ++ b ++ List.replicate j (0 : UInt8)).length ≤ 70000000000000 := by rw [HLEN.out]; omega
      have hzz := HG.out.size
      have hl252 : ((12 + nb + j : Nat) : Int) < 252 := by omega
      obtain ⟨q, hq⟩ : ∃ q, q = 12 + nb + j := ⟨_, rfl⟩
      have HQ := Lib.hid hq
      rw [← hq] at HO HLEN hl252 ⊢
      clear hq
      go_wp2_with (at_builtin; refine wp_app1B 0 _ (by rfl) rfl (.tmp 30) (.tmp 31) rfl rfl HO.out rfl hlb hzz ?_; intro v1 w1 h1 g1 a1)
      have H1 := Lib.hid h1
      have GG1 := Lib.hid (gr_trans HG.out g1 (.inr fun k e => Own.lt HO.out k e))
      obtain ⟨A1, c1, rfl⟩ := h1.rd.form
      clear h1 g1 a1
      go_roundw
      case rel => exact ⟨j + 1, by omega, by rw [show P ++ b ++ List.replicate (j + 1) (0 : UInt8) = P ++ b ++ List.replicate j 0 ++ [0] from by rw [List.append_assoc (P ++ b), ← List.replicate_succ']]; exact H1.out, GG1.out⟩
      case measure => (have h1 := HPL.out; have h2 := HNB.out; have h3 := HQ.out; simp [lenV1]; omega)
    · obtain rfl : j = 240 - nb := by omega
      have hl252 : ¬ ((12 + nb + (240 - nb) : Nat) : Int) < 252 := by omega
      have hse : Hid (P ++ b ++ List.replicate (240 - nb) (0 : UInt8) = pagH tag k b) := HPH.out.symm
      obtain ⟨q, hq⟩ : ∃ q, q = 12 + nb + (240 - nb) := ⟨_, rfl⟩
      have HQ := Lib.hid hq
      rw [← hq] at HO HLEN hl252 ⊢
      rw [hse.out] at HO
      have hcl := crcE_lt 0 (pagH tag k b)
      clear hq
      go_wp2_with fail
      refine (rsum_any _ (pagH tag k b) _ HO.out.rd (by rw [HPHL.out]; omega)).mono ?_
      rintro e w5 ⟨rfl, rfl⟩
      have hcl' : crcS (pagH tag k b) < 18446744073709551616 := by unfold crcS; omega
      have HCR : Hid (pagB tag k b = pagH tag k b ++ le (crcS (pagH tag k b)) 4) := rfl
      generalize crcS (pagH tag k b) = x at *
      go_wp2_with fail
      refine (HP.out x hcl' _ (pagH tag k b) _ (by rw [HPHL.out]; omega) HO.out.rd).mono ?_
      rintro e w6 ⟨v6, rfl, o6, g6⟩
      have O6 := Lib.hid (Own.mono o6 HG.out.size)
      have G6 := Lib.hid (gr_none HG.out g6)
      clear o6 g6
      go_wp2
      go_ret2
      exact ⟨⟨v6, rfl, by rw [HCR.out]; exact O6.out⟩, G6.out⟩
set_option maxHeartbeats 4000000 in
theorem ropn_any (tag k : Nat) (ht : tag < 4294967296) (hk : k < 4294967296) (v : Value) (p : List UInt8) (w : World) (h : RdB w v p) :
    Calls Tryz.prog 97 #[v, .int .u32 tag, .int .u32 k] w (OpnOut w (pagO p tag k)) := by
  obtain ⟨A, c, rfl⟩ := h.form
  have hO := pagO_ref p (tag := tag) (k := k) ht hk
  have hcap := RdB.cap h
  by_cases hl : p.length = 256
  · rw [if_pos hl] at hO
    obtain ⟨n, hn⟩ : ∃ n, n = rdN ((p.drop 8).take 4) := ⟨_, rfl⟩
    have hGet := rget_any 8 4 8 4 rfl rfl _ p w (by omega) (by omega) (by omega) h
    rw [← hn] at hO hGet
    have hn32 : n < 4294967296 := by
      rw [hn]
      have h5 := rdN_lt ((p.drop 8).take 4)
      rw [List.length_take, List.length_drop, show min 4 (p.length - 8) = 4 from by omega] at h5
      exact h5
    have HGET := Lib.hid hGet
    rw [hl] at hcap
    by_cases hbig : 240 < n
    · rw [if_pos hbig] at hO
      have HO := Lib.hid hO
      rw [hl] at HGET ⊢
      clear hO hGet h hn
      go_enter Tryz.func97, Tryz.ntmps97
      go_wp2_with fail
      refine HGET.out.mono ?_
      rintro e w1 ⟨rfl, rfl⟩
      go_wp2_with fail
      go_ret2
      exact ⟨gr_refl _ _, .inr ⟨HO.out, rfl⟩⟩
    · rw [if_neg hbig] at hO
      obtain ⟨b, hb⟩ : ∃ b, b = (p.drop 12).take n := ⟨_, rfl⟩
      have hbl : b.length = n := by rw [hb, List.length_take, List.length_drop]; omega
      rw [← hb] at hO
      have H := Lib.hid h
      have HO := Lib.hid hO
      have HBL := Lib.hid hbl
      have HB := Lib.hid hb
      have HL := Lib.hid hl
      rw [hl] at HGET H ⊢
      clear hO hGet h hn hb hbl hl
      go_enter Tryz.func97, Tryz.ntmps97
      go_wp2_with fail
      refine HGET.out.mono ?_
      rintro e w1 ⟨rfl, rfl⟩
      go_wp2_with fail
      have hcn : n ≤ c - 12 := by omega
      have HRB : Hid (RdB w (.slice (cutA A c 12 1) n (c - 12)) b) := by
        have h5 : RdB w (.slice A p.length c) p := by show RdB _ _ _; rw [HL.out]; exact H.out
        have h6 := h5.cut (i := 12) (j := 12 + n) (by omega) (by rw [HL.out]; omega)
        show RdB _ _ _
        rw [HB.out]
        rw [show 12 + n - 12 = n from by omega, List.drop_take, show 12 + n - 12 = n from by omega] at h6
        exact h6
      have hnn : 12 + n - 12 = n := by omega
      rw [hnn]
      refine (copyBytes_any _ _ w HRB.out (by rw [HBL.out]; omega)).mono ?_
      rintro e w2 ⟨v2, rfl, o2, g2⟩
      have HMK := Lib.hid (rmk_any tag k ht hk v2 b w2 o2.rd (by rw [HBL.out]; omega))
      have O2 := Lib.hid o2
      have G2 := Lib.hid g2
      obtain ⟨A2, c2, e2⟩ := RdB.form (OwnB.rd o2)
      rw [HBL.out] at e2
      subst e2
      clear o2 g2
      go_wp2_with fail
      refine HMK.out.mono ?_
      rintro e w3 ⟨⟨v3, rfl, o3⟩, g3⟩
      have O3 := Lib.hid o3
      have G3 := Lib.hid g3
      obtain ⟨A3, c3, e3⟩ := RdB.form (OwnB.rd o3)
      subst e3
      clear o3 g3 HMK
      have HEQ := Lib.hid (eqBytes_any _ _ p (pagB tag k b) w3 (H.out.ext (gr_none G2.out G3.out)) O3.out.rd)
      go_wp2_with fail
      refine HEQ.out.mono ?_
      rintro e w4 ⟨rfl, rfl⟩
      by_cases hpe : p = pagB tag k b
      · have hq : (p == pagB tag k b) = true := by simpa using hpe
        rw [hq]
        have HO2 : Hid (pagO p tag k = some b) := by show _ = _; rw [HO.out, if_pos hpe]
        clear hpe hq
        go_wp2_with fail
        go_ret2
        exact ⟨gr_none G2.out G3.out, .inl ⟨b, _, HO2.out, rfl, O2.out.ext G3.out⟩⟩
      · have hq : (p == pagB tag k b) = false := by simpa using hpe
        rw [hq]
        have HO2 : Hid (pagO p tag k = none) := by show _ = _; rw [HO.out, if_neg hpe]
        clear hpe hq
        go_wp2_with fail
        go_ret2
        exact ⟨gr_none G2.out G3.out, .inr ⟨HO2.out, rfl⟩⟩
  · rw [if_neg hl] at hO
    have HO := Lib.hid hO
    have hl2 : ((p.length : Int) == 256) = false := by rw [beq_eq_false_iff_ne]; omega
    clear hO h hl
    go_enter Tryz.func97, Tryz.ntmps97
    go_wp2
    go_ret2
    exact ⟨gr_refl _ _, .inr ⟨HO.out, rfl⟩⟩
end Go.Proofs.YtipankjajdpiiaaGreat

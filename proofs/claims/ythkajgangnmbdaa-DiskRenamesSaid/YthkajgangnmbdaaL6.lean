/-
  What the disk's laws share: twin, same, works.
-/
import Derived.Test.YthkajgangnmbdaaDa
import Derived.Test.YthkajgangnmbdaaOne
import Derived.Test.YthkajgangnmbdaaDk
namespace Go.Proofs.Ythkajgangnmbdaa
open Go.RowKit
set_option maxRecDepth 100000
set_option maxHeartbeats 400000

theorem LsIs.in_ {S : Dk} {ls : List Sec} (h : LsIs S ls) (hli : LooseIn S) : ∀ x ∈ ls, x.page.toNat * 64 < (S.nowOf x.name).length := fun x hx => by
  obtain ⟨s, p⟩ := x
  obtain ⟨f, h1, h2, h3⟩ := hli s _ ((h.2.1 s _ (h.2.2 _ hx)).2 ⟨p, hx, rfl⟩)
  rw [nowOf_some h1]
  omega
theorem twin_any (v : Value) (l : List UInt8) (w : World) (h : RdB w v l) (hn : l.length ≤ 1000000000) :
    Calls Try.prog 8 #[v] w fun e w' => (∃ v', e = .returned v' ∧ OwnB w' w.heap.size v' l) ∧ w.grownBy w' none := by
  have H0 := Lib.hid h
  clear h
  go_enter Try.func8, Try.ntmps8
  go_wp2_with (at_builtin; refine wp_appB (m := l) (l := []) rfl (.tmp 3) (.tmp 4) rfl rfl (own_empty _ _ (Nat.le_refl _)) rfl (Rd.alloc H0.out _) (by simp; omega) (by simp) ?_)
  intro v' w' h1 h2 h3
  go_wp2
  go_ret
  exact ⟨⟨_, rfl, by simpa using h1⟩, gr_trans (gr_alloc _ _ _) h2 (.inr (fun g e => by simp [Value.ownBlock] at e; omega))⟩
/-- nothing but draws. -/
def DrewS (w w' : World) : Prop := ∃ q, w' = w.drewN q
theorem RdB.at_ {w : World} {A : Option Addr} {c : Nat} {l : List UInt8} (h : RdB w (.slice A l.length c) l) : ∃ g off, (0 < l.length → A = some ⟨g, off, none⟩) ∧ l.length ≤ c ∧ c ≤ maxLen ∧ ∀ k (hk : k < l.length), w.cell? ⟨g, off + k, none⟩ = some (.int .u8 l[k].toNat) := by
  obtain ⟨hl, A', c', g, off, e, hn, hc, hA0, hA, hx⟩ := h
  cases e
  refine ⟨g, off, fun h0 => hA (by omega), hn, hc, fun k hk => ?_⟩
  rw [hx k (by omega), List.getElem?_map, List.getElem?_eq_getElem hk]
  rfl
set_option maxHeartbeats 1000000 in
theorem same6_q (v v' : Value) (l l' : List UInt8) (w : World) (h : RdB w v l) (h' : RdB w v' l') (hn : l.length ≤ 1000000000) (hn' : l'.length ≤ 1000000000) :
    Calls Try.prog 15 #[v, v'] w fun e w' => e = .returned (.bool (l == l')) ∧ ∃ q, w' = w.drewN q := by
  obtain ⟨A, c, rfl⟩ := h.form
  obtain ⟨A', c', rfl⟩ := h'.form
  obtain ⟨g, off, hA, hc1, hm1, hcells⟩ := h.at_
  obtain ⟨g', off', hA', hc2, hm2, hcells'⟩ := h'.at_
  have HA := Lib.hid hA
  have HC := Lib.hid hcells
  have HA' := Lib.hid hA'
  have HC' := Lib.hid hcells'
  clear hA hcells hA' hcells' h h' hm1 hm2
  by_cases hl : l.length = l'.length
  · have hb : ((l.length : Int) != (l'.length : Int)) = false := by rw [bne_eq_false_iff_eq]; omega
    have hl1 : l.length ≤ l'.length := by omega
    have hl2 : l'.length ≤ l.length := by omega
    clear hl
    go_enter Try.func15, Try.ntmps15
    go_wp2
    go_loopw [5] (fun i wr => ∃ k : Nat, k ≤ l.length ∧ i = .int .i64 k ∧ l.take k = l'.take k ∧ DrewS w wr) (fun i _ => l.length - (intOf i).toNat)
    case atStart => exact ⟨0, by omega, rfl, by simp, 0, rfl⟩
    case round =>
      obtain ⟨k, hk, rfl, hall, hg⟩ := hrel
      obtain ⟨q0, hq0⟩ := hg
      have HQ0 := Lib.hid hq0
      have hg : w.grownBy wr none := by rw [hq0]; exact gr_drewN w q0 none
      clear hq0
      have Hall := Lib.hid hall
      clear hall
      by_cases hlt : k < l.length
      · have hlt' : k < l'.length := by omega
        have := HA.out (by omega)
        subst this
        have := HA'.out (by omega)
        subst this
        have c0 := hg.cell (HC.out k hlt) (by simp)
        have d0 := hg.cell (HC'.out k hlt') (by simp)
        have hx := l[k].toNat_lt
        have hy := l'[k].toNat_lt
        have Hiff : Hid (l[k] = l'[k] ↔ l[k].toNat = l'[k].toNat) := ⟨fun e => by rw [e], fun e => UInt8.toNat_inj.1 e⟩
        obtain ⟨x, hxe⟩ : ∃ x, x = l[k].toNat := ⟨_, rfl⟩
        obtain ⟨y, hye⟩ : ∃ y, y = l'[k].toNat := ⟨_, rfl⟩
        rw [← hxe] at c0 hx
        rw [← hye] at d0 hy
        have HX := Lib.hid hxe
        have HY := Lib.hid hye
        clear hxe hye
        by_cases hxy : x = y
        · subst hxy
          have hne : ((x : Int) != (x : Int)) = false := by simp
          have HXY : Hid (l[k] = l'[k]) := Hiff.out.2 (by rw [← HX.out, ← HY.out])
          go_wp2_with fail
          go_quiet (fail)
          go_wp2
          go_roundw
          case rel => exact ⟨k + 1, by omega, by go_num, by
            rw [List.take_succ_eq_append_getElem hlt, List.take_succ_eq_append_getElem hlt', Hall.out, HXY.out], q0 + nq, by rw [HQ0.out, World.drewN_drewN]⟩
          case measure => simp [intOf]; omega
        · have hne : ((x : Int) != (y : Int)) = true := by rw [bne_iff_ne]; omega
          have Hd : Hid ((l == l') = false) := by
            show _ = _
            rw [beq_eq_false_iff_ne]
            intro e
            subst e
            exact hxy (by rw [HX.out, HY.out])
          go_wp2_with fail
          go_quiet (fail)
          go_wp2
          go_ret
          exact ⟨by rw [Hd.out]; rfl, q0 + nq, by rw [HQ0.out, World.drewN_drewN]⟩
      · obtain rfl : k = l.length := by omega
        have He : Hid ((l == l') = true) := by
          have := Hall.out
          rw [List.take_length, List.take_of_length_le hl2] at this
          show _ = _
          rw [beq_iff_eq]; exact this
        go_wp2
        go_ret
        exact ⟨by rw [He.out]; rfl, q0, HQ0.out⟩
  · have hb : ((l.length : Int) != (l'.length : Int)) = true := by rw [bne_iff_ne]; omega
    have Hd : Hid ((l == l') = false) := by
      show _ = _
      rw [beq_eq_false_iff_ne]
      exact fun e => hl (by rw [e])
    clear hl
    go_enter Try.func15, Try.ntmps15
    go_wp2
    go_ret
    exact ⟨by rw [Hd.out]; rfl, 0, rfl⟩

theorem same6_any (v v' : Value) (l l' : List UInt8) (w : World) (h : RdB w v l) (h' : RdB w v' l') (hn : l.length ≤ 1000000000) (hn' : l'.length ≤ 1000000000) :
    Calls Try.prog 15 #[v, v'] w fun e w' => e = .returned (.bool (l == l')) ∧ w.grownBy w' none :=
  (same6_q v v' l l' w h h' hn hn').mono fun _ _ ⟨e, q, h⟩ => ⟨e, by rw [h]; exact gr_drewN _ _ _⟩

/-- the anchor. -/
def wkD : Dk := ((((newD 4).create an).1.write an 0 [7, 8]).1.sync an).1
theorem wk1 : ((newD 4).create an).2 = 0 := by decide
theorem wk2 : (((newD 4).create an).1.write an 0 [7, 8]).2 = 0 := by decide
theorem wk3 : ((((newD 4).create an).1.write an 0 [7, 8]).1.sync an).2 = 0 := by decide
theorem wk4 : wkD.read an 1 9 = ([8], 0) := by decide
theorem wk5 : wkD.used = 1 := by decide
set_option maxHeartbeats 2000000 in
theorem works6_any (w : World) : Calls Try.prog 4 #[] w fun e w' => e = .returned (.bool true) ∧ w.grownBy w' none := by
  have HNEW := Lib.hid (DA.new 4 w (by omega))
  go_enter Try.func4, Try.ntmps4
  go_wp2_with fail
  refine HNEW.out.mono ?_
  rintro e w1 ⟨d, o, rfl, h1⟩
  have s1 := Sm.new 4
  have HC := Lib.hid (h1.create an (by simp [an]) (by have := s1.fl; omega))
  rw [wk1] at HC
  clear h1
  go_wp2_with fail
  refine HC.out.mono ?_
  rintro e w2 ⟨rfl, o2, h2, -⟩
  have s2 := s1.create an
  have HB : Hid (OwnB (w2.alloc (.cells #[.int .u8 7, .int .u8 8] 5)) w2.heap.size (.slice (some ⟨w2.heap.size, 0, none⟩) 2 2) [7, 8]) := own_lit w2 w2.heap.size 1 2 2 #[.int .u8 7, .int .u8 8] 5 (0, 0) (.inr (by simp)) rfl (by omega) (by unfold maxLen; omega) (Nat.le_refl _)
  have HW := Lib.hid (h2.write (gr_alloc _ _ none) an (by simp [an]) 0 (by omega) HB.out (by simp) (by have := s2.fl; omega) (by have := s2.nl; omega))
  rw [wk2] at HW
  clear h2 HC
  go_wp2_with fail
  refine HW.out.mono ?_
  rintro e w3 ⟨rfl, o3, h3, -⟩
  have HS := Lib.hid (h3.sync an (by simp [an]))
  rw [wk3] at HS
  have s4 := (s2.write an 0 [7, 8]).sync an
  clear h3 HW s1 s2
  go_wp2_with fail
  refine HS.out.mono ?_
  rintro e w4 ⟨rfl, o4, h4, -⟩
  have HR := Lib.hid (h4.read an (by simp [an]) 1 9 (by omega) (by omega))
  change Hid (Calls _ _ _ _ fun e w' => (∃ v, e = .returned (.tuple #[v, .int .i64 (wkD.read an 1 9).2]) ∧ OwnB w' w4.heap.size v (wkD.read an 1 9).1) ∧ w4.grownBy w' none) at HR
  rw [wk4] at HR
  have HU := Lib.hid (fun wx (hx : w4.grownBy wx none) => (h4.ext hx).used (by have := s4.fl; omega))
  change Hid (∀ wx, _ → Calls _ _ _ _ fun e w' => e = .returned (.int .i64 wkD.used) ∧ _) at HU
  rw [wk5] at HU
  have HG := Lib.hid h4.gr
  clear h4 HS s4
  go_wp2_with fail
  refine HR.out.mono ?_
  rintro e w5 ⟨⟨v5, rfl, o5⟩, g5⟩
  have HU5 := Lib.hid (HU.out _ g5)
  have HG5 := Lib.hid (gr_none HG.out g5)
  obtain ⟨A5, c5, rfl⟩ := o5.rd.form
  obtain ⟨g, off, rfl, -, -, -, hc5, -⟩ := o5.at_ (k := 0) (by simp)
  have hc6 : w5.cell? ⟨g, off, none⟩ = some (.int .u8 8) := hc5
  simp only [List.length_cons, List.length_nil]
  clear hc5 o5 g5 HR HU HG
  go_wp2_with (go_at_call 17; refine HU5.out.mono ?_; rintro e w6 ⟨rfl, g6⟩)
  go_ret
  exact ⟨rfl, gr_none HG5.out g6⟩
end Go.Proofs.Ythkajgangnmbdaa

/-
  Pages in memory: page.Make and page.Tag.
-/
import Derived.Test.YtkfokgjpeaibpaaGreatPgP
import Derived.Test.YtkfokgjpeaibpaaGreatJ1
import Derived.Test.YtkfokgjpeaibpaaGreatOct
import Derived.Deep.RegionHeld3
import Derived.ScopeJumps
import Derived.WalkMore
namespace Go.Proofs.YtkfokgjpeaibpaaGreat
open Go.RowKit
set_option maxRecDepth 100000
set_option maxHeartbeats 400000

theorem head_i (A B C D : Int) (a b c d : Nat) (hA : A = (a : Int)) (hB : B = (b : Int)) (hC : C = (c : Int)) (hD : D = (d : Int)) (ha : a < 2 ^ 64) (hb : b < 2 ^ 64) (hc : c < 2 ^ 64) (hd : d < 2 ^ 64) (w : World) :
    Calls Tryz.prog 101 #[.agg #[.int .u64 A, .int .u64 B, .int .u64 C, .int .u64 D]] w fun e w' => (∃ v', e = .returned v' ∧ OwnB w' w.heap.size v' (le a 4 ++ le b 4 ++ le c 2 ++ le d 2)) ∧ w.grownBy w' none := by
  have kk : ∀ wx, (w.alloc (.cells #[.int .u64 A, .int .u64 B, .int .u64 C, .int .u64 D] 153)).grownBy wx none → wx.cell? ⟨w.heap.size, 0, none⟩ = some (.int .u64 A) ∧ wx.cell? ⟨w.heap.size, 1, none⟩ = some (.int .u64 B) ∧ wx.cell? ⟨w.heap.size, 2, none⟩ = some (.int .u64 C) ∧ wx.cell? ⟨w.heap.size, 3, none⟩ = some (.int .u64 D) := fun wx hg =>
    have hb := (Blk.new w 153 #[.int .u64 A, .int .u64 B, .int .u64 C, .int .u64 D]).ext hg
    ⟨hb.cell 0, hb.cell 1, hb.cell 2, hb.cell 3⟩
  have KK := Lib.hid kk
  clear kk
  have P1 : Hid (∀ wx, Calls Tryz.prog 102 #[.slice none 0 0, .int .u64 A, .int .i64 4] wx fun e w' => ∃ v', e = .returned v' ∧ OwnB w' wx.heap.size v' (le a 4) ∧ wx.grownBy w' none) := fun wx =>
    put_i 4 A 4 a rfl hA (.slice none 0 0) [] wx ha (by omega) (by simp) (Rd.nil _ _)
  have P2 : Hid (∀ wx v1 B1, OwnB wx B1 v1 (le a 4) → Calls Tryz.prog 102 #[v1, .int .u64 B, .int .i64 4] wx fun e w' => ∃ v', e = .returned v' ∧ OwnB w' wx.heap.size v' (le a 4 ++ le b 4) ∧ wx.grownBy w' none) := fun wx v1 B1 h1 =>
    put_i 4 B 4 b rfl hB v1 _ wx hb (by omega) (by simp [length_le]) h1.rd
  have P3 : Hid (∀ wx v1 B1, OwnB wx B1 v1 (le a 4 ++ le b 4) → Calls Tryz.prog 102 #[v1, .int .u64 C, .int .i64 2] wx fun e w' => ∃ v', e = .returned v' ∧ OwnB w' wx.heap.size v' (le a 4 ++ le b 4 ++ le c 2) ∧ wx.grownBy w' none) := fun wx v1 B1 h1 =>
    put_i 2 C 2 c rfl hC v1 _ wx hc (by omega) (by simp [length_le]) h1.rd
  have P4 : Hid (∀ wx v1 B1, OwnB wx B1 v1 (le a 4 ++ le b 4 ++ le c 2) → Calls Tryz.prog 102 #[v1, .int .u64 D, .int .i64 2] wx fun e w' => ∃ v', e = .returned v' ∧ OwnB w' wx.heap.size v' (le a 4 ++ le b 4 ++ le c 2 ++ le d 2) ∧ wx.grownBy w' none) := fun wx v1 B1 h1 =>
    put_i 2 D 2 d rfl hD v1 _ wx hd (by omega) (by simp [length_le]) h1.rd
  clear hA hB hC hD ha hb hc hd
  go_enter Tryz.func101, Tryz.ntmps101
  go_wp2
  go_region_held3 (fun w' => w'.cell? ⟨w.heap.size, 0, none⟩ = some (.int .u64 A) ∧ w'.cell? ⟨w.heap.size, 1, none⟩ = some (.int .u64 B)) (go_keep) (first
    | (go_at_call 102; (with_reducible refine (P1.out _).mono ?_); rintro e w1 ⟨v1, rfl, o1, g1⟩; have kk1 := KK.out _ (gr_trans (gr_drew _ _) g1 (.inl rfl)))
    | (go_at_call 102; (with_reducible refine (P2.out _ _ _ o1).mono ?_); rintro e w2 ⟨v2, rfl, o2, g2⟩; have kk2 := KK.out _ (gr_none (gr_trans (gr_drew _ _) g1 (.inl rfl)) g2)))
  have G2 := Lib.hid (gr_none (gr_trans (gr_drew (w.alloc (.cells #[.int .u64 A, .int .u64 B, .int .u64 C, .int .u64 D] 153)) none) g1 (.inl rfl)) g2)
  clear kk1 g1 o1 g2
  go_wp2
  go_region_held3 (fun w' => w'.cell? ⟨w.heap.size, 2, none⟩ = some (.int .u64 C) ∧ w'.cell? ⟨w.heap.size, 3, none⟩ = some (.int .u64 D)) (go_keep) (first
    | (go_at_call 102; (with_reducible refine (P3.out _ _ _ (o2.ext (gr_drew _ _))).mono ?_); rintro e w3 ⟨v3, rfl, o3, g3⟩; have kk3 := KK.out _ (gr_none (gr_none G2.out (gr_drew _ _)) g3))
    | (go_at_call 102; (with_reducible refine (P4.out _ _ _ o3).mono ?_); rintro e w4 ⟨v4, rfl, o4, g4⟩; have kk4 := KK.out _ (gr_none (gr_none (gr_none G2.out (gr_drew _ _)) g3) g4)))
  have G4 := Lib.hid (gr_none (gr_none (gr_none G2.out (gr_drew _ _)) g3) g4)
  go_wp2
  go_ret
  exact ⟨⟨_, rfl, o4.mono (by have := (gr_none (gr_none G2.out (gr_drew _ none)) g3).size; simp at this ⊢; omega)⟩, gr_none (gr_alloc _ _ none) G4.out⟩
theorem tag_any (n : List UInt8) (hn : n.length ≤ 1000000000) (w : World) :
    Calls Tryz.prog 100 #[.string ⟨n.toArray⟩] w fun e w' => e = .returned (.int .u32 (crcS n)) ∧ w.grownBy w' none := by
  go_enter Tryz.func100, Tryz.ntmps100
  go_wp2_with (refine wp_bytes rfl (.tmp 3) rfl n rfl (by unfold maxLen; omega) ?_; rintro v1 w1 o1 g1 -)
  have O1 := Lib.hid o1
  have G1 := Lib.hid g1
  clear o1 g1
  go_wp2_with fail
  refine (sum_any _ _ _ O1.out.rd hn).mono ?_
  rintro e w2 ⟨rfl, g2⟩
  go_wp2
  go_ret
  exact ⟨rfl, gr_none G1.out g2⟩
theorem mk_many (tag k : Int) (v : Value) (b : List UInt8) (w : World) (h : RdB w v b) (hb : 240 < b.length) :
    Calls Tryz.prog 76 #[.int .u32 tag, .int .u32 k, v] w fun e w' => e = .returned (.tuple #[.slice none 0 0, .int .i64 9]) ∧ w = w' := by
  obtain ⟨A, c, rfl⟩ := h.form
  clear h
  go_enter Tryz.func76, Tryz.ntmps76
  go_wp2
  go_ret2
  exact ⟨rfl, rfl⟩
theorem gr_own {W w w' : World} {B s n : Nat} {v : Value} {xs : List Value} (hg : W.grownBy w none) (h : w.grownBy w' v.ownBlock) (ho : Own w B s v n xs) (hB : W.heap.size ≤ B) : W.grownBy w' none :=
  gr_trans hg h (.inr fun k e => Nat.le_trans hB (ho.lt k e))
set_option maxHeartbeats 2000000 in
theorem mk_any (tag k : Nat) (ht : tag < 4294967296) (hk : k < 4294967296) (v : Value) (b : List UInt8) (w : World) (h : RdB w v b) (hb : b.length ≤ 240) :
    Calls Tryz.prog 76 #[.int .u32 tag, .int .u32 k, v] w fun e w' => (∃ v', e = .returned (.tuple #[v', .int .i64 0]) ∧ OwnB w' w.heap.size v' (pagB tag k b)) ∧ w.grownBy w' none := by
  obtain ⟨A, c, rfl⟩ := h.form
  have H := Lib.hid h
  clear h
  have HH : Hid (∀ wx, Calls Tryz.prog 101 #[.agg #[.int .u64 tag, .int .u64 k, .int .u64 b.length, .int .u64 0]] wx fun e w' => (∃ v', e = .returned v' ∧ OwnB w' wx.heap.size v' (le tag 4 ++ le k 4 ++ le b.length 2 ++ le 0 2)) ∧ wx.grownBy w' none) := fun wx =>
    head_i tag k b.length 0 tag k b.length 0 rfl rfl rfl rfl (by omega) (by omega) (by omega) (by omega) wx
  obtain ⟨hd, hhd⟩ : ∃ hd, hd = le tag 4 ++ le k 4 ++ le b.length 2 ++ le 0 2 := ⟨_, rfl⟩
  have hdl : hd.length = 12 := by rw [hhd]; simp [length_le]
  have HL : Hid (hd ++ b ++ List.replicate (240 - b.length) 0 = pagH tag k b) := by show _ = _; rw [hhd]; simp [pagH, List.append_assoc]
  rw [← hhd] at HH
  clear hhd
  go_enter Tryz.func76, Tryz.ntmps76
  go_wp2_with fail
  refine (HH.out _).mono ?_
  rintro e w1 ⟨⟨v1, rfl, o1⟩, g1⟩
  have O1 := Lib.hid o1
  have G1 := Lib.hid g1
  clear o1 g1
  obtain ⟨l2, hl2⟩ : ∃ l2, l2 = hd ++ b := ⟨_, rfl⟩
  have hl3 : l2.length ≤ 12 + b.length := by rw [hl2, List.length_append, hdl]; omega
  have hl4 : 12 + b.length ≤ l2.length := by rw [hl2, List.length_append, hdl]; omega
  have HL2 := Lib.hid hl2
  rw [← hl2] at HL
  clear hl2
  have HA2 : Hid (∀ w2 v2, OwnB w2 w.heap.size v2 (hd ++ b) → ∃ A2 c2, v2 = .slice A2 l2.length c2 ∧ OwnB w2 w.heap.size (.slice A2 l2.length c2) l2) := fun w2 v2 h => by
    rw [← HL2.out] at h
    obtain ⟨A2, c2, rfl⟩ := h.rd.form
    exact ⟨A2, c2, rfl, h⟩
  go_wp2_with (first
    | (refine wp_appB (m := b) (l := hd) rfl (.tmp 20) (.tmp 21) rfl rfl O1.out rfl (H.out.ext G1.out) (by omega) G1.out.size ?_; rintro v2 w2 o2 g2 -; have G2 := Lib.hid (gr_own G1.out g2 O1.out (Nat.le_refl _)); obtain ⟨A2, c2, rfl, o2'⟩ := HA2.out _ _ o2; have O2 := Lib.hid o2'; clear o2 g2 o2')
    | (refine wp_appZ rfl (.tmp 23) (.tmp 26) rfl rfl O2.out (240 - b.length) (by omega) rfl (by omega) G2.out.size ?_; intro v3 w3 o3 g3))
  have G3 := Lib.hid (ext0_gr G2.out g3 O2.out (Nat.le_refl _))
  rw [HL.out] at o3
  have O3 := Lib.hid o3
  clear o3 g3
  go_wp2_with fail
  refine (sum_any _ _ _ O3.out.rd (by rw [pagH_len hb]; omega)).mono ?_
  rintro e w4 ⟨rfl, g4⟩
  have G4 := Lib.hid (gr_none G3.out g4)
  have O4 := Lib.hid (O3.out.ext g4)
  have hcl := crcE_lt 0 (pagH tag k b)
  clear g4
  have hcl' : crcS (pagH tag k b) < 2 ^ 64 := by unfold crcS; omega
  have hcl2 : crcS (pagH tag k b) < 4294967296 := by unfold crcS; omega
  generalize hxx : crcS (pagH tag k b) = x at *
  have HXX := Lib.hid hxx
  clear hxx hcl
  have HP := Lib.hid (put_i 4 (x : Int) 4 x rfl rfl v3 (pagH tag k b) w4 hcl' (by omega) (by rw [pagH_len hb]; omega) O4.out.rd)
  clear hcl'
  go_wp2_with fail
  refine HP.out.mono ?_
  rintro e w5 ⟨v5, rfl, o5, g5⟩
  go_wp2
  go_ret2
  refine ⟨⟨_, rfl, ?_⟩, gr_none G4.out g5⟩
  unfold pagB
  rw [HXX.out]
  exact o5.mono G4.out.size
end Go.Proofs.YtkfokgjpeaibpaaGreat

/- Pages in memory: what page.Open calls. -/
namespace Go.Proofs.YtkfokgjpeaibpaaGreat
open Go.RowKit
set_option maxRecDepth 100000
set_option maxHeartbeats 400000

theorem pnum_i (O S : Int) (at_ size : Nat) (hO : O = (at_ : Int)) (hS : S = (size : Int)) (v : Value) (l : List UInt8) (w : World) (hs : size = 1 ∨ size = 2 ∨ size = 4 ∨ size = 8) (hn : at_ + size ≤ l.length) (hl : l.length ≤ 1000000000) (h : RdB w v l) :
    Calls Tryz.prog 114 #[v, .int .i64 O, .int .i64 S] w fun e w' => e = .returned (.int .u64 (rdN ((l.drop at_).take size))) ∧ w.grownBy w' none := by
  subst hO hS
  have H := Lib.hid (get_any at_ size v l w hs hn hl h)
  clear hs hn hl h
  go_enter Tryz.func114, Tryz.ntmps114
  go_wp2_with (go_at_call 132; refine H.out.mono ?_; rintro e w2 ⟨rfl, g2⟩)
  go_ret
  exact ⟨rfl, g2⟩
/-- any byte that is not 0? -/
def anyN (l : List UInt8) : Bool := !l.all (· == 0)
theorem all_take_succ {l : List UInt8} {k : Nat} (hk : k < l.length) (h : (l.take k).all (· == 0) = true) (hx : l[k] = 0) : (l.take (k + 1)).all (· == 0) = true := by
  rw [List.take_succ_eq_append_getElem hk, List.all_append, h]; simp [hx]
theorem idxN_any (v : Value) (l : List UInt8) (w : World) (h : RdB w v l) (hn : l.length ≤ 1000000000) :
    Calls Tryz.prog 133 #[v, .func (.func 116) #[] #[]] w fun e w' => (∃ k : Int, e = .returned (.int .i64 k) ∧ decide (0 ≤ k) = anyN l) ∧ w = w' := by
  obtain ⟨hl, A, c, g, off, rfl, hnc, hc, _, hA, hx⟩ := h
  go_enter Tryz.func133, Tryz.ntmps133
  have Hl := Lib.hid hl
  clear hl
  go_wp2
  go_loop [5, 8] (fun _ i => ∃ k : Nat, k ≤ l.length ∧ i = .int .i64 k ∧ (l.take k).all (· == 0) = true) (fun _ i => l.length - (intOf i).toNat)
  case atStart => exact ⟨0, by omega, rfl, by simp⟩
  case round =>
    obtain ⟨k, hk, rfl, hno⟩ := hrel
    have Hno := Lib.hid hno
    clear hno
    by_cases hlt : k < l.length
    · have := hA (by omega)
      subst this
      have hcell : w.cell? ⟨g, off + k, none⟩ = some (.int .u8 l[k].toNat) := by rw [hx k (by omega)]; simp [u8v, hlt]
      clear hx
      by_cases hxk : l[k] = 0
      · have hxk' : ((l[k].toNat : Int) != 0) = false := by rw [hxk]; rfl
        have Hxk := Lib.hid hxk
        clear hxk
        go_wp2_with go_in
        go_round
        case rel => exact ⟨k + 1, by omega, by go_num, all_take_succ hlt Hno.out Hxk.out⟩
        case measure => simp [intOf]; omega
      · have hxk' : ((l[k].toNat : Int) != 0) = true := by
          rw [bne_iff_ne]; intro e; exact hxk (UInt8.toNat_inj.1 (by simpa using e))
        have Hxk := Lib.hid hxk
        clear hxk
        go_wp2_with go_in
        go_ret
        refine ⟨⟨k, rfl, ?_⟩, rfl⟩
        have : anyN l = true := by
          unfold anyN
          rw [Bool.not_eq_true', List.all_eq_false]
          exact ⟨l[k], List.getElem_mem hlt, by simpa using Hxk.out⟩
        rw [this]; simp
    · have : k = l.length := by omega
      subst this
      go_wp2
      go_ret
      have := Hno.out
      rw [List.take_length] at this
      exact ⟨⟨_, rfl, by unfold anyN; rw [this]; rfl⟩, rfl⟩
theorem cf_any (v : Value) (l : List UInt8) (w : World) (h : RdB w v l) (hn : l.length ≤ 1000000000) :
    Calls Tryz.prog 115 #[v, .func (.func 116) #[] #[]] w fun e w' => e = .returned (.bool (anyN l)) ∧ w = w' := by
  have H := Lib.hid (idxN_any v l w h hn)
  clear h
  go_enter Tryz.func115, Tryz.ntmps115
  go_wp2_with fail
  refine H.out.mono ?_
  rintro e w' ⟨⟨k, rfl, hk⟩, rfl⟩
  have HK := Lib.hid hk
  clear hk
  go_wp2
  go_ret
  exact ⟨by rw [← HK.out]; rfl, rfl⟩
end Go.Proofs.YtkfokgjpeaibpaaGreat

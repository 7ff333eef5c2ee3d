/-
  octet, the second part: take, Get, Put, the bytes of an edge.
-/
import Derived.Test.YtfbbbbekialpnaaOct
namespace Go.Proofs.Ytfbbbbekialpnaa
open Go.RowKit
set_option maxRecDepth 100000
set_option maxHeartbeats 400000

theorem put_any (x size : Nat) (v : Value) (l : List UInt8) (w : World) (hx : x < 2 ^ 64) (hs : size = 1 ∨ size = 2 ∨ size = 4 ∨ size = 8) (hn : l.length ≤ 1000000000) (h : RdB w v l) :
    Calls Try.prog 103 #[v, .int .u64 x, .int .i64 size] w fun e w' => ∃ v', e = .returned v' ∧ OwnB w' w.heap.size v' (l ++ le x size) ∧ w.grownBy w' none := by
  have Hs : Hid (szd size = true) := (szd_iff _).2 (by omega)
  have hs8 : size ≤ 8 := by omega
  have Hx := Lib.hid hx
  clear hs hx
  go_enter Try.func103, Try.ntmps103
  go_wp2_with (go_at_call 62; refine (cloneB v l _ h hn).mono ?_; rintro e w1 ⟨v1, rfl, h1, g1⟩)
  go_wp2_with (go_at_call 129; refine (sized_any _ _).mono ?_; rintro e w2 ⟨rfl, g2⟩; rw [Hs.out])
  have h2 : OwnB w2 w.heap.size v1 l := h1.ext g2
  have hB : w.heap.size ≤ w2.heap.size := Nat.le_trans g1.size g2.size
  refine (put64 x size v1 l w.heap.size _ Hx.out hs8 hn hB h2).mono ?_
  rintro e w3 ⟨v3, rfl, h3, g3, a3⟩
  go_wp2
  go_ret
  exact ⟨_, rfl, h3, gr_trans (gr_none g1 g2) g3 (.inr fun k hk => Own.lt h2 k hk)⟩

theorem take64 (size : Nat) (v : Value) (l : List UInt8) (w : World) (hs : size ≤ 8) (hn : size ≤ l.length) (hl : l.length ≤ 1000000000) (h : RdB w v l) :
    Calls Try.prog 148 #[v, .int .i64 size] w fun e w' => ∃ r, e = .returned (.tuple #[.int .u64 (rdN (l.take size)), r]) ∧ (∀ W, RdB W v l → RdB W r (l.drop size)) ∧ w.grownBy w' none := by
  obtain ⟨hle, A, c, g, off, rfl, hnc, hc, hA0, hA, hx⟩ := h
  go_enter Try.func148, Try.ntmps148
  clear hle
  go_wp2
  go_loop [4, 6, 8] (fun x _ i => ∃ k : Nat, k ≤ size ∧ i = .int .i64 k ∧ x = .int .u64 (rdN (l.take k))) (fun _ _ i => size - (intOf i).toNat)
  case atStart => exact ⟨0, by omega, rfl, by simp [rdN]⟩
  case round =>
    obtain ⟨k, hk, rfl, rfl⟩ := hrel
    by_cases hlt : k < size
    · have := hA (by omega)
      subst this
      have hcell : w.cell? ⟨g, off + k, none⟩ = some (.int .u8 l[k].toNat) := by rw [hx k (by omega)]; simp [u8v, show k < l.length by omega]
      clear hx
      have hkl : k < l.length := by omega
      go_wp2
      go_round
      case rel => exact ⟨k + 1, by omega, by go_num, by rw [or64 (rdN_take_lt l k) (by have := l[k].toNat_lt; omega) (by omega), rdN_take_succ hkl]⟩
      case measure => simp [intOf]; omega
    · have : k = size := by omega
      subst this
      go_wp2_with fail
      go_quiet (fail)
      have H2 : Hid (∀ W, RdB W (.slice A l.length c) l → RdB W (.slice (cutA A c k 1) (l.length - k) (c - k)) (l.drop k)) := fun W h => h.drop hn
      go_wp2
      go_ret2
      exact ⟨_, rfl, H2.out, gr_drewN _ _ _⟩

theorem get_any (at_ size : Nat) (v : Value) (l : List UInt8) (w : World) (hs : size = 1 ∨ size = 2 ∨ size = 4 ∨ size = 8) (hn : at_ + size ≤ l.length) (hl : l.length ≤ 1000000000) (h : RdB w v l) :
    Calls Try.prog 128 #[v, .int .i64 at_, .int .i64 size] w fun e w' => e = .returned (.tuple #[.int .u64 (rdN ((l.drop at_).take size)), .int .i64 0]) ∧ w.grownBy w' none := by
  have H0 := Lib.hid h
  obtain ⟨hle, A, c, g, off, rfl, hnc, hc, hA0, hA, hx⟩ := h
  have Hs : Hid (szd size = true) := (szd_iff _).2 (by omega)
  have hs8 : size ≤ 8 := by omega
  have H1 := Lib.hid (H0.out.drop (i := at_) (by omega))
  clear hs hle hx
  go_enter Try.func128, Try.ntmps128
  go_wp2_with (first | (go_at_call 129; refine (sized_any _ _).mono ?_; rintro e w2 ⟨rfl, g2⟩; rw [Hs.out]) | (go_at_call 148; refine (take64 size _ (l.drop at_) _ hs8 (by simp; omega) (by simp; omega) (H1.out.ext g2)).mono ?_; rintro e w3 ⟨r, rfl, h3, g3⟩))
  go_ret2
  exact ⟨rfl, gr_none g2 g3⟩

theorem put_i (S X : Int) (size x : Nat) (hS : S = (size : Int)) (hX : X = (x : Int)) (v : Value) (l : List UInt8) (w : World) (hx : x < 2 ^ 64) (hs : size = 1 ∨ size = 2 ∨ size = 4 ∨ size = 8) (hn : l.length ≤ 1000000000) (h : RdB w v l) :
    Calls Try.prog 103 #[v, .int .u64 X, .int .i64 S] w fun e w' => ∃ v', e = .returned v' ∧ OwnB w' w.heap.size v' (l ++ le x size) ∧ w.grownBy w' none := by
  subst hS hX; exact put_any x size v l w hx hs hn h

theorem take64i (S : Int) (size : Nat) (hS : S = (size : Int)) (v : Value) (l : List UInt8) (w : World) (hs : size ≤ 8) (hn : size ≤ l.length) (hl : l.length ≤ 1000000000) (h : RdB w v l) :
    Calls Try.prog 148 #[v, .int .i64 S] w fun e w' => ∃ r, e = .returned (.tuple #[.int .u64 (rdN (l.take size)), r]) ∧ (∀ W, RdB W v l → RdB W r (l.drop size)) ∧ w.grownBy w' none := by
  subst hS; exact take64 size v l w hs hn hl h

end Go.Proofs.Ytfbbbbekialpnaa

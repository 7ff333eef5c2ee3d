/-
  Pages in memory: what page.Open calls.
-/
import Derived.Test.YtkfokgjpeaibpaaPg
import Derived.ScopeJumps
import Derived.WalkMore
namespace Go.Proofs.Ytkfokgjpeaibpaa
open Go.RowKit
set_option maxRecDepth 100000
set_option maxHeartbeats 400000

theorem pnum_i (O S : Int) (at_ size : Nat) (hO : O = (at_ : Int)) (hS : S = (size : Int)) (v : Value) (l : List UInt8) (w : World) (hs : size = 1 ∨ size = 2 ∨ size = 4 ∨ size = 8) (hn : at_ + size ≤ l.length) (hl : l.length ≤ 1000000000) (h : RdB w v l) :
    Calls Try.prog 76 #[v, .int .i64 O, .int .i64 S] w fun e w' => e = .returned (.int .u64 (rdN ((l.drop at_).take size))) ∧ w.grownBy w' none := by
  subst hO hS
  have H := Lib.hid (get_any at_ size v l w hs hn hl h)
  clear hs hn hl h
  go_enter Try.func76, Try.ntmps76
  go_wp2_with (go_at_call 94; refine H.out.mono ?_; rintro e w2 ⟨rfl, g2⟩)
  go_ret
  exact ⟨rfl, g2⟩
/-- any byte that is not 0? -/
def anyN (l : List UInt8) : Bool := !l.all (· == 0)
theorem all_take_succ {l : List UInt8} {k : Nat} (hk : k < l.length) (h : (l.take k).all (· == 0) = true) (hx : l[k] = 0) : (l.take (k + 1)).all (· == 0) = true := by
  rw [List.take_succ_eq_append_getElem hk, List.all_append, h]; simp [hx]
theorem idxN_any (v : Value) (l : List UInt8) (w : World) (h : RdB w v l) (hn : l.length ≤ 1000000000) :
    Calls Try.prog 96 #[v, .func (.func 79) #[] #[]] w fun e w' => (∃ k : Int, e = .returned (.int .i64 k) ∧ decide (0 ≤ k) = anyN l) ∧ w = w' := by
  obtain ⟨hl, A, c, g, off, rfl, hnc, hc, _, hA, hx⟩ := h
  go_enter Try.func96, Try.ntmps96
  have Hl := Lib.hid hl
  clear hl
  go_wp2
  go_loop [5, 8] (fun _ i => ∃ k : Nat, k ≤ l.length ∧ i = .int .i64 k ∧ (l.take k).all (· == 0) = true) (fun _ i => l.length - (intOf i).toNat)
  case atStart => exact ⟨0, by omega, rfl, by simp⟩
  case round =>
    obtain ⟨k, hk, rfl, hno⟩ := hrel
    have Hno := Lib.hid hno
    clear hno
    by_cases hlt : k < l.length
    · have := hA (by omega)
      subst this
      have hcell : w.cell? ⟨g, off + k, none⟩ = some (.int .u8 l[k].toNat) := by rw [hx k (by omega)]; simp [u8v, hlt]
      clear hx
      by_cases hxk : l[k] = 0
      · have hxk' : ((l[k].toNat : Int) != 0) = false := by rw [hxk]; rfl
        have Hxk := Lib.hid hxk
        clear hxk
        go_wp2_with go_in
        go_round
        case rel => exact ⟨k + 1, by omega, by go_num, all_take_succ hlt Hno.out Hxk.out⟩
        case measure => simp [intOf]; omega
      · have hxk' : ((l[k].toNat : Int) != 0) = true := by
          rw [bne_iff_ne]; intro e; exact hxk (UInt8.toNat_inj.1 (by simpa using e))
        have Hxk := Lib.hid hxk
        clear hxk
        go_wp2_with go_in
        go_ret
        refine ⟨⟨k, rfl, ?_⟩, rfl⟩
        have : anyN l = true := by
          unfold anyN
          rw [Bool.not_eq_true', List.all_eq_false]
          exact ⟨l[k], List.getElem_mem hlt, by simpa using Hxk.out⟩
        rw [this]; simp
    · have : k = l.length := by omega
      subst this
      go_wp2
      go_ret
      have := Hno.out
      rw [List.take_length] at this
      exact ⟨⟨_, rfl, by unfold anyN; rw [this]; rfl⟩, rfl⟩
theorem cf_any (v : Value) (l : List UInt8) (w : World) (h : RdB w v l) (hn : l.length ≤ 1000000000) :
    Calls Try.prog 78 #[v, .func (.func 79) #[] #[]] w fun e w' => e = .returned (.bool (anyN l)) ∧ w = w' := by
  have H := Lib.hid (idxN_any v l w h hn)
  clear h
  go_enter Try.func78, Try.ntmps78
  go_wp2_with fail
  refine H.out.mono ?_
  rintro e w' ⟨⟨k, rfl, hk⟩, rfl⟩
  have HK := Lib.hid hk
  clear hk
  go_wp2
  go_ret
  exact ⟨by rw [← HK.out]; rfl, rfl⟩
end Go.Proofs.Ytkfokgjpeaibpaa

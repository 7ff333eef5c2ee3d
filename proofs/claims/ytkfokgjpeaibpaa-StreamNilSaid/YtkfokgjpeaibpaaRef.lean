/-
  The references' numbers and bytes: packages milepostref00, milepostref01.
-/
import Derived.Test.YtkfokgjpeaibpaaOct
namespace Go.Proofs.Ytkfokgjpeaibpaa
open Go.RowKit
set_option maxRecDepth 100000
set_option maxHeartbeats 400000

theorem copyBytes_any (v : Value) (l : List UInt8) (w : World) (h : RdB w v l) (hn : l.length ≤ 1000000000) :
    Calls Try.prog 18 #[v] w fun e w' => ∃ v', e = .returned v' ∧ OwnB w' w.heap.size v' l ∧ w.grownBy w' none := by
  obtain ⟨A, c, rfl⟩ := h.form
  rcases l with _ | ⟨b, l⟩
  · clear h
    go_enter Try.func18, Try.ntmps18
    go_wp2
    go_ret
    exact ⟨_, rfl, OwnB.nil _ _, gr_refl _ _⟩
  · have hs := run_str h
    generalize hl : b :: l = L at *
    have h0 : ((L.length : Int) == 0) = false := by subst hl; simp; omega
    clear h hl
    go_enter Try.func18, Try.ntmps18
    go_wp2_with (refine wp_bytes rfl (.tmp 7) rfl L rfl (by unfold maxLen; omega) ?_; rintro v' w' h1 g1 -)
    go_ret
    exact ⟨_, rfl, h1, g1⟩

theorem eqBytes_any (v v' : Value) (l l' : List UInt8) (w : World) (h : RdB w v l) (h' : RdB w v' l') :
    Calls Try.prog 12 #[v, v'] w fun e w' => e = .returned (.bool (l == l')) ∧ w = w' := by
  obtain ⟨A, c, rfl⟩ := h.form
  obtain ⟨A', c', rfl⟩ := h'.form
  have hs := run_str h
  have hs' := run_str h'
  clear h h'
  by_cases hl : l.length = l'.length
  · have hb : ((l.length : Int) == (l'.length : Int)) = true := by rw [beq_iff_eq]; omega
    have Hl := Lib.hid hl
    clear hl
    go_enter Try.func12, Try.ntmps12
    go_wp2
    go_ret
    exact ⟨rfl, rfl⟩
  · have hb : ((l.length : Int) == (l'.length : Int)) = false := by rw [beq_eq_false_iff_ne]; omega
    have Hl : Hid ((l == l') = false) := by
      have : (l == l') = false := by rw [beq_eq_false_iff_ne]; exact fun e => hl (by rw [e])
      exact this
    clear hl
    go_enter Try.func12, Try.ntmps12
    go_wp2
    go_ret
    exact ⟨by rw [Hl.out]; rfl, rfl⟩

theorem byteAt_tmod (x k : Nat) : ((x : Int) / 2 ^ (8 * k)).tmod 256 % 256 = ((byteAt x k).toNat : Int) := by
  have e : (x : Int) / 2 ^ (8 * k) = ((x / 2 ^ (8 * k) : Nat) : Int) := by simp
  rw [← byteAt_val, e, Int.tmod_eq_emod_of_nonneg (Int.natCast_nonneg _), ← e, Int.emod_emod]
theorem div_step (x k : Nat) (hx : x / 2 ^ (8 * k) ≤ 18446744073709551615) : IntKind.u64.wrap (((x : Int) / 2 ^ (8 * k)).tdiv 256) = ((x / 2 ^ (8 * (k + 1)) : Nat) : Int) := by
  have e : (x : Int) / 2 ^ (8 * k) = ((x / 2 ^ (8 * k) : Nat) : Int) := by simp
  rw [e]
  generalize hy : x / 2 ^ (8 * k) = y at *
  rw [IntWalk.u64_quo _ _ (by omega), show 8 * (k + 1) = 8 * k + 8 from by omega, Nat.pow_add, ← Nat.div_div_eq_div_mul, hy]
  omega
theorem get_step (l : List UInt8) (at_ size k : Nat) (hs : size ≤ 8) (hk : k + 1 ≤ size) (hl : at_ + k < l.length) :
    IntKind.u64.wrap (IntKind.u64.wrap (256 * (rdN (((l.drop at_).take size).drop (k + 1)) : Int)) + IntKind.u64.wrap (l[at_ + k].toNat : Int)) = (rdN (((l.drop at_).take size).drop k) : Int) := by
  have hlen : k < ((l.drop at_).take size).length := by simp; omega
  have e : ((l.drop at_).take size).drop k = l[at_ + k] :: ((l.drop at_).take size).drop (k + 1) := by
    rw [List.drop_eq_getElem_cons hlen, List.getElem_take, List.getElem_drop]
  have h1 := rdN_lt (((l.drop at_).take size).drop (k + 1))
  have h2 : 2 ^ (8 * (((l.drop at_).take size).drop (k + 1)).length) ≤ 2 ^ 56 := Nat.pow_le_pow_right (by omega) (by simp; omega)
  have h3 := l[at_ + k].toNat_lt
  rw [e, rdN]
  generalize rdN (((l.drop at_).take size).drop (k + 1)) = X at *
  rw [IntWalk.u64_in (256 * (X : Int)) (by omega), IntWalk.u64_in (l[at_ + k].toNat : Int) (by omega), IntWalk.u64_in _ (by omega)]
  push_cast
  omega

end Go.Proofs.Ytkfokgjpeaibpaa

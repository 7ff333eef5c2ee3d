/-
  The references' numbers and bytes: packages milepostref00, milepostref01.
-/
import Derived.Test.YtnodkbkhdfihcaaOct3
namespace Go.Proofs.Ytnodkbkhdfihcaa
open Go.RowKit
set_option maxRecDepth 100000
set_option maxHeartbeats 400000

theorem rsized_any (n : Int) (w : World) :
    Calls Try.prog 60 #[.int .i64 n] w fun e w' => e = .returned (.bool (szd n)) ∧ w = w' := by
  by_cases h1 : n = 1
  · subst h1
    have hs : Hid (szd 1 = true) := by unfold szd memI; exact rfl
    go_enter Try.func60, Try.ntmps60
    go_wp2
    go_ret
    exact ⟨by rw [hs.out]; rfl, rfl⟩
  by_cases h2 : n = 2
  · subst h2
    have hs : Hid (szd 2 = true) := by unfold szd memI; exact rfl
    go_enter Try.func60, Try.ntmps60
    go_wp2
    go_ret
    exact ⟨by rw [hs.out]; rfl, rfl⟩
  by_cases h4 : n = 4
  · subst h4
    have hs : Hid (szd 4 = true) := by unfold szd memI; exact rfl
    go_enter Try.func60, Try.ntmps60
    go_wp2
    go_ret
    exact ⟨by rw [hs.out]; rfl, rfl⟩
  have b1 : (n == 1) = false := by simpa using h1
  have b2 : (n == 2) = false := by simpa using h2
  have b4 : (n == 4) = false := by simpa using h4
  have Hs : Hid (szd n = (n == 8)) := by
    have : szd n = (n == 8) := by simp [szd, memI, h1, h2, h4]; rfl
    exact this
  clear h1 h2 h4
  go_enter Try.func60, Try.ntmps60
  go_wp2
  go_ret
  exact ⟨by rw [Hs.out]; rfl, rfl⟩

theorem copyBytes_any (v : Value) (l : List UInt8) (w : World) (h : RdB w v l) (hn : l.length ≤ 1000000000) :
    Calls Try.prog 14 #[v] w fun e w' => ∃ v', e = .returned v' ∧ OwnB w' w.heap.size v' l ∧ w.grownBy w' none := by
  obtain ⟨A, c, rfl⟩ := h.form
  rcases l with _ | ⟨b, l⟩
  · clear h
    go_enter Try.func14, Try.ntmps14
    go_wp2
    go_ret
    exact ⟨_, rfl, OwnB.nil _ _, gr_refl _ _⟩
  · have hs := run_str h
    generalize hl : b :: l = L at *
    have h0 : ((L.length : Int) == 0) = false := by subst hl; simp; omega
    clear h hl
    go_enter Try.func14, Try.ntmps14
    go_wp2_with (refine wp_bytes rfl (.tmp 7) rfl L rfl (by unfold maxLen; omega) ?_; rintro v' w' h1 g1 -)
    go_ret
    exact ⟨_, rfl, h1, g1⟩

theorem eqBytes_any (v v' : Value) (l l' : List UInt8) (w : World) (h : RdB w v l) (h' : RdB w v' l') :
    Calls Try.prog 31 #[v, v'] w fun e w' => e = .returned (.bool (l == l')) ∧ w = w' := by
  obtain ⟨A, c, rfl⟩ := h.form
  obtain ⟨A', c', rfl⟩ := h'.form
  have hs := run_str h
  have hs' := run_str h'
  clear h h'
  by_cases hl : l.length = l'.length
  · have hb : ((l.length : Int) == (l'.length : Int)) = true := by rw [beq_iff_eq]; omega
    have Hl := Lib.hid hl
    clear hl
    go_enter Try.func31, Try.ntmps31
    go_wp2
    go_ret
    exact ⟨rfl, rfl⟩
  · have hb : ((l.length : Int) == (l'.length : Int)) = false := by rw [beq_eq_false_iff_ne]; omega
    have Hl : Hid ((l == l') = false) := by
      have : (l == l') = false := by rw [beq_eq_false_iff_ne]; exact fun e => hl (by rw [e])
      exact this
    clear hl
    go_enter Try.func31, Try.ntmps31
    go_wp2
    go_ret
    exact ⟨by rw [Hl.out]; rfl, rfl⟩

theorem byteAt_tmod (x k : Nat) : ((x : Int) / 2 ^ (8 * k)).tmod 256 % 256 = ((byteAt x k).toNat : Int) := by
  have e : (x : Int) / 2 ^ (8 * k) = ((x / 2 ^ (8 * k) : Nat) : Int) := by simp
  rw [← byteAt_val, e, Int.tmod_eq_emod_of_nonneg (Int.natCast_nonneg _), ← e, Int.emod_emod]
theorem div_step (x k : Nat) (hx : x / 2 ^ (8 * k) ≤ 18446744073709551615) : IntKind.u64.wrap (((x : Int) / 2 ^ (8 * k)).tdiv 256) = ((x / 2 ^ (8 * (k + 1)) : Nat) : Int) := by
  have e : (x : Int) / 2 ^ (8 * k) = ((x / 2 ^ (8 * k) : Nat) : Int) := by simp
  rw [e]
  generalize hy : x / 2 ^ (8 * k) = y at *
  rw [IntWalk.u64_quo _ _ (by omega), show 8 * (k + 1) = 8 * k + 8 from by omega, Nat.pow_add, ← Nat.div_div_eq_div_mul, hy]
  omega
/-- the reference's bytes of a number. -/
theorem rput_i (S X : Int) (size x : Nat) (hS : S = (size : Int)) (hX : X = (x : Int)) (v : Value) (l : List UInt8) (w : World) (hx : x < 2 ^ 64) (hs : size = 1 ∨ size = 2 ∨ size = 4 ∨ size = 8) (hn : l.length ≤ 1000000000) (h : RdB w v l) :
    Calls Try.prog 52 #[v, .int .u64 X, .int .i64 S] w fun e w' => ∃ v', e = .returned v' ∧ OwnB w' w.heap.size v' (l ++ le x size) ∧ w.grownBy w' none := by
  subst hS hX
  have Hs : Hid (szd size = true) := (szd_iff _).2 (by omega)
  have hs8 : size ≤ 8 := by omega
  have Hx := Lib.hid hx
  clear hs hx
  go_enter Try.func52, Try.ntmps52
  go_wp2_with (go_at_call 14; refine (copyBytes_any v l _ h hn).mono ?_; rintro e w1 ⟨v1, rfl, h1, g1⟩)
  go_loopw [1, 7, 8] (fun X u i wr => ∃ k : Nat, k ≤ size ∧ i = .int .i64 k ∧ X = .int .u64 ((x / 2 ^ (8 * k) : Nat) : Int) ∧ OwnB wr w.heap.size u (l ++ le x k) ∧ w.grownBy wr none)
    (fun _ _ i _ => size - (intOf i).toNat)
  case atStart => exact ⟨0, by omega, rfl, by simp, by simpa [le] using h1, g1⟩
  case round =>
    obtain ⟨k, hk, rfl, rfl, hw, hb⟩ := hrel
    have hsz := hb.size
    have hp : x / 2 ^ (8 * k) ≤ 18446744073709551615 := by have := Hx.out; have := Nat.div_le_self x (2 ^ (8 * k)); omega
    by_cases hlt : k < size
    · have hlt' : decide ((k : Int) < size) = true := by simp; omega
      have hlen : (l ++ le x k).length ≤ 70000000000000 := by simp [length_le]; omega
      go_wp2_with (first | (go_at_call 60; refine (rsized_any _ _).mono ?_; rintro e w2 ⟨rfl, rfl⟩; rw [Hs.out]) | (at_builtin; refine wp_app1B (byteAt x k) _ ?_ rfl (.tmp 20) (.tmp 24) rfl rfl hw rfl hlen hsz ?_))
      · exact byteAt_tmod x k
      · intro v2 w2 h2 g2 a2
        go_wp2
        go_roundw
        case rel => exact ⟨k + 1, by omega, by go_num, by rw [div_step x k hp], by simpa [le_succ] using h2, gr_trans hb g2 (.inr fun j hj => Own.lt hw j hj)⟩
        case measure => simp [intOf]; omega
    · have : k = size := by omega
      subst this
      have hlt' : decide ((k : Int) < k) = false := by simp
      go_wp2
      go_ret
      exact ⟨_, rfl, hw, hb⟩

theorem get_step (l : List UInt8) (at_ size k : Nat) (hs : size ≤ 8) (hk : k + 1 ≤ size) (hl : at_ + k < l.length) :
    IntKind.u64.wrap (IntKind.u64.wrap (256 * (rdN (((l.drop at_).take size).drop (k + 1)) : Int)) + IntKind.u64.wrap (l[at_ + k].toNat : Int)) = (rdN (((l.drop at_).take size).drop k) : Int) := by
  have hlen : k < ((l.drop at_).take size).length := by simp; omega
  have e : ((l.drop at_).take size).drop k = l[at_ + k] :: ((l.drop at_).take size).drop (k + 1) := by
    rw [List.drop_eq_getElem_cons hlen, List.getElem_take, List.getElem_drop]
  have h1 := rdN_lt (((l.drop at_).take size).drop (k + 1))
  have h2 : 2 ^ (8 * (((l.drop at_).take size).drop (k + 1)).length) ≤ 2 ^ 56 := Nat.pow_le_pow_right (by omega) (by simp; omega)
  have h3 := l[at_ + k].toNat_lt
  rw [e, rdN]
  generalize rdN (((l.drop at_).take size).drop (k + 1)) = X at *
  rw [IntWalk.u64_in (256 * (X : Int)) (by omega), IntWalk.u64_in (l[at_ + k].toNat : Int) (by omega), IntWalk.u64_in _ (by omega)]
  push_cast
  omega

theorem rget_any (O S : Int) (at_ size : Nat) (hO : O = (at_ : Int)) (hS : S = (size : Int)) (v : Value) (l : List UInt8) (w : World) (hs : size = 1 ∨ size = 2 ∨ size = 4 ∨ size = 8) (hn : at_ + size ≤ l.length) (hl : l.length ≤ 1000000000) (h : RdB w v l) :
    Calls Try.prog 51 #[v, .int .i64 O, .int .i64 S] w fun e w' => e = .returned (.tuple #[.int .u64 (rdN ((l.drop at_).take size)), .int .i64 0]) ∧ w = w' := by
  subst hO hS
  obtain ⟨hle, A, c, g, off, rfl, hnc, hc, hA0, hA, hx⟩ := h
  have := hA (by omega)
  subst this
  have Hs : Hid (szd size = true) := (szd_iff _).2 (by omega)
  have hs8 : size ≤ 8 := by omega
  have hs1 : 1 ≤ size := by omega
  clear hs hle hA hA0
  go_enter Try.func51, Try.ntmps51
  go_wp2_with (go_at_call 60; refine (rsized_any _ _).mono ?_; rintro e w2 ⟨rfl, rfl⟩; rw [Hs.out])
  go_loop [8, 9] (fun X i => ∃ k : Nat, k ≤ size ∧ i = .int .i64 ((k : Int) - 1) ∧ X = .int .u64 (rdN (((l.drop at_).take size).drop k))) (fun _ i => (intOf i + 1).toNat)
  case atStart => exact ⟨size, by omega, rfl, by simp [rdN]⟩
  case round =>
    obtain ⟨k, hk, rfl, rfl⟩ := hrel
    rcases k with _ | k
    · go_wp2
      go_ret2
      exact ⟨by simp, rfl⟩
    · have hkl : at_ + k < l.length := by omega
      have hcell : w.cell? ⟨g, off + (at_ + k), none⟩ = some (.int .u8 l[at_ + k].toNat) := by rw [hx (at_ + k) (by omega)]; simp [u8v, hkl]
      clear hx
      go_wp2
      go_round
      case rel => exact ⟨k, by omega, by go_num, by rw [get_step l at_ size k hs8 hk hkl]⟩
      case measure => simp [intOf]

end Go.Proofs.Ytnodkbkhdfihcaa

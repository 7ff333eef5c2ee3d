/-
  What is done with a disk, in memory; Vast.
-/
import Derived.Test.YtfbbbbekialpnaaL6
import Derived.Test.YtfbbbbekialpnaaInt
namespace Go.Proofs.Ytfbbbbekialpnaa
open Go.RowKit
set_option maxRecDepth 100000
set_option maxHeartbeats 400000

structure OpV where
  kind : Int
  name : List UInt8
  into : List UInt8
  off : Int
  n : Int
  bv : Value
  b : List UInt8
  mask : UInt8
  kv : Value
  keep : List Int
def OpV.cells (o : OpV) : List Value := [.int .i64 o.kind, .string ⟨o.name.toArray⟩, .string ⟨o.into.toArray⟩, .int .i64 o.off, .int .i64 o.n, o.bv, .int .u8 o.mask.toNat, o.kv]
structure OpOk (w : World) (o : OpV) : Prop where
  b : RdB w o.bv o.b
  keep : RdI w o.kv o.keep
  kind : -9223372036854775808 ≤ o.kind ∧ o.kind ≤ 9223372036854775807
  off : -9223372036854775808 ≤ o.off ∧ o.off ≤ 9223372036854775807
  n : -9223372036854775808 ≤ o.n ∧ o.n ≤ 9223372036854775807
  name : o.name.length ≤ maxLen
  into : o.into.length ≤ maxLen
  keepI : ∀ z ∈ o.keep, -9223372036854775808 ≤ z ∧ z ≤ 9223372036854775807
def opL (l : List OpV) : List Value := l.flatMap OpV.cells
def RdO (w : World) (v : Value) (l : List OpV) : Prop := Rd w 8 v l.length (opL l) ∧ ∀ o ∈ l, OpOk w o
theorem opL_at (l : List OpV) {k j : Nat} (hk : k < l.length) (hj : j < 8) : (opL l)[k * 8 + j]? = (l[k].cells)[j]? := by
  induction l generalizing k with
  | nil => simp at hk
  | cons r l ih =>
    have hl : r.cells.length = 8 := rfl
    unfold opL at *
    rw [List.flatMap_cons]
    cases k with
    | zero =>
      rw [List.getElem?_append_left (by omega)]
      simp
    | succ k =>
      rw [List.getElem?_append_right (by omega), hl, show (k + 1) * 8 + j - 8 = k * 8 + j from by omega]
      exact ih (by simpa using hk)
theorem OpOk.ext {w w' : World} {o : OpV} (h : OpOk w o) (g : w.grownBy w' none) : OpOk w' o := { h with b := h.b.ext g, keep := h.keep.ext g }
theorem RdO.ext {w w' : World} {v : Value} {l : List OpV} (h : RdO w v l) (g : w.grownBy w' none) : RdO w' v l := ⟨Rd.ext h.1 g, fun o ho => (h.2 o ho).ext g⟩
theorem RdO.form {w : World} {v : Value} {l : List OpV} (h : RdO w v l) : ∃ A c, v = .slice A l.length c := by
  obtain ⟨⟨_, A, c, _, _, e, _⟩, _⟩ := h; exact ⟨A, c, e⟩
theorem RdO.at_ {w : World} {A : Option Addr} {c : Nat} {l : List OpV} (h : RdO w (.slice A l.length c) l) : ∃ g off, (0 < l.length → A = some ⟨g, off, none⟩) ∧ l.length ≤ c ∧ c ≤ maxLen ∧ ∀ k (hk : k < l.length) j, j < 8 → w.cell? ⟨g, off + k * 8 + j, none⟩ = (l[k].cells)[j]? := by
  obtain ⟨⟨hl, A', c', g, off, e, hn, hc, hA0, hA, hx⟩, _⟩ := h
  cases e
  refine ⟨g, off, fun h0 => hA (by omega), hn, hc, fun k hk j hj => ?_⟩
  rw [Nat.add_assoc, hx _ (by omega), opL_at l hk hj]
def opW (o : OpV) : Nat := min o.b.length 131072 + min o.keep.length 131072 + min o.name.length 131072 + min o.into.length 131072
def sumW (l : List OpV) : Nat := (l.map opW).sum
def vastB (l : List OpV) : Bool := decide (150 < l.length) || decide (65536 < sumW l)
theorem sumW_take {l : List OpV} {k : Nat} (hk : k < l.length) : sumW (l.take (k + 1)) = sumW (l.take k) + opW l[k] := by
  unfold sumW
  rw [List.take_succ_eq_append_getElem hk, List.map_append, List.sum_append]
  simp
theorem sumW_mono (l : List OpV) (k : Nat) : sumW (l.take k) ≤ sumW l := by
  have e : l = l.take k ++ l.drop k := (List.take_append_drop k l).symm
  conv => rhs; rw [e]
  unfold sumW
  rw [List.map_append, List.sum_append]
  omega
theorem vast_no {l : List OpV} (h : vastB l = false) : l.length ≤ 150 ∧ sumW l ≤ 65536 := by
  unfold vastB at h
  simp at h
  omega
theorem opW_le {l : List OpV} (o : OpV) (ho : o ∈ l) : opW o ≤ sumW l := by
  obtain ⟨k, hk, rfl⟩ := List.getElem_of_mem ho
  have := sumW_take hk
  have := sumW_mono l (k + 1)
  omega
theorem opW_small {o : OpV} (h : opW o ≤ 65536) : o.b.length ≤ 65536 ∧ o.keep.length ≤ 65536 ∧ o.name.length ≤ 65536 ∧ o.into.length ≤ 65536 := by
  unfold opW at h
  omega
set_option maxHeartbeats 2000000 in
theorem vast_any (v : Value) (l : List OpV) (w : World) (h : RdO w v l) :
    Calls Try.prog 48 #[v] w fun e w' => e = .returned (.bool (vastB l)) ∧ ∃ q, w' = w.drewN q := by
  obtain ⟨A, c, rfl⟩ := h.form
  obtain ⟨g, off, hA, hcap, hmx, hcells⟩ := h.at_
  have HA := Lib.hid hA
  have HC := Lib.hid hcells
  have HOK := Lib.hid h.2
  clear hA hcells h
  by_cases hbig : 150 < l.length
  · have hv : Hid (vastB l = true) := by show _ = _; unfold vastB; simp [hbig]
    go_enter Try.func48, Try.ntmps48
    go_wp2
    go_ret
    exact ⟨by rw [hv.out]; rfl, 0, rfl⟩
  · have hl : l.length ≤ 150 := by omega
    clear hbig
    go_enter Try.func48, Try.ntmps48
    go_wp2
    go_loopw [3, 4] (fun s i wr => ∃ k : Nat, k ≤ l.length ∧ i = .int .i64 k ∧ (∃ m : Nat, s = .int .i64 m ∧ Hid (m = sumW (l.take k)) ∧ m ≤ 65536) ∧ DrewS w wr) (fun _ i _ => l.length - (intOf i).toNat)
    case atStart => exact ⟨0, by omega, rfl, ⟨0, rfl, rfl, by omega⟩, 0, rfl⟩
    case round =>
      obtain ⟨k, hk, rfl, ⟨m, rfl, hm, hm2⟩, q0, hq0⟩ := hrel
      have HQ0 := Lib.hid hq0
      have hg : w.grownBy wr none := by rw [hq0]; exact gr_drewN w q0 none
      clear hq0
      by_cases hlt : k < l.length
      · obtain rfl := HA.out (by omega)
        have hc := HC.out k hlt
        have hok := HOK.out l[k] (List.getElem_mem hlt)
        have hsum := sumW_take hlt
        rcases hx : l[k] with ⟨kind, name, into, off1, n1, bv, b, mask, kv, keep⟩
        rw [hx] at hc hok hsum
        obtain ⟨Ab, cb, rfl⟩ : ∃ Ab cb, bv = .slice Ab b.length cb := hok.b.form
        obtain ⟨Ak, ck, rfl⟩ : ∃ Ak ck, kv = .slice Ak keep.length ck := hok.keep.form
        have c1 : wr.cell? ⟨g, off + k * 8 + 1, none⟩ = some (.string ⟨name.toArray⟩) := hg.cell (hc 1 (by omega)) (by simp)
        have c2 : wr.cell? ⟨g, off + k * 8 + 2, none⟩ = some (.string ⟨into.toArray⟩) := hg.cell (hc 2 (by omega)) (by simp)
        have c5 : wr.cell? ⟨g, off + k * 8 + 5, none⟩ = some (.slice Ab b.length cb) := hg.cell (hc 5 (by omega)) (by simp)
        have c7 : wr.cell? ⟨g, off + k * 8 + 7, none⟩ = some (.slice Ak keep.length ck) := hg.cell (hc 7 (by omega)) (by simp)
        have hnm : name.length ≤ maxLen := hok.name
        have hin : into.length ≤ maxLen := hok.into
        have hbr : RdB w (.slice Ab b.length cb) b := hok.b
        have hbc : b.length ≤ maxLen := by obtain ⟨_, _, _, _, _, e, h1, h2, _⟩ := hbr; cases e; omega
        have hkr : RdI w (.slice Ak keep.length ck) keep := hok.keep
        have hkc : keep.length ≤ maxLen := by obtain ⟨_, _, _, _, _, e, h1, h2, _⟩ := hkr; cases e; omega
        obtain ⟨x1, e1⟩ : ∃ x1 : Nat, x1 = min b.length 131072 := ⟨_, rfl⟩
        obtain ⟨x2, e2⟩ : ∃ x2 : Nat, x2 = min keep.length 131072 := ⟨_, rfl⟩
        obtain ⟨x3, e3⟩ : ∃ x3 : Nat, x3 = min name.length 131072 := ⟨_, rfl⟩
        obtain ⟨x4, e4⟩ : ∃ x4 : Nat, x4 = min into.length 131072 := ⟨_, rfl⟩
        have m1 : min (b.length : Int) 131072 = (x1 : Int) := by omega
        have m2 : min (keep.length : Int) 131072 = (x2 : Int) := by omega
        have m3 : min (name.length : Int) 131072 = (x3 : Int) := by omega
        have m4 : min (into.length : Int) 131072 = (x4 : Int) := by omega
        have b1 : x1 ≤ 131072 ∧ x2 ≤ 131072 ∧ x3 ≤ 131072 ∧ x4 ≤ 131072 := by omega
        have hopw : opW ⟨kind, name, into, off1, n1, .slice Ab b.length cb, b, mask, .slice Ak keep.length ck, keep⟩ = x1 + x2 + x3 + x4 := by unfold opW; dsimp only; omega
        rw [hopw] at hsum
        have HS : Hid (sumW (l.take (k + 1)) = m + x1 + x2 + x3 + x4) := by show _ = _; rw [hsum, hm.out]; omega
        have s1 : IntKind.i64.wrap ((m : Int) + (x1 : Int)) = (m : Int) + (x1 : Int) := by rw [IntWalk.i64_in _ (by omega)]
        have s2 : IntKind.i64.wrap ((m : Int) + (x1 : Int) + (x2 : Int)) = (m : Int) + (x1 : Int) + (x2 : Int) := by rw [IntWalk.i64_in _ (by omega)]
        have s3 : IntKind.i64.wrap ((m : Int) + (x1 : Int) + (x2 : Int) + (x3 : Int)) = (m : Int) + (x1 : Int) + (x2 : Int) + (x3 : Int) := by rw [IntWalk.i64_in _ (by omega)]
        have s4 : IntKind.i64.wrap ((m : Int) + (x1 : Int) + (x2 : Int) + (x3 : Int) + (x4 : Int)) = (m : Int) + (x1 : Int) + (x2 : Int) + (x3 : Int) + (x4 : Int) := by rw [IntWalk.i64_in _ (by omega)]
        have hk1 : (0 : Int) ≤ (k : Int) := by omega
        have hk2 : (k : Int) < (l.length : Int) := by omega
        obtain ⟨t, ht⟩ : ∃ t : Nat, t = m + x1 + x2 + x3 + x4 := ⟨_, rfl⟩
        have ht2 : (m : Int) + (x1 : Int) + (x2 : Int) + (x3 : Int) + (x4 : Int) = (t : Int) := by omega
        have HT2 := Lib.hid ht2
        have HT : Hid (t = sumW (l.take (k + 1))) := by show _ = _; rw [HS.out, ht]
        have htb : t ≤ 600000 := by omega
        clear hbr hkr hc hok hsum hx e1 e2 e3 e4 hopw ht ht2 HS
        go_wp2_with fail
        go_quiet (fail)
        rw [HT2.out]
        by_cases hov : 65536 < t
        · have hd : decide ((65536 : Int) < (t : Int)) = true := by simp; omega
          have hv : Hid (vastB l = true) := by
            show _ = _
            unfold vastB
            have := sumW_mono l (k + 1)
            rw [← HT.out] at this
            simp; omega
          clear hov
          go_wp2
          go_ret
          exact ⟨by rw [hv.out]; rfl, q0 + nq, by rw [HQ0.out, World.drewN_drewN]⟩
        · have hd : decide ((65536 : Int) < (t : Int)) = false := by simp; omega
          have ht3 : t ≤ 65536 := by omega
          clear hov
          go_wp2
          go_roundw
          case rel => exact ⟨k + 1, by omega, by go_num, ⟨t, rfl, HT.out, ht3⟩, q0 + nq, by rw [HQ0.out, World.drewN_drewN]⟩
          case measure => simp [intOf]; omega
      · obtain rfl : k = l.length := by omega
        have hv : Hid (vastB l = false) := by
          show _ = _
          have := hm.out
          rw [List.take_length] at this
          unfold vastB
          simp; omega
        go_wp2
        go_ret
        exact ⟨by rw [hv.out]; rfl, q0, HQ0.out⟩
end Go.Proofs.Ytfbbbbekialpnaa

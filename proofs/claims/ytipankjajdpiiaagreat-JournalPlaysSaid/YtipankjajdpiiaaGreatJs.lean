/-
  What is done with a journal, in memory; vast of law09.
-/
import Derived.Test.YtipankjajdpiiaaGreatJ2
import Derived.Test.YtipankjajdpiiaaGreatKpd
import Derived.Test.YtipankjajdpiiaaGreatCut
import Derived.Test.YtipankjajdpiiaaGreatJh
import Derived.Test.YtipankjajdpiiaaGreatOne
namespace Go.Proofs.YtipankjajdpiiaaGreat
open Go.RowKit
set_option maxRecDepth 100000
set_option maxHeartbeats 400000

structure OpJ where
  kind : Int
  r : Rc
  n : Int
  kv : Value
  keep : List Int
  bv : Value
  b : List UInt8
  mask : UInt8
def OpJ.cells (o : OpJ) : List Value := [.int .i64 o.kind, .int .u32 o.r.k.toNat, .int .u32 o.r.a.toNat, .int .u32 o.r.b.toNat, .int .i64 o.n, o.kv, o.bv, .int .u8 o.mask.toNat]
structure OpJk (w : World) (o : OpJ) : Prop where
  b : RdB w o.bv o.b
  keep : RdI w o.kv o.keep
  kind : -9223372036854775808 ≤ o.kind ∧ o.kind ≤ 9223372036854775807
  n : -9223372036854775808 ≤ o.n ∧ o.n ≤ 9223372036854775807
  keepI : ∀ z ∈ o.keep, -9223372036854775808 ≤ z ∧ z ≤ 9223372036854775807
def opJ (l : List OpJ) : List Value := l.flatMap OpJ.cells
def RdJ (w : World) (v : Value) (l : List OpJ) : Prop := Rd w 8 v l.length (opJ l) ∧ ∀ o ∈ l, OpJk w o
theorem opJ_at (l : List OpJ) {k j : Nat} (hk : k < l.length) (hj : j < 8) : (opJ l)[k * 8 + j]? = (l[k].cells)[j]? := by
  induction l generalizing k with
  | nil => simp at hk
  | cons r l ih =>
    have hl : r.cells.length = 8 := rfl
    unfold opJ at *
    rw [List.flatMap_cons]
    cases k with
    | zero =>
      rw [List.getElem?_append_left (by omega)]
      simp
    | succ k =>
      rw [List.getElem?_append_right (by omega), hl, show (k + 1) * 8 + j - 8 = k * 8 + j from by omega]
      exact ih (by simpa using hk)
theorem OpJk.ext {w w' : World} {o : OpJ} (h : OpJk w o) (g : w.grownBy w' none) : OpJk w' o := { h with b := h.b.ext g, keep := h.keep.ext g }
theorem RdJ.ext {w w' : World} {v : Value} {l : List OpJ} (h : RdJ w v l) (g : w.grownBy w' none) : RdJ w' v l := ⟨Rd.ext h.1 g, fun o ho => (h.2 o ho).ext g⟩
theorem RdJ.form {w : World} {v : Value} {l : List OpJ} (h : RdJ w v l) : ∃ A c, v = .slice A l.length c := by
  obtain ⟨⟨_, A, c, _, _, e, _⟩, _⟩ := h; exact ⟨A, c, e⟩
theorem RdJ.at_ {w : World} {A : Option Addr} {c : Nat} {l : List OpJ} (h : RdJ w (.slice A l.length c) l) : ∃ g off, (0 < l.length → A = some ⟨g, off, none⟩) ∧ l.length ≤ c ∧ c ≤ maxLen ∧ ∀ k (hk : k < l.length) j, j < 8 → w.cell? ⟨g, off + k * 8 + j, none⟩ = (l[k].cells)[j]? := by
  obtain ⟨⟨hl, A', c', g, off, e, hn, hc, hA0, hA, hx⟩, _⟩ := h
  cases e
  refine ⟨g, off, fun h0 => hA (by omega), hn, hc, fun k hk j hj => ?_⟩
  rw [Nat.add_assoc, hx _ (by omega), opJ_at l hk hj]
def opJW (o : OpJ) : Nat := min o.b.length 131072 + min o.keep.length 131072
def sumJ (l : List OpJ) : Nat := (l.map opJW).sum
def vastJ (l : List OpJ) : Bool := decide (80 < l.length) || decide (32768 < sumJ l)
theorem sumJ_take {l : List OpJ} {k : Nat} (hk : k < l.length) : sumJ (l.take (k + 1)) = sumJ (l.take k) + opJW l[k] := by
  unfold sumJ
  rw [List.take_succ_eq_append_getElem hk, List.map_append, List.sum_append]
  simp
theorem sumJ_mono (l : List OpJ) (k : Nat) : sumJ (l.take k) ≤ sumJ l := by
  have e : l = l.take k ++ l.drop k := (List.take_append_drop k l).symm
  conv => rhs; rw [e]
  unfold sumJ
  rw [List.map_append, List.sum_append]
  omega
theorem vastJ_no {l : List OpJ} (h : vastJ l = false) : l.length ≤ 80 ∧ sumJ l ≤ 32768 := by
  unfold vastJ at h
  simp at h
  omega
theorem opJW_small {o : OpJ} (h : opJW o ≤ 32768) : o.b.length ≤ opJW o ∧ o.keep.length ≤ opJW o := by
  unfold opJW at *
  omega
set_option maxHeartbeats 2000000 in
theorem vastJ_any (v : Value) (l : List OpJ) (w : World) (h : RdJ w v l) :
    Calls Tryz.prog 5 #[v] w fun e w' => e = .returned (.bool (vastJ l)) ∧ w.grownBy w' none := by
  obtain ⟨A, c, rfl⟩ := h.form
  obtain ⟨g, off, hA, hcap, hmx, hcells⟩ := h.at_
  have HA := Lib.hid hA
  have HC := Lib.hid hcells
  have HOK := Lib.hid h.2
  clear hA hcells h
  by_cases hbig : 80 < l.length
  · have hv : Hid (vastJ l = true) := by show _ = _; unfold vastJ; simp [hbig]
    go_enter Tryz.func5, Tryz.ntmps5
    go_wp2
    go_ret
    exact ⟨by rw [hv.out]; rfl, gr_refl _ _⟩
  · have hl : l.length ≤ 80 := by omega
    clear hbig
    go_enter Tryz.func5, Tryz.ntmps5
    go_wp2
    go_loopw [3, 4] (fun s i wr => ∃ k : Nat, k ≤ l.length ∧ i = .int .i64 k ∧ (∃ m : Nat, s = .int .i64 m ∧ Hid (m = sumJ (l.take k)) ∧ m ≤ 32768) ∧ DrewS w wr) (fun _ i _ => l.length - (intOf i).toNat)
    case atStart => exact ⟨0, by omega, rfl, ⟨0, rfl, rfl, by omega⟩, 0, rfl⟩
    case round =>
      obtain ⟨k, hk, rfl, ⟨m, rfl, hm, hm2⟩, q0, hq0⟩ := hrel
      have HQ0 := Lib.hid hq0
      have hg : w.grownBy wr none := by rw [hq0]; exact gr_drewN w q0 none
      clear hq0
      by_cases hlt : k < l.length
      · obtain rfl := HA.out (by omega)
        have hc := HC.out k hlt
        have hok := HOK.out l[k] (List.getElem_mem hlt)
        have hsum := sumJ_take hlt
        rcases hx : l[k] with ⟨kind, rc, n1, kv, keep, bv, b, mask⟩
        rw [hx] at hc hok hsum
        obtain ⟨Ab, cb, rfl⟩ : ∃ Ab cb, bv = .slice Ab b.length cb := hok.b.form
        obtain ⟨Ak, ck, rfl⟩ : ∃ Ak ck, kv = .slice Ak keep.length ck := hok.keep.form
        have c5 : wr.cell? ⟨g, off + k * 8 + 5, none⟩ = some (.slice Ak keep.length ck) := hg.cell (hc 5 (by omega)) (by simp)
        have c6 : wr.cell? ⟨g, off + k * 8 + 6, none⟩ = some (.slice Ab b.length cb) := hg.cell (hc 6 (by omega)) (by simp)
        have hbr : RdB w (.slice Ab b.length cb) b := hok.b
        have hbc : b.length ≤ maxLen := by obtain ⟨_, _, _, _, _, e, h1, h2, _⟩ := hbr; cases e; omega
        have hkr : RdI w (.slice Ak keep.length ck) keep := hok.keep
        have hkc : keep.length ≤ maxLen := by obtain ⟨_, _, _, _, _, e, h1, h2, _⟩ := hkr; cases e; omega
        obtain ⟨x1, e1⟩ : ∃ x1 : Nat, x1 = min b.length 131072 := ⟨_, rfl⟩
        obtain ⟨x2, e2⟩ : ∃ x2 : Nat, x2 = min keep.length 131072 := ⟨_, rfl⟩
        have m1 : min (b.length : Int) 131072 = (x1 : Int) := by omega
        have m2 : min (keep.length : Int) 131072 = (x2 : Int) := by omega
        have b1 : x1 ≤ 131072 ∧ x2 ≤ 131072 := by omega
        have hopw : opJW ⟨kind, rc, n1, .slice Ak keep.length ck, keep, .slice Ab b.length cb, b, mask⟩ = x1 + x2 := by unfold opJW; dsimp only; omega
        rw [hopw] at hsum
        have HS : Hid (sumJ (l.take (k + 1)) = m + x1 + x2) := by show _ = _; rw [hsum, hm.out]; omega
        have s1 : IntKind.i64.wrap ((m : Int) + (x1 : Int)) = (m : Int) + (x1 : Int) := by rw [IntWalk.i64_in _ (by omega)]
        have s2 : IntKind.i64.wrap ((m : Int) + (x1 : Int) + (x2 : Int)) = (m : Int) + (x1 : Int) + (x2 : Int) := by rw [IntWalk.i64_in _ (by omega)]
        have hk1 : (0 : Int) ≤ (k : Int) := by omega
        have hk2 : (k : Int) < (l.length : Int) := by omega
        obtain ⟨t, ht⟩ : ∃ t : Nat, t = m + x1 + x2 := ⟨_, rfl⟩
        have ht2 : (m : Int) + (x1 : Int) + (x2 : Int) = (t : Int) := by omega
        have HT2 := Lib.hid ht2
        have HT : Hid (t = sumJ (l.take (k + 1))) := by show _ = _; rw [HS.out, ht]
        have htb : t ≤ 600000 := by omega
        clear hbr hkr hc hok hsum hx e1 e2 hopw ht ht2 HS
        go_wp2_with fail
        go_quiet (fail)
        rw [HT2.out]
        by_cases hov : 32768 < t
        · have hd : decide ((32768 : Int) < (t : Int)) = true := by simp; omega
          have hv : Hid (vastJ l = true) := by
            show _ = _
            unfold vastJ
            have := sumJ_mono l (k + 1)
            rw [← HT.out] at this
            simp; omega
          clear hov
          go_wp2
          go_ret
          exact ⟨by rw [hv.out]; rfl, by rw [HQ0.out, World.drewN_drewN]; exact gr_drewN _ _ _⟩
        · have hd : decide ((32768 : Int) < (t : Int)) = false := by simp; omega
          have ht3 : t ≤ 32768 := by omega
          clear hov
          go_wp2
          go_roundw
          case rel => exact ⟨k + 1, by omega, by go_num, ⟨t, rfl, HT.out, ht3⟩, q0 + nq, by rw [HQ0.out, World.drewN_drewN]⟩
          case measure => simp [intOf]; omega
      · obtain rfl : k = l.length := by omega
        have hv : Hid (vastJ l = false) := by
          show _ = _
          have := hm.out
          rw [List.take_length] at this
          unfold vastJ
          simp; omega
        go_wp2
        go_ret
        exact ⟨by rw [hv.out]; rfl, by rw [HQ0.out]; exact gr_drewN _ _ _⟩
end Go.Proofs.YtipankjajdpiiaaGreat

/- A journal on a disk of its own, seen from an older world. -/
namespace Go.Proofs.YtipankjajdpiiaaGreat
open Go.RowKit
set_option maxRecDepth 100000
set_option maxHeartbeats 400000

/-- a disk with a journal's file alone, all of it whole. -/
structure Jd (S : Dk) (l : List Rc) (b : Nat) : Prop where
  idle : Idle S
  q : S.quota = 1024
  sm : Sm S 1 b
  ex : ∃ la, S.fs = [⟨jn, secs 0 l, la⟩]
theorem Jd.find {S : Dk} {l : List Rc} {b : Nat} (h : Jd S l b) : ∃ la, S.find jn = some ⟨jn, secs 0 l, la⟩ := by
  obtain ⟨la, e⟩ := h.ex
  exact ⟨la, by unfold Dk.find; rw [e]; simp⟩
theorem Jd.open_ : Jd (jOpen (newD 1024)) [] 0 := by
  have e1 : jOpen1 (newD 1024) = { newD 1024 with fs := (newD 1024).fs ++ [⟨jn, [], []⟩] } := by unfold jOpen1; rw [newD_find]
  have e2 : jOpen (newD 1024) = ({ newD 1024 with fs := (newD 1024).fs ++ [⟨jn, [], []⟩] } : Dk).synced jn := by
    unfold jOpen
    rw [e1, find_added (newD 1024) jn (newD_find 1024)]
    rfl
  rw [e2]
  exact ⟨⟨rfl, rfl⟩, rfl, ⟨by simp [newD, Dk.synced, setF], by simp [newD, Dk.synced], fun s k hl => by simp [newD, Dk.synced] at hl⟩, [], by simp [newD, Dk.synced, setF, secs]⟩
theorem Jd.add {S : Dk} {l : List Rc} {b : Nat} (h : Jd S l b) (r : Rc) : Jd (addD S l.length r) (l ++ [r]) (b + 64) := by
  obtain ⟨la', hf⟩ := h.find
  obtain ⟨hi, hq, hs, la, e⟩ := h
  have e1 : overZ (secs 0 l) (64 * l.length) (secB (l.length + 1) r) = secs 0 (l ++ [r]) := by
    unfold overZ
    rw [secs_snoc, List.take_of_length_le (by rw [secs_len]; omega), List.drop_of_length_le (by rw [secs_len]; omega), List.append_nil, Nat.zero_add]
  refine ⟨⟨hi.1, hi.2⟩, hq, ?_, secs 0 (l ++ [r]), ?_⟩
  · have := (hs.wrote (m := secB (l.length + 1) r) hf (show 64 * l.length ≤ (secs 0 l).length by rw [secs_len]; omega)).synced jn
    rw [secB_len] at this
    exact this
  · unfold addD Dk.synced Dk.wrote setF
    rw [e]
    simp [e1]
theorem Jd.one {S : Dk} {l : List Rc} {b : Nat} (h : Jd S l b) : ∃ la, One S jn (secs 0 l) la 1024 := by
  obtain ⟨la, e⟩ := h.ex
  exact ⟨la, h.idle, e, h.q⟩
theorem Jd.addOne {S : Dk} {l : List Rc} {b : Nat} (h : Jd S l b) (r : Rc) : One (addD S l.length r) jn (secs 0 (l ++ [r])) (secs 0 (l ++ [r])) 1024 := by
  obtain ⟨hi, hq, hs, la, e⟩ := h
  have e1 : overZ (secs 0 l) (64 * l.length) (secB (l.length + 1) r) = secs 0 (l ++ [r]) := by
    unfold overZ
    rw [secs_snoc, List.take_of_length_le (by rw [secs_len]; omega), List.drop_of_length_le (by rw [secs_len]; omega), List.append_nil, Nat.zero_add]
  refine ⟨⟨hi.1, hi.2⟩, ?_, hq⟩
  unfold addD Dk.synced Dk.wrote setF
  rw [e]
  simp [e1]
/-- a journal that is whole is opened as it is. -/
theorem One.recs {S : Dk} {l : List Rc} {la : List UInt8} {q : Nat} (h : One S jn (secs 0 l) la q) (hk : ∀ r ∈ l, r.k ≠ 0) (hl : l.length ≤ 65536) : jRecs S = l ∧ One (jOpen S) jn (secs 0 l) (secs 0 l) q := by
  have hr := readJ_secs hk hl
  have e1 : jOpen1 S = S := by unfold jOpen1; rw [h.find]
  have e2 : jOpen2 S ⟨jn, secs 0 l, la⟩ = S := by
    unfold jOpen2
    dsimp only
    rw [hr, if_neg (by rw [secs_len]; omega)]
  have e3 : jOpen S = S.synced jn := by
    unfold jOpen
    rw [e1, h.find]
    dsimp only
    rw [e2]
  refine ⟨by unfold jRecs; rw [h.find]; exact hr, ?_⟩
  rw [e3]
  refine ⟨⟨h.idle.1, h.idle.2⟩, ?_, h.q⟩
  show setF S.fs jn _ = _
  rw [h.fs, setF_one]
theorem Jd.room {S : Dk} {l : List Rc} {b : Nat} (h : Jd S l b) (r : Rc) (hl : l.length < 1000) {f : Fi} (hf : S.find jn = some f) :
    f.now.length = 64 * l.length ∧ ¬ (0 < moreS f (64 * l.length) (secB (l.length + 1) r) ∧ (S.quota : Int) < S.used + moreS f (64 * l.length) (secB (l.length + 1) r)) := by
  obtain ⟨la, e⟩ := h.find
  rw [e] at hf
  obtain rfl := Option.some.inj hf
  obtain ⟨hi, hq, hn, la', ef⟩ := h
  have eu : S.used = sectors (64 * l.length) := by unfold Dk.used; rw [ef]; simp [secs_len]
  refine ⟨secs_len 0 l, ?_⟩
  unfold moreS
  rw [eu, hq, secB_len]
  show ¬ (0 < (sectors (max (secs 0 l).length (64 * l.length + 64)) : Int) - sectors (secs 0 l).length ∧ _)
  rw [secs_len]
  unfold sectors
  omega
theorem secs_takeF (l : List Rc) (n : Nat) (hn : n ≤ l.length) : (secs 0 l).take (64 * n) = secs 0 (l.take n) := by
  obtain ⟨T, e, hT⟩ := secs_take l (64 * n) (by omega)
  have hd : 64 * n / 64 = n := by omega
  rw [hd] at e
  have hl := congrArg List.length e
  rw [List.length_append, secs_len, List.length_take, List.length_take, secs_len] at hl
  have : T = [] := List.eq_nil_of_length_eq_zero (by omega)
  rw [e, this, List.append_nil]
theorem Jd.back {S : Dk} {l : List Rc} {b : Nat} (h : Jd S l b) {n : Nat} (hn : n ≤ l.length) : Jd (backD S n) (l.take n) b := by
  obtain ⟨hi, hq, hs, la, e⟩ := h
  refine ⟨⟨hi.1, hi.2⟩, hq, (hs.cutTo jn (64 * n)).synced jn, secs 0 (l.take n), ?_⟩
  unfold backD Dk.synced Dk.cutTo setF
  rw [e]
  simp [secs_takeF l n hn]
/-- a journal and its disk. -/
def JS (w0 : World) (d jb : Nat) (S : Dk) (l : List Rc) (w : World) : Prop := ∃ o v, DA w0 d o S w ∧ JR w w0.heap.size o jb d v l
section
variable {w0 w w1 : World} {d jb : Nat} {o : Own1} {S S' : Dk} {l l' : List Rc} {v : Value}
theorem JR.mono {B B' : Nat} (h : JR w B o jb d v l) (hB : B' ≤ B) : JR w B' o jb d v l := ⟨h.box, Own.mono h.own hB, h.free, Nat.le_trans hB h.jB, h.sep⟩
theorem JS.gr (h : JS w0 d jb S l w) : w0.grownBy w none := by obtain ⟨o, v, h1, _⟩ := h; exact h1.gr
theorem JS.ext (h : JS w0 d jb S l w) (g : w.grownBy w1 none) : JS w0 d jb S l w1 := by
  obtain ⟨o, v, h1, h2⟩ := h
  exact ⟨o, v, h1.ext g, h2.ch (Ch.ext g)⟩
theorem JS.of_add (h : DA w0 d o S w) {e : Ending} (ha : AddOut w w0.heap.size d jb S' l' e w1) : e = .returned (.int .i64 0) ∧ JS w0 d jb S' l' w1 := by
  obtain ⟨v', o', c', e1, k1, k2, k3⟩ := ha
  exact ⟨e1, o', v', ⟨⟨c', k1⟩, k3 w0 (Nat.le_refl _) h.gr⟩, k2⟩
theorem JS.add (h : JS w0 d jb S l w) {b : Nat} (hd : Jd S l b) (r : Rc) (hr : r.k ≠ 0) (hl : l.length < 1000) (hb : b ≤ 1000000000) :
    Calls Tryz.prog 23 #[.pointer (some ⟨jb, 0, none⟩), .agg r.cells] w fun e w' => e = .returned (.int .i64 0) ∧ JS w0 d jb (addD S l.length r) (l ++ [r]) w' := by
  obtain ⟨o, v, h1, h2⟩ := h
  obtain ⟨c, hc⟩ := h1.di
  obtain ⟨la, hf⟩ := hd.find
  obtain ⟨hfl, hroom⟩ := hd.room r hl hf
  exact (add_idle hc h2 hd.idle hf r hr (by omega) (by omega) (by omega) hroom (by have := hd.sm.fl; omega) (by have := hd.sm.nl; omega)).mono fun e w' ha => JS.of_add h1 ha
theorem JS.back (h : JS w0 d jb S l w) {b : Nat} (hd : Jd S l b) {n : Nat} (hn : n ≤ l.length) (hl : l.length < 1000) :
    Calls Tryz.prog 24 #[.pointer (some ⟨jb, 0, none⟩), .int .i64 n] w fun e w' => e = .returned (.int .i64 0) ∧ JS w0 d jb (backD S n) (l.take n) w' := by
  obtain ⟨o, v, h1, h2⟩ := h
  obtain ⟨c, hc⟩ := h1.di
  obtain ⟨la, hf⟩ := hd.find
  exact (back_idle hc h2 hd.idle hf n hn (by omega) (by show 64 * l.length ≤ (secs 0 l).length; rw [secs_len]; omega)).mono fun e w' ha => JS.of_add h1 ha
theorem JS.recs (h : JS w0 d jb S l w) (hl : l.length ≤ 1000000000) : Calls Tryz.prog 12 #[.pointer (some ⟨jb, 0, none⟩)] w fun e w' => (∃ v', e = .returned v' ∧ OwnR w' w.heap.size v' l) ∧ w.grownBy w' none := by
  obtain ⟨o, v, h1, h2⟩ := h
  exact recs_any h2 hl
theorem DA.jopen (h : DA w0 d o S w) (hi : Idle S) (hfl : S.fs.length ≤ 1000000) :
    Calls Tryz.prog 22 #[.pointer (some ⟨d, 0, none⟩)] w fun e w' => ∃ jb, e = .returned (.tuple #[.pointer (some ⟨jb, 0, none⟩), .int .i64 0]) ∧ JS w0 d jb (jOpen S) (jRecs S) w' ∧ ∃ o', Ch o w o' w' ∧ DA w0 d o' (jOpen S) w' ∧ ∃ v, JR w' w0.heap.size o' jb d v (jRecs S) := by
  obtain ⟨c, hc⟩ := h.di
  refine (open_idle hc hi hfl).mono ?_
  rintro e w' ⟨jb, v, o', c', rfl, k1, k2, k3⟩
  have hda : DA w0 d o' (jOpen S) w' := ⟨⟨c', k1⟩, k2.gr h.gr h.own0⟩
  exact ⟨jb, rfl, ⟨o', v, hda, k3.mono h.gr.size⟩, o', k2, hda, v, k3.mono h.gr.size⟩
end
end Go.Proofs.YtipankjajdpiiaaGreat

/-
  The document's disk: has, New, Arm, Quota, Used, Size, Read.
-/
import Derived.Test.YtipankjajdpiiaaGreatR4
namespace Go.Proofs.YtipankjajdpiiaaGreat
open Go.RowKit Go.Maps
set_option maxRecDepth 100000
set_option maxHeartbeats 400000

theorem rhas_any (v : Value) (xs : List Int) (x : Int) (w : World) (h : RdI w v xs) (hn : xs.length ≤ 1000000000) :
    Calls Tryz.prog 85 #[v, .int .i64 x] w fun e w' => e = .returned (.bool (memI xs x)) ∧ w = w' := by
  obtain ⟨hl, A, c, g, off, rfl, hnc, hc, _, hA, hx⟩ := h
  go_enter Tryz.func85, Tryz.ntmps85
  have Hl := Lib.hid hl
  clear hl
  go_wp2
  go_loop [5] (fun i => ∃ k : Nat, k ≤ xs.length ∧ i = .int .i64 k ∧ x ∉ xs.take k) (fun i => xs.length - (intOf i).toNat)
  case atStart => exact ⟨0, by omega, rfl, by simp⟩
  case round =>
    obtain ⟨k, hk, rfl, hno⟩ := hrel
    have Hno := Lib.hid hno
    clear hno
    by_cases hlt : k < xs.length
    · have := hA (by omega)
      subst this
      have hcell : w.cell? ⟨g, off + k, none⟩ = some (.int .i64 xs[k]) := by rw [hx k (by omega)]; simp [intL, hlt]
      clear hx
      by_cases hxk : x = xs[k]
      · have hxk' : (xs[k] == x) = true := by simpa using hxk.symm
        have Hxk : Hid (memI xs x = true) := by
          show xs.contains x = true
          rw [hxk]; simp
        clear hxk
        go_wp2
        go_ret
        exact ⟨by rw [Hxk.out]; rfl, rfl⟩
      · have hxk' : (xs[k] == x) = false := by simpa using fun e => hxk e.symm
        have Hxk := Lib.hid hxk
        clear hxk
        go_wp2
        go_round
        case rel => exact ⟨k + 1, by omega, by go_num, not_mem_take_succ hlt Hno.out Hxk.out⟩
        case measure => simp [intOf]; omega
    · have : k = xs.length := by omega
      subst this
      have Hm : Hid (memI xs x = false) := by
        show xs.contains x = false
        have := Hno.out
        rw [List.take_length] at this
        simpa using this
      go_wp2
      go_ret
      exact ⟨by rw [Hm.out]; rfl, rfl⟩
section
variable {w0 w w' : World} {r N c q a k : Nat} {O : Own1} {A : Option Addr} {l : List Rm} {off : Bool} {R : RD}
theorem RS.of_num {A : Option Addr} {q' a' : Nat} {off' : Bool} {L : List Rf} (h : RV w0 w r O A N c l q' a' off') (hl : l.map Rm.rf = L) : RS w0 w r O ⟨L, q', a', off'⟩ := ⟨A, N, c, l, h, hl⟩
theorem RS.gr (h : RS w0 w r O R) : w0.grownBy w none := by obtain ⟨A, N, c, l, h, -⟩ := h; exact h.gr
theorem RS.ext (h : RS w0 w r O R) (g : w.grownBy w' none) : RS w0 w' r O R := by obtain ⟨A, N, c, l, h, hl⟩ := h; exact ⟨A, N, c, l, h.ext g, hl⟩
theorem RS.fresh (h : RS w0 w r O R) {i : Nat} (hi : w.heap.size ≤ i) : O i = none := by
  obtain ⟨A, N, c, l, h, -⟩ := h
  cases e : O i with
  | none => rfl
  | some t => have := (h.inb i (by rw [e]; simp)).2; omega
theorem RS.keep {O1 O1' : Own1} (h : RS w0 w r O R) (hc : Ch O1 w O1' w') (hd : Dsj O O1) (hg : w0.grownBy w' none) : RS w0 w' r O R ∧ Dsj O O1' := by
  obtain ⟨A, N, c, l, h, hl⟩ := h
  exact ⟨⟨A, N, c, l, h.keep hc hd hg, hl⟩, Dsj.mk fun i hi => hc.free i (h.inb i hi).2 (hd.off i hi)⟩
def RNew (w : World) (q : Nat) (e : Ending) (w' : World) : Prop := ∃ r O, e = .returned (.tuple #[.pointer (some ⟨r, 0, none⟩), .int .i64 0]) ∧ RS w w' r O ⟨[], q, 0, false⟩ ∧ ∀ i, i < w.heap.size → O i = none
theorem rnew_any (q : Nat) (w : World) (hq : q ≤ 1048576) : Calls Tryz.prog 8 #[.int .i64 (q : Int)] w (RNew w q) := by
  have h0 : ¬ (q : Int) < 0 := by omega
  have h1 : ¬ (1048576 : Int) < (q : Int) := by omega
  have h2 : decide ((1048576 : Int) < (q : Int)) = false := decide_eq_false h1
  have HQ := Lib.hid hq
  clear hq
  go_enter Tryz.func8, Tryz.ntmps8
  go_wp2
  go_ret2
  have hb := Blk.new w 77 #[.slice none 0 0, .int .i64 (q : Int), .int .i64 ((0 : Nat) : Int), .bool false]
  refine ⟨w.heap.size, fun i => if i = w.heap.size then some (9, []) else none, rfl, ⟨none, 0, 0, [], ⟨rfl, hb, Own.nil _ _ _, fun x hx => (by cases hx), fun b e => (by cases e), by simp, fun i hi => ?_, gr_alloc _ _ none, HQ.out, by show 0 ≤ _; omega, by omega⟩, rfl⟩, fun i hi => if_neg (by omega)⟩
  rw [World.size_alloc]
  by_cases e : i = w.heap.size
  · omega
  · rw [if_neg e] at hi; exact absurd rfl hi
theorem rnew_bad (q : Int) (w : World) (hq : q < 0 ∨ 1048576 < q) : Calls Tryz.prog 8 #[.int .i64 q] w fun e w' => e = .returned (.tuple #[.pointer none, .int .i64 1]) ∧ w = w' := by
  rcases hq with h | h
  · go_enter Tryz.func8, Tryz.ntmps8
    go_wp2
    go_ret2
    exact ⟨rfl, rfl⟩
  · have h0 : ¬ q < 0 := by omega
    go_enter Tryz.func8, Tryz.ntmps8
    go_wp2
    go_ret2
    exact ⟨rfl, rfl⟩
theorem rarm_any (h : RS w0 w r O R) (n : Int) (hn : -9223372036854775808 ≤ n ∧ n ≤ 9223372036854775807) : Calls Tryz.prog 34 #[.pointer (some ⟨r, 0, none⟩), .int .i64 n] w fun e w' => e = .returned (.int .i64 (R.arm n).2) ∧ RSn w0 r O (R.arm n).1 w w' := by
  obtain ⟨A, N, c, l, h, hl⟩ := h
  have hc := h.self.cell
  have hf := h.self.frozen
  have H := Lib.hid h
  clear h
  by_cases h0 : n < 0
  · have e : R.arm n = (R, 1) := if_pos h0
    rw [e]
    clear e
    go_enter Tryz.func34, Tryz.ntmps34
    go_wp2
    go_ret
    exact ⟨rfl, O, ⟨A, N, c, l, H.out, hl⟩, Ch.refl _ _⟩
  · have h1 : 0 ≤ n := by omega
    cases hd : R.off with
    | true =>
      have e : R.arm n = (R, 6) := by unfold RD.arm; rw [if_neg h0, if_pos hd]
      rw [e]
      rw [hd] at hc
      clear e hd
      go_enter Tryz.func34, Tryz.ntmps34
      go_wp2
      go_ret
      exact ⟨rfl, O, ⟨A, N, c, l, H.out, hl⟩, Ch.refl _ _⟩
    | false =>
      have e : R.arm n = ({ R with armed := n.toNat }, 0) := by unfold RD.arm; rw [if_neg h0, if_neg (by rw [hd]; simp)]
      rw [e]
      rw [hd] at hc
      obtain ⟨k, rfl⟩ := Int.eq_ofNat_of_zero_le h1
      have HB : Hid (RS w0 (w.setCell ⟨r, 2, none⟩ (.int .i64 (k : Int))) r O { R with armed := (k : Int).toNat }) := by
        rw [Int.toNat_natCast]
        exact ⟨A, N, c, l, H.out.num (q' := R.q) (a' := k) (off' := R.off) (gr_setCell _ _ _) (by simpa using H.out.self.set 2 (.int .i64 (k : Int))) ⟨H.out.lim.1, by omega⟩, hl⟩
      clear e hd h0
      go_enter Tryz.func34, Tryz.ntmps34
      go_wp2
      go_ret
      exact ⟨rfl, O, HB.out, Ch.of_gr (gr_setCell _ _ _) (fun k e => by cases e; exact H.out.me)⟩
theorem rquota_any (h : RS w0 w r O R) (n : Int) (hn : -9223372036854775808 ≤ n ∧ n ≤ 9223372036854775807) : Calls Tryz.prog 38 #[.pointer (some ⟨r, 0, none⟩), .int .i64 n] w fun e w' => e = .returned (.int .i64 (R.setQuota n).2) ∧ RSn w0 r O (R.setQuota n).1 w w' := by
  obtain ⟨A, N, c, l, h, hl⟩ := h
  have hc := h.self.cell
  have hf := h.self.frozen
  have H := Lib.hid h
  clear h
  by_cases h0 : n < 0
  · have e : R.setQuota n = (R, 1) := if_pos (.inl h0)
    rw [e]
    clear e
    go_enter Tryz.func38, Tryz.ntmps38
    go_wp2
    go_ret
    exact ⟨rfl, O, ⟨A, N, c, l, H.out, hl⟩, Ch.refl _ _⟩
  · by_cases h2 : 1048576 < n
    · have e : R.setQuota n = (R, 1) := if_pos (.inr h2)
      rw [e]
      clear e
      go_enter Tryz.func38, Tryz.ntmps38
      go_wp2
      go_ret
      exact ⟨rfl, O, ⟨A, N, c, l, H.out, hl⟩, Ch.refl _ _⟩
    · have e : R.setQuota n = ({ R with q := n.toNat }, 0) := if_neg (by omega)
      rw [e]
      obtain ⟨k, rfl⟩ := Int.eq_ofNat_of_zero_le (show 0 ≤ n by omega)
      have HB : Hid (RS w0 (w.setCell ⟨r, 1, none⟩ (.int .i64 (k : Int))) r O { R with q := (k : Int).toNat }) := by
        rw [Int.toNat_natCast]
        exact ⟨A, N, c, l, H.out.num (q' := k) (a' := R.armed) (off' := R.off) (gr_setCell _ _ _) (by simpa using H.out.self.set 1 (.int .i64 (k : Int))) ⟨by omega, H.out.lim.2.1⟩, hl⟩
      have h3 : ¬ (1048576 : Int) < (k : Int) := h2
      have h4 : decide ((1048576 : Int) < (k : Int)) = false := decide_eq_false h3
      clear e
      go_enter Tryz.func38, Tryz.ntmps38
      go_wp2
      go_ret
      exact ⟨rfl, O, HB.out, Ch.of_gr (gr_setCell _ _ _) (fun k e => by cases e; exact H.out.me)⟩
theorem rused_any (h : RS w0 w r O R) : Calls Tryz.prog 90 #[.pointer (some ⟨r, 0, none⟩)] w fun e w' => e = .returned (.int .i64 R.used) ∧ w.grownBy w' none := by
  obtain ⟨A, N, c, l, h, hl⟩ := h
  have hlim := h.lim.2.2
  have HL := Lib.hid h.len
  have H := Lib.hid h
  have HU : Hid (R.used = (l.map fun x => sectors x.now.length).sum) := by
    show _ = _
    unfold RD.used
    rw [← hl, List.map_map]; rfl
  clear h hl
  go_enter Tryz.func90, Tryz.ntmps90
  go_wp2_with fail
  go_loopw [3, 4] (fun uv iv wr => ∃ k s : Nat, k ≤ N ∧ iv = .int .i64 k ∧ uv = .int .i64 s ∧ s = ((l.take k).map fun x => sectors x.now.length).sum ∧ s ≤ 262145 * k ∧ w.grownBy wr none) (fun _ iv _ => N - (intOf iv).toNat)
  case atStart => exact ⟨0, 0, Nat.zero_le _, rfl, rfl, by simp, by omega, gr_refl _ _⟩
  case round =>
    obtain ⟨k, s, hk, rfl, rfl, hs, hsb, hg⟩ := hrel
    have hsf := (H.out.self.ext hg).cell
    by_cases hlt : k < N
    · have hkl : k < l.length := by rw [HL.out]; exact hlt
      obtain ⟨ga, offa, rfl, hNc, -, -, hat, -⟩ := (H.out.ext hg).at_ hlt
      have c1 := (hat hkl).2.1
      have hok := (H.out.ext hg).ok l[k] (List.getElem_mem hkl)
      obtain ⟨An, cn, ev⟩ := RdB.form hok.now
      rw [ev] at c1
      have hsm := hok.small.2.1
      obtain ⟨M, hM⟩ : ∃ M, M = l[k].now.length := ⟨_, rfl⟩
      rw [← hM] at c1 hsm
      have HS : Hid (((l.take (k + 1)).map fun x => sectors x.now.length).sum = s + sectors M) := by
        show _ = _
        rw [List.take_succ_eq_append_getElem hkl, List.map_append, List.sum_append, ← hs, hM]
        simp
      have hsec : sectors M ≤ 262145 := by unfold sectors; omega
      have HG := Lib.hid hg
      have HSE := Lib.hid (fun wx => rsectors_any M wx (by omega))
      obtain ⟨T, hT⟩ : ∃ T, T = sectors M := ⟨_, rfl⟩
      rw [← hT] at HS hsec
      have HSE' : Hid (∀ wx, Calls Tryz.prog 89 #[.int .i64 (M : Int)] wx fun e w' => e = .returned (.int .i64 (T : Int)) ∧ wx = w') := fun wx => by rw [hT]; exact HSE.out wx
      clear hat hok ev hM hs hg hT HSE
      go_wp2_with fail
      refine (HSE'.out _).mono ?_
      rintro e w6 ⟨rfl, rfl⟩
      go_wp2_with fail
      go_roundw
      case rel => exact ⟨k + 1, s + T, by omega, by go_num, by go_num, HS.out.symm, by omega, HG.out⟩
      case measure => simp [intOf] <;> omega
    · obtain rfl : k = N := by omega
      have HS : Hid (R.used = s) := by
        show _ = _
        rw [HU.out, hs, List.take_of_length_le (by rw [HL.out]; omega)]
      have HG := Lib.hid hg
      clear hs hg
      go_wp2_with fail
      go_ret
      exact ⟨by rw [HS.out]; rfl, HG.out⟩
theorem rsize_any (h : RS w0 w r O R) (n : List UInt8) (hn : n.length ≤ 1000000000) : Calls Tryz.prog 78 #[.pointer (some ⟨r, 0, none⟩), .string ⟨n.toArray⟩] w fun e w' => e = .returned (.tuple #[.int .i64 (R.size n).1, .int .i64 (R.size n).2]) ∧ w.grownBy w' none := by
  obtain ⟨A, N, c, l, h, hl⟩ := h
  have hc := h.self.cell
  have H := Lib.hid h
  have HN := Lib.hid (rname_any n w hn)
  have HA := Lib.hid (rat_any h n)
  clear h
  cases hd : R.off with
  | true =>
    rw [show R.size n = (0, 6) from if_pos hd]
    rw [hd] at hc
    clear hd
    go_enter Tryz.func78, Tryz.ntmps78
    go_wp2_with fail
    go_ret2
    exact ⟨rfl, gr_refl _ _⟩
  | false =>
    rw [hd] at hc
    cases hr : rightB n with
    | false =>
      rw [show R.size n = (0, 1) from by unfold RD.size; rw [if_neg (by rw [hd]; simp), if_pos hr]]
      clear hd
      go_enter Tryz.func78, Tryz.ntmps78
      go_wp2_with fail
      refine HN.out.mono ?_
      rintro e w1 ⟨rfl, rfl⟩
      rw [hr]
      go_wp2_with fail
      go_ret2
      exact ⟨rfl, gr_refl _ _⟩
    | true =>
      have HSZ : Hid (R.size n = match R.L.find? (fun f => f.n == n) with | none => (0, 3) | some f => (f.now.length, 0)) := by
        show _ = _
        unfold RD.size
        rw [if_neg (by rw [hd]; simp), if_neg (by rw [hr]; simp)]; rfl
      clear hd
      go_enter Tryz.func78, Tryz.ntmps78
      go_wp2_with fail
      refine HN.out.mono ?_
      rintro e w1 ⟨rfl, rfl⟩
      rw [hr]
      go_wp2_with fail
      refine HA.out.mono ?_
      rintro e w2 ⟨⟨z, rfl, hz⟩, g2⟩
      rcases ixm_find hl hz with ⟨i, rfl, hi, hni, hf⟩ | ⟨rfl, hf⟩
      · have hlen := H.out.len
        obtain ⟨ga, offa, rfl, hNc, -, -, hat, -⟩ := (H.out.ext g2).at_ (k := i) (by omega)
        have c1 := (hat hi).2.1
        have hok := (H.out.ext g2).ok l[i] (List.getElem_mem hi)
        obtain ⟨An, cn, ev⟩ := RdB.form hok.now
        rw [ev] at c1
        have hs2 := (H.out.self.ext g2).cell
        have HR : Hid (R.size n = (l[i].now.length, 0)) := by
          show _ = _
          rw [HSZ.out, hf]; rfl
        have hiN : (i : Int) < (N : Int) := by omega
        have hi0 : (0 : Int) ≤ (i : Int) := by omega
        have hi1 : ¬ (i : Int) < 0 := by omega
        have G2 := Lib.hid g2
        obtain ⟨M, hM⟩ : ∃ M, M = l[i].now.length := ⟨_, rfl⟩
        rw [← hM] at c1 HR
        clear hat hok ev hz hf hni hlen hM hl g2 hi
        go_wp2_with fail
        go_ret2
        exact ⟨by rw [HR.out]; rfl, G2.out⟩
      · have HR : Hid (R.size n = (0, 3)) := by
          show _ = _
          rw [HSZ.out, hf]
        have G2 := Lib.hid g2
        clear hz hf hl g2
        go_wp2_with fail
        go_ret2
        exact ⟨by rw [HR.out]; rfl, G2.out⟩
end
end Go.Proofs.YtipankjajdpiiaaGreat

/- The document's disk: Read. -/
namespace Go.Proofs.YtipankjajdpiiaaGreat
open Go.RowKit Go.Maps
set_option maxRecDepth 100000
set_option maxHeartbeats 400000

section
variable {w0 w w' : World} {r N c q a k : Nat} {O : Own1} {A : Option Addr} {l : List Rm} {off : Bool} {R : RD}
/-- what a file is, read off the list. -/
theorem RV.file {n : List UInt8} {z : Int} (h : RV w0 w r O A N c l R.q R.armed R.off) (hl : l.map Rm.rf = R.L) (hz : IxM l n z) : (∃ (i gl offl : Nat) (Ab : Option Addr) (cb : Nat) (f : Rf), z = (i : Int) ∧ i < N ∧ N ≤ c ∧ A = some ⟨gl, offl, none⟩ ∧ R.find n = some f ∧ w.cell? ⟨gl, offl + i * 4 + 1, none⟩ = some (.slice Ab f.now.length cb) ∧ RdB w (.slice Ab f.now.length cb) f.now ∧ f.now.length ≤ 16777216) ∨ (z = -1 ∧ R.find n = none) := by
  rcases ixm_find hl hz with ⟨i, rfl, hi, hni, hf⟩ | ⟨rfl, hf⟩
  · have hlen := h.len
    obtain ⟨ga, offa, rfl, hNc, -, -, hat, -⟩ := h.at_ (k := i) (by omega)
    have c1 := (hat hi).2.1
    have hok := h.ok l[i] (List.getElem_mem hi)
    obtain ⟨An, cn, ev⟩ := RdB.form hok.now
    have hrd := hok.now
    rw [ev] at c1 hrd
    exact .inl ⟨i, ga, offa, An, cn, l[i].rf, rfl, by omega, hNc, rfl, hf, c1, hrd, hok.small.2.1⟩
  · exact .inr ⟨rfl, hf⟩
set_option maxHeartbeats 4000000 in
theorem rread_any (h : RS w0 w r O R) (n : List UInt8) (hn : n.length ≤ 1000000000) (p k : Int) (hp : -9223372036854775808 ≤ p ∧ p ≤ 9223372036854775807) (hk : -9223372036854775808 ≤ k ∧ k ≤ 9223372036854775807) :
    Calls Tryz.prog 80 #[.pointer (some ⟨r, 0, none⟩), .string ⟨n.toArray⟩, .int .i64 p, .int .i64 k] w fun e w' => (∃ v, e = .returned (.tuple #[v, .int .i64 (R.read n p k).2]) ∧ OwnB w' w.heap.size v (R.read n p k).1) ∧ w.grownBy w' none := by
  obtain ⟨A, N, c, l, h, hl⟩ := h
  have hc := h.self.cell
  have H := Lib.hid h
  have HN := Lib.hid (rname_any n w hn)
  have HA := Lib.hid (rat_any h n)
  have HP := Lib.hid hp
  have HKB := Lib.hid hk
  clear h
  cases hd : R.off with
  | true =>
    rw [show R.read n p k = ([], 6) from if_pos hd]
    rw [hd] at hc
    clear hd
    go_enter Tryz.func80, Tryz.ntmps80
    go_wp2_with fail
    go_ret2
    exact ⟨⟨_, rfl, OwnB.nil _ _⟩, gr_refl _ _⟩
  | false =>
    rw [hd] at hc
    by_cases hbad : rightB n = false ∨ p < 0 ∨ k < 0
    · rw [show R.read n p k = ([], 1) from by unfold RD.read; rw [if_neg (by rw [hd]; simp), if_pos hbad]]
      have hb3 : (rightB n = false) ∨ (rightB n = true ∧ p < 0) ∨ (rightB n = true ∧ ¬ p < 0 ∧ k < 0) := by
        cases e : rightB n with
        | false => exact .inl rfl
        | true =>
          rw [e] at hbad
          rcases hbad with h9 | h9 | h9
          · cases h9
          · exact .inr (.inl ⟨rfl, h9⟩)
          · by_cases h8 : p < 0
            · exact .inr (.inl ⟨rfl, h8⟩)
            · exact .inr (.inr ⟨rfl, h8, h9⟩)
      clear hd hbad
      rcases hb3 with hr | ⟨hr, h1⟩ | ⟨hr, h1, h2⟩
      all_goals
        go_enter Tryz.func80, Tryz.ntmps80
        go_wp2_with fail
        refine HN.out.mono ?_
        rintro e w1 ⟨rfl, rfl⟩
        rw [hr]
        go_wp2_with fail
        go_ret2
        exact ⟨⟨_, rfl, OwnB.nil _ _⟩, gr_refl _ _⟩
    · have hr : rightB n = true := by
        cases e : rightB n with
        | true => rfl
        | false => exact absurd (.inl e) hbad
      have hp0 : ¬ p < 0 := fun e => hbad (.inr (.inl e))
      have hk0 : ¬ k < 0 := fun e => hbad (.inr (.inr e))
      have HRD : Hid (R.read n p k = match R.find n with | none => ([], 3) | some f => ((f.now.drop p.toNat).take k.toNat, 0)) := by
        show _ = _
        unfold RD.read
        rw [if_neg (by rw [hd]; simp), if_neg hbad]; rfl
      obtain ⟨p', rfl⟩ := Int.eq_ofNat_of_zero_le (show 0 ≤ p by omega)
      obtain ⟨k', rfl⟩ := Int.eq_ofNat_of_zero_le (show 0 ≤ k by omega)
      have HPK : Hid (p' ≤ 9223372036854775807 ∧ k' ≤ 9223372036854775807) := by show _ ∧ _; have := HP.out; have := HKB.out; omega
      clear hd hbad hp hk HP HKB
      go_enter Tryz.func80, Tryz.ntmps80
      go_wp2_with fail
      refine HN.out.mono ?_
      rintro e w1 ⟨rfl, rfl⟩
      rw [hr]
      go_wp2_with fail
      refine HA.out.mono ?_
      rintro e w2 ⟨⟨z, rfl, hz⟩, g2⟩
      rcases (H.out.ext g2).file hl hz with ⟨i, gl, offl, Ab, cb, f, rfl, hiN, hNc, rfl, hf, c1, hrd, hsm⟩ | ⟨rfl, hf⟩
      · have HR : Hid (R.read n (p' : Int) (k' : Int) = ((f.now.drop p').take k', 0)) := by
          show _ = _
          rw [HRD.out, hf]; simp
        have hs2 := (H.out.self.ext g2).cell
        have hiN' : (i : Int) < (N : Int) := by omega
        have hi0 : (0 : Int) ≤ (i : Int) := by omega
        have hi1 : ¬ (i : Int) < 0 := by omega
        have G2 := Lib.hid g2
        have HRB := Lib.hid hrd
        obtain ⟨M, hM⟩ : ∃ M, M = f.now.length := ⟨_, rfl⟩
        have hcap := RdB.cap hrd
        rw [← hM] at c1 hsm hcap
        have HM := Lib.hid hM
        have HB0 : Hid (w.heap.size ≤ w2.heap.size) := g2.size
        clear hz hf hl g2 hrd HA HRD hM
        obtain ⟨lo, hlo⟩ : ∃ lo, lo = min p' M := ⟨_, rfl⟩
        obtain ⟨len, hlen⟩ : ∃ len, len = min k' (M - lo) := ⟨_, rfl⟩
        have hm1 : min (p' : Int) (M : Int) = (lo : Int) := by omega
        have hm2 : min (k' : Int) ((M : Int) - (lo : Int)) = (len : Int) := by omega
        have hb1 : (lo : Int) + (len : Int) ≤ (cb : Int) := by omega
        have hb2 : lo + len ≤ cb := by omega
        have HLL : Hid (lo + len ≤ M) := by show _ ≤ _; omega
        have HCUT : Hid (RdB w2 (.slice (cutA Ab cb lo 1) (lo + len - lo) (cb - lo)) ((f.now.drop lo).take len)) := by
          have := HRB.out.cut (i := lo) (j := lo + len) (by omega) (by rw [← HM.out]; omega)
          have e : (f.now.take (lo + len)).drop lo = (f.now.drop lo).take len := by rw [List.drop_take, Nat.add_sub_cancel_left]
          rw [e] at this
          exact this
        have HRES : Hid ((f.now.drop p').take k' = (f.now.drop lo).take len) := by
          show _ = _
          rcases Nat.lt_or_ge M p' with h9 | h9
          · obtain rfl : lo = M := by omega
            obtain rfl : len = 0 := by omega
            rw [List.drop_of_length_le (by rw [← HM.out]; omega)]; simp
          · obtain rfl : lo = p' := by omega
            rcases Nat.lt_or_ge (M - lo) k' with h8 | h8
            · obtain rfl : len = M - lo := by omega
              rw [List.take_of_length_le (by rw [List.length_drop, ← HM.out]; omega), List.take_of_length_le (by rw [List.length_drop, ← HM.out]; omega)]
            · obtain rfl : len = k' := by omega
              rfl
        have HLEN : Hid (((f.now.drop lo).take len).length = len) := by
          show _ = _
          rw [List.length_take, List.length_drop, ← HM.out]; have := HLL.out; omega
        clear hlo hlen
        go_wp2_with (at_builtin; refine wp_appB (m := (f.now.drop lo).take len) (l := []) rfl (.tmp 46) (.tmp 57) rfl rfl (own_empty _ _ HB0.out) rfl (HCUT.out.alloc _) (by rw [HLEN.out]; have := HLL.out; show 0 + len ≤ _; omega) (by rw [World.size_alloc]; have := HB0.out; omega) ?_; rintro v' w' h1 h2 h3; obtain ⟨Av, cv, ev⟩ := RdB.form (OwnB.rd h1); rw [List.nil_append, HLEN.out] at ev; subst ev; have H1 := Lib.hid h1; have H2 := Lib.hid h2; clear h1 h2 h3)
        go_ret2
        exact ⟨⟨_, by rw [HR.out]; rfl, by rw [HR.out, HRES.out]; exact H1.out⟩, gr_trans G2.out (gr_trans (gr_alloc _ _ none) H2.out (.inr fun g e => by cases e; exact Nat.le_refl _)) (.inr fun g e => by cases e)⟩
      · have HR : Hid (R.read n (p' : Int) (k' : Int) = ([], 3)) := by
          show _ = _
          rw [HRD.out, hf]
        have G2 := Lib.hid g2
        clear hz hf hl g2
        go_wp2_with fail
        go_ret2
        exact ⟨⟨_, by rw [HR.out]; rfl, by rw [HR.out]; exact OwnB.nil _ _⟩, G2.out⟩
end
end Go.Proofs.YtipankjajdpiiaaGreat

/- The document's disk: put, take, Create, Remove. -/
namespace Go.Proofs.YtipankjajdpiiaaGreat
open Go.RowKit Go.Maps
set_option maxRecDepth 100000
set_option maxHeartbeats 400000

theorem Tryz.infoRf : (Tryz.prog.info? 100).map (fun i => (i.zero, i.size, i.bytes)) = some (some (.agg #[.string ⟨#[]⟩, .slice none 0 0, .slice none 0 0, .slice none 0 0]), 4, 88) := by kernel_rfl
section
variable {w0 w w' wb : World} {r N c q a k : Nat} {O : Own1} {A : Option Addr} {l : List Rm} {off : Bool} {R : RD}
theorem RmOk.one {v : Value} {x : Rm} (h : RmOk w O r v x) : x.nv.oneCell' = true ∧ x.lv.oneCell' = true ∧ x.sv.oneCell' = true := by
  obtain ⟨A1, c1, e1⟩ := RdB.form h.now
  obtain ⟨A2, c2, e2⟩ := RdB.form h.lasts
  obtain ⟨_, A3, c3, _, _, e3, _⟩ := h.loose
  rw [e1, e2, e3]
  exact ⟨rfl, rfl, rfl⟩
/-- the list is another one, in new memory. -/
theorem RV.relist (h : RV w0 wb r O A N c l q a off) (g : wb.grownBy w none) {A' : Option Addr} {N' c' : Nat} {l' : List Rm} (ho : Own w wb.heap.size 4 (.slice A' N' c') N' (l'.flatMap Rm.enc)) (hlen : l'.length = N') (hN : N' ≤ 1000000)
    (hs : ∀ x ∈ l', x ∈ l ∨ RmOk w (growO O wb w) r (.slice A' N' c') x) : RV w0 (w.setCell ⟨r, 0, none⟩ (.slice A' N' c')) r (growO O wb w) A' N' c' l' q a off := by
  have hr := h.inb r h.me
  have hg := h.ext g
  have hgs := gr_setCell w ⟨r, 0, none⟩ (.slice A' N' c')
  have hgo : ∀ i, O i ≠ none → growO O wb w i ≠ none := fun i hi => by unfold growO; rw [if_neg hi]; exact hi
  have hbl : ∀ b, blk (.slice A' N' c') = some b → wb.heap.size ≤ b ∧ b < w.heap.size := fun b e => Own.blk_lt ho (by omega) e
  have hin : ∀ i, growO O wb w i ≠ none → w0.heap.size ≤ i ∧ i < w.heap.size := (hg.grow h.gr.size).inb
  refine ⟨hlen, ?_, ?_, fun x hx => ?_, fun b e => ⟨growO_new (hbl b e), by have := hbl b e; omega⟩, hgo r h.me, fun i hi => ⟨(hin i hi).1, by rw [World.size_setCell]; exact (hin i hi).2⟩, gr_trans hg.gr hgs (.inr fun b e => by cases e; exact hr.1), ⟨h.lim.1, h.lim.2.1, hN⟩⟩
  · simpa using hg.self.set 0 (.slice A' N' c')
  · exact (Own.off ho hgs fun k e e2 => by cases e; have := hbl r e2; omega).mono h.gr.size
  · have hok : RmOk w (growO O wb w) r (.slice A' N' c') x := by
      rcases hs x hx with hx | hx
      · have h9 := (hg.ok x hx).mono hgo
        exact ⟨h9.now, h9.lasts, h9.loose, fun b e => ⟨(h9.off b e).1, (h9.off b e).2.1, fun e2 => by
          have h1 := hbl b e2
          have h2 := h.inb b ((h.ok x hx).off b e).1
          omega⟩, h9.small⟩
      · exact hx
    exact hok.same fun i hi hne _ => hgs.block i (hin i hi).2 fun e => hne (by cases e; rfl)
theorem RV.relist_ch (h : RV w0 wb r O A N c l q a off) (g : wb.grownBy w none) (v : Value) : Ch O wb (growO O wb w) (w.setCell ⟨r, 0, none⟩ v) := by
  have h1 : Ch O wb O (w.setCell ⟨r, 0, none⟩ v) := (Ch.ext g).trans (Ch.of_gr (gr_setCell _ _ _) fun k e => by cases e; exact h.me)
  exact ⟨h1.os, h1.tape, h1.output, h1.size, h1.block, (growO_ch (Ch.ext g)).free⟩
/-- append(l, x...), files of the document's disk. -/
theorem wp_appRm {P : Program} {w : World} {ops : Array Oper} {rest : List Oper} {o : Oper} {a : Act} {Q : Exit → Act → World → Prop} (hP : P = Tryz.prog) (hgd : o.guard = none) (s0 x0 : Operand)
    (ho : o.op = .call { callee := .builtin .append, args := #[s0, x0], argTypes := #[75, 75] }) {B : Nat} {v x : Value} {n m : Nat} {l l2 : List Rm} (hs : a.eval s0 = v) (hown : Own w B 4 v n (l.flatMap Rm.enc))
    (hx : a.eval x0 = x) (hr : Rd w 4 x m (l2.flatMap Rm.enc)) (h1 : ∀ y ∈ l2, y.nv.oneCell' = true ∧ y.lv.oneCell' = true ∧ y.sv.oneCell' = true) (hn : n + m ≤ 1000000000) (hB : B ≤ w.heap.size)
    (h : ∀ v' w', Own w' B 4 v' (n + m) ((l ++ l2).flatMap Rm.enc) → App1 w w' n m v v' → wpList P ops Q rest (a.put o.dst v') w') :
    wpList P ops Q (o :: rest) a w := by
  subst hP
  exact wp_appS (P := Tryz.prog) w hgd s0 x0 75 ho B 100 _ 4 88 Tryz.underlying75 Tryz.infoRf rfl (by omega) v n (l.flatMap Rm.enc) hs hown x m (l2.flatMap Rm.enc) hx hr (fun u hu => by
    obtain ⟨y, hy, hu⟩ := List.mem_flatMap.1 hu
    have := h1 y hy
    simp [Rm.enc] at hu
    rcases hu with rfl | rfl | rfl | rfl
    · rfl
    · exact this.1
    · exact this.2.1
    · exact this.2.2) (by unfold maxLen; omega) (by omega) hB
    fun v' w' h2 h3 => h v' w' (by rw [List.flatMap_append]; exact h2) h3
theorem own_emptyRm (w : World) (B : Nat) (hB : B ≤ w.heap.size) : Own (w.alloc (.cells #[] 100)) B 4 (.slice (some ⟨w.heap.size, 0, none⟩) 0 0) 0 (([] : List Rm).flatMap Rm.enc) :=
  own_lit w B 4 0 0 #[] _ (0, 0) (.inl (by simp)) rfl (Nat.le_refl _) (Nat.zero_le _) hB
theorem rm_take : ∀ (l : List Rm) (j : Nat), (l.flatMap Rm.enc).take (j * 4) = (l.take j).flatMap Rm.enc
  | [], j => by simp
  | a :: t, 0 => by simp
  | a :: t, j + 1 => by
    rw [List.take_succ_cons, List.flatMap_cons, List.flatMap_cons, ← rm_take t j, Nat.add_mul, List.take_append, rm4, List.take_of_length_le (by rw [rm4]; omega)]
    congr 2
theorem rm_drop : ∀ (l : List Rm) (j : Nat), (l.flatMap Rm.enc).drop (j * 4) = (l.drop j).flatMap Rm.enc
  | [], j => by simp
  | a :: t, 0 => by simp
  | a :: t, j + 1 => by
    rw [List.drop_succ_cons, List.flatMap_cons, ← rm_drop t j, Nat.add_mul, List.drop_append, rm4, List.drop_of_length_le (by rw [rm4]; omega), List.nil_append]
    congr 1
theorem rd_takeRm {A : Option Addr} {N c : Nat} {l : List Rm} (h : Rd w 4 (.slice A N c) N (l.flatMap Rm.enc)) {j : Nat} (hj : j ≤ N) : Rd w 4 (.slice A j c) j ((l.take j).flatMap Rm.enc) := by
  have := h.cut (i := 0) (j := j) (by omega) hj
  rw [Nat.zero_mul, List.drop_zero, rm_take, Nat.sub_zero, Nat.sub_zero] at this
  have e : cutA A c 0 4 = A := by unfold cutA; cases A <;> simp [Addr.add]
  rw [e] at this
  exact this
theorem rd_dropRm {A : Option Addr} {N c : Nat} {l : List Rm} (h : Rd w 4 (.slice A N c) N (l.flatMap Rm.enc)) {j : Nat} (hj : j ≤ N) : Rd w 4 (.slice (cutA A c j 4) (N - j) (c - j)) (N - j) ((l.drop j).flatMap Rm.enc) := by
  have hl : (l.flatMap Rm.enc).length = N * 4 := h.1
  have := h.cut (i := j) (j := N) hj (Nat.le_refl _)
  rw [List.take_of_length_le (by omega), rm_drop] at this
  exact this
/-- a list in memory that was made since. -/
structure Fro (wb w : World) (v : Value) (n : Nat) (l : List Rm) : Prop where
  own : Own w wb.heap.size 4 v n (l.flatMap Rm.enc)
  gr : wb.grownBy w none
  fr : ∀ q, v.ownBlock = some q → wb.heap.size ≤ q
theorem Fro.form {v : Value} {n : Nat} (h : Fro wb w v n l) : ∃ A c, v = .slice A n c := by obtain ⟨_, A, c, _, _, e, _⟩ := h.own; exact ⟨A, c, e⟩
theorem Fro.app {v v' : Value} {n m : Nat} {l l' : List Rm} (h : Fro wb w v n l) (ho : Own w' wb.heap.size 4 v' (n + m) (l'.flatMap Rm.enc)) (ha : App1 w w' n m v v') : Fro wb w' v' (n + m) l' := by
  refine ⟨ho, ?_, fun q e => ?_⟩
  · rcases ha with ⟨A, c, rfl, rfl, k⟩ | ⟨k, -, -, k2⟩
    · exact gr_trans h.gr k (.inr fun q e => h.fr q e)
    · exact gr_none h.gr k2
  · rcases ha with ⟨A, c, rfl, rfl, k⟩ | ⟨k, e1, hk, -⟩
    · exact h.fr q (by cases A with | none => cases e | some x => exact e)
    · rw [e1] at e
      cases e
      have := h.gr.size
      omega
theorem Fro.alloc {v : Value} {n : Nat} (h : Fro wb w v n l) (o : Obj) : Fro wb (w.alloc o) v n l := ⟨h.own.alloc o, gr_none h.gr (gr_alloc _ _ none), h.fr⟩
theorem fro_empty (wb : World) (w : World) (g : wb.grownBy w none) : Fro wb (w.alloc (.cells #[] 100)) (.slice (some ⟨w.heap.size, 0, none⟩) 0 0) 0 [] := ⟨own_emptyRm w _ g.size, gr_none g (gr_alloc _ _ none), fun q e => by cases e; exact g.size⟩
theorem ap1_gr {v v' : Value} {n m : Nat} (h : App1 w w' n m v v') (g : wb.grownBy w none) (hv : ∀ q, v.ownBlock = some q → wb.heap.size ≤ q) : wb.grownBy w' none := by
  rcases h with ⟨A, c, rfl, rfl, k⟩ | ⟨k, -, -, k2⟩
  · exact gr_trans g k (.inr fun q e => hv q e)
  · exact gr_none g k2
theorem tw_split {p : Rm → Bool} : ∀ {l : List Rm} {k : Nat}, (∀ j, (hj : j < l.length) → j < k → p l[j] = true) → (k = l.length ∨ ∃ h : k < l.length, p l[k] = false) → l.takeWhile p = l.take k ∧ l.dropWhile p = l.drop k
  | [], k, _, h => by
    rcases h with h | ⟨h, -⟩
    · subst h; exact ⟨rfl, rfl⟩
    · cases h
  | a :: t, 0, _, h => by
    rcases h with h | ⟨_, h⟩
    · cases h
    · have h' : p a = false := h
      rw [List.takeWhile_cons, List.dropWhile_cons, h']; exact ⟨rfl, rfl⟩
  | a :: t, k + 1, hall, h => by
    have h0 : p a = true := hall 0 (by simp) (by omega)
    have ih := tw_split (p := p) (l := t) (k := k) (fun j hj hjk => hall (j + 1) (by simp; omega) (by omega)) (by
      rcases h with h | ⟨h1, h2⟩
      · exact .inl (by simpa using h)
      · exact .inr ⟨by simpa using h1, h2⟩)
    rw [List.takeWhile_cons, List.dropWhile_cons, h0, List.take_succ_cons, List.drop_succ_cons]
    exact ⟨by rw [if_pos rfl, ih.1], by rw [if_pos rfl, ih.2]⟩
theorem putR_split {k : Nat} {x : Rm} (hall : ∀ j, (hj : j < l.length) → j < k → bl l[j].n x.n = true) (hend : k = l.length ∨ ∃ h : k < l.length, bl l[k].n x.n = false) : (l.take k ++ x :: l.drop k).map Rm.rf = putR (l.map Rm.rf) x.rf := by
  obtain ⟨h1, h2⟩ := tw_split (p := fun y => bl y.n x.n) hall hend
  unfold putR
  rw [← h1, ← h2, List.map_append, List.map_cons, List.takeWhile_map, List.dropWhile_map]
  rfl
end
end Go.Proofs.YtipankjajdpiiaaGreat

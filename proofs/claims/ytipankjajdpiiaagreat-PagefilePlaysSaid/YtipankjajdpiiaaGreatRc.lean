/-
  The document's disk: take, Create, Remove.
-/
import Derived.Test.YtipankjajdpiiaaGreatR8
namespace Go.Proofs.YtipankjajdpiiaaGreat
open Go.RowKit Go.Maps
set_option maxRecDepth 100000
set_option maxHeartbeats 400000

section
variable {w0 w w' wb : World} {r N c q a k : Nat} {O : Own1} {A : Option Addr} {l : List Rm} {off : Bool} {R : RD}
theorem RV.far (h : RV w0 w r O A N c l q a off) {m : Option Nat} (g : w.grownBy w' m) (hm : ∀ k, m = some k → O k = none ∧ w0.heap.size ≤ k) : RV w0 w' r O A N c l q a off := by
  have hc : Ch (fun i => if m = some i then some (0, []) else none) w (fun i => if m = some i then some (0, []) else none) w' := Ch.of_gr g fun k e => by
    show (if m = some k then some (0, []) else none) ≠ none
    rw [if_pos e]; simp
  refine h.keep hc (Dsj.mk fun i hi => ?_) (gr_trans h.gr g (.inr fun k e => (hm k e).2))
  show (if m = some i then some (0, []) else none) = none
  rw [if_neg fun e => hi (hm i e).1]
theorem Ch.farR {O0 O : Own1} {wb w w' : World} (h : Ch O0 wb O w) {m : Option Nat} (g : w.grownBy w' m) (hr : ∀ k, m = some k → wb.heap.size ≤ k) : Ch O0 wb O w' :=
  ⟨g.os.trans h.os, g.tape.trans h.tape, g.output.trans h.output, Nat.le_trans h.size g.size, fun i hi h0 => (g.block i (Nat.lt_of_lt_of_le hi h.size) fun e => by have := hr i e.symm; omega).trans (h.block i hi h0), h.free⟩
def RTake (w0 wb : World) (r : Nat) (O : Own1) (L : List Rf) (q a : Nat) (off : Bool) (e : Ending) (w' : World) : Prop := (∃ v, e = .returned v) ∧ ∃ O', RS w0 w' r O' ⟨L, q, a, off⟩ ∧ Ch O wb O' w'
set_option maxHeartbeats 4000000 in
theorem rtake_any (h : RV w0 wb r O A N c l q a off) (hk : k < N) {L : List Rf} (hLf : (l.take k ++ l.drop (k + 1)).map Rm.rf = L) : Calls Tryz.prog 125 #[.pointer (some ⟨r, 0, none⟩), .int .i64 (k : Int)] wb (RTake w0 wb r O L q a off) := by
  have HLF := Lib.hid hLf
  clear hLf
  have hL := h.len
  have hkl : k < l.length := by omega
  obtain ⟨ga, offa, rfl, hNc, -, -, hat, -⟩ := h.at_ hk
  obtain ⟨c0, c1, c2, c3⟩ := hat hkl
  have hok := h.ok l[k] (List.getElem_mem hkl)
  obtain ⟨A1, d1, e1⟩ := RdB.form hok.now
  obtain ⟨A2, d2, e2⟩ := RdB.form hok.lasts
  obtain ⟨_, A3, d3, _, _, e3, _⟩ := hok.loose
  rw [e1] at c1
  rw [e2] at c2
  rw [e3] at c3
  obtain ⟨nm, hnm⟩ : ∃ nm, nm = l[k].n := ⟨_, rfl⟩
  obtain ⟨n1, hn1⟩ : ∃ n1, n1 = l[k].now.length := ⟨_, rfl⟩
  obtain ⟨n2, hn2⟩ : ∃ n2, n2 = l[k].lasts.length := ⟨_, rfl⟩
  obtain ⟨n3, hn3⟩ : ∃ n3, n3 = l[k].loose.length := ⟨_, rfl⟩
  rw [← hnm] at c0
  rw [← hn1] at c1
  rw [← hn2] at c2
  rw [← hn3] at c3
  clear e1 e2 e3 hnm hn1 hn2 hn3 hok hat
  obtain ⟨w1, hw1⟩ : ∃ w1, w1 = wb.alloc (.cells #[.string ⟨#[]⟩, .slice none 0 0, .slice none 0 0, .slice none 0 0] 100) := ⟨_, rfl⟩
  obtain ⟨w2, hw2⟩ : ∃ w2, w2 = w1.alloc (.cells #[.string ⟨nm.toArray⟩, .slice A1 n1 d1, .slice A2 n2 d2, .slice A3 n3 d3] 100) := ⟨_, rfl⟩
  have hg1 : wb.grownBy w1 none := by rw [hw1]; exact gr_alloc _ _ none
  have hg2 : wb.grownBy w2 none := by rw [hw2]; exact gr_none hg1 (gr_alloc _ _ none)
  have hn1 : w1.heap.size = wb.heap.size + 1 := by rw [hw1, World.size_alloc]
  have hb1 : Blk w2 wb.heap.size 100 #[.string ⟨#[]⟩, .slice none 0 0, .slice none 0 0, .slice none 0 0] := by rw [hw2]; exact (show Blk w1 wb.heap.size _ _ by rw [hw1]; exact Blk.new wb _ _).ext (gr_alloc _ _ none)
  have hb2 : Blk w2 (wb.heap.size + 1) 100 #[.string ⟨nm.toArray⟩, .slice A1 n1 d1, .slice A2 n2 d2, .slice A3 n3 d3] := by rw [hw2, ← hn1]; exact Blk.new w1 _ _
  have h2 : RV w0 w2 r O (some ⟨ga, offa, none⟩) N c l q a off := h.ext hg2
  have hs2 := (h2.ext (gr_alloc w2 (.cells #[] 100) none)).self.cell
  have hs1 := (h.self.ext hg1).cell
  have a0 := hg1.cell c0 (by simp)
  have a1 := hg1.cell c1 (by simp)
  have a2 := hg1.cell c2 (by simp)
  have a3 := hg1.cell c3 (by simp)
  have hrl : r < wb.heap.size := (h.inb r h.me).2
  rw [hw2, hw1] at hs2
  rw [hw1] at hs1 a0 a1 a2 a3
  have H := Lib.hid h2
  have HB1 := Lib.hid hb1
  have HB2 := Lib.hid hb2
  have HZ2 : Hid (w2.heap.size = wb.heap.size + 2) := by show _ = _; rw [hw2, World.size_alloc, hn1]
  have HG2 := Lib.hid hg2
  have HRD : Hid (∀ wx, w2.grownBy wx none → Rd wx 4 (.slice (some ⟨ga, offa, none⟩) N c) N (l.flatMap Rm.enc)) := fun wx g => (h2.own.rd).ext g
  have HSF : Hid (∀ wx, w2.grownBy wx none → ∀ i, wx.cell? ⟨r, i, none⟩ = #[.slice (some ⟨ga, offa, none⟩) N c, .int .i64 q, .int .i64 a, .bool off][i]? ∧ wx.frozen? ⟨r, i, none⟩ = false) := fun wx g i => ⟨(h2.self.ext g).cell i, (h2.self.ext g).frozen i⟩
  have HON : Hid (∀ y ∈ l, y.nv.oneCell' = true ∧ y.lv.oneCell' = true ∧ y.sv.oneCell' = true) := fun y hy => (h2.ok y hy).one
  have HN6 : Hid (N ≤ 1000000) := h2.lim.2.2
  have HFR : Hid (O wb.heap.size = none ∧ w0.heap.size ≤ wb.heap.size) := by
    refine ⟨?_, h.gr.size⟩
    cases e : O wb.heap.size with
    | none => rfl
    | some t => have := (h.inb wb.heap.size (by rw [e]; simp)).2; omega
  have HLL := Lib.hid hL
  have hNi : (N : Int) ≤ 1000000 := by have := HN6.out; omega
  have hki : (k : Int) < (N : Int) := by omega
  have hk0 : (0 : Int) ≤ (k : Int) := by omega
  have hkc : (k : Int) ≤ (c : Int) := by omega
  have hk1 : (k : Int) + 1 ≤ (N : Int) := by omega
  have hk1c : (k : Int) + 1 ≤ (c : Int) := by omega
  have hNc2 : (N : Int) ≤ (c : Int) := by omega
  have hneA : ¬ wb.heap.size = r := by omega
  have hneB : ¬ wb.heap.size + 1 = r := by omega
  have hneC : ¬ r = wb.heap.size := by omega
  have hneD : ¬ r = wb.heap.size + 1 := by omega
  have HW1 := Lib.hid hw1
  have HW2 := Lib.hid hw2
  clear h h2 c0 c1 c2 c3 hg1 hg2 hb1 hb2 hn1 hw1 hw2 hL hrl
  go_enter Tryz.func125, Tryz.ntmps125
  go_wp2_with (first
    | (at_builtin; rw [← HW1.out]; rw [← HW2.out]; refine wp_appRm (l := []) (l2 := l.take k) rfl rfl (.tmp 14) (.tmp 20) rfl (by rw [HZ2.out]; rfl) (own_emptyRm w2 w2.heap.size (Nat.le_refl _)) rfl (rd_takeRm (HRD.out _ (gr_alloc _ _ none)) (by omega)) (fun y hy => HON.out y (List.mem_of_mem_take hy)) (by have := HN6.out; omega) (by rw [World.size_alloc]; omega) ?_; rintro v7 w7 ho7 ha7; have f7 := (fro_empty w2 w2 (gr_refl _ _)).app (l' := l.take k) ho7 ha7; rw [Nat.zero_add] at f7; obtain ⟨A7, c7, rfl⟩ := f7.form; have F7 := Lib.hid f7; have s7 : w7.cell? ⟨r, 0, none⟩ = some (.slice (some ⟨ga, offa, none⟩) N c) := (HSF.out w7 f7.gr 0).1; clear f7 ho7 ha7)
    | (at_builtin; refine wp_appRm (l := l.take k) (l2 := l.drop (k + 1)) rfl rfl (.tmp 23) (.tmp 30) rfl rfl F7.out.own rfl (rd_dropRm (HRD.out _ F7.out.gr) (by omega)) (fun y hy => HON.out y (List.mem_of_mem_drop hy)) (by have := HN6.out; omega) F7.out.gr.size ?_; rintro v8 w8 ho8 ha8; have f8 := F7.out.app (l' := l.take k ++ l.drop (k + 1)) ho8 ha8; obtain ⟨A8, c8, rfl⟩ := f8.form; have F8 := Lib.hid f8; have s8 : w8.cell? ⟨r, 0, none⟩ = some (.slice (some ⟨ga, offa, none⟩) N c) := (HSF.out w8 f8.gr 0).1; have z8 := (HSF.out w8 f8.gr 0).2; have x8 := (HB2.out.ext f8.gr).cell; have y8 := (HB1.out.ext f8.gr).cell; have y9 := (HB1.out.ext f8.gr).frozen; clear f8 ho8 ha8))
  have hlen : (l.take k ++ l.drop (k + 1)).length = k + (N - (k + 1)) := by simp; have := HLL.out; omega
  have hrl := H.out.relist F8.out.gr F8.out.own hlen (by have := HN6.out; omega) fun x hx => .inl (by
    rcases List.mem_append.1 hx with hx | hx
    · exact List.mem_of_mem_take hx
    · exact List.mem_of_mem_drop hx)
  have hch := (Ch.ext HG2.out).trans (H.out.relist_ch F8.out.gr (.slice A8 (k + (N - (k + 1))) c8))
  have hbk := (HB1.out.ext F8.out.gr).far hneA (p := ⟨r, 0, none⟩) (.slice A8 (k + (N - (k + 1))) c8)
  obtain ⟨w9, hw9⟩ : ∃ w9, w9 = w8.setCell ⟨r, 0, none⟩ (.slice A8 (k + (N - (k + 1))) c8) := ⟨_, rfl⟩
  rw [← hw9] at hrl hch hbk ⊢
  obtain ⟨WF, hWF⟩ : ∃ WF, WF = (((w9.setCell ⟨wb.heap.size, 0, none⟩ (.string ⟨nm.toArray⟩)).setCell ⟨wb.heap.size, 1, none⟩ (.slice A1 n1 d1)).setCell ⟨wb.heap.size, 2, none⟩ (.slice A2 n2 d2)).setCell ⟨wb.heap.size, 3, none⟩ (.slice A3 n3 d3) := ⟨_, rfl⟩
  rw [← hWF]
  have hgf : w9.grownBy WF (some wb.heap.size) := by
    rw [hWF]
    exact gr_trans (gr_trans (gr_trans (gr_setCell _ _ _) (gr_setCell _ _ _) (.inl rfl)) (gr_setCell _ _ _) (.inl rfl)) (gr_setCell _ _ _) (.inl rfl)
  have hcf : ∀ i, WF.cell? ⟨wb.heap.size, i, none⟩ = #[.string ⟨nm.toArray⟩, .slice A1 n1 d1, .slice A2 n2 d2, .slice A3 n3 d3][i]? := by
    rw [hWF]
    intro i
    have hb := (((hbk.set 0 (.string ⟨nm.toArray⟩)).set 1 (.slice A1 n1 d1)).set 2 (.slice A2 n2 d2)).set 3 (.slice A3 n3 d3)
    rw [hb.cell i]
    rfl
  have hno : growO O w2 w8 wb.heap.size = none := by
    unfold growO
    rw [if_pos HFR.out.1, if_neg (by have := HZ2.out; omega)]
  have hrf := hrl.far hgf fun b e => by cases e; exact ⟨hno, HFR.out.2⟩
  have hcf2 := hch.farR hgf fun b e => by cases e; exact Nat.le_refl _
  have HRF := Lib.hid hrf
  have HCF := Lib.hid hcf2
  clear hWF hgf hno hrf hcf2 hrl hch hbk hw9
  exact bodyPost_ret (v := .agg #[.string ⟨nm.toArray⟩, .slice A1 n1 d1, .slice A2 n2 d2, .slice A3 n3 d3]) (by simp [results, Tryz.results125, go_sem, hcf]) rfl ⟨⟨_, rfl⟩, _, ⟨_, _, _, _, HRF.out, HLF.out⟩, HCF.out⟩
end
end Go.Proofs.YtipankjajdpiiaaGreat

/- The document's disk: Create, Remove. -/
namespace Go.Proofs.YtipankjajdpiiaaGreat
open Go.RowKit Go.Maps
set_option maxRecDepth 100000
set_option maxHeartbeats 400000

section
variable {w0 w w' wb : World} {r N c q a k : Nat} {O : Own1} {A : Option Addr} {l : List Rm} {off : Bool} {R : RD}
theorem begin_eq (R : RD) : R.begin = ⟨R.L, R.q, if 0 < R.armed then R.armed - 1 else R.armed, if 0 < R.armed then R.off || decide (R.armed = 1) else R.off⟩ := by
  unfold RD.begin
  split <;> rfl
theorem beginL (R : RD) : R.begin.L = R.L := by rw [begin_eq]
theorem rgone_rs (h : RS w0 w r O R) : Calls Tryz.prog 86 #[.pointer (some ⟨r, 0, none⟩)] w fun e w' => e = .returned (.bool R.begin.off) ∧ RS w0 w' r O R.begin ∧ Ch O w O w' := by
  obtain ⟨A, N, c, l, h, hl⟩ := h
  refine (rgone_any h).mono ?_
  rintro e w' ⟨rfl, h1, g1⟩
  rw [begin_eq]
  exact ⟨rfl, ⟨A, N, c, l, h1, hl⟩, Ch.of_gr g1 fun k e => by cases e; exact h.me⟩
theorem rat_rs (h : RS w0 w r O R) (n : List UInt8) : Calls Tryz.prog 88 #[.pointer (some ⟨r, 0, none⟩), .string ⟨n.toArray⟩] w fun e w' => (∃ z : Int, e = .returned (.int .i64 z) ∧ ((0 ≤ z ∧ (R.find n).isSome = true) ∨ (z = -1 ∧ R.find n = none))) ∧ w.grownBy w' none := by
  obtain ⟨A, N, c, l, h, hl⟩ := h
  refine (rat_any h n).mono ?_
  rintro e w' ⟨⟨z, rfl, hz⟩, g⟩
  refine ⟨⟨z, rfl, ?_⟩, g⟩
  rcases ixm_find hl hz with ⟨i, rfl, hi, -, hf⟩ | ⟨rfl, hf⟩
  · exact .inl ⟨by omega, by unfold RD.find; rw [hf]; rfl⟩
  · exact .inr ⟨rfl, hf⟩
theorem rcreate_any (h : RS w0 w r O R) (n : List UInt8) (hn : n.length ≤ 1000000000) (hfl : R.L.length ≤ 900000) : Calls Tryz.prog 79 #[.pointer (some ⟨r, 0, none⟩), .string ⟨n.toArray⟩] w fun e w' => e = .returned (.int .i64 (R.create n).2) ∧ RSn w0 r O (R.create n).1 w w' := by
  have HG := Lib.hid (rgone_rs h)
  have HNM := Lib.hid (fun wx => rname_any n wx hn)
  have HFL := Lib.hid hfl
  obtain ⟨R1, hR1⟩ : ∃ R1, R1 = R.begin := ⟨_, rfl⟩
  have hC : R.create n = if R1.off then (R1, 6) else if rightB n = false then (R1, 1) else if (R.find n).isSome then (R1, 4) else ({ R1 with L := putR R.L ⟨n, [], [], []⟩ }, 0) := by rw [hR1]; rfl
  have hL1 : R1.L = R.L := by rw [hR1, beginL]
  have hF1 : R1.find n = R.find n := by unfold RD.find; rw [hL1]
  rw [← hR1] at HG
  have HC := Lib.hid hC
  have HL1 := Lib.hid hL1
  have HF1 := Lib.hid hF1
  clear h hR1 hC hL1 hF1 hfl hn
  go_enter Tryz.func79, Tryz.ntmps79
  go_wp2_with fail
  refine HG.out.mono ?_
  rintro e w1 ⟨rfl, h1, ch1⟩
  have H1 := Lib.hid h1
  have CH1 := Lib.hid ch1
  clear h1 ch1 HG
  cases hd : R1.off with
  | true =>
    have HR : Hid (R.create n = (R1, 6)) := by show _ = _; rw [HC.out, if_pos hd]
    clear hd
    go_wp2_with fail
    go_ret
    exact ⟨by rw [HR.out]; rfl, by rw [HR.out]; exact ⟨O, H1.out, CH1.out⟩⟩
  | false =>
    go_wp2_with fail
    refine (HNM.out w1).mono ?_
    rintro e w2 ⟨rfl, rfl⟩
    cases hr : rightB n with
    | false =>
      have HR : Hid (R.create n = (R1, 1)) := by show _ = _; rw [HC.out, if_neg (by rw [hd]; simp), if_pos hr]
      clear hd
      go_wp2_with fail
      go_ret
      exact ⟨by rw [HR.out]; rfl, by rw [HR.out]; exact ⟨O, H1.out, CH1.out⟩⟩
    | true =>
      go_wp2_with fail
      refine (rat_rs H1.out n).mono ?_
      rintro e w2 ⟨⟨z, rfl, hz⟩, g2⟩
      rcases hz with ⟨hz, hf⟩ | ⟨rfl, hf⟩
      · have HR : Hid (R.create n = (R1, 4)) := by
          show _ = _
          rw [HC.out, if_neg (by rw [hd]; simp), if_neg (by rw [hr]; simp), if_pos (by rw [← HF1.out]; exact hf)]
        have HX : Hid (RS w0 w2 r O R1 ∧ Ch O w O w2) := ⟨H1.out.ext g2, CH1.out.trans (Ch.ext g2)⟩
        clear hd g2 hf
        go_wp2_with fail
        go_ret
        exact ⟨by rw [HR.out]; rfl, by rw [HR.out]; exact ⟨O, HX.out.1, HX.out.2⟩⟩
      · have HR : Hid (R.create n = ({ R1 with L := putR R.L ⟨n, [], [], []⟩ }, 0)) := by
          show _ = _
          rw [HC.out, if_neg (by rw [hd]; simp), if_neg (by rw [hr]; simp), if_neg (by rw [← HF1.out, hf]; simp)]
        have hlen := (right_len hr).2
        have h2 := H1.out.ext g2
        have CH2 : Hid (Ch O w O w2) := CH1.out.trans (Ch.ext g2)
        obtain ⟨A, N, c, l, hv, hl⟩ := h2
        have hNl : N ≤ 900000 := by
          have e1 := hv.len
          have e2 := congrArg List.length hl
          rw [List.length_map, HL1.out] at e2
          have := HFL.out
          omega
        have hput := rput_any hv (by omega) n hlen
        rw [hl, HL1.out] at hput
        have HPT := Lib.hid hput
        clear hd g2 hf hlen hv hl hNl hput
        go_wp2_with fail
        refine HPT.out.mono ?_
        rintro e w3 ⟨rfl, O3, h3, ch3⟩
        have H3 := Lib.hid h3
        have CH3 := Lib.hid (CH2.out.trans ch3)
        clear h3 ch3 HPT
        go_wp2_with fail
        go_ret
        exact ⟨by rw [HR.out]; rfl, by rw [HR.out]; exact ⟨O3, H3.out, CH3.out⟩⟩
theorem erase_l {l : List Rm} {n : List UInt8} {i : Nat} (hd : (l.map Rm.n).Nodup) (hi : i < l.length) (hn : l[i].n = n) : (l.take i ++ l.drop (i + 1)).map Rm.rf = (l.map Rm.rf).filter fun f => !(f.n == n) := by
  subst hn
  induction l generalizing i with
  | nil => simp at hi
  | cons a t ih =>
    rw [List.map_cons, List.nodup_cons] at hd
    cases i with
    | zero =>
      rw [List.map_cons, List.filter_cons, if_neg (by simp [Rm.rf])]
      simp only [List.take_zero, List.nil_append, List.drop_succ_cons, List.drop_zero, List.getElem_cons_zero]
      symm
      rw [List.filter_eq_self]
      intro y hy
      obtain ⟨x, hx, rfl⟩ := List.mem_map.1 hy
      have hne : x.n ≠ a.n := fun e => hd.1 (e ▸ List.mem_map.2 ⟨x, hx, rfl⟩)
      simpa [Rm.rf] using hne
    | succ i =>
      have hi2 : i < t.length := by simpa using hi
      have hne : a.n ≠ t[i].n := fun e => hd.1 (e ▸ List.mem_map.2 ⟨t[i], List.getElem_mem hi2, rfl⟩)
      rw [List.map_cons, List.filter_cons, if_pos (by simpa [Rm.rf] using hne), List.take_succ_cons, List.drop_succ_cons, List.cons_append, List.map_cons]
      congr 1
      exact ih hd.2 hi2
theorem rremove_any (h : RS w0 w r O R) (hnd : (R.L.map Rf.n).Nodup) (n : List UInt8) (hn : n.length ≤ 1000000000) : Calls Tryz.prog 100 #[.pointer (some ⟨r, 0, none⟩), .string ⟨n.toArray⟩] w fun e w' => e = .returned (.int .i64 (R.remove n).2) ∧ RSn w0 r O (R.remove n).1 w w' := by
  have HG := Lib.hid (rgone_rs h)
  have HNM := Lib.hid (fun wx => rname_any n wx hn)
  obtain ⟨R1, hR1⟩ : ∃ R1, R1 = R.begin := ⟨_, rfl⟩
  have hC : R.remove n = if R1.off then (R1, 6) else if rightB n = false then (R1, 1) else match R.find n with | none => (R1, 3) | some _ => ({ R1 with L := R.L.filter fun f => !(f.n == n) }, 0) := by rw [hR1]; rfl
  have hL1 : R1.L = R.L := by rw [hR1, beginL]
  have hF1 : R1.find n = R.find n := by unfold RD.find; rw [hL1]
  rw [← hR1] at HG
  have HC := Lib.hid hC
  have HL1 := Lib.hid hL1
  have HF1 := Lib.hid hF1
  have HND := Lib.hid hnd
  clear h hR1 hC hL1 hF1 hn hnd
  go_enter Tryz.func100, Tryz.ntmps100
  go_wp2_with fail
  refine HG.out.mono ?_
  rintro e w1 ⟨rfl, h1, ch1⟩
  have H1 := Lib.hid h1
  have CH1 := Lib.hid ch1
  clear h1 ch1 HG
  cases hd : R1.off with
  | true =>
    have HR : Hid (R.remove n = (R1, 6)) := by show _ = _; rw [HC.out, if_pos hd]
    clear hd
    go_wp2_with fail
    go_ret
    exact ⟨by rw [HR.out]; rfl, by rw [HR.out]; exact ⟨O, H1.out, CH1.out⟩⟩
  | false =>
    go_wp2_with fail
    refine (HNM.out w1).mono ?_
    rintro e w2 ⟨rfl, rfl⟩
    cases hr : rightB n with
    | false =>
      have HR : Hid (R.remove n = (R1, 1)) := by show _ = _; rw [HC.out, if_neg (by rw [hd]; simp), if_pos hr]
      clear hd
      go_wp2_with fail
      go_ret
      exact ⟨by rw [HR.out]; rfl, by rw [HR.out]; exact ⟨O, H1.out, CH1.out⟩⟩
    | true =>
      obtain ⟨A, N, c, l, hv, hl⟩ := H1.out
      have HV := Lib.hid hv
      have HLL := Lib.hid hl
      clear hv hl
      go_wp2_with fail
      refine (rat_any HV.out n).mono ?_
      rintro e w2 ⟨⟨z, rfl, hz⟩, g2⟩
      have CH2 : Hid (Ch O w O w2) := CH1.out.trans (Ch.ext g2)
      rcases ixm_find HLL.out hz with ⟨i, rfl, hi, hni, hf⟩ | ⟨rfl, hf⟩
      · have HR : Hid (R.remove n = ({ R1 with L := R.L.filter fun f => !(f.n == n) }, 0)) := by
          show _ = _
          have hf2 : R1.find n = some l[i].rf := hf
          rw [HC.out, if_neg (by rw [hd]; simp), if_neg (by rw [hr]; simp), ← HF1.out, hf2]
        have hnd2 : (l.map Rm.n).Nodup := by
          have := HND.out
          rw [← HL1.out, ← HLL.out, List.map_map] at this
          exact this
        have he := erase_l hnd2 hi hni
        rw [HLL.out, HL1.out] at he
        have HTK := Lib.hid (rtake_any (HV.out.ext g2) (k := i) (by rw [← HV.out.len]; exact hi) he)
        have hi0 : ¬ (i : Int) < 0 := by omega
        clear hd g2 hf hz hni hnd2 he hi
        go_wp2_with fail
        refine HTK.out.mono ?_
        rintro e w3 ⟨⟨v, rfl⟩, O3, h3, ch3⟩
        have H3 := Lib.hid h3
        have CH3 := Lib.hid (CH2.out.trans ch3)
        clear h3 ch3 HTK
        go_wp2_with fail
        go_ret
        exact ⟨by rw [HR.out]; rfl, by rw [HR.out]; exact ⟨O3, H3.out, CH3.out⟩⟩
      · have HR : Hid (R.remove n = (R1, 3)) := by
          show _ = _
          have hf2 : R1.find n = none := hf
          rw [HC.out, if_neg (by rw [hd]; simp), if_neg (by rw [hr]; simp), ← HF1.out, hf2]
        have HX : Hid (RS w0 w2 r O R1) := ⟨A, N, c, l, HV.out.ext g2, HLL.out⟩
        clear hd g2 hf hz
        go_wp2_with fail
        go_ret
        exact ⟨by rw [HR.out]; rfl, by rw [HR.out]; exact ⟨O, HX.out, CH2.out⟩⟩
end
end Go.Proofs.YtipankjajdpiiaaGreat

/- The document's disk: Sync. -/
namespace Go.Proofs.YtipankjajdpiiaaGreat
open Go.RowKit Go.Maps
set_option maxRecDepth 100000
set_option maxHeartbeats 400000

theorem step_appB1 {ops : Array Oper} {q : Oper} {a : Act} {w : World} {K : Act → World → Prop} {Q : Exit → Act → World → Prop} {E : Prop} (hg : q.guard = none) (s0 x0 : Operand) (ho : q.op = .call { callee := .builtin .append, args := #[s0, x0], argTypes := #[40, 40] })
    {B : Nat} {v x : Value} {l m : List UInt8} (hs : a.eval s0 = v) (hown : OwnB w B v l) (hx : a.eval x0 = x) (hr : RdB w x m) (hn : l.length + m.length ≤ 1000000000) (hB : B ≤ w.heap.size)
    (hK : ∀ v' w', OwnB w' B v' (l ++ m) → w.grownBy w' v.ownBlock → K (a.put q.dst v') w') : if Region.wanted q (yielded ops a.tmps) = true then Oper.wp Tryz.prog q a w K Q else E := by
  have hw : Region.wanted q (yielded ops a.tmps) = true := by simp [Region.wanted, hg]
  rw [if_pos hw]
  obtain ⟨v', w', hrun, h2, h3, h4⟩ := run_app (P := Tryz.prog) w B 40 q.type 5 _ 1 1 Tryz.underlying40 Tryz.info5 rfl (by omega) v _ _ hown x _ _ hr (u8_one m) (by unfold maxLen; omega) (by omega) hB
  unfold Oper.wp execOp
  simp only [ho, resolve, invoke, builtin, Sem.run_bind, Sem.run_pure, Result.andThen_ok, List.map_toArray, List.map_cons, List.map_nil, hs, hx, hrun]
  exact hK _ _ (own_app h2) h3
theorem own_atB0 (w : World) (B : Nat) (hB : B ≤ w.heap.size) : OwnB (w.alloc (.cells #[] 5)).drew B (.slice (some ⟨w.heap.size, 0, none⟩) 0 0) [] := OwnB.drew (own_empty w B hB)
theorem keep_store {w : World} {r gl o j m : Nat} {u v : Value} (h0 : w.cell? ⟨r, 0, none⟩ = some u) (h1 : w.cell? ⟨gl, o + m, none⟩ = some v) (hr : gl ≠ r) (hj : j ≠ m) (x : Value) : (w.setCell ⟨gl, o + j, none⟩ x).cell? ⟨r, 0, none⟩ = some u ∧ (w.setCell ⟨gl, o + j, none⟩ x).cell? ⟨gl, o + m, none⟩ = some v := by
  refine ⟨?_, ?_⟩
  · rw [World.cell?_setCell_other _ _ _ _ fun e => hr (congrArg Addr.block e)]; exact h0
  · rw [World.cell?_setCell_other _ _ _ _ fun e => by have h9 : o + j = o + m := congrArg Addr.off e; omega]; exact h1
theorem chG {O : Own1} {wb w3 w' : World} (h : Ch O wb O w') : Ch O wb (growO O wb w3) w' := ⟨h.os, h.tape, h.output, h.size, h.block, fun i hi h0 => by
  unfold growO
  rw [if_pos h0, if_neg (by omega)]⟩
theorem setR_map {l : List Rm} {n : List UInt8} {i : Nat} {x : Rm} {g : Rf → Rf} (hd : (l.map Rm.n).Nodup) (hi : i < l.length) (hn : l[i].n = n) (hx : x.rf = g l[i].rf) : (l.set i x).map Rm.rf = setR (l.map Rm.rf) n g := by
  subst hn
  unfold setR
  rw [List.map_map]
  induction l generalizing i with
  | nil => simp at hi
  | cons a t ih =>
    rw [List.map_cons, List.nodup_cons] at hd
    cases i with
    | zero =>
      rw [List.set_cons_zero, List.map_cons, List.map_cons]
      have hx' : x.rf = g a.rf := hx
      have e1 : ((fun f : Rf => if f.n = (a :: t)[0].n then g f else f) ∘ Rm.rf) a = x.rf := by
        show (if a.rf.n = a.n then g a.rf else a.rf) = _
        rw [if_pos (show a.rf.n = a.n from rfl), hx']
      rw [e1]
      congr 1
      refine List.map_congr_left fun y hy => ?_
      have hne : y.n ≠ a.n := fun e => hd.1 (e ▸ List.mem_map.2 ⟨y, hy, rfl⟩)
      show y.rf = if y.rf.n = a.n then g y.rf else y.rf
      exact (if_neg hne).symm
    | succ i =>
      have hi2 : i < t.length := by simpa using hi
      have hne : a.n ≠ t[i].n := fun e => hd.1 (e ▸ List.mem_map.2 ⟨t[i], List.getElem_mem hi2, rfl⟩)
      rw [List.set_cons_succ, List.map_cons, List.map_cons]
      have e1 : ((fun f : Rf => if f.n = (a :: t)[i + 1].n then g f else f) ∘ Rm.rf) a = a.rf := by
        show (if a.rf.n = t[i].n then g a.rf else a.rf) = _
        exact if_neg hne
      rw [e1]
      congr 1
      exact ih hd.2 hi2 hx
def OffB (O : Own1) (r : Nat) (v u : Value) : Prop := ∀ q, blk u = some q → O q ≠ none ∧ q ≠ r ∧ blk v ≠ some q
section
variable {w : World} {O : Own1} {r : Nat} {v : Value} {x : Rm}
theorem RmOk.offN (h : RmOk w O r v x) : OffB O r v x.nv := fun q e => h.off q (.inl e)
theorem RmOk.offL (h : RmOk w O r v x) : OffB O r v x.lv := fun q e => h.off q (.inr (.inl e))
theorem RmOk.offS (h : RmOk w O r v x) : OffB O r v x.sv := fun q e => h.off q (.inr (.inr e))
theorem OffB.nil : OffB O r v (.slice none 0 0) := fun q e => by cases e
theorem RmOk.mk3 (h1 : RdB w x.nv x.now) (h2 : RdB w x.lv x.lasts) (h3 : Rd w 1 x.sv x.loose.length (blL x.loose)) (o1 : OffB O r v x.nv) (o2 : OffB O r v x.lv) (o3 : OffB O r v x.sv) (hs : x.n.length ≤ 24 ∧ x.now.length ≤ 16777216 ∧ x.lasts.length ≤ 16777216 ∧ x.loose.length ≤ 262144) : RmOk w O r v x :=
  ⟨h1, h2, h3, fun q e => by
    rcases e with e | e | e
    · exact o1 q e
    · exact o2 q e
    · exact o3 q e, hs⟩
/-- what was made since lies apart. -/
theorem offB_new {w0 wb w3 : World} {N c q a n : Nat} {A : Option Addr} {l : List Rm} {off : Bool} {u : Value} {s : Nat} {xs : List Value} (h : RV w0 wb r O A N c l q a off) (ho : Own w3 wb.heap.size s u n xs) (hs : 0 < s) : OffB (growO O wb w3) r (.slice A N c) u := fun b e => by
  have hb := Own.blk_lt ho hs e
  refine ⟨growO_new hb, fun e2 => ?_, fun e2 => ?_⟩
  · subst e2; have := (h.inb b h.me).2; omega
  · have := (h.inb b (h.lo b e2).1).2; omega
end
section
variable {w0 w w' wb : World} {r N c q a k : Nat} {O : Own1} {A : Option Addr} {l : List Rm} {off : Bool} {R : RD}
theorem rsync_any (h : RS w0 w r O R) (hnd : (R.L.map Rf.n).Nodup) (n : List UInt8) (hn : n.length ≤ 1000000000) : Calls Tryz.prog 83 #[.pointer (some ⟨r, 0, none⟩), .string ⟨n.toArray⟩] w fun e w' => e = .returned (.int .i64 (R.sync n).2) ∧ RSn w0 r O (R.sync n).1 w w' := by
  have HG := Lib.hid (rgone_rs h)
  have HNM := Lib.hid (fun wx => rname_any n wx hn)
  obtain ⟨R1, hR1⟩ : ∃ R1, R1 = R.begin := ⟨_, rfl⟩
  have hC : R.sync n = if R1.off then (R1, 6) else if rightB n = false then (R1, 1) else match R.find n with | none => (R1, 3) | some _ => (R1.synced n, 0) := by rw [hR1]; rfl
  have hL1 : R1.L = R.L := by rw [hR1, beginL]
  have hF1 : R1.find n = R.find n := by unfold RD.find; rw [hL1]
  rw [← hR1] at HG
  have HC := Lib.hid hC
  have HL1 := Lib.hid hL1
  have HF1 := Lib.hid hF1
  have HND := Lib.hid hnd
  clear h hR1 hC hL1 hF1 hn hnd
  go_enter Tryz.func83, Tryz.ntmps83
  go_wp2_with fail
  refine HG.out.mono ?_
  rintro e w1 ⟨rfl, h1, ch1⟩
  have H1 := Lib.hid h1
  have CH1 := Lib.hid ch1
  clear h1 ch1 HG
  cases hd : R1.off with
  | true =>
    have HR : Hid (R.sync n = (R1, 6)) := by show _ = _; rw [HC.out, if_pos hd]
    clear hd
    go_wp2_with fail
    go_ret
    exact ⟨by rw [HR.out]; rfl, by rw [HR.out]; exact ⟨O, H1.out, CH1.out⟩⟩
  | false =>
    go_wp2_with fail
    refine (HNM.out w1).mono ?_
    rintro e w2 ⟨rfl, rfl⟩
    cases hr : rightB n with
    | false =>
      have HR : Hid (R.sync n = (R1, 1)) := by show _ = _; rw [HC.out, if_neg (by rw [hd]; simp), if_pos hr]
      clear hd
      go_wp2_with fail
      go_ret
      exact ⟨by rw [HR.out]; rfl, by rw [HR.out]; exact ⟨O, H1.out, CH1.out⟩⟩
    | true =>
      obtain ⟨A, N, c, l, hv, hl⟩ := H1.out
      have HV := Lib.hid hv
      have HLL := Lib.hid hl
      clear hv hl
      go_wp2_with fail
      refine (rat_any HV.out n).mono ?_
      rintro e w2 ⟨⟨z, rfl, hz⟩, g2⟩
      have CH2 : Hid (Ch O w O w2) := CH1.out.trans (Ch.ext g2)
      rcases ixm_find HLL.out hz with ⟨i, rfl, hi, hni, hf⟩ | ⟨rfl, hf⟩
      · have HR : Hid (R.sync n = (R1.synced n, 0)) := by
          show _ = _
          have hf2 : R1.find n = some l[i].rf := hf
          rw [HC.out, if_neg (by rw [hd]; simp), if_neg (by rw [hr]; simp), ← HF1.out, hf2]
        have h2 := HV.out.ext g2
        have hiN : i < N := by rw [← HV.out.len]; exact hi
        obtain ⟨gl, offl, rfl, hNc, hgr, hgO, hat, hfz, hput⟩ := h2.at_ hiN
        have c1 := (hat hi).2.1
        have hok := h2.ok l[i] (List.getElem_mem hi)
        obtain ⟨MM, hMM⟩ : ∃ MM, MM = l[i].now := ⟨_, rfl⟩
        have hnow : RdB w2 l[i].nv MM := by rw [hMM]; exact hok.now
        obtain ⟨A1, d1, ev⟩ := RdB.form hnow
        have hrd := hnow
        rw [ev] at c1 hrd
        obtain ⟨M, hM⟩ : ∃ M, M = MM.length := ⟨_, rfl⟩
        have hMs : M ≤ 16777216 := by rw [hM, hMM]; exact hok.small.2.1
        rw [← hM] at c1
        have s0 : w2.cell? ⟨r, 0, none⟩ = some (.slice (some ⟨gl, offl, none⟩) N c) := h2.self.cell 0
        have hi0 : (0 : Int) ≤ (i : Int) := by omega
        have hi1 : (i : Int) < (N : Int) := by omega
        have hi2 : ¬ (i : Int) < 0 := by omega
        have H2 := Lib.hid h2
        have HPUT := Lib.hid (fun wx (g : w2.grownBy wx none) => ((h2.ext g).at_ hiN))
        have HMM := Lib.hid hMM
        have HNI := Lib.hid hni
        have HI : Hid (True ∧ i < l.length) := ⟨trivial, hi⟩
        have HRX : Hid (∀ wx, w2.grownBy wx none → RdB wx (.slice A1 M d1) MM) := fun wx g => by have := hrd.ext g; rw [← hM] at this; exact this
        have HML : Hid (MM.length = M) := hM.symm
        have HCX : Hid (∀ wx, w2.grownBy wx none → wx.cell? ⟨r, 0, none⟩ = some (.slice (some ⟨gl, offl, none⟩) N c) ∧ wx.cell? ⟨gl, offl + i * 4 + 1, none⟩ = some (.slice A1 M d1)) := fun wx g => ⟨g.cell s0 (by simp), g.cell c1 (by simp)⟩
        clear hd g2 hf hz h2 hat hput hok ev hrd hM hni hMM hnow hfz
        go_wp2_with fail
        go_region_held3 (fun w' => w'.cell? ⟨r, 0, none⟩ = some (.slice (some ⟨gl, offl, none⟩) N c) ∧ w'.cell? ⟨gl, offl + i * 4 + 1, none⟩ = some (.slice A1 M d1)) (first | exact k3 | exact k4 _ | go_keep) (first
          | (refine step_appB1 (B := w2.heap.size) (by rfl) (l := []) (m := MM) (.tmp 23) (.tmp 31) (by rfl) (by rfl) (own_atB0 _ _ (Nat.le_refl _)) (by rfl) (HRX.out _ (gr_none (gr_alloc _ _ none) (gr_drew _ none))) (by rw [HML.out]; show 0 + M ≤ _; omega) (by show _ ≤ (w2.alloc _).heap.size; rw [World.size_alloc]; omega) ?_; rintro v3 w3 o3 g3; obtain ⟨A3, c3, ev3⟩ := RdB.form (OwnB.rd o3); rw [List.nil_append, HML.out] at ev3; subst ev3; have g23 : w2.grownBy w3 none := gr_trans (gr_none (gr_alloc _ _ none) (gr_drew _ none)) g3 (.inr fun q e => by cases e; exact Nat.le_refl _); have k3 := HCX.out w3 g23; obtain ⟨gl', offl', e3, -, -, -, hat3, hfz3, -⟩ := HPUT.out w3 g23; cases e3; have k4 := keep_store k3.1 k3.2 (j := 2) (m := 1) hgr (by omega); have z3 := hfz3 2 (by omega); have q3 := (hat3 hi).2.2.1; clear hat3 hfz3; have O3 := Lib.hid o3; have G23 := Lib.hid g23; clear o3 g3 g23))
        have hi := HI.out.2
        have h3g := (H2.out.ext G23.out).grow (wb := w2) H2.out.gr.size
        obtain ⟨gl', offl', e3, -, -, -, -, -, hput⟩ := h3g.at_ hiN
        cases e3
        have hoff := offB_new H2.out O3.out (by omega)
        have hx := h3g.ok l[i] (List.getElem_mem hi)
        have hx1 : RmOk w3 (growO O w2 w3) r (.slice (some ⟨gl, offl, none⟩) N c) { l[i] with lv := .slice A3 M c3, lasts := MM } := RmOk.mk3 hx.now O3.out.rd hx.loose hx.offN hoff hx.offS ⟨hx.small.1, hx.small.2.1, by show MM.length ≤ _; rw [HML.out]; exact hMs, hx.small.2.2.2⟩
        have h4 := hput hi 2 (.slice A3 M c3) { l[i] with lv := .slice A3 M c3, lasts := MM } (by omega) rfl hx1
        have hch := (Ch.ext (o := O) G23.out).trans (Ch.of_gr (gr_setCell w3 ⟨gl, offl + i * 4 + 2, none⟩ (.slice A3 M c3)) fun b e => by cases e; exact hgO)
        obtain ⟨w4, hw4⟩ : ∃ w4, w4 = w3.setCell ⟨gl, offl + i * 4 + 2, none⟩ (.slice A3 M c3) := ⟨_, rfl⟩
        rw [← hw4] at h4 hch ⊢
        have hil : i < (l.set i { l[i] with lv := .slice A3 M c3, lasts := MM }).length := by rw [List.length_set]; exact hi
        obtain ⟨gl', offl', e3, -, -, -, hat4, hfz4, hput4⟩ := h4.at_ hiN
        cases e3
        have y0 : w4.cell? ⟨r, 0, none⟩ = some (.slice (some ⟨gl, offl, none⟩) N c) := h4.self.cell 0
        have y1 := (hat4 hil).2.2.2
        have y2 := hfz4 3 (by omega)
        have hx4 := h4.ok _ (List.getElem_mem hil)
        have h5 := hput4 hil 3 (.slice none 0 0) { l[i] with lv := .slice A3 M c3, lasts := MM, sv := .slice none 0 0, loose := [] } (by omega) (by rw [List.getElem_set_self]; rfl) (by
          rw [List.getElem_set_self] at hx4
          exact RmOk.mk3 hx4.now hx4.lasts (Rd.nil _ _) hx4.offN hx4.offL OffB.nil ⟨hx4.small.1, hx4.small.2.1, hx4.small.2.2.1, by show 0 ≤ _; omega⟩)
        rw [List.set_set] at h5
        have hch5 := hch.trans (Ch.of_gr (gr_setCell w4 ⟨gl, offl + i * 4 + 3, none⟩ (.slice none 0 0)) fun b e => by cases e; exact hgO)
        have hL5 : (l.set i { l[i] with lv := .slice A3 M c3, lasts := MM, sv := .slice none 0 0, loose := [] }).map Rm.rf = (R1.synced n).L := by
          show _ = setR R1.L n _
          rw [← HLL.out]
          refine setR_map (by have := HND.out; rw [← HL1.out, ← HLL.out, List.map_map] at this; exact this) hi HNI.out ?_
          show (⟨l[i].n, l[i].now, MM, []⟩ : Rf) = ⟨l[i].n, l[i].now, l[i].now, []⟩
          rw [HMM.out]
        have H5 := Lib.hid h5
        have CH5 := Lib.hid (CH2.out.trans (chG (w3 := w3) hch5))
        have HL5 := Lib.hid hL5
        clear h3g hput hoff hx hx1 h4 hch hw4 hat4 hfz4 hput4 hx4 h5 hch5 hL5
        go_wp2_with fail
        go_ret
        exact ⟨by rw [HR.out]; rfl, by rw [HR.out]; exact ⟨_, ⟨_, _, _, _, H5.out, HL5.out⟩, CH5.out⟩⟩
      · have HR : Hid (R.sync n = (R1, 3)) := by
          show _ = _
          have hf2 : R1.find n = none := hf
          rw [HC.out, if_neg (by rw [hd]; simp), if_neg (by rw [hr]; simp), ← HF1.out, hf2]
        have HX : Hid (RS w0 w2 r O R1) := ⟨A, N, c, l, HV.out.ext g2, HLL.out⟩
        clear hd g2 hf hz
        go_wp2_with fail
        go_ret
        exact ⟨by rw [HR.out]; rfl, by rw [HR.out]; exact ⟨O, HX.out, CH2.out⟩⟩
end
end Go.Proofs.YtipankjajdpiiaaGreat

/- The document's disk: Cut. -/
namespace Go.Proofs.YtipankjajdpiiaaGreat
open Go.RowKit Go.Maps
set_option maxRecDepth 100000
set_option maxHeartbeats 400000

theorem Tryz.infoBool : (Tryz.prog.info? 4).map (fun i => (i.zero, i.size, i.bytes)) = some (some (.bool false), 1, 1) := by kernel_rfl
theorem bl_one (l : List Bool) : ∀ u ∈ blL l, u.oneCell' = true := by
  intro u hu
  obtain ⟨b, _, rfl⟩ := List.mem_map.1 hu
  rfl
theorem step_appBl {ops : Array Oper} {q : Oper} {a : Act} {w : World} {K : Act → World → Prop} {Q : Exit → Act → World → Prop} {E : Prop} (hg : q.guard = none) (s0 x0 : Operand) (ho : q.op = .call { callee := .builtin .append, args := #[s0, x0], argTypes := #[98, 98] })
    {B : Nat} {v x : Value} {l m : List Bool} (hs : a.eval s0 = v) (hown : Own w B 1 v l.length (blL l)) (hx : a.eval x0 = x) (hr : Rd w 1 x m.length (blL m)) (hn : l.length + m.length ≤ 1000000000) (hB : B ≤ w.heap.size)
    (hK : ∀ v' w', Own w' B 1 v' (l ++ m).length (blL (l ++ m)) → w.grownBy w' v.ownBlock → K (a.put q.dst v') w') : if Region.wanted q (yielded ops a.tmps) = true then Oper.wp Tryz.prog q a w K Q else E := by
  have hw : Region.wanted q (yielded ops a.tmps) = true := by simp [Region.wanted, hg]
  rw [if_pos hw]
  obtain ⟨v', w', hrun, h2, h3, h4⟩ := run_app (P := Tryz.prog) w B 98 q.type 4 _ 1 1 Tryz.underlying98 Tryz.infoBool rfl (by omega) v _ _ hown x _ _ hr (bl_one m) (by unfold maxLen; omega) (by omega) hB
  unfold Oper.wp execOp
  simp only [ho, resolve, invoke, builtin, Sem.run_bind, Sem.run_pure, Result.andThen_ok, List.map_toArray, List.map_cons, List.map_nil, hs, hx, hrun]
  exact hK _ _ (by unfold blL; rw [List.length_append, List.map_append]; exact h2) h3
theorem own_Bl0 (w : World) (B : Nat) (hB : B ≤ w.heap.size) : Own (w.alloc (.cells #[] 4)) B 1 (.slice (some ⟨w.heap.size, 0, none⟩) 0 0) ([] : List Bool).length (blL []) :=
  own_lit w B 1 0 0 #[] _ (0, 0) (.inl (by simp)) rfl (Nat.le_refl _) (Nat.zero_le _) hB
theorem own_atBl0 (w : World) (B : Nat) (hB : B ≤ w.heap.size) : Own (w.alloc (.cells #[] 4)).drew B 1 (.slice (some ⟨w.heap.size, 0, none⟩) 0 0) ([] : List Bool).length (blL []) :=
  (own_lit w B 1 0 0 #[] _ (0, 0) (.inl (by simp)) rfl (Nat.le_refl _) (Nat.zero_le _) hB : Own (w.alloc (.cells #[] 4)) B 1 (.slice (some ⟨w.heap.size, 0, none⟩) 0 0) 0 [])
theorem rd_takeBl {w : World} {A : Option Addr} {n c : Nat} {l : List Bool} (h : Rd w 1 (.slice A n c) n (blL l)) {k : Nat} (hk : k ≤ n) : Rd w 1 (.slice A k c) (l.take k).length (blL (l.take k)) := by
  have hl : (blL l).length = n * 1 := h.1
  have hl2 : l.length = n := by unfold blL at hl; rw [List.length_map] at hl; omega
  have := h.cut (i := 0) (j := k) (by omega) hk
  rw [Nat.zero_mul, List.drop_zero, Nat.sub_zero, Nat.sub_zero, Nat.mul_one] at this
  have e : cutA A c 0 1 = A := by unfold cutA; cases A <;> simp [Addr.add]
  rw [e] at this
  unfold blL at this ⊢
  rw [List.map_take, show (l.take k).length = k from by rw [List.length_take]; omega]
  exact this
theorem keep_box {w : World} {r gl o b m : Nat} {u v : Value} (h0 : w.cell? ⟨r, 0, none⟩ = some u) (h1 : w.cell? ⟨b, m, none⟩ = some v) (hr : gl ≠ r) (hb : gl ≠ b) (x : Value) : (w.setCell ⟨gl, o, none⟩ x).cell? ⟨r, 0, none⟩ = some u ∧ (w.setCell ⟨gl, o, none⟩ x).cell? ⟨b, m, none⟩ = some v := by
  refine ⟨?_, ?_⟩
  · rw [World.cell?_setCell_other _ _ _ _ fun e => hr (congrArg Addr.block e)]; exact h0
  · rw [World.cell?_setCell_other _ _ _ _ fun e => hb (congrArg Addr.block e)]; exact h1
section
variable {w0 w w' wb wx wy : World} {r N c q a i : Nat} {O O1 : Own1} {A : Option Addr} {l : List Rm} {off : Bool} {R : RD}
theorem growO_free (hf : ∀ i, i < wb.heap.size → O i = none → O1 i = none) (hs : wb.heap.size ≤ wx.heap.size) : ∀ i, i < wb.heap.size → O i = none → growO O1 wx wy i = none := fun i hi h0 => by
  unfold growO
  rw [if_pos (hf i hi h0), if_neg (by omega)]
/-- a file's field is another slice, in new memory. -/
theorem RV.field {gl offl : Nat} (h : RV w0 wx r O1 (some ⟨gl, offl, none⟩) N c l q a off) (hiN : i < N) (hi : i < l.length) (g : wx.grownBy wy none) {j : Nat} {u : Value} {x' : Rm} (hj : j < 4) (he : x'.enc = l[i].enc.set j u) (hok : RmOk wy (growO O1 wx wy) r (.slice (some ⟨gl, offl, none⟩) N c) x') :
    RV w0 (wy.setCell ⟨gl, offl + i * 4 + j, none⟩ u) r (growO O1 wx wy) (some ⟨gl, offl, none⟩) N c (l.set i x') q a off := by
  obtain ⟨gl', offl', e3, -, -, -, -, -, hput⟩ := ((h.ext g).grow (wb := wx) h.gr.size).at_ hiN
  cases e3
  exact hput hi j u x' hj he hok
theorem RV.cellsA {gl offl : Nat} (h : RV w0 w r O1 (some ⟨gl, offl, none⟩) N c l q a off) (hiN : i < N) (hi : i < l.length) : w.cell? ⟨gl, offl + i * 4, none⟩ = some (.string ⟨l[i].n.toArray⟩) ∧ w.cell? ⟨gl, offl + i * 4 + 1, none⟩ = some l[i].nv ∧ w.cell? ⟨gl, offl + i * 4 + 2, none⟩ = some l[i].lv ∧ w.cell? ⟨gl, offl + i * 4 + 3, none⟩ = some l[i].sv ∧ (∀ j, j < 4 → w.frozen? ⟨gl, offl + i * 4 + j, none⟩ = false) ∧ gl ≠ r ∧ O1 gl ≠ none ∧ N ≤ c := by
  obtain ⟨gl', offl', e3, hc, hr, ho, hat, hfz, -⟩ := h.at_ hiN
  cases e3
  exact ⟨(hat hi).1, (hat hi).2.1, (hat hi).2.2.1, (hat hi).2.2.2, hfz, hr, ho, hc⟩
end
end Go.Proofs.YtipankjajdpiiaaGreat

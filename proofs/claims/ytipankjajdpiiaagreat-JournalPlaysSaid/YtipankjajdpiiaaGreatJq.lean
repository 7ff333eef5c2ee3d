/-
  meant of law09, kind by kind, and all of it.
-/
import Derived.Test.YtipankjajdpiiaaGreatJo
namespace Go.Proofs.YtipankjajdpiiaaGreat
open Go.RowKit Go.Maps
set_option maxRecDepth 100000
set_option maxHeartbeats 400000

/-- what came in is read, whatever is done to blocks of the call's own. -/
theorem rd_chg {w0 w w1 : World} {o o1 : Own1} {s n : Nat} {v : Value} {xs : List Value} (hr : Rd w0 s v n xs) (g : w0.grownBy w none) (ho : ∀ i, o i ≠ none → w0.heap.size ≤ i) (hc : Ch o w o1 w1) : Rd w1 s v n xs := by
  obtain ⟨hl, A, c, gb, off, rfl, hn, hc', hA0, hA, hx⟩ := hr
  refine ⟨hl, A, c, gb, off, rfl, hn, hc', hA0, hA, fun j hj => ?_⟩
  have h0 := hx j hj
  have hsome : ∃ u, w0.cell? ⟨gb, off + j, none⟩ = some u := by
    rw [h0, List.getElem?_eq_getElem (by rw [hl]; exact hj)]
    exact ⟨_, rfl⟩
  obtain ⟨u, hu⟩ := hsome
  have hlt : gb < w0.heap.size := World.block_lt_of_cell? w0 _ hu
  have e1 : w.heap[gb]? = w0.heap[gb]? := g.block gb hlt (by simp)
  have hno : o gb = none := by
    cases e : o gb with
    | none => rfl
    | some t => have := ho gb (by rw [e]; simp); omega
  have e2 : w1.heap[gb]? = w.heap[gb]? := hc.block gb (Nat.lt_of_lt_of_le hlt g.size) hno
  rw [← h0]
  exact cell_of_same (e2.trans e1)
section
variable {w0 w w' W : World} {d r B : Nat} {jv : Value} {S R : RD} {j : Option (List Rc)} {l : List Rc} {O O' o o' : Own1} {X : RD × Option (List Rc) × Nat}
theorem RS.own0 (h : RS w0 w r O R) : ∀ i, O i ≠ none → w0.heap.size ≤ i := fun i hi => by obtain ⟨A, N, c, l, h, -⟩ := h; exact (h.inb i hi).1
theorem RJ.disk2 (h : RJ w0 r jv R j O w) : ∃ o, RS w0 w r o R ∧ ∀ i, O i = none → o i = none := by
  rcases h with ⟨-, -, h⟩ | ⟨l, b, o, v, -, -, rfl, h, hj⟩
  · exact ⟨O, h, fun _ h => h⟩
  · exact ⟨o, h, fun i hi => (jo_none hi).2.2⟩
theorem RJ.opened (h : RS w0 w r o R) (hO : ∀ i, O i = none → o i = none) (g : w.grownBy W none) {e : Ending} (k : RJOpenOut w0 o W r X e w') :
    (e = .returned (.tuple #[.pointer none, .int .i64 X.2.2]) ∧ ∃ O', RJ w0 r (.pointer none) X.1 X.2.1 O' w' ∧ Ch O w O' w') ∨ ∃ b, e = .returned (.tuple #[.pointer (some ⟨b, 0, none⟩), .int .i64 X.2.2]) ∧ ∃ O', RJ w0 r (.pointer (some ⟨b, 0, none⟩)) X.1 X.2.1 O' w' ∧ Ch O w O' w' := by
  obtain ⟨o', h1, h2, h3⟩ := k
  have hch : Ch o w o' w' := (Ch.ext g).trans h2
  rcases h3 with ⟨e1, e2⟩ | ⟨l, b, v, e1, e2, e3, hj⟩
  · exact .inl ⟨e2, o', .inl ⟨e1, rfl, h1⟩, hch.wide hO⟩
  · refine .inr ⟨b, by rw [e3, e2]; rfl, jo o' b v, .inr ⟨l, b, o', v, e1, rfl, rfl, h1, hj.low (Nat.le_trans h.gr.size g.size)⟩, (jo_of hch ?_ fun k e => ?_).wide hO⟩
    · exact Nat.le_trans g.size hj.jB
    · exact Nat.le_trans g.size (Own.blk_lt hj.own (by omega) e).1
theorem RJ.added {b : Nat} {v : Value} (g : w.grownBy W none) {Y : RD × List Rc × Nat} {e : Ending} (k : RJAddOut w0 o W w0.heap.size r b v Y e w') :
    e = .returned (.int .i64 Y.2.2) ∧ ∃ O', RJ w0 r (.pointer (some ⟨b, 0, none⟩)) Y.1 (some Y.2.1) O' w' ∧ Ch (jo o b v) w O' w' := by
  obtain ⟨v', o', rfl, k1, k2, k3⟩ := k
  exact ⟨rfl, jo o' b v', .inr ⟨_, b, o', v', rfl, rfl, rfl, k1, k2⟩, (Ch.ext g).trans k3⟩
set_option maxHeartbeats 2000000 in
theorem jmeant_0 (h : RJ w0 r jv R j O w) (hup : Up R) (hfl : R.L.length ≤ 900000) (rc : Rc) (n : Int) (hn : -9223372036854775808 ≤ n ∧ n ≤ 9223372036854775807) (Ak : Option Addr) (nk ck : Nat) (Ab : Option Addr) (nb cb : Nat) (m : UInt8) :
    Calls Tryz.prog 10 #[.pointer (some ⟨r, 0, none⟩), jv, .agg (opC 0 rc n (.slice Ak nk ck) (.slice Ab nb cb) m)] w (RDone w0 r O w R.jopen) := by
  obtain ⟨o, hda, hO⟩ := h.disk2
  obtain ⟨W, hW⟩ : ∃ W, W = w.alloc (.cells (opC 0 rc n (.slice Ak nk ck) (.slice Ab nb cb) m) 42) := ⟨_, rfl⟩
  have hg : w.grownBy W none := by rw [hW]; exact gr_alloc _ _ none
  have hb : Blk W w.heap.size 42 (opC 0 rc n (.slice Ak nk ck) (.slice Ab nb cb) m) := by rw [hW]; exact Blk.new w _ _
  have hbc := hb.cell
  rw [hW] at hbc
  have HW : Hid (w.alloc (.cells (opC 0 rc n (.slice Ak nk ck) (.slice Ab nb cb) m) 42) = W) := hW.symm
  have HG := Lib.hid hg
  have HO := Lib.hid (rjopen_gen (hda.ext hg) hup hfl)
  have HDA := Lib.hid hda
  have HOO := Lib.hid hO
  clear h hda hO hb hW hg hn
  unfold opC at hbc HW ⊢
  go_enter Tryz.func10, Tryz.ntmps10
  go_wp2_with fail
  rw [HW.out]
  refine HO.out.mono ?_
  intro e w' hh
  rcases RJ.opened HDA.out HOO.out HG.out hh with ⟨rfl, O', k1, k2⟩ | ⟨b, rfl, O', k1, k2⟩
  all_goals
    have K1 := Lib.hid k1
    have K2 := Lib.hid k2
    clear hh k1 k2
    go_wp2_with fail
    go_ret2
    exact ⟨_, O', rfl, K1.out, K2.out⟩
set_option maxHeartbeats 2000000 in
theorem jmeant_1 (h : RJ w0 r jv R j O w) (hup : Up R)  (rc : Rc) (n : Int) (hn : -9223372036854775808 ≤ n ∧ n ≤ 9223372036854775807) (Ak : Option Addr) (nk ck : Nat) (Ab : Option Addr) (nb cb : Nat) (m : UInt8) :
    Calls Tryz.prog 10 #[.pointer (some ⟨r, 0, none⟩), jv, .agg (opC 1 rc n (.slice Ak nk ck) (.slice Ab nb cb) m)] w (RDone w0 r O w (R.jaddO j rc)) := by
  obtain ⟨W, hW⟩ : ∃ W, W = w.alloc (.cells (opC 1 rc n (.slice Ak nk ck) (.slice Ab nb cb) m) 42) := ⟨_, rfl⟩
  have hg : w.grownBy W none := by rw [hW]; exact gr_alloc _ _ none
  have hb : Blk W w.heap.size 42 (opC 1 rc n (.slice Ak nk ck) (.slice Ab nb cb) m) := by rw [hW]; exact Blk.new w _ _
  have hbc := hb.cell
  rw [hW] at hbc
  have HW : Hid (w.alloc (.cells (opC 1 rc n (.slice Ak nk ck) (.slice Ab nb cb) m) 42) = W) := hW.symm
  have HG := Lib.hid hg
  rcases h with ⟨rfl, rfl, h⟩ | ⟨l, b, o, v, rfl, rfl, rfl, h, hj⟩
  · have HA := Lib.hid (radd_nil rc.k rc.a rc.b W)
    have HD := Lib.hid h
    clear hb hW hg
    unfold opC at hbc HW ⊢
    go_enter Tryz.func10, Tryz.ntmps10
    go_wp2_with fail
    rw [HW.out]
    refine HA.out.mono ?_
    rintro e w1 ⟨rfl, g1⟩
    have G1 : Hid (w.grownBy w1 none) := by first | exact gr_none HG.out g1 | (rw [← g1]; exact HG.out)
    clear g1
    go_wp2_with fail
    go_ret2
    exact ⟨_, O, rfl, .inl ⟨rfl, rfl, HD.out.ext G1.out⟩, Ch.ext G1.out⟩
  · have HA := Lib.hid (rjadd_gen (h.ext hg) hup (hj.ch (Ch.ext hg)) (Nat.le_refl _) (Nat.le_trans h.gr.size hg.size) rc)
    have HD := Lib.hid h
    obtain ⟨Y, hY⟩ : ∃ Y, Y = R.jadd l rc := ⟨_, rfl⟩
    rw [← hY] at HA
    have HX : Hid ((Y.1, some Y.2.1, Y.2.2) = R.jaddO (some l) rc) := by show _ = ((R.jadd l rc).1, some (R.jadd l rc).2.1, (R.jadd l rc).2.2); rw [← hY]
    clear h hb hW hg hj hY
    try unfold Rc.cells at HA
    unfold opC at hbc HW ⊢
    go_enter Tryz.func10, Tryz.ntmps10
    go_wp2_with fail
    rw [HW.out]
    refine HA.out.mono ?_
    intro e w1 hh
    obtain ⟨rfl, O', k1, k2⟩ := RJ.added HG.out hh
    have K1 := Lib.hid k1
    have K2 := Lib.hid k2
    clear hh k1 k2
    go_wp2_with fail
    go_ret2
    rw [← HX.out]
    exact ⟨_, O', rfl, K1.out, K2.out⟩
set_option maxHeartbeats 2000000 in
theorem jmeant_2 (h : RJ w0 r jv R j O w) (hup : Up R) (hlj : ∀ l, j = some l → l.length ≤ 65536) (rc : Rc) (n : Int) (hn : -9223372036854775808 ≤ n ∧ n ≤ 9223372036854775807) (Ak : Option Addr) (nk ck : Nat) (Ab : Option Addr) (nb cb : Nat) (m : UInt8) :
    Calls Tryz.prog 10 #[.pointer (some ⟨r, 0, none⟩), jv, .agg (opC 2 rc n (.slice Ak nk ck) (.slice Ab nb cb) m)] w (RDone w0 r O w (R.jbackO j n)) := by
  obtain ⟨W, hW⟩ : ∃ W, W = w.alloc (.cells (opC 2 rc n (.slice Ak nk ck) (.slice Ab nb cb) m) 42) := ⟨_, rfl⟩
  have hg : w.grownBy W none := by rw [hW]; exact gr_alloc _ _ none
  have hb : Blk W w.heap.size 42 (opC 2 rc n (.slice Ak nk ck) (.slice Ab nb cb) m) := by rw [hW]; exact Blk.new w _ _
  have hbc := hb.cell
  rw [hW] at hbc
  have HW : Hid (w.alloc (.cells (opC 2 rc n (.slice Ak nk ck) (.slice Ab nb cb) m) 42) = W) := hW.symm
  have HG := Lib.hid hg
  rcases h with ⟨rfl, rfl, h⟩ | ⟨l, b, o, v, rfl, rfl, rfl, h, hj⟩
  · have HA := Lib.hid (rback_nil n W)
    have HD := Lib.hid h
    clear hb hW hg
    unfold opC at hbc HW ⊢
    go_enter Tryz.func10, Tryz.ntmps10
    go_wp2_with fail
    rw [HW.out]
    refine HA.out.mono ?_
    rintro e w1 ⟨rfl, g1⟩
    have G1 : Hid (w.grownBy w1 none) := by first | exact gr_none HG.out g1 | (rw [← g1]; exact HG.out)
    clear g1
    go_wp2_with fail
    go_ret2
    exact ⟨_, O, rfl, .inl ⟨rfl, rfl, HD.out.ext G1.out⟩, Ch.ext G1.out⟩
  · have HA := Lib.hid (rjback_gen (h.ext hg) hup (hj.ch (Ch.ext hg)) (Nat.le_refl _) (Nat.le_trans h.gr.size hg.size) n hn (hlj l rfl))
    have HD := Lib.hid h
    obtain ⟨Y, hY⟩ : ∃ Y, Y = R.jback l n := ⟨_, rfl⟩
    rw [← hY] at HA
    have HX : Hid ((Y.1, some Y.2.1, Y.2.2) = R.jbackO (some l) n) := by show _ = ((R.jback l n).1, some (R.jback l n).2.1, (R.jback l n).2.2); rw [← hY]
    clear h hb hW hg hj hY
    try unfold Rc.cells at HA
    unfold opC at hbc HW ⊢
    go_enter Tryz.func10, Tryz.ntmps10
    go_wp2_with fail
    rw [HW.out]
    refine HA.out.mono ?_
    intro e w1 hh
    obtain ⟨rfl, O', k1, k2⟩ := RJ.added HG.out hh
    have K1 := Lib.hid k1
    have K2 := Lib.hid k2
    clear hh k1 k2
    go_wp2_with fail
    go_ret2
    rw [← HX.out]
    exact ⟨_, O', rfl, K1.out, K2.out⟩
set_option maxHeartbeats 2000000 in
theorem jmeant_3 (h : RJ w0 r jv R j O w) (hup : Up R)  (rc : Rc) (n : Int) (hn : -9223372036854775808 ≤ n ∧ n ≤ 9223372036854775807) (Ak : Option Addr) (nk ck : Nat) (Ab : Option Addr) (nb cb : Nat) (m : UInt8) :
    Calls Tryz.prog 10 #[.pointer (some ⟨r, 0, none⟩), jv, .agg (opC 3 rc n (.slice Ak nk ck) (.slice Ab nb cb) m)] w (RDone w0 r O w ((R.arm n).1, j, (R.arm n).2)) := by
  obtain ⟨W, hW⟩ : ∃ W, W = w.alloc (.cells (opC 3 rc n (.slice Ak nk ck) (.slice Ab nb cb) m) 42) := ⟨_, rfl⟩
  have hg : w.grownBy W none := by rw [hW]; exact gr_alloc _ _ none
  have hb : Blk W w.heap.size 42 (opC 3 rc n (.slice Ak nk ck) (.slice Ab nb cb) m) := by rw [hW]; exact Blk.new w _ _
  have hbc := hb.cell
  rw [hW] at hbc
  have HW : Hid (w.alloc (.cells (opC 3 rc n (.slice Ak nk ck) (.slice Ab nb cb) m) 42) = W) := hW.symm
  have HG := Lib.hid hg
  obtain ⟨o, hda, hback⟩ := (h.ext hg).disk
  have HA := Lib.hid (rarm_any hda n hn)
  have HB := Lib.hid hback
  have HGO : Hid (Ch O w O W) := Ch.ext hg
  obtain ⟨Y, hY⟩ : ∃ Y, Y = R.arm n := ⟨_, rfl⟩
  rw [← hY] at HA ⊢
  clear h hb hW hg hda hback hY
  unfold opC at hbc HW ⊢
  go_enter Tryz.func10, Tryz.ntmps10
  go_wp2_with fail
  rw [HW.out]
  refine HA.out.mono ?_
  rintro e w1 ⟨rfl, k1⟩
  obtain ⟨O', k2, k3⟩ := HB.out _ _ k1
  have K2 := Lib.hid k2
  have K3 : Hid (Ch O w O' w1) := HGO.out.trans k3
  clear k1 k2 k3
  go_wp2_with fail
  go_ret2
  exact ⟨_, O', rfl, K2.out, K3.out⟩
set_option maxHeartbeats 2000000 in
theorem jmeant_6 (h : RJ w0 r jv R j O w) (hup : Up R)  (rc : Rc) (n : Int) (hn : -9223372036854775808 ≤ n ∧ n ≤ 9223372036854775807) (Ak : Option Addr) (nk ck : Nat) (Ab : Option Addr) (nb cb : Nat) (m : UInt8) :
    Calls Tryz.prog 10 #[.pointer (some ⟨r, 0, none⟩), jv, .agg (opC 6 rc n (.slice Ak nk ck) (.slice Ab nb cb) m)] w (RDone w0 r O w ((R.flipA jn n m).1, j, (R.flipA jn n m).2)) := by
  obtain ⟨W, hW⟩ : ∃ W, W = w.alloc (.cells (opC 6 rc n (.slice Ak nk ck) (.slice Ab nb cb) m) 42) := ⟨_, rfl⟩
  have hg : w.grownBy W none := by rw [hW]; exact gr_alloc _ _ none
  have hb : Blk W w.heap.size 42 (opC 6 rc n (.slice Ak nk ck) (.slice Ab nb cb) m) := by rw [hW]; exact Blk.new w _ _
  have hbc := hb.cell
  rw [hW] at hbc
  have HW : Hid (w.alloc (.cells (opC 6 rc n (.slice Ak nk ck) (.slice Ab nb cb) m) 42) = W) := hW.symm
  have HG := Lib.hid hg
  obtain ⟨o, hda, hback⟩ := (h.ext hg).disk
  have HA := Lib.hid (rflip_any hda hup.nodup jn (by simp) n m hn)
  have HB := Lib.hid hback
  have HGO : Hid (Ch O w O W) := Ch.ext hg
  obtain ⟨Y, hY⟩ : ∃ Y, Y = R.flipA jn n m := ⟨_, rfl⟩
  rw [← hY] at HA ⊢
  clear h hb hW hg hda hback hY
  unfold opC at hbc HW ⊢
  go_enter Tryz.func10, Tryz.ntmps10
  go_wp2_with fail
  rw [HW.out]
  refine HA.out.mono ?_
  rintro e w1 ⟨rfl, k1⟩
  obtain ⟨O', k2, k3⟩ := HB.out _ _ k1
  have K2 := Lib.hid k2
  have K3 : Hid (Ch O w O' w1) := HGO.out.trans k3
  clear k1 k2 k3
  go_wp2_with fail
  go_ret2
  exact ⟨_, O', rfl, K2.out, K3.out⟩
set_option maxHeartbeats 2000000 in
theorem jmeant_7 (h : RJ w0 r jv R j O w) (hup : Up R)  (rc : Rc) (n : Int) (hn : -9223372036854775808 ≤ n ∧ n ≤ 9223372036854775807) (Ak : Option Addr) (nk ck : Nat) (Ab : Option Addr) (nb cb : Nat) (m : UInt8) :
    Calls Tryz.prog 10 #[.pointer (some ⟨r, 0, none⟩), jv, .agg (opC 7 rc n (.slice Ak nk ck) (.slice Ab nb cb) m)] w (RDone w0 r O w ((R.setQuota n).1, j, (R.setQuota n).2)) := by
  obtain ⟨W, hW⟩ : ∃ W, W = w.alloc (.cells (opC 7 rc n (.slice Ak nk ck) (.slice Ab nb cb) m) 42) := ⟨_, rfl⟩
  have hg : w.grownBy W none := by rw [hW]; exact gr_alloc _ _ none
  have hb : Blk W w.heap.size 42 (opC 7 rc n (.slice Ak nk ck) (.slice Ab nb cb) m) := by rw [hW]; exact Blk.new w _ _
  have hbc := hb.cell
  rw [hW] at hbc
  have HW : Hid (w.alloc (.cells (opC 7 rc n (.slice Ak nk ck) (.slice Ab nb cb) m) 42) = W) := hW.symm
  have HG := Lib.hid hg
  obtain ⟨o, hda, hback⟩ := (h.ext hg).disk
  have HA := Lib.hid (rquota_any hda n hn)
  have HB := Lib.hid hback
  have HGO : Hid (Ch O w O W) := Ch.ext hg
  obtain ⟨Y, hY⟩ : ∃ Y, Y = R.setQuota n := ⟨_, rfl⟩
  rw [← hY] at HA ⊢
  clear h hb hW hg hda hback hY
  unfold opC at hbc HW ⊢
  go_enter Tryz.func10, Tryz.ntmps10
  go_wp2_with fail
  rw [HW.out]
  refine HA.out.mono ?_
  rintro e w1 ⟨rfl, k1⟩
  obtain ⟨O', k2, k3⟩ := HB.out _ _ k1
  have K2 := Lib.hid k2
  have K3 : Hid (Ch O w O' w1) := HGO.out.trans k3
  clear k1 k2 k3
  go_wp2_with fail
  go_ret2
  exact ⟨_, O', rfl, K2.out, K3.out⟩
set_option maxHeartbeats 2000000 in
theorem jmeant_5 (h : RJ w0 r jv R j O w) (hup : Up R) (bs : List UInt8) (rc : Rc) (n : Int) (hn : -9223372036854775808 ≤ n ∧ n ≤ 9223372036854775807) (Ak : Option Addr) (nk ck : Nat) (Ab : Option Addr) (cb : Nat) (hb0 : RdB w0 (.slice Ab bs.length cb) bs) (hbl : bs.length ≤ 100000000) (m : UInt8) :
    Calls Tryz.prog 10 #[.pointer (some ⟨r, 0, none⟩), jv, .agg (opC 5 rc n (.slice Ak nk ck) (.slice Ab bs.length cb) m)] w (RDone w0 r O w ((R.write jn n bs).1, j, (R.write jn n bs).2)) := by
  obtain ⟨W, hW⟩ : ∃ W, W = w.alloc (.cells (opC 5 rc n (.slice Ak nk ck) (.slice Ab bs.length cb) m) 42) := ⟨_, rfl⟩
  have hg : w.grownBy W none := by rw [hW]; exact gr_alloc _ _ none
  have hb : Blk W w.heap.size 42 (opC 5 rc n (.slice Ak nk ck) (.slice Ab bs.length cb) m) := by rw [hW]; exact Blk.new w _ _
  have hbc := hb.cell
  rw [hW] at hbc
  have HW : Hid (w.alloc (.cells (opC 5 rc n (.slice Ak nk ck) (.slice Ab bs.length cb) m) 42) = W) := hW.symm
  have HG := Lib.hid hg
  obtain ⟨o, hda, hback⟩ := (h.ext hg).disk
  have HA := Lib.hid (rwrite_any hda hup.nodup jn (by simp) n hn (fun O1 w1 hc => rd_chg hb0 (h.ext hg).gr hda.own0 hc) (by omega))
  have HB := Lib.hid hback
  have HGO : Hid (Ch O w O W) := Ch.ext hg
  obtain ⟨Y, hY⟩ : ∃ Y, Y = R.write jn n bs := ⟨_, rfl⟩
  rw [← hY] at HA ⊢
  clear h hb hW hg hda hback hY
  unfold opC at hbc HW ⊢
  go_enter Tryz.func10, Tryz.ntmps10
  go_wp2_with fail
  rw [HW.out]
  refine HA.out.mono ?_
  rintro e w1 ⟨rfl, k1⟩
  obtain ⟨O', k2, k3⟩ := HB.out _ _ k1
  have K2 := Lib.hid k2
  have K3 : Hid (Ch O w O' w1) := HGO.out.trans k3
  clear k1 k2 k3
  go_wp2_with fail
  go_ret2
  exact ⟨_, O', rfl, K2.out, K3.out⟩
set_option maxHeartbeats 2000000 in
theorem jmeant_4 (h : RJ w0 r jv R j O w) (hup : Up R) (hlo : ∀ f ∈ R.L, ∀ k : Nat, f.loose.getD k false = true → 64 * k < f.now.length) (keep : List Int) (rc : Rc) (n : Int) (Ak : Option Addr) (ck : Nat) (hk0 : RdI w0 (.slice Ak keep.length ck) keep) (hkl : keep.length ≤ 100000000) (Ab : Option Addr) (nb cb : Nat) (m : UInt8) :
    Calls Tryz.prog 10 #[.pointer (some ⟨r, 0, none⟩), jv, .agg (opC 4 rc n (.slice Ak keep.length ck) (.slice Ab nb cb) m)] w (RDone w0 r O w (if R.off = true then (R.on keep, j, 0) else (R, j, 14))) := by
  obtain ⟨W, hW⟩ : ∃ W, W = w.alloc (.cells (opC 4 rc n (.slice Ak keep.length ck) (.slice Ab nb cb) m) 42) := ⟨_, rfl⟩
  have hg : w.grownBy W none := by rw [hW]; exact gr_alloc _ _ none
  have hb : Blk W w.heap.size 42 (opC 4 rc n (.slice Ak keep.length ck) (.slice Ab nb cb) m) := by rw [hW]; exact Blk.new w _ _
  have hbc := hb.cell
  rw [hW] at hbc
  have HW : Hid (w.alloc (.cells (opC 4 rc n (.slice Ak keep.length ck) (.slice Ab nb cb) m) 42) = W) := hW.symm
  have HG := Lib.hid hg
  obtain ⟨o, hda, hback⟩ := (h.ext hg).disk
  by_cases hd : R.off = true
  · rw [if_pos hd]
    have HA := Lib.hid (ron_any hda hup.nodup hlo hd (rd_chg hk0 (h.ext hg).gr hda.own0 (Ch.refl _ _)) (fun O1 w1 hc => rd_chg hk0 (h.ext hg).gr hda.own0 hc) (by omega))
    have HB := Lib.hid hback
    have HGO : Hid (Ch O w O W) := Ch.ext hg
    obtain ⟨nk, hnk⟩ : ∃ nk, nk = keep.length := ⟨_, rfl⟩
    rw [← hnk] at hbc HW HA ⊢
    clear h hb hW hg hda hback hd hk0 hnk hlo
    unfold opC at hbc HW ⊢
    go_enter Tryz.func10, Tryz.ntmps10
    go_wp2_with fail
    rw [HW.out]
    refine HA.out.mono ?_
    rintro e w1 ⟨rfl, k1⟩
    obtain ⟨O', k2, k3⟩ := HB.out _ _ k1
    have K2 := Lib.hid k2
    have K3 : Hid (Ch O w O' w1) := HGO.out.trans k3
    clear k1 k2 k3
    go_wp2_with fail
    go_ret2
    exact ⟨_, O', rfl, K2.out, K3.out⟩
  · rw [if_neg hd]
    have HA := Lib.hid (ron_alive hda (by simpa using hd) (.slice Ak keep.length ck))
    have HH := Lib.hid h
    obtain ⟨nk, hnk⟩ : ∃ nk, nk = keep.length := ⟨_, rfl⟩
    rw [← hnk] at hbc HW HA ⊢
    clear h hb hW hg hda hback hd hk0 hnk hlo
    unfold opC at hbc HW ⊢
    go_enter Tryz.func10, Tryz.ntmps10
    go_wp2_with fail
    rw [HW.out]
    refine HA.out.mono ?_
    rintro e w1 ⟨rfl, rfl⟩
    go_wp2_with fail
    go_ret2
    exact ⟨_, O, rfl, HH.out.ext HG.out, Ch.ext HG.out⟩
theorem jmeant_8 (h : RJ w0 r jv R j O w) (kd : Int) (hkd : ¬ (kd = 0 ∨ kd = 1 ∨ kd = 2 ∨ kd = 3 ∨ kd = 4 ∨ kd = 5 ∨ kd = 6 ∨ kd = 7)) (rc : Rc) (n : Int) (Ak : Option Addr) (nk ck : Nat) (Ab : Option Addr) (nb cb : Nat) (m : UInt8) :
    Calls Tryz.prog 10 #[.pointer (some ⟨r, 0, none⟩), jv, .agg (opC kd rc n (.slice Ak nk ck) (.slice Ab nb cb) m)] w (RDone w0 r O w (R, j, 0)) := by
  obtain ⟨W, hW⟩ : ∃ W, W = w.alloc (.cells (opC kd rc n (.slice Ak nk ck) (.slice Ab nb cb) m) 42) := ⟨_, rfl⟩
  have hg : w.grownBy W none := by rw [hW]; exact gr_alloc _ _ none
  have hb : Blk W w.heap.size 42 (opC kd rc n (.slice Ak nk ck) (.slice Ab nb cb) m) := by rw [hW]; exact Blk.new w _ _
  have hbc := hb.cell
  rw [hW] at hbc
  have HW : Hid (w.alloc (.cells (opC kd rc n (.slice Ak nk ck) (.slice Ab nb cb) m) 42) = W) := hW.symm
  have HG := Lib.hid hg
  have HH := Lib.hid h
  have q0 : (kd == 0) = false := by rw [beq_eq_false_iff_ne]; omega
  have q1 : (kd == 1) = false := by rw [beq_eq_false_iff_ne]; omega
  have q2 : (kd == 2) = false := by rw [beq_eq_false_iff_ne]; omega
  have q3 : (kd == 3) = false := by rw [beq_eq_false_iff_ne]; omega
  have q4 : (kd == 4) = false := by rw [beq_eq_false_iff_ne]; omega
  have q5 : (kd == 5) = false := by rw [beq_eq_false_iff_ne]; omega
  have q6 : (kd == 6) = false := by rw [beq_eq_false_iff_ne]; omega
  have q7 : (kd == 7) = false := by rw [beq_eq_false_iff_ne]; omega
  clear h hb hW hg hkd
  unfold opC at hbc HW ⊢
  go_enter Tryz.func10, Tryz.ntmps10
  go_wp2_with fail
  rw [HW.out]
  go_ret2
  exact ⟨_, O, rfl, HH.out.ext HG.out, Ch.ext HG.out⟩
/-- what the document says. -/
theorem jmeant_any (h : RJ w0 r jv R j O w) (hup : Up R) (hlo : ∀ f ∈ R.L, ∀ k : Nat, f.loose.getD k false = true → 64 * k < f.now.length) (hfl : R.L.length ≤ 900000) (hlj : ∀ l, j = some l → l.length ≤ 65536) (x : OpJ) (hx : OpJk w0 x) (hkl : x.keep.length ≤ 100000000) (hbl : x.b.length ≤ 100000000) :
    Calls Tryz.prog 10 #[.pointer (some ⟨r, 0, none⟩), jv, .agg x.cells.toArray] w (RDone w0 r O w (R.jdo j x)) := by
  obtain ⟨kd, rc, n, kv, keep, bv, bs, m⟩ := x
  obtain ⟨Ak, ck, rfl⟩ : ∃ Ak ck, kv = .slice Ak keep.length ck := hx.keep.form
  obtain ⟨Ab, cb, rfl⟩ : ∃ Ab cb, bv = .slice Ab bs.length cb := hx.b.form
  show Calls Tryz.prog 10 #[.pointer (some ⟨r, 0, none⟩), jv, .agg (opC kd rc n (.slice Ak keep.length ck) (.slice Ab bs.length cb) m)] w _
  unfold RD.jdo
  dsimp only
  by_cases e0 : kd = 0
  · subst e0
    rw [if_pos rfl]
    exact jmeant_0 h hup hfl rc n hx.n Ak _ ck Ab _ cb m
  rw [if_neg e0]
  by_cases e1 : kd = 1
  · subst e1
    rw [if_pos rfl]
    exact jmeant_1 h hup rc n hx.n Ak _ ck Ab _ cb m
  rw [if_neg e1]
  by_cases e2 : kd = 2
  · subst e2
    rw [if_pos rfl]
    exact jmeant_2 h hup hlj rc n hx.n Ak _ ck Ab _ cb m
  rw [if_neg e2]
  by_cases e3 : kd = 3
  · subst e3
    rw [if_pos rfl]
    exact jmeant_3 h hup rc n hx.n Ak _ ck Ab _ cb m
  rw [if_neg e3]
  by_cases e4 : kd = 4
  · subst e4
    rw [if_pos rfl]
    exact jmeant_4 h hup hlo keep rc n Ak ck hx.keep hkl Ab _ cb m
  rw [if_neg e4]
  by_cases e5 : kd = 5
  · subst e5
    rw [if_pos rfl]
    exact jmeant_5 h hup bs rc n hx.n Ak _ ck Ab cb hx.b hbl m
  rw [if_neg e5]
  by_cases e6 : kd = 6
  · subst e6
    rw [if_pos rfl]
    exact jmeant_6 h hup rc n hx.n Ak _ ck Ab _ cb m
  rw [if_neg e6]
  by_cases e7 : kd = 7
  · subst e7
    rw [if_pos rfl]
    exact jmeant_7 h hup rc n hx.n Ak _ ck Ab _ cb m
  rw [if_neg e7]
  exact jmeant_8 h kd (by omega) rc n Ak _ ck Ab _ cb m
end
end Go.Proofs.YtipankjajdpiiaaGreat

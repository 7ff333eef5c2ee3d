/-
  does of law09, kind by kind.
-/
import Derived.Test.YtipankjajdpiiaaGreatJm
namespace Go.Proofs.YtipankjajdpiiaaGreat
open Go.RowKit Go.Maps
set_option maxRecDepth 100000
set_option maxHeartbeats 400000

section
variable {w0 w w' W : World} {d r B : Nat} {jv : Value} {S : Dk} {R : RD} {j : Option (List Rc)} {l : List Rc} {O O' o o' : Own1} {X : Dk × Option (List Rc) × Nat}
theorem PJ.disk2 (h : PJ w0 d jv S j O w) : ∃ o, DA w0 d o S w ∧ ∀ i, O i = none → o i = none := by
  rcases h with ⟨-, -, h⟩ | ⟨l, b, o, v, -, -, rfl, h, hj⟩
  · exact ⟨O, h, fun _ h => h⟩
  · exact ⟨o, h, fun i hi => (jo_none hi).2.2⟩
theorem Ch.wide (hc : Ch o w o' w') (hO : ∀ i, O i = none → o i = none) : Ch O w o' w' := ⟨hc.os, hc.tape, hc.output, hc.size, fun i hi h0 => hc.block i hi (hO i h0), fun i hi h0 => hc.free i hi (hO i h0)⟩
theorem PJ.opened (h : DA w0 d o S w) (hO : ∀ i, O i = none → o i = none) (g : w.grownBy W none) {e : Ending} (k : JOpenOut o W w0.heap.size d X e w') :
    (e = .returned (.tuple #[.pointer none, .int .i64 X.2.2]) ∧ ∃ O', PJ w0 d (.pointer none) X.1 X.2.1 O' w' ∧ Ch O w O' w') ∨ ∃ b, e = .returned (.tuple #[.pointer (some ⟨b, 0, none⟩), .int .i64 X.2.2]) ∧ ∃ O', PJ w0 d (.pointer (some ⟨b, 0, none⟩)) X.1 X.2.1 O' w' ∧ Ch O w O' w' := by
  obtain ⟨o', c', h1, h2, h3⟩ := k
  have hW := h.ext g
  have hda : DA w0 d o' X.1 w' := ⟨⟨c', h1⟩, h2.gr hW.gr hW.own0⟩
  have hch : Ch o w o' w' := (Ch.ext g).trans h2
  rcases h3 with ⟨e1, e2⟩ | ⟨l, b, v, e1, e2, e3, hj⟩
  · exact .inl ⟨e2, o', .inl ⟨e1, rfl, hda⟩, hch.wide hO⟩
  · refine .inr ⟨b, by rw [e3, e2]; rfl, jo o' b v, .inr ⟨l, b, o', v, e1, rfl, rfl, hda, hj.low hW.gr.size⟩, (jo_of hch ?_ fun k e => ?_).wide hO⟩
    · exact Nat.le_trans g.size hj.jB
    · exact Nat.le_trans g.size (Own.blk_lt hj.own (by omega) e).1
theorem PJ.added {b : Nat} {v : Value} (h : DA w0 d o S w) (hj : JR w w0.heap.size o b d v l) (g : w.grownBy W none) {Y : Dk × List Rc × Nat} {e : Ending} (k : JAddOut o W w0.heap.size d b v Y e w') :
    e = .returned (.int .i64 Y.2.2) ∧ ∃ O', PJ w0 d (.pointer (some ⟨b, 0, none⟩)) Y.1 (some Y.2.1) O' w' ∧ Ch (jo o b v) w O' w' := by
  obtain ⟨v', o', c', rfl, k1, k2, k3⟩ := k
  have hgr : w0.grownBy w' none := k3.gr (gr_none h.gr g) fun i hi => by
    rcases jo_mem hi with e | e | e
    · rw [e]; exact k2.jB
    · exact (Own.blk_lt hj.own (by omega) e).1
    · exact h.own0 i e
  exact ⟨rfl, jo o' b v', .inr ⟨_, b, o', v', rfl, rfl, rfl, ⟨⟨c', k1⟩, hgr⟩, k2⟩, (Ch.ext g).trans k3⟩
theorem DA.flipA (h : DA w0 d o S w) (k : Int) (m : UInt8) (hk : -9223372036854775808 ≤ k ∧ k ≤ 9223372036854775807) :
    Calls Tryz.prog 29 #[.pointer (some ⟨d, 0, none⟩), .string ⟨jn.toArray⟩, .int .i64 k, .int .u8 m.toNat] w fun e w' => e = .returned (.int .i64 (S.flipA jn k m).2) ∧ DP w0 d o (S.flipA jn k m).1 w w' := by
  obtain ⟨c, h1⟩ := h.di
  exact (flipA_any h1 jn (by simp) m hk).mono fun _ _ ⟨e, k⟩ => ⟨e, h.out k⟩
def opC (kd : Int) (rc : Rc) (n : Int) (kv bv : Value) (m : UInt8) : Array Value := #[.int .i64 kd, .int .u32 rc.k.toNat, .int .u32 rc.a.toNat, .int .u32 rc.b.toNat, .int .i64 n, kv, bv, .int .u8 m.toNat]
set_option maxHeartbeats 2000000 in
theorem jdoes_0 (h : PJ w0 d jv S j O w) (hfs : S.fs.length ≤ 1000000) (rc : Rc) (n : Int) (Ak : Option Addr) (nk ck : Nat) (Ab : Option Addr) (nb cb : Nat) (m : UInt8) :
    Calls Tryz.prog 9 #[.pointer (some ⟨d, 0, none⟩), jv, .agg (opC 0 rc n (.slice Ak nk ck) (.slice Ab nb cb) m)] w (PDone w0 d O w S.jopen) := by
  obtain ⟨o, hda, hO⟩ := h.disk2
  obtain ⟨W, hW⟩ : ∃ W, W = w.alloc (.cells (opC 0 rc n (.slice Ak nk ck) (.slice Ab nb cb) m) 42) := ⟨_, rfl⟩
  have hg : w.grownBy W none := by rw [hW]; exact gr_alloc _ _ none
  have hb : Blk W w.heap.size 42 (opC 0 rc n (.slice Ak nk ck) (.slice Ab nb cb) m) := by rw [hW]; exact Blk.new w _ _
  have hbc := hb.cell
  rw [hW] at hbc
  have HW : Hid (w.alloc (.cells (opC 0 rc n (.slice Ak nk ck) (.slice Ab nb cb) m) 42) = W) := hW.symm
  have HG := Lib.hid hg
  obtain ⟨c, hc⟩ := (hda.ext hg).di
  have HO := Lib.hid (jopen_gen hc hfs)
  have HDA := Lib.hid hda
  have HOO := Lib.hid hO
  clear h hda hO hc hb hW hg
  unfold opC at hbc HW ⊢
  go_enter Tryz.func9, Tryz.ntmps9
  go_wp2_with fail
  rw [HW.out]
  refine HO.out.mono ?_
  intro e w' hh
  rcases PJ.opened HDA.out HOO.out HG.out hh with ⟨rfl, O', k1, k2⟩ | ⟨b, rfl, O', k1, k2⟩
  all_goals
    have K1 := Lib.hid k1
    have K2 := Lib.hid k2
    clear hh k1 k2
    go_wp2_with fail
    go_ret2
    exact ⟨_, O', rfl, K1.out, K2.out⟩
set_option maxHeartbeats 2000000 in
theorem jdoes_1 (h : PJ w0 d jv S j O w) (hfs : S.fs.length ≤ 1000000) (hnl : S.nl ≤ 1000000000) (rc : Rc) (n : Int) (Ak : Option Addr) (nk ck : Nat) (Ab : Option Addr) (nb cb : Nat) (m : UInt8) :
    Calls Tryz.prog 9 #[.pointer (some ⟨d, 0, none⟩), jv, .agg (opC 1 rc n (.slice Ak nk ck) (.slice Ab nb cb) m)] w (PDone w0 d O w (S.jaddO j rc)) := by
  obtain ⟨W, hW⟩ : ∃ W, W = w.alloc (.cells (opC 1 rc n (.slice Ak nk ck) (.slice Ab nb cb) m) 42) := ⟨_, rfl⟩
  have hg : w.grownBy W none := by rw [hW]; exact gr_alloc _ _ none
  have hb : Blk W w.heap.size 42 (opC 1 rc n (.slice Ak nk ck) (.slice Ab nb cb) m) := by rw [hW]; exact Blk.new w _ _
  have hbc := hb.cell
  rw [hW] at hbc
  have HW : Hid (w.alloc (.cells (opC 1 rc n (.slice Ak nk ck) (.slice Ab nb cb) m) 42) = W) := hW.symm
  have HG := Lib.hid hg
  rcases h with ⟨rfl, rfl, h⟩ | ⟨l, b, o, v, rfl, rfl, rfl, h, hj⟩
  · have HA := Lib.hid (add_nil rc.k rc.a rc.b W)
    have HD := Lib.hid h
    clear hb hW hg
    unfold opC at hbc HW ⊢
    go_enter Tryz.func9, Tryz.ntmps9
    go_wp2_with fail
    rw [HW.out]
    refine HA.out.mono ?_
    rintro e w1 ⟨rfl, g1⟩
    have G1 : Hid (w.grownBy w1 none) := gr_none HG.out g1
    clear g1
    go_wp2_with fail
    go_ret2
    exact ⟨_, O, rfl, .inl ⟨rfl, rfl, HD.out.ext G1.out⟩, Ch.ext G1.out⟩
  · obtain ⟨c, hc⟩ := (h.ext hg).di
    have HA := Lib.hid (jadd_gen hc (hj.ch (Ch.ext hg)) rc hfs (by omega))
    have HD := Lib.hid h
    have HJ := Lib.hid hj
    obtain ⟨Y, hY⟩ : ∃ Y, Y = S.jadd l rc := ⟨_, rfl⟩
    rw [← hY] at HA
    have HX : Hid ((Y.1, some Y.2.1, Y.2.2) = S.jaddO (some l) rc) := by show _ = ((S.jadd l rc).1, some (S.jadd l rc).2.1, (S.jadd l rc).2.2); rw [← hY]
    clear h hb hW hg hj hc hY
    unfold opC at hbc HW ⊢
    unfold Rc.cells at HA
    go_enter Tryz.func9, Tryz.ntmps9
    go_wp2_with fail
    rw [HW.out]
    refine HA.out.mono ?_
    intro e w1 hh
    obtain ⟨rfl, O', k1, k2⟩ := PJ.added HD.out HJ.out HG.out hh
    have K1 := Lib.hid k1
    have K2 := Lib.hid k2
    clear hh k1 k2
    go_wp2_with fail
    go_ret2
    rw [← HX.out]
    exact ⟨_, O', rfl, K1.out, K2.out⟩
set_option maxHeartbeats 2000000 in
theorem jdoes_2 (h : PJ w0 d jv S j O w) (hlj : ∀ l, j = some l → l.length ≤ 65536) (rc : Rc) (n : Int) (hn : -9223372036854775808 ≤ n ∧ n ≤ 9223372036854775807) (Ak : Option Addr) (nk ck : Nat) (Ab : Option Addr) (nb cb : Nat) (m : UInt8) :
    Calls Tryz.prog 9 #[.pointer (some ⟨d, 0, none⟩), jv, .agg (opC 2 rc n (.slice Ak nk ck) (.slice Ab nb cb) m)] w (PDone w0 d O w (S.jbackO j n)) := by
  obtain ⟨W, hW⟩ : ∃ W, W = w.alloc (.cells (opC 2 rc n (.slice Ak nk ck) (.slice Ab nb cb) m) 42) := ⟨_, rfl⟩
  have hg : w.grownBy W none := by rw [hW]; exact gr_alloc _ _ none
  have hb : Blk W w.heap.size 42 (opC 2 rc n (.slice Ak nk ck) (.slice Ab nb cb) m) := by rw [hW]; exact Blk.new w _ _
  have hbc := hb.cell
  rw [hW] at hbc
  have HW : Hid (w.alloc (.cells (opC 2 rc n (.slice Ak nk ck) (.slice Ab nb cb) m) 42) = W) := hW.symm
  have HG := Lib.hid hg
  rcases h with ⟨rfl, rfl, h⟩ | ⟨l, b, o, v, rfl, rfl, rfl, h, hj⟩
  · have HA := Lib.hid (back_nil n W)
    have HD := Lib.hid h
    clear hb hW hg
    unfold opC at hbc HW ⊢
    go_enter Tryz.func9, Tryz.ntmps9
    go_wp2_with fail
    rw [HW.out]
    refine HA.out.mono ?_
    rintro e w1 ⟨rfl, rfl⟩
    have G1 := HG
    go_wp2_with fail
    go_ret2
    exact ⟨_, O, rfl, .inl ⟨rfl, rfl, HD.out.ext G1.out⟩, Ch.ext G1.out⟩
  · obtain ⟨c, hc⟩ := (h.ext hg).di
    have HA := Lib.hid (jback_gen hc (hj.ch (Ch.ext hg)) n hn (hlj l rfl))
    have HD := Lib.hid h
    have HJ := Lib.hid hj
    obtain ⟨Y, hY⟩ : ∃ Y, Y = S.jback l n := ⟨_, rfl⟩
    rw [← hY] at HA
    have HX : Hid ((Y.1, some Y.2.1, Y.2.2) = S.jbackO (some l) n) := by show _ = ((S.jback l n).1, some (S.jback l n).2.1, (S.jback l n).2.2); rw [← hY]
    clear h hb hW hg hj hc hY
    unfold opC at hbc HW ⊢
    go_enter Tryz.func9, Tryz.ntmps9
    go_wp2_with fail
    rw [HW.out]
    refine HA.out.mono ?_
    intro e w1 hh
    obtain ⟨rfl, O', k1, k2⟩ := PJ.added HD.out HJ.out HG.out hh
    have K1 := Lib.hid k1
    have K2 := Lib.hid k2
    clear hh k1 k2
    go_wp2_with fail
    go_ret2
    rw [← HX.out]
    exact ⟨_, O', rfl, K1.out, K2.out⟩
set_option maxHeartbeats 2000000 in
theorem jdoes_3 (h : PJ w0 d jv S j O w) (rc : Rc) (n : Int) (hn : -9223372036854775808 ≤ n ∧ n ≤ 9223372036854775807) (Ak : Option Addr) (nk ck : Nat) (Ab : Option Addr) (nb cb : Nat) (m : UInt8) :
    Calls Tryz.prog 9 #[.pointer (some ⟨d, 0, none⟩), jv, .agg (opC 3 rc n (.slice Ak nk ck) (.slice Ab nb cb) m)] w (PDone w0 d O w ((S.arm n).1, j, (S.arm n).2)) := by
  obtain ⟨W, hW⟩ : ∃ W, W = w.alloc (.cells (opC 3 rc n (.slice Ak nk ck) (.slice Ab nb cb) m) 42) := ⟨_, rfl⟩
  have hg : w.grownBy W none := by rw [hW]; exact gr_alloc _ _ none
  have hb : Blk W w.heap.size 42 (opC 3 rc n (.slice Ak nk ck) (.slice Ab nb cb) m) := by rw [hW]; exact Blk.new w _ _
  have hbc := hb.cell
  rw [hW] at hbc
  have HW : Hid (w.alloc (.cells (opC 3 rc n (.slice Ak nk ck) (.slice Ab nb cb) m) 42) = W) := hW.symm
  have HG := Lib.hid hg
  obtain ⟨o, hda, hback⟩ := (h.ext hg).disk
  have HA := Lib.hid (hda.arm n hn)
  have HB := Lib.hid hback
  have HGO : Hid (Ch O w O W) := Ch.ext hg
  obtain ⟨Y, hY⟩ : ∃ Y, Y = S.arm n := ⟨_, rfl⟩
  rw [← hY] at HA ⊢
  clear h hb hW hg hda hback hY
  unfold opC at hbc HW ⊢
  go_enter Tryz.func9, Tryz.ntmps9
  go_wp2_with fail
  rw [HW.out]
  refine HA.out.mono ?_
  rintro e w1 ⟨rfl, k1⟩
  obtain ⟨O', k2, k3⟩ := HB.out _ _ k1
  have K2 := Lib.hid k2
  have K3 : Hid (Ch O w O' w1) := HGO.out.trans k3
  clear k1 k2 k3
  go_wp2_with fail
  go_ret2
  exact ⟨_, O', rfl, K2.out, K3.out⟩
set_option maxHeartbeats 2000000 in
theorem jdoes_6 (h : PJ w0 d jv S j O w) (rc : Rc) (n : Int) (hn : -9223372036854775808 ≤ n ∧ n ≤ 9223372036854775807) (Ak : Option Addr) (nk ck : Nat) (Ab : Option Addr) (nb cb : Nat) (m : UInt8) :
    Calls Tryz.prog 9 #[.pointer (some ⟨d, 0, none⟩), jv, .agg (opC 6 rc n (.slice Ak nk ck) (.slice Ab nb cb) m)] w (PDone w0 d O w ((S.flipA jn n m).1, j, (S.flipA jn n m).2)) := by
  obtain ⟨W, hW⟩ : ∃ W, W = w.alloc (.cells (opC 6 rc n (.slice Ak nk ck) (.slice Ab nb cb) m) 42) := ⟨_, rfl⟩
  have hg : w.grownBy W none := by rw [hW]; exact gr_alloc _ _ none
  have hb : Blk W w.heap.size 42 (opC 6 rc n (.slice Ak nk ck) (.slice Ab nb cb) m) := by rw [hW]; exact Blk.new w _ _
  have hbc := hb.cell
  rw [hW] at hbc
  have HW : Hid (w.alloc (.cells (opC 6 rc n (.slice Ak nk ck) (.slice Ab nb cb) m) 42) = W) := hW.symm
  have HG := Lib.hid hg
  obtain ⟨o, hda, hback⟩ := (h.ext hg).disk
  have HA := Lib.hid (hda.flipA n m hn)
  have HB := Lib.hid hback
  have HGO : Hid (Ch O w O W) := Ch.ext hg
  obtain ⟨Y, hY⟩ : ∃ Y, Y = S.flipA jn n m := ⟨_, rfl⟩
  rw [← hY] at HA ⊢
  clear h hb hW hg hda hback hY
  unfold opC at hbc HW ⊢
  go_enter Tryz.func9, Tryz.ntmps9
  go_wp2_with fail
  rw [HW.out]
  refine HA.out.mono ?_
  rintro e w1 ⟨rfl, k1⟩
  obtain ⟨O', k2, k3⟩ := HB.out _ _ k1
  have K2 := Lib.hid k2
  have K3 : Hid (Ch O w O' w1) := HGO.out.trans k3
  clear k1 k2 k3
  go_wp2_with fail
  go_ret2
  exact ⟨_, O', rfl, K2.out, K3.out⟩
set_option maxHeartbeats 2000000 in
theorem jdoes_7 (h : PJ w0 d jv S j O w) (rc : Rc) (n : Int) (hn : -9223372036854775808 ≤ n ∧ n ≤ 9223372036854775807) (Ak : Option Addr) (nk ck : Nat) (Ab : Option Addr) (nb cb : Nat) (m : UInt8) :
    Calls Tryz.prog 9 #[.pointer (some ⟨d, 0, none⟩), jv, .agg (opC 7 rc n (.slice Ak nk ck) (.slice Ab nb cb) m)] w (PDone w0 d O w ((S.setQuota n).1, j, (S.setQuota n).2)) := by
  obtain ⟨W, hW⟩ : ∃ W, W = w.alloc (.cells (opC 7 rc n (.slice Ak nk ck) (.slice Ab nb cb) m) 42) := ⟨_, rfl⟩
  have hg : w.grownBy W none := by rw [hW]; exact gr_alloc _ _ none
  have hb : Blk W w.heap.size 42 (opC 7 rc n (.slice Ak nk ck) (.slice Ab nb cb) m) := by rw [hW]; exact Blk.new w _ _
  have hbc := hb.cell
  rw [hW] at hbc
  have HW : Hid (w.alloc (.cells (opC 7 rc n (.slice Ak nk ck) (.slice Ab nb cb) m) 42) = W) := hW.symm
  have HG := Lib.hid hg
  obtain ⟨o, hda, hback⟩ := (h.ext hg).disk
  have HA := Lib.hid (hda.quota n hn)
  have HB := Lib.hid hback
  have HGO : Hid (Ch O w O W) := Ch.ext hg
  obtain ⟨Y, hY⟩ : ∃ Y, Y = S.setQuota n := ⟨_, rfl⟩
  rw [← hY] at HA ⊢
  clear h hb hW hg hda hback hY
  unfold opC at hbc HW ⊢
  go_enter Tryz.func9, Tryz.ntmps9
  go_wp2_with fail
  rw [HW.out]
  refine HA.out.mono ?_
  rintro e w1 ⟨rfl, k1⟩
  obtain ⟨O', k2, k3⟩ := HB.out _ _ k1
  have K2 := Lib.hid k2
  have K3 : Hid (Ch O w O' w1) := HGO.out.trans k3
  clear k1 k2 k3
  go_wp2_with fail
  go_ret2
  exact ⟨_, O', rfl, K2.out, K3.out⟩
end
end Go.Proofs.YtipankjajdpiiaaGreat

/- does of law09: On, Write, and what is none of these; all of it. -/
namespace Go.Proofs.YtipankjajdpiiaaGreat
open Go.RowKit Go.Maps
set_option maxRecDepth 100000
set_option maxHeartbeats 400000

theorem own_empty2I (w : World) (x : Obj) (B : Nat) (hB : B ≤ w.heap.size + 1) : OwnI ((w.alloc x).alloc (.cells #[] 3)) B (.slice (some ⟨w.heap.size + 1, 0, none⟩) 0 0) [] := by
  have := own_emptyI (w.alloc x) B (by rw [World.size_alloc]; exact hB)
  rw [World.size_alloc] at this
  exact this
section
variable {w0 w w' W : World} {d r B : Nat} {jv : Value} {S : Dk} {R : RD} {j : Option (List Rc)} {l : List Rc} {O O' o o' : Own1} {X : Dk × Option (List Rc) × Nat}
def POn (w0 : World) (d : Nat) (O : Own1) (w : World) (S : Dk) (j : Option (List Rc)) (keep : List Int) (e : Ending) (w' : World) : Prop := ∃ X, (if S.dead = true then ∃ ls, LsIs S ls ∧ X = (S.lit (onT S keep ls ls.length), j, 0) else X = (S, j, 14)) ∧ PDone w0 d O w X e w'
set_option maxHeartbeats 4000000 in
theorem jdoes_4 (h : PJ w0 d jv S j O w) {a b : Nat} (hs : Sm S a b) (ha : a ≤ 1000000) (hb1 : b ≤ 1000000000) (rc : Rc) (n : Int) (Ak : Option Addr) (ck : Nat) (keep : List Int) (hk : RdI w (.slice Ak keep.length ck) keep) (hkl : keep.length ≤ 100000000) (Ab : Option Addr) (nb cb : Nat) (m : UInt8) :
    Calls Tryz.prog 9 #[.pointer (some ⟨d, 0, none⟩), jv, .agg (opC 4 rc n (.slice Ak keep.length ck) (.slice Ab nb cb) m)] w (POn w0 d O w S j keep) := by
  obtain ⟨W, hW⟩ : ∃ W, W = w.alloc (.cells (opC 4 rc n (.slice Ak keep.length ck) (.slice Ab nb cb) m) 42) := ⟨_, rfl⟩
  have hg : w.grownBy W none := by rw [hW]; exact gr_alloc _ _ none
  have hb : Blk W w.heap.size 42 (opC 4 rc n (.slice Ak keep.length ck) (.slice Ab nb cb) m) := by rw [hW]; exact Blk.new w _ _
  have hbc := hb.cell
  rw [hW] at hbc
  have HS3 : Hid (W.heap.size = w.heap.size + 1) := by show _ = _; rw [hW, World.size_alloc]
  have HW : Hid (W = w.alloc (.cells (opC 4 rc n (.slice Ak keep.length ck) (.slice Ab nb cb) m) 42)) := hW
  have HG := Lib.hid hg
  have HB2 : Hid (Blk (W.alloc (.cells #[] 3)) w.heap.size 42 (opC 4 rc n (.slice Ak keep.length ck) (.slice Ab nb cb) m)) := hb.ext (gr_alloc _ _ none)
  have hb2c := HB2.out.cell
  rw [hW] at hb2c
  have HK := Lib.hid hk
  have HH := Lib.hid h
  have HSM := Lib.hid hs
  obtain ⟨nk, hnk⟩ : ∃ nk, nk = keep.length := ⟨_, rfl⟩
  have HNK := Lib.hid hnk
  rw [← hnk] at hbc HW hb2c HK hkl ⊢
  clear h hb hW hg hk hs hnk HB2
  unfold opC at hbc hb2c HW ⊢
  go_enter Tryz.func9, Tryz.ntmps9
  go_wp2_with (at_builtin; refine wp_appI (l := []) (m := keep) rfl (.tmp 45) (.tmp 47) rfl rfl (own_empty2I w _ (w.heap.size + 1) (Nat.le_refl _)) rfl (HK.out.ext (gr_none (gr_alloc _ _ none) (gr_alloc _ _ none))) (by rw [← HNK.out]; show 0 + nk ≤ _; omega) (by rw [World.size_alloc, World.size_alloc]; omega) ?_; rintro v5 w5 o5 g5 -; obtain ⟨A5, c5, ev5⟩ := RdI.form (Own.rd o5); rw [List.nil_append, ← HNK.out] at ev5; subst ev5; rw [List.nil_append] at o5; rw [← HW.out] at g5; have G5 : Hid (w.grownBy w5 none) := gr_none HG.out (gr_trans (gr_alloc _ _ none) g5 (.inr fun q e => by cases e; exact Nat.le_of_eq HS3.out)); have O5 := Lib.hid o5; clear o5 g5)
  obtain ⟨o, hda, hback⟩ := (HH.out.ext G5.out).disk
  have HBK := Lib.hid hback
  by_cases hd : S.dead = true
  · have HO := Lib.hid (DA.on hda HSM.out.li (by have := HSM.out.nl; omega) (by have := HSM.out.fl; omega) hd (Own.rd O5.out) (by rw [← HNK.out]; omega))
    clear hda hback
    refine HO.out.mono ?_
    rintro e w6 ⟨rfl, ls, hls, k1⟩
    obtain ⟨O', k2, k3⟩ := HBK.out _ _ k1
    have K2 := Lib.hid k2
    have K3 : Hid (Ch O w O' w6) := (Ch.ext G5.out).trans k3
    have HL : Hid (LsIs S ls) := hls
    clear k1 k2 k3 hls
    go_wp2_with fail
    go_ret2
    exact ⟨_, by rw [if_pos hd]; exact ⟨ls, HL.out, rfl⟩, _, O', rfl, K2.out, K3.out⟩
  · have hd0 : S.dead = false := by simpa using hd
    obtain ⟨c, hc⟩ := hda.di
    have HO := Lib.hid (on_alive hc hd0 (.slice A5 nk c5))
    clear hda hback hc hd0
    refine HO.out.mono ?_
    rintro e w6 ⟨rfl, rfl⟩
    go_wp2_with fail
    go_ret2
    exact ⟨(S, j, 14), by rw [if_neg hd], _, O, rfl, HH.out.ext G5.out, Ch.ext G5.out⟩
set_option maxHeartbeats 4000000 in
theorem jdoes_5 (h : PJ w0 d jv S j O w) (hfs : S.fs.length ≤ 1000000) (hnl : S.nl ≤ 1000000000) (rc : Rc) (n : Int) (hn : -9223372036854775808 ≤ n ∧ n ≤ 9223372036854775807) (Ak : Option Addr) (nk ck : Nat) (Ab : Option Addr) (cb : Nat) (bs : List UInt8) (hb0 : RdB w (.slice Ab bs.length cb) bs) (hbl : bs.length ≤ 100000000) (m : UInt8) :
    Calls Tryz.prog 9 #[.pointer (some ⟨d, 0, none⟩), jv, .agg (opC 5 rc n (.slice Ak nk ck) (.slice Ab bs.length cb) m)] w (PDone w0 d O w ((S.write jn n bs).1, j, (S.write jn n bs).2)) := by
  obtain ⟨W, hW⟩ : ∃ W, W = w.alloc (.cells (opC 5 rc n (.slice Ak nk ck) (.slice Ab bs.length cb) m) 42) := ⟨_, rfl⟩
  have hg : w.grownBy W none := by rw [hW]; exact gr_alloc _ _ none
  have hb : Blk W w.heap.size 42 (opC 5 rc n (.slice Ak nk ck) (.slice Ab bs.length cb) m) := by rw [hW]; exact Blk.new w _ _
  have hbc := hb.cell
  rw [hW] at hbc
  have HW : Hid (w.alloc (.cells (opC 5 rc n (.slice Ak nk ck) (.slice Ab bs.length cb) m) 42) = W) := hW.symm
  have HG := Lib.hid hg
  obtain ⟨nb, hnb⟩ : ∃ nb, nb = bs.length := ⟨_, rfl⟩
  obtain ⟨o, hda, hback⟩ := h.disk
  have hfr : o w.heap.size = none := hda.fresh (Nat.le_refl _)
  have HCP : Hid (∀ wx, w.grownBy wx none → Calls Tryz.prog 28 #[.slice Ab nb cb] wx fun e w' => ∃ v', e = .returned v' ∧ OwnB w' wx.heap.size v' bs ∧ wx.grownBy w' none) := fun wx g => by rw [hnb]; exact copyBytes_any _ _ wx (hb0.ext g) (by omega)
  have HWR : Hid (∀ (wa wx : World) (v3 : Value), w.grownBy wa none → wa.grownBy wx none → OwnB wx wa.heap.size v3 bs → Calls Tryz.prog 27 #[.pointer (some ⟨d, 0, none⟩), .string ⟨jn.toArray⟩, .int .i64 n, v3] wx fun e w' => e = .returned (.int .i64 (S.write jn n bs).2) ∧ DP w0 d o (S.write jn n bs).1 wx w') := fun wa wx v3 g1 g2 ho => (hda.ext g1).write g2 jn (by simp) n hn ho (by omega) hfs hnl
  have HBOX := Lib.hid hb
  have HBK := Lib.hid hback
  have HD := Lib.hid hda
  have HH := Lib.hid h
  have HFR := Lib.hid hfr
  obtain ⟨Y, hY⟩ : ∃ Y, Y = S.write jn n bs := ⟨_, rfl⟩
  rw [← hY] at HWR ⊢
  rw [← hnb] at hbc HW HBOX ⊢
  clear h hb hW hg hda hback hfr hY hb0 hnb
  unfold opC at hbc HW HBOX ⊢
  go_enter Tryz.func9, Tryz.ntmps9
  go_wp2_with fail
  rw [HW.out]
  have b4 := HBOX.out.cell 4
  have b6 := HBOX.out.cell 6
  go_region_held3 (fun w' => w'.cell? ⟨w.heap.size, 4, none⟩ = some (.int .i64 n) ∧ w'.cell? ⟨w.heap.size, 6, none⟩ = some (.slice Ab nb cb)) (first | exact k4 | exact k3 | exact ⟨b4, b6⟩ | go_keep) (first
    | (go_at_call 28; refine (HCP.out _ (gr_none HG.out (by first | exact gr_refl _ _ | exact gr_drew _ none))).mono ?_; rintro e w3 ⟨v3, rfl, o3, g3⟩; have g30 : W.grownBy w3 none := gr_none (by first | exact gr_refl _ _ | exact gr_drew _ none) g3; obtain ⟨A3, c3, rfl⟩ := RdB.form (OwnB.rd o3); have k3 : w3.cell? ⟨w.heap.size, 4, none⟩ = some (.int .i64 n) ∧ w3.cell? ⟨w.heap.size, 6, none⟩ = some (.slice Ab nb cb) := ⟨(HBOX.out.ext g30).cell 4, (HBOX.out.ext g30).cell 6⟩)
    | (go_at_call 27; refine (HWR.out W w3 _ HG.out g30 (Own.mono o3 (by first | exact Nat.le_refl _ | exact (gr_drew _ none).size))).mono ?_; rintro e w4 ⟨rfl, k9⟩; have kc : ∃ o', Ch o w3 o' w4 := ⟨_, k9.choose_spec.2⟩; have k4 : w4.cell? ⟨w.heap.size, 4, none⟩ = some (.int .i64 n) ∧ w4.cell? ⟨w.heap.size, 6, none⟩ = some (.slice Ab nb cb) := ⟨(kc.choose_spec.blk (HBOX.out.ext g30) HFR.out).cell 4, (kc.choose_spec.blk (HBOX.out.ext g30) HFR.out).cell 6⟩))
  all_goals
    have hfin : DP w0 d o Y.1 w w4 := by
      obtain ⟨o', q1, q2⟩ := k9
      exact ⟨o', q1, (Ch.ext (gr_none HG.out g30)).trans q2⟩
    obtain ⟨O', k2, k5⟩ := HBK.out _ _ hfin
    have K2 := Lib.hid k2
    have K3 := Lib.hid k5
    clear k2 k3 k4 k5 k9 kc hfin o3 g3 g30 b4 b6
    go_wp2_with fail
    go_ret2
    exact ⟨_, O', rfl, K2.out, K3.out⟩
theorem jdoes_8 (h : PJ w0 d jv S j O w) (kd : Int) (hkd : ¬ (kd = 0 ∨ kd = 1 ∨ kd = 2 ∨ kd = 3 ∨ kd = 4 ∨ kd = 5 ∨ kd = 6 ∨ kd = 7)) (rc : Rc) (n : Int) (Ak : Option Addr) (nk ck : Nat) (Ab : Option Addr) (nb cb : Nat) (m : UInt8) :
    Calls Tryz.prog 9 #[.pointer (some ⟨d, 0, none⟩), jv, .agg (opC kd rc n (.slice Ak nk ck) (.slice Ab nb cb) m)] w (PDone w0 d O w (S, j, 0)) := by
  obtain ⟨W, hW⟩ : ∃ W, W = w.alloc (.cells (opC kd rc n (.slice Ak nk ck) (.slice Ab nb cb) m) 42) := ⟨_, rfl⟩
  have hg : w.grownBy W none := by rw [hW]; exact gr_alloc _ _ none
  have hb : Blk W w.heap.size 42 (opC kd rc n (.slice Ak nk ck) (.slice Ab nb cb) m) := by rw [hW]; exact Blk.new w _ _
  have hbc := hb.cell
  rw [hW] at hbc hg
  have HG := Lib.hid hg
  have HH := Lib.hid h
  have q0 : (kd == 0) = false := by rw [beq_eq_false_iff_ne]; omega
  have q1 : (kd == 1) = false := by rw [beq_eq_false_iff_ne]; omega
  have q2 : (kd == 2) = false := by rw [beq_eq_false_iff_ne]; omega
  have q3 : (kd == 3) = false := by rw [beq_eq_false_iff_ne]; omega
  have q4 : (kd == 4) = false := by rw [beq_eq_false_iff_ne]; omega
  have q5 : (kd == 5) = false := by rw [beq_eq_false_iff_ne]; omega
  have q6 : (kd == 6) = false := by rw [beq_eq_false_iff_ne]; omega
  have q7 : (kd == 7) = false := by rw [beq_eq_false_iff_ne]; omega
  clear h hb hW hg hkd
  unfold opC at hbc HG ⊢
  go_enter Tryz.func9, Tryz.ntmps9
  go_wp2_with fail
  go_ret2
  exact ⟨_, O, rfl, HH.out.ext HG.out, Ch.ext HG.out⟩
/-- something is done. -/
theorem jdoes_any (h : PJ w0 d jv S j O w) {a b : Nat} (hs : Sm S a b) (ha : a ≤ 1000000) (hb1 : b ≤ 1000000000) (hlj : ∀ l, j = some l → l.length ≤ 65536) (x : OpJ) (hx : OpJk w x) (hkl : x.keep.length ≤ 100000000) (hbl : x.b.length ≤ 100000000) :
    Calls Tryz.prog 9 #[.pointer (some ⟨d, 0, none⟩), jv, .agg x.cells.toArray] w fun e w' => ∃ X, S.jdo j x X ∧ PDone w0 d O w X e w' := by
  obtain ⟨kd, rc, n, kv, keep, bv, bs, m⟩ := x
  obtain ⟨Ak, ck, rfl⟩ : ∃ Ak ck, kv = .slice Ak keep.length ck := hx.keep.form
  obtain ⟨Ab, cb, rfl⟩ : ∃ Ab cb, bv = .slice Ab bs.length cb := hx.b.form
  have hfs : S.fs.length ≤ 1000000 := by have := hs.fl; omega
  have hnl : S.nl ≤ 1000000000 := by have := hs.nl; omega
  show Calls Tryz.prog 9 #[.pointer (some ⟨d, 0, none⟩), jv, .agg (opC kd rc n (.slice Ak keep.length ck) (.slice Ab bs.length cb) m)] w _
  unfold Dk.jdo
  dsimp only
  by_cases e0 : kd = 0
  · subst e0
    exact (jdoes_0 h hfs rc n Ak _ ck Ab _ cb m).mono fun e w' k => ⟨_, by rw [if_pos rfl], k⟩
  by_cases e1 : kd = 1
  · subst e1
    exact (jdoes_1 h hfs hnl rc n Ak _ ck Ab _ cb m).mono fun e w' k => ⟨_, by rw [if_neg (by decide), if_pos rfl], k⟩
  by_cases e2 : kd = 2
  · subst e2
    exact (jdoes_2 h hlj rc n hx.n Ak _ ck Ab _ cb m).mono fun e w' k => ⟨_, by rw [if_neg (by decide), if_neg (by decide), if_pos rfl], k⟩
  by_cases e3 : kd = 3
  · subst e3
    exact (jdoes_3 h rc n hx.n Ak _ ck Ab _ cb m).mono fun e w' k => ⟨_, by rw [if_neg (by decide), if_neg (by decide), if_neg (by decide), if_pos rfl], k⟩
  by_cases e4 : kd = 4
  · subst e4
    exact (jdoes_4 h hs ha hb1 rc n Ak ck keep hx.keep hkl Ab _ cb m).mono fun e w' ⟨X, k1, k⟩ => ⟨X, by rw [if_neg (by decide), if_neg (by decide), if_neg (by decide), if_neg (by decide), if_pos rfl]; exact k1, k⟩
  by_cases e5 : kd = 5
  · subst e5
    exact (jdoes_5 h hfs hnl rc n hx.n Ak _ ck Ab cb bs hx.b hbl m).mono fun e w' k => ⟨_, by rw [if_neg (by decide), if_neg (by decide), if_neg (by decide), if_neg (by decide), if_neg (by decide), if_pos rfl], k⟩
  by_cases e6 : kd = 6
  · subst e6
    exact (jdoes_6 h rc n hx.n Ak _ ck Ab _ cb m).mono fun e w' k => ⟨_, by rw [if_neg (by decide), if_neg (by decide), if_neg (by decide), if_neg (by decide), if_neg (by decide), if_neg (by decide), if_pos rfl], k⟩
  by_cases e7 : kd = 7
  · subst e7
    exact (jdoes_7 h rc n hx.n Ak _ ck Ab _ cb m).mono fun e w' k => ⟨_, by rw [if_neg (by decide), if_neg (by decide), if_neg (by decide), if_neg (by decide), if_neg (by decide), if_neg (by decide), if_neg (by decide), if_pos rfl], k⟩
  exact (jdoes_8 h kd (by omega) rc n Ak _ ck Ab _ cb m).mono fun e w' k => ⟨_, by rw [if_neg e0, if_neg e1, if_neg e2, if_neg e3, if_neg e4, if_neg e5, if_neg e6, if_neg e7], k⟩
end
end Go.Proofs.YtipankjajdpiiaaGreat

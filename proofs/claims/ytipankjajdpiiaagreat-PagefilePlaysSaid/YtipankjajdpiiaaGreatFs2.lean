/-
  meant of law08 over any owned state, kind by kind (printed by wip/tools/gen_fs.py).
-/
import Derived.Test.YtipankjajdpiiaaGreatFs1
namespace Go.Proofs.YtipankjajdpiiaaGreat
open Go.RowKit Go.Maps
set_option maxRecDepth 100000
set_option maxHeartbeats 1000000

section
variable {w0 w w' w2 : World} {p : Nat} {O : Own1} {St St' : Own1 → World → Prop} {dv fv : Value} {Ab Ad Ae : Option Addr} {nb cb nd cd ne ce : Nat}
theorem fmeant_create (hS : Sta w0 St) {SF : Value → Own1 → World → Prop} (hS' : ∀ x, Sta w0 (SF x)) (h : St O w) (nm : List UInt8) (k : Int) (D : OpV) {er : Nat} {s : List UInt8}
    (hc : ∀ W, w.grownBy W none → Calls Tryz.prog 53 #[dv, .string ⟨nm.toArray⟩] W fun e w' => ∃ fv', e = .returned (.tuple #[fv', .int .i64 er]) ∧ StN (SF fv') O W w' ∧ Calls Tryz.prog 54 #[fv'] w' fun e w2 => e = .returned (.string ⟨s.toArray⟩) ∧ w' = w2) :
    Calls Tryz.prog 20 #[dv, fv, .agg #[.int .i64 0, .string ⟨nm.toArray⟩, .int .i64 k, .slice Ab nb cb, .int .i64 D.kind, .string ⟨D.name.toArray⟩, .string ⟨D.into.toArray⟩, .int .i64 D.off, .int .i64 D.n, .slice Ad nd cd, .int .u8 D.mask.toNat, .slice Ae ne ce]] w (fun e w' => ∃ fv', ToldF (SF fv') O w ⟨[], [], 0, s, er⟩ fv' e w') := by
  have HC := Lib.hid hc
  have HOF : Hid (∀ k, w.heap.size ≤ k → O k = none) := fun k hk => hS.fresh h hk
  have HW0 := Lib.hid (hS.gr h).size
  have HST := Lib.hid h
  clear h hc
  go_enter Tryz.func20, Tryz.ntmps20
  go_wp2_with fail
  obtain ⟨W, hW⟩ : ∃ W, W = ((w.alloc (.cells #[.int .i64 0, .string ⟨nm.toArray⟩, .int .i64 k, .slice Ab nb cb, .int .i64 D.kind, .string ⟨D.name.toArray⟩, .string ⟨D.into.toArray⟩, .int .i64 D.off, .int .i64 D.n, .slice Ad nd cd, .int .u8 D.mask.toNat, .slice Ae ne ce] 63)).alloc (.cells tZ 57)).alloc (.cells tZ 57) := ⟨_, rfl⟩
  obtain ⟨b3, b4, b6, gW, hz⟩ := does3f w _ hW
  unfold tZ at hW b4 b6
  rw [← hW]
  clear hW
  refine (HC.out W gW).mono ?_
  rintro e w2 ⟨fv', rfl, ⟨O2, s2, c2⟩, hname⟩
  have HNM := Lib.hid hname
  clear hname
  have b42 := c2.blk b4 (HOF.out _ (by omega))
  have b62 := c2.blk b6 (HOF.out _ (by omega))
  have HD : Hid (DoQ w0 (SF fv') O w w2) := DoQ.of ⟨O2, s2, c2⟩ gW hz HOF.out HW0.out
  clear s2 c2 b3 b4 b6 gW hz
  have hc4 := b42.cell
  have hf4 := b42.frozen
  have hc6 := b62.cell
  have hf6 := b62.frozen
  have HB4 := Lib.hid b42
  clear b42 b62
  go_wp2_with fail
  refine HNM.out.mono ?_
  rintro e w3 ⟨rfl, rfl⟩
  go_wp2
  obtain ⟨WF, hWF⟩ : ∃ WF, WF = ((((w2.setCell ⟨w.heap.size + 1, 0, none⟩ (.slice none 0 0)).setCell ⟨w.heap.size + 1, 1, none⟩ (.slice none 0 0)).setCell ⟨w.heap.size + 1, 2, none⟩ (.int .i64 0)).setCell ⟨w.heap.size + 1, 3, none⟩ (.string ⟨s.toArray⟩)).setCell ⟨w.heap.size + 1, 4, none⟩ (.int .i64 er) := ⟨_, rfl⟩
  rw [← hWF]
  have hcf := ffin (by rfl) HB4.out _ _ _ _ _ hWF
  have HDF : Hid (DoQ w0 (SF fv') O w WF) := HD.out.fin (hS' fv') (.inl rfl) _ _ _ _ _ hWF
  clear hWF hc4 hf4 hc6 hf6
  exact bodyPost_ret (v := .tuple #[.agg #[.slice none 0 0, .slice none 0 0, .int .i64 0, .string ⟨s.toArray⟩, .int .i64 er], fv']) (by simp [results, Tryz.results20, go_sem, hcf]) rfl ⟨fv', ToldF.name HDF.out.stn⟩
theorem fmeant_open (hS : Sta w0 St) {SF : Value → Own1 → World → Prop} (hS' : ∀ x, Sta w0 (SF x)) (h : St O w) (nm : List UInt8) (k : Int) (D : OpV) {er : Nat} {s : List UInt8}
    (hc : ∀ W, w.grownBy W none → Calls Tryz.prog 55 #[dv, .string ⟨nm.toArray⟩] W fun e w' => ∃ fv', e = .returned (.tuple #[fv', .int .i64 er]) ∧ StN (SF fv') O W w' ∧ Calls Tryz.prog 54 #[fv'] w' fun e w2 => e = .returned (.string ⟨s.toArray⟩) ∧ w' = w2) :
    Calls Tryz.prog 20 #[dv, fv, .agg #[.int .i64 1, .string ⟨nm.toArray⟩, .int .i64 k, .slice Ab nb cb, .int .i64 D.kind, .string ⟨D.name.toArray⟩, .string ⟨D.into.toArray⟩, .int .i64 D.off, .int .i64 D.n, .slice Ad nd cd, .int .u8 D.mask.toNat, .slice Ae ne ce]] w (fun e w' => ∃ fv', ToldF (SF fv') O w ⟨[], [], 0, s, er⟩ fv' e w') := by
  have HC := Lib.hid hc
  have HOF : Hid (∀ k, w.heap.size ≤ k → O k = none) := fun k hk => hS.fresh h hk
  have HW0 := Lib.hid (hS.gr h).size
  have HST := Lib.hid h
  clear h hc
  go_enter Tryz.func20, Tryz.ntmps20
  go_wp2_with fail
  obtain ⟨W, hW⟩ : ∃ W, W = ((w.alloc (.cells #[.int .i64 1, .string ⟨nm.toArray⟩, .int .i64 k, .slice Ab nb cb, .int .i64 D.kind, .string ⟨D.name.toArray⟩, .string ⟨D.into.toArray⟩, .int .i64 D.off, .int .i64 D.n, .slice Ad nd cd, .int .u8 D.mask.toNat, .slice Ae ne ce] 63)).alloc (.cells tZ 57)).alloc (.cells tZ 57) := ⟨_, rfl⟩
  obtain ⟨b3, b4, b6, gW, hz⟩ := does3f w _ hW
  unfold tZ at hW b4 b6
  rw [← hW]
  clear hW
  refine (HC.out W gW).mono ?_
  rintro e w2 ⟨fv', rfl, ⟨O2, s2, c2⟩, hname⟩
  have HNM := Lib.hid hname
  clear hname
  have b42 := c2.blk b4 (HOF.out _ (by omega))
  have b62 := c2.blk b6 (HOF.out _ (by omega))
  have HD : Hid (DoQ w0 (SF fv') O w w2) := DoQ.of ⟨O2, s2, c2⟩ gW hz HOF.out HW0.out
  clear s2 c2 b3 b4 b6 gW hz
  have hc4 := b42.cell
  have hf4 := b42.frozen
  have hc6 := b62.cell
  have hf6 := b62.frozen
  have HB4 := Lib.hid b42
  clear b42 b62
  go_wp2_with fail
  refine HNM.out.mono ?_
  rintro e w3 ⟨rfl, rfl⟩
  go_wp2
  obtain ⟨WF, hWF⟩ : ∃ WF, WF = ((((w2.setCell ⟨w.heap.size + 1, 0, none⟩ (.slice none 0 0)).setCell ⟨w.heap.size + 1, 1, none⟩ (.slice none 0 0)).setCell ⟨w.heap.size + 1, 2, none⟩ (.int .i64 0)).setCell ⟨w.heap.size + 1, 3, none⟩ (.string ⟨s.toArray⟩)).setCell ⟨w.heap.size + 1, 4, none⟩ (.int .i64 er) := ⟨_, rfl⟩
  rw [← hWF]
  have hcf := ffin (by rfl) HB4.out _ _ _ _ _ hWF
  have HDF : Hid (DoQ w0 (SF fv') O w WF) := HD.out.fin (hS' fv') (.inl rfl) _ _ _ _ _ hWF
  clear hWF hc4 hf4 hc6 hf6
  exact bodyPost_ret (v := .tuple #[.agg #[.slice none 0 0, .slice none 0 0, .int .i64 0, .string ⟨s.toArray⟩, .int .i64 er], fv']) (by simp [results, Tryz.results20, go_sem, hcf]) rfl ⟨fv', ToldF.name HDF.out.stn⟩
theorem fmeant_sync (hS : Sta w0 St) (hS' : Sta w0 St') (h : St O w) (nm : List UInt8) (k : Int) (D : OpV) {er : Nat}
    (hc : ∀ W, w.grownBy W none → Calls Tryz.prog 58 #[fv] W fun e w' => e = .returned (.int .i64 er) ∧ StN St' O W w') :
    Calls Tryz.prog 20 #[dv, fv, .agg #[.int .i64 4, .string ⟨nm.toArray⟩, .int .i64 k, .slice Ab nb cb, .int .i64 D.kind, .string ⟨D.name.toArray⟩, .string ⟨D.into.toArray⟩, .int .i64 D.off, .int .i64 D.n, .slice Ad nd cd, .int .u8 D.mask.toNat, .slice Ae ne ce]] w (ToldF St' O w ⟨[], [], 0, [], er⟩ fv) := by
  have HC := Lib.hid hc
  have HOF : Hid (∀ k, w.heap.size ≤ k → O k = none) := fun k hk => hS.fresh h hk
  have HW0 := Lib.hid (hS.gr h).size
  have HST := Lib.hid h
  clear h hc
  go_enter Tryz.func20, Tryz.ntmps20
  go_wp2_with fail
  obtain ⟨W, hW⟩ : ∃ W, W = ((w.alloc (.cells #[.int .i64 4, .string ⟨nm.toArray⟩, .int .i64 k, .slice Ab nb cb, .int .i64 D.kind, .string ⟨D.name.toArray⟩, .string ⟨D.into.toArray⟩, .int .i64 D.off, .int .i64 D.n, .slice Ad nd cd, .int .u8 D.mask.toNat, .slice Ae ne ce] 63)).alloc (.cells tZ 57)).alloc (.cells tZ 57) := ⟨_, rfl⟩
  obtain ⟨b3, b4, b6, gW, hz⟩ := does3f w _ hW
  unfold tZ at hW b4 b6
  rw [← hW]
  clear hW
  refine (HC.out W gW).mono ?_
  rintro e w2 ⟨rfl, O2, s2, c2⟩
  have b42 := c2.blk b4 (HOF.out _ (by omega))
  have b62 := c2.blk b6 (HOF.out _ (by omega))
  have HD : Hid (DoQ w0 St' O w w2) := DoQ.of ⟨O2, s2, c2⟩ gW hz HOF.out HW0.out
  clear s2 c2 b3 b4 b6 gW hz
  have hc4 := b42.cell
  have hf4 := b42.frozen
  have hc6 := b62.cell
  have hf6 := b62.frozen
  have HB4 := Lib.hid b42
  clear b42 b62
  go_wp2
  obtain ⟨W3, hW3⟩ : ∃ W3, W3 = (w2.setCell ⟨w.heap.size + 1 + 1, 4, none⟩ (.int .i64 er)) := ⟨_, rfl⟩
  rw [← hW3]
  have hb3 : Blk W3 (w.heap.size + 1) 57 tZ := by rw [hW3]; unfold tZ; exact (HB4.out.far (by simp) _)
  have hd3 : DoQ w0 St' O w W3 := by rw [hW3]; exact (HD.out.set hS' (.inr rfl) _ _)
  obtain ⟨WF, hWF⟩ : ∃ WF, WF = ((((W3.setCell ⟨w.heap.size + 1, 0, none⟩ (.slice none 0 0)).setCell ⟨w.heap.size + 1, 1, none⟩ (.slice none 0 0)).setCell ⟨w.heap.size + 1, 2, none⟩ (.int .i64 0)).setCell ⟨w.heap.size + 1, 3, none⟩ (.string ⟨#[]⟩)).setCell ⟨w.heap.size + 1, 4, none⟩ (.int .i64 er) := ⟨_, rfl⟩
  rw [← hWF]
  have hcf := ffin (by rfl) hb3 _ _ _ _ _ hWF
  have HDF : Hid (DoQ w0 St' O w WF) := hd3.fin hS' (.inl rfl) _ _ _ _ _ hWF
  clear hWF hW3 hb3 hd3 hc4 hf4 hc6 hf6
  exact bodyPost_ret (v := .tuple #[.agg #[(.slice none 0 0), (.slice none 0 0), (.int .i64 0), (.string ⟨#[]⟩), (.int .i64 er)], fv]) (by simp [results, Tryz.results20, go_sem, hcf]) rfl (ToldF.err HDF.out.stn)
theorem fmeant_pages (hS : Sta w0 St) (hS' : Sta w0 St') (h : St O w) (nm : List UInt8) (k : Int) (D : OpV) {n er : Nat}
    (hc : ∀ W, w.grownBy W none → Calls Tryz.prog 59 #[fv] W fun e w' => e = .returned (.tuple #[.int .i64 (n : Nat), .int .i64 er]) ∧ StN St' O W w') :
    Calls Tryz.prog 20 #[dv, fv, .agg #[.int .i64 5, .string ⟨nm.toArray⟩, .int .i64 k, .slice Ab nb cb, .int .i64 D.kind, .string ⟨D.name.toArray⟩, .string ⟨D.into.toArray⟩, .int .i64 D.off, .int .i64 D.n, .slice Ad nd cd, .int .u8 D.mask.toNat, .slice Ae ne ce]] w (ToldF St' O w ⟨[], [], n, [], er⟩ fv) := by
  have HC := Lib.hid hc
  have HOF : Hid (∀ k, w.heap.size ≤ k → O k = none) := fun k hk => hS.fresh h hk
  have HW0 := Lib.hid (hS.gr h).size
  have HST := Lib.hid h
  clear h hc
  go_enter Tryz.func20, Tryz.ntmps20
  go_wp2_with fail
  obtain ⟨W, hW⟩ : ∃ W, W = ((w.alloc (.cells #[.int .i64 5, .string ⟨nm.toArray⟩, .int .i64 k, .slice Ab nb cb, .int .i64 D.kind, .string ⟨D.name.toArray⟩, .string ⟨D.into.toArray⟩, .int .i64 D.off, .int .i64 D.n, .slice Ad nd cd, .int .u8 D.mask.toNat, .slice Ae ne ce] 63)).alloc (.cells tZ 57)).alloc (.cells tZ 57) := ⟨_, rfl⟩
  obtain ⟨b3, b4, b6, gW, hz⟩ := does3f w _ hW
  unfold tZ at hW b4 b6
  rw [← hW]
  clear hW
  refine (HC.out W gW).mono ?_
  rintro e w2 ⟨rfl, O2, s2, c2⟩
  have b42 := c2.blk b4 (HOF.out _ (by omega))
  have b62 := c2.blk b6 (HOF.out _ (by omega))
  have HD : Hid (DoQ w0 St' O w w2) := DoQ.of ⟨O2, s2, c2⟩ gW hz HOF.out HW0.out
  clear s2 c2 b3 b4 b6 gW hz
  have hc4 := b42.cell
  have hf4 := b42.frozen
  have hc6 := b62.cell
  have hf6 := b62.frozen
  have HB4 := Lib.hid b42
  clear b42 b62
  go_wp2
  obtain ⟨W3, hW3⟩ : ∃ W3, W3 = ((w2.setCell ⟨w.heap.size + 1 + 1, 2, none⟩ (.int .i64 (n : Nat))).setCell ⟨w.heap.size + 1 + 1, 4, none⟩ (.int .i64 er)) := ⟨_, rfl⟩
  rw [← hW3]
  have hb3 : Blk W3 (w.heap.size + 1) 57 tZ := by rw [hW3]; unfold tZ; exact ((HB4.out.far (by simp) _).far (by simp) _)
  have hd3 : DoQ w0 St' O w W3 := by rw [hW3]; exact ((HD.out.set hS' (.inr rfl) _ _).set hS' (.inr rfl) _ _)
  obtain ⟨WF, hWF⟩ : ∃ WF, WF = ((((W3.setCell ⟨w.heap.size + 1, 0, none⟩ (.slice none 0 0)).setCell ⟨w.heap.size + 1, 1, none⟩ (.slice none 0 0)).setCell ⟨w.heap.size + 1, 2, none⟩ (.int .i64 (n : Nat))).setCell ⟨w.heap.size + 1, 3, none⟩ (.string ⟨#[]⟩)).setCell ⟨w.heap.size + 1, 4, none⟩ (.int .i64 er) := ⟨_, rfl⟩
  rw [← hWF]
  have hcf := ffin (by rfl) hb3 _ _ _ _ _ hWF
  have HDF : Hid (DoQ w0 St' O w WF) := hd3.fin hS' (.inl rfl) _ _ _ _ _ hWF
  clear hWF hW3 hb3 hd3 hc4 hf4 hc6 hf6
  exact bodyPost_ret (v := .tuple #[.agg #[(.slice none 0 0), (.slice none 0 0), (.int .i64 (n : Nat)), (.string ⟨#[]⟩), (.int .i64 er)], fv]) (by simp [results, Tryz.results20, go_sem, hcf]) rfl (ToldF.num HDF.out.stn)
theorem fmeant_bad (hS : Sta w0 St) (h : St O w) (nm : List UInt8) (k : Int) (D : OpV) {er : Nat} {l : List Int}
    (hc : ∀ W, w.grownBy W none → Calls Tryz.prog 60 #[dv, .string ⟨nm.toArray⟩] W fun e w' => (∃ v, e = .returned (.tuple #[v, .int .i64 er]) ∧ OwnI w' W.heap.size v l) ∧ W.grownBy w' none) :
    Calls Tryz.prog 20 #[dv, fv, .agg #[.int .i64 6, .string ⟨nm.toArray⟩, .int .i64 k, .slice Ab nb cb, .int .i64 D.kind, .string ⟨D.name.toArray⟩, .string ⟨D.into.toArray⟩, .int .i64 D.off, .int .i64 D.n, .slice Ad nd cd, .int .u8 D.mask.toNat, .slice Ae ne ce]] w (ToldF St O w ⟨[], l, 0, [], er⟩ fv) := by
  have HC := Lib.hid hc
  have HOF : Hid (∀ k, w.heap.size ≤ k → O k = none) := fun k hk => hS.fresh h hk
  have HW0 := Lib.hid (hS.gr h).size
  have HST := Lib.hid h
  clear h hc
  go_enter Tryz.func20, Tryz.ntmps20
  go_wp2_with fail
  obtain ⟨W, hW⟩ : ∃ W, W = ((w.alloc (.cells #[.int .i64 6, .string ⟨nm.toArray⟩, .int .i64 k, .slice Ab nb cb, .int .i64 D.kind, .string ⟨D.name.toArray⟩, .string ⟨D.into.toArray⟩, .int .i64 D.off, .int .i64 D.n, .slice Ad nd cd, .int .u8 D.mask.toNat, .slice Ae ne ce] 63)).alloc (.cells tZ 57)).alloc (.cells tZ 57) := ⟨_, rfl⟩
  obtain ⟨b3, b4, b6, gW, hz⟩ := does3f w _ hW
  unfold tZ at hW b4 b6
  rw [← hW]
  clear hW
  refine (HC.out W gW).mono ?_
  rintro e w2 ⟨⟨v2, rfl, hr2⟩, g2⟩
  obtain ⟨A2, c2', ev2⟩ := RdI.form (Own.rd hr2)
  subst ev2
  have HR2 := Lib.hid hr2
  have HOFF : Hid (∀ (wx : World) (K off : Nat) (x : Value), K < W.heap.size → OwnI wx W.heap.size (.slice A2 l.length c2') l → OwnI (wx.setCell ⟨K, off, none⟩ x) W.heap.size (.slice A2 l.length c2') l) := fun wx K off x hK h => Own.off h (gr_setCell wx ⟨K, off, none⟩ x) fun q e e2 => by
    have hq : K = q := Option.some.inj e
    have := (Own.blk_lt h (by omega) e2).1
    omega
  have hw1 : w.heap.size + 1 < W.heap.size := by omega
  have hw2 : w.heap.size + 1 + 1 < W.heap.size := by omega
  have HWW : Hid (w.heap.size + 1 < W.heap.size ∧ w.heap.size + 1 + 1 < W.heap.size) := ⟨hw1, hw2⟩
  have b42 := b4.ext g2
  have b62 := b6.ext g2
  have HD : Hid (DoQ w0 St O w w2) := DoQ.of ⟨O, hS.ext HST.out (gr_none gW g2), Ch.ext g2⟩ gW hz HOF.out HW0.out
  have HZ : Hid (w.heap.size + 3 ≤ w2.heap.size) := Nat.le_trans hz g2.size
  have HGW : Hid (w.grownBy w2 none) := gr_none gW g2
  clear b3 b4 b6 gW hz hr2 g2 hw1 hw2
  have hc4 := b42.cell
  have hf4 := b42.frozen
  have hc6 := b62.cell
  have hf6 := b62.frozen
  have HB4 := Lib.hid b42
  clear b42 b62
  go_wp2
  obtain ⟨W3, hW3⟩ : ∃ W3, W3 = (w2.setCell ⟨w.heap.size + 1 + 1, 1, none⟩ (.slice A2 l.length c2')).setCell ⟨w.heap.size + 1 + 1, 4, none⟩ (.int .i64 er) := ⟨_, rfl⟩
  rw [← hW3]
  have hb3 : Blk W3 (w.heap.size + 1) 57 tZ := by rw [hW3]; unfold tZ; exact (HB4.out.far (by simp) _).far (by simp) _
  have hd3 : DoQ w0 St O w W3 := by rw [hW3]; exact (HD.out.set hS (.inr rfl) _ _).set hS (.inr rfl) _ _
  obtain ⟨WF, hWF⟩ : ∃ WF, WF = ((((W3.setCell ⟨w.heap.size + 1, 0, none⟩ (.slice none 0 0)).setCell ⟨w.heap.size + 1, 1, none⟩ (.slice A2 l.length c2')).setCell ⟨w.heap.size + 1, 2, none⟩ (.int .i64 0)).setCell ⟨w.heap.size + 1, 3, none⟩ (.string ⟨#[]⟩)).setCell ⟨w.heap.size + 1, 4, none⟩ (.int .i64 er) := ⟨_, rfl⟩
  rw [← hWF]
  have hcf := ffin (by rfl) hb3 _ _ _ _ _ hWF
  have HDF : Hid (DoQ w0 St O w WF) := hd3.fin hS (.inl rfl) _ _ _ _ _ hWF
  have HRF : Hid (OwnI WF W.heap.size (.slice A2 l.length c2') l) := by
    show OwnI _ _ _ _
    rw [hWF, hW3]
    exact (HOFF.out _ _ _ _ HWW.out.1 (HOFF.out _ _ _ _ HWW.out.1 (HOFF.out _ _ _ _ HWW.out.1 (HOFF.out _ _ _ _ HWW.out.1 (HOFF.out _ _ _ _ HWW.out.1 (HOFF.out _ _ _ _ HWW.out.2 (HOFF.out _ _ _ _ HWW.out.2 HR2.out)))))))
  clear hWF hW3 hb3 hd3 hc4 hf4 hc6 hf6
  refine bodyPost_ret (v := .tuple #[.agg #[.slice none 0 0, .slice A2 l.length c2', .int .i64 0, .string ⟨#[]⟩, .int .i64 er], fv]) (by simp [results, Tryz.results20, go_sem, hcf]) rfl ?_
  obtain ⟨O9, s9, c9⟩ := HDF.out.stn
  exact ⟨none, A2, 0, c2', rfl, OwnB.nil _ _, Own.mono HRF.out (by have := HWW.out.1; omega), O9, s9, c9⟩
theorem fmeant_raw (hS : Sta w0 St) (hS' : Sta w0 St') (h : St O w) (nm : List UInt8) (k : Int) (D : OpV) {er : Nat}
    (hc : ∀ W, w.grownBy W none → Calls Tryz.prog 61 #[dv, .agg #[.int .i64 D.kind, .string ⟨D.name.toArray⟩, .string ⟨D.into.toArray⟩, .int .i64 D.off, .int .i64 D.n, .slice Ad nd cd, .int .u8 D.mask.toNat, .slice Ae ne ce]] W fun e w' => e = .returned (.int .i64 er) ∧ StN St' O W w') :
    Calls Tryz.prog 20 #[dv, fv, .agg #[.int .i64 7, .string ⟨nm.toArray⟩, .int .i64 k, .slice Ab nb cb, .int .i64 D.kind, .string ⟨D.name.toArray⟩, .string ⟨D.into.toArray⟩, .int .i64 D.off, .int .i64 D.n, .slice Ad nd cd, .int .u8 D.mask.toNat, .slice Ae ne ce]] w (ToldF St' O w ⟨[], [], 0, [], er⟩ fv) := by
  have HC := Lib.hid hc
  have HOF : Hid (∀ k, w.heap.size ≤ k → O k = none) := fun k hk => hS.fresh h hk
  have HW0 := Lib.hid (hS.gr h).size
  have HST := Lib.hid h
  clear h hc
  go_enter Tryz.func20, Tryz.ntmps20
  go_wp2_with fail
  obtain ⟨W, hW⟩ : ∃ W, W = ((w.alloc (.cells #[.int .i64 7, .string ⟨nm.toArray⟩, .int .i64 k, .slice Ab nb cb, .int .i64 D.kind, .string ⟨D.name.toArray⟩, .string ⟨D.into.toArray⟩, .int .i64 D.off, .int .i64 D.n, .slice Ad nd cd, .int .u8 D.mask.toNat, .slice Ae ne ce] 63)).alloc (.cells tZ 57)).alloc (.cells tZ 57) := ⟨_, rfl⟩
  obtain ⟨b3, b4, b6, gW, hz⟩ := does3f w _ hW
  unfold tZ at hW b4 b6
  rw [← hW]
  clear hW
  refine (HC.out W gW).mono ?_
  rintro e w2 ⟨rfl, O2, s2, c2⟩
  have b42 := c2.blk b4 (HOF.out _ (by omega))
  have b62 := c2.blk b6 (HOF.out _ (by omega))
  have HD : Hid (DoQ w0 St' O w w2) := DoQ.of ⟨O2, s2, c2⟩ gW hz HOF.out HW0.out
  clear s2 c2 b3 b4 b6 gW hz
  have hc4 := b42.cell
  have hf4 := b42.frozen
  have hc6 := b62.cell
  have hf6 := b62.frozen
  have HB4 := Lib.hid b42
  clear b42 b62
  go_wp2
  obtain ⟨W3, hW3⟩ : ∃ W3, W3 = (w2.setCell ⟨w.heap.size + 1 + 1, 4, none⟩ (.int .i64 er)) := ⟨_, rfl⟩
  rw [← hW3]
  have hb3 : Blk W3 (w.heap.size + 1) 57 tZ := by rw [hW3]; unfold tZ; exact (HB4.out.far (by simp) _)
  have hd3 : DoQ w0 St' O w W3 := by rw [hW3]; exact (HD.out.set hS' (.inr rfl) _ _)
  obtain ⟨WF, hWF⟩ : ∃ WF, WF = ((((W3.setCell ⟨w.heap.size + 1, 0, none⟩ (.slice none 0 0)).setCell ⟨w.heap.size + 1, 1, none⟩ (.slice none 0 0)).setCell ⟨w.heap.size + 1, 2, none⟩ (.int .i64 0)).setCell ⟨w.heap.size + 1, 3, none⟩ (.string ⟨#[]⟩)).setCell ⟨w.heap.size + 1, 4, none⟩ (.int .i64 er) := ⟨_, rfl⟩
  rw [← hWF]
  have hcf := ffin (by rfl) hb3 _ _ _ _ _ hWF
  have HDF : Hid (DoQ w0 St' O w WF) := hd3.fin hS' (.inl rfl) _ _ _ _ _ hWF
  clear hWF hW3 hb3 hd3 hc4 hf4 hc6 hf6
  exact bodyPost_ret (v := .tuple #[.agg #[(.slice none 0 0), (.slice none 0 0), (.int .i64 0), (.string ⟨#[]⟩), (.int .i64 er)], fv]) (by simp [results, Tryz.results20, go_sem, hcf]) rfl (ToldF.err HDF.out.stn)
theorem fmeant_other (hS : Sta w0 St) (h : St O w) {kd : Int} (hkd : ¬ (kd = 0 ∨ kd = 1 ∨ kd = 2 ∨ kd = 3 ∨ kd = 4 ∨ kd = 5 ∨ kd = 6 ∨ kd = 7)) (nm : List UInt8) (k : Int) (D : OpV) :
    Calls Tryz.prog 20 #[dv, fv, .agg #[.int .i64 kd, .string ⟨nm.toArray⟩, .int .i64 k, .slice Ab nb cb, .int .i64 D.kind, .string ⟨D.name.toArray⟩, .string ⟨D.into.toArray⟩, .int .i64 D.off, .int .i64 D.n, .slice Ad nd cd, .int .u8 D.mask.toNat, .slice Ae ne ce]] w (ToldF St O w ⟨[], [], 0, [], 0⟩ fv) := by
  have q0 : (kd == 0) = false := by rw [beq_eq_false_iff_ne]; omega
  have q1 : (kd == 1) = false := by rw [beq_eq_false_iff_ne]; omega
  have q2 : (kd == 2) = false := by rw [beq_eq_false_iff_ne]; omega
  have q3 : (kd == 3) = false := by rw [beq_eq_false_iff_ne]; omega
  have q4 : (kd == 4) = false := by rw [beq_eq_false_iff_ne]; omega
  have q5 : (kd == 5) = false := by rw [beq_eq_false_iff_ne]; omega
  have q6 : (kd == 6) = false := by rw [beq_eq_false_iff_ne]; omega
  have q7 : (kd == 7) = false := by rw [beq_eq_false_iff_ne]; omega
  have HOF : Hid (∀ k, w.heap.size ≤ k → O k = none) := fun k hk => hS.fresh h hk
  have HW0 := Lib.hid (hS.gr h).size
  have HST := Lib.hid h
  obtain ⟨W, hW⟩ : ∃ W, W = ((w.alloc (.cells #[.int .i64 kd, .string ⟨nm.toArray⟩, .int .i64 k, .slice Ab nb cb, .int .i64 D.kind, .string ⟨D.name.toArray⟩, .string ⟨D.into.toArray⟩, .int .i64 D.off, .int .i64 D.n, .slice Ad nd cd, .int .u8 D.mask.toNat, .slice Ae ne ce] 63)).alloc (.cells tZ 57)).alloc (.cells tZ 57) := ⟨_, rfl⟩
  obtain ⟨b3, b4, b6, gW, hz⟩ := does3f w _ hW
  have HD : Hid (DoQ w0 St O w W) := DoQ.of ⟨O, hS.ext h gW, Ch.refl _ _⟩ gW hz HOF.out HW0.out
  have HB4 := Lib.hid b4
  have hc4 := b4.cell
  have hf4 := b4.frozen
  have hc6 := b6.cell
  have hf6 := b6.frozen
  have HW := Lib.hid hW
  rw [hW] at hc4 hf4 hc6 hf6
  unfold tZ at hc4 hf4 hc6 hf6 HW
  clear h hkd b3 b4 b6 gW hz hW
  go_enter Tryz.func20, Tryz.ntmps20
  go_wp2
  rw [← HW.out]
  have hcf := HB4.out.cell
  unfold tZ at hcf
  clear hc4 hf4 hc6 hf6
  exact bodyPost_ret (v := .tuple #[.agg #[.slice none 0 0, .slice none 0 0, .int .i64 0, .string ⟨#[]⟩, .int .i64 0], fv]) (by simp [results, Tryz.results20, go_sem, hcf]) rfl (ToldF.err (er := 0) HD.out.stn)
end
end Go.Proofs.YtipankjajdpiiaaGreat

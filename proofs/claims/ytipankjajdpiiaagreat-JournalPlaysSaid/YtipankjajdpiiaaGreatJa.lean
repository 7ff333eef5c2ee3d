/-
  journal's Add on a disk whose power may go (printed by wip/tools/gen_ja.py).
-/
import Derived.Test.YtipankjajdpiiaaGreatJ6
namespace Go.Proofs.YtipankjajdpiiaaGreat
open Go.RowKit
set_option maxRecDepth 100000
set_option maxHeartbeats 400000

/-- a disk's blocks, and a journal's. -/
def jo (o : Own1) (jb : Nat) (v : Value) : Own1 := fun i => if i = jb ∨ blk v = some i then some (9, []) else o i
theorem jo_none {o : Own1} {jb : Nat} {v : Value} {i : Nat} (h : jo o jb v i = none) : i ≠ jb ∧ blk v ≠ some i ∧ o i = none := by
  unfold jo at h
  split at h
  · cases h
  · next hn => exact ⟨fun e => hn (.inl e), fun e => hn (.inr e), h⟩
theorem jo_none_mk {o : Own1} {jb : Nat} {v : Value} {i : Nat} (h1 : i ≠ jb) (h2 : blk v ≠ some i) (h3 : o i = none) : jo o jb v i = none := by
  unfold jo
  rw [if_neg (fun h => h.elim h1 h2)]; exact h3
theorem Ch.jo {o o' : Own1} {w w' : World} (h : Ch o w o' w') {jb : Nat} {v : Value} : Ch (jo o jb v) w (jo o' jb v) w' :=
  ⟨h.os, h.tape, h.output, h.size, fun i hi h0 => h.block i hi (jo_none h0).2.2, fun i hi h0 => jo_none_mk (jo_none h0).1 (jo_none h0).2.1 (h.free i hi (jo_none h0).2.2)⟩
section
variable {w w' : World} {B d jb : Nat} {o o' : Own1} {S : Dk} {c : Con} {v : Value} {l : List Rc}
def AddG (o : Own1) (w : World) (B d jb : Nat) (v : Value) (l : List Rc) (r : Rc) (S1 S2 : Dk) (e1 e2 : Nat) (e : Ending) (w' : World) : Prop :=
  ∃ v' o' c' Sx lx, ∃ er : Nat, e = .returned (.int .i64 er) ∧ DI w' B o' d Sx c' ∧ JR w' B o' jb d v' lx ∧ Ch (jo o jb v) w (jo o' jb v') w' ∧
    ((e1 = 6 ∧ er = 6 ∧ Sx = S1 ∧ lx = l) ∨ (e1 = 0 ∧ e2 = 6 ∧ er = 6 ∧ Sx = S2 ∧ lx = l) ∨ (e1 = 0 ∧ e2 = 0 ∧ er = 0 ∧ Sx = S2 ∧ lx = l ++ [r]))
set_option maxHeartbeats 4000000 in
theorem add_gen (h : DI w B o d S c) (hj : JR w B o jb d v l) (r : Rc) (hr : r.k ≠ 0) (hl : l.length < 65536) (hsz : 64 * l.length + 64 ≤ 16777216) (hfs : S.fs.length ≤ 1000000) (hnl : S.nl ≤ 4611686018427387000)
    {S1 S2 : Dk} {e1 e2 : Nat} (hw : S.write jn ((64 * l.length : Nat) : Int) (secB (l.length + 1) r) = (S1, e1)) (h1 : e1 = 0 ∨ e1 = 6) (hs : e1 = 0 → S1.sync jn = (S2, e2)) (h2 : e1 = 0 → e2 = 0 ∨ e2 = 6) :
    Calls Tryz.prog 23 #[.pointer (some ⟨jb, 0, none⟩), .agg r.cells] w (AddG o w B d jb v l r S1 S2 e1 e2) := by
  obtain ⟨A, cv, rfl⟩ := hj.own.rd.form
  have hrk := r.k.toNat_lt
  have hra := r.a.toNat_lt
  have hrb := r.b.toNat_lt
  have hk0 : ((r.k.toNat : Int) == 0) = false := by
    rw [beq_eq_false_iff_ne]
    intro e
    exact hr (UInt32.toNat_inj.1 (by simpa using e))
  have hc0 : w.cell? ⟨jb, 0, none⟩ = some (.pointer (some ⟨d, 0, none⟩)) := hj.box.cell 0
  have hc1 : w.cell? ⟨jb, 1, none⟩ = some (.slice A l.length cv) := hj.box.cell 1
  have HBW := Lib.hid (Blk.new w 38 r.cells)
  have H := Lib.hid h
  have HJ := Lib.hid hj
  have HWQ := Lib.hid hw
  have HRC : Hid (r.cells = #[.int .u32 r.k.toNat, .int .u32 r.a.toNat, .int .u32 r.b.toNat]) := rfl
  have hli : (l.length : Int) < 65536 := by omega
  have HL := Lib.hid hl
  have hge : decide ((65536 : Int) ≤ (l.length : Int)) = false := by simp only [decide_eq_false_iff_not]; omega
  have hge2 : decide (65536 ≤ l.length) = false := by simp only [decide_eq_false_iff_not]; omega
  have HNL := Lib.hid hnl
  have HSZ := Lib.hid hsz
  clear h hj hw hr hnl hsz hl
  unfold Rc.cells at HBW ⊢
  have hjw : jb < w.heap.size := HJ.out.box.lt
  rcases h1 with rfl | rfl
  · have hs' := hs rfl
    have h2' := h2 rfl
    clear hs h2
    rcases h2' with rfl | rfl
    · have HS' := Lib.hid hs'
      clear hs'
      have hfree : ∀ k, w.heap.size ≤ k → o k = none := fun k hk => by
        cases e : o k with
        | none => rfl
        | some t => exact absurd (H.out.inb k (by rw [e]; simp)).2 (by omega)
      have hsec : Hid (∀ N : Int, N = (l.length : Int) + 1 → Calls Tryz.prog 70 #[.slice (some ⟨w.heap.size + 1, 0, none⟩) 4 4] (((w.alloc (.cells #[.int .u32 r.k.toNat, .int .u32 r.a.toNat, .int .u32 r.b.toNat] 38)).alloc (.cells #[.int .u32 N, .int .u32 r.k.toNat, .int .u32 r.a.toNat, .int .u32 r.b.toNat] 36)).drew)
          fun e w' => (∃ v', e = .returned v' ∧ OwnB w' w.heap.size v' (secB (l.length + 1) r)) ∧ w.grownBy w' none ∧ (((w.alloc (.cells #[.int .u32 r.k.toNat, .int .u32 r.a.toNat, .int .u32 r.b.toNat] 38))).grownBy w' none)) := fun N hN => by
        subst hN
        have hrdl := rd_lit (w.alloc (.cells #[.int .u32 r.k.toNat, .int .u32 r.a.toNat, .int .u32 r.b.toNat] 38)) 1 4 4 #[.int .u32 ((l.length : Int) + 1), .int .u32 r.k.toNat, .int .u32 r.a.toNat, .int .u32 r.b.toNat] 36 rfl (Nat.le_refl _) (by unfold maxLen; omega)
        rw [World.size_alloc] at hrdl
        have e1 : ((l.length + 1 : Nat) : Int) = (l.length : Int) + 1 := by omega
        refine (sector_rec _ (l.length + 1) (by omega) r _ (by rw [e1]; exact hrdl)).mono ?_
        rintro e w' ⟨⟨v', rfl, o1⟩, g1⟩
        refine ⟨⟨v', rfl, Own.mono o1 ?_⟩, ?_, ?_⟩
        · show w.heap.size ≤ ((w.alloc _).alloc _).heap.size
          rw [World.size_alloc, World.size_alloc]; omega
        · exact gr_none (gr_none (gr_none (gr_alloc _ _ none) (gr_alloc _ _ none)) (gr_drew _ none)) g1
        · exact gr_none (gr_none (gr_alloc _ _ none) (gr_drew _ none)) g1
      have hwr : Hid (∀ (wx : World) (v3 : Value) (N : Int), N = (l.length : Int) * 64 → w.grownBy wx none → OwnB wx w.heap.size v3 (secB (l.length + 1) r) → Calls Tryz.prog 27 #[.pointer (some ⟨d, 0, none⟩), .string ⟨jn.toArray⟩, .int .i64 N, v3] wx fun e w' =>
          e = .returned (.int .i64 (0 : Nat)) ∧ DOut o wx B d S1 w') := fun wx v3 N hN hx ho => by
        have hw := write_any (H.out.ext hx) jn (by simp) ((64 * l.length : Nat) : Int) (by have := HSZ.out; omega) v3 _ ho.rd (fun k hk => ⟨(Own.blk_lt ho (by omega) hk).2, hfree k (Own.blk_lt ho (by omega) hk).1⟩) (by rw [secB_len]; omega) hfs (by rw [secB_len]; have := HNL.out; omega)
        rw [HWQ.out] at hw
        rw [hN, show (l.length : Int) * 64 = ((64 * l.length : Nat) : Int) from by omega]
        exact hw
      have hs1 : IntKind.i64.wrap ((l.length : Int) + 1) = (l.length : Int) + 1 := by rw [IntWalk.i64_in _ (by omega)]
      have hs2 : IntKind.u32.wrap ((l.length : Int) + 1) = (l.length : Int) + 1 := by rw [IntWalk.u32_in _ (by omega)]
      have hs3 : IntKind.i64.wrap ((l.length : Int) * 64) = (l.length : Int) * 64 := by rw [IntWalk.i64_in _ (by omega)]
      have hs4 : ((l.length : Int) + 1) % 4294967296 = (l.length : Int) + 1 := by omega
      go_enter Tryz.func23, Tryz.ntmps23
      go_wp2_with fail
      go_region_held3 (fun w' => w'.cell? ⟨jb, 0, none⟩ = some (.pointer (some ⟨d, 0, none⟩)) ∧ w'.cell? ⟨w.heap.size, 0, none⟩ = some (.int .u32 r.k.toNat) ∧ w'.cell? ⟨w.heap.size, 1, none⟩ = some (.int .u32 r.a.toNat) ∧ w'.cell? ⟨w.heap.size, 2, none⟩ = some (.int .u32 r.b.toNat))
        (first | exact k4 | exact k3 | go_keep)
        (first
          | (go_at_call 70; refine (hsec.out _ rfl).mono ?_; rintro e w3 ⟨⟨v3, rfl, o3⟩, g3, g3'⟩; obtain ⟨A3, c3, rfl⟩ := o3.rd.form; have k3 : w3.cell? ⟨jb, 0, none⟩ = some (.pointer (some ⟨d, 0, none⟩)) ∧ w3.cell? ⟨w.heap.size, 0, none⟩ = some (.int .u32 r.k.toNat) ∧ w3.cell? ⟨w.heap.size, 1, none⟩ = some (.int .u32 r.a.toNat) ∧ w3.cell? ⟨w.heap.size, 2, none⟩ = some (.int .u32 r.b.toNat) := ⟨(HJ.out.box.ext g3).cell 0, (HBW.out.ext g3').cell 0, (HBW.out.ext g3').cell 1, (HBW.out.ext g3').cell 2⟩)
          | (go_at_call 27; refine (hwr.out _ _ _ rfl g3 o3).mono ?_; rintro e w4 ⟨rfl, o4, c4, h4, ch4⟩; have k4 : w4.cell? ⟨jb, 0, none⟩ = some (.pointer (some ⟨d, 0, none⟩)) ∧ w4.cell? ⟨w.heap.size, 0, none⟩ = some (.int .u32 r.k.toNat) ∧ w4.cell? ⟨w.heap.size, 1, none⟩ = some (.int .u32 r.a.toNat) ∧ w4.cell? ⟨w.heap.size, 2, none⟩ = some (.int .u32 r.b.toNat) := ⟨(ch4.blk (HJ.out.box.ext g3) HJ.out.free.1).cell 0, (ch4.blk (HBW.out.ext g3') (hfree _ (Nat.le_refl _))).cell 0, (ch4.blk (HBW.out.ext g3') (hfree _ (Nat.le_refl _))).cell 1, (ch4.blk (HBW.out.ext g3') (hfree _ (Nat.le_refl _))).cell 2⟩))
      have hsy := sync_any h4 jn (by simp)
      rw [HS'.out] at hsy
      have HSY := Lib.hid hsy
      have HJ4 := Lib.hid ((HJ.out.ch (Ch.ext g3)).ch ch4)
      have HR4 := Lib.hid (ch4.blk (HBW.out.ext g3') (hfree _ (Nat.le_refl _)))
      have hrfree : Hid (o4 w.heap.size = none) := ch4.free _ (Nat.lt_of_lt_of_le (by rw [World.size_alloc]; omega) g3'.size) (hfree _ (Nat.le_refl _))
      have C4 : Hid (Ch o w o4 w4) := (Ch.ext g3).trans ch4
      clear hsy h4 ch4 g3 g3' o3 k3 k4 hs1 hs2 hs3 hs4
      go_wp2_with fail
      refine HSY.out.mono ?_
      rintro e w5 ⟨rfl, o5, c5, h5, ch5⟩
      have hj5 := HJ4.out.ch ch5
      have hr5 := ch5.blk HR4.out hrfree.out
      have H5 := Lib.hid h5
      have HJ5 := Lib.hid hj5
      have C5 : Hid (Ch o w o5 w5) := C4.out.trans ch5
      have q1 : w5.cell? ⟨jb, 1, none⟩ = some (.slice A l.length cv) := hj5.box.cell 1
      have r0 : w5.cell? ⟨w.heap.size, 0, none⟩ = some (.int .u32 r.k.toNat) := hr5.cell 0
      have r1 : w5.cell? ⟨w.heap.size, 1, none⟩ = some (.int .u32 r.a.toNat) := hr5.cell 1
      have r2 : w5.cell? ⟨w.heap.size, 2, none⟩ = some (.int .u32 r.b.toNat) := hr5.cell 2
      have hB5 := h5.base
      obtain ⟨v7, w7, hrun, ho7, ha7⟩ := run_appS ((w5.alloc (.cells #[.int .u32 r.k.toNat, .int .u32 r.a.toNat, .int .u32 r.b.toNat] 38)).drew) B 46 46 38 _ 3 12 Tryz.underlying46 Tryz.infoR rfl (by omega) (.slice A l.length cv) l.length (rcL l) (OwnR.ext (OwnR.ext hj5.own (gr_alloc _ _ none)) (gr_drew _ none)) (.slice (some ⟨w5.heap.size, 0, none⟩) 1 1) 1 (rcL [r])
        (rd_lit w5 3 1 1 #[.int .u32 r.k.toNat, .int .u32 r.a.toNat, .int .u32 r.b.toNat] 38 rfl (Nat.le_refl _) (by unfold maxLen; omega)) (rc_one [r]) (by unfold maxLen; omega) (by have := HL.out; omega) (by show B ≤ (w5.alloc _).heap.size; rw [World.size_alloc]; omega)
      have hox := ext_of_app ho7 (by omega) ha7
      have ho7' : OwnR w7 B v7 (l ++ [r]) := ownR_app (m := [r]) ho7
      obtain ⟨A7, c7, rfl⟩ := ho7'.rd.form
      obtain ⟨q, gq, hq, ku, hku, hku2⟩ := hox
      have hqj : q ≠ some jb := fun e => (hj5.sep jb (hq _ e)) rfl
      have hb7 := ((hj5.box.ext (gr_alloc w5 (.cells #[.int .u32 r.k.toNat, .int .u32 r.a.toNat, .int .u32 r.b.toNat] 38) none)).ext (gr_drew _ none)).gr gq hqj
      have q7 : w7.cell? ⟨jb, 1, none⟩ = some (.slice A l.length cv) := hb7.cell 1
      have q8 := hb7.frozen 1
      have hg57 : ∀ i, i < w5.heap.size → q ≠ some i → w7.heap[i]? = w5.heap[i]? := fun i hi hqi => by
        rw [gq.block i (by show i < (w5.alloc _).heap.size; rw [World.size_alloc]; omega) (fun e => hqi e.symm)]
        exact heap_alloc_old w5 _ hi
      have hz57 : w5.heap.size ≤ w7.heap.size := by have := gq.size; have e : ((w5.alloc (.cells #[.int .u32 r.k.toNat, .int .u32 r.a.toNat, .int .u32 r.b.toNat] 38)).drew).heap.size = w5.heap.size + 1 := World.size_alloc _ _; omega
      have HRUN := Lib.hid hrun
      have hkuv : ∀ k, blk (Value.slice A7 (l ++ [r]).length c7) = some k → k = ku := fun k e => by rw [hku] at e; cases e; rfl
      have hkuj : ku ≠ jb := by
        rcases hku2 with e | e
        · exact hj5.sep ku e
        · have := hj5.box.lt; have e2 : ((w5.alloc (.cells #[.int .u32 r.k.toNat, .int .u32 r.a.toNat, .int .u32 r.b.toNat] 38)).drew).heap.size = w5.heap.size + 1 := World.size_alloc _ _; omega
      have hkuo : o5 ku = none := by
        rcases hku2 with e | e
        · exact hj5.free.2 ku e
        · cases e3 : o5 ku with
          | none => rfl
          | some t => have := (h5.inb ku (by rw [e3]; simp)).2; have e2 : ((w5.alloc (.cells #[.int .u32 r.k.toNat, .int .u32 r.a.toNat, .int .u32 r.b.toNat] 38)).drew).heap.size = w5.heap.size + 1 := World.size_alloc _ _; omega
      have HFIN : Hid (DI (w7.setCell ⟨jb, 1, none⟩ (.slice A7 (l ++ [r]).length c7)) B o5 d S2 c5 ∧ JR (w7.setCell ⟨jb, 1, none⟩ (.slice A7 (l ++ [r]).length c7)) B o5 jb d (.slice A7 (l ++ [r]).length c7) (l ++ [r]) ∧ Ch (jo o jb (.slice A l.length cv)) w (jo o5 jb (.slice A7 (l ++ [r]).length c7)) (w7.setCell ⟨jb, 1, none⟩ (.slice A7 (l ++ [r]).length c7))) := by
        refine ⟨h5.keep (by simpa [World.setCell] using hz57) (fun i hi => ?_), ⟨by simpa using hb7.set 1 _, Own.same ho7' (fun k hk => heap_far _ _ _ (by rw [hkuv k hk]; exact hkuj)), ⟨hj5.free.1, fun k hk => by rw [hkuv k hk]; exact hkuo⟩, hj5.jB, fun k hk => by rw [hkuv k hk]; exact hkuj⟩, ?_⟩
        · rw [heap_far _ _ _ (fun e => hi (by rw [e]; exact hj5.free.1))]
          exact hg57 i (h5.inb i hi).2 (fun e => hi (hj5.free.2 i (hq i e)))
        · have gw7 : (w5.alloc (.cells #[.int .u32 r.k.toNat, .int .u32 r.a.toNat, .int .u32 r.b.toNat] 38)).drew.grownBy w7 q := gq
          refine ⟨?_, ?_, ?_, ?_, fun i hi h0 => ?_, fun i hi h0 => ?_⟩
          · exact gw7.os.trans C5.out.os
          · exact gw7.tape.trans C5.out.tape
          · exact gw7.output.trans C5.out.output
          · exact Nat.le_trans C5.out.size (by simpa [World.setCell] using hz57)
          · obtain ⟨n1, n2, n3⟩ := jo_none h0
            rw [heap_far _ _ _ n1, hg57 i (Nat.lt_of_lt_of_le hi C5.out.size) (fun e => n2 (hq i e))]
            exact C5.out.block i hi n3
          · obtain ⟨n1, n2, n3⟩ := jo_none h0
            refine jo_none_mk n1 (fun e => ?_) (C5.out.free i hi n3)
            have e1 : i = ku := hkuv i e
            rcases hku2 with e2 | e2
            · exact n2 (by rw [e1]; exact e2)
            · have e3 : ((w5.alloc (.cells #[.int .u32 r.k.toNat, .int .u32 r.a.toNat, .int .u32 r.b.toNat] 38)).drew).heap.size = w5.heap.size + 1 := World.size_alloc _ _
              have := C5.out.size
              omega
      have q1a : (w5.alloc (.cells #[.int .u32 r.k.toNat, .int .u32 r.a.toNat, .int .u32 r.b.toNat] 38)).cell? ⟨jb, 1, none⟩ = some (.slice A l.length cv) := (World.cell?_alloc_lt w5 _ ⟨jb, 1, none⟩ hj5.box.lt).trans q1
      clear h5 hj5 hr5 hrun ho7 ha7 ho7' hb7 gq hq hku hku2 hqj hg57 hz57 hkuv hkuj hkuo ch5 hfree
      go_wp2_with fail
      go_region_law (refine step_app1R (.tmp 60) (.tmp 62) rfl rfl rfl HRUN.out ?_)
      all_goals
        go_wp2
        go_ret
        have hfin := HFIN.out
        rw [show (l ++ [r]).length = l.length + 1 from by simp] at hfin
        exact ⟨_, o5, c5, _, _, _, rfl, hfin.1, hfin.2.1, hfin.2.2, .inr (.inr ⟨rfl, rfl, rfl, rfl, rfl⟩)⟩
    · have HS' := Lib.hid hs'
      clear hs'
      have hfree : ∀ k, w.heap.size ≤ k → o k = none := fun k hk => by
        cases e : o k with
        | none => rfl
        | some t => exact absurd (H.out.inb k (by rw [e]; simp)).2 (by omega)
      have hsec : Hid (∀ N : Int, N = (l.length : Int) + 1 → Calls Tryz.prog 70 #[.slice (some ⟨w.heap.size + 1, 0, none⟩) 4 4] (((w.alloc (.cells #[.int .u32 r.k.toNat, .int .u32 r.a.toNat, .int .u32 r.b.toNat] 38)).alloc (.cells #[.int .u32 N, .int .u32 r.k.toNat, .int .u32 r.a.toNat, .int .u32 r.b.toNat] 36)).drew)
          fun e w' => (∃ v', e = .returned v' ∧ OwnB w' w.heap.size v' (secB (l.length + 1) r)) ∧ w.grownBy w' none ∧ (((w.alloc (.cells #[.int .u32 r.k.toNat, .int .u32 r.a.toNat, .int .u32 r.b.toNat] 38))).grownBy w' none)) := fun N hN => by
        subst hN
        have hrdl := rd_lit (w.alloc (.cells #[.int .u32 r.k.toNat, .int .u32 r.a.toNat, .int .u32 r.b.toNat] 38)) 1 4 4 #[.int .u32 ((l.length : Int) + 1), .int .u32 r.k.toNat, .int .u32 r.a.toNat, .int .u32 r.b.toNat] 36 rfl (Nat.le_refl _) (by unfold maxLen; omega)
        rw [World.size_alloc] at hrdl
        have e1 : ((l.length + 1 : Nat) : Int) = (l.length : Int) + 1 := by omega
        refine (sector_rec _ (l.length + 1) (by omega) r _ (by rw [e1]; exact hrdl)).mono ?_
        rintro e w' ⟨⟨v', rfl, o1⟩, g1⟩
        refine ⟨⟨v', rfl, Own.mono o1 ?_⟩, ?_, ?_⟩
        · show w.heap.size ≤ ((w.alloc _).alloc _).heap.size
          rw [World.size_alloc, World.size_alloc]; omega
        · exact gr_none (gr_none (gr_none (gr_alloc _ _ none) (gr_alloc _ _ none)) (gr_drew _ none)) g1
        · exact gr_none (gr_none (gr_alloc _ _ none) (gr_drew _ none)) g1
      have hwr : Hid (∀ (wx : World) (v3 : Value) (N : Int), N = (l.length : Int) * 64 → w.grownBy wx none → OwnB wx w.heap.size v3 (secB (l.length + 1) r) → Calls Tryz.prog 27 #[.pointer (some ⟨d, 0, none⟩), .string ⟨jn.toArray⟩, .int .i64 N, v3] wx fun e w' =>
          e = .returned (.int .i64 (0 : Nat)) ∧ DOut o wx B d S1 w') := fun wx v3 N hN hx ho => by
        have hw := write_any (H.out.ext hx) jn (by simp) ((64 * l.length : Nat) : Int) (by have := HSZ.out; omega) v3 _ ho.rd (fun k hk => ⟨(Own.blk_lt ho (by omega) hk).2, hfree k (Own.blk_lt ho (by omega) hk).1⟩) (by rw [secB_len]; omega) hfs (by rw [secB_len]; have := HNL.out; omega)
        rw [HWQ.out] at hw
        rw [hN, show (l.length : Int) * 64 = ((64 * l.length : Nat) : Int) from by omega]
        exact hw
      have hs1 : IntKind.i64.wrap ((l.length : Int) + 1) = (l.length : Int) + 1 := by rw [IntWalk.i64_in _ (by omega)]
      have hs2 : IntKind.u32.wrap ((l.length : Int) + 1) = (l.length : Int) + 1 := by rw [IntWalk.u32_in _ (by omega)]
      have hs3 : IntKind.i64.wrap ((l.length : Int) * 64) = (l.length : Int) * 64 := by rw [IntWalk.i64_in _ (by omega)]
      have hs4 : ((l.length : Int) + 1) % 4294967296 = (l.length : Int) + 1 := by omega
      go_enter Tryz.func23, Tryz.ntmps23
      go_wp2_with fail
      go_region_held3 (fun w' => w'.cell? ⟨jb, 0, none⟩ = some (.pointer (some ⟨d, 0, none⟩)) ∧ w'.cell? ⟨w.heap.size, 0, none⟩ = some (.int .u32 r.k.toNat) ∧ w'.cell? ⟨w.heap.size, 1, none⟩ = some (.int .u32 r.a.toNat) ∧ w'.cell? ⟨w.heap.size, 2, none⟩ = some (.int .u32 r.b.toNat))
        (first | exact k4 | exact k3 | go_keep)
        (first
          | (go_at_call 70; refine (hsec.out _ rfl).mono ?_; rintro e w3 ⟨⟨v3, rfl, o3⟩, g3, g3'⟩; obtain ⟨A3, c3, rfl⟩ := o3.rd.form; have k3 : w3.cell? ⟨jb, 0, none⟩ = some (.pointer (some ⟨d, 0, none⟩)) ∧ w3.cell? ⟨w.heap.size, 0, none⟩ = some (.int .u32 r.k.toNat) ∧ w3.cell? ⟨w.heap.size, 1, none⟩ = some (.int .u32 r.a.toNat) ∧ w3.cell? ⟨w.heap.size, 2, none⟩ = some (.int .u32 r.b.toNat) := ⟨(HJ.out.box.ext g3).cell 0, (HBW.out.ext g3').cell 0, (HBW.out.ext g3').cell 1, (HBW.out.ext g3').cell 2⟩)
          | (go_at_call 27; refine (hwr.out _ _ _ rfl g3 o3).mono ?_; rintro e w4 ⟨rfl, o4, c4, h4, ch4⟩; have k4 : w4.cell? ⟨jb, 0, none⟩ = some (.pointer (some ⟨d, 0, none⟩)) ∧ w4.cell? ⟨w.heap.size, 0, none⟩ = some (.int .u32 r.k.toNat) ∧ w4.cell? ⟨w.heap.size, 1, none⟩ = some (.int .u32 r.a.toNat) ∧ w4.cell? ⟨w.heap.size, 2, none⟩ = some (.int .u32 r.b.toNat) := ⟨(ch4.blk (HJ.out.box.ext g3) HJ.out.free.1).cell 0, (ch4.blk (HBW.out.ext g3') (hfree _ (Nat.le_refl _))).cell 0, (ch4.blk (HBW.out.ext g3') (hfree _ (Nat.le_refl _))).cell 1, (ch4.blk (HBW.out.ext g3') (hfree _ (Nat.le_refl _))).cell 2⟩))
      have hsy := sync_any h4 jn (by simp)
      rw [HS'.out] at hsy
      have HSY := Lib.hid hsy
      have HJ4 := Lib.hid ((HJ.out.ch (Ch.ext g3)).ch ch4)
      have HR4 := Lib.hid (ch4.blk (HBW.out.ext g3') (hfree _ (Nat.le_refl _)))
      have hrfree : Hid (o4 w.heap.size = none) := ch4.free _ (Nat.lt_of_lt_of_le (by rw [World.size_alloc]; omega) g3'.size) (hfree _ (Nat.le_refl _))
      have C4 : Hid (Ch o w o4 w4) := (Ch.ext g3).trans ch4
      clear hsy h4 ch4 g3 g3' o3 k3 k4 hs1 hs2 hs3 hs4
      go_wp2_with fail
      refine HSY.out.mono ?_
      rintro e w5 ⟨rfl, o5, c5, h5, ch5⟩
      have hj5 := HJ4.out.ch ch5
      have H5 := Lib.hid h5
      have HJ5 := Lib.hid hj5
      have C5 : Hid (Ch o w o5 w5) := C4.out.trans ch5
      clear h5 hj5 ch5 hfree
      go_wp2
      go_ret
      exact ⟨_, o5, c5, _, _, _, rfl, H5.out, HJ5.out, C5.out.jo, .inr (.inl ⟨rfl, rfl, rfl, rfl, rfl⟩)⟩
  · clear hs h2
    have hfree : ∀ k, w.heap.size ≤ k → o k = none := fun k hk => by
      cases e : o k with
      | none => rfl
      | some t => exact absurd (H.out.inb k (by rw [e]; simp)).2 (by omega)
    have hsec : Hid (∀ N : Int, N = (l.length : Int) + 1 → Calls Tryz.prog 70 #[.slice (some ⟨w.heap.size + 1, 0, none⟩) 4 4] (((w.alloc (.cells #[.int .u32 r.k.toNat, .int .u32 r.a.toNat, .int .u32 r.b.toNat] 38)).alloc (.cells #[.int .u32 N, .int .u32 r.k.toNat, .int .u32 r.a.toNat, .int .u32 r.b.toNat] 36)).drew)
        fun e w' => (∃ v', e = .returned v' ∧ OwnB w' w.heap.size v' (secB (l.length + 1) r)) ∧ w.grownBy w' none ∧ (((w.alloc (.cells #[.int .u32 r.k.toNat, .int .u32 r.a.toNat, .int .u32 r.b.toNat] 38))).grownBy w' none)) := fun N hN => by
      subst hN
      have hrdl := rd_lit (w.alloc (.cells #[.int .u32 r.k.toNat, .int .u32 r.a.toNat, .int .u32 r.b.toNat] 38)) 1 4 4 #[.int .u32 ((l.length : Int) + 1), .int .u32 r.k.toNat, .int .u32 r.a.toNat, .int .u32 r.b.toNat] 36 rfl (Nat.le_refl _) (by unfold maxLen; omega)
      rw [World.size_alloc] at hrdl
      have e1 : ((l.length + 1 : Nat) : Int) = (l.length : Int) + 1 := by omega
      refine (sector_rec _ (l.length + 1) (by omega) r _ (by rw [e1]; exact hrdl)).mono ?_
      rintro e w' ⟨⟨v', rfl, o1⟩, g1⟩
      refine ⟨⟨v', rfl, Own.mono o1 ?_⟩, ?_, ?_⟩
      · show w.heap.size ≤ ((w.alloc _).alloc _).heap.size
        rw [World.size_alloc, World.size_alloc]; omega
      · exact gr_none (gr_none (gr_none (gr_alloc _ _ none) (gr_alloc _ _ none)) (gr_drew _ none)) g1
      · exact gr_none (gr_none (gr_alloc _ _ none) (gr_drew _ none)) g1
    have hwr : Hid (∀ (wx : World) (v3 : Value) (N : Int), N = (l.length : Int) * 64 → w.grownBy wx none → OwnB wx w.heap.size v3 (secB (l.length + 1) r) → Calls Tryz.prog 27 #[.pointer (some ⟨d, 0, none⟩), .string ⟨jn.toArray⟩, .int .i64 N, v3] wx fun e w' =>
        e = .returned (.int .i64 (6 : Nat)) ∧ DOut o wx B d S1 w') := fun wx v3 N hN hx ho => by
      have hw := write_any (H.out.ext hx) jn (by simp) ((64 * l.length : Nat) : Int) (by have := HSZ.out; omega) v3 _ ho.rd (fun k hk => ⟨(Own.blk_lt ho (by omega) hk).2, hfree k (Own.blk_lt ho (by omega) hk).1⟩) (by rw [secB_len]; omega) hfs (by rw [secB_len]; have := HNL.out; omega)
      rw [HWQ.out] at hw
      rw [hN, show (l.length : Int) * 64 = ((64 * l.length : Nat) : Int) from by omega]
      exact hw
    have hs1 : IntKind.i64.wrap ((l.length : Int) + 1) = (l.length : Int) + 1 := by rw [IntWalk.i64_in _ (by omega)]
    have hs2 : IntKind.u32.wrap ((l.length : Int) + 1) = (l.length : Int) + 1 := by rw [IntWalk.u32_in _ (by omega)]
    have hs3 : IntKind.i64.wrap ((l.length : Int) * 64) = (l.length : Int) * 64 := by rw [IntWalk.i64_in _ (by omega)]
    have hs4 : ((l.length : Int) + 1) % 4294967296 = (l.length : Int) + 1 := by omega
    go_enter Tryz.func23, Tryz.ntmps23
    go_wp2_with fail
    go_region_held3 (fun w' => w'.cell? ⟨jb, 0, none⟩ = some (.pointer (some ⟨d, 0, none⟩)) ∧ w'.cell? ⟨w.heap.size, 0, none⟩ = some (.int .u32 r.k.toNat) ∧ w'.cell? ⟨w.heap.size, 1, none⟩ = some (.int .u32 r.a.toNat) ∧ w'.cell? ⟨w.heap.size, 2, none⟩ = some (.int .u32 r.b.toNat))
      (first | exact k4 | exact k3 | go_keep)
      (first
        | (go_at_call 70; refine (hsec.out _ rfl).mono ?_; rintro e w3 ⟨⟨v3, rfl, o3⟩, g3, g3'⟩; obtain ⟨A3, c3, rfl⟩ := o3.rd.form; have k3 : w3.cell? ⟨jb, 0, none⟩ = some (.pointer (some ⟨d, 0, none⟩)) ∧ w3.cell? ⟨w.heap.size, 0, none⟩ = some (.int .u32 r.k.toNat) ∧ w3.cell? ⟨w.heap.size, 1, none⟩ = some (.int .u32 r.a.toNat) ∧ w3.cell? ⟨w.heap.size, 2, none⟩ = some (.int .u32 r.b.toNat) := ⟨(HJ.out.box.ext g3).cell 0, (HBW.out.ext g3').cell 0, (HBW.out.ext g3').cell 1, (HBW.out.ext g3').cell 2⟩)
        | (go_at_call 27; refine (hwr.out _ _ _ rfl g3 o3).mono ?_; rintro e w4 ⟨rfl, o4, c4, h4, ch4⟩; have k4 : w4.cell? ⟨jb, 0, none⟩ = some (.pointer (some ⟨d, 0, none⟩)) ∧ w4.cell? ⟨w.heap.size, 0, none⟩ = some (.int .u32 r.k.toNat) ∧ w4.cell? ⟨w.heap.size, 1, none⟩ = some (.int .u32 r.a.toNat) ∧ w4.cell? ⟨w.heap.size, 2, none⟩ = some (.int .u32 r.b.toNat) := ⟨(ch4.blk (HJ.out.box.ext g3) HJ.out.free.1).cell 0, (ch4.blk (HBW.out.ext g3') (hfree _ (Nat.le_refl _))).cell 0, (ch4.blk (HBW.out.ext g3') (hfree _ (Nat.le_refl _))).cell 1, (ch4.blk (HBW.out.ext g3') (hfree _ (Nat.le_refl _))).cell 2⟩))
    have HJ4 := Lib.hid ((HJ.out.ch (Ch.ext g3)).ch ch4)
    have H4 := Lib.hid h4
    have C4 : Hid (Ch o w o4 w4) := (Ch.ext g3).trans ch4
    clear h4 ch4 g3 g3' o3 k3 k4 hs1 hs2 hs3 hs4 hfree
    go_wp2
    go_ret
    exact ⟨_, o4, c4, _, _, _, rfl, H4.out, HJ4.out, C4.out.jo, .inl ⟨rfl, rfl, rfl, rfl⟩⟩
end
end Go.Proofs.YtipankjajdpiiaaGreat

/- journal's Open on a disk whose power may go. -/
namespace Go.Proofs.YtipankjajdpiiaaGreat
open Go.RowKit
set_option maxRecDepth 100000
set_option maxHeartbeats 400000

section
variable {w w' : World} {B d jb : Nat} {o o' : Own1} {S : Dk} {c : Con} {v : Value} {l : List Rc}
theorem size_on {S : Dk} {f : Fi} {n : List UInt8} (hi : S.dead = false) (hr : rightB n = true) (hf : S.find n = some f) : S.size n = (f.now.length, 0) := by unfold Dk.size; rw [hi, hr, hf]; rfl
theorem size_off {S : Dk} {n : List UInt8} (hi : S.dead = false) (hr : rightB n = true) (hf : S.find n = none) : S.size n = (0, 3) := by unfold Dk.size; rw [hi, hr, hf]; rfl
theorem read_on {S : Dk} {f : Fi} {n : List UInt8} {p k : Nat} (hi : S.dead = false) (hr : rightB n = true) (hf : S.find n = some f) : S.read n p k = ((f.now.drop p).take k, 0) := by
  unfold Dk.read
  rw [if_neg (by rw [hi]; simp), if_neg (by rw [hr]; simp), hf]
  rfl
def OpenG (o : Own1) (w : World) (B d : Nat) (S2 : Dk) (l : List Rc) (e2 : Nat) (e : Ending) (w' : World) : Prop :=
  ∃ o' c', DI w' B o' d S2 c' ∧ Ch o w o' w' ∧ ((e2 = 6 ∧ e = .returned (.tuple #[.pointer none, .int .i64 6])) ∨ (e2 = 0 ∧ ∃ jb v, e = .returned (.tuple #[.pointer (some ⟨jb, 0, none⟩), .int .i64 0]) ∧ JR w' w.heap.size o' jb d v l))
set_option maxHeartbeats 2000000 in
theorem open_some_gen (h : DI w B o d S c) (hi : S.dead = false) {f : Fi} (hf : S.find jn = some f) (hrl : readJ f.now = l) (hlen : f.now.length = 64 * l.length) {S2 : Dk} {e2 : Nat} (hs2 : S.sync jn = (S2, e2)) (h2 : e2 = 0 ∨ e2 = 6) :
    Calls Tryz.prog 22 #[.pointer (some ⟨d, 0, none⟩)] w (OpenG o w B d S2 l e2) := by
  have hsm := (h.file f (find_some hf).1).small
  have hs := size_any h jn (by simp)
  have hr := fun (k : Int) (hk : k = (f.now.length : Int)) (wx : World) (hx : w.grownBy wx none) => read_any (h.ext hx) jn (by simp) 0 k (by omega) (by omega)
  rw [size_on hi jn_right hf] at hs
  have e0 : S.read jn 0 (f.now.length : Int) = (f.now, 0) := by
    have := read_on (p := 0) (k := f.now.length) hi jn_right hf
    simpa using this
  have HS := Lib.hid hs
  have HR : Hid (∀ (k : Int) (wx : World), k = (f.now.length : Int) → w.grownBy wx none → Calls Tryz.prog 66 #[.pointer (some ⟨d, 0, none⟩), .string ⟨jn.toArray⟩, .int .i64 0, .int .i64 k] wx fun e w' => (∃ v, e = .returned (.tuple #[v, .int .i64 0]) ∧ OwnB w' wx.heap.size v f.now) ∧ wx.grownBy w' none) := fun k wx hk hx => by
    have := hr k hk wx hx
    subst hk
    rw [e0] at this
    exact this
  have H := Lib.hid h
  have HS2 := Lib.hid hs2
  have HRL := Lib.hid hrl
  have hle : f.now.length ≤ 64 * l.length := by omega
  have hl16 : f.now.length ≤ 16777216 := hsm.2.1
  have hl17 : l.length ≤ 262144 := by omega
  clear h hs hr e0 hf hi hs2 hrl hlen hsm
  rcases h2 with rfl | rfl
  · go_enter Tryz.func22, Tryz.ntmps22
    go_wp2_with fail
    refine HS.out.mono ?_
    rintro e w1 ⟨rfl, g1⟩
    have G1 := Lib.hid g1
    clear g1
    go_wp2_with fail
    refine (HR.out _ _ rfl G1.out).mono ?_
    rintro e w2 ⟨⟨v2, rfl, o2⟩, g2⟩
    have G2 := Lib.hid (gr_none G1.out g2)
    have HO2 := Lib.hid o2
    clear o2 g2
    go_wp2_with fail
    refine (jread_any _ f.now _ HO2.out.rd (by omega)).mono ?_
    rintro e w3 ⟨⟨v3, rfl, o3⟩, g3⟩
    rw [HRL.out] at o3
    have G3 := Lib.hid (gr_none G2.out g3)
    obtain ⟨A3, c3, rfl⟩ := o3.rd.form
    have HO3 := Lib.hid (Own.mono o3 G2.out.size)
    clear o3 g3
    have HBX := Lib.hid (Blk.new w3 87 #[.pointer (some ⟨d, 0, none⟩), .slice A3 l.length c3])
    have GA := Lib.hid (gr_none G3.out (gr_alloc w3 (.cells #[.pointer (some ⟨d, 0, none⟩), .slice A3 l.length c3] 87) none))
    have hfree : ∀ k, w.heap.size ≤ k → o k = none := fun k hk => by
      cases e : o k with
      | none => rfl
      | some t => exact absurd (H.out.inb k (by rw [e]; simp)).2 (by omega)
    have HJ : Hid (JR (w3.alloc (.cells #[.pointer (some ⟨d, 0, none⟩), .slice A3 l.length c3] 87)) w.heap.size o w3.heap.size d (.slice A3 l.length c3) l) :=
      ⟨HBX.out, HO3.out.alloc _, ⟨hfree _ G3.out.size, fun k hk => hfree k (Own.blk_lt HO3.out (by omega) hk).1⟩, G3.out.size, fun k hk => Nat.ne_of_lt (Own.blk_lt HO3.out (by omega) hk).2⟩
    have HD := Lib.hid (H.out.ext GA.out)
    have hsy := sync_any HD.out jn (by simp)
    rw [HS2.out] at hsy
    have HSY := Lib.hid hsy
    have hw2 : (f.now.length : Int) ≤ (l.length : Int) * 64 := by omega
    clear hsy hfree
    go_wp2_with fail
    refine HSY.out.mono ?_
    rintro e w5 ⟨rfl, o5, c5, h5, ch5⟩
    have H5 := Lib.hid h5
    have C5 := Lib.hid ch5
    clear h5 ch5
    go_wp2
    go_ret2
    exact ⟨o5, c5, H5.out, (Ch.ext GA.out).trans C5.out, .inr ⟨rfl, _, _, rfl, HJ.out.ch C5.out⟩⟩
  · go_enter Tryz.func22, Tryz.ntmps22
    go_wp2_with fail
    refine HS.out.mono ?_
    rintro e w1 ⟨rfl, g1⟩
    have G1 := Lib.hid g1
    clear g1
    go_wp2_with fail
    refine (HR.out _ _ rfl G1.out).mono ?_
    rintro e w2 ⟨⟨v2, rfl, o2⟩, g2⟩
    have G2 := Lib.hid (gr_none G1.out g2)
    have HO2 := Lib.hid o2
    clear o2 g2
    go_wp2_with fail
    refine (jread_any _ f.now _ HO2.out.rd (by omega)).mono ?_
    rintro e w3 ⟨⟨v3, rfl, o3⟩, g3⟩
    rw [HRL.out] at o3
    have G3 := Lib.hid (gr_none G2.out g3)
    obtain ⟨A3, c3, rfl⟩ := o3.rd.form
    have HO3 := Lib.hid (Own.mono o3 G2.out.size)
    clear o3 g3
    have HBX := Lib.hid (Blk.new w3 87 #[.pointer (some ⟨d, 0, none⟩), .slice A3 l.length c3])
    have GA := Lib.hid (gr_none G3.out (gr_alloc w3 (.cells #[.pointer (some ⟨d, 0, none⟩), .slice A3 l.length c3] 87) none))
    have HD := Lib.hid (H.out.ext GA.out)
    have hsy := sync_any HD.out jn (by simp)
    rw [HS2.out] at hsy
    have HSY := Lib.hid hsy
    have hw2 : (f.now.length : Int) ≤ (l.length : Int) * 64 := by omega
    clear hsy
    go_wp2_with fail
    refine HSY.out.mono ?_
    rintro e w5 ⟨rfl, o5, c5, h5, ch5⟩
    have H5 := Lib.hid h5
    have C5 := Lib.hid ch5
    clear h5 ch5
    go_wp2
    go_ret2
    exact ⟨o5, c5, H5.out, (Ch.ext GA.out).trans C5.out, .inl ⟨rfl, rfl⟩⟩
set_option maxHeartbeats 2000000 in
theorem open_none_gen (h : DI w B o d S c) (hi : S.dead = false) (hf : S.find jn = none) (hfl : S.fs.length ≤ 1000000) {S1 S2 : Dk} {e1 e2 : Nat} (hc1 : S.create jn = (S1, e1)) (h1 : e1 = 0 ∨ e1 = 6)
    (hd1 : e1 = 0 → S1.dead = false ∧ S1.find jn = some ⟨jn, [], []⟩) (hs2 : e1 = 0 → S1.sync jn = (S2, e2)) (h2 : e1 = 0 → e2 = 0 ∨ e2 = 6) (h6 : e1 = 6 → S2 = S1 ∧ e2 = 6) :
    Calls Tryz.prog 22 #[.pointer (some ⟨d, 0, none⟩)] w (OpenG o w B d S2 [] e2) := by
  have hs := size_any h jn (by simp)
  rw [size_off hi jn_right hf] at hs
  have HS := Lib.hid hs
  have hcr := fun (wx : World) (hx : w.grownBy wx none) => create_any (h.ext hx) jn (by simp) hfl
  rw [hc1] at hcr
  have HCR := Lib.hid hcr
  have H := Lib.hid h
  clear h hs hcr hf hi hfl hc1
  rcases h1 with rfl | rfl
  · obtain ⟨hd, hf1⟩ := hd1 rfl
    have hs2' := hs2 rfl
    have h2' := h2 rfl
    have hre := fun (wx : World) (o1 : Own1) (c1 : Con) (h1 : DI wx B o1 d S1 c1) => read_any h1 jn (by simp) 0 0 (by omega) (by omega)
    have hsy := fun (wx : World) (o1 : Own1) (c1 : Con) (h1 : DI wx B o1 d S1 c1) => sync_any h1 jn (by simp)
    have e0 : S1.read jn 0 0 = ([], 0) := by
      have := read_on (p := 0) (k := 0) hd jn_right hf1
      simpa using this
    rw [e0] at hre
    rw [hs2'] at hsy
    have HRE := Lib.hid hre
    have HSY := Lib.hid hsy
    clear hd hf1 hs2' hre hsy e0 hd1 hs2 h2 h6
    rcases h2' with rfl | rfl
    · go_enter Tryz.func22, Tryz.ntmps22
      go_wp2_with fail
      refine HS.out.mono ?_
      rintro e w1 ⟨rfl, g1⟩
      have G1 := Lib.hid g1
      clear g1
      go_wp2_with fail
      refine (HCR.out _ G1.out).mono ?_
      rintro e w2 ⟨rfl, o2, c2, h2, ch2⟩
      have H2 := Lib.hid h2
      have C2 := Lib.hid ((Ch.ext G1.out).trans ch2)
      clear h2 ch2
      go_wp2_with fail
      refine (HRE.out _ _ _ H2.out).mono ?_
      rintro e w3 ⟨⟨v3, rfl, o3⟩, g3⟩
      have HO3 := Lib.hid o3
      have G3 := Lib.hid g3
      clear o3 g3
      go_wp2_with fail
      refine (jread_any _ [] _ HO3.out.rd (by simp)).mono ?_
      rintro e w4 ⟨⟨v4, rfl, o4⟩, g4⟩
      rw [readJ_nil] at o4
      obtain ⟨A4, c4, rfl⟩ := o4.rd.form
      have G4 := Lib.hid (gr_none G3.out g4)
      have HO4 := Lib.hid (Own.mono o4 G3.out.size)
      have HBX := Lib.hid (Blk.new w4 87 #[.pointer (some ⟨d, 0, none⟩), .slice A4 ([] : List Rc).length c4])
      have GA := Lib.hid (gr_none G4.out (gr_alloc w4 (.cells #[.pointer (some ⟨d, 0, none⟩), .slice A4 ([] : List Rc).length c4] 87) none))
      have hfree : ∀ k, w2.heap.size ≤ k → o2 k = none := fun k hk => by
        cases e : o2 k with
        | none => rfl
        | some t => exact absurd (H2.out.inb k (by rw [e]; simp)).2 (by omega)
      have hz12 := C2.out.size
      have HJ : Hid (JR (w4.alloc (.cells #[.pointer (some ⟨d, 0, none⟩), .slice A4 ([] : List Rc).length c4] 87)) w.heap.size o2 w4.heap.size d (.slice A4 ([] : List Rc).length c4) []) :=
        ⟨HBX.out, (Own.mono HO4.out hz12).alloc _, ⟨hfree _ G4.out.size, fun k hk => hfree k (Own.blk_lt HO4.out (by omega) hk).1⟩, Nat.le_trans hz12 G4.out.size, fun k hk => Nat.ne_of_lt (Own.blk_lt HO4.out (by omega) hk).2⟩
      have HD := Lib.hid (H2.out.ext GA.out)
      clear o4 g4 hfree
      go_wp2_with fail
      refine (HSY.out _ _ _ HD.out).mono ?_
      rintro e w5 ⟨rfl, o5, c5, h5, ch5⟩
      have H5 := Lib.hid h5
      have C5 := Lib.hid ch5
      clear h5 ch5
      go_wp2
      go_ret2
      exact ⟨o5, c5, H5.out, (C2.out.trans (Ch.ext GA.out)).trans C5.out, .inr ⟨rfl, _, _, rfl, HJ.out.ch C5.out⟩⟩
    · go_enter Tryz.func22, Tryz.ntmps22
      go_wp2_with fail
      refine HS.out.mono ?_
      rintro e w1 ⟨rfl, g1⟩
      have G1 := Lib.hid g1
      clear g1
      go_wp2_with fail
      refine (HCR.out _ G1.out).mono ?_
      rintro e w2 ⟨rfl, o2, c2, h2, ch2⟩
      have H2 := Lib.hid h2
      have C2 := Lib.hid ((Ch.ext G1.out).trans ch2)
      clear h2 ch2
      go_wp2_with fail
      refine (HRE.out _ _ _ H2.out).mono ?_
      rintro e w3 ⟨⟨v3, rfl, o3⟩, g3⟩
      have HO3 := Lib.hid o3
      have G3 := Lib.hid g3
      clear o3 g3
      go_wp2_with fail
      refine (jread_any _ [] _ HO3.out.rd (by simp)).mono ?_
      rintro e w4 ⟨⟨v4, rfl, o4⟩, g4⟩
      rw [readJ_nil] at o4
      obtain ⟨A4, c4, rfl⟩ := o4.rd.form
      have G4 := Lib.hid (gr_none G3.out g4)
      have GA := Lib.hid (gr_none G4.out (gr_alloc w4 (.cells #[.pointer (some ⟨d, 0, none⟩), .slice A4 ([] : List Rc).length c4] 87) none))
      have HD := Lib.hid (H2.out.ext GA.out)
      clear o4 g4
      go_wp2_with fail
      refine (HSY.out _ _ _ HD.out).mono ?_
      rintro e w5 ⟨rfl, o5, c5, h5, ch5⟩
      have H5 := Lib.hid h5
      have C5 := Lib.hid ch5
      clear h5 ch5
      go_wp2
      go_ret2
      exact ⟨o5, c5, H5.out, (C2.out.trans (Ch.ext GA.out)).trans C5.out, .inl ⟨rfl, rfl⟩⟩
  · obtain ⟨rfl, rfl⟩ := h6 rfl
    clear hd1 hs2 h2 h6
    go_enter Tryz.func22, Tryz.ntmps22
    go_wp2_with fail
    refine HS.out.mono ?_
    rintro e w1 ⟨rfl, g1⟩
    have G1 := Lib.hid g1
    clear g1
    go_wp2_with fail
    refine (HCR.out _ G1.out).mono ?_
    rintro e w2 ⟨rfl, o2, c2, h2, ch2⟩
    have H2 := Lib.hid h2
    have C2 := Lib.hid ((Ch.ext G1.out).trans ch2)
    clear h2 ch2
    go_wp2
    go_ret2
    exact ⟨o2, c2, H2.out, C2.out, .inl ⟨rfl, rfl⟩⟩
end
end Go.Proofs.YtipankjajdpiiaaGreat

/-
  journal's Add, where the power stays and there is room.
-/
import Derived.Test.YtfbbbbekialpnaaJ4
import Derived.Test.YtfbbbbekialpnaaJP
import Derived.Deep.RegionHeld3
import Derived.Deep.RegionLaw
namespace Go.Proofs.Ytfbbbbekialpnaa
open Go.RowKit
set_option maxRecDepth 100000
set_option maxHeartbeats 400000

section
variable {w w' : World} {B d jb : Nat} {o o' : Own1} {S : Dk} {c : Con} {v : Value} {l : List Rc}
def AddOut (w : World) (B d jb : Nat) (S' : Dk) (l' : List Rc) (e : Ending) (w' : World) : Prop :=
  ∃ v' o' c', e = .returned (.int .i64 0) ∧ DI w' B o' d S' c' ∧ JR w' B o' jb d v' l' ∧ ∀ w0 : World, w0.heap.size ≤ B → w0.grownBy w none → w0.grownBy w' none
/-- append onto a row, in a region. -/
theorem step_app1R {q : Oper} {a : Act} {K : Act → World → Prop} {Q : Exit → Act → World → Prop} (s0 x0 : Operand) (ho : q.op = .call { callee := .builtin .append, args := #[s0, x0], argTypes := #[49, 49] })
    {v v' x : Value} {w' : World} (hs : a.eval s0 = v) (hx : a.eval x0 = x) (hrun : (Builtin.append_ #[49, 49] q.type #[v, x]).run Try.prog w = .ok v' w') (hK : K (a.put q.dst v') w') : q.wp Try.prog a w K Q := by
  unfold Oper.wp execOp
  simp only [ho, resolve, invoke, builtin, Sem.run_bind, Sem.run_pure, Result.andThen_ok, List.map_toArray, List.map_cons, List.map_nil, hs, hx, hrun]
  exact hK
def addD (S : Dk) (n : Nat) (r : Rc) : Dk := (S.wrote jn (64 * n) (secB (n + 1) r)).synced jn
set_option maxHeartbeats 4000000 in
theorem add_idle (h : DI w B o d S c) (hj : JR w B o jb d v l) (hi : Idle S) {f : Fi} (hf : S.find jn = some f) (r : Rc) (hr : r.k ≠ 0) (hl : l.length < 65536) (hfl : 64 * l.length ≤ f.now.length) (hsz : 64 * l.length + 64 ≤ 16777216)
    (hq : ¬ (0 < moreS f (64 * l.length) (secB (l.length + 1) r) ∧ (S.quota : Int) < S.used + moreS f (64 * l.length) (secB (l.length + 1) r))) (hfs : S.fs.length ≤ 1000000) (hnl : S.nl ≤ 4611686018427387000) :
    Calls Try.prog 33 #[.pointer (some ⟨jb, 0, none⟩), .agg r.cells] w (AddOut w B d jb (addD S l.length r) (l ++ [r])) := by
  obtain ⟨A, cv, rfl⟩ := hj.own.rd.form
  have hrk := r.k.toNat_lt
  have hra := r.a.toNat_lt
  have hrb := r.b.toNat_lt
  have hk0 : ((r.k.toNat : Int) == 0) = false := by
    rw [beq_eq_false_iff_ne]
    intro e
    exact hr (UInt32.toNat_inj.1 (by simpa using e))
  have hc0 : w.cell? ⟨jb, 0, none⟩ = some (.pointer (some ⟨d, 0, none⟩)) := hj.box.cell 0
  have hc1 : w.cell? ⟨jb, 1, none⟩ = some (.slice A l.length cv) := hj.box.cell 1
  have HBW := Lib.hid (Blk.new w 58 r.cells)
  have H := Lib.hid h
  have HJ := Lib.hid hj
  have HI := Lib.hid hi
  have HF := Lib.hid hf
  have HQ := Lib.hid hq
  have HRC : Hid (r.cells = #[.int .u32 r.k.toNat, .int .u32 r.a.toNat, .int .u32 r.b.toNat]) := rfl
  have hli : (l.length : Int) < 65536 := by omega
  have HL := Lib.hid hl
  have hge : decide ((65536 : Int) ≤ (l.length : Int)) = false := by simp only [decide_eq_false_iff_not]; omega
  have hge2 : decide (65536 ≤ l.length) = false := by simp only [decide_eq_false_iff_not]; omega
  have HNL := Lib.hid hnl
  have HSZ := Lib.hid hsz
  have HFL := Lib.hid hfl
  clear h hj hi hf hq hr hnl hsz hfl hl
  unfold Rc.cells at HBW ⊢
  have hjw : jb < w.heap.size := HJ.out.box.lt
  go_enter Try.func33, Try.ntmps33
  have hfree : ∀ k, w.heap.size ≤ k → o k = none := fun k hk => by
    cases e : o k with
    | none => rfl
    | some t => exact absurd (H.out.inb k (by rw [e]; simp)).2 (by omega)
  have hsec : Hid (∀ N : Int, N = (l.length : Int) + 1 → Calls Try.prog 72 #[.slice (some ⟨w.heap.size + 1, 0, none⟩) 4 4] (((w.alloc (.cells #[.int .u32 r.k.toNat, .int .u32 r.a.toNat, .int .u32 r.b.toNat] 58)).alloc (.cells #[.int .u32 N, .int .u32 r.k.toNat, .int .u32 r.a.toNat, .int .u32 r.b.toNat] 56)).drew)
      fun e w' => (∃ v', e = .returned v' ∧ OwnB w' w.heap.size v' (secB (l.length + 1) r)) ∧ w.grownBy w' none ∧ (((w.alloc (.cells #[.int .u32 r.k.toNat, .int .u32 r.a.toNat, .int .u32 r.b.toNat] 58))).grownBy w' none)) := fun N hN => by
    subst hN
    have hrdl := rd_lit (w.alloc (.cells #[.int .u32 r.k.toNat, .int .u32 r.a.toNat, .int .u32 r.b.toNat] 58)) 1 4 4 #[.int .u32 ((l.length : Int) + 1), .int .u32 r.k.toNat, .int .u32 r.a.toNat, .int .u32 r.b.toNat] 56 rfl (Nat.le_refl _) (by unfold maxLen; omega)
    rw [World.size_alloc] at hrdl
    have e1 : ((l.length + 1 : Nat) : Int) = (l.length : Int) + 1 := by omega
    refine (sector_rec _ (l.length + 1) (by omega) r _ (by rw [e1]; exact hrdl)).mono ?_
    rintro e w' ⟨⟨v', rfl, o1⟩, g1⟩
    refine ⟨⟨v', rfl, Own.mono o1 ?_⟩, ?_, ?_⟩
    · show w.heap.size ≤ ((w.alloc _).alloc _).heap.size
      rw [World.size_alloc, World.size_alloc]; omega
    · exact gr_none (gr_none (gr_none (gr_alloc _ _ none) (gr_alloc _ _ none)) (gr_drew _ none)) g1
    · exact gr_none (gr_none (gr_alloc _ _ none) (gr_drew _ none)) g1
  have hwr : Hid (∀ (wx : World) (v3 : Value) (N : Int), N = (l.length : Int) * 64 → w.grownBy wx none → OwnB wx w.heap.size v3 (secB (l.length + 1) r) → Calls Try.prog 18 #[.pointer (some ⟨d, 0, none⟩), .string ⟨jn.toArray⟩, .int .i64 N, v3] wx fun e w' =>
      e = .returned (.int .i64 0) ∧ DOut o wx B d (S.wrote jn (64 * l.length) (secB (l.length + 1) r)) w') := fun wx v3 N hN hx ho => by
    have hw := write_any (H.out.ext hx) jn (by simp) ((64 * l.length : Nat) : Int) (by have := HSZ.out; omega) v3 _ ho.rd (fun k hk => ⟨(Own.blk_lt ho (by omega) hk).2, hfree k (Own.blk_lt ho (by omega) hk).1⟩) (by rw [secB_len]; omega) hfs (by rw [secB_len]; have := HNL.out; omega)
    rw [write_idle HI.out jn_right HF.out HFL.out (by rw [secB_len]; exact HSZ.out) HQ.out] at hw
    rw [hN, show (l.length : Int) * 64 = ((64 * l.length : Nat) : Int) from by omega]
    exact hw
  have hs1 : IntKind.i64.wrap ((l.length : Int) + 1) = (l.length : Int) + 1 := by rw [IntWalk.i64_in _ (by omega)]
  have hs2 : IntKind.u32.wrap ((l.length : Int) + 1) = (l.length : Int) + 1 := by rw [IntWalk.u32_in _ (by omega)]
  have hs3 : IntKind.i64.wrap ((l.length : Int) * 64) = (l.length : Int) * 64 := by rw [IntWalk.i64_in _ (by omega)]
  have hs4 : ((l.length : Int) + 1) % 4294967296 = (l.length : Int) + 1 := by omega
  go_wp2_with fail
  go_region_held3 (fun w' => w'.cell? ⟨jb, 0, none⟩ = some (.pointer (some ⟨d, 0, none⟩)) ∧ w'.cell? ⟨w.heap.size, 0, none⟩ = some (.int .u32 r.k.toNat) ∧ w'.cell? ⟨w.heap.size, 1, none⟩ = some (.int .u32 r.a.toNat) ∧ w'.cell? ⟨w.heap.size, 2, none⟩ = some (.int .u32 r.b.toNat))
    (first | exact k4 | exact k3 | go_keep)
    (first
      | (go_at_call 72; refine (hsec.out _ rfl).mono ?_; rintro e w3 ⟨⟨v3, rfl, o3⟩, g3, g3'⟩; obtain ⟨A3, c3, rfl⟩ := o3.rd.form; have k3 : w3.cell? ⟨jb, 0, none⟩ = some (.pointer (some ⟨d, 0, none⟩)) ∧ w3.cell? ⟨w.heap.size, 0, none⟩ = some (.int .u32 r.k.toNat) ∧ w3.cell? ⟨w.heap.size, 1, none⟩ = some (.int .u32 r.a.toNat) ∧ w3.cell? ⟨w.heap.size, 2, none⟩ = some (.int .u32 r.b.toNat) := ⟨(HJ.out.box.ext g3).cell 0, (HBW.out.ext g3').cell 0, (HBW.out.ext g3').cell 1, (HBW.out.ext g3').cell 2⟩)
      | (go_at_call 18; refine (hwr.out _ _ _ rfl g3 o3).mono ?_; rintro e w4 ⟨rfl, o4, c4, h4, ch4⟩; have k4 : w4.cell? ⟨jb, 0, none⟩ = some (.pointer (some ⟨d, 0, none⟩)) ∧ w4.cell? ⟨w.heap.size, 0, none⟩ = some (.int .u32 r.k.toNat) ∧ w4.cell? ⟨w.heap.size, 1, none⟩ = some (.int .u32 r.a.toNat) ∧ w4.cell? ⟨w.heap.size, 2, none⟩ = some (.int .u32 r.b.toNat) := ⟨(ch4.blk (HJ.out.box.ext g3) HJ.out.free.1).cell 0, (ch4.blk (HBW.out.ext g3') (hfree _ (Nat.le_refl _))).cell 0, (ch4.blk (HBW.out.ext g3') (hfree _ (Nat.le_refl _))).cell 1, (ch4.blk (HBW.out.ext g3') (hfree _ (Nat.le_refl _))).cell 2⟩))
  have hsy := sync_any h4 jn (by simp)
  rw [sync_idle (f := { f with now := overZ f.now (64 * l.length) (secB (l.length + 1) r) }) (show Idle (S.wrote jn (64 * l.length) (secB (l.length + 1) r)) from HI.out) jn_right (by rw [find_wrote, HF.out]; simp [(find_some HF.out).2])] at hsy
  have HSY := Lib.hid hsy
  have HJ4 := Lib.hid ((HJ.out.ch (Ch.ext g3)).ch ch4)
  have HR4 := Lib.hid (ch4.blk (HBW.out.ext g3') (hfree _ (Nat.le_refl _)))
  have hrfree : Hid (o4 w.heap.size = none) := ch4.free _ (Nat.lt_of_lt_of_le (by rw [World.size_alloc]; omega) g3'.size) (hfree _ (Nat.le_refl _))
  have HG4 : Hid (∀ w0 : World, w0.heap.size ≤ B → w0.grownBy w none → w0.grownBy w4 none) := fun w0 hB hg => (ch4.gr (gr_none hg g3) fun i hi => Nat.le_trans hB (H.out.inb i hi).1)
  have HT4 := Lib.hid (fun i (hi : o4 i ≠ none) => (h4.inb i hi).1)
  clear hsy h4 ch4 g3 g3' o3 k3 k4 hs1 hs2 hs3 hs4
  go_wp2_with fail
  refine HSY.out.mono ?_
  rintro e w5 ⟨rfl, o5, c5, h5, ch5⟩
  have hj5 := HJ4.out.ch ch5
  have hr5 := ch5.blk HR4.out hrfree.out
  have H5 := Lib.hid h5
  have HJ5 := Lib.hid hj5
  have HG5 : Hid (∀ w0 : World, w0.heap.size ≤ B → w0.grownBy w none → w0.grownBy w5 none) := fun w0 hB hg => (ch5.gr (HG4.out w0 hB hg) fun i hi => Nat.le_trans hB (HT4.out i hi))
  have q1 : w5.cell? ⟨jb, 1, none⟩ = some (.slice A l.length cv) := hj5.box.cell 1
  have r0 : w5.cell? ⟨w.heap.size, 0, none⟩ = some (.int .u32 r.k.toNat) := hr5.cell 0
  have r1 : w5.cell? ⟨w.heap.size, 1, none⟩ = some (.int .u32 r.a.toNat) := hr5.cell 1
  have r2 : w5.cell? ⟨w.heap.size, 2, none⟩ = some (.int .u32 r.b.toNat) := hr5.cell 2
  have hB5 := h5.base
  obtain ⟨v7, w7, hrun, ho7, ha7⟩ := run_appS ((w5.alloc (.cells #[.int .u32 r.k.toNat, .int .u32 r.a.toNat, .int .u32 r.b.toNat] 58)).drew) B 49 49 58 _ 3 12 Try.underlying49 Try.infoR rfl (by omega) (.slice A l.length cv) l.length (rcL l) (OwnR.ext (OwnR.ext hj5.own (gr_alloc _ _ none)) (gr_drew _ none)) (.slice (some ⟨w5.heap.size, 0, none⟩) 1 1) 1 (rcL [r])
    (rd_lit w5 3 1 1 #[.int .u32 r.k.toNat, .int .u32 r.a.toNat, .int .u32 r.b.toNat] 58 rfl (Nat.le_refl _) (by unfold maxLen; omega)) (rc_one [r]) (by unfold maxLen; omega) (by have := HL.out; omega) (by show B ≤ (w5.alloc _).heap.size; rw [World.size_alloc]; omega)
  have hox := ext_of_app ho7 (by omega) ha7
  have ho7' : OwnR w7 B v7 (l ++ [r]) := ownR_app (m := [r]) ho7
  obtain ⟨A7, c7, rfl⟩ := ho7'.rd.form
  obtain ⟨q, gq, hq, ku, hku, hku2⟩ := hox
  have hqj : q ≠ some jb := fun e => (hj5.sep jb (hq _ e)) rfl
  have hb7 := ((hj5.box.ext (gr_alloc w5 (.cells #[.int .u32 r.k.toNat, .int .u32 r.a.toNat, .int .u32 r.b.toNat] 58) none)).ext (gr_drew _ none)).gr gq hqj
  have q7 : w7.cell? ⟨jb, 1, none⟩ = some (.slice A l.length cv) := hb7.cell 1
  have q8 := hb7.frozen 1
  have hg57 : ∀ i, i < w5.heap.size → q ≠ some i → w7.heap[i]? = w5.heap[i]? := fun i hi hqi => by
    rw [gq.block i (by show i < (w5.alloc _).heap.size; rw [World.size_alloc]; omega) (fun e => hqi e.symm)]
    exact heap_alloc_old w5 _ hi
  have hz57 : w5.heap.size ≤ w7.heap.size := by have := gq.size; have e : ((w5.alloc (.cells #[.int .u32 r.k.toNat, .int .u32 r.a.toNat, .int .u32 r.b.toNat] 58)).drew).heap.size = w5.heap.size + 1 := World.size_alloc _ _; omega
  have HRUN := Lib.hid hrun
  have hkuv : ∀ k, blk (Value.slice A7 (l ++ [r]).length c7) = some k → k = ku := fun k e => by rw [hku] at e; cases e; rfl
  have hkuj : ku ≠ jb := by
    rcases hku2 with e | e
    · exact hj5.sep ku e
    · have := hj5.box.lt; have e2 : ((w5.alloc (.cells #[.int .u32 r.k.toNat, .int .u32 r.a.toNat, .int .u32 r.b.toNat] 58)).drew).heap.size = w5.heap.size + 1 := World.size_alloc _ _; omega
  have hkuo : o5 ku = none := by
    rcases hku2 with e | e
    · exact hj5.free.2 ku e
    · cases e3 : o5 ku with
      | none => rfl
      | some t => have := (h5.inb ku (by rw [e3]; simp)).2; have e2 : ((w5.alloc (.cells #[.int .u32 r.k.toNat, .int .u32 r.a.toNat, .int .u32 r.b.toNat] 58)).drew).heap.size = w5.heap.size + 1 := World.size_alloc _ _; omega
  have HFIN : Hid (DI (w7.setCell ⟨jb, 1, none⟩ (.slice A7 (l ++ [r]).length c7)) B o5 d (addD S l.length r) c5 ∧ JR (w7.setCell ⟨jb, 1, none⟩ (.slice A7 (l ++ [r]).length c7)) B o5 jb d (.slice A7 (l ++ [r]).length c7) (l ++ [r]) ∧ ∀ w0 : World, w0.heap.size ≤ B → w0.grownBy w none → w0.grownBy (w7.setCell ⟨jb, 1, none⟩ (.slice A7 (l ++ [r]).length c7)) none) := by
    refine ⟨h5.keep (by simpa [World.setCell] using hz57) (fun i hi => ?_), ⟨by simpa using hb7.set 1 _, Own.same ho7' (fun k hk => heap_far _ _ _ (by rw [hkuv k hk]; exact hkuj)), ⟨hj5.free.1, fun k hk => by rw [hkuv k hk]; exact hkuo⟩, hj5.jB, fun k hk => by rw [hkuv k hk]; exact hkuj⟩, fun w0 hB hg => ?_⟩
    · rw [heap_far _ _ _ (fun e => hi (by rw [e]; exact hj5.free.1))]
      exact hg57 i (h5.inb i hi).2 (fun e => hi (hj5.free.2 i (hq i e)))
    · refine gr_set_new (gr_trans (gr_none (gr_none (HG5.out w0 hB hg) (gr_alloc _ _ none)) (gr_drew _ none)) gq (.inr fun k e => ?_)) _ _ (Nat.le_trans hB hj5.jB)
      exact Nat.le_trans hB (Own.blk_lt hj5.own (by omega) (hq k e)).1
  have q1a : (w5.alloc (.cells #[.int .u32 r.k.toNat, .int .u32 r.a.toNat, .int .u32 r.b.toNat] 58)).cell? ⟨jb, 1, none⟩ = some (.slice A l.length cv) := (World.cell?_alloc_lt w5 _ ⟨jb, 1, none⟩ hj5.box.lt).trans q1
  clear h5 hj5 hr5 hrun ho7 ha7 ho7' hb7 gq hq hku hku2 hqj hg57 hz57 hkuv hkuj hkuo ch5 hfree
  go_wp2_with fail
  go_region_law (refine step_app1R (.tmp 60) (.tmp 62) rfl rfl rfl HRUN.out ?_)
  all_goals
    go_wp2
    go_ret
    have hfin := HFIN.out
    rw [show (l ++ [r]).length = l.length + 1 from by simp] at hfin
    exact ⟨_, o5, c5, rfl, hfin.1, hfin.2.1, hfin.2.2⟩
end
end Go.Proofs.Ytfbbbbekialpnaa

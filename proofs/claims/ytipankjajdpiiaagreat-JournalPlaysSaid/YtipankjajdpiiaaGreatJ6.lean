/-
  journal's Add, where the power stays and there is room.
-/
import Derived.Test.YtipankjajdpiiaaGreatJ4
import Derived.Test.YtipankjajdpiiaaGreatJP
import Derived.Deep.RegionHeld3
import Derived.Deep.RegionLaw
namespace Go.Proofs.YtipankjajdpiiaaGreat
open Go.RowKit
set_option maxRecDepth 100000
set_option maxHeartbeats 400000

section
variable {w w' : World} {B d jb : Nat} {o o' : Own1} {S : Dk} {c : Con} {v : Value} {l : List Rc}
def AddOut (w : World) (B d jb : Nat) (S' : Dk) (l' : List Rc) (e : Ending) (w' : World) : Prop :=
  ∃ v' o' c', e = .returned (.int .i64 0) ∧ DI w' B o' d S' c' ∧ JR w' B o' jb d v' l' ∧ ∀ w0 : World, w0.heap.size ≤ B → w0.grownBy w none → w0.grownBy w' none
/-- append onto a row, in a region. -/
theorem step_app1R {q : Oper} {a : Act} {K : Act → World → Prop} {Q : Exit → Act → World → Prop} (s0 x0 : Operand) (ho : q.op = .call { callee := .builtin .append, args := #[s0, x0], argTypes := #[46, 46] })
    {v v' x : Value} {w' : World} (hs : a.eval s0 = v) (hx : a.eval x0 = x) (hrun : (Builtin.append_ #[46, 46] q.type #[v, x]).run Tryz.prog w = .ok v' w') (hK : K (a.put q.dst v') w') : q.wp Tryz.prog a w K Q := by
  unfold Oper.wp execOp
  simp only [ho, resolve, invoke, builtin, Sem.run_bind, Sem.run_pure, Result.andThen_ok, List.map_toArray, List.map_cons, List.map_nil, hs, hx, hrun]
  exact hK
def addD (S : Dk) (n : Nat) (r : Rc) : Dk := (S.wrote jn (64 * n) (secB (n + 1) r)).synced jn
set_option maxHeartbeats 4000000 in
theorem add_idle (h : DI w B o d S c) (hj : JR w B o jb d v l) (hi : Idle S) {f : Fi} (hf : S.find jn = some f) (r : Rc) (hr : r.k ≠ 0) (hl : l.length < 65536) (hfl : 64 * l.length ≤ f.now.length) (hsz : 64 * l.length + 64 ≤ 16777216)
    (hq : ¬ (0 < moreS f (64 * l.length) (secB (l.length + 1) r) ∧ (S.quota : Int) < S.used + moreS f (64 * l.length) (secB (l.length + 1) r))) (hfs : S.fs.length ≤ 1000000) (hnl : S.nl ≤ 4611686018427387000) :
    Calls Tryz.prog 23 #[.pointer (some ⟨jb, 0, none⟩), .agg r.cells] w (AddOut w B d jb (addD S l.length r) (l ++ [r])) := by
  obtain ⟨A, cv, rfl⟩ := hj.own.rd.form
  have hrk := r.k.toNat_lt
  have hra := r.a.toNat_lt
  have hrb := r.b.toNat_lt
  have hk0 : ((r.k.toNat : Int) == 0) = false := by
    rw [beq_eq_false_iff_ne]
    intro e
    exact hr (UInt32.toNat_inj.1 (by simpa using e))
  have hc0 : w.cell? ⟨jb, 0, none⟩ = some (.pointer (some ⟨d, 0, none⟩)) := hj.box.cell 0
  have hc1 : w.cell? ⟨jb, 1, none⟩ = some (.slice A l.length cv) := hj.box.cell 1
  have HBW := Lib.hid (Blk.new w 38 r.cells)
  have H := Lib.hid h
  have HJ := Lib.hid hj
  have HI := Lib.hid hi
  have HF := Lib.hid hf
  have HQ := Lib.hid hq
  have HRC : Hid (r.cells = #[.int .u32 r.k.toNat, .int .u32 r.a.toNat, .int .u32 r.b.toNat]) := rfl
  have hli : (l.length : Int) < 65536 := by omega
  have HL := Lib.hid hl
  have hge : decide ((65536 : Int) ≤ (l.length : Int)) = false := by simp only [decide_eq_false_iff_not]; omega
  have hge2 : decide (65536 ≤ l.length) = false := by simp only [decide_eq_false_iff_not]; omega
  have HNL := Lib.hid hnl
  have HSZ := Lib.hid hsz
  have HFL := Lib.hid hfl
  clear h hj hi hf hq hr hnl hsz hfl hl
  unfold Rc.cells at HBW ⊢
  have hjw : jb < w.heap.size := HJ.out.box.lt
  go_enter Tryz.func23, Tryz.ntmps23
  have hfree : ∀ k, w.heap.size ≤ k → o k = none := fun k hk => by
    cases e : o k with
    | none => rfl
    | some t => exact absurd (H.out.inb k (by rw [e]; simp)).2 (by omega)
  have hsec : Hid (∀ N : Int, N = (l.length : Int) + 1 → Calls Tryz.prog 70 #[.slice (some ⟨w.heap.size + 1, 0, none⟩) 4 4] (((w.alloc (.cells #[.int .u32 r.k.toNat, .int .u32 r.a.toNat, .int .u32 r.b.toNat] 38)).alloc (.cells #[.int .u32 N, .int .u32 r.k.toNat, .int .u32 r.a.toNat, .int .u32 r.b.toNat] 36)).drew)
      fun e w' => (∃ v', e = .returned v' ∧ OwnB w' w.heap.size v' (secB (l.length + 1) r)) ∧ w.grownBy w' none ∧ (((w.alloc (.cells #[.int .u32 r.k.toNat, .int .u32 r.a.toNat, .int .u32 r.b.toNat] 38))).grownBy w' none)) := fun N hN => by
    subst hN
    have hrdl := rd_lit (w.alloc (.cells #[.int .u32 r.k.toNat, .int .u32 r.a.toNat, .int .u32 r.b.toNat] 38)) 1 4 4 #[.int .u32 ((l.length : Int) + 1), .int .u32 r.k.toNat, .int .u32 r.a.toNat, .int .u32 r.b.toNat] 36 rfl (Nat.le_refl _) (by unfold maxLen; omega)
    rw [World.size_alloc] at hrdl
    have e1 : ((l.length + 1 : Nat) : Int) = (l.length : Int) + 1 := by omega
    refine (sector_rec _ (l.length + 1) (by omega) r _ (by rw [e1]; exact hrdl)).mono ?_
    rintro e w' ⟨⟨v', rfl, o1⟩, g1⟩
    refine ⟨⟨v', rfl, Own.mono o1 ?_⟩, ?_, ?_⟩
    · show w.heap.size ≤ ((w.alloc _).alloc _).heap.size
      rw [World.size_alloc, World.size_alloc]; omega
    · exact gr_none (gr_none (gr_none (gr_alloc _ _ none) (gr_alloc _ _ none)) (gr_drew _ none)) g1
    · exact gr_none (gr_none (gr_alloc _ _ none) (gr_drew _ none)) g1
  have hwr : Hid (∀ (wx : World) (v3 : Value) (N : Int), N = (l.length : Int) * 64 → w.grownBy wx none → OwnB wx w.heap.size v3 (secB (l.length + 1) r) → Calls Tryz.prog 27 #[.pointer (some ⟨d, 0, none⟩), .string ⟨jn.toArray⟩, .int .i64 N, v3] wx fun e w' =>
      e = .returned (.int .i64 0) ∧ DOut o wx B d (S.wrote jn (64 * l.length) (secB (l.length + 1) r)) w') := fun wx v3 N hN hx ho => by
    have hw := write_any (H.out.ext hx) jn (by simp) ((64 * l.length : Nat) : Int) (by have := HSZ.out; omega) v3 _ ho.rd (fun k hk => ⟨(Own.blk_lt ho (by omega) hk).2, hfree k (Own.blk_lt ho (by omega) hk).1⟩) (by rw [secB_len]; omega) hfs (by rw [secB_len]; have := HNL.out; omega)
    rw [write_idle HI.out jn_right HF.out HFL.out (by rw [secB_len]; exact HSZ.out) HQ.out] at hw
    rw [hN, show (l.length : Int) * 64 = ((64 * l.length : Nat) : Int) from by omega]
    exact hw
  have hs1 : IntKind.i64.wrap ((l.length : Int) + 1) = (l.length : Int) + 1 := by rw [IntWalk.i64_in _ (by omega)]
  have hs2 : IntKind.u32.wrap ((l.length : Int) + 1) = (l.length : Int) + 1 := by rw [IntWalk.u32_in _ (by omega)]
  have hs3 : IntKind.i64.wrap ((l.length : Int) * 64) = (l.length : Int) * 64 := by rw [IntWalk.i64_in _ (by omega)]
  have hs4 : ((l.length : Int) + 1) % 4294967296 = (l.length : Int) + 1 := by omega
  go_wp2_with fail
  go_region_held3 (fun w' => w'.cell? ⟨jb, 0, none⟩ = some (.pointer (some ⟨d, 0, none⟩)) ∧ w'.cell? ⟨w.heap.size, 0, none⟩ = some (.int .u32 r.k.toNat) ∧ w'.cell? ⟨w.heap.size, 1, none⟩ = some (.int .u32 r.a.toNat) ∧ w'.cell? ⟨w.heap.size, 2, none⟩ = some (.int .u32 r.b.toNat))
    (first | exact k4 | exact k3 | go_keep)
    (first
      | (go_at_call 70; refine (hsec.out _ rfl).mono ?_; rintro e w3 ⟨⟨v3, rfl, o3⟩, g3, g3'⟩; obtain ⟨A3, c3, rfl⟩ := o3.rd.form; have k3 : w3.cell? ⟨jb, 0, none⟩ = some (.pointer (some ⟨d, 0, none⟩)) ∧ w3.cell? ⟨w.heap.size, 0, none⟩ = some (.int .u32 r.k.toNat) ∧ w3.cell? ⟨w.heap.size, 1, none⟩ = some (.int .u32 r.a.toNat) ∧ w3.cell? ⟨w.heap.size, 2, none⟩ = some (.int .u32 r.b.toNat) := ⟨(HJ.out.box.ext g3).cell 0, (HBW.out.ext g3').cell 0, (HBW.out.ext g3').cell 1, (HBW.out.ext g3').cell 2⟩)
      | (go_at_call 27; refine (hwr.out _ _ _ rfl g3 o3).mono ?_; rintro e w4 ⟨rfl, o4, c4, h4, ch4⟩; have k4 : w4.cell? ⟨jb, 0, none⟩ = some (.pointer (some ⟨d, 0, none⟩)) ∧ w4.cell? ⟨w.heap.size, 0, none⟩ = some (.int .u32 r.k.toNat) ∧ w4.cell? ⟨w.heap.size, 1, none⟩ = some (.int .u32 r.a.toNat) ∧ w4.cell? ⟨w.heap.size, 2, none⟩ = some (.int .u32 r.b.toNat) := ⟨(ch4.blk (HJ.out.box.ext g3) HJ.out.free.1).cell 0, (ch4.blk (HBW.out.ext g3') (hfree _ (Nat.le_refl _))).cell 0, (ch4.blk (HBW.out.ext g3') (hfree _ (Nat.le_refl _))).cell 1, (ch4.blk (HBW.out.ext g3') (hfree _ (Nat.le_refl _))).cell 2⟩))
  have hsy := sync_any h4 jn (by simp)
  rw [sync_idle (f := { f with now := overZ f.now (64 * l.length) (secB (l.length + 1) r) }) (show Idle (S.wrote jn (64 * l.length) (secB (l.length + 1) r)) from HI.out) jn_right (by rw [find_wrote, HF.out]; simp [(find_some HF.out).2])] at hsy
  have HSY := Lib.hid hsy
  have HJ4 := Lib.hid ((HJ.out.ch (Ch.ext g3)).ch ch4)
  have HR4 := Lib.hid (ch4.blk (HBW.out.ext g3') (hfree _ (Nat.le_refl _)))
  have hrfree : Hid (o4 w.heap.size = none) := ch4.free _ (Nat.lt_of_lt_of_le (by rw [World.size_alloc]; omega) g3'.size) (hfree _ (Nat.le_refl _))
  have HG4 : Hid (∀ w0 : World, w0.heap.size ≤ B → w0.grownBy w none → w0.grownBy w4 none) := fun w0 hB hg => (ch4.gr (gr_none hg g3) fun i hi => Nat.le_trans hB (H.out.inb i hi).1)
  have HT4 := Lib.hid (fun i (hi : o4 i ≠ none) => (h4.inb i hi).1)
  clear hsy h4 ch4 g3 g3' o3 k3 k4 hs1 hs2 hs3 hs4
  go_wp2_with fail
  refine HSY.out.mono ?_
  rintro e w5 ⟨rfl, o5, c5, h5, ch5⟩
  have hj5 := HJ4.out.ch ch5
  have hr5 := ch5.blk HR4.out hrfree.out
  have H5 := Lib.hid h5
  have HJ5 := Lib.hid hj5
  have HG5 : Hid (∀ w0 : World, w0.heap.size ≤ B → w0.grownBy w none → w0.grownBy w5 none) := fun w0 hB hg => (ch5.gr (HG4.out w0 hB hg) fun i hi => Nat.le_trans hB (HT4.out i hi))
  have q1 : w5.cell? ⟨jb, 1, none⟩ = some (.slice A l.length cv) := hj5.box.cell 1
  have r0 : w5.cell? ⟨w.heap.size, 0, none⟩ = some (.int .u32 r.k.toNat) := hr5.cell 0
  have r1 : w5.cell? ⟨w.heap.size, 1, none⟩ = some (.int .u32 r.a.toNat) := hr5.cell 1
  have r2 : w5.cell? ⟨w.heap.size, 2, none⟩ = some (.int .u32 r.b.toNat) := hr5.cell 2
  have hB5 := h5.base
  obtain ⟨v7, w7, hrun, ho7, ha7⟩ := run_appS ((w5.alloc (.cells #[.int .u32 r.k.toNat, .int .u32 r.a.toNat, .int .u32 r.b.toNat] 38)).drew) B 46 46 38 _ 3 12 Tryz.underlying46 Tryz.infoR rfl (by omega) (.slice A l.length cv) l.length (rcL l) (OwnR.ext (OwnR.ext hj5.own (gr_alloc _ _ none)) (gr_drew _ none)) (.slice (some ⟨w5.heap.size, 0, none⟩) 1 1) 1 (rcL [r])
    (rd_lit w5 3 1 1 #[.int .u32 r.k.toNat, .int .u32 r.a.toNat, .int .u32 r.b.toNat] 38 rfl (Nat.le_refl _) (by unfold maxLen; omega)) (rc_one [r]) (by unfold maxLen; omega) (by have := HL.out; omega) (by show B ≤ (w5.alloc _).heap.size; rw [World.size_alloc]; omega)
  have hox := ext_of_app ho7 (by omega) ha7
  have ho7' : OwnR w7 B v7 (l ++ [r]) := ownR_app (m := [r]) ho7
  obtain ⟨A7, c7, rfl⟩ := ho7'.rd.form
  obtain ⟨q, gq, hq, ku, hku, hku2⟩ := hox
  have hqj : q ≠ some jb := fun e => (hj5.sep jb (hq _ e)) rfl
  have hb7 := ((hj5.box.ext (gr_alloc w5 (.cells #[.int .u32 r.k.toNat, .int .u32 r.a.toNat, .int .u32 r.b.toNat] 38) none)).ext (gr_drew _ none)).gr gq hqj
  have q7 : w7.cell? ⟨jb, 1, none⟩ = some (.slice A l.length cv) := hb7.cell 1
  have q8 := hb7.frozen 1
  have hg57 : ∀ i, i < w5.heap.size → q ≠ some i → w7.heap[i]? = w5.heap[i]? := fun i hi hqi => by
    rw [gq.block i (by show i < (w5.alloc _).heap.size; rw [World.size_alloc]; omega) (fun e => hqi e.symm)]
    exact heap_alloc_old w5 _ hi
  have hz57 : w5.heap.size ≤ w7.heap.size := by have := gq.size; have e : ((w5.alloc (.cells #[.int .u32 r.k.toNat, .int .u32 r.a.toNat, .int .u32 r.b.toNat] 38)).drew).heap.size = w5.heap.size + 1 := World.size_alloc _ _; omega
  have HRUN := Lib.hid hrun
  have hkuv : ∀ k, blk (Value.slice A7 (l ++ [r]).length c7) = some k → k = ku := fun k e => by rw [hku] at e; cases e; rfl
  have hkuj : ku ≠ jb := by
    rcases hku2 with e | e
    · exact hj5.sep ku e
    · have := hj5.box.lt; have e2 : ((w5.alloc (.cells #[.int .u32 r.k.toNat, .int .u32 r.a.toNat, .int .u32 r.b.toNat] 38)).drew).heap.size = w5.heap.size + 1 := World.size_alloc _ _; omega
  have hkuo : o5 ku = none := by
    rcases hku2 with e | e
    · exact hj5.free.2 ku e
    · cases e3 : o5 ku with
      | none => rfl
      | some t => have := (h5.inb ku (by rw [e3]; simp)).2; have e2 : ((w5.alloc (.cells #[.int .u32 r.k.toNat, .int .u32 r.a.toNat, .int .u32 r.b.toNat] 38)).drew).heap.size = w5.heap.size + 1 := World.size_alloc _ _; omega
  have HFIN : Hid (DI (w7.setCell ⟨jb, 1, none⟩ (.slice A7 (l ++ [r]).length c7)) B o5 d (addD S l.length r) c5 ∧ JR (w7.setCell ⟨jb, 1, none⟩ (.slice A7 (l ++ [r]).length c7)) B o5 jb d (.slice A7 (l ++ [r]).length c7) (l ++ [r]) ∧ ∀ w0 : World, w0.heap.size ≤ B → w0.grownBy w none → w0.grownBy (w7.setCell ⟨jb, 1, none⟩ (.slice A7 (l ++ [r]).length c7)) none) := by
    refine ⟨h5.keep (by simpa [World.setCell] using hz57) (fun i hi => ?_), ⟨by simpa using hb7.set 1 _, Own.same ho7' (fun k hk => heap_far _ _ _ (by rw [hkuv k hk]; exact hkuj)), ⟨hj5.free.1, fun k hk => by rw [hkuv k hk]; exact hkuo⟩, hj5.jB, fun k hk => by rw [hkuv k hk]; exact hkuj⟩, fun w0 hB hg => ?_⟩
    · rw [heap_far _ _ _ (fun e => hi (by rw [e]; exact hj5.free.1))]
      exact hg57 i (h5.inb i hi).2 (fun e => hi (hj5.free.2 i (hq i e)))
    · refine gr_set_new (gr_trans (gr_none (gr_none (HG5.out w0 hB hg) (gr_alloc _ _ none)) (gr_drew _ none)) gq (.inr fun k e => ?_)) _ _ (Nat.le_trans hB hj5.jB)
      exact Nat.le_trans hB (Own.blk_lt hj5.own (by omega) (hq k e)).1
  have q1a : (w5.alloc (.cells #[.int .u32 r.k.toNat, .int .u32 r.a.toNat, .int .u32 r.b.toNat] 38)).cell? ⟨jb, 1, none⟩ = some (.slice A l.length cv) := (World.cell?_alloc_lt w5 _ ⟨jb, 1, none⟩ hj5.box.lt).trans q1
  clear h5 hj5 hr5 hrun ho7 ha7 ho7' hb7 gq hq hku hku2 hqj hg57 hz57 hkuv hkuj hkuo ch5 hfree
  go_wp2_with fail
  go_region_law (refine step_app1R (.tmp 60) (.tmp 62) rfl rfl rfl HRUN.out ?_)
  all_goals
    go_wp2
    go_ret
    have hfin := HFIN.out
    rw [show (l ++ [r]).length = l.length + 1 from by simp] at hfin
    exact ⟨_, o5, c5, rfl, hfin.1, hfin.2.1, hfin.2.2⟩
end
end Go.Proofs.YtipankjajdpiiaaGreat

/- The journal laws' anchor: works. -/
namespace Go.Proofs.YtipankjajdpiiaaGreat
open Go.RowKit
set_option maxRecDepth 100000
set_option maxHeartbeats 400000

theorem find_addD (S : Dk) (n : Nat) (r : Rc) {f : Fi} (hf : S.find jn = some f) : (addD S n r).find jn = some { f with now := overZ f.now (64 * n) (secB (n + 1) r), lasts := overZ f.now (64 * n) (secB (n + 1) r) } := by
  have hn : f.name = jn := (find_some hf).2
  unfold addD
  rw [find_synced, find_wrote, hf]
  simp [hn]
theorem find_jOpen {S : Dk} {f : Fi} (hf : S.find jn = some f) : ∃ f', (jOpen S).find jn = some f' ∧ f'.now = f.now.take (64 * (readJ f.now).length) := by
  have hn : f.name = jn := (find_some hf).2
  have e1 : jOpen1 S = S := by unfold jOpen1; rw [hf]
  have e2 : jOpen S = (jOpen2 S f).synced jn := by unfold jOpen; rw [e1, hf]
  have hle := readJ_le f.now
  rw [e2, find_synced]
  unfold jOpen2
  split
  · rw [find_cutTo, hf]
    exact ⟨_, by simp [hn]; rfl, rfl⟩
  · rw [hf]
    refine ⟨_, by simp [hn]; rfl, ?_⟩
    show f.now = _
    rw [List.take_of_length_le (by omega)]
theorem find_jOpen_none {S : Dk} (hf : S.find jn = none) : (jOpen S).find jn = some ⟨jn, [], []⟩ ∧ (jOpen S).used = S.used ∧ (jOpen S).quota = S.quota ∧ (jOpen S).nl = S.nl ∧ (jOpen S).fs.length = S.fs.length + 1 := by
  have e1 : jOpen1 S = { S with fs := S.fs ++ [⟨jn, [], []⟩] } := by unfold jOpen1; rw [hf]
  have hf1 := find_added S jn hf
  have e2 : jOpen S = ({ S with fs := S.fs ++ [⟨jn, [], []⟩] } : Dk).synced jn := by
    unfold jOpen
    rw [e1, hf1]
    rfl
  rw [e2, find_synced, hf1]
  refine ⟨by simp, ?_, rfl, rfl, by simp [Dk.synced, setF]⟩
  unfold Dk.used Dk.synced setF
  rw [List.map_map, List.map_append, List.sum_append]
  have : (List.map ((fun f : Fi => sectors f.now.length) ∘ fun f => if f.name = jn then { f with lasts := f.now } else f) S.fs) = S.fs.map fun f => sectors f.now.length := List.map_congr_left fun f _ => by
    show sectors (if f.name = jn then { f with lasts := f.now } else f : Fi).now.length = _
    split <;> rfl
  rw [this]
  rfl
def w1R : Rc := ⟨1, 2, 3⟩
theorem newD_find (q : Nat) : (newD q).find jn = none := rfl
theorem newD_idle (q : Nat) : Idle (newD q) := ⟨rfl, rfl⟩
theorem jRecs_w : jRecs (addD (jOpen (newD 10)) 0 w1R) = [w1R] := by
  have h1 := find_addD (jOpen (newD 10)) 0 w1R (find_jOpen_none (newD_find 10)).1
  unfold jRecs
  rw [h1]
  show readJ (overZ [] (64 * 0) (secB 1 w1R)) = _
  have e : overZ [] (64 * 0) (secB 1 w1R) = secs 0 [w1R] := by simp [overZ, secs]
  rw [e]
  exact readJ_secs (fun r hr => by rw [List.mem_singleton.1 hr]; decide) (by simp)
set_option maxHeartbeats 2000000 in
theorem works_any (w : World) : Calls Tryz.prog 6 #[] w fun e w' => e = .returned (.bool true) ∧ w.grownBy w' none := by
  obtain ⟨hf1, hu1, hq1, hn1, hl1⟩ := find_jOpen_none (newD_find 10)
  have hnew := new_ok 10 w (by omega)
  have HNEW := Lib.hid hnew
  have HOP : Hid (∀ (wx : World) (d : Nat) (o : Own1) (c : Con), DI wx w.heap.size o d (newD 10) c → Calls Tryz.prog 22 #[.pointer (some ⟨d, 0, none⟩)] wx (OpenOut o wx w.heap.size d (newD 10))) := fun wx d o c h => open_none h (newD_idle 10) (newD_find 10) (by simp [newD])
  have HAD : Hid (∀ (wx : World) (d jb : Nat) (o : Own1) (c : Con) (v : Value), DI wx w.heap.size o d (jOpen (newD 10)) c → JR wx w.heap.size o jb d v [] → Calls Tryz.prog 23 #[.pointer (some ⟨jb, 0, none⟩), .agg w1R.cells] wx (AddOut wx w.heap.size d jb (addD (jOpen (newD 10)) 0 w1R) [w1R])) := fun wx d jb o c v h hj =>
    add_idle h hj (jOpen_idle (newD_idle 10)) hf1 w1R (by decide) (by simp) (by simp) (by simp)
      (by
        rw [hu1, hq1]
        unfold moreS
        rw [secB_len]
        intro h
        have h2 := h.2
        have e : (newD 10).used = 0 := rfl
        have e2 : (newD 10).quota = 10 := rfl
        rw [e, e2] at h2
        simp [sectors] at h2) (by rw [hl1]; simp [newD]) (by rw [hn1]; simp [newD])
  have HO2 : Hid (∀ (wx : World) (d : Nat) (o : Own1) (c : Con), DI wx w.heap.size o d (addD (jOpen (newD 10)) 0 w1R) c → Calls Tryz.prog 22 #[.pointer (some ⟨d, 0, none⟩)] wx (OpenOut o wx w.heap.size d (addD (jOpen (newD 10)) 0 w1R))) := fun wx d o c h => open_some h (jOpen_idle (newD_idle 10)) (find_addD _ 0 w1R hf1)
  clear hf1 hu1 hq1 hn1 hl1 hnew
  go_enter Tryz.func6, Tryz.ntmps6
  go_wp2_with fail
  refine HNEW.out.mono ?_
  rintro e w1 ⟨d, o, c, rfl, h1, g1⟩
  have G1 := Lib.hid g1
  have HT1 : Hid (∀ i, o i ≠ none → w.heap.size ≤ i) := fun i hi => (h1.inb i hi).1
  have H1 := Lib.hid h1
  clear h1 g1
  go_wp2_with fail
  refine (HOP.out _ _ _ _ H1.out).mono ?_
  rintro e w2 ⟨jb, v2, o2, c2, rfl, h2, ch2, hj2⟩
  have G2 := Lib.hid (ch2.gr G1.out HT1.out)
  have HJ2 : Hid (JR w2 w.heap.size o2 jb d v2 []) := ⟨hj2.box, Own.mono hj2.own G1.out.size, hj2.free, Nat.le_trans G1.out.size hj2.jB, hj2.sep⟩
  have H2 := Lib.hid h2
  clear h2 ch2 hj2
  go_wp2_with fail
  refine (HAD.out _ _ _ _ _ _ H2.out HJ2.out).mono ?_
  rintro e w3 ⟨v3, o3, c3, rfl, h3, hj3, hg3⟩
  have G3 := Lib.hid (hg3 w (Nat.le_refl _) G2.out)
  have HT3 : Hid (∀ i, o3 i ≠ none → w.heap.size ≤ i) := fun i hi => (h3.inb i hi).1
  have H3 := Lib.hid h3
  clear h3 hj3 hg3
  go_wp2_with fail
  refine (HO2.out _ _ _ _ H3.out).mono ?_
  rintro e w4 ⟨jb4, v4, o4, c4, rfl, h4, ch4, hj4⟩
  have G4 := Lib.hid (ch4.gr G3.out HT3.out)
  rw [jRecs_w] at hj4
  have HR := Lib.hid (recs_any hj4 (by simp))
  clear h4 ch4 hj4
  go_wp2_with fail
  refine HR.out.mono ?_
  rintro e w5 ⟨⟨v5, rfl, o5⟩, g5⟩
  have G5 := Lib.hid (gr_none G4.out g5)
  obtain ⟨A5, c5, rfl⟩ := o5.rd.form
  obtain ⟨g, off, hA, hlc, hmx, hcell⟩ := o5.rd.at_
  obtain rfl := hA (by simp)
  have hc1 : w5.cell? ⟨g, off + 1, none⟩ = some (.int .u32 2) := hcell 0 (by simp) 1 (by omega)
  clear hcell hA o5 g5
  simp only [List.length_cons, List.length_nil] at hlc ⊢
  go_wp2
  go_ret
  exact ⟨rfl, G5.out⟩
end Go.Proofs.YtipankjajdpiiaaGreat

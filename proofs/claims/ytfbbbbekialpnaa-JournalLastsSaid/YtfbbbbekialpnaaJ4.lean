/-
  journal.Open on a disk whose power stays, and Recs.
-/
import Derived.Test.YtfbbbbekialpnaaJ3
import Derived.Test.YtfbbbbekialpnaaDj
namespace Go.Proofs.Ytfbbbbekialpnaa
open Go.RowKit
set_option maxRecDepth 100000
set_option maxHeartbeats 400000

abbrev jn : List UInt8 := [106, 111, 117, 114, 110, 97, 108]
theorem jn_right : rightB jn = true := by decide
/-- what a journal's file says, as it is opened. -/
def jRecs (S : Dk) : List Rc := match S.find jn with
  | none => []
  | some f => readJ f.now
def jOpen1 (S : Dk) : Dk := match S.find jn with
  | none => { S with fs := S.fs ++ [⟨jn, [], []⟩] }
  | some _ => S
def jOpen2 (S : Dk) (f : Fi) : Dk := if 64 * (readJ f.now).length < f.now.length then S.cutTo jn (64 * (readJ f.now).length) else S
def jOpen (S : Dk) : Dk := match (jOpen1 S).find jn with
  | none => S
  | some f => (jOpen2 (jOpen1 S) f).synced jn
theorem readF_le (f n : Nat) (b : List UInt8) : 64 * (readF f n b).length ≤ b.length := by
  induction f generalizing n b with
  | zero => simp [readF]
  | succ f ih =>
    unfold readF
    split
    · rename_i h
      split
      · simp
      · have := ih (n + 1) (b.drop 64)
        rw [List.length_drop] at this
        rw [List.length_cons]
        omega
    · simp
theorem readJ_le (b : List UInt8) : 64 * (readJ b).length ≤ b.length := readF_le _ _ _
theorem readJ_nil : readJ [] = [] := rfl
/-- a journal in memory. -/
structure JR (w : World) (B : Nat) (o : Own1) (jb d : Nat) (v : Value) (l : List Rc) : Prop where
  box : Blk w jb 120 #[.pointer (some ⟨d, 0, none⟩), v]
  own : OwnR w B v l
  free : o jb = none ∧ ∀ k, blk v = some k → o k = none
  jB : B ≤ jb
  sep : ∀ k, blk v = some k → k ≠ jb
section
variable {w w' : World} {B d jb : Nat} {o o' : Own1} {S : Dk} {c : Con} {v : Value} {l : List Rc}
theorem JR.ch (h : JR w B o jb d v l) (hc : Ch o w o' w') : JR w' B o' jb d v l :=
  ⟨hc.blk h.box h.free.1, hc.own h.own (by omega) h.free.2, ⟨hc.free _ h.box.lt h.free.1, fun k hk => hc.free _ (Own.blk_lt h.own (by omega) hk).2 (h.free.2 k hk)⟩, h.jB, h.sep⟩
theorem recs_nil (w : World) : Calls Try.prog 31 #[.pointer none] w fun e w' => e = .returned (.slice none 0 0) ∧ w = w' := by
  go_enter Try.func31, Try.ntmps31
  go_wp2
  go_ret
  exact ⟨rfl, rfl⟩
theorem recs_any (h : JR w B o jb d v l) (hl : l.length ≤ 1000000000) : Calls Try.prog 31 #[.pointer (some ⟨jb, 0, none⟩)] w fun e w' => (∃ v', e = .returned v' ∧ OwnR w' w.heap.size v' l) ∧ w.grownBy w' none := by
  have hc : w.cell? ⟨jb, 1, none⟩ = some v := h.box.cell 1
  have H := Lib.hid (cloneR v l w h.own.rd hl)
  clear h
  go_enter Try.func31, Try.ntmps31
  go_wp2_with (go_at_call 71; refine H.out.mono ?_; rintro e w1 ⟨⟨v1, rfl, o1⟩, g1⟩)
  go_ret
  exact ⟨⟨_, rfl, o1⟩, g1⟩
def OpenOut (o : Own1) (w : World) (B d : Nat) (S : Dk) (e : Ending) (w' : World) : Prop :=
  ∃ jb v o' c', e = .returned (.tuple #[.pointer (some ⟨jb, 0, none⟩), .int .i64 0]) ∧ DI w' B o' d (jOpen S) c' ∧ Ch o w o' w' ∧ JR w' w.heap.size o' jb d v (jRecs S)
set_option maxHeartbeats 2000000 in
theorem open_some (h : DI w B o d S c) (hi : Idle S) {f : Fi} (hf : S.find jn = some f) :
    Calls Try.prog 30 #[.pointer (some ⟨d, 0, none⟩)] w (OpenOut o w B d S) := by
  have hsm := (h.file f (find_some hf).1).small
  have hs := size_any h jn (by simp)
  have hr := fun (k : Int) (hk : k = (f.now.length : Int)) (wx : World) (hx : w.grownBy wx none) => read_any (h.ext hx) jn (by simp) 0 k (by omega) (by omega)
  rw [size_idle hi jn_right hf] at hs
  have e0 : S.read jn 0 (f.now.length : Int) = (f.now, 0) := by
    have := read_idle (p := 0) (k := f.now.length) hi jn_right hf
    simpa using this
  have HS := Lib.hid hs
  have HR : Hid (∀ (k : Int) (wx : World), k = (f.now.length : Int) → w.grownBy wx none → Calls Try.prog 22 #[.pointer (some ⟨d, 0, none⟩), .string ⟨jn.toArray⟩, .int .i64 0, .int .i64 k] wx fun e w' => (∃ v, e = .returned (.tuple #[v, .int .i64 0]) ∧ OwnB w' wx.heap.size v f.now) ∧ wx.grownBy w' none) := fun k wx hk hx => by
    have := hr k hk wx hx
    subst hk
    rw [e0] at this
    exact this
  have H := Lib.hid h
  have HI := Lib.hid hi
  have HF := Lib.hid hf
  clear h hs hr e0 hf hi
  go_enter Try.func30, Try.ntmps30
  go_wp2_with fail
  refine HS.out.mono ?_
  rintro e w1 ⟨rfl, g1⟩
  have G1 := Lib.hid g1
  clear g1
  go_wp2_with fail
  refine (HR.out _ _ rfl G1.out).mono ?_
  rintro e w2 ⟨⟨v2, rfl, o2⟩, g2⟩
  have G2 := Lib.hid (gr_none G1.out g2)
  have HO2 := Lib.hid o2
  clear o2 g2
  go_wp2_with fail
  refine (jread_any _ f.now _ HO2.out.rd (by omega)).mono ?_
  rintro e w3 ⟨⟨v3, rfl, o3⟩, g3⟩
  have G3 := Lib.hid (gr_none G2.out g3)
  obtain ⟨A3, c3, rfl⟩ := o3.rd.form
  have hle := readJ_le f.now
  have HO3 := Lib.hid (Own.mono o3 G2.out.size)
  have hjr : Hid (jRecs S = readJ f.now) := by show _ = _; unfold jRecs; rw [HF.out]
  have hj1 : Hid (jOpen S = (jOpen2 S f).synced jn) := by
    show _ = _
    have e1 : jOpen1 S = S := by unfold jOpen1; rw [HF.out]
    unfold jOpen
    rw [e1, HF.out]
  have hj2 : Hid (jOpen2 S f = if 64 * (readJ f.now).length < f.now.length then S.cutTo jn (64 * (readJ f.now).length) else S) := rfl
  clear o3 g3
  generalize readJ f.now = l at *
  have HBX := Lib.hid (Blk.new w3 120 #[.pointer (some ⟨d, 0, none⟩), .slice A3 l.length c3])
  have GA := Lib.hid (gr_none G3.out (gr_alloc w3 (.cells #[.pointer (some ⟨d, 0, none⟩), .slice A3 l.length c3] 120) none))
  have hfree : ∀ k, w.heap.size ≤ k → o k = none := fun k hk => by
    cases e : o k with
    | none => rfl
    | some t => exact absurd (H.out.inb k (by rw [e]; simp)).2 (by omega)
  have HJ : Hid (JR (w3.alloc (.cells #[.pointer (some ⟨d, 0, none⟩), .slice A3 l.length c3] 120)) w.heap.size o w3.heap.size d (.slice A3 l.length c3) l) :=
    ⟨HBX.out, HO3.out.alloc _, ⟨hfree _ G3.out.size, fun k hk => hfree k (Own.blk_lt HO3.out (by omega) hk).1⟩, G3.out.size, fun k hk => Nat.ne_of_lt (Own.blk_lt HO3.out (by omega) hk).2⟩
  have HD := Lib.hid (H.out.ext GA.out)
  by_cases hw : (64 * l.length : Int) < (f.now.length : Int)
  · have hcut := cut_any HD.out jn (by simp) ((l.length : Int) * 64) (by omega)
    rw [show ((l.length : Int) * 64) = ((64 * l.length : Nat) : Int) from by omega, cut_idle HI.out jn_right HF.out (by omega)] at hcut
    have e1 : ((64 * l.length : Nat) : Int) = (l.length : Int) * 64 := by omega
    rw [e1] at hcut
    have HC := Lib.hid hcut
    have hj3 : Hid (jOpen S = (S.cutTo jn (64 * l.length)).synced jn) := by show _ = _; rw [hj1.out, hj2.out, if_pos (by omega)]
    have hw2 : (l.length : Int) * 64 < (f.now.length : Int) := by omega
    clear hcut e1 hw hfree
    go_wp2_with fail
    refine HC.out.mono ?_
    rintro e w4 ⟨rfl, o4, c4, h4, ch4⟩
    have hsy := sync_any h4 jn (by simp)
    rw [sync_idle (f := { f with now := f.now.take (64 * l.length), lasts := f.lasts.take (64 * l.length) }) (show Idle (S.cutTo jn (64 * l.length)) from HI.out) jn_right (by rw [find_cutTo, HF.out]; simp [(find_some HF.out).2])] at hsy
    have HSY := Lib.hid hsy
    have C4 := Lib.hid ch4
    clear hsy h4 ch4
    go_wp2_with fail
    refine HSY.out.mono ?_
    rintro e w5 ⟨rfl, o5, c5, h5, ch5⟩
    have H5 := Lib.hid h5
    have C5 := Lib.hid ch5
    clear h5 ch5
    go_wp2
    go_ret2
    exact ⟨_, _, o5, c5, rfl, by rw [hj3.out]; exact H5.out, ((Ch.ext GA.out).trans C4.out).trans C5.out, by rw [hjr.out]; exact (HJ.out.ch C4.out).ch C5.out⟩
  · have hj3 : Hid (jOpen S = S.synced jn) := by show _ = _; rw [hj1.out, hj2.out, if_neg (by omega)]
    have hsy := sync_any HD.out jn (by simp)
    rw [sync_idle HI.out jn_right HF.out] at hsy
    have HSY := Lib.hid hsy
    have hw2 : (f.now.length : Int) ≤ (l.length : Int) * 64 := by omega
    clear hsy hw hfree
    go_wp2_with fail
    refine HSY.out.mono ?_
    rintro e w5 ⟨rfl, o5, c5, h5, ch5⟩
    have H5 := Lib.hid h5
    have C5 := Lib.hid ch5
    clear h5 ch5
    go_wp2
    go_ret2
    exact ⟨_, _, o5, c5, rfl, by rw [hj3.out]; exact H5.out, (Ch.ext GA.out).trans C5.out, by rw [hjr.out]; exact HJ.out.ch C5.out⟩
set_option maxHeartbeats 2000000 in
theorem open_none (h : DI w B o d S c) (hi : Idle S) (hf : S.find jn = none) (hfl : S.fs.length ≤ 1000000) :
    Calls Try.prog 30 #[.pointer (some ⟨d, 0, none⟩)] w (OpenOut o w B d S) := by
  have hs := size_any h jn (by simp)
  rw [size_none hi jn_right hf] at hs
  have HS := Lib.hid hs
  have hcr := fun (wx : World) (hx : w.grownBy wx none) => create_any (h.ext hx) jn (by simp) hfl
  rw [create_idle hi jn_right hf] at hcr
  have HCR := Lib.hid hcr
  have hf1 := find_added S jn hf
  have hj1 : Hid (jOpen S = ({ S with fs := S.fs ++ [⟨jn, [], []⟩] } : Dk).synced jn) := by
    show _ = _
    have e1 : jOpen1 S = { S with fs := S.fs ++ [⟨jn, [], []⟩] } := by unfold jOpen1; rw [hf]
    unfold jOpen
    rw [e1, hf1]
    rfl
  have hjr : Hid (jRecs S = []) := by show _ = _; unfold jRecs; rw [hf]
  have hi1 : Idle { S with fs := S.fs ++ [⟨jn, [], []⟩] } := hi
  obtain ⟨S1, hS1⟩ : ∃ S1 : Dk, S1 = { S with fs := S.fs ++ [⟨jn, [], []⟩] } := ⟨_, rfl⟩
  have hre := fun (wx : World) (o1 : Own1) (c1 : Con) (h1 : DI wx B o1 d S1 c1) => read_any h1 jn (by simp) 0 0 (by omega) (by omega)
  have hsy := fun (wx : World) (o1 : Own1) (c1 : Con) (h1 : DI wx B o1 d S1 c1) => sync_any h1 jn (by simp)
  rw [← hS1] at hf1 hi1
  have e0 : S1.read jn 0 0 = ([], 0) := by
    have := read_idle (p := 0) (k := 0) hi1 jn_right hf1
    simpa using this
  rw [e0] at hre
  rw [sync_idle hi1 jn_right hf1] at hsy
  have HRE := Lib.hid hre
  have HSY := Lib.hid hsy
  have HS1 := Lib.hid hS1
  have H := Lib.hid h
  clear h hs hcr hf hi hre hsy hS1 hf1 hi1 e0 hfl
  go_enter Try.func30, Try.ntmps30
  go_wp2_with fail
  refine HS.out.mono ?_
  rintro e w1 ⟨rfl, g1⟩
  have G1 := Lib.hid g1
  clear g1
  go_wp2_with fail
  refine (HCR.out _ G1.out).mono ?_
  rintro e w2 ⟨rfl, o2, c2, h2, ch2⟩
  rw [← HS1.out] at h2
  have H2 := Lib.hid h2
  have C2 := Lib.hid ((Ch.ext G1.out).trans ch2)
  clear h2 ch2
  go_wp2_with fail
  refine (HRE.out _ _ _ H2.out).mono ?_
  rintro e w3 ⟨⟨v3, rfl, o3⟩, g3⟩
  have HO3 := Lib.hid o3
  have G3 := Lib.hid g3
  clear o3 g3
  go_wp2_with fail
  refine (jread_any _ [] _ HO3.out.rd (by simp)).mono ?_
  rintro e w4 ⟨⟨v4, rfl, o4⟩, g4⟩
  rw [readJ_nil] at o4
  obtain ⟨A4, c4, rfl⟩ := o4.rd.form
  have G4 := Lib.hid (gr_none G3.out g4)
  have HO4 := Lib.hid (Own.mono o4 G3.out.size)
  have HBX := Lib.hid (Blk.new w4 120 #[.pointer (some ⟨d, 0, none⟩), .slice A4 ([] : List Rc).length c4])
  have GA := Lib.hid (gr_none G4.out (gr_alloc w4 (.cells #[.pointer (some ⟨d, 0, none⟩), .slice A4 ([] : List Rc).length c4] 120) none))
  have hfree : ∀ k, w2.heap.size ≤ k → o2 k = none := fun k hk => by
    cases e : o2 k with
    | none => rfl
    | some t => exact absurd (H2.out.inb k (by rw [e]; simp)).2 (by omega)
  have hz12 := C2.out.size
  have HJ : Hid (JR (w4.alloc (.cells #[.pointer (some ⟨d, 0, none⟩), .slice A4 ([] : List Rc).length c4] 120)) w.heap.size o2 w4.heap.size d (.slice A4 ([] : List Rc).length c4) []) :=
    ⟨HBX.out, (Own.mono HO4.out hz12).alloc _, ⟨hfree _ G4.out.size, fun k hk => hfree k (Own.blk_lt HO4.out (by omega) hk).1⟩, Nat.le_trans hz12 G4.out.size, fun k hk => Nat.ne_of_lt (Own.blk_lt HO4.out (by omega) hk).2⟩
  have HD := Lib.hid (H2.out.ext GA.out)
  clear o4 g4 hfree
  go_wp2_with fail
  refine (HSY.out _ _ _ HD.out).mono ?_
  rintro e w5 ⟨rfl, o5, c5, h5, ch5⟩
  have H5 := Lib.hid h5
  have C5 := Lib.hid ch5
  clear h5 ch5
  go_wp2
  go_ret2
  exact ⟨_, _, o5, c5, rfl, by rw [hj1.out, ← HS1.out]; exact H5.out, (C2.out.trans (Ch.ext GA.out)).trans C5.out, by rw [hjr.out]; exact HJ.out.ch C5.out⟩
theorem open_idle (h : DI w B o d S c) (hi : Idle S) (hfl : S.fs.length ≤ 1000000) :
    Calls Try.prog 30 #[.pointer (some ⟨d, 0, none⟩)] w (OpenOut o w B d S) := by
  cases hf : S.find jn with
  | none => exact open_none h hi hf hfl
  | some f => exact open_some h hi hf
theorem jOpen_idle {S : Dk} (hi : Idle S) : Idle (jOpen S) := by
  unfold jOpen
  have h1 : Idle (jOpen1 S) := by unfold jOpen1; split <;> exact hi
  split
  · exact hi
  · unfold jOpen2
    split <;> exact h1
end
end Go.Proofs.Ytfbbbbekialpnaa

/-
  A disk's Used.
-/
import Derived.Test.YtkpmadahfmpeiaaGreatDw2
import Derived.Test.YtkpmadahfmpeiaaGreatOct
namespace Go.Proofs.YtkpmadahfmpeiaaGreat
open Go.RowKit
set_option maxRecDepth 100000
set_option maxHeartbeats 400000

def usedBut (fs : List Fi) (left : List UInt8 → Bool) : Nat := ((fs.filter fun f => !left f.name).map fun f => sectors f.now.length).sum
theorem usedBut_all (fs : List Fi) {left : List UInt8 → Bool} (h : ∀ f ∈ fs, left f.name = true) : usedBut fs left = 0 := by
  unfold usedBut
  rw [List.filter_eq_nil_iff.2 (fun f hf => by rw [h f hf]; simp)]
  rfl
theorem usedBut_none (fs : List Fi) {left : List UInt8 → Bool} (h : ∀ s, left s = false) : usedBut fs left = (fs.map fun f => sectors f.now.length).sum := by
  unfold usedBut
  rw [List.filter_eq_self.2 (fun f _ => by rw [h]; rfl)]
theorem usedBut_step {fs : List Fi} (hn : (fs.map Fi.name).Nodup) {left : List UInt8 → Bool} {f : Fi} (hf : f ∈ fs) (hl : left f.name = true) : usedBut fs (fun x => left x && !(x == f.name)) = usedBut fs left + sectors f.now.length := by
  induction fs with
  | nil => cases hf
  | cons a l ih =>
    rw [List.map_cons, List.nodup_cons] at hn
    unfold usedBut at ih ⊢
    by_cases e : a = f
    · subst e
      have hsame : (l.filter fun g => !(left g.name && !(g.name == a.name))) = l.filter fun g => !left g.name := List.filter_congr fun g hg => by
        have : g.name ≠ a.name := fun e => hn.1 (List.mem_map.2 ⟨g, hg, e⟩)
        simp [this]
      simp only [List.filter_cons]
      rw [hsame, hl]
      simp
      omega
    · have hfl : f ∈ l := by
        rcases List.mem_cons.1 hf with h | h
        · exact absurd h.symm e
        · exact h
      have hne : a.name ≠ f.name := fun e2 => hn.1 (List.mem_map.2 ⟨f, hfl, e2.symm⟩)
      have hq : (a.name == f.name) = false := by simpa using hne
      have := ih hn.2 hfl
      simp only [List.filter_cons, hq]
      cases left a.name
      · simp at this ⊢; omega
      · simp at this ⊢; omega
theorem usedBut_le {fs : List Fi} (h : ∀ f ∈ fs, f.now.length ≤ 16777216) (left : List UInt8 → Bool) : usedBut fs left ≤ fs.length * 262144 := by
  induction fs with
  | nil => simp [usedBut]
  | cons a l ih =>
    have h1 := ih fun f hf => h f (List.mem_cons_of_mem _ hf)
    have h2 := h a (List.mem_cons_self ..)
    unfold usedBut at h1 ⊢
    have h3 : sectors a.now.length ≤ 262144 := by unfold sectors; omega
    simp only [List.filter_cons]
    split
    · rw [List.map_cons, List.sum_cons, List.length_cons, Nat.add_mul]; omega
    · rw [List.length_cons, Nat.add_mul]; exact Nat.le_trans h1 (Nat.le_add_right _ _)
theorem domOf_inv {fs : List Fi} {fb : List UInt8 → Nat} {s : List UInt8} {b : Nat} (h : domOf fs fb s = some b) : ∃ f ∈ fs, f.name = s ∧ b = fb s := by
  unfold domOf at h
  cases hq : fs.find? (fun f => f.name == s) with
  | none => rw [hq] at h; cases h
  | some f =>
    rw [hq] at h
    exact ⟨f, List.mem_of_find?_eq_some hq, by simpa using List.find?_some hq, by simpa using h.symm⟩
section
variable {w : World} {B d : Nat} {o : Own1} {S : Dk} {c : Con}
theorem used_nil (w : World) : Calls Tryz.prog 114 #[.pointer none] w fun e w' => e = .returned (.int .i64 0) ∧ w = w' := by
  go_enter Tryz.func114, Tryz.ntmps114
  go_wp2
  go_ret
  exact ⟨rfl, rfl⟩
set_option maxHeartbeats 1000000 in
theorem used_any (h : DI w B o d S c) (hfl : S.fs.length ≤ 1000000) : Calls Tryz.prog 114 #[.pointer (some ⟨d, 0, none⟩)] w fun e w' => e = .returned (.int .i64 S.used) ∧ w.grownBy w' none := by
  have hc := h.self.cell
  have hfm := h.fm
  unfold selfC at hc
  have H := Lib.hid h
  clear h
  go_enter Tryz.func114, Tryz.ntmps114
  go_wp2_with (first | (at_range; refine wp_fm_range rfl _ rfl hfm rfl ?_; intro w0 left cnt hlr hall g0 hz0) | go_in)
  go_frame
  clear hfm
  have HLR := Lib.hid hlr
  have HALL := Lib.hid hall
  have G0 := Lib.hid g0
  clear hlr g0 hall
  go_loopw [3, 5] (fun u _ wr => ∃ (left : List UInt8 → Bool) (cnt : Nat), FR wr c.mb w.heap.size S.fs.length (domOf S.fs c.fb) left cnt ∧ w.grownBy wr none ∧ u = .int .i64 (usedBut S.fs left)) (fun _ _ wr => wr.rangeLeft c.mb w.heap.size)
  case atStart => exact ⟨_, _, HLR.out, G0.out, by rw [usedBut_all S.fs fun f hf => HALL.out f.name _ (by unfold domOf; rw [find_mem H.out.names hf]; rfl)]; rfl⟩
  case round =>
    obtain ⟨left, cnt, hlr, hgr, rfl⟩ := hrel
    have hlt := hlr.lt
    have hleft := hlr.left_eq
    have HL0 := Lib.hid hleft
    have HR := Lib.hid hgr
    have hub := usedBut_le (fun f hf => (H.out.file f hf).small.2.1) left
    clear hleft hgr
    go_wp2_with (first | (at_next; refine wp_fm_next rfl _ rfl hlr rfl ?_ ?_) | go_in)
    · intro h0 hl0
      have hend : Hid (usedBut S.fs left = S.used) := usedBut_none S.fs hl0
      clear hl0 hlr
      go_wp2
      go_ret
      exact ⟨by rw [← hend.out]; rfl, HR.out⟩
    · intro s b w2 cnt2 hls hdom hlr2 hlt2 g2 hz2 hen
      obtain ⟨f, hf, rfl, rfl⟩ := domOf_inv hdom
      have g02 : w.grownBy w2 none := gr_trans HR.out g2 (.inr fun q e => by cases e; exact Nat.le_refl _)
      have hfile := (H.out.ext g02).file f hf
      have hfc := hfile.box.cell 0
      obtain ⟨A, cp, hv⟩ := hfile.now.rd.form
      have hfc' : w2.cell? ⟨c.fb f.name, 0, none⟩ = some (.slice A f.now.length cp) := by rw [← hv]; exact hfc
      have hsm := hfile.small
      have hst := usedBut_step H.out.names hf hls
      have hrel2 : Hid (Value.int .i64 ((usedBut S.fs left : Nat) + (sectors f.now.length : Nat) : Int) = .int .i64 (usedBut S.fs (fun x => left x && !(x == f.name)) : Nat)) := by
        show _ = _
        rw [hst]; simp
      have HLR2 := Lib.hid hlr2
      have G02 := Lib.hid g02
      have hcnt : Hid (w2.rangeLeft c.mb w.heap.size < wr.rangeLeft c.mb w.heap.size) := by
        show _ < _
        rw [hlr2.left_eq, HL0.out]; exact hlt2
      have hsl : sectors f.now.length ≤ 262144 := by unfold sectors; omega
      clear hfile hfc hv hst hlr2 g02 hls hdom g2 hlr
      go_wp2_with (first | (go_at_call 113; refine (sectors_any _ _ (by omega) (by omega)).mono ?_; rintro e w9 ⟨rfl, rfl⟩; rw [Int.toNat_natCast]) | go_in)
      go_roundw
      case rel => exact ⟨_, _, HLR2.out, G02.out, hrel2.out⟩
      case measure => exact hcnt.out
end
end Go.Proofs.YtkpmadahfmpeiaaGreat

/- A disk: New, Create, Sync, Size, Read, Cut. -/
namespace Go.Proofs.YtkpmadahfmpeiaaGreat
open Go.RowKit
set_option maxRecDepth 100000
set_option maxHeartbeats 400000

def DOut (o : Own1) (w : World) (B d : Nat) (S : Dk) (w' : World) : Prop := ∃ o' c', DI w' B o' d S c' ∧ Ch o w o' w'
def newD (q : Nat) : Dk := ⟨[], fun _ _ => false, 0, q, 0, false⟩
def newO (b : Nat) : Own1 := fun i => if i = b then some (1, []) else if i = b + 1 then some (2, []) else if i = b + 2 then some (0, []) else none
def newC (b : Nat) : Con := ⟨b, b + 1, fun _ => 0, fun _ => .slice none 0 0, fun _ => .slice none 0 0⟩
theorem new_di (w : World) (q : Nat) (hq : q ≤ 1048576) :
    DI (((w.alloc (.map #[] 0)).alloc (.map #[] 0)).alloc (.cells #[.map (some w.heap.size), .map (some (w.heap.size + 1)), .int .i64 q, .int .i64 0, .bool false] 109)) w.heap.size (newO w.heap.size) (w.heap.size + 2) (newD q) (newC w.heap.size) where
  self := by
    have := Blk.new ((w.alloc (.map #[] 0)).alloc (.map #[] 0)) 109 #[.map (some w.heap.size), .map (some (w.heap.size + 1)), .int .i64 q, .int .i64 0, .bool false]
    rw [World.size_alloc, World.size_alloc] at this
    exact this
  fm := ((FM.made w).gr (gr_alloc _ _ none) (by simp)).gr (gr_alloc _ _ none) (by simp)
  lm := by
    have := (LM.made (w.alloc (.map #[] 0))).gr (gr_alloc _ (.cells #[.map (some w.heap.size), .map (some (w.heap.size + 1)), .int .i64 q, .int .i64 0, .bool false] 109) none) (by simp)
    rw [World.size_alloc] at this
    exact this
  file := fun f hf => by cases hf
  tag := fun f hf => by cases hf
  names := List.nodup_nil
  tD := by simp [newO]
  tM := by simp [newO, newC]
  tL := by simp [newO, newC]
  inb := fun i hi => by
    by_cases h1 : i = w.heap.size
    · simp [World.size_alloc]; omega
    · by_cases h2 : i = w.heap.size + 1
      · simp [World.size_alloc]; omega
      · by_cases h3 : i = w.heap.size + 2
        · simp [World.size_alloc]; omega
        · simp [newO, h1, h2, h3] at hi
  lim := ⟨hq, by simp [newD]⟩
theorem new_bad (q : Int) (w : World) (h : q < 0 ∨ 1048576 < q) : Calls Tryz.prog 10 #[.int .i64 q] w fun e w' => e = .returned (.tuple #[.pointer none, .int .i64 1]) ∧ w = w' := by
  by_cases h0 : q < 0
  · go_enter Tryz.func10, Tryz.ntmps10
    go_wp2
    go_ret2
    exact ⟨rfl, rfl⟩
  · have h1 : 1048576 < q := by omega
    have h2 : decide (q < 0) = false := by simp; omega
    have h3 : 0 ≤ q := by omega
    clear h h0
    go_enter Tryz.func10, Tryz.ntmps10
    go_wp2
    go_ret2
    exact ⟨rfl, rfl⟩
def NewOut (w : World) (q : Nat) (e : Ending) (w' : World) : Prop :=
  ∃ d o c, e = .returned (.tuple #[.pointer (some ⟨d, 0, none⟩), .int .i64 0]) ∧ DI w' w.heap.size o d (newD q) c ∧ w.grownBy w' none
theorem new_ok (q : Nat) (w : World) (h : q ≤ 1048576) : Calls Tryz.prog 10 #[.int .i64 q] w (NewOut w q) := by
  have hmm := @run_makeMap Tryz.prog
  have hn := Lib.hid (new_di w q h)
  go_enter Tryz.func10, Tryz.ntmps10
  go_wp2
  go_ret2
  exact ⟨_, _, _, rfl, hn.out, gr_none (gr_none (gr_alloc _ _ none) (gr_alloc _ _ none)) (gr_alloc _ _ none)⟩
section
variable {w : World} {B d : Nat} {o : Own1} {S : Dk} {c : Con}
theorem DI.base (h : DI w B o d S c) : B ≤ w.heap.size := by have := h.inb d (by rw [h.tD]; simp); omega
theorem dout_begin {w1 w' : World} (h : DI w B o d S c) (h1 : DI w1 B o d S.begin c) (g1 : w.grownBy w1 (some d)) (g2 : w1.grownBy w' none) : DOut o w B d S.begin w' :=
  ⟨o, c, h1.ext g2, (Ch.of_gr g1 (fun k e => by cases e; rw [h.tD]; simp)).trans (Ch.ext g2)⟩
set_option maxHeartbeats 1000000 in
theorem create_any (h : DI w B o d S c) (n : List UInt8) (hn : n.length ≤ 1000000000) (hfl : S.fs.length ≤ 1000000) :
    Calls Tryz.prog 18 #[.pointer (some ⟨d, 0, none⟩), .string ⟨n.toArray⟩] w fun e w' => e = .returned (.int .i64 (S.create n).2) ∧ DOut o w B d (S.create n).1 w' := by
  have H := Lib.hid h
  have hbg := begin_any h
  have HB := Lib.hid hbg
  clear h hbg
  cases hd : S.begin.dead with
  | true =>
    have e : S.create n = (S.begin, 6) := by unfold Dk.create; rw [hd]; rfl
    rw [e]
    clear e
    go_enter Tryz.func18, Tryz.ntmps18
    go_wp2_with fail
    refine HB.out.mono ?_
    rintro e w1 ⟨rfl, h1, g1⟩
    have H1 := Lib.hid h1
    clear h1
    rw [hd]
    go_wp2
    go_ret
    exact ⟨rfl, dout_begin H.out H1.out g1 (gr_refl _ _)⟩
  | false =>
    cases hr : rightB n with
    | false =>
      have e : S.create n = (S.begin, 1) := by unfold Dk.create; rw [hd, hr]; rfl
      rw [e]
      clear e
      go_enter Tryz.func18, Tryz.ntmps18
      go_wp2_with fail
      refine HB.out.mono ?_
      rintro e w1 ⟨rfl, h1, g1⟩
      have H1 := Lib.hid h1
      clear h1
      rw [hd]
      go_wp2_with (go_at_call 57; refine (find_bad d n true _ hn (.inl hr)).mono ?_; rintro e w2 ⟨rfl, g2⟩)
      go_ret
      exact ⟨rfl, dout_begin H.out H1.out g1 g2⟩
    | true =>
      cases hf : S.find n with
      | some f =>
        have e : S.create n = (S.begin, 4) := by unfold Dk.create; rw [hd, hr, hf]; rfl
        rw [e]
        clear e
        have hf1 : S.begin.find n = some f := by rw [begin_find]; exact hf
        clear hf
        go_enter Tryz.func18, Tryz.ntmps18
        go_wp2_with fail
        refine HB.out.mono ?_
        rintro e w1 ⟨rfl, h1, g1⟩
        have H1 := Lib.hid h1
        have Hfo := Lib.hid (find_ok h1 hn hr hf1)
        clear h1 hf1
        rw [hd]
        go_wp2_with (go_at_call 57; refine Hfo.out.mono ?_; rintro e w2 ⟨rfl, g2⟩)
        go_ret
        exact ⟨rfl, dout_begin H.out H1.out g1 g2⟩
      | none =>
        have e : S.create n = ({ S.begin with fs := S.fs ++ [⟨n, [], []⟩] }, 0) := by unfold Dk.create; rw [hd, hr, hf]; rfl
        rw [e]
        clear e
        have hf1 : S.begin.find n = none := by rw [begin_find]; exact hf
        have HF := Lib.hid hf1
        have hnr := right_len hr
        clear hf
        go_enter Tryz.func18, Tryz.ntmps18
        go_wp2_with fail
        refine HB.out.mono ?_
        rintro e w1 ⟨rfl, h1, g1⟩
        have H1 := Lib.hid h1
        have Hfo := Lib.hid (find_no h1 hn hr hf1)
        clear h1 hf1
        rw [hd]
        go_wp2_with fail
        refine Hfo.out.mono ?_
        rintro e w2 ⟨rfl, g2⟩
        have h2 := H1.out.ext g2
        have hc := h2.self.cell
        unfold selfC at hc
        have H2 := Lib.hid h2
        have G2 := Lib.hid g2
        have hfm : FM (w2.alloc (.cells #[.slice none 0 0, .slice none 0 0] 126)) c.mb S.begin.fs.length (domOf S.begin.fs c.fb) := h2.fm.gr (gr_alloc _ _ none) (by simp)
        have hmb : S.begin.fs.length < maxLen := by rw [begin_fs]; unfold maxLen; omega
        have hnm : n.length ≤ maxLen := by unfold maxLen; omega
        clear h2 g2 hd hr
        go_wp2_with (at_mapUpdate; refine wp_fm_put rfl _ _ _ rfl hfm rfl hmb hnm rfl w2.heap.size rfl ?_; intro w3 hfm3 g3)
        go_ret
        refine ⟨rfl, ?_⟩
        have hmbd : ∀ i, i ≠ c.mb → i < w2.heap.size + 1 → w3.heap[i]? = (w2.alloc (.cells #[.slice none 0 0, .slice none 0 0] 126)).heap[i]? := fun i hi hl => g3.block i (by rw [World.size_alloc]; exact hl) (fun e => hi (by cases e; rfl))
        have hz3 := g3.size
        rw [World.size_alloc] at hz3
        have hml := H2.out.fm.lt
        obtain ⟨o', c', hdi, hoo⟩ := H2.out.add (w' := w3) HF.out hnr.2 H2.out.base (by omega) (fun i hi hm => by
          have hl := (H2.out.inb i hi).2
          rw [hmbd i hm (by omega)]
          exact heap_alloc_old w2 _ hl) (by
          have : Blk (w2.alloc (.cells #[.slice none 0 0, .slice none 0 0] 126)) w2.heap.size 126 #[.slice none 0 0, .slice none 0 0] := Blk.new w2 _ _
          exact this.same (hmbd _ (by omega) (by omega))) hfm3
        have hfs : { S.begin with fs := S.begin.fs ++ [⟨n, [], []⟩] } = ({ S.begin with fs := S.fs ++ [⟨n, [], []⟩] } : Dk) := by rw [begin_fs]
        rw [hfs] at hdi
        refine ⟨o', c', hdi, (Ch.of_gr g1 (fun k e => by cases e; rw [H.out.tD]; simp)).trans ((Ch.ext G2.out).trans ⟨g3.os, g3.tape, g3.output, by omega, fun i hi h0 => ?_, fun i hi h0 => by rw [hoo i hi]; exact h0⟩)⟩
        rw [hmbd i (fun e => by rw [e, H.out.tM] at h0; cases h0) (by omega)]
        exact heap_alloc_old w2 _ hi
/-- what an operation is that ends ahead of a file. -/
theorem size_any (h : DI w B o d S c) (n : List UInt8) (hn : n.length ≤ 1000000000) :
    Calls Tryz.prog 108 #[.pointer (some ⟨d, 0, none⟩), .string ⟨n.toArray⟩] w fun e w' => e = .returned (.tuple #[.int .i64 (S.size n).1, .int .i64 (S.size n).2]) ∧ w.grownBy w' none := by
  have H := Lib.hid h
  have hlk := look_any h
  have HK := Lib.hid hlk
  clear hlk
  cases hd : S.dead with
  | true =>
    have e : S.size n = (0, 6) := by unfold Dk.size; rw [hd]; rfl
    rw [e]
    clear e h
    go_enter Tryz.func108, Tryz.ntmps108
    go_wp2_with fail
    refine HK.out.mono ?_
    rintro e w1 ⟨rfl, rfl⟩
    rw [hd]
    go_wp2
    go_ret2
    exact ⟨rfl, gr_refl _ _⟩
  | false =>
    cases hr : rightB n with
    | false =>
      have e : S.size n = (0, 1) := by unfold Dk.size; rw [hd, hr]; rfl
      rw [e]
      clear e h
      go_enter Tryz.func108, Tryz.ntmps108
      go_wp2_with fail
      refine HK.out.mono ?_
      rintro e w1 ⟨rfl, rfl⟩
      rw [hd]
      go_wp2_with (go_at_call 57; refine (find_bad d n true _ hn (.inl hr)).mono ?_; rintro e w2 ⟨rfl, g2⟩)
      go_ret2
      exact ⟨rfl, g2⟩
    | true =>
      cases hf : S.find n with
      | none =>
        have e : S.size n = (0, 3) := by unfold Dk.size; rw [hd, hr, hf]; rfl
        rw [e]
        have Hfo := Lib.hid (find_no h hn hr hf)
        clear e h hf
        go_enter Tryz.func108, Tryz.ntmps108
        go_wp2_with fail
        refine HK.out.mono ?_
        rintro e w1 ⟨rfl, rfl⟩
        rw [hd]
        go_wp2_with (go_at_call 57; refine Hfo.out.mono ?_; rintro e w2 ⟨rfl, g2⟩)
        go_ret2
        exact ⟨rfl, g2⟩
      | some f =>
        have e : S.size n = (f.now.length, 0) := by unfold Dk.size; rw [hd, hr, hf]; rfl
        rw [e]
        have Hfo := Lib.hid (find_ok h hn hr hf)
        obtain ⟨hm, rfl⟩ := find_some hf
        have Hm := Lib.hid hm
        clear e h hf hm
        go_enter Tryz.func108, Tryz.ntmps108
        go_wp2_with fail
        refine HK.out.mono ?_
        rintro e w1 ⟨rfl, rfl⟩
        rw [hd]
        go_wp2_with fail
        refine Hfo.out.mono ?_
        rintro e w2 ⟨rfl, g2⟩
        have hfr := (H.out.ext g2).file f Hm.out
        obtain ⟨A, cp, hv⟩ := hfr.now.rd.form
        have hfc : w2.cell? ⟨c.fb f.name, 0, none⟩ = some (.slice A f.now.length cp) := by rw [← hv]; exact hfr.box.cell 0
        have hsm := hfr.small
        clear hfr hv hd hr
        go_wp2
        go_ret2
        exact ⟨rfl, g2⟩
end
end Go.Proofs.YtkpmadahfmpeiaaGreat

/- A disk: Sync, Read, Cut. -/
namespace Go.Proofs.YtkpmadahfmpeiaaGreat
open Go.RowKit
set_option maxRecDepth 100000
set_option maxHeartbeats 400000

theorem setF_congr {fs : List Fi} (h : (fs.map Fi.name).Nodup) {f : Fi} (hf : f ∈ fs) {g1 g2 : Fi → Fi} (e : g1 f = g2 f) : setF fs f.name g1 = setF fs f.name g2 := by
  unfold setF
  refine List.map_congr_left fun a ha => ?_
  by_cases hn : a.name = f.name
  · rw [if_pos hn, if_pos hn, nodup_name h ha hf hn, e]
  · rw [if_neg hn, if_neg hn]
section
variable {w w3 : World} {B d : Nat} {o : Own1} {S : Dk} {c : Con} {f : Fi}
theorem DI.ne_file (h : DI w B o d S c) (hf : f ∈ S.fs) : c.fb f.name < w.heap.size := (h.inb _ (by rw [(h.tag f hf).file]; simp)).2
theorem heap_far (w : World) (p : Addr) (u : Value) {k : Nat} (hk : k ≠ p.block) : (w.setCell p u).heap[k]? = w.heap[k]? := Below.heap_setCell w p u k hk
/-- a new list is stored as what lasts. -/
theorem DI.storeLasts (h : DI w B o d S c) (hf : f ∈ S.fs) (g3 : w.grownBy w3 none) {v : Value} {l : List UInt8} (hv : OwnB w3 w.heap.size v l) (hl : l.length ≤ 16777216) :
    ∃ o', DI (w3.setCell ⟨c.fb f.name, 1, none⟩ v) B o' d { S with fs := setF S.fs f.name fun g => { g with lasts := l } } { c with lv := fun s => if s = f.name then v else c.lv s } ∧ Ch o w o' (w3.setCell ⟨c.fb f.name, 1, none⟩ v) ∧ ∀ i, i < w.heap.size → o' i = o i := by
  have hlt := h.ne_file hf
  have hz := g3.size
  have hbk : ∀ k, blk v = some k → w.heap.size ≤ k := fun k hk => (Own.blk_lt hv (by omega) hk).1
  have hb := ((h.file f hf).box.ext g3).set 1 v
  obtain ⟨o', c', hdi, hoo, rfl⟩ := h.setLasts (w' := w3.setCell ⟨c.fb f.name, 1, none⟩ v) hf (by simpa [World.setCell] using hz) (fun i hi h3 _ => by
      rw [heap_far _ _ _ (fun e => by rw [e] at h3; exact h3 (h.tag f hf).file)]
      exact g3.block i (h.inb i hi).2 (by simp)) v l hb
    (Own.mono (Own.same hv fun k hk => heap_far _ _ _ (fun e => by have := hbk k hk; simp at e; omega)) h.base) (fun k hk => .inr (hbk k hk)) hl
  refine ⟨o', hdi, ⟨g3.os, g3.tape, g3.output, by simpa [World.setCell] using hz, fun i hi h0 => ?_, fun i hi h0 => by rw [hoo i hi]; exact h0⟩, hoo⟩
  rw [heap_far _ _ _ (fun e => by rw [e] at h0; have := (h.tag f hf).file; simp at h0; rw [h0] at this; cases this)]
  exact g3.block i hi (by simp)
/-- .. and as what is there now. -/
theorem DI.storeNow (h : DI w B o d S c) (hf : f ∈ S.fs) (g3 : w.grownBy w3 none) {v : Value} {l : List UInt8} (hv : OwnB w3 w.heap.size v l) (hl : l.length ≤ 16777216) :
    ∃ o', DI (w3.setCell ⟨c.fb f.name, 0, none⟩ v) B o' d { S with fs := setF S.fs f.name fun g => { g with now := l } } { c with nv := fun s => if s = f.name then v else c.nv s } ∧ Ch o w o' (w3.setCell ⟨c.fb f.name, 0, none⟩ v) ∧ ∀ i, i < w.heap.size → o' i = o i := by
  have hlt := h.ne_file hf
  have hz := g3.size
  have hbk : ∀ k, blk v = some k → w.heap.size ≤ k := fun k hk => (Own.blk_lt hv (by omega) hk).1
  have hb := ((h.file f hf).box.ext g3).set 0 v
  obtain ⟨o', c', hdi, hoo, rfl⟩ := h.setNow (w' := w3.setCell ⟨c.fb f.name, 0, none⟩ v) hf (by simpa [World.setCell] using hz) (fun i hi h3 _ => by
      rw [heap_far _ _ _ (fun e => by rw [e] at h3; exact h3 (h.tag f hf).file)]
      exact g3.block i (h.inb i hi).2 (by simp)) v l hb
    (Own.mono (Own.same hv fun k hk => heap_far _ _ _ (fun e => by have := hbk k hk; simp at e; omega)) h.base) (fun k hk => .inr (hbk k hk)) hl
  refine ⟨o', hdi, ⟨g3.os, g3.tape, g3.output, by simpa [World.setCell] using hz, fun i hi h0 => ?_, fun i hi h0 => by rw [hoo i hi]; exact h0⟩, hoo⟩
  rw [heap_far _ _ _ (fun e => by rw [e] at h0; have := (h.tag f hf).file; simp at h0; rw [h0] at this; cases this)]
  exact g3.block i hi (by simp)
end
section
variable {w : World} {B d : Nat} {o : Own1} {S : Dk} {c : Con}
set_option maxHeartbeats 1000000 in
theorem sync_any (h : DI w B o d S c) (n : List UInt8) (hn : n.length ≤ 1000000000) :
    Calls Tryz.prog 105 #[.pointer (some ⟨d, 0, none⟩), .string ⟨n.toArray⟩] w fun e w' => e = .returned (.int .i64 (S.sync n).2) ∧ DOut o w B d (S.sync n).1 w' := by
  have H := Lib.hid h
  have hbg := begin_any h
  have HB := Lib.hid hbg
  clear h hbg
  cases hd : S.begin.dead with
  | true =>
    have e : S.sync n = (S.begin, 6) := by unfold Dk.sync; rw [hd]; rfl
    rw [e]
    clear e
    go_enter Tryz.func105, Tryz.ntmps105
    go_wp2_with fail
    refine HB.out.mono ?_
    rintro e w1 ⟨rfl, h1, g1⟩
    have H1 := Lib.hid h1
    clear h1
    rw [hd]
    go_wp2
    go_ret
    exact ⟨rfl, dout_begin H.out H1.out g1 (gr_refl _ _)⟩
  | false =>
    cases hr : rightB n with
    | false =>
      have e : S.sync n = (S.begin, 1) := by unfold Dk.sync; rw [hd, hr]; rfl
      rw [e]
      clear e
      go_enter Tryz.func105, Tryz.ntmps105
      go_wp2_with fail
      refine HB.out.mono ?_
      rintro e w1 ⟨rfl, h1, g1⟩
      have H1 := Lib.hid h1
      clear h1
      rw [hd]
      go_wp2_with (go_at_call 57; refine (find_bad d n true _ hn (.inl hr)).mono ?_; rintro e w2 ⟨rfl, g2⟩)
      go_ret
      exact ⟨rfl, dout_begin H.out H1.out g1 g2⟩
    | true =>
      cases hf : S.find n with
      | none =>
        have e : S.sync n = (S.begin, 3) := by unfold Dk.sync; rw [hd, hr, hf]; rfl
        rw [e]
        clear e
        have hf1 : S.begin.find n = none := by rw [begin_find]; exact hf
        clear hf
        go_enter Tryz.func105, Tryz.ntmps105
        go_wp2_with fail
        refine HB.out.mono ?_
        rintro e w1 ⟨rfl, h1, g1⟩
        have H1 := Lib.hid h1
        have Hfo := Lib.hid (find_no h1 hn hr hf1)
        clear h1 hf1
        rw [hd]
        go_wp2_with (go_at_call 57; refine Hfo.out.mono ?_; rintro e w2 ⟨rfl, g2⟩)
        go_ret
        exact ⟨rfl, dout_begin H.out H1.out g1 g2⟩
      | some f =>
        have e : S.sync n = (S.begin.synced n, 0) := by unfold Dk.sync; rw [hd, hr, hf]; rfl
        rw [e]
        clear e
        have hf1 : S.begin.find n = some f := by rw [begin_find]; exact hf
        obtain ⟨hm, rfl⟩ := find_some hf1
        have Hm := Lib.hid hm
        clear hf hm
        go_enter Tryz.func105, Tryz.ntmps105
        go_wp2_with fail
        refine HB.out.mono ?_
        rintro e w1 ⟨rfl, h1, g1⟩
        have H1 := Lib.hid h1
        have G1 := Lib.hid g1
        have Hfo := Lib.hid (find_ok h1 hn hr hf1)
        clear h1 hf1 g1
        rw [hd]
        go_wp2_with fail
        refine Hfo.out.mono ?_
        rintro e w2 ⟨rfl, g2⟩
        have h2 := H1.out.ext g2
        have H2 := Lib.hid h2
        have G2 := Lib.hid g2
        have hfr := h2.file f Hm.out
        have HFR := Lib.hid hfr
        have hsm := hfr.small
        have hfc : w2.cell? ⟨c.fb f.name, 0, none⟩ = some (c.nv f.name) := hfr.box.cell 0
        clear h2 g2 hfr hd hr
        go_wp2_with fail
        refine (cloneB _ f.now w2 HFR.out.now.rd (by omega)).mono ?_
        rintro e w3 ⟨v3, rfl, o3, g3⟩
        obtain ⟨A3, c3, rfl⟩ := o3.rd.form
        have hk3 : w3.cell? ⟨c.fb f.name, 1, none⟩ = some (c.lv f.name) := (HFR.out.box.ext g3).cell 1
        have hk4 := (HFR.out.box.ext g3).frozen 1
        obtain ⟨o4, h4, ch4, hoo4⟩ := H2.out.storeLasts Hm.out g3 o3 hsm.2.1
        have H4 := Lib.hid h4
        have C4 := Lib.hid ch4
        have hst := Lib.hid (settle_all h4 f.name)
        clear h4 ch4 o3 g3 hoo4
        go_wp2_with fail
        refine hst.out.mono ?_
        rintro e w5 ⟨rfl, lm5, g5⟩
        have h5 := H4.out.loose g5 lm5
        have H5 := Lib.hid h5
        have C5 : Hid (Ch o4 _ o4 w5) := Ch.of_gr g5 (fun k e => by cases e; rw [show o4 c.lb = some (2, []) from H4.out.tL]; simp)
        clear h5 lm5 g5
        go_wp2
        go_ret
        have e : S.begin.synced f.name = { S.begin with fs := setF S.begin.fs f.name fun g => { g with lasts := f.now }, loose := fun s j => S.begin.loose s j && !(s == f.name) } := by
          unfold Dk.synced
          rw [setF_congr H1.out.names Hm.out (g1 := fun g => { g with lasts := g.now }) (g2 := fun g => { g with lasts := f.now }) rfl]
        rw [e]
        exact ⟨rfl, o4, _, H5.out, (((Ch.of_gr G1.out (fun k e => by cases e; rw [H.out.tD]; simp)).trans (Ch.ext G2.out)).trans C4.out).trans C5.out⟩
set_option maxHeartbeats 1000000 in
theorem read_any (h : DI w B o d S c) (n : List UInt8) (hn : n.length ≤ 1000000000) (off k : Int) (ho : -9223372036854775808 ≤ off ∧ off ≤ 9223372036854775807) (hk : -9223372036854775808 ≤ k ∧ k ≤ 9223372036854775807) :
    Calls Tryz.prog 109 #[.pointer (some ⟨d, 0, none⟩), .string ⟨n.toArray⟩, .int .i64 off, .int .i64 k] w fun e w' =>
      (∃ v, e = .returned (.tuple #[v, .int .i64 (S.read n off k).2]) ∧ OwnB w' w.heap.size v (S.read n off k).1) ∧ w.grownBy w' none := by
  have H := Lib.hid h
  have hlk := look_any h
  have HK := Lib.hid hlk
  clear hlk
  cases hd : S.dead with
  | true =>
    have e : S.read n off k = ([], 6) := by unfold Dk.read; rw [hd]; rfl
    rw [e]
    clear e h
    go_enter Tryz.func109, Tryz.ntmps109
    go_wp2_with fail
    refine HK.out.mono ?_
    rintro e w1 ⟨rfl, rfl⟩
    rw [hd]
    go_wp2
    go_ret2
    exact ⟨⟨_, rfl, OwnB.nil _ _⟩, gr_refl _ _⟩
  | false =>
    have bad : ∀ fine : Bool, rightB n = false ∨ fine = false → S.read n off k = ([], 1) → (decide (0 ≤ off) && decide (0 ≤ k)) = fine →
        Calls Tryz.prog 109 #[.pointer (some ⟨d, 0, none⟩), .string ⟨n.toArray⟩, .int .i64 off, .int .i64 k] w fun e w' =>
          (∃ v, e = .returned (.tuple #[v, .int .i64 (S.read n off k).2]) ∧ OwnB w' w.heap.size v (S.read n off k).1) ∧ w.grownBy w' none := fun fine hb e hfin => by
      rw [e]
      have Hbad := Lib.hid (fun (wx : World) => find_bad d n fine wx hn hb)
      clear e h hb
      by_cases h1 : 0 ≤ off
      · by_cases h2 : 0 ≤ k
        · obtain rfl : fine = true := by rw [← hfin]; simp [h1, h2]
          clear hfin
          go_enter Tryz.func109, Tryz.ntmps109
          go_wp2_with fail
          refine HK.out.mono ?_
          rintro e w1 ⟨rfl, rfl⟩
          rw [hd]
          go_wp2_with (go_at_call 57; refine (Hbad.out _).mono ?_; rintro e w2 ⟨rfl, g2⟩)
          go_ret2
          exact ⟨⟨_, rfl, OwnB.nil _ _⟩, g2⟩
        · obtain rfl : fine = false := by rw [← hfin]; simp [h2]
          have hdk : decide (0 ≤ k) = false := by simpa using h2
          clear hfin
          go_enter Tryz.func109, Tryz.ntmps109
          go_wp2_with fail
          refine HK.out.mono ?_
          rintro e w1 ⟨rfl, rfl⟩
          rw [hd]
          go_wp2_with (go_at_call 57; refine (Hbad.out _).mono ?_; rintro e w2 ⟨rfl, g2⟩)
          go_ret2
          exact ⟨⟨_, rfl, OwnB.nil _ _⟩, g2⟩
      · obtain rfl : fine = false := by rw [← hfin]; simp [h1]
        have hdo : decide (0 ≤ off) = false := by simpa using h1
        clear hfin
        go_enter Tryz.func109, Tryz.ntmps109
        go_wp2_with fail
        refine HK.out.mono ?_
        rintro e w1 ⟨rfl, rfl⟩
        rw [hd]
        go_wp2_with (go_at_call 57; refine (Hbad.out _).mono ?_; rintro e w2 ⟨rfl, g2⟩)
        go_ret2
        exact ⟨⟨_, rfl, OwnB.nil _ _⟩, g2⟩
    cases hr : rightB n with
    | false => exact bad _ (.inl hr) (by unfold Dk.read; rw [hd, hr]; rfl) rfl
    | true =>
      by_cases hpos : 0 ≤ off ∧ 0 ≤ k
      · obtain ⟨h1, h2⟩ := hpos
        clear bad
        have hcond : ¬ (rightB n = false ∨ off < 0 ∨ k < 0) := by rw [hr]; simp; omega
        cases hf : S.find n with
        | none =>
          have e : S.read n off k = ([], 3) := by unfold Dk.read; rw [hd, if_neg hcond, hf]; rfl
          rw [e]
          have Hfo := Lib.hid (find_no h hn hr hf)
          clear e h hf hcond
          go_enter Tryz.func109, Tryz.ntmps109
          go_wp2_with fail
          refine HK.out.mono ?_
          rintro e w1 ⟨rfl, rfl⟩
          rw [hd]
          go_wp2_with (go_at_call 57; refine Hfo.out.mono ?_; rintro e w2 ⟨rfl, g2⟩)
          go_ret2
          exact ⟨⟨_, rfl, OwnB.nil _ _⟩, g2⟩
        | some f =>
          have e : S.read n off k = ((f.now.drop off.toNat).take k.toNat, 0) := by unfold Dk.read; rw [hd, if_neg hcond, hf]; rfl
          rw [e]
          have Hfo := Lib.hid (find_ok h hn hr hf)
          obtain ⟨hm, rfl⟩ := find_some hf
          have Hm := Lib.hid hm
          clear e h hf hm hcond
          go_enter Tryz.func109, Tryz.ntmps109
          go_wp2_with fail
          refine HK.out.mono ?_
          rintro e w1 ⟨rfl, rfl⟩
          rw [hd]
          go_wp2_with fail
          refine Hfo.out.mono ?_
          rintro e w2 ⟨rfl, g2⟩
          have hfr := (H.out.ext g2).file f Hm.out
          have hsm := hfr.small
          obtain ⟨A, cp, hv⟩ := hfr.now.rd.form
          have hfc : w2.cell? ⟨c.fb f.name, 0, none⟩ = some (.slice A f.now.length cp) := by rw [← hv]; exact hfr.box.cell 0
          have hrd := hfr.now.rd
          rw [hv] at hrd
          have hcap := RdB.cap hrd
          have hmx : cp ≤ maxLen := by obtain ⟨_, _, _, _, _, e, _, hc, _⟩ := hrd; cases e; exact hc
          unfold maxLen at hmx
          have HRD := Lib.hid hrd
          have G2 := Lib.hid g2
          clear hfr hv hd hr hrd g2
          obtain ⟨p, rfl⟩ := Int.eq_ofNat_of_zero_le h1
          obtain ⟨m, rfl⟩ := Int.eq_ofNat_of_zero_le h2
          by_cases hpl : (p : Int) ≤ (f.now.length : Int)
          · by_cases hml : (m : Int) ≤ (f.now.length : Int) - (p : Int)
            · obtain ⟨L, hL⟩ : ∃ L, L = (f.now.take (p + m)).drop p := ⟨_, rfl⟩
              have HL : Hid ((f.now.drop p).take m = L) := by show _ = _; rw [hL, List.take_drop]
              have hcut : RdB w2 (.slice (cutA A cp p 1) m (cp - p)) L := by
                have := RdB.cut HRD.out (i := p) (j := p + m) (by omega) (by omega)
                rw [Nat.add_sub_cancel_left, ← hL] at this
                exact this
              have hLl : L.length ≤ 16777216 := by rw [hL, List.length_drop, List.length_take]; omega
              have HC := Lib.hid hcut
              clear hL hcut
              go_wp2_with fail
              go_quiet (fail)
              go_wp2_with (go_at_call 58; refine (cloneB _ L _ (HC.out.ext (gr_drewN _ _ _)) (by omega)).mono ?_; rintro e w4 ⟨v4, rfl, o4, g4⟩)
              go_ret2
              exact ⟨⟨v4, rfl, by rw [Int.toNat_natCast, Int.toNat_natCast, HL.out]; exact Own.mono o4 G2.out.size⟩, gr_none (gr_none G2.out (gr_drewN _ _ none)) g4⟩
            · obtain ⟨L, hL⟩ : ∃ L, L = f.now.drop p := ⟨_, rfl⟩
              have HL : Hid ((f.now.drop p).take m = L) := by show _ = _; rw [hL, List.take_of_length_le (by rw [List.length_drop]; omega)]
              have hcut : RdB w2 (.slice (cutA A cp p 1) (f.now.length - p) (cp - p)) L := by
                have := RdB.drop HRD.out (i := p) (by omega)
                rw [← hL] at this
                exact this
              have hLl : L.length ≤ 16777216 := by rw [hL, List.length_drop]; omega
              have HC := Lib.hid hcut
              clear hL hcut
              go_wp2_with fail
              go_quiet (fail)
              go_wp2_with (go_at_call 58; refine (cloneB _ L _ (HC.out.ext (gr_drewN _ _ _)) (by omega)).mono ?_; rintro e w4 ⟨v4, rfl, o4, g4⟩)
              go_ret2
              exact ⟨⟨v4, rfl, by rw [Int.toNat_natCast, Int.toNat_natCast, HL.out]; exact Own.mono o4 G2.out.size⟩, gr_none (gr_none G2.out (gr_drewN _ _ none)) g4⟩
          · obtain ⟨L, hL⟩ : ∃ L, L = f.now.drop f.now.length := ⟨_, rfl⟩
            have HL : Hid ((f.now.drop p).take m = L) := by show _ = _; rw [hL, List.drop_of_length_le (by omega), List.drop_of_length_le (by omega)]; simp
            have hcut : RdB w2 (.slice (cutA A cp f.now.length 1) 0 (cp - f.now.length)) L := by
              have := RdB.drop HRD.out (i := f.now.length) (by omega)
              rw [← hL, Nat.sub_self] at this
              exact this
            have hLl : L.length ≤ 16777216 := by rw [hL, List.length_drop]; omega
            have HC := Lib.hid hcut
            clear hL hcut
            by_cases hm0 : (m : Int) ≤ 0
            · obtain rfl : m = 0 := by omega
              go_wp2_with fail
              go_quiet (fail)
              go_wp2_with (go_at_call 58; refine (cloneB _ L _ (HC.out.ext (gr_drewN _ _ _)) (by omega)).mono ?_; rintro e w4 ⟨v4, rfl, o4, g4⟩)
              go_ret2
              exact ⟨⟨v4, rfl, by rw [Int.toNat_natCast, Int.toNat_natCast, HL.out]; exact Own.mono o4 G2.out.size⟩, gr_none (gr_none G2.out (gr_drewN _ _ none)) g4⟩
            · skip
              go_wp2_with fail
              go_quiet (fail)
              go_wp2_with (go_at_call 58; refine (cloneB _ L _ (HC.out.ext (gr_drewN _ _ _)) (by omega)).mono ?_; rintro e w4 ⟨v4, rfl, o4, g4⟩)
              go_ret2
              exact ⟨⟨v4, rfl, by rw [Int.toNat_natCast, Int.toNat_natCast, HL.out]; exact Own.mono o4 G2.out.size⟩, gr_none (gr_none G2.out (gr_drewN _ _ none)) g4⟩
      · have hfin : (decide (0 ≤ off) && decide (0 ≤ k)) = false := by
          rw [Bool.eq_false_iff]
          simp
          omega
        have hcond : rightB n = false ∨ off < 0 ∨ k < 0 := by right; omega
        exact bad _ (.inr rfl) (by unfold Dk.read; rw [hd, if_pos hcond]; rfl) hfin
end
end Go.Proofs.YtkpmadahfmpeiaaGreat

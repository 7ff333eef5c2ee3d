/-
  A disk: Sync, Read, Cut.
-/
import Derived.Test.YtkfokgjpeaibpaaGreatDw4
import Derived.Deep.RegionHeld3
import Derived.Deep.RegionLaw
namespace Go.Proofs.YtkfokgjpeaibpaaGreat
open Go.RowKit
set_option maxRecDepth 100000
set_option maxHeartbeats 400000

theorem setF_congr {fs : List Fi} (h : (fs.map Fi.name).Nodup) {f : Fi} (hf : f ∈ fs) {g1 g2 : Fi → Fi} (e : g1 f = g2 f) : setF fs f.name g1 = setF fs f.name g2 := by
  unfold setF
  refine List.map_congr_left fun a ha => ?_
  by_cases hn : a.name = f.name
  · rw [if_pos hn, if_pos hn, nodup_name h ha hf hn, e]
  · rw [if_neg hn, if_neg hn]
section
variable {w w3 : World} {B d : Nat} {o : Own1} {S : Dk} {c : Con} {f : Fi}
theorem DI.ne_file (h : DI w B o d S c) (hf : f ∈ S.fs) : c.fb f.name < w.heap.size := (h.inb _ (by rw [(h.tag f hf).file]; simp)).2
theorem heap_far (w : World) (p : Addr) (u : Value) {k : Nat} (hk : k ≠ p.block) : (w.setCell p u).heap[k]? = w.heap[k]? := Below.heap_setCell w p u k hk
/-- a new list is stored as what lasts. -/
theorem DI.storeLasts (h : DI w B o d S c) (hf : f ∈ S.fs) (g3 : w.grownBy w3 none) {v : Value} {l : List UInt8} (hv : OwnB w3 w.heap.size v l) (hl : l.length ≤ 16777216) :
    ∃ o', DI (w3.setCell ⟨c.fb f.name, 1, none⟩ v) B o' d { S with fs := setF S.fs f.name fun g => { g with lasts := l } } { c with lv := fun s => if s = f.name then v else c.lv s } ∧ Ch o w o' (w3.setCell ⟨c.fb f.name, 1, none⟩ v) ∧ ∀ i, i < w.heap.size → o' i = o i := by
  have hlt := h.ne_file hf
  have hz := g3.size
  have hbk : ∀ k, blk v = some k → w.heap.size ≤ k := fun k hk => (Own.blk_lt hv (by omega) hk).1
  have hb := ((h.file f hf).box.ext g3).set 1 v
  obtain ⟨o', c', hdi, hoo, rfl⟩ := h.setLasts (w' := w3.setCell ⟨c.fb f.name, 1, none⟩ v) hf (by simpa [World.setCell] using hz) (fun i hi h3 _ => by
      rw [heap_far _ _ _ (fun e => by rw [e] at h3; exact h3 (h.tag f hf).file)]
      exact g3.block i (h.inb i hi).2 (by simp)) v l hb
    (Own.mono (Own.same hv fun k hk => heap_far _ _ _ (fun e => by have := hbk k hk; simp at e; omega)) h.base) (fun k hk => .inr (hbk k hk)) hl
  refine ⟨o', hdi, ⟨g3.os, g3.tape, g3.output, by simpa [World.setCell] using hz, fun i hi h0 => ?_, fun i hi h0 => by rw [hoo i hi]; exact h0⟩, hoo⟩
  rw [heap_far _ _ _ (fun e => by rw [e] at h0; have := (h.tag f hf).file; simp at h0; rw [h0] at this; cases this)]
  exact g3.block i hi (by simp)
/-- .. and as what is there now. -/
theorem DI.storeNow (h : DI w B o d S c) (hf : f ∈ S.fs) (g3 : w.grownBy w3 none) {v : Value} {l : List UInt8} (hv : OwnB w3 w.heap.size v l) (hl : l.length ≤ 16777216) :
    ∃ o', DI (w3.setCell ⟨c.fb f.name, 0, none⟩ v) B o' d { S with fs := setF S.fs f.name fun g => { g with now := l } } { c with nv := fun s => if s = f.name then v else c.nv s } ∧ Ch o w o' (w3.setCell ⟨c.fb f.name, 0, none⟩ v) ∧ ∀ i, i < w.heap.size → o' i = o i := by
  have hlt := h.ne_file hf
  have hz := g3.size
  have hbk : ∀ k, blk v = some k → w.heap.size ≤ k := fun k hk => (Own.blk_lt hv (by omega) hk).1
  have hb := ((h.file f hf).box.ext g3).set 0 v
  obtain ⟨o', c', hdi, hoo, rfl⟩ := h.setNow (w' := w3.setCell ⟨c.fb f.name, 0, none⟩ v) hf (by simpa [World.setCell] using hz) (fun i hi h3 _ => by
      rw [heap_far _ _ _ (fun e => by rw [e] at h3; exact h3 (h.tag f hf).file)]
      exact g3.block i (h.inb i hi).2 (by simp)) v l hb
    (Own.mono (Own.same hv fun k hk => heap_far _ _ _ (fun e => by have := hbk k hk; simp at e; omega)) h.base) (fun k hk => .inr (hbk k hk)) hl
  refine ⟨o', hdi, ⟨g3.os, g3.tape, g3.output, by simpa [World.setCell] using hz, fun i hi h0 => ?_, fun i hi h0 => by rw [hoo i hi]; exact h0⟩, hoo⟩
  rw [heap_far _ _ _ (fun e => by rw [e] at h0; have := (h.tag f hf).file; simp at h0; rw [h0] at this; cases this)]
  exact g3.block i hi (by simp)
end
section
variable {w : World} {B d : Nat} {o : Own1} {S : Dk} {c : Con}
set_option maxHeartbeats 1000000 in
theorem sync_any (h : DI w B o d S c) (n : List UInt8) (hn : n.length ≤ 1000000000) :
    Calls Tryz.prog 64 #[.pointer (some ⟨d, 0, none⟩), .string ⟨n.toArray⟩] w fun e w' => e = .returned (.int .i64 (S.sync n).2) ∧ DOut o w B d (S.sync n).1 w' := by
  have H := Lib.hid h
  have hbg := begin_any h
  have HB := Lib.hid hbg
  clear h hbg
  cases hd : S.begin.dead with
  | true =>
    have e : S.sync n = (S.begin, 6) := by unfold Dk.sync; rw [hd]; rfl
    rw [e]
    clear e
    go_enter Tryz.func64, Tryz.ntmps64
    go_wp2_with fail
    refine HB.out.mono ?_
    rintro e w1 ⟨rfl, h1, g1⟩
    have H1 := Lib.hid h1
    clear h1
    rw [hd]
    go_wp2
    go_ret
    exact ⟨rfl, dout_begin H.out H1.out g1 (gr_refl _ _)⟩
  | false =>
    cases hr : rightB n with
    | false =>
      have e : S.sync n = (S.begin, 1) := by unfold Dk.sync; rw [hd, hr]; rfl
      rw [e]
      clear e
      go_enter Tryz.func64, Tryz.ntmps64
      go_wp2_with fail
      refine HB.out.mono ?_
      rintro e w1 ⟨rfl, h1, g1⟩
      have H1 := Lib.hid h1
      clear h1
      rw [hd]
      go_wp2_with (go_at_call 44; refine (find_bad d n true _ hn (.inl hr)).mono ?_; rintro e w2 ⟨rfl, g2⟩)
      go_ret
      exact ⟨rfl, dout_begin H.out H1.out g1 g2⟩
    | true =>
      cases hf : S.find n with
      | none =>
        have e : S.sync n = (S.begin, 3) := by unfold Dk.sync; rw [hd, hr, hf]; rfl
        rw [e]
        clear e
        have hf1 : S.begin.find n = none := by rw [begin_find]; exact hf
        clear hf
        go_enter Tryz.func64, Tryz.ntmps64
        go_wp2_with fail
        refine HB.out.mono ?_
        rintro e w1 ⟨rfl, h1, g1⟩
        have H1 := Lib.hid h1
        have Hfo := Lib.hid (find_no h1 hn hr hf1)
        clear h1 hf1
        rw [hd]
        go_wp2_with (go_at_call 44; refine Hfo.out.mono ?_; rintro e w2 ⟨rfl, g2⟩)
        go_ret
        exact ⟨rfl, dout_begin H.out H1.out g1 g2⟩
      | some f =>
        have e : S.sync n = (S.begin.synced n, 0) := by unfold Dk.sync; rw [hd, hr, hf]; rfl
        rw [e]
        clear e
        have hf1 : S.begin.find n = some f := by rw [begin_find]; exact hf
        obtain ⟨hm, rfl⟩ := find_some hf1
        have Hm := Lib.hid hm
        clear hf hm
        go_enter Tryz.func64, Tryz.ntmps64
        go_wp2_with fail
        refine HB.out.mono ?_
        rintro e w1 ⟨rfl, h1, g1⟩
        have H1 := Lib.hid h1
        have G1 := Lib.hid g1
        have Hfo := Lib.hid (find_ok h1 hn hr hf1)
        clear h1 hf1 g1
        rw [hd]
        go_wp2_with fail
        refine Hfo.out.mono ?_
        rintro e w2 ⟨rfl, g2⟩
        have h2 := H1.out.ext g2
        have H2 := Lib.hid h2
        have G2 := Lib.hid g2
        have hfr := h2.file f Hm.out
        have HFR := Lib.hid hfr
        have hsm := hfr.small
        have hfc : w2.cell? ⟨c.fb f.name, 0, none⟩ = some (c.nv f.name) := hfr.box.cell 0
        clear h2 g2 hfr hd hr
        go_wp2_with fail
        refine (cloneB _ f.now w2 HFR.out.now.rd (by omega)).mono ?_
        rintro e w3 ⟨v3, rfl, o3, g3⟩
        obtain ⟨A3, c3, rfl⟩ := o3.rd.form
        have hk3 : w3.cell? ⟨c.fb f.name, 1, none⟩ = some (c.lv f.name) := (HFR.out.box.ext g3).cell 1
        have hk4 := (HFR.out.box.ext g3).frozen 1
        obtain ⟨o4, h4, ch4, hoo4⟩ := H2.out.storeLasts Hm.out g3 o3 hsm.2.1
        have H4 := Lib.hid h4
        have C4 := Lib.hid ch4
        have hst := Lib.hid (settle_all h4 f.name)
        clear h4 ch4 o3 g3 hoo4
        go_wp2_with fail
        refine hst.out.mono ?_
        rintro e w5 ⟨rfl, lm5, g5⟩
        have h5 := H4.out.loose g5 lm5
        have H5 := Lib.hid h5
        have C5 : Hid (Ch o4 _ o4 w5) := Ch.of_gr g5 (fun k e => by cases e; rw [show o4 c.lb = some (2, []) from H4.out.tL]; simp)
        clear h5 lm5 g5
        go_wp2
        go_ret
        have e : S.begin.synced f.name = { S.begin with fs := setF S.begin.fs f.name fun g => { g with lasts := f.now }, loose := fun s j => S.begin.loose s j && !(s == f.name) } := by
          unfold Dk.synced
          rw [setF_congr H1.out.names Hm.out (g1 := fun g => { g with lasts := g.now }) (g2 := fun g => { g with lasts := f.now }) rfl]
        rw [e]
        exact ⟨rfl, o4, _, H5.out, (((Ch.of_gr G1.out (fun k e => by cases e; rw [H.out.tD]; simp)).trans (Ch.ext G2.out)).trans C4.out).trans C5.out⟩
set_option maxHeartbeats 1000000 in
theorem read_any (h : DI w B o d S c) (n : List UInt8) (hn : n.length ≤ 1000000000) (off k : Int) (ho : -9223372036854775808 ≤ off ∧ off ≤ 9223372036854775807) (hk : -9223372036854775808 ≤ k ∧ k ≤ 9223372036854775807) :
    Calls Tryz.prog 79 #[.pointer (some ⟨d, 0, none⟩), .string ⟨n.toArray⟩, .int .i64 off, .int .i64 k] w fun e w' =>
      (∃ v, e = .returned (.tuple #[v, .int .i64 (S.read n off k).2]) ∧ OwnB w' w.heap.size v (S.read n off k).1) ∧ w.grownBy w' none := by
  have H := Lib.hid h
  have hlk := look_any h
  have HK := Lib.hid hlk
  clear hlk
  cases hd : S.dead with
  | true =>
    have e : S.read n off k = ([], 6) := by unfold Dk.read; rw [hd]; rfl
    rw [e]
    clear e h
    go_enter Tryz.func79, Tryz.ntmps79
    go_wp2_with fail
    refine HK.out.mono ?_
    rintro e w1 ⟨rfl, rfl⟩
    rw [hd]
    go_wp2
    go_ret2
    exact ⟨⟨_, rfl, OwnB.nil _ _⟩, gr_refl _ _⟩
  | false =>
    have bad : ∀ fine : Bool, rightB n = false ∨ fine = false → S.read n off k = ([], 1) → (decide (0 ≤ off) && decide (0 ≤ k)) = fine →
        Calls Tryz.prog 79 #[.pointer (some ⟨d, 0, none⟩), .string ⟨n.toArray⟩, .int .i64 off, .int .i64 k] w fun e w' =>
          (∃ v, e = .returned (.tuple #[v, .int .i64 (S.read n off k).2]) ∧ OwnB w' w.heap.size v (S.read n off k).1) ∧ w.grownBy w' none := fun fine hb e hfin => by
      rw [e]
      have Hbad := Lib.hid (fun (wx : World) => find_bad d n fine wx hn hb)
      clear e h hb
      by_cases h1 : 0 ≤ off
      · by_cases h2 : 0 ≤ k
        · obtain rfl : fine = true := by rw [← hfin]; simp [h1, h2]
          clear hfin
          go_enter Tryz.func79, Tryz.ntmps79
          go_wp2_with fail
          refine HK.out.mono ?_
          rintro e w1 ⟨rfl, rfl⟩
          rw [hd]
          go_wp2_with (go_at_call 44; refine (Hbad.out _).mono ?_; rintro e w2 ⟨rfl, g2⟩)
          go_ret2
          exact ⟨⟨_, rfl, OwnB.nil _ _⟩, g2⟩
        · obtain rfl : fine = false := by rw [← hfin]; simp [h2]
          have hdk : decide (0 ≤ k) = false := by simpa using h2
          clear hfin
          go_enter Tryz.func79, Tryz.ntmps79
          go_wp2_with fail
          refine HK.out.mono ?_
          rintro e w1 ⟨rfl, rfl⟩
          rw [hd]
          go_wp2_with (go_at_call 44; refine (Hbad.out _).mono ?_; rintro e w2 ⟨rfl, g2⟩)
          go_ret2
          exact ⟨⟨_, rfl, OwnB.nil _ _⟩, g2⟩
      · obtain rfl : fine = false := by rw [← hfin]; simp [h1]
        have hdo : decide (0 ≤ off) = false := by simpa using h1
        clear hfin
        go_enter Tryz.func79, Tryz.ntmps79
        go_wp2_with fail
        refine HK.out.mono ?_
        rintro e w1 ⟨rfl, rfl⟩
        rw [hd]
        go_wp2_with (go_at_call 44; refine (Hbad.out _).mono ?_; rintro e w2 ⟨rfl, g2⟩)
        go_ret2
        exact ⟨⟨_, rfl, OwnB.nil _ _⟩, g2⟩
    cases hr : rightB n with
    | false => exact bad _ (.inl hr) (by unfold Dk.read; rw [hd, hr]; rfl) rfl
    | true =>
      by_cases hpos : 0 ≤ off ∧ 0 ≤ k
      · obtain ⟨h1, h2⟩ := hpos
        clear bad
        have hcond : ¬ (rightB n = false ∨ off < 0 ∨ k < 0) := by rw [hr]; simp; omega
        cases hf : S.find n with
        | none =>
          have e : S.read n off k = ([], 3) := by unfold Dk.read; rw [hd, if_neg hcond, hf]; rfl
          rw [e]
          have Hfo := Lib.hid (find_no h hn hr hf)
          clear e h hf hcond
          go_enter Tryz.func79, Tryz.ntmps79
          go_wp2_with fail
          refine HK.out.mono ?_
          rintro e w1 ⟨rfl, rfl⟩
          rw [hd]
          go_wp2_with (go_at_call 44; refine Hfo.out.mono ?_; rintro e w2 ⟨rfl, g2⟩)
          go_ret2
          exact ⟨⟨_, rfl, OwnB.nil _ _⟩, g2⟩
        | some f =>
          have e : S.read n off k = ((f.now.drop off.toNat).take k.toNat, 0) := by unfold Dk.read; rw [hd, if_neg hcond, hf]; rfl
          rw [e]
          have Hfo := Lib.hid (find_ok h hn hr hf)
          obtain ⟨hm, rfl⟩ := find_some hf
          have Hm := Lib.hid hm
          clear e h hf hm hcond
          go_enter Tryz.func79, Tryz.ntmps79
          go_wp2_with fail
          refine HK.out.mono ?_
          rintro e w1 ⟨rfl, rfl⟩
          rw [hd]
          go_wp2_with fail
          refine Hfo.out.mono ?_
          rintro e w2 ⟨rfl, g2⟩
          have hfr := (H.out.ext g2).file f Hm.out
          have hsm := hfr.small
          obtain ⟨A, cp, hv⟩ := hfr.now.rd.form
          have hfc : w2.cell? ⟨c.fb f.name, 0, none⟩ = some (.slice A f.now.length cp) := by rw [← hv]; exact hfr.box.cell 0
          have hrd := hfr.now.rd
          rw [hv] at hrd
          have hcap := RdB.cap hrd
          have hmx : cp ≤ maxLen := by obtain ⟨_, _, _, _, _, e, _, hc, _⟩ := hrd; cases e; exact hc
          unfold maxLen at hmx
          have HRD := Lib.hid hrd
          have G2 := Lib.hid g2
          clear hfr hv hd hr hrd g2
          obtain ⟨p, rfl⟩ := Int.eq_ofNat_of_zero_le h1
          obtain ⟨m, rfl⟩ := Int.eq_ofNat_of_zero_le h2
          by_cases hpl : (p : Int) ≤ (f.now.length : Int)
          · by_cases hml : (m : Int) ≤ (f.now.length : Int) - (p : Int)
            · obtain ⟨L, hL⟩ : ∃ L, L = (f.now.take (p + m)).drop p := ⟨_, rfl⟩
              have HL : Hid ((f.now.drop p).take m = L) := by show _ = _; rw [hL, List.take_drop]
              have hcut : RdB w2 (.slice (cutA A cp p 1) m (cp - p)) L := by
                have := RdB.cut HRD.out (i := p) (j := p + m) (by omega) (by omega)
                rw [Nat.add_sub_cancel_left, ← hL] at this
                exact this
              have hLl : L.length ≤ 16777216 := by rw [hL, List.length_drop, List.length_take]; omega
              have HC := Lib.hid hcut
              clear hL hcut
              go_wp2_with fail
              go_quiet (fail)
              go_wp2_with (go_at_call 45; refine (cloneB _ L _ (HC.out.ext (gr_drewN _ _ _)) (by omega)).mono ?_; rintro e w4 ⟨v4, rfl, o4, g4⟩)
              go_ret2
              exact ⟨⟨v4, rfl, by rw [Int.toNat_natCast, Int.toNat_natCast, HL.out]; exact Own.mono o4 G2.out.size⟩, gr_none (gr_none G2.out (gr_drewN _ _ none)) g4⟩
            · obtain ⟨L, hL⟩ : ∃ L, L = f.now.drop p := ⟨_, rfl⟩
              have HL : Hid ((f.now.drop p).take m = L) := by show _ = _; rw [hL, List.take_of_length_le (by rw [List.length_drop]; omega)]
              have hcut : RdB w2 (.slice (cutA A cp p 1) (f.now.length - p) (cp - p)) L := by
                have := RdB.drop HRD.out (i := p) (by omega)
                rw [← hL] at this
                exact this
              have hLl : L.length ≤ 16777216 := by rw [hL, List.length_drop]; omega
              have HC := Lib.hid hcut
              clear hL hcut
              go_wp2_with fail
              go_quiet (fail)
              go_wp2_with (go_at_call 45; refine (cloneB _ L _ (HC.out.ext (gr_drewN _ _ _)) (by omega)).mono ?_; rintro e w4 ⟨v4, rfl, o4, g4⟩)
              go_ret2
              exact ⟨⟨v4, rfl, by rw [Int.toNat_natCast, Int.toNat_natCast, HL.out]; exact Own.mono o4 G2.out.size⟩, gr_none (gr_none G2.out (gr_drewN _ _ none)) g4⟩
          · obtain ⟨L, hL⟩ : ∃ L, L = f.now.drop f.now.length := ⟨_, rfl⟩
            have HL : Hid ((f.now.drop p).take m = L) := by show _ = _; rw [hL, List.drop_of_length_le (by omega), List.drop_of_length_le (by omega)]; simp
            have hcut : RdB w2 (.slice (cutA A cp f.now.length 1) 0 (cp - f.now.length)) L := by
              have := RdB.drop HRD.out (i := f.now.length) (by omega)
              rw [← hL, Nat.sub_self] at this
              exact this
            have hLl : L.length ≤ 16777216 := by rw [hL, List.length_drop]; omega
            have HC := Lib.hid hcut
            clear hL hcut
            by_cases hm0 : (m : Int) ≤ 0
            · obtain rfl : m = 0 := by omega
              go_wp2_with fail
              go_quiet (fail)
              go_wp2_with (go_at_call 45; refine (cloneB _ L _ (HC.out.ext (gr_drewN _ _ _)) (by omega)).mono ?_; rintro e w4 ⟨v4, rfl, o4, g4⟩)
              go_ret2
              exact ⟨⟨v4, rfl, by rw [Int.toNat_natCast, Int.toNat_natCast, HL.out]; exact Own.mono o4 G2.out.size⟩, gr_none (gr_none G2.out (gr_drewN _ _ none)) g4⟩
            · skip
              go_wp2_with fail
              go_quiet (fail)
              go_wp2_with (go_at_call 45; refine (cloneB _ L _ (HC.out.ext (gr_drewN _ _ _)) (by omega)).mono ?_; rintro e w4 ⟨v4, rfl, o4, g4⟩)
              go_ret2
              exact ⟨⟨v4, rfl, by rw [Int.toNat_natCast, Int.toNat_natCast, HL.out]; exact Own.mono o4 G2.out.size⟩, gr_none (gr_none G2.out (gr_drewN _ _ none)) g4⟩
      · have hfin : (decide (0 ≤ off) && decide (0 ≤ k)) = false := by
          rw [Bool.eq_false_iff]
          simp
          omega
        have hcond : rightB n = false ∨ off < 0 ∨ k < 0 := by right; omega
        exact bad _ (.inr rfl) (by unfold Dk.read; rw [hd, if_pos hcond]; rfl) hfin
end
end Go.Proofs.YtkfokgjpeaibpaaGreat

/- A disk: Cut. -/
namespace Go.Proofs.YtkfokgjpeaibpaaGreat
open Go.RowKit
set_option maxRecDepth 100000
set_option maxHeartbeats 400000

theorem setF_setF {fs : List Fi} {n : List UInt8} {g1 g2 g3 : Fi → Fi} (h1 : ∀ f, (g1 f).name = f.name) (h : ∀ f, g2 (g1 f) = g3 f) : setF (setF fs n g1) n g2 = setF fs n g3 := by
  unfold setF
  rw [List.map_map]
  refine List.map_congr_left fun f _ => ?_
  show (if (if f.name = n then g1 f else f).name = n then g2 (if f.name = n then g1 f else f) else (if f.name = n then g1 f else f)) = _
  by_cases e : f.name = n
  · rw [if_pos e, if_pos (by rw [h1]; exact e), if_pos e, h]
  · rw [if_neg e, if_neg e, if_neg e]
theorem mem_setF_of {fs : List Fi} {f : Fi} (hf : f ∈ fs) (g : Fi → Fi) : g f ∈ setF fs f.name g := by
  unfold setF
  exact List.mem_map.2 ⟨f, hf, if_pos rfl⟩
theorem cutTo_eq {S : Dk} (h : (S.fs.map Fi.name).Nodup) {f : Fi} (hf : f ∈ S.fs) {z : Nat} {L L2 : List UInt8} (hL : L = f.now.take z) (hL2 : L2 = f.lasts.take z) :
    S.cutTo f.name z = { S with fs := setF (setF S.fs f.name fun g => { g with now := L }) f.name fun g => { g with lasts := L2 }, loose := fun s j => S.loose s j && !(s == f.name && decide ((sectors z : Int) ≤ j)) } := by
  have e : setF S.fs f.name (fun g => { g with now := g.now.take z, lasts := g.lasts.take z }) = setF (setF S.fs f.name fun g => { g with now := L }) f.name fun g => { g with lasts := L2 } := by
    rw [setF_setF (g1 := fun g => { g with now := L }) (g2 := fun g => { g with lasts := L2 }) (g3 := fun g => { g with now := L, lasts := L2 }) (fun _ => rfl) (fun _ => rfl)]
    exact setF_congr h hf (by rw [hL, hL2])
  unfold Dk.cutTo
  rw [e]
section
variable {w : World} {B d : Nat} {o : Own1} {S : Dk} {c : Con}
theorem dout_begin' {w0 w1 w' : World} (h : DI w B o d S c) (g0 : w.grownBy w0 none) (h1 : DI w1 B o d S.begin c) (g1 : w0.grownBy w1 (some d)) (g2 : w1.grownBy w' none) : DOut o w B d S.begin w' :=
  ⟨o, c, h1.ext g2, ((Ch.ext g0).trans (Ch.of_gr g1 (fun k e => by cases e; rw [h.tD]; simp))).trans (Ch.ext g2)⟩
end
end Go.Proofs.YtkfokgjpeaibpaaGreat

/- A disk: Write. -/
namespace Go.Proofs.YtkfokgjpeaibpaaGreat
open Go.RowKit
set_option maxRecDepth 100000
set_option maxHeartbeats 400000

theorem overZ_over (l : List UInt8) (p : Nat) (m : List UInt8) : overZ l p m = over l p m := rfl
/-- bytes behind others, and noughts where there is a gap: none here. -/
theorem over_grown {l b : List UInt8} {p : Nat} (hp : p ≤ l.length) : over (l ++ List.replicate (max l.length (p + b.length) - l.length) 0) p b = overZ l p b := by
  unfold over overZ
  rw [List.take_append_of_le_length hp]
  congr 1
  rw [List.drop_append]
  have : List.drop (p + b.length - l.length) (List.replicate (max l.length (p + b.length) - l.length) (0 : UInt8)) = [] := List.drop_of_length_le (by simp; omega)
  rw [this, List.append_nil]
theorem hits_zero (off : Nat) (k : Int) : hits off 0 k = false := rfl
theorem hits_succ (off n : Nat) (k : Int) : hits off (n + 1) k = (hits off n k || (((off + n) / 64 : Nat) : Int) == k) := by
  unfold hits
  rw [List.range_succ, List.any_append]
  simp
theorem setF_setF' {fs : List Fi} {n : List UInt8} {g1 g2 g3 : Fi → Fi} (h1 : ∀ f, (g1 f).name = f.name) (h : ∀ f, g2 (g1 f) = g3 f) : setF (setF fs n g1) n g2 = setF fs n g3 := by
  unfold setF
  rw [List.map_map]
  refine List.map_congr_left fun f _ => ?_
  show (if (if f.name = n then g1 f else f).name = n then g2 (if f.name = n then g1 f else f) else (if f.name = n then g1 f else f)) = _
  by_cases e : f.name = n
  · rw [if_pos e, if_pos (by rw [h1]; exact e), if_pos e, h]
  · rw [if_neg e, if_neg e, if_neg e]
theorem wrote_eq {S : Dk} (h : (S.fs.map Fi.name).Nodup) {f : Fi} (hf : f ∈ S.fs) {off : Nat} {b L1 L2 : List UInt8} (hL2 : L2 = overZ f.now off b) :
    S.wrote f.name off b = { S with fs := setF (setF S.fs f.name fun g => { g with now := L1 }) f.name fun g => { g with now := L2 }, loose := fun s k => (s == f.name && hits off b.length k) || S.loose s k, nl := S.nl + b.length } := by
  have e : setF S.fs f.name (fun g => { g with now := overZ g.now off b }) = setF (setF S.fs f.name fun g => { g with now := L1 }) f.name fun g => { g with now := L2 } := by
    rw [setF_setF' (g1 := fun g => { g with now := L1 }) (g2 := fun g => { g with now := L2 }) (g3 := fun g => { g with now := L2 }) (fun _ => rfl) (fun _ => rfl)]
    exact setF_congr h hf (by rw [hL2])
  unfold Dk.wrote
  rw [e]
section
variable {w w1 : World} {B d : Nat} {o : Own1} {S : Dk} {c : Con} {f : Fi}
/-- a file's list is made longer, and stored. -/
theorem DI.extNow (h : DI w B o d S c) (hf : f ∈ S.fs) {v : Value} {l : List UInt8} (hx : Ext0 w w1 (c.nv f.name) v) (hv : OwnB w1 B v l) (hl : l.length ≤ 16777216) :
    ∃ o', DI (w1.setCell ⟨c.fb f.name, 0, none⟩ v) B o' d { S with fs := setF S.fs f.name fun g => { g with now := l } } { c with nv := fun s => if s = f.name then v else c.nv s } ∧ Ch o w o' (w1.setCell ⟨c.fb f.name, 0, none⟩ v) := by
  obtain ⟨r, g, hr, hk⟩ := hx
  have hlt := h.ne_file hf
  have ht := h.tag f hf
  have hz := g.size
  have hrf : r ≠ some (c.fb f.name) := fun e => by
    have h1 := ht.now _ (hr _ e)
    rw [ht.file] at h1
    simp at h1
  have hb := ((h.file f hf).box.gr g hrf).set 0 v
  have hbk : ∀ k, blk v = some k → k ≠ c.fb f.name := fun k hk2 e => by
    subst e
    rcases hk _ hk2 with h1 | h1
    · have := ht.now _ h1; rw [ht.file] at this; simp at this
    · omega
  obtain ⟨o', c', hdi, hoo, rfl⟩ := h.setNow (w' := w1.setCell ⟨c.fb f.name, 0, none⟩ v) hf (by simpa [World.setCell] using hz) (fun i hi h3 h4 => by
      rw [heap_far _ _ _ (fun e => by rw [e] at h3; exact h3 ht.file)]
      exact g.block i (h.inb i hi).2 (fun e => h4 (ht.now i (hr i e.symm)))) v l hb
    (Own.same hv fun k hk2 => heap_far _ _ _ (hbk k hk2)) (fun k hk2 => (hk k hk2).imp (ht.now k) id) hl
  refine ⟨o', hdi, ⟨g.os, g.tape, g.output, by simpa [World.setCell] using hz, fun i hi h0 => ?_, fun i hi h0 => by rw [hoo i hi]; exact h0⟩⟩
  rw [heap_far _ _ _ (fun e => by rw [e] at h0; have := ht.file; simp at h0; rw [h0] at this; cases this)]
  exact g.block i hi (fun e => by have := ht.now i (hr i e.symm); rw [h0] at this; cases this)
/-- a file's list is written in. -/
theorem DI.inNow (h : DI w B o d S c) (hf : f ∈ S.fs) {l : List UInt8} (hx : Ext0 w w1 (c.nv f.name) (c.nv f.name)) (hv : OwnB w1 B (c.nv f.name) l) (hl : l.length ≤ 16777216) :
    ∃ o' c', DI w1 B o' d { S with fs := setF S.fs f.name fun g => { g with now := l } } c' ∧ Ch o w o' w1 ∧ c'.lb = c.lb ∧ o' c.lb ≠ none := by
  obtain ⟨r, g, hr, hk⟩ := hx
  have ht := h.tag f hf
  have hrf : r ≠ some (c.fb f.name) := fun e => by
    have h1 := ht.now _ (hr _ e)
    rw [ht.file] at h1
    simp at h1
  obtain ⟨o', c', hdi, hoo, rfl⟩ := h.setNow (w' := w1) hf g.size (fun i hi h3 h4 => g.block i (h.inb i hi).2 (fun e => h4 (ht.now i (hr i e.symm)))) _ l ((h.file f hf).box.gr g hrf) hv (fun k hk2 => (hk k hk2).imp (ht.now k) id) hl
  exact ⟨o', _, hdi, ⟨g.os, g.tape, g.output, g.size, fun i hi h0 => g.block i hi (fun e => by have := ht.now i (hr i e.symm); rw [h0] at this; cases this), fun i hi h0 => by rw [hoo i hi]; exact h0⟩, rfl, by rw [hoo _ (h.inb _ (by rw [h.tL]; simp)).2, h.tL]; simp⟩
/-- copy(v[p:], x), at the operation. -/
theorem wp_copyB {ops : Array Oper} {rest : List Oper} {q : Oper} {a : Act} {Q : Exit → Act → World → Prop} (hgd : q.guard = none) (s0 x0 : Operand)
    (ho : q.op = .call { callee := .builtin .copy, args := #[s0, x0], argTypes := #[33, 33] }) {p n cp n0 : Nat} {A : Option Addr} {cc : Nat} {l m : List UInt8} (hn0 : n0 = l.length) (hn : n = n0 - p) (hc : cp = cc - p)
    (hs : a.eval s0 = .slice (cutA A cc p 1) n cp) (hown : OwnB w B (.slice A n0 cc) l) (hpm : p + m.length ≤ l.length) {x : Value} (hx : a.eval x0 = x) (hr : RdB w x m)
    (h : ∀ w', OwnB w' B (.slice A n0 cc) (over l p m) → Ext0 w w' (.slice A n0 cc) (.slice A n0 cc) → wpList Tryz.prog ops Q rest (a.put q.dst (.int .i64 m.length)) w') : wpList Tryz.prog ops Q (q :: rest) a w := by
  refine wpList_plain hgd fun K hK => ?_
  subst hn0 hn hc
  obtain ⟨w', hrun, h1, h2⟩ := run_copyB w q.type B p A cc l m hown hpm x hr
  unfold Oper.wp execOp
  simp only [ho, resolve, invoke, builtin, Sem.run_bind, Sem.run_pure, Result.andThen_ok, List.map_toArray, List.map_cons, List.map_nil, hs, hx, hrun]
  exact hK _ _ (h w' h1 h2)
/-- append of noughts, in a region. -/
theorem step_appZ {q : Oper} {a : Act} {K : Act → World → Prop} {Q : Exit → Act → World → Prop} (s0 x0 : Operand) (ho : q.op = .call { callee := .builtin .append, args := #[s0, x0], argTypes := #[33, 3] })
    {v v' : Value} {M : Int} {w' : World} (hs : a.eval s0 = v) (hx : a.eval x0 = .int .i64 M) (hrun : (Builtin.append_ #[33, 3] q.type #[v, .int .i64 M]).run Tryz.prog w = .ok v' w') (hK : K (a.put q.dst v') w') : q.wp Tryz.prog a w K Q := by
  unfold Oper.wp execOp
  simp only [ho, resolve, invoke, builtin, Sem.run_bind, Sem.run_pure, Result.andThen_ok, List.map_toArray, List.map_cons, List.map_nil, hs, hx, hrun]
  exact hK
end
end Go.Proofs.YtkfokgjpeaibpaaGreat

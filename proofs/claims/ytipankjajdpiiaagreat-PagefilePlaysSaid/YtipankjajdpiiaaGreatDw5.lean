/-
  A disk: Sync, Read, Cut.
-/
import Derived.Test.YtipankjajdpiiaaGreatDw4
namespace Go.Proofs.YtipankjajdpiiaaGreat
open Go.RowKit
set_option maxRecDepth 100000
set_option maxHeartbeats 400000

theorem setF_congr {fs : List Fi} (h : (fs.map Fi.name).Nodup) {f : Fi} (hf : f ∈ fs) {g1 g2 : Fi → Fi} (e : g1 f = g2 f) : setF fs f.name g1 = setF fs f.name g2 := by
  unfold setF
  refine List.map_congr_left fun a ha => ?_
  by_cases hn : a.name = f.name
  · rw [if_pos hn, if_pos hn, nodup_name h ha hf hn, e]
  · rw [if_neg hn, if_neg hn]
section
variable {w w3 : World} {B d : Nat} {o : Own1} {S : Dk} {c : Con} {f : Fi}
theorem DI.ne_file (h : DI w B o d S c) (hf : f ∈ S.fs) : c.fb f.name < w.heap.size := (h.inb _ (by rw [(h.tag f hf).file]; simp)).2
theorem heap_far (w : World) (p : Addr) (u : Value) {k : Nat} (hk : k ≠ p.block) : (w.setCell p u).heap[k]? = w.heap[k]? := Below.heap_setCell w p u k hk
/-- a new list is stored as what lasts. -/
theorem DI.storeLasts (h : DI w B o d S c) (hf : f ∈ S.fs) (g3 : w.grownBy w3 none) {v : Value} {l : List UInt8} (hv : OwnB w3 w.heap.size v l) (hl : l.length ≤ 16777216) :
    ∃ o', DI (w3.setCell ⟨c.fb f.name, 1, none⟩ v) B o' d { S with fs := setF S.fs f.name fun g => { g with lasts := l } } { c with lv := fun s => if s = f.name then v else c.lv s } ∧ Ch o w o' (w3.setCell ⟨c.fb f.name, 1, none⟩ v) ∧ ∀ i, i < w.heap.size → o' i = o i := by
  have hlt := h.ne_file hf
  have hz := g3.size
  have hbk : ∀ k, blk v = some k → w.heap.size ≤ k := fun k hk => (Own.blk_lt hv (by omega) hk).1
  have hb := ((h.file f hf).box.ext g3).set 1 v
  obtain ⟨o', c', hdi, hoo, rfl⟩ := h.setLasts (w' := w3.setCell ⟨c.fb f.name, 1, none⟩ v) hf (by simpa [World.setCell] using hz) (fun i hi h3 _ => by
      rw [heap_far _ _ _ (fun e => by rw [e] at h3; exact h3 (h.tag f hf).file)]
      exact g3.block i (h.inb i hi).2 (by simp)) v l hb
    (Own.mono (Own.same hv fun k hk => heap_far _ _ _ (fun e => by have := hbk k hk; simp at e; omega)) h.base) (fun k hk => .inr (hbk k hk)) hl
  refine ⟨o', hdi, ⟨g3.os, g3.tape, g3.output, by simpa [World.setCell] using hz, fun i hi h0 => ?_, fun i hi h0 => by rw [hoo i hi]; exact h0⟩, hoo⟩
  rw [heap_far _ _ _ (fun e => by rw [e] at h0; have := (h.tag f hf).file; simp at h0; rw [h0] at this; cases this)]
  exact g3.block i hi (by simp)
/-- .. and as what is there now. -/
theorem DI.storeNow (h : DI w B o d S c) (hf : f ∈ S.fs) (g3 : w.grownBy w3 none) {v : Value} {l : List UInt8} (hv : OwnB w3 w.heap.size v l) (hl : l.length ≤ 16777216) :
    ∃ o', DI (w3.setCell ⟨c.fb f.name, 0, none⟩ v) B o' d { S with fs := setF S.fs f.name fun g => { g with now := l } } { c with nv := fun s => if s = f.name then v else c.nv s } ∧ Ch o w o' (w3.setCell ⟨c.fb f.name, 0, none⟩ v) ∧ ∀ i, i < w.heap.size → o' i = o i := by
  have hlt := h.ne_file hf
  have hz := g3.size
  have hbk : ∀ k, blk v = some k → w.heap.size ≤ k := fun k hk => (Own.blk_lt hv (by omega) hk).1
  have hb := ((h.file f hf).box.ext g3).set 0 v
  obtain ⟨o', c', hdi, hoo, rfl⟩ := h.setNow (w' := w3.setCell ⟨c.fb f.name, 0, none⟩ v) hf (by simpa [World.setCell] using hz) (fun i hi h3 _ => by
      rw [heap_far _ _ _ (fun e => by rw [e] at h3; exact h3 (h.tag f hf).file)]
      exact g3.block i (h.inb i hi).2 (by simp)) v l hb
    (Own.mono (Own.same hv fun k hk => heap_far _ _ _ (fun e => by have := hbk k hk; simp at e; omega)) h.base) (fun k hk => .inr (hbk k hk)) hl
  refine ⟨o', hdi, ⟨g3.os, g3.tape, g3.output, by simpa [World.setCell] using hz, fun i hi h0 => ?_, fun i hi h0 => by rw [hoo i hi]; exact h0⟩, hoo⟩
  rw [heap_far _ _ _ (fun e => by rw [e] at h0; have := (h.tag f hf).file; simp at h0; rw [h0] at this; cases this)]
  exact g3.block i hi (by simp)
end
section
variable {w : World} {B d : Nat} {o : Own1} {S : Dk} {c : Con}
set_option maxHeartbeats 1000000 in
theorem sync_any (h : DI w B o d S c) (n : List UInt8) (hn : n.length ≤ 1000000000) :
    Calls Tryz.prog 69 #[.pointer (some ⟨d, 0, none⟩), .string ⟨n.toArray⟩] w fun e w' => e = .returned (.int .i64 (S.sync n).2) ∧ DOut o w B d (S.sync n).1 w' := by
  have H := Lib.hid h
  have hbg := begin_any h
  have HB := Lib.hid hbg
  clear h hbg
  cases hd : S.begin.dead with
  | true =>
    have e : S.sync n = (S.begin, 6) := by unfold Dk.sync; rw [hd]; rfl
    rw [e]
    clear e
    go_enter Tryz.func69, Tryz.ntmps69
    go_wp2_with fail
    refine HB.out.mono ?_
    rintro e w1 ⟨rfl, h1, g1⟩
    have H1 := Lib.hid h1
    clear h1
    rw [hd]
    go_wp2
    go_ret
    exact ⟨rfl, dout_begin H.out H1.out g1 (gr_refl _ _)⟩
  | false =>
    cases hr : rightB n with
    | false =>
      have e : S.sync n = (S.begin, 1) := by unfold Dk.sync; rw [hd, hr]; rfl
      rw [e]
      clear e
      go_enter Tryz.func69, Tryz.ntmps69
      go_wp2_with fail
      refine HB.out.mono ?_
      rintro e w1 ⟨rfl, h1, g1⟩
      have H1 := Lib.hid h1
      clear h1
      rw [hd]
      go_wp2_with (go_at_call 74; refine (find_bad d n true _ hn (.inl hr)).mono ?_; rintro e w2 ⟨rfl, g2⟩)
      go_ret
      exact ⟨rfl, dout_begin H.out H1.out g1 g2⟩
    | true =>
      cases hf : S.find n with
      | none =>
        have e : S.sync n = (S.begin, 3) := by unfold Dk.sync; rw [hd, hr, hf]; rfl
        rw [e]
        clear e
        have hf1 : S.begin.find n = none := by rw [begin_find]; exact hf
        clear hf
        go_enter Tryz.func69, Tryz.ntmps69
        go_wp2_with fail
        refine HB.out.mono ?_
        rintro e w1 ⟨rfl, h1, g1⟩
        have H1 := Lib.hid h1
        have Hfo := Lib.hid (find_no h1 hn hr hf1)
        clear h1 hf1
        rw [hd]
        go_wp2_with (go_at_call 74; refine Hfo.out.mono ?_; rintro e w2 ⟨rfl, g2⟩)
        go_ret
        exact ⟨rfl, dout_begin H.out H1.out g1 g2⟩
      | some f =>
        have e : S.sync n = (S.begin.synced n, 0) := by unfold Dk.sync; rw [hd, hr, hf]; rfl
        rw [e]
        clear e
        have hf1 : S.begin.find n = some f := by rw [begin_find]; exact hf
        obtain ⟨hm, rfl⟩ := find_some hf1
        have Hm := Lib.hid hm
        clear hf hm
        go_enter Tryz.func69, Tryz.ntmps69
        go_wp2_with fail
        refine HB.out.mono ?_
        rintro e w1 ⟨rfl, h1, g1⟩
        have H1 := Lib.hid h1
        have G1 := Lib.hid g1
        have Hfo := Lib.hid (find_ok h1 hn hr hf1)
        clear h1 hf1 g1
        rw [hd]
        go_wp2_with fail
        refine Hfo.out.mono ?_
        rintro e w2 ⟨rfl, g2⟩
        have h2 := H1.out.ext g2
        have H2 := Lib.hid h2
        have G2 := Lib.hid g2
        have hfr := h2.file f Hm.out
        have HFR := Lib.hid hfr
        have hsm := hfr.small
        have hfc : w2.cell? ⟨c.fb f.name, 0, none⟩ = some (c.nv f.name) := hfr.box.cell 0
        clear h2 g2 hfr hd hr
        go_wp2_with fail
        refine (cloneB _ f.now w2 HFR.out.now.rd (by omega)).mono ?_
        rintro e w3 ⟨v3, rfl, o3, g3⟩
        obtain ⟨A3, c3, rfl⟩ := o3.rd.form
        have hk3 : w3.cell? ⟨c.fb f.name, 1, none⟩ = some (c.lv f.name) := (HFR.out.box.ext g3).cell 1
        have hk4 := (HFR.out.box.ext g3).frozen 1
        obtain ⟨o4, h4, ch4, hoo4⟩ := H2.out.storeLasts Hm.out g3 o3 hsm.2.1
        have H4 := Lib.hid h4
        have C4 := Lib.hid ch4
        have hst := Lib.hid (settle_all h4 f.name)
        clear h4 ch4 o3 g3 hoo4
        go_wp2_with fail
        refine hst.out.mono ?_
        rintro e w5 ⟨rfl, lm5, g5⟩
        have h5 := H4.out.loose g5 lm5
        have H5 := Lib.hid h5
        have C5 : Hid (Ch o4 _ o4 w5) := Ch.of_gr g5 (fun k e => by cases e; rw [show o4 c.lb = some (2, []) from H4.out.tL]; simp)
        clear h5 lm5 g5
        go_wp2
        go_ret
        have e : S.begin.synced f.name = { S.begin with fs := setF S.begin.fs f.name fun g => { g with lasts := f.now }, loose := fun s j => S.begin.loose s j && !(s == f.name) } := by
          unfold Dk.synced
          rw [setF_congr H1.out.names Hm.out (g1 := fun g => { g with lasts := g.now }) (g2 := fun g => { g with lasts := f.now }) rfl]
        rw [e]
        exact ⟨rfl, o4, _, H5.out, (((Ch.of_gr G1.out (fun k e => by cases e; rw [H.out.tD]; simp)).trans (Ch.ext G2.out)).trans C4.out).trans C5.out⟩
set_option maxHeartbeats 1000000 in
theorem read_any (h : DI w B o d S c) (n : List UInt8) (hn : n.length ≤ 1000000000) (off k : Int) (ho : -9223372036854775808 ≤ off ∧ off ≤ 9223372036854775807) (hk : -9223372036854775808 ≤ k ∧ k ≤ 9223372036854775807) :
    Calls Tryz.prog 66 #[.pointer (some ⟨d, 0, none⟩), .string ⟨n.toArray⟩, .int .i64 off, .int .i64 k] w fun e w' =>
      (∃ v, e = .returned (.tuple #[v, .int .i64 (S.read n off k).2]) ∧ OwnB w' w.heap.size v (S.read n off k).1) ∧ w.grownBy w' none := by
  have H := Lib.hid h
  have hlk := look_any h
  have HK := Lib.hid hlk
  clear hlk
  cases hd : S.dead with
  | true =>
    have e : S.read n off k = ([], 6) := by unfold Dk.read; rw [hd]; rfl
    rw [e]
    clear e h
    go_enter Tryz.func66, Tryz.ntmps66
    go_wp2_with fail
    refine HK.out.mono ?_
    rintro e w1 ⟨rfl, rfl⟩
    rw [hd]
    go_wp2
    go_ret2
    exact ⟨⟨_, rfl, OwnB.nil _ _⟩, gr_refl _ _⟩
  | false =>
    have bad : ∀ fine : Bool, rightB n = false ∨ fine = false → S.read n off k = ([], 1) → (decide (0 ≤ off) && decide (0 ≤ k)) = fine →
        Calls Tryz.prog 66 #[.pointer (some ⟨d, 0, none⟩), .string ⟨n.toArray⟩, .int .i64 off, .int .i64 k] w fun e w' =>
          (∃ v, e = .returned (.tuple #[v, .int .i64 (S.read n off k).2]) ∧ OwnB w' w.heap.size v (S.read n off k).1) ∧ w.grownBy w' none := fun fine hb e hfin => by
      rw [e]
      have Hbad := Lib.hid (fun (wx : World) => find_bad d n fine wx hn hb)
      clear e h hb
      by_cases h1 : 0 ≤ off
      · by_cases h2 : 0 ≤ k
        · obtain rfl : fine = true := by rw [← hfin]; simp [h1, h2]
          clear hfin
          go_enter Tryz.func66, Tryz.ntmps66
          go_wp2_with fail
          refine HK.out.mono ?_
          rintro e w1 ⟨rfl, rfl⟩
          rw [hd]
          go_wp2_with (go_at_call 74; refine (Hbad.out _).mono ?_; rintro e w2 ⟨rfl, g2⟩)
          go_ret2
          exact ⟨⟨_, rfl, OwnB.nil _ _⟩, g2⟩
        · obtain rfl : fine = false := by rw [← hfin]; simp [h2]
          have hdk : decide (0 ≤ k) = false := by simpa using h2
          clear hfin
          go_enter Tryz.func66, Tryz.ntmps66
          go_wp2_with fail
          refine HK.out.mono ?_
          rintro e w1 ⟨rfl, rfl⟩
          rw [hd]
          go_wp2_with (go_at_call 74; refine (Hbad.out _).mono ?_; rintro e w2 ⟨rfl, g2⟩)
          go_ret2
          exact ⟨⟨_, rfl, OwnB.nil _ _⟩, g2⟩
      · obtain rfl : fine = false := by rw [← hfin]; simp [h1]
        have hdo : decide (0 ≤ off) = false := by simpa using h1
        clear hfin
        go_enter Tryz.func66, Tryz.ntmps66
        go_wp2_with fail
        refine HK.out.mono ?_
        rintro e w1 ⟨rfl, rfl⟩
        rw [hd]
        go_wp2_with (go_at_call 74; refine (Hbad.out _).mono ?_; rintro e w2 ⟨rfl, g2⟩)
        go_ret2
        exact ⟨⟨_, rfl, OwnB.nil _ _⟩, g2⟩
    cases hr : rightB n with
    | false => exact bad _ (.inl hr) (by unfold Dk.read; rw [hd, hr]; rfl) rfl
    | true =>
      by_cases hpos : 0 ≤ off ∧ 0 ≤ k
      · obtain ⟨h1, h2⟩ := hpos
        clear bad
        have hcond : ¬ (rightB n = false ∨ off < 0 ∨ k < 0) := by rw [hr]; simp; omega
        cases hf : S.find n with
        | none =>
          have e : S.read n off k = ([], 3) := by unfold Dk.read; rw [hd, if_neg hcond, hf]; rfl
          rw [e]
          have Hfo := Lib.hid (find_no h hn hr hf)
          clear e h hf hcond
          go_enter Tryz.func66, Tryz.ntmps66
          go_wp2_with fail
          refine HK.out.mono ?_
          rintro e w1 ⟨rfl, rfl⟩
          rw [hd]
          go_wp2_with (go_at_call 74; refine Hfo.out.mono ?_; rintro e w2 ⟨rfl, g2⟩)
          go_ret2
          exact ⟨⟨_, rfl, OwnB.nil _ _⟩, g2⟩
        | some f =>
          have e : S.read n off k = ((f.now.drop off.toNat).take k.toNat, 0) := by unfold Dk.read; rw [hd, if_neg hcond, hf]; rfl
          rw [e]
          have Hfo := Lib.hid (find_ok h hn hr hf)
          obtain ⟨hm, rfl⟩ := find_some hf
          have Hm := Lib.hid hm
          clear e h hf hm hcond
          go_enter Tryz.func66, Tryz.ntmps66
          go_wp2_with fail
          refine HK.out.mono ?_
          rintro e w1 ⟨rfl, rfl⟩
          rw [hd]
          go_wp2_with fail
          refine Hfo.out.mono ?_
          rintro e w2 ⟨rfl, g2⟩
          have hfr := (H.out.ext g2).file f Hm.out
          have hsm := hfr.small
          obtain ⟨A, cp, hv⟩ := hfr.now.rd.form
          have hfc : w2.cell? ⟨c.fb f.name, 0, none⟩ = some (.slice A f.now.length cp) := by rw [← hv]; exact hfr.box.cell 0
          have hrd := hfr.now.rd
          rw [hv] at hrd
          have hcap := RdB.cap hrd
          have hmx : cp ≤ maxLen := by obtain ⟨_, _, _, _, _, e, _, hc, _⟩ := hrd; cases e; exact hc
          unfold maxLen at hmx
          have HRD := Lib.hid hrd
          have G2 := Lib.hid g2
          clear hfr hv hd hr hrd g2
          obtain ⟨p, rfl⟩ := Int.eq_ofNat_of_zero_le h1
          obtain ⟨m, rfl⟩ := Int.eq_ofNat_of_zero_le h2
          by_cases hpl : (p : Int) ≤ (f.now.length : Int)
          · by_cases hml : (m : Int) ≤ (f.now.length : Int) - (p : Int)
            · obtain ⟨L, hL⟩ : ∃ L, L = (f.now.take (p + m)).drop p := ⟨_, rfl⟩
              have HL : Hid ((f.now.drop p).take m = L) := by show _ = _; rw [hL, List.take_drop]
              have hcut : RdB w2 (.slice (cutA A cp p 1) m (cp - p)) L := by
                have := RdB.cut HRD.out (i := p) (j := p + m) (by omega) (by omega)
                rw [Nat.add_sub_cancel_left, ← hL] at this
                exact this
              have hLl : L.length ≤ 16777216 := by rw [hL, List.length_drop, List.length_take]; omega
              have HC := Lib.hid hcut
              clear hL hcut
              go_wp2_with fail
              go_quiet (fail)
              go_wp2_with (go_at_call 42; refine (cloneB _ L _ (HC.out.ext (gr_drewN _ _ _)) (by omega)).mono ?_; rintro e w4 ⟨v4, rfl, o4, g4⟩)
              go_ret2
              exact ⟨⟨v4, rfl, by rw [Int.toNat_natCast, Int.toNat_natCast, HL.out]; exact Own.mono o4 G2.out.size⟩, gr_none (gr_none G2.out (gr_drewN _ _ none)) g4⟩
            · obtain ⟨L, hL⟩ : ∃ L, L = f.now.drop p := ⟨_, rfl⟩
              have HL : Hid ((f.now.drop p).take m = L) := by show _ = _; rw [hL, List.take_of_length_le (by rw [List.length_drop]; omega)]
              have hcut : RdB w2 (.slice (cutA A cp p 1) (f.now.length - p) (cp - p)) L := by
                have := RdB.drop HRD.out (i := p) (by omega)
                rw [← hL] at this
                exact this
              have hLl : L.length ≤ 16777216 := by rw [hL, List.length_drop]; omega
              have HC := Lib.hid hcut
              clear hL hcut
              go_wp2_with fail
              go_quiet (fail)
              go_wp2_with (go_at_call 42; refine (cloneB _ L _ (HC.out.ext (gr_drewN _ _ _)) (by omega)).mono ?_; rintro e w4 ⟨v4, rfl, o4, g4⟩)
              go_ret2
              exact ⟨⟨v4, rfl, by rw [Int.toNat_natCast, Int.toNat_natCast, HL.out]; exact Own.mono o4 G2.out.size⟩, gr_none (gr_none G2.out (gr_drewN _ _ none)) g4⟩
          · obtain ⟨L, hL⟩ : ∃ L, L = f.now.drop f.now.length := ⟨_, rfl⟩
            have HL : Hid ((f.now.drop p).take m = L) := by show _ = _; rw [hL, List.drop_of_length_le (by omega), List.drop_of_length_le (by omega)]; simp
            have hcut : RdB w2 (.slice (cutA A cp f.now.length 1) 0 (cp - f.now.length)) L := by
              have := RdB.drop HRD.out (i := f.now.length) (by omega)
              rw [← hL, Nat.sub_self] at this
              exact this
            have hLl : L.length ≤ 16777216 := by rw [hL, List.length_drop]; omega
            have HC := Lib.hid hcut
            clear hL hcut
            by_cases hm0 : (m : Int) ≤ 0
            · obtain rfl : m = 0 := by omega
              go_wp2_with fail
              go_quiet (fail)
              go_wp2_with (go_at_call 42; refine (cloneB _ L _ (HC.out.ext (gr_drewN _ _ _)) (by omega)).mono ?_; rintro e w4 ⟨v4, rfl, o4, g4⟩)
              go_ret2
              exact ⟨⟨v4, rfl, by rw [Int.toNat_natCast, Int.toNat_natCast, HL.out]; exact Own.mono o4 G2.out.size⟩, gr_none (gr_none G2.out (gr_drewN _ _ none)) g4⟩
            · skip
              go_wp2_with fail
              go_quiet (fail)
              go_wp2_with (go_at_call 42; refine (cloneB _ L _ (HC.out.ext (gr_drewN _ _ _)) (by omega)).mono ?_; rintro e w4 ⟨v4, rfl, o4, g4⟩)
              go_ret2
              exact ⟨⟨v4, rfl, by rw [Int.toNat_natCast, Int.toNat_natCast, HL.out]; exact Own.mono o4 G2.out.size⟩, gr_none (gr_none G2.out (gr_drewN _ _ none)) g4⟩
      · have hfin : (decide (0 ≤ off) && decide (0 ≤ k)) = false := by
          rw [Bool.eq_false_iff]
          simp
          omega
        have hcond : rightB n = false ∨ off < 0 ∨ k < 0 := by right; omega
        exact bad _ (.inr rfl) (by unfold Dk.read; rw [hd, if_pos hcond]; rfl) hfin
end
end Go.Proofs.YtipankjajdpiiaaGreat

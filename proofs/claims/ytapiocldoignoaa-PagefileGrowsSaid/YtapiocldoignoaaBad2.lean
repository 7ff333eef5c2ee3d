/-
  pagefile.Bad, on a file of whole pages.
-/
import Derived.Test.YtapiocldoignoaaBad
namespace Go.Proofs.Ytapiocldoignoaa
open Go.RowKit Go.Shelf
set_option maxRecDepth 100000
set_option maxHeartbeats 400000
attribute [local go_sem] Oper.semAt_some

section
variable {w : World} {B d : Nat} {o : Own1} {S : Dk} {c : Con} {nm : List UInt8}
theorem rot_stops {w0 : World} {n1 b9 bn bf pf np : Nat} (n : Nat) (hn : 1 ≤ n) (hnp : np ≤ 65536) (hnm : nm.length ≤ 1000000000) (hS : RotS w0 w0 B n1 b9 bn bf d pf np o S c nm) :
    SeqStopsK Fence.wide n Try.prog 51 #[.pointer (some ⟨bn, 0, none⟩), .pointer (some ⟨bf, 0, none⟩)] (fun x : Nat => #[Value.int .i64 (x : Int)]) (KeepBut b9 n1) (fun xs => xs = badL S nm np) (fun _ => True) np w0 := fun l J Jx W hW hJ _ hY h0 =>
  rot1_in n hn l n1 b9 bn bf np hnp hnm J Jx hY W hJ (hS.step ⟨hW.os, hW.tape, hW.output, hW.size, fun i hi _ => hW.block i (Nat.lt_of_lt_of_le hi hS.size)⟩) h0
set_option maxHeartbeats 4000000 in
theorem bad_any (h : DI w B o d S c) (hn : nm.length ≤ 1000000000) {np : Nat} (hs : S.size nm = (256 * np, 0)) :
    Calls Try.prog 18 #[.pointer (some ⟨d, 0, none⟩), .string ⟨nm.toArray⟩] w fun e w' => (∃ v, e = .returned (.tuple #[v, .int .i64 0]) ∧ Rd w' 1 v (badL S nm np).length (natL (badL S nm np))) ∧ w.grownBy w' none := by
  have hz := (size_le h nm).1
  rw [hs] at hz
  have hnp : np ≤ 65536 := by simp at hz; omega
  have HO := Lib.hid (popen_ok h hn hs)
  have HPG : Hid (∀ (wx : World) (pf : Nat), w.grownBy wx none → PfR wx w.heap.size o d pf nm → Calls Try.prog 13 #[.pointer (some ⟨pf, 0, none⟩)] wx fun e w' => e = .returned (.tuple #[.int .i64 np, .int .i64 0]) ∧ wx.grownBy w' none) := fun wx pf hg hp => by
    have := pages_any (h.ext hg) ⟨hp.box, hp.free, Nat.le_trans (by have := h.inb d (by rw [h.tD]; simp); omega) hp.pB⟩ hn
    have e : S.ppages nm = (np, 0) := by unfold Dk.ppages; rw [hs]; simp
    rw [e] at this
    exact this
  have H := Lib.hid h
  clear h hs hz
  refine (callsIn_wide (n := 5)).1 ?_
  refine callsIn_of_wp_marks Try.func18 rfl trivial ?_ rfl
  simp only [Try.ntmps18, List.size_toArray, List.length_cons, List.length_nil, Nat.reduceAdd, Nat.reduceSub, Array.replicate_succ, Array.replicate_zero, List.push_toArray, List.append_toArray, List.nil_append, List.cons_append]
  gi_wp2_with (refine ⟨trivial, ?_⟩; gi_at_call 17; refine (callsIn_wide.2 HO.out).mono ?_; rintro e w1 ⟨pf, rfl, hpf, hp, g1⟩; have G1 := Lib.hid g1; have HP := Lib.hid hp; have HPF := Lib.hid hpf; clear hpf hp g1)
  gi_wp2_with (refine ⟨trivial, ?_⟩; gi_at_call 13; refine (callsIn_wide.2 (HPG.out _ _ G1.out HP.out)).mono ?_; rintro e w2 ⟨rfl, g2⟩; have G2 := Lib.hid (gr_none G1.out g2); have HP2 := Lib.hid (HP.out.ext g2); clear g2)
  gi_wp2_with (refine ⟨trivial, ?_⟩; gi_at_call 33; refine (callsIn_wide.2 (rotten_any _ _ _)).mono ?_; rintro e w3 ⟨rfl, rfl⟩)
  obtain ⟨b9, hb9⟩ : ∃ b9, b9 = w2.heap.size := ⟨_, rfl⟩
  obtain ⟨W0, hW0⟩ : ∃ W0, W0 = (((w2.alloc (.cells #[.slice none 0 0] 40)).alloc (.cells #[.pointer (some ⟨pf, 0, none⟩)] 26)).alloc (.cells #[.int .i64 (np : Int)] 3)) := ⟨_, rfl⟩
  have gW0 : w2.grownBy W0 none := by rw [hW0]; exact gr_none (gr_none (gr_alloc _ _ none) (gr_alloc _ _ none)) (gr_alloc _ _ none)
  have hsz : W0.heap.size = b9 + 3 := by rw [hW0, hb9]; simp
  have hbx : Boxed W0 b9 40 (.slice none 0 0) := by rw [hW0, hb9]; exact ((Boxed.new w2 _ _).alloc _).alloc _
  have hbf : Blk W0 (b9 + 1) 26 #[.pointer (some ⟨pf, 0, none⟩)] := by
    have := (Blk.new (w2.alloc (.cells #[.slice none 0 0] 40)) 26 #[.pointer (some ⟨pf, 0, none⟩)]).ext (gr_alloc _ (.cells #[.int .i64 (np : Int)] 3) none)
    rw [hW0, hb9]; simpa using this
  have hbn : Blk W0 (b9 + 1 + 1) 3 #[.int .i64 (np : Int)] := by
    have := Blk.new ((w2.alloc (.cells #[.slice none 0 0] 40)).alloc (.cells #[.pointer (some ⟨pf, 0, none⟩)] 26)) 3 #[.int .i64 (np : Int)]
    rw [hW0, hb9]; simpa using this
  have hwb : w.heap.size ≤ b9 := by rw [hb9]; exact G2.out.size
  have hpb : pf < b9 := by rw [hb9]; exact HP2.out.box.lt
  have hBw : B ≤ w.heap.size := by have := H.out.inb d (by rw [H.out.tD]; simp); omega
  have hS : RotS W0 W0 B (b9 + 3) b9 (b9 + 1 + 1) (b9 + 1) d pf np o S c nm :=
    { keep := KeepBut.refl _ _ _
      di := H.out.ext (gr_none G2.out gW0)
      pfr := ⟨(HP2.out.ext gW0).box, HP2.out.free, by have := HPF.out; omega⟩
      own := fun i hi => by have := (H.out.inb i hi).2; omega
      pfb := by omega
      box := ⟨hbn, hbf⟩
      boxb := by omega
      size := by omega }
  have hB0 : Below w.heap.size w W0 := gr_below0 (gr_none G2.out gW0)
  obtain ⟨i0, hi, hz0, hz1, hz2⟩ := info_parts Try.infoI
  rw [← hW0, ← hb9]
  have HS := Lib.hid hS
  clear hS hW0 hb9 gW0 hbf hbn
  refine wpIn_rangeFunc_ownF rfl (by omega) (gf := 51) (lb := #[.pointer (some ⟨b9 + 1 + 1, 0, none⟩), .pointer (some ⟨b9 + 1, 0, none⟩)]) rfl trivial (enters_of Try.func51 (by kernel_rfl) rfl)
    (rot_stops 4 (by omega) hnp hn HS.out) (fun h k => h.trans k) (fun W l o o' hl h _ _ => KeepBut.putObj W l o' (by omega) (Array.getElem?_eq_some_iff.1 h).1) (Below.refl _ _) (fun _ => rfl)
    (fun pre W => (∃ v, Boxed W b9 40 v ∧ W.ownsRow (b9 + 3) 3 1 v pre.length (natL pre) ∧ True) ∧ Below w.heap.size w W ∧ b9 + 3 ≤ W.heap.size)
    (fun _ _ _ => False)
    (OwnFrom.and (Own.from (holdsRow_own (b9 + 3) b9 40 3 1 List.length natL (fun _ _ => True)) _) (OwnFrom.and (ownFrom_below (Nat.le_refl _) (by omega)) (fun s W W' row hs hg _ => Nat.le_trans hs hg.size)))
    (fun _ _ _ _ _ hs _ _ => hs)
    ⟨⟨_, hbx, World.ownsRow_nil _ _ _ _, trivial⟩, hB0, by omega⟩
    (fun x => { tmps := #[.pointer (some ⟨d, 0, none⟩), .string ⟨nm.toArray⟩, undef, undef, .slice none 0 0, .int .i64 0, .pointer (some ⟨pf, 0, none⟩), .int .i64 0, .int .i64 np, .pointer (some ⟨b9, 0, none⟩), .int .i64 (x : Int), .tuple #[.pointer (some ⟨pf, 0, none⟩), .int .i64 0], .pointer (some ⟨d, 0, none⟩), .string ⟨nm.toArray⟩, .tuple #[.pointer (some ⟨pf, 0, none⟩), .int .i64 0], .pointer (some ⟨pf, 0, none⟩), .int .i64 0, .int .i64 0, .bool false, undef, .tuple #[.int .i64 np, .int .i64 0], .pointer (some ⟨pf, 0, none⟩), .tuple #[.int .i64 np, .int .i64 0], .int .i64 np, .int .i64 0, .int .i64 0, .bool false, undef, .pointer (some ⟨pf, 0, none⟩), .int .i64 np, .func (.func 51) #[] #[.pointer (some ⟨b9 + 1 + 1, 0, none⟩), .pointer (some ⟨b9 + 1, 0, none⟩)], .int .i64 (x : Int), undef, undef, undef, undef, undef], defers := [] }) ?assign ?body ?done ?stop
  case assign =>
    intro l x W K hK
    gi_wp2
    exact hK
  case body =>
    rintro l pre x W ⟨⟨v, hv, hrow, _⟩, hB, hs3⟩ hlen
    have hcb := hv.cell
    have hfb := hv.frozen
    gi_wp2_with (gi_at_builtin; refine wpListIn_append_own _ rfl _ _ 40 rfl (b9 + 3) 3 i0 (.int .i64 0) 1 8 Try.underlying40 hi hz0 hz1 hz2 rfl (by decide) _ _ _ rfl (hrow.alloc _) ⟨W.heap.size, 0, none⟩ 1 1 [.int .i64 (x : Int)] rfl rfl (cell_one_new _ _ _) (by simp [Value.oneCell']) (by unfold maxLen; omega) (by omega) (by simp; omega) ?_; intro v' w1 hown' hgrow _; obtain ⟨g', cap', rfl⟩ := ownsRow_succ hown'; obtain ⟨hv1, hv2, hr2, hk2, hb2, hkb⟩ := boxed_app (n0 := w.heap.size) hv (by decide) hrow hs3 hwb (by omega) hown' hgrow; have hc1 := hv1.cell; have hf1 := hv1.frozen)
    exact ⟨hk2, hkb, ⟨_, hv2, by rw [natL_snoc, List.length_append]; exact hr2, trivial⟩, hB.trans hb2, Nat.le_trans hs3 hk2.size⟩
  case done =>
    rintro D ys W hD rfl ⟨⟨v, hv, hrow, _⟩, hB, hs3⟩ hK
    have hcb := hv.cell
    gi_wp2
    refine ⟨by simp, .inl ⟨_, _, rfl, run_takeDeferred hK, ?_⟩⟩
    exact ⟨_, results_tmp2 rfl _ _ _, ⟨v, rfl, (Own.of_row (ownsRow_putObj hrow _ hK rfl)).rd⟩, gr_of_below (hB.trans (belowK_b (w := w) (Nat.le_refl _) W D _ _ (by omega) hK rfl rfl))⟩
  case stop =>
    rintro D c pre W _ _ h _
    exact h.elim
end
end Go.Proofs.Ytapiocldoignoaa

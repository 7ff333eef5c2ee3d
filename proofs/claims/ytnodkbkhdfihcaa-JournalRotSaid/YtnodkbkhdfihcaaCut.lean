/-
  JournalCut, the walk.
-/
import Derived.Test.YtnodkbkhdfihcaaFil
namespace Go.Proofs.Ytnodkbkhdfihcaa
open Go.RowKit
set_option maxRecDepth 100000
set_option maxHeartbeats 400000

theorem secs_append (n : Nat) (l m : List Rc) : secs n (l ++ m) = secs n l ++ secs (n + l.length) m := by
  induction l generalizing n with
  | nil => simp [secs]
  | cons a l ih => rw [List.cons_append, secs, ih, secs, List.append_assoc, List.length_cons]; congr 3; omega
theorem secs_take (l : List Rc) (k : Nat) (hk : k ≤ 64 * l.length) : ∃ T, (secs 0 l).take k = secs 0 (l.take (k / 64)) ++ T ∧ T.length < 64 := by
  have hq : k / 64 ≤ l.length := by omega
  have e : secs 0 l = secs 0 (l.take (k / 64)) ++ secs (l.take (k / 64)).length (l.drop (k / 64)) := by
    have := secs_append 0 (l.take (k / 64)) (l.drop (k / 64))
    rw [List.take_append_drop, Nat.zero_add] at this
    exact this
  refine ⟨(secs (l.take (k / 64)).length (l.drop (k / 64))).take (k - 64 * (k / 64)), ?_, ?_⟩
  · have hl : (secs 0 (l.take (k / 64))).length = 64 * (k / 64) := by rw [secs_len, List.length_take]; omega
    rw [e, List.take_append, List.take_of_length_le (by rw [hl]; omega), hl]
  · rw [List.length_take]; omega
theorem readJ_cut (l : List Rc) (k : Nat) (hk : k ≤ 64 * l.length) (hn : l.length ≤ 60) (h0 : ∀ r ∈ l, r.k ≠ 0) : readJ ((secs 0 l).take k) = l.take (k / 64) := by
  obtain ⟨T, e, hT⟩ := secs_take l k hk
  have hm : (l.take (k / 64)).length = k / 64 := by rw [List.length_take]; omega
  unfold readJ
  rw [e]
  refine readF_secs _ 0 _ T (fun r hr => h0 r (List.mem_of_mem_take hr)) (by omega) ?_ (readF_stop (.inl hT))
  rw [List.length_append, secs_len]; omega
theorem RdR.take {w : World} {A : Option Addr} {n c : Nat} {b : List Rc} (h : RdR w (.slice A n c) b) {k : Nat} (hk : k ≤ b.length) : RdR w (.slice A k c) (b.take k) := by
  obtain ⟨hl, A', c', g, off, e, hn, hc, hA0, hA, hx⟩ := h
  cases e
  have hl' : (b.take k).length = k := List.length_take_of_le hk
  have e2 : rcL b = rcL (b.take k) ++ rcL (b.drop k) := by rw [← rcL_append, List.take_append_drop]
  have h3 : (rcL (b.take k)).length = k * 3 := by rw [rcL_len, hl']
  unfold RdR
  rw [hl']
  refine ⟨h3, _, _, g, off, rfl, by omega, hc, hA0, fun h0 => hA (by omega), fun j hj => ?_⟩
  rw [hx j (by omega), e2, List.getElem?_append_left (by omega)]
theorem jOpen_cut {S : Dk} {l : List Rc} (h : Full S l) (k : Nat) (hk : k ≤ 64 * l.length) (hn : l.length ≤ 60) (h0 : ∀ r ∈ l, r.k ≠ 0) :
    jRecs (S.cutTo jn k) = l.take (k / 64) ∧ ∃ f, (jOpen (S.cutTo jn k)).find jn = some f ∧ f.now.length = 64 * (k / 64) := by
  obtain ⟨la, hf⟩ := h.find
  have e : (S.cutTo jn k).find jn = some ⟨jn, (secs 0 l).take k, la.take k⟩ := by rw [find_cutTo, hf]; simp
  have hr : jRecs (S.cutTo jn k) = l.take (k / 64) := by
    unfold jRecs
    rw [e]
    exact readJ_cut l k hk hn h0
  refine ⟨hr, ?_⟩
  obtain ⟨f, h1, h2⟩ := find_jOpen e
  refine ⟨f, h1, ?_⟩
  rw [h2]
  show (((secs 0 l).take k).take (64 * (readJ ((secs 0 l).take k)).length)).length = _
  rw [readJ_cut l k hk hn h0, List.length_take, List.length_take, List.length_take, secs_len]
  omega
set_option maxHeartbeats 4000000 in
theorem cut_law (v : Value) (l : List Rc) (n : UInt16) (w : World) (h : RdR w v l) :
    Calls Try.prog 4 #[v, .int .u16 n.toNat] w fun e w' => e = .returned (.bool true) ∧ w.grownBy w' none := by
  obtain ⟨A, c0, rfl⟩ := h.form
  have HV := Lib.hid h
  clear h
  by_cases hbig : 60 < l.length
  · go_enter Try.func4, Try.ntmps4
    go_wp2_with (go_at_call 10; refine (works_any _).mono ?_; rintro e w1 ⟨rfl, g1⟩)
    go_ret
    exact ⟨rfl, g1⟩
  have hl60 : l.length ≤ 60 := by omega
  have hn := n.toNat_lt
  go_enter Try.func4, Try.ntmps4
  go_wp2_with fail
  refine (fill_any _ l _ HV.out hl60).mono ?_
  rintro e w1 ⟨d, ⟨h0, jb, v, o, c, S, rfl, h1, h2, h3, g1⟩ | ⟨rfl, g1⟩⟩
  · have G1 := Lib.hid g1
    have H1 := Lib.hid h1
    have H2 := Lib.hid h2
    have HZ := Lib.hid h0
    clear g1 h1 h2 h3 h0
    go_wp2_with fail
    obtain ⟨k, hke⟩ : ∃ k : Nat, (n.toNat : Int) % (64 * (l.length : Int) + 1) = (k : Int) := ⟨((n.toNat : Int) % (64 * (l.length : Int) + 1)).toNat, (Int.toNat_of_nonneg (Int.emod_nonneg _ (by omega))).symm⟩
    have hk : k ≤ 64 * l.length := by have := Int.emod_lt_of_pos (n.toNat : Int) (show 0 < 64 * (l.length : Int) + 1 by omega); omega
    rw [hke]
    clear hke
    obtain ⟨la, hf⟩ := H2.out.find
    have hcut := cut_any H1.out jn (by simp) (k : Int) (by omega)
    rw [cut_idle H2.out.1 jn_right hf (show k ≤ (secs 0 l).length by rw [secs_len]; exact hk)] at hcut
    have HC := Lib.hid hcut
    have hf2 : (S.cutTo jn k).find jn = some ⟨jn, (secs 0 l).take k, la.take k⟩ := by rw [find_cutTo, hf]; simp
    obtain ⟨hjr, f, hjf, hjl⟩ := jOpen_cut H2.out k hk hl60 HZ.out
    have HI : Hid (Idle (S.cutTo jn k)) := ⟨H2.out.1.1, H2.out.1.2⟩
    have HJF := Lib.hid hjf
    have HJL := Lib.hid hjl
    have HJR := Lib.hid hjr
    have HF2 := Lib.hid hf2
    have HT1 : Hid (∀ i, o i ≠ none → w.heap.size ≤ i) := fun i hi => (H1.out.inb i hi).1
    clear hcut hf2 hf hjr hjf hjl
    refine HC.out.mono ?_
    rintro e w2 ⟨rfl, o2, c2, h2, ch2⟩
    have G2 := Lib.hid (ch2.gr G1.out HT1.out)
    have HT2 : Hid (∀ i, o2 i ≠ none → w.heap.size ≤ i) := fun i hi => (h2.inb i hi).1
    have HOP := Lib.hid (open_some h2 HI.out HF2.out)
    clear h2 ch2
    go_wp2_with fail
    refine HOP.out.mono ?_
    rintro e w3 ⟨jb3, v3, o3, c3, rfl, h3, ch3, hj3⟩
    have G3 := Lib.hid (ch3.gr G2.out HT2.out)
    rw [HJR.out] at hj3
    have hsz := size_any h3 jn (by simp)
    rw [size_idle (jOpen_idle HI.out) jn_right HJF.out] at hsz
    have HSZ := Lib.hid hsz
    have HRC := Lib.hid (fun wx (hx : w3.grownBy wx none) => recs_any (hj3.ch (Ch.ext hx)) (by rw [List.length_take]; omega))
    clear h3 ch3 hj3 hsz
    go_wp2_with fail
    refine HSZ.out.mono ?_
    rintro e w4 ⟨rfl, g4⟩
    have G4 := Lib.hid (gr_none G3.out g4)
    have G34 := Lib.hid g4
    clear g4
    have hfl2 := HJL.out
    have hcap : l.length ≤ c0 := by obtain ⟨_, _, _, _, _, e, hn, _⟩ := HV.out; cases e; exact hn
    have hq1 : (k : Int) / 64 ≤ (c0 : Int) := by omega
    have hq2 : 0 ≤ (k : Int) / 64 := by omega
    have hs1 : IntKind.i64.wrap ((k : Int).tdiv 64) = (k : Int) / 64 := by rw [Int.tdiv_eq_ediv_of_nonneg (by omega), IntWalk.i64_in _ (by omega)]
    have hs2 : IntKind.i64.wrap ((k : Int) / 64) = (k : Int) / 64 := by rw [IntWalk.i64_in _ (by omega)]
    have hs3 : IntKind.i64.wrap ((k : Int) / 64 * 64) = (k : Int) / 64 * 64 := by rw [IntWalk.i64_in _ (by omega)]
    have HSL : Hid (∀ wx : World, w.grownBy wx none → RdR wx (.slice A ((k : Int) / 64).toNat c0) (l.take (k / 64))) := fun wx hg => by
      have e : ((k : Int) / 64).toNat = k / 64 := by omega
      rw [e]
      exact (RdR.ext HV.out hg).take (by omega)
    have hs4 : ((f.now.length : Int) == (k : Int) / 64 * 64) = true := by rw [beq_iff_eq]; omega
    have hs5 : (f.now.length : Int) = (k : Int) / 64 * 64 := by omega
    clear hfl2
    go_wp2_with fail
    go_region_held3 (fun _ => True) (trivial) (first
      | (go_at_call 20; refine (HRC.out _ (gr_none G34.out (by first | exact gr_refl _ _ | exact gr_drew _ _ | exact gr_drewN _ _ _))).mono ?_; rintro e w5 ⟨⟨v5, rfl, o5⟩, g5⟩)
      | (go_at_call 19; refine (same_any _ _ _ _ _ o5.rd (HSL.out _ (gr_none (gr_none G4.out (by first | exact gr_refl _ _ | exact gr_drew _ _ | exact gr_drewN _ _ _)) g5)) (by rw [List.length_take]; omega) (by rw [List.length_take]; omega)).mono ?_; rintro e w6 ⟨⟨b6, rfl, hb6⟩, g6⟩; obtain rfl := hb6.2 rfl)
      | (go_at_call 10; refine (works_any _).mono ?_; rintro e w7 ⟨rfl, g7⟩))
    go_wp2
    go_ret
    exact ⟨rfl, gr_none (gr_none (gr_none (gr_none G4.out (by first | exact gr_refl _ _ | exact gr_drew _ _ | exact gr_drewN _ _ _)) g5) g6) g7⟩
  · have G1 := Lib.hid g1
    clear g1
    go_wp2_with (go_at_call 10; refine (works_any _).mono ?_; rintro e w2 ⟨rfl, g2⟩)
    go_ret
    exact ⟨rfl, gr_none G1.out g2⟩
end Go.Proofs.Ytnodkbkhdfihcaa

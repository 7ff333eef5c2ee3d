/-
  pool, any of it: a page is brought.
-/
import Derived.Test.YtkpmadahfmpeiaaGreatG8
import Derived.Test.YtkpmadahfmpeiaaGreatG5
namespace Go.Proofs.YtkpmadahfmpeiaaGreat
open Go.RowKit Go.Maps
set_option maxRecDepth 100000
set_option maxHeartbeats 400000

theorem clock_sig : ∀ (t : Nat) (fr : List Fr) (i : Nat), (clock t fr i).1.map sig = fr.map sig
  | 0, _, _ => rfl
  | t + 1, fr, i => by
    cases hf : fr[i]? with
    | none =>
      have : clock (t + 1) fr i = (fr, i) := by
        show (match fr[i]? with | none => _ | some f => _) = _
        rw [hf]
      rw [this]
    | some f =>
      rw [clock_succ hf]
      split
      · exact clock_sig t _ _
      · split
        · rw [clock_sig t, set_sig (f' := f.rest) hf rfl]
        · rfl
/-- each full frame is one of these, as it was. -/
def SubF (fr' fr : List Fr) : Prop := ∀ (j : Nat) (f' : Fr), fr'[j]? = some f' → f'.full = true → ∃ f, fr[j]? = some f ∧ f.full = true ∧ f.n = f'.n ∧ f.k = f'.k ∧ f.b = f'.b ∧ f.pins = f'.pins
theorem SubF.refl (fr : List Fr) : SubF fr fr := fun _ f' h1 h2 => ⟨f', h1, h2, rfl, rfl, rfl, rfl⟩
theorem SubF.of_sig {fr fr' : List Fr} (e : fr'.map sig = fr.map sig) : SubF fr' fr := fun j f' h1 h2 => by
  obtain ⟨g, g1, g2, g3, g4, g5, g6, -⟩ := sig_at e.symm h1
  exact ⟨g, g1, by rw [g2]; exact h2, g3, g4, g5, g6⟩
theorem SubF.set0 {fr fr' : List Fr} (h : SubF fr' fr) (i : Nat) : SubF (fr'.set i fr0) fr := fun j f' h1 h2 => by
  by_cases e : i = j
  · subst e
    by_cases hi : i < fr'.length
    · rw [List.getElem?_set_self hi] at h1; cases h1; cases h2
    · rw [List.getElem?_eq_none (by rw [List.length_set]; omega)] at h1; cases h1
  · rw [List.getElem?_set_ne e] at h1
    exact h j f' h1 h2
theorem len_sig {fr fr' : List Fr} (e : fr'.map sig = fr.map sig) : fr'.length = fr.length := by simpa using congrArg List.length e
/-- a frame that is taken is empty. -/
theorem take_gen (Q : Pm) (S : Dk) (hh : Q.hand < Q.fr.length) : (Q.take S).Q.fr.length = Q.fr.length ∧ ((Q.take S).e = 0 → ∃ f, (Q.take S).Q.fr[(Q.take S).i]? = some f ∧ f.full = false) ∧ SubF (Q.take S).Q.fr Q.fr ∧ (Q.take S).Q.mf = Q.mf ∧ (Q.take S).Q.mp = Q.mp := by
  cases hfr : Q.free with
  | some i =>
    have e : Q.take S = ⟨i, 0, Q, S⟩ := by unfold Pm.take; rw [hfr]
    rw [e]
    obtain ⟨f, h1, h2, -⟩ := free_some hfr
    exact ⟨rfl, fun _ => ⟨f, h1, h2⟩, SubF.refl _, rfl, rfl⟩
  | none =>
    have e : Q.take S = takeC Q S (clock (2 * Q.fr.length) Q.fr Q.hand).1 (clock (2 * Q.fr.length) Q.fr Q.hand).2 := by unfold Pm.take; rw [hfr]
    have h1 := clock_sig (2 * Q.fr.length) Q.fr Q.hand
    have h2 := clock_lt (2 * Q.fr.length) Q.fr Q.hand hh
    rw [e]
    obtain ⟨X, hX⟩ : ∃ X, X = clock (2 * Q.fr.length) Q.fr Q.hand := ⟨_, rfl⟩
    rw [← hX] at h1 h2 ⊢
    obtain ⟨f1, i⟩ := X
    simp only [] at h1 h2 ⊢
    have hl := len_sig h1
    have hf : f1[i]? = some (f1[i]'(by omega)) := List.getElem?_eq_getElem (by omega)
    have hb := (backP_sig f1 S i).trans h1
    unfold takeC
    rw [hf]
    dsimp only
    split
    · exact ⟨hl, (fun h => by cases h), SubF.of_sig h1, rfl, rfl⟩
    · split
      · split
        · next h3 => exact ⟨len_sig hb, fun h => absurd h h3, SubF.of_sig hb, rfl, rfl⟩
        · refine ⟨by rw [List.length_set]; exact len_sig hb, fun _ => ⟨fr0, List.getElem?_set_self (by rw [len_sig hb]; exact h2), rfl⟩, (SubF.of_sig hb).set0 i, rfl, rfl⟩
      · exact ⟨by rw [List.length_set]; exact hl, fun _ => ⟨fr0, List.getElem?_set_self (by omega), rfl⟩, (SubF.of_sig h1).set0 i, rfl, rfl⟩
theorem at_none_of {Q : Pm} {n : List UInt8} {k : Int} (h : ∀ (j : Nat) (g : Fr), Q.fr[j]? = some g → g.full = true → g.n = n → g.k = k → False) : Q.at n k = none := by
  unfold Pm.at
  rw [List.findIdx?_eq_none_iff]
  intro g hg
  obtain ⟨j, hj, e⟩ := List.mem_iff_getElem.1 hg
  cases hb : isP n k g with
  | false => rfl
  | true =>
    unfold isP at hb
    have h3 : g.full = true ∧ g.n = n ∧ g.k = k := by simpa using hb
    exact (h j g (by rw [List.getElem?_eq_getElem hj, e]) h3.1 h3.2.1 h3.2.2).elim
theorem SubF.at_none {Q Q' : Pm} {n : List UInt8} {k : Int} (hs : SubF Q'.fr Q.fr) (h : Q.at n k = none) : Q'.at n k = none :=
  at_none_of fun j g h1 h2 h3 h4 => by
    obtain ⟨f, f1, f2, f3, f4, -⟩ := hs j g h1 h2
    exact Go.Proofs.YtkpmadahfmpeiaaGreat.at_none h j f f1 f2 (f3.trans h3) (f4.trans h4)
section
variable {w w' : World} {B d p g mb nm pf : Nat} {o : Own1} {P : Pl} {S : Dk} {c : Con} {n : List UInt8} {Q : Pm}
/-- one frame's cells but its page are turned. -/
theorem PoS.upd (h : PoS w B o d p g mb Q) (hg : w.grownBy w' (some g)) {i : Nat} {x x' : Fr} (hx : Q.fr[i]? = some x) (hb : Blk w' g 134 ((Q.fr.set i x').flatMap Fr.enc).toArray) (e1 : x'.full = x.full) (e2 : x'.n = x.n) (e3 : x'.k = x.k) (hx' : FrB w' B o p g mb x') :
    PoOut o w B d p g mb { Q with fr := Q.fr.set i x' } w' := by
  obtain ⟨wh, h⟩ := h
  obtain ⟨hi, hxe⟩ := List.getElem?_eq_some_iff.1 hx
  have h1 := h.put hg (i := i) (x := x') hi hb (by show _ = (Q.fr[i]).full; rw [hxe]; exact e1) (by show _ = (Q.fr[i]).n; rw [hxe]; exact e2) (by show _ = (Q.fr[i]).k; rw [hxe]; exact e3) hx'
  refine ⟨⟨wh, ?_⟩, Ch.of_gr hg fun k e => by cases e; exact (po_ne noO p g mb).2.1⟩
  have hn : heldN Fr.full (Q.fr.set i x') = heldN Fr.full Q.fr := by
    have := heldN_set Fr.full (y := x') hx
    rw [e1] at this
    omega
  show PoR w' B o d p g mb _ (heldN Fr.full (Q.fr.set i x'))
  rw [hn]
  exact h1
theorem PoS.usedUp (h : PoS w B o d p g mb Q) {i : Nat} {x : Fr} (hx : Q.fr[i]? = some x) : PoOut o w B d p g mb { Q with fr := Q.fr.modify i Fr.usedUp } (w.setCell ⟨g, i * 7 + 6, none⟩ (.bool true)) := by
  have hb := h.cellsOk i x hx
  obtain ⟨hi, hxe⟩ := List.getElem?_eq_some_iff.1 hx
  have hg5 := gr_setCell w ⟨g, i * 7 + 6, none⟩ (.bool true)
  have hfr : Blk w g 134 (Q.fr.flatMap Fr.enc).toArray := by obtain ⟨wh, h⟩ := h; exact h.fr
  have b3 := Blk.setFr hfr hi (j := 6) (by omega) (x' := x.usedUp) (v := .bool true) (by rw [hxe]; rfl)
  have hx5 : FrB w B o p g mb x.usedUp := ⟨hb.rd, hb.off, hb.len⟩
  have := h.upd hg5 hx b3 rfl rfl rfl (hx5.far hg5 fun q e => (hx5.off q e).2.2.1)
  rw [modify_eq hx]
  exact this
/-- a page comes into a frame that is empty. -/
theorem pofill_any (h : PoS w B o d p g mb Q) {i : Nat} {x f : Fr} (hx : Q.fr[i]? = some x) (h0 : x.full = false) (hf : FrB w B o p g mb f) (hk : okK f.n f.k) (hn : Q.at f.n f.k = none) :
    Calls Tryz.prog 100 #[.pointer (some ⟨p, 0, none⟩), .int .i64 i, .agg #[.bool false, .string ⟨f.n.toArray⟩, .int .i64 f.k, f.bv, .int .i64 f.pins, .bool f.dirty, .bool f.used]] w fun e w' => e = .returned (.tuple #[]) ∧ PoOut o w B d p g mb (Q.fill i f) w' := by
  obtain ⟨wh, h⟩ := h
  obtain ⟨hi, hxe⟩ := List.getElem?_eq_some_iff.1 hx
  have hl := heldN_le Fr.full Q.fr
  have hl2 : Q.fr.length ≤ 4096 := h.lim.2.1
  refine (fill_any h (i := i) hi (by show (Q.fr[i]).full = false; rw [hxe]; exact h0) hf hk (by show wh ⟨f.n, f.k, hk⟩ = none; rw [wh_at h hk]; exact hn) (by omega)).mono ?_
  rintro e w' ⟨rfl, h1, h2⟩
  refine ⟨rfl, ⟨fun z => if z = pkey f hk then some i else wh z, ?_⟩, h2⟩
  · have hn : heldN Fr.full (Q.fr.set i { f with full := true }) = heldN Fr.full Q.fr + 1 := by
      have := heldN_set Fr.full (y := { f with full := true }) hx
      rw [h0, if_neg (by simp), if_pos rfl] at this
      omega
    show PoR w' B o d p g mb _ (heldN Fr.full (Q.fr.set i { f with full := true }))
    rw [hn]
    exact h1
end
end Go.Proofs.YtkpmadahfmpeiaaGreat

/- pool, any of it: bring. -/
namespace Go.Proofs.YtkpmadahfmpeiaaGreat
open Go.RowKit Go.Maps
set_option maxRecDepth 100000
set_option maxHeartbeats 400000

theorem pagO_small {p : List UInt8} {tag k : Nat} {b : List UInt8} (h : pagO p tag k = some b) : b.length ≤ 240 := by
  unfold pagO at h
  split at h
  · next hc =>
    cases h
    rw [List.length_drop, List.length_take]
    omega
  · cases h
theorem pread_len (S : Dk) (n : List UInt8) (k : Int) : (S.pread n k).1.length ≤ 240 := by
  unfold Dk.pread
  split
  · simp
  · split
    · simp
    · split
      · simp
      · split
        · simp
        · next h => exact pagO_small h
section
variable {w w' : World} {B d p g mb nm pf : Nat} {o : Own1} {S : Dk} {c : Con} {n : List UInt8} {Q : Pm}
theorem PoS.fresh (h : DI w B o d S c) (hp : PoS w B o d p g mb Q) {q : Nat} (hq : w.heap.size ≤ q) : po o p g mb q = none := by obtain ⟨wh, hp⟩ := hp; exact po_fresh h hp hq
theorem PoS.selfc (h : PoS w B o d p g mb Q) : w.cell? ⟨p, 0, none⟩ = some (.pointer (some ⟨d, 0, none⟩)) ∧ w.cell? ⟨p, 1, none⟩ = some (.slice (some ⟨g, 0, none⟩) Q.fr.length Q.fr.length) ∧ w.cell? ⟨p, 2, none⟩ = some (.map (some mb)) ∧
    w.cell? ⟨p, 3, none⟩ = some (.int .i64 Q.hand) ∧ w.cell? ⟨p, 4, none⟩ = some (.int .i64 Q.mf) ∧ w.cell? ⟨p, 5, none⟩ = some (.int .i64 Q.mp) := by obtain ⟨wh, h⟩ := h; exact h.selfc
theorem PoS.frames (h : PoS w B o d p g mb Q) : Blk w g 134 (Q.fr.flatMap Fr.enc).toArray := by obtain ⟨wh, h⟩ := h; exact h.fr
theorem PoS.look (h : PoS w B o d p g mb Q) {k : Int} (hk : okK n k) : (Instr.lookup 111 (.map (some mb)) (.agg #[.string ⟨n.toArray⟩, .int .i64 k]) true).run Tryz.prog w = .ok (.tuple #[.int .i64 ((Q.at n k).getD 0 : Nat), .bool (Q.at n k).isSome]) w := by
  obtain ⟨wh, h⟩ := h
  have e := wh_at h hk
  cases ha : Q.at n k with
  | none => rw [ha] at e; exact look_none h hk e
  | some i => rw [ha] at e; exact look_some h hk e
def lowF (a : Int) (fr : List Fr) : Prop := ∀ (i : Nat) (f : Fr), fr[i]? = some f → f.k ≤ a
def PagesOut (w : World) (X : Int × Nat) (e : Ending) (w' : World) : Prop := e = .returned (.tuple #[.int .i64 X.1, .int .i64 X.2]) ∧ w.grownBy w' none
theorem popages_any (h : DI w B o d S c) (hp : PoS w B o d p g mb Q) (hn : n.length ≤ 1000000000) : Calls Tryz.prog 20 #[.pointer (some ⟨p, 0, none⟩), .string ⟨n.toArray⟩] w (PagesOut w (Q.pages S n)) := by
  obtain ⟨wh, hp⟩ := hp
  refine (ppages_any h hp hn).mono ?_
  rintro e w' ⟨g1, ⟨he, rfl⟩ | ⟨he, rfl⟩⟩
  · unfold Pm.pages
    rw [if_pos he]
    exact ⟨rfl, g1⟩
  · unfold Pm.pages
    rw [if_neg (by simpa using he)]
    exact ⟨rfl, g1⟩
theorem pages_le (h : DI w B o d S c) (hlo : lowF 1000000000 Q.fr) (n : List UInt8) : (Q.pages S n).1 ≤ 1000000001 := by
  unfold Pm.pages
  split
  · simp
  · have := pgs_le h n
    exact (pagesN_le (fr := Q.fr) (n := n) (n0 := (S.pgs n).1) (m := 1000000001) (by omega) (fun f hf => by
      obtain ⟨i, hi, e⟩ := List.mem_iff_getElem.1 hf
      have := hlo i f (by rw [List.getElem?_eq_getElem hi, e])
      omega)).2
def BringOut (o : Own1) (w : World) (B d p g mb : Nat) (F : Value → TakeR) (e : Ending) (w' : World) : Prop := ∃ v, (∀ q, blk v = some q → w.heap.size ≤ q) ∧ e = .returned (.tuple #[.int .i64 (F v).i, .int .i64 (F v).e]) ∧ PdOut o w B d p g mb (F v).Q (F v).S w'
set_option maxHeartbeats 4000000 in
theorem bring_any (h : DI w B o d S c) (hp : PoS w B o d p g mb Q) (hn : n.length ≤ 1000000000) {k : Int} (hk : -9223372036854775808 ≤ k ∧ k ≤ 9223372036854775807) (hlo : lowF 1000000000 Q.fr) (hfl : S.fs.length ≤ 1000000) (hnl : S.nl ≤ 1000000000000) :
    Calls Tryz.prog 60 #[.pointer (some ⟨p, 0, none⟩), .string ⟨n.toArray⟩, .int .i64 k] w (BringOut o w B d p g mb (Q.bring S n k)) := by
  have HPG := Lib.hid (popages_any h hp hn)
  have hple := pages_le h hlo n
  have H := Lib.hid h
  have HP := Lib.hid hp
  have hB := h.base
  have HFR : Hid (∀ q, w.heap.size ≤ q → po o p g mb q = none) := fun q hq => hp.fresh h hq
  have hl : Q.fr.length ≤ 4096 := hp.lim.2.1
  have hok : okK n k := ⟨by unfold maxLen; omega, WalkArith.wf_i64 (by omega)⟩
  have HOK := Lib.hid hok
  have hhand : Q.hand < Q.fr.length := hp.lim.2.2.1
  have HTG := Lib.hid (take_gen Q S hhand)
  have HBR : Hid (∀ v, Q.bring S n k v = if (Q.pages S n).2 ≠ 0 then ⟨0, (Q.pages S n).2, Q, S⟩
    else if k < 0 then ⟨0, 1, Q, S⟩
    else if (Q.pages S n).1 ≤ k then ⟨0, 3, Q, S⟩
    else match Q.at n k with
    | some i => ⟨i, 0, { Q with fr := Q.fr.modify i Fr.usedUp }, S⟩
    | none => bringR Q S n k v) := fun v => rfl
  have HPE : Hid ((Q.pages S n).2 = 0 → (S.pgs n).2 = 0) := fun he => by
    unfold Pm.pages at he
    split at he
    · next h1 => exact absurd he h1
    · next h1 => simpa using h1
  clear h hp hok hlo hhand
  obtain ⟨X, hX⟩ : ∃ X, X = Q.pages S n := ⟨_, rfl⟩
  rw [← hX] at HPG HBR hple HPE
  clear hX
  obtain ⟨m, pe⟩ := X
  simp only [] at HPG HBR hple HPE
  unfold PagesOut at HPG
  simp only [] at HPG
  by_cases h1 : pe = 0
  · subst h1
    by_cases h2 : k < 0
    · have HB2 : Hid (∀ v, Q.bring S n k v = ⟨0, 1, Q, S⟩) := fun v => by rw [HBR.out, if_neg (by simp), if_pos h2]
      clear HBR
      go_enter Tryz.func60, Tryz.ntmps60
      go_wp2_with fail
      refine HPG.out.mono ?_
      rintro e w1 ⟨rfl, g1⟩
      have G1 := Lib.hid g1
      clear g1 HPG
      go_wp2
      go_ret2
      refine ⟨.slice none 0 0, (fun q e => by cases e), ?_⟩
      rw [HB2.out]
      exact ⟨rfl, PdOut.ext H.out HP.out G1.out⟩
    · by_cases h3 : m ≤ k
      · have HB2 : Hid (∀ v, Q.bring S n k v = ⟨0, 3, Q, S⟩) := fun v => by rw [HBR.out, if_neg (by simp), if_neg h2, if_pos h3]
        clear HBR
        go_enter Tryz.func60, Tryz.ntmps60
        go_wp2_with fail
        refine HPG.out.mono ?_
        rintro e w1 ⟨rfl, g1⟩
        have G1 := Lib.hid g1
        clear g1 HPG
        go_wp2
        go_ret2
        refine ⟨.slice none 0 0, (fun q e => by cases e), ?_⟩
        rw [HB2.out]
        exact ⟨rfl, PdOut.ext H.out HP.out G1.out⟩
      · have h3' : k < m := by omega
        have h2' : 0 ≤ k := by omega
        cases hat : Q.at n k with
        | some i =>
          have HB2 : Hid (∀ v, Q.bring S n k v = ⟨i, 0, { Q with fr := Q.fr.modify i Fr.usedUp }, S⟩) := fun v => by rw [HBR.out, if_neg (by simp), if_neg h2, if_neg h3, hat]
          obtain ⟨x, x1, x2, x3, x4⟩ := at_some hat
          have HAT := Lib.hid hat
          have HX1 := Lib.hid x1
          have hil : (i : Int) < (Q.fr.length : Int) := by have := (List.getElem?_eq_some_iff.1 x1).1; omega
          clear HBR h2 h3 hat x1 x2 x3 x4
          go_enter Tryz.func60, Tryz.ntmps60
          go_wp2_with fail
          refine HPG.out.mono ?_
          rintro e w1 ⟨rfl, g1⟩
          have G1 := Lib.hid g1
          have hp1 := HP.out.ext g1
          have hlk := hp1.look HOK.out
          rw [HAT.out] at hlk
          have hlk2 : (Instr.lookup 111 (.map (some mb)) (.agg #[.string ⟨n.toArray⟩, .int .i64 k]) true).run Tryz.prog w1 = .ok (.tuple #[.int .i64 i, .bool true]) w1 := hlk
          obtain ⟨s0, s1, s2, -⟩ := hp1.selfc
          have hfz := hp1.frames.frozen
          obtain ⟨hi2, hxe⟩ := List.getElem?_eq_some_iff.1 HX1.out
          obtain ⟨c0, c1, c2, c3, c4, c5, c6⟩ := frame_cells hp1.frames hi2 hxe
          have HP1 := Lib.hid hp1
          clear g1 HPG hp1 hlk hi2 hxe
          go_wp2
          go_ret2
          obtain ⟨u1, u2⟩ := HP1.out.usedUp HX1.out
          refine ⟨.slice none 0 0, (fun q e => by cases e), ?_⟩
          rw [HB2.out]
          exact ⟨rfl, o, c, by obtain ⟨wh, hp2⟩ := HP1.out; exact (H.out.ext G1.out).pool hp2 u2, u1, po_wide ((Ch.ext G1.out).trans u2) o⟩
        | none =>
          have HB2 : Hid (∀ v, Q.bring S n k v = bringR Q S n k v) := fun v => by rw [HBR.out, if_neg (by simp), if_neg h2, if_neg h3, hat]
          have HAT := Lib.hid hat
          clear HBR h2 h3 hat
          obtain ⟨pb, hpb⟩ : ∃ pb, pb = S.pread n k := ⟨_, rfl⟩
          have hpl : pb.1.length ≤ 240 := by rw [hpb]; exact pread_len S n k
          have HRD : Hid (∀ (wx : World) (px Bx : Nat), w.grownBy wx none → PfR wx B o d px n → Calls Tryz.prog 78 #[.pointer (some ⟨px, 0, none⟩), .int .i64 k] wx fun e w' => (∃ v, e = .returned (.tuple #[v, .int .i64 pb.2]) ∧ OwnB w' wx.heap.size v pb.1) ∧ wx.grownBy w' none) := fun wx px Bx hg hq => by
            rw [hpb]
            exact pread_any (H.out.ext hg) hq hn k hk
          have HBX : Hid (∀ v, Q.bring S n k v = if pb.2 ≠ 0 then ⟨0, pb.2, Q, S⟩
              else if (Q.take S).e ≠ 0 then ⟨0, (Q.take S).e, (Q.take S).Q, (Q.take S).S⟩
              else ⟨(Q.take S).i, 0, (Q.take S).Q.fill (Q.take S).i (frR n k pb.1 v), (Q.take S).S⟩) := fun v => by rw [HB2.out, hpb]; rfl
          clear hpb HB2
          obtain ⟨bb, be⟩ := pb
          simp only [] at HRD HBX hpl
          have HPGS := Lib.hid (HPE.out rfl)
          clear HPE
          by_cases h4 : be = 0
          · subst h4
            have HTK : Hid (∀ wx, w.grownBy wx none → Calls Tryz.prog 99 #[.pointer (some ⟨p, 0, none⟩)] wx (TakeOut o wx B d p g mb (Q.take S))) := fun wx hg => take_any (H.out.ext hg) (HP.out.ext hg) hfl hnl
            have HBY : Hid (∀ v, Q.bring S n k v = if (Q.take S).e ≠ 0 then ⟨0, (Q.take S).e, (Q.take S).Q, (Q.take S).S⟩
              else ⟨(Q.take S).i, 0, (Q.take S).Q.fill (Q.take S).i (frR n k bb v), (Q.take S).S⟩) := fun v => by rw [HBX.out]; exact if_neg (by simp)
            have HNA := Lib.hid (HTG.out.2.2.1.at_none HAT.out)
            have HTE := Lib.hid HTG.out.2.1
            have HTL := Lib.hid HTG.out.1
            clear HBX HTG
            obtain ⟨R, hR⟩ : ∃ R, R = Q.take S := ⟨_, rfl⟩
            rw [← hR] at HTK HBY HNA HTE HTL
            clear hR
            obtain ⟨ri, re, RQ, RS⟩ := R
            simp only [] at HTK HBY HNA HTE HTL
            by_cases h5 : re = 0
            · subst h5
              have HBZ : Hid (∀ v, Q.bring S n k v = ⟨ri, 0, RQ.fill ri (frR n k bb v), RS⟩) := fun v => by rw [HBY.out]; exact if_neg (by simp)
              clear HBY
              obtain ⟨f0, hf0, hf1⟩ := HTE.out rfl
              have HF0 := Lib.hid hf0
              have HF1 := Lib.hid hf1
              clear hf0 hf1 HTE
              go_enter Tryz.func60, Tryz.ntmps60
              go_wp2_with fail
              refine HPG.out.mono ?_
              rintro e w1 ⟨rfl, g1⟩
              have G1 := Lib.hid g1
              have hp1 := HP.out.ext g1
              have hlk := hp1.look HOK.out
              rw [HAT.out] at hlk
              have hlk2 : (Instr.lookup 111 (.map (some mb)) (.agg #[.string ⟨n.toArray⟩, .int .i64 k]) true).run Tryz.prog w1 = .ok (.tuple #[.int .i64 0, .bool false]) w1 := hlk
              obtain ⟨s0, s1, s2, -⟩ := hp1.selfc
              have HOP := Lib.hid (popen_gen (H.out.ext g1) hn)
              clear g1 HPG hp1 hlk
              go_wp2_with fail
              refine HOP.out.mono ?_
              rintro e w2 ⟨g2, ⟨he, rfl⟩ | ⟨-, pf, rfl, hpf, hpr⟩⟩
              · exact absurd HPGS.out he
              have G2 := Lib.hid (gr_none G1.out g2)
              have HRD2 := Lib.hid (HRD.out w2 pf 0 G2.out ⟨hpr.box, hpr.free, by have := G1.out.size; omega⟩)
              clear g2 hpf hpr HOP HRD hlk2 s0 s1 s2
              go_wp2_with fail
              refine HRD2.out.mono ?_
              rintro e w3 ⟨⟨v3, rfl, ho3⟩, g3⟩
              obtain ⟨A3, c3, rfl⟩ := RdB.form (Own.rd ho3)
              have HO3 := Lib.hid ho3
              have G3 := Lib.hid (gr_none G2.out g3)
              clear ho3 g3 HRD2
              have HOR : Hid (∀ q, blk (.slice A3 bb.length c3) = some q → w.heap.size ≤ q ∧ q < w3.heap.size) := fun q e => by
                obtain ⟨q1, q2⟩ := Own.blk_lt HO3.out (by omega) e
                exact ⟨by have := G2.out.size; omega, q2⟩
              have HRD3 := Lib.hid (Own.rd HO3.out)
              have HTK3 := Lib.hid (HTK.out w3 G3.out)
              clear HTK
              go_wp2_with fail
              refine HTK3.out.mono ?_
              rintro e w4 ⟨rfl, o4, c4, k1, k2, k3⟩
              have K1 := Lib.hid k1
              have K2 := Lib.hid k2
              have K3 := Lib.hid ((Ch.ext G3.out).trans k3)
              have hfn : FrB w4 B o4 p g mb (⟨false, n, k, bb, .slice A3 bb.length c3, 0, false, true⟩ : Fr) := by
                refine ⟨k3.rd HRD3.out fun q e => ⟨(HOR.out q e).2, HFR.out q (HOR.out q e).1⟩, fun q e => ?_, ⟨hpl, hn, Nat.zero_le _, ?_⟩⟩
                · obtain ⟨q1, q2⟩ := HOR.out q e
                  obtain ⟨p1, p2, p3, p4⟩ := po_none (k3.free q q2 (HFR.out q q1))
                  exact ⟨p4, p1, p2, p3, Nat.lt_of_lt_of_le q2 k3.size, by omega⟩
                · show -4611686018427387904 ≤ k ∧ k ≤ 4611686018427387904
                  omega
              have HFI := Lib.hid (pofill_any k2 HF0.out HF1.out hfn HOK.out HNA.out)
              clear k1 k2 k3 hfn HTK3 HRD3
              go_wp2_with fail
              refine HFI.out.mono ?_
              rintro e w5 ⟨rfl, u1, u2⟩
              have U1 := Lib.hid u1
              have U2 := Lib.hid u2
              clear u1 u2 HFI
              go_wp2
              go_ret2
              refine ⟨.slice A3 bb.length c3, (fun q e => (HOR.out q e).1), ?_⟩
              rw [HBZ.out]
              exact ⟨rfl, o4, c4, by obtain ⟨wh, hp2⟩ := K2.out; exact K1.out.pool hp2 U2.out, U1.out, K3.out.trans (po_wide U2.out o4)⟩
            · have HBZ : Hid (∀ v, Q.bring S n k v = ⟨0, re, RQ, RS⟩) := fun v => by rw [HBY.out]; exact if_pos h5
              have hne : ((re : Int) != 0) = true := by rw [bne_iff_ne]; omega
              clear HBY h5 HTE
              go_enter Tryz.func60, Tryz.ntmps60
              go_wp2_with fail
              refine HPG.out.mono ?_
              rintro e w1 ⟨rfl, g1⟩
              have G1 := Lib.hid g1
              have hp1 := HP.out.ext g1
              have hlk := hp1.look HOK.out
              rw [HAT.out] at hlk
              have hlk2 : (Instr.lookup 111 (.map (some mb)) (.agg #[.string ⟨n.toArray⟩, .int .i64 k]) true).run Tryz.prog w1 = .ok (.tuple #[.int .i64 0, .bool false]) w1 := hlk
              obtain ⟨s0, s1, s2, -⟩ := hp1.selfc
              have HOP := Lib.hid (popen_gen (H.out.ext g1) hn)
              clear g1 HPG hp1 hlk
              go_wp2_with fail
              refine HOP.out.mono ?_
              rintro e w2 ⟨g2, ⟨he, rfl⟩ | ⟨-, pf, rfl, hpf, hpr⟩⟩
              · exact absurd HPGS.out he
              have G2 := Lib.hid (gr_none G1.out g2)
              have HRD2 := Lib.hid (HRD.out w2 pf 0 G2.out ⟨hpr.box, hpr.free, by have := G1.out.size; omega⟩)
              clear g2 hpf hpr HOP HRD hlk2 s0 s1 s2
              go_wp2_with fail
              refine HRD2.out.mono ?_
              rintro e w3 ⟨⟨v3, rfl, ho3⟩, g3⟩
              obtain ⟨A3, c3, rfl⟩ := RdB.form (Own.rd ho3)
              have HO3 := Lib.hid ho3
              have G3 := Lib.hid (gr_none G2.out g3)
              clear ho3 g3 HRD2
              have HTK3 := Lib.hid (HTK.out w3 G3.out)
              clear HTK
              go_wp2_with fail
              refine HTK3.out.mono ?_
              rintro e w4 ⟨rfl, o4, c4, k1, k2, k3⟩
              have K1 := Lib.hid k1
              have K2 := Lib.hid k2
              have K3 := Lib.hid ((Ch.ext G3.out).trans k3)
              clear k1 k2 k3 HTK3
              go_wp2
              go_ret2
              refine ⟨.slice none 0 0, (fun q e => by cases e), ?_⟩
              rw [HBZ.out]
              exact ⟨rfl, o4, c4, K1.out, K2.out, K3.out⟩
          · have HBZ : Hid (∀ v, Q.bring S n k v = ⟨0, be, Q, S⟩) := fun v => by rw [HBX.out]; exact if_pos h4
            have hne : ((be : Int) != 0) = true := by rw [bne_iff_ne]; omega
            clear HBX h4 HTG
            go_enter Tryz.func60, Tryz.ntmps60
            go_wp2_with fail
            refine HPG.out.mono ?_
            rintro e w1 ⟨rfl, g1⟩
            have G1 := Lib.hid g1
            have hp1 := HP.out.ext g1
            have hlk := hp1.look HOK.out
            rw [HAT.out] at hlk
            have hlk2 : (Instr.lookup 111 (.map (some mb)) (.agg #[.string ⟨n.toArray⟩, .int .i64 k]) true).run Tryz.prog w1 = .ok (.tuple #[.int .i64 0, .bool false]) w1 := hlk
            obtain ⟨s0, s1, s2, -⟩ := hp1.selfc
            have HOP := Lib.hid (popen_gen (H.out.ext g1) hn)
            clear g1 HPG hp1 hlk
            go_wp2_with fail
            refine HOP.out.mono ?_
            rintro e w2 ⟨g2, ⟨he, rfl⟩ | ⟨-, pf, rfl, hpf, hpr⟩⟩
            · exact absurd HPGS.out he
            have G2 := Lib.hid (gr_none G1.out g2)
            have HRD2 := Lib.hid (HRD.out w2 pf 0 G2.out ⟨hpr.box, hpr.free, by have := G1.out.size; omega⟩)
            clear g2 hpf hpr HOP HRD hlk2 s0 s1 s2
            go_wp2_with fail
            refine HRD2.out.mono ?_
            rintro e w3 ⟨⟨v3, rfl, ho3⟩, g3⟩
            obtain ⟨A3, c3, rfl⟩ := RdB.form (Own.rd ho3)
            have HO3 := Lib.hid ho3
            have G3 := Lib.hid (gr_none G2.out g3)
            clear ho3 g3 HRD2
            go_wp2
            go_ret2
            refine ⟨.slice none 0 0, (fun q e => by cases e), ?_⟩
            rw [HBZ.out]
            exact ⟨rfl, PdOut.ext H.out HP.out G3.out⟩
  · have HB2 : Hid (∀ v, Q.bring S n k v = ⟨0, pe, Q, S⟩) := fun v => by rw [HBR.out, if_pos h1]
    have hne : ((pe : Int) != 0) = true := by rw [bne_iff_ne]; omega
    clear HBR h1
    go_enter Tryz.func60, Tryz.ntmps60
    go_wp2_with fail
    refine HPG.out.mono ?_
    rintro e w1 ⟨rfl, g1⟩
    have G1 := Lib.hid g1
    clear g1 HPG
    go_wp2
    go_ret2
    refine ⟨.slice none 0 0, (fun q e => by cases e), ?_⟩
    rw [HB2.out]
    exact ⟨rfl, PdOut.ext H.out HP.out G1.out⟩
end
end Go.Proofs.YtkpmadahfmpeiaaGreat

/-
  pool, any of it: a page is brought.
-/
import Derived.Test.YtkfokgjpeaibpaaG8
import Derived.Test.YtkfokgjpeaibpaaG5
namespace Go.Proofs.Ytkfokgjpeaibpaa
open Go.RowKit Go.Maps
set_option maxRecDepth 100000
set_option maxHeartbeats 400000

theorem clock_sig : ∀ (t : Nat) (fr : List Fr) (i : Nat), (clock t fr i).1.map sig = fr.map sig
  | 0, _, _ => rfl
  | t + 1, fr, i => by
    cases hf : fr[i]? with
    | none =>
      have : clock (t + 1) fr i = (fr, i) := by
        show (match fr[i]? with | none => _ | some f => _) = _
        rw [hf]
      rw [this]
    | some f =>
      rw [clock_succ hf]
      split
      · exact clock_sig t _ _
      · split
        · rw [clock_sig t, set_sig (f' := f.rest) hf rfl]
        · rfl
/-- each full frame is one of these, as it was. -/
def SubF (fr' fr : List Fr) : Prop := ∀ (j : Nat) (f' : Fr), fr'[j]? = some f' → f'.full = true → ∃ f, fr[j]? = some f ∧ f.full = true ∧ f.n = f'.n ∧ f.k = f'.k ∧ f.b = f'.b ∧ f.pins = f'.pins
theorem SubF.refl (fr : List Fr) : SubF fr fr := fun _ f' h1 h2 => ⟨f', h1, h2, rfl, rfl, rfl, rfl⟩
theorem SubF.of_sig {fr fr' : List Fr} (e : fr'.map sig = fr.map sig) : SubF fr' fr := fun j f' h1 h2 => by
  obtain ⟨g, g1, g2, g3, g4, g5, g6, -⟩ := sig_at e.symm h1
  exact ⟨g, g1, by rw [g2]; exact h2, g3, g4, g5, g6⟩
theorem SubF.set0 {fr fr' : List Fr} (h : SubF fr' fr) (i : Nat) : SubF (fr'.set i fr0) fr := fun j f' h1 h2 => by
  by_cases e : i = j
  · subst e
    by_cases hi : i < fr'.length
    · rw [List.getElem?_set_self hi] at h1; cases h1; cases h2
    · rw [List.getElem?_eq_none (by rw [List.length_set]; omega)] at h1; cases h1
  · rw [List.getElem?_set_ne e] at h1
    exact h j f' h1 h2
theorem len_sig {fr fr' : List Fr} (e : fr'.map sig = fr.map sig) : fr'.length = fr.length := by simpa using congrArg List.length e
/-- a frame that is taken is empty. -/
theorem take_gen (Q : Pm) (S : Dk) (hh : Q.hand < Q.fr.length) : (Q.take S).Q.fr.length = Q.fr.length ∧ ((Q.take S).e = 0 → ∃ f, (Q.take S).Q.fr[(Q.take S).i]? = some f ∧ f.full = false) ∧ SubF (Q.take S).Q.fr Q.fr ∧ (Q.take S).Q.mf = Q.mf ∧ (Q.take S).Q.mp = Q.mp := by
  cases hfr : Q.free with
  | some i =>
    have e : Q.take S = ⟨i, 0, Q, S⟩ := by unfold Pm.take; rw [hfr]
    rw [e]
    obtain ⟨f, h1, h2, -⟩ := free_some hfr
    exact ⟨rfl, fun _ => ⟨f, h1, h2⟩, SubF.refl _, rfl, rfl⟩
  | none =>
    have e : Q.take S = takeC Q S (clock (2 * Q.fr.length) Q.fr Q.hand).1 (clock (2 * Q.fr.length) Q.fr Q.hand).2 := by unfold Pm.take; rw [hfr]
    have h1 := clock_sig (2 * Q.fr.length) Q.fr Q.hand
    have h2 := clock_lt (2 * Q.fr.length) Q.fr Q.hand hh
    rw [e]
    obtain ⟨X, hX⟩ : ∃ X, X = clock (2 * Q.fr.length) Q.fr Q.hand := ⟨_, rfl⟩
    rw [← hX] at h1 h2 ⊢
    obtain ⟨f1, i⟩ := X
    simp only [] at h1 h2 ⊢
    have hl := len_sig h1
    have hf : f1[i]? = some (f1[i]'(by omega)) := List.getElem?_eq_getElem (by omega)
    have hb := (backP_sig f1 S i).trans h1
    unfold takeC
    rw [hf]
    dsimp only
    split
    · exact ⟨hl, (fun h => by cases h), SubF.of_sig h1, rfl, rfl⟩
    · split
      · split
        · next h3 => exact ⟨len_sig hb, fun h => absurd h h3, SubF.of_sig hb, rfl, rfl⟩
        · refine ⟨by rw [List.length_set]; exact len_sig hb, fun _ => ⟨fr0, List.getElem?_set_self (by rw [len_sig hb]; exact h2), rfl⟩, (SubF.of_sig hb).set0 i, rfl, rfl⟩
      · exact ⟨by rw [List.length_set]; exact hl, fun _ => ⟨fr0, List.getElem?_set_self (by omega), rfl⟩, (SubF.of_sig h1).set0 i, rfl, rfl⟩
theorem at_none_of {Q : Pm} {n : List UInt8} {k : Int} (h : ∀ (j : Nat) (g : Fr), Q.fr[j]? = some g → g.full = true → g.n = n → g.k = k → False) : Q.at n k = none := by
  unfold Pm.at
  rw [List.findIdx?_eq_none_iff]
  intro g hg
  obtain ⟨j, hj, e⟩ := List.mem_iff_getElem.1 hg
  cases hb : isP n k g with
  | false => rfl
  | true =>
    unfold isP at hb
    have h3 : g.full = true ∧ g.n = n ∧ g.k = k := by simpa using hb
    exact (h j g (by rw [List.getElem?_eq_getElem hj, e]) h3.1 h3.2.1 h3.2.2).elim
theorem SubF.at_none {Q Q' : Pm} {n : List UInt8} {k : Int} (hs : SubF Q'.fr Q.fr) (h : Q.at n k = none) : Q'.at n k = none :=
  at_none_of fun j g h1 h2 h3 h4 => by
    obtain ⟨f, f1, f2, f3, f4, -⟩ := hs j g h1 h2
    exact Go.Proofs.Ytkfokgjpeaibpaa.at_none h j f f1 f2 (f3.trans h3) (f4.trans h4)
section
variable {w w' : World} {B d p g mb nm pf : Nat} {o : Own1} {P : Pl} {S : Dk} {c : Con} {n : List UInt8} {Q : Pm}
/-- one frame's cells but its page are turned. -/
theorem PoS.upd (h : PoS w B o d p g mb Q) (hg : w.grownBy w' (some g)) {i : Nat} {x x' : Fr} (hx : Q.fr[i]? = some x) (hb : Blk w' g 77 ((Q.fr.set i x').flatMap Fr.enc).toArray) (e1 : x'.full = x.full) (e2 : x'.n = x.n) (e3 : x'.k = x.k) (hx' : FrB w' B o p g mb x') :
    PoOut o w B d p g mb { Q with fr := Q.fr.set i x' } w' := by
  obtain ⟨wh, h⟩ := h
  obtain ⟨hi, hxe⟩ := List.getElem?_eq_some_iff.1 hx
  have h1 := h.put hg (i := i) (x := x') hi hb (by show _ = (Q.fr[i]).full; rw [hxe]; exact e1) (by show _ = (Q.fr[i]).n; rw [hxe]; exact e2) (by show _ = (Q.fr[i]).k; rw [hxe]; exact e3) hx'
  refine ⟨⟨wh, ?_⟩, Ch.of_gr hg fun k e => by cases e; exact (po_ne noO p g mb).2.1⟩
  have hn : heldN Fr.full (Q.fr.set i x') = heldN Fr.full Q.fr := by
    have := heldN_set Fr.full (y := x') hx
    rw [e1] at this
    omega
  show PoR w' B o d p g mb _ (heldN Fr.full (Q.fr.set i x'))
  rw [hn]
  exact h1
theorem PoS.usedUp (h : PoS w B o d p g mb Q) {i : Nat} {x : Fr} (hx : Q.fr[i]? = some x) : PoOut o w B d p g mb { Q with fr := Q.fr.modify i Fr.usedUp } (w.setCell ⟨g, i * 7 + 6, none⟩ (.bool true)) := by
  have hb := h.cellsOk i x hx
  obtain ⟨hi, hxe⟩ := List.getElem?_eq_some_iff.1 hx
  have hg5 := gr_setCell w ⟨g, i * 7 + 6, none⟩ (.bool true)
  have hfr : Blk w g 77 (Q.fr.flatMap Fr.enc).toArray := by obtain ⟨wh, h⟩ := h; exact h.fr
  have b3 := Blk.setFr hfr hi (j := 6) (by omega) (x' := x.usedUp) (v := .bool true) (by rw [hxe]; rfl)
  have hx5 : FrB w B o p g mb x.usedUp := ⟨hb.rd, hb.off, hb.len⟩
  have := h.upd hg5 hx b3 rfl rfl rfl (hx5.far hg5 fun q e => (hx5.off q e).2.2.1)
  rw [modify_eq hx]
  exact this
/-- a page comes into a frame that is empty. -/
theorem pofill_any (h : PoS w B o d p g mb Q) {i : Nat} {x f : Fr} (hx : Q.fr[i]? = some x) (h0 : x.full = false) (hf : FrB w B o p g mb f) (hk : okK f.n f.k) (hn : Q.at f.n f.k = none) :
    Calls Try.prog 41 #[.pointer (some ⟨p, 0, none⟩), .int .i64 i, .agg #[.bool false, .string ⟨f.n.toArray⟩, .int .i64 f.k, f.bv, .int .i64 f.pins, .bool f.dirty, .bool f.used]] w fun e w' => e = .returned (.tuple #[]) ∧ PoOut o w B d p g mb (Q.fill i f) w' := by
  obtain ⟨wh, h⟩ := h
  obtain ⟨hi, hxe⟩ := List.getElem?_eq_some_iff.1 hx
  have hl := heldN_le Fr.full Q.fr
  have hl2 : Q.fr.length ≤ 4096 := h.lim.2.1
  refine (fill_any h (i := i) hi (by show (Q.fr[i]).full = false; rw [hxe]; exact h0) hf hk (by show wh ⟨f.n, f.k, hk⟩ = none; rw [wh_at h hk]; exact hn) (by omega)).mono ?_
  rintro e w' ⟨rfl, h1, h2⟩
  refine ⟨rfl, ⟨fun z => if z = pkey f hk then some i else wh z, ?_⟩, h2⟩
  · have hn : heldN Fr.full (Q.fr.set i { f with full := true }) = heldN Fr.full Q.fr + 1 := by
      have := heldN_set Fr.full (y := { f with full := true }) hx
      rw [h0, if_neg (by simp), if_pos rfl] at this
      omega
    show PoR w' B o d p g mb _ (heldN Fr.full (Q.fr.set i { f with full := true }))
    rw [hn]
    exact h1
end
end Go.Proofs.Ytkfokgjpeaibpaa

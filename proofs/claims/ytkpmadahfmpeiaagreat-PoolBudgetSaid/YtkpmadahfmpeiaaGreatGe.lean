/-
  What stands beside a disk, and stays.
-/
import Derived.Test.YtkpmadahfmpeiaaGreatRg
import Derived.Test.YtkpmadahfmpeiaaGreatGd
namespace Go.Proofs.YtkpmadahfmpeiaaGreat
open Go.RowKit
set_option maxRecDepth 100000

/-- memory of the call's own that is none of the disk's. -/
structure Kp (o : Own1) (w : World) (B s : Nat) (v : Value) (n : Nat) (xs : List Value) : Prop where
  own : Go.Proofs.YtkpmadahfmpeiaaGreat.Own w B s v n xs
  off : ∀ k, blk v = some k → o k = none
section
variable {w0 w w1 w' : World} {d B s n : Nat} {o o' : Own1} {S : Dk} {v : Value} {xs : List Value}
theorem Kp.new (h : DA w0 d o S w1) (hk : Own w w1.heap.size s v n xs) (hs : 0 < s) : Kp o w w1.heap.size s v n xs := ⟨hk, fun _ e => h.fresh (Own.blk_lt hk hs e).1⟩
theorem Kp.ext (h : Kp o w B s v n xs) (g : w.grownBy w' none) : Kp o w' B s v n xs := ⟨h.own.ext g, h.off⟩
theorem Kp.ch (h : Kp o w B s v n xs) (c : Ch o w o' w') (hs : 0 < s) : Kp o' w' B s v n xs := ⟨c.own h.own hs h.off, fun k e => c.free k (Own.blk_lt h.own hs e).2 (h.off k e)⟩
/-- what came in stays, whatever is done to disks of the call's own. -/
theorem Kp.mono (h : Kp o w B s v n xs) {B' : Nat} (hB : B' ≤ B) : Kp o w B' s v n xs := ⟨h.own.mono hB, h.off⟩
end
end Go.Proofs.YtkpmadahfmpeiaaGreat

/- A pool and its disk, seen from an older world. -/
namespace Go.Proofs.YtkpmadahfmpeiaaGreat
open Go.RowKit Go.Maps
set_option maxRecDepth 100000
set_option maxHeartbeats 400000

/-! what stays small -/
theorem Sm.pwrite {S : Dk} {a b : Nat} (h : Sm S a b) (n : List UInt8) (k : Int) (m : List UInt8) : Sm (S.pwrite n k m).1 a (b + 256) := by
  have hb := h.mono (a' := a) (b' := b + 256) (Nat.le_refl _) (by omega)
  unfold Dk.pwrite
  split
  · exact hb
  · split
    · exact hb
    · split
      · exact hb
      · split
        · exact hb
        · next h1 _ _ =>
          have := h.write n (k * 256) (pagB (crcS n) k.toNat m)
          rwa [pagB_len (by omega)] at this
theorem Sm.putL {n : List UInt8} : ∀ (l : List Nat) (fr : List Fr) (S : Dk) (a b : Nat), Sm S a b → Sm (Go.Proofs.YtkpmadahfmpeiaaGreat.putL n l fr S).S a (b + 256 * l.length)
  | [], fr, S, a, b, h => h.mono (Nat.le_refl _) (by omega)
  | i :: l, fr, S, a, b, h => by
    cases hf : fr[i]? with
    | none =>
      have : Go.Proofs.YtkpmadahfmpeiaaGreat.putL n (i :: l) fr S = ⟨fr, S, 0⟩ := by
        show (match fr[i]? with | none => _ | some f => _) = _
        rw [hf]
      rw [this]; exact h.mono (Nat.le_refl _) (by omega)
    | some f =>
      rw [putL_cons hf]
      have h1 := h.pwrite n f.k f.b
      rw [List.length_cons]
      split
      · exact h1.mono (Nat.le_refl _) (by omega)
      · exact (Sm.putL l _ _ a (b + 256) h1).mono (Nat.le_refl _) (by omega)
theorem dirtyL_len (fr : List Fr) (n : List UInt8) (a b : Int) : (dirtyL fr n a b).length ≤ fr.length := by
  unfold dirtyL
  rw [List.length_mergeSort]
  unfold dirtyIx
  exact Nat.le_trans (List.length_filter_le _ _) (by simp)
theorem Sm.backP {S : Dk} {a b : Nat} (h : Sm S a b) (fr : List Fr) (i : Nat) : Sm (Go.Proofs.YtkpmadahfmpeiaaGreat.backP fr S i).S a (b + 256 * (fr.length + 1)) := by
  have hb := h.mono (a' := a) (b' := b + 256 * (fr.length + 1)) (Nat.le_refl _) (by omega)
  unfold Go.Proofs.YtkpmadahfmpeiaaGreat.backP
  split
  · exact hb
  · next f _ =>
    split
    · exact hb
    · have := dirtyL_len fr f.n (S.pgs f.n).1 f.k
      exact (Sm.putL _ fr S a b h).mono (Nat.le_refl _) (by simp; omega)
theorem Sm.take {S : Dk} {a b : Nat} (h : Sm S a b) (Q : Pm) : Sm (Q.take S).S a (b + 256 * (Q.fr.length + 1)) := by
  have hb := h.mono (a' := a) (b' := b + 256 * (Q.fr.length + 1)) (Nat.le_refl _) (by omega)
  unfold Pm.take
  split
  · exact hb
  · have hl := clock_len (2 * Q.fr.length) Q.fr Q.hand
    obtain ⟨X, hX⟩ : ∃ X, X = clock (2 * Q.fr.length) Q.fr Q.hand := ⟨_, rfl⟩
    rw [← hX] at hl ⊢
    have h2 := h.backP X.1 X.2
    rw [hl] at h2
    unfold takeC
    split
    · exact hb
    · split
      · exact hb
      · split
        · split
          · exact h2
          · exact h2
        · exact hb
/-- where the pages lie. -/
def BvIn (fr' fr : List Fr) (B : Nat) : Prop := ∀ x ∈ fr', ∀ q, blk x.bv = some q → (∃ y ∈ fr, blk y.bv = some q) ∨ B ≤ q
theorem BvIn.refl (fr : List Fr) (B : Nat) : BvIn fr fr B := fun x hx _ hq => .inl ⟨x, hx, hq⟩
theorem BvIn.of_sig {fr fr' : List Fr} (e : fr'.map sig = fr.map sig) (B : Nat) : BvIn fr' fr B := fun x hx q hq => by
  obtain ⟨i, hi, e1⟩ := List.mem_iff_getElem.1 hx
  obtain ⟨g, g1, -, -, -, -, -, g6⟩ := sig_at e.symm (i := i) (f := x) (by rw [List.getElem?_eq_getElem hi, e1])
  exact .inl ⟨g, List.mem_of_getElem? g1, by rw [g6]; exact hq⟩
theorem BvIn.set {fr fr' : List Fr} {B : Nat} (h : BvIn fr' fr B) (i : Nat) {x : Fr} (hx : ∀ q, blk x.bv = some q → (∃ y ∈ fr, blk y.bv = some q) ∨ B ≤ q) : BvIn (fr'.set i x) fr B := fun y hy q hq => by
  rcases List.mem_or_eq_of_mem_set hy with hy | hy
  · exact h y hy q hq
  · subst hy; exact hx q hq
theorem BvIn.take (Q : Pm) (S : Dk) (B : Nat) : BvIn (Q.take S).Q.fr Q.fr B := by
  rcases take_fr Q S with e | ⟨fr1, i, e1, e2⟩
  · exact BvIn.of_sig e B
  · rw [e2]; exact (BvIn.of_sig e1 B).set i fun q e => by cases e
theorem BvIn.bring (Q : Pm) (S : Dk) (n : List UInt8) (k : Int) (v : Value) (B : Nat) (hv : ∀ q, blk v = some q → B ≤ q) : BvIn (Q.bring S n k v).Q.fr Q.fr B := by
  unfold Pm.bring
  split
  · exact BvIn.refl _ _
  · split
    · exact BvIn.refl _ _
    · split
      · exact BvIn.refl _ _
      · split
        · next i ha =>
          obtain ⟨x, x1, -⟩ := at_some ha
          show BvIn (Q.fr.modify i Fr.usedUp) Q.fr B
          rw [modify_eq x1]
          exact (BvIn.refl _ _).set i fun q e => .inl ⟨x, List.mem_of_getElem? x1, e⟩
        · unfold bringR
          split
          · exact BvIn.refl _ _
          · split
            · exact BvIn.take Q S B
            · exact (BvIn.take Q S B).set _ fun q e => .inr (hv q e)
theorem BvIn.write (Q : Pm) (S : Dk) (n : List UInt8) (k : Int) (b : List UInt8) (v : Value) (B : Nat) (hv : ∀ q, blk v = some q → B ≤ q) (hh : Q.hand < Q.fr.length) : BvIn (Q.write S n k b v).Q.fr Q.fr B := by
  unfold Pm.write
  split
  · exact BvIn.refl _ _
  · split
    · exact BvIn.refl _ _
    · split
      · exact BvIn.refl _ _
      · split
        · next i ha =>
          obtain ⟨x, x1, -⟩ := at_some ha
          show BvIn (Q.fr.modify i _) Q.fr B
          rw [modify_eq x1]
          exact (BvIn.refl _ _).set i fun q e => .inr (hv q e)
        · split
          · exact BvIn.take Q S B
          · next h5 =>
            obtain ⟨t1, t2, -⟩ := take_gen Q S hh
            obtain ⟨f, f1, f2⟩ := t2 (by simpa using h5)
            have hi := (List.getElem?_eq_some_iff.1 f1).1
            show BvIn (((Q.take S).Q.fr.set (Q.take S).i _).modify (Q.take S).i _) Q.fr B
            rw [modify_eq (List.getElem?_set_self hi)]
            exact ((BvIn.take Q S B).set _ fun q e => by cases e).set _ fun q e => .inr (hv q e)
theorem BvIn.flush (Q : Pm) (S : Dk) (n : List UInt8) (B : Nat) : BvIn (Q.flush S n).Q.fr Q.fr B := by
  unfold Pm.flush
  split
  · exact BvIn.refl _ _
  · split
    · exact BvIn.of_sig (putL_sig _ _ _) B
    · exact BvIn.of_sig (putL_sig _ _ _) B
theorem BvIn.drop (Q : Pm) (S : Dk) (n : List UInt8) (B : Nat) : BvIn (Q.drop S n).Q.fr Q.fr B := by
  unfold Pm.drop
  split
  · exact BvIn.refl _ _
  · intro x hx q hq
    obtain ⟨y, hy, rfl⟩ := List.mem_map.1 hx
    by_cases e : ofN n y = true
    · have hq' : blk (if ofN n y = true then fr0 else y).bv = some q := hq
      rw [if_pos e] at hq'; cases hq'
    · have hq' : blk (if ofN n y = true then fr0 else y).bv = some q := hq
      rw [if_neg e] at hq'
      exact .inl ⟨y, hy, hq'⟩

/-! whose a block is -/
def owF (o : Own1) (p g mb : Nat) (fr : List Fr) : Own1 := fun i => if (fr.any fun x => decide (blk x.bv = some i)) = true then some (10, []) else po o p g mb i
section
variable {o o' : Own1} {p g mb i : Nat} {fr fr' : List Fr} {w w' : World}
theorem owF_none (h : owF o p g mb fr i = none) : po o p g mb i = none ∧ ∀ x ∈ fr, blk x.bv ≠ some i := by
  unfold owF at h
  split at h
  · cases h
  · next hn =>
    refine ⟨h, fun x hx e => hn (List.any_eq_true.2 ⟨x, hx, by simpa using e⟩)⟩
theorem owF_mk (h : po o p g mb i = none) (h2 : ∀ x ∈ fr, blk x.bv ≠ some i) : owF o p g mb fr i = none := by
  unfold owF
  rw [if_neg]
  · exact h
  · intro ha
    obtain ⟨x, hx, e⟩ := List.any_eq_true.1 ha
    exact h2 x hx (by simpa using e)
theorem owF_ch (h : Ch (po o p g mb) w (po o' p g mb) w') (hb : BvIn fr' fr w.heap.size) : Ch (owF o p g mb fr) w (owF o' p g mb fr') w' :=
  ⟨h.os, h.tape, h.output, h.size, fun i hi h0 => h.block i hi (owF_none h0).1, fun i hi h0 => owF_mk (h.free i hi (owF_none h0).1) fun x hx e => by
    rcases hb x hx i e with ⟨y, hy, e2⟩ | hge
    · exact (owF_none h0).2 y hy e2
    · omega⟩
end
/-- a pool p over a disk d, seen from an older world in which nothing was their own; O: what is. -/
structure PA (w0 : World) (d p : Nat) (O : Own1) (Q : Pm) (S : Dk) (w : World) : Prop where
  ex : ∃ o c g mb, O = owF o p g mb Q.fr ∧ DI w w0.heap.size o d S c ∧ PoS w w0.heap.size o d p g mb Q
  gr : w0.grownBy w none
def PP (w0 : World) (d p : Nat) (O : Own1) (Q' : Pm) (S' : Dk) (w w' : World) : Prop := ∃ O', PA w0 d p O' Q' S' w' ∧ Ch O w O' w'
section
variable {w0 w w' w1 : World} {B d p g mb : Nat} {o O O' : Own1} {Q Q' : Pm} {S S' : Dk}
theorem PoS.low (h : PoS w B o d p g mb Q) : B ≤ p ∧ B ≤ g ∧ B ≤ mb := by obtain ⟨wh, h⟩ := h; exact h.low
theorem PA.own0 (h : PA w0 d p O Q S w) : ∀ i, O i ≠ none → w0.heap.size ≤ i ∧ i < w.heap.size := fun i hi => by
  obtain ⟨o, c, g, mb, rfl, h1, h2⟩ := h.ex
  obtain ⟨l1, l2, l3⟩ := h2.low
  rcases Nat.lt_or_ge i w0.heap.size with hlt | hge
  · exfalso
    refine hi (owF_mk (po_none_mk (by omega) (by omega) (by omega) ?_) fun x hx e => ?_)
    · cases e : o i with
      | none => rfl
      | some t => exact absurd (h1.inb i (by rw [e]; simp)).1 (by omega)
    · obtain ⟨j, hj, e1⟩ := List.mem_iff_getElem.1 hx
      have := ((h2.cellsOk j x (by rw [List.getElem?_eq_getElem hj, e1])).off i e).2.2.2.2.2
      omega
  · refine ⟨hge, ?_⟩
    rcases Nat.lt_or_ge i w.heap.size with h3 | h3
    · exact h3
    · exfalso
      refine hi (owF_mk (h2.fresh h1 h3) fun x hx e => ?_)
      obtain ⟨j, hj, e1⟩ := List.mem_iff_getElem.1 hx
      have := ((h2.cellsOk j x (by rw [List.getElem?_eq_getElem hj, e1])).off i e).2.2.2.2.1
      omega
theorem PA.fresh (h : PA w0 d p O Q S w) {i : Nat} (hi : w.heap.size ≤ i) : O i = none := by
  cases e : O i with
  | none => rfl
  | some t => exact absurd (h.own0 i (by rw [e]; simp)).2 (by omega)
theorem PA.old (h : PA w0 d p O Q S w) {i : Nat} (hi : i < w0.heap.size) : O i = none := by
  cases e : O i with
  | none => rfl
  | some t => exact absurd (h.own0 i (by rw [e]; simp)).1 (by omega)
theorem PA.ext (h : PA w0 d p O Q S w) (g : w.grownBy w1 none) : PA w0 d p O Q S w1 := by
  obtain ⟨⟨o, c, g', mb, rfl, h1, h2⟩, h3⟩ := h
  exact ⟨⟨o, c, g', mb, rfl, h1.ext g, h2.ext g⟩, gr_none h3 g⟩
/-- what is done elsewhere leaves a pool. -/
theorem PA.keep {O1 O1' : Own1} (h : PA w0 d p O Q S w) (hc : Ch O1 w O1' w') (hd : ∀ i, O i ≠ none → O1 i = none) (hg : w0.grownBy w' none) : PA w0 d p O Q S w' ∧ ∀ i, O i ≠ none → O1' i = none := by
  have hblk : ∀ i, O i ≠ none → w'.heap[i]? = w.heap[i]? := fun i hi => hc.block i (h.own0 i hi).2 (hd i hi)
  have hfree : ∀ i, O i ≠ none → O1' i = none := fun i hi => hc.free i (h.own0 i hi).2 (hd i hi)
  refine ⟨⟨?_, hg⟩, hfree⟩
  obtain ⟨o, c, g, mb, rfl, h1, wh, h2⟩ := h.ex
  have ho : ∀ i, o i ≠ none → owF o p g mb Q.fr i ≠ none := fun i hi e => hi (po_none (owF_none e).1).2.2.2
  have hp : owF o p g mb Q.fr p ≠ none := fun e => (po_none (owF_none e).1).1 rfl
  have hg2 : owF o p g mb Q.fr g ≠ none := fun e => (po_none (owF_none e).1).2.1 rfl
  have hm : owF o p g mb Q.fr mb ≠ none := fun e => (po_none (owF_none e).1).2.2.1 rfl
  refine ⟨o, c, g, mb, rfl, h1.keep hc.size fun i hi => hblk i (ho i hi), wh, h2.self.same (hblk p hp), h2.fr.same (hblk g hg2), h2.wh.same (hblk mb hm), h2.whi, fun x hx => ?_, h2.off, h2.low, h2.apart, h2.lim⟩
  have hb := h2.bytes x hx
  exact ⟨hb.rd.same fun q e => hblk q fun e2 => (owF_none e2).2 x hx e, fun q e => by obtain ⟨a1, a2, a3, a4, a5, a6⟩ := hb.off q e; exact ⟨a1, a2, a3, a4, Nat.lt_of_lt_of_le a5 hc.size, a6⟩, hb.len⟩
theorem PA.out {o : Own1} {g mb : Nat} (h : PA w0 d p (owF o p g mb Q.fr) Q S w) (hd : PdOut o w w0.heap.size d p g mb Q' S' w') (hb : BvIn Q'.fr Q.fr w.heap.size) : PP w0 d p (owF o p g mb Q.fr) Q' S' w w' := by
  obtain ⟨o', c', h1, h2, hc⟩ := hd
  have hch := owF_ch hc hb
  exact ⟨_, ⟨⟨o', c', g, mb, rfl, h1, h2⟩, hch.gr h.gr fun i hi => (h.own0 i hi).1⟩, hch⟩
theorem PA.lim (h : PA w0 d p O Q S w) : 1 ≤ Q.fr.length ∧ Q.fr.length ≤ 4096 ∧ Q.hand < Q.fr.length ∧ Q.mf ≤ 4096 ∧ Q.mp ≤ 4096 := by
  obtain ⟨o, c, g, mb, rfl, h1, h2⟩ := h.ex; exact h2.lim
variable {n : List UInt8}
theorem PA.create (h : PA w0 d p O Q S w) (hn : n.length ≤ 1000000000) (hfl : S.fs.length ≤ 1000000) :
    Calls Tryz.prog 45 #[.pointer (some ⟨p, 0, none⟩), .string ⟨n.toArray⟩] w fun e w' => e = .returned (.int .i64 (S.create n).2) ∧ PP w0 d p O Q (S.create n).1 w w' := by
  obtain ⟨o, c, g, mb, rfl, h1, h2⟩ := h.ex
  exact (pocreates_any h1 h2 hn hfl).mono fun e w' ⟨e1, k⟩ => ⟨e1, h.out k (BvIn.refl _ _)⟩
theorem PA.pages (h : PA w0 d p O Q S w) (hn : n.length ≤ 1000000000) : Calls Tryz.prog 20 #[.pointer (some ⟨p, 0, none⟩), .string ⟨n.toArray⟩] w (PagesOut w (Q.pages S n)) := by
  obtain ⟨o, c, g, mb, rfl, h1, h2⟩ := h.ex
  exact popages_any h1 h2 hn
theorem PA.read (h : PA w0 d p O Q S w) (hn : n.length ≤ 1000000000) {kk : Int} (hk : -9223372036854775808 ≤ kk ∧ kk ≤ 9223372036854775807) (hlo : lowF 1000000000 Q.fr) (hfl : S.fs.length ≤ 1000000) (hnl : S.nl ≤ 1000000000000) :
    Calls Tryz.prog 21 #[.pointer (some ⟨p, 0, none⟩), .string ⟨n.toArray⟩, .int .i64 kk] w fun e w' => ∃ v vb, e = .returned (.tuple #[vb, .int .i64 (Q.read S n kk v).e]) ∧ OwnB w' w.heap.size vb (Q.read S n kk v).b ∧ ∃ O', PA w0 d p O' (Q.read S n kk v).Q (Q.read S n kk v).S w' ∧ Ch O w O' w' ∧ ∀ q, vb.ownBlock = some q → O' q = none := by
  obtain ⟨o, c, g, mb, rfl, h1, h2⟩ := h.ex
  refine (poread_any h1 h2 hn hk hlo hfl hnl).mono ?_
  rintro e w' ⟨v, vb, w1, hv, e1, ho, g1, hz, k⟩
  obtain ⟨O', k1, k2⟩ := h.out k (by
    have : (Q.read S n kk v).Q = (Q.bring S n kk v).Q := by unfold Pm.read; split <;> rfl
    rw [this]
    exact BvIn.bring Q S n _ v _ hv)
  exact ⟨v, vb, e1, Own.mono ho hz, O', k1.ext g1, k2.trans (Ch.ext g1), fun q e => k1.fresh (Own.lt ho q e)⟩
end
end Go.Proofs.YtkpmadahfmpeiaaGreat

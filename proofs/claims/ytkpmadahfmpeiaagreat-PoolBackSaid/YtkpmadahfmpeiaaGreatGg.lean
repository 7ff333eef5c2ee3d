/-
  What stands beside a disk, and stays.
-/
import Derived.Test.YtkpmadahfmpeiaaGreatRg
import Derived.Test.YtkpmadahfmpeiaaGreatGd
namespace Go.Proofs.YtkpmadahfmpeiaaGreat
open Go.RowKit
set_option maxRecDepth 100000

/-- memory of the call's own that is none of the disk's. -/
structure Kp (o : Own1) (w : World) (B s : Nat) (v : Value) (n : Nat) (xs : List Value) : Prop where
  own : Go.Proofs.YtkpmadahfmpeiaaGreat.Own w B s v n xs
  off : ∀ k, blk v = some k → o k = none
section
variable {w0 w w1 w' : World} {d B s n : Nat} {o o' : Own1} {S : Dk} {v : Value} {xs : List Value}
theorem Kp.new (h : DA w0 d o S w1) (hk : Own w w1.heap.size s v n xs) (hs : 0 < s) : Kp o w w1.heap.size s v n xs := ⟨hk, fun _ e => h.fresh (Own.blk_lt hk hs e).1⟩
theorem Kp.ext (h : Kp o w B s v n xs) (g : w.grownBy w' none) : Kp o w' B s v n xs := ⟨h.own.ext g, h.off⟩
theorem Kp.ch (h : Kp o w B s v n xs) (c : Ch o w o' w') (hs : 0 < s) : Kp o' w' B s v n xs := ⟨c.own h.own hs h.off, fun k e => c.free k (Own.blk_lt h.own hs e).2 (h.off k e)⟩
/-- what came in stays, whatever is done to disks of the call's own. -/
theorem Kp.mono (h : Kp o w B s v n xs) {B' : Nat} (hB : B' ≤ B) : Kp o w B' s v n xs := ⟨h.own.mono hB, h.off⟩
end
end Go.Proofs.YtkpmadahfmpeiaaGreat

/- A pool and its disk, seen from an older world. -/
namespace Go.Proofs.YtkpmadahfmpeiaaGreat
open Go.RowKit Go.Maps
set_option maxRecDepth 100000
set_option maxHeartbeats 400000

/-! what stays small -/
theorem Sm.pwrite {S : Dk} {a b : Nat} (h : Sm S a b) (n : List UInt8) (k : Int) (m : List UInt8) : Sm (S.pwrite n k m).1 a (b + 256) := by
  have hb := h.mono (a' := a) (b' := b + 256) (Nat.le_refl _) (by omega)
  unfold Dk.pwrite
  split
  · exact hb
  · split
    · exact hb
    · split
      · exact hb
      · split
        · exact hb
        · next h1 _ _ =>
          have := h.write n (k * 256) (pagB (crcS n) k.toNat m)
          rwa [pagB_len (by omega)] at this
theorem Sm.putL {n : List UInt8} : ∀ (l : List Nat) (fr : List Fr) (S : Dk) (a b : Nat), Sm S a b → Sm (Go.Proofs.YtkpmadahfmpeiaaGreat.putL n l fr S).S a (b + 256 * l.length)
  | [], fr, S, a, b, h => h.mono (Nat.le_refl _) (by omega)
  | i :: l, fr, S, a, b, h => by
    cases hf : fr[i]? with
    | none =>
      have : Go.Proofs.YtkpmadahfmpeiaaGreat.putL n (i :: l) fr S = ⟨fr, S, 0⟩ := by
        show (match fr[i]? with | none => _ | some f => _) = _
        rw [hf]
      rw [this]; exact h.mono (Nat.le_refl _) (by omega)
    | some f =>
      rw [putL_cons hf]
      have h1 := h.pwrite n f.k f.b
      rw [List.length_cons]
      split
      · exact h1.mono (Nat.le_refl _) (by omega)
      · exact (Sm.putL l _ _ a (b + 256) h1).mono (Nat.le_refl _) (by omega)
theorem dirtyL_len (fr : List Fr) (n : List UInt8) (a b : Int) : (dirtyL fr n a b).length ≤ fr.length := by
  unfold dirtyL
  rw [List.length_mergeSort]
  unfold dirtyIx
  exact Nat.le_trans (List.length_filter_le _ _) (by simp)
theorem Sm.backP {S : Dk} {a b : Nat} (h : Sm S a b) (fr : List Fr) (i : Nat) : Sm (Go.Proofs.YtkpmadahfmpeiaaGreat.backP fr S i).S a (b + 256 * (fr.length + 1)) := by
  have hb := h.mono (a' := a) (b' := b + 256 * (fr.length + 1)) (Nat.le_refl _) (by omega)
  unfold Go.Proofs.YtkpmadahfmpeiaaGreat.backP
  split
  · exact hb
  · next f _ =>
    split
    · exact hb
    · have := dirtyL_len fr f.n (S.pgs f.n).1 f.k
      exact (Sm.putL _ fr S a b h).mono (Nat.le_refl _) (by simp; omega)
theorem Sm.take {S : Dk} {a b : Nat} (h : Sm S a b) (Q : Pm) : Sm (Q.take S).S a (b + 256 * (Q.fr.length + 1)) := by
  have hb := h.mono (a' := a) (b' := b + 256 * (Q.fr.length + 1)) (Nat.le_refl _) (by omega)
  unfold Pm.take
  split
  · exact hb
  · have hl := clock_len (2 * Q.fr.length) Q.fr Q.hand
    obtain ⟨X, hX⟩ : ∃ X, X = clock (2 * Q.fr.length) Q.fr Q.hand := ⟨_, rfl⟩
    rw [← hX] at hl ⊢
    have h2 := h.backP X.1 X.2
    rw [hl] at h2
    unfold takeC
    split
    · exact hb
    · split
      · exact hb
      · split
        · split
          · exact h2
          · exact h2
        · exact hb
/-- where the pages lie. -/
def BvIn (fr' fr : List Fr) (B : Nat) : Prop := ∀ x ∈ fr', ∀ q, blk x.bv = some q → (∃ y ∈ fr, blk y.bv = some q) ∨ B ≤ q
theorem BvIn.refl (fr : List Fr) (B : Nat) : BvIn fr fr B := fun x hx _ hq => .inl ⟨x, hx, hq⟩
theorem BvIn.of_sig {fr fr' : List Fr} (e : fr'.map sig = fr.map sig) (B : Nat) : BvIn fr' fr B := fun x hx q hq => by
  obtain ⟨i, hi, e1⟩ := List.mem_iff_getElem.1 hx
  obtain ⟨g, g1, -, -, -, -, -, g6⟩ := sig_at e.symm (i := i) (f := x) (by rw [List.getElem?_eq_getElem hi, e1])
  exact .inl ⟨g, List.mem_of_getElem? g1, by rw [g6]; exact hq⟩
theorem BvIn.set {fr fr' : List Fr} {B : Nat} (h : BvIn fr' fr B) (i : Nat) {x : Fr} (hx : ∀ q, blk x.bv = some q → (∃ y ∈ fr, blk y.bv = some q) ∨ B ≤ q) : BvIn (fr'.set i x) fr B := fun y hy q hq => by
  rcases List.mem_or_eq_of_mem_set hy with hy | hy
  · exact h y hy q hq
  · subst hy; exact hx q hq
theorem BvIn.take (Q : Pm) (S : Dk) (B : Nat) : BvIn (Q.take S).Q.fr Q.fr B := by
  rcases take_fr Q S with e | ⟨fr1, i, e1, e2⟩
  · exact BvIn.of_sig e B
  · rw [e2]; exact (BvIn.of_sig e1 B).set i fun q e => by cases e
theorem BvIn.bring (Q : Pm) (S : Dk) (n : List UInt8) (k : Int) (v : Value) (B : Nat) (hv : ∀ q, blk v = some q → B ≤ q) : BvIn (Q.bring S n k v).Q.fr Q.fr B := by
  unfold Pm.bring
  split
  · exact BvIn.refl _ _
  · split
    · exact BvIn.refl _ _
    · split
      · exact BvIn.refl _ _
      · split
        · next i ha =>
          obtain ⟨x, x1, -⟩ := at_some ha
          show BvIn (Q.fr.modify i Fr.usedUp) Q.fr B
          rw [modify_eq x1]
          exact (BvIn.refl _ _).set i fun q e => .inl ⟨x, List.mem_of_getElem? x1, e⟩
        · unfold bringR
          split
          · exact BvIn.refl _ _
          · split
            · exact BvIn.take Q S B
            · exact (BvIn.take Q S B).set _ fun q e => .inr (hv q e)
theorem BvIn.write (Q : Pm) (S : Dk) (n : List UInt8) (k : Int) (b : List UInt8) (v : Value) (B : Nat) (hv : ∀ q, blk v = some q → B ≤ q) (hh : Q.hand < Q.fr.length) : BvIn (Q.write S n k b v).Q.fr Q.fr B := by
  unfold Pm.write
  split
  · exact BvIn.refl _ _
  · split
    · exact BvIn.refl _ _
    · split
      · exact BvIn.refl _ _
      · split
        · next i ha =>
          obtain ⟨x, x1, -⟩ := at_some ha
          show BvIn (Q.fr.modify i _) Q.fr B
          rw [modify_eq x1]
          exact (BvIn.refl _ _).set i fun q e => .inr (hv q e)
        · split
          · exact BvIn.take Q S B
          · next h5 =>
            obtain ⟨t1, t2, -⟩ := take_gen Q S hh
            obtain ⟨f, f1, f2⟩ := t2 (by simpa using h5)
            have hi := (List.getElem?_eq_some_iff.1 f1).1
            show BvIn (((Q.take S).Q.fr.set (Q.take S).i _).modify (Q.take S).i _) Q.fr B
            rw [modify_eq (List.getElem?_set_self hi)]
            exact ((BvIn.take Q S B).set _ fun q e => by cases e).set _ fun q e => .inr (hv q e)
theorem BvIn.flush (Q : Pm) (S : Dk) (n : List UInt8) (B : Nat) : BvIn (Q.flush S n).Q.fr Q.fr B := by
  unfold Pm.flush
  split
  · exact BvIn.refl _ _
  · split
    · exact BvIn.of_sig (putL_sig _ _ _) B
    · exact BvIn.of_sig (putL_sig _ _ _) B
theorem BvIn.drop (Q : Pm) (S : Dk) (n : List UInt8) (B : Nat) : BvIn (Q.drop S n).Q.fr Q.fr B := by
  unfold Pm.drop
  split
  · exact BvIn.refl _ _
  · intro x hx q hq
    obtain ⟨y, hy, rfl⟩ := List.mem_map.1 hx
    by_cases e : ofN n y = true
    · have hq' : blk (if ofN n y = true then fr0 else y).bv = some q := hq
      rw [if_pos e] at hq'; cases hq'
    · have hq' : blk (if ofN n y = true then fr0 else y).bv = some q := hq
      rw [if_neg e] at hq'
      exact .inl ⟨y, hy, hq'⟩

/-! whose a block is -/
def owF (o : Own1) (p g mb : Nat) (fr : List Fr) : Own1 := fun i => if (fr.any fun x => decide (blk x.bv = some i)) = true then some (10, []) else po o p g mb i
section
variable {o o' : Own1} {p g mb i : Nat} {fr fr' : List Fr} {w w' : World}
theorem owF_none (h : owF o p g mb fr i = none) : po o p g mb i = none ∧ ∀ x ∈ fr, blk x.bv ≠ some i := by
  unfold owF at h
  split at h
  · cases h
  · next hn =>
    refine ⟨h, fun x hx e => hn (List.any_eq_true.2 ⟨x, hx, by simpa using e⟩)⟩
theorem owF_mk (h : po o p g mb i = none) (h2 : ∀ x ∈ fr, blk x.bv ≠ some i) : owF o p g mb fr i = none := by
  unfold owF
  rw [if_neg]
  · exact h
  · intro ha
    obtain ⟨x, hx, e⟩ := List.any_eq_true.1 ha
    exact h2 x hx (by simpa using e)
theorem owF_ch (h : Ch (po o p g mb) w (po o' p g mb) w') (hb : BvIn fr' fr w.heap.size) : Ch (owF o p g mb fr) w (owF o' p g mb fr') w' :=
  ⟨h.os, h.tape, h.output, h.size, fun i hi h0 => h.block i hi (owF_none h0).1, fun i hi h0 => owF_mk (h.free i hi (owF_none h0).1) fun x hx e => by
    rcases hb x hx i e with ⟨y, hy, e2⟩ | hge
    · exact (owF_none h0).2 y hy e2
    · omega⟩
end
/-- a pool p over a disk d, seen from an older world in which nothing was their own; O: what is. -/
structure PA (w0 : World) (d p : Nat) (O : Own1) (Q : Pm) (S : Dk) (w : World) : Prop where
  ex : ∃ o c g mb, O = owF o p g mb Q.fr ∧ DI w w0.heap.size o d S c ∧ PoS w w0.heap.size o d p g mb Q
  gr : w0.grownBy w none
def PP (w0 : World) (d p : Nat) (O : Own1) (Q' : Pm) (S' : Dk) (w w' : World) : Prop := ∃ O', PA w0 d p O' Q' S' w' ∧ Ch O w O' w'
section
variable {w0 w w' w1 : World} {B d p g mb : Nat} {o O O' : Own1} {Q Q' : Pm} {S S' : Dk}
theorem PoS.low (h : PoS w B o d p g mb Q) : B ≤ p ∧ B ≤ g ∧ B ≤ mb := by obtain ⟨wh, h⟩ := h; exact h.low
theorem PA.own0 (h : PA w0 d p O Q S w) : ∀ i, O i ≠ none → w0.heap.size ≤ i ∧ i < w.heap.size := fun i hi => by
  obtain ⟨o, c, g, mb, rfl, h1, h2⟩ := h.ex
  obtain ⟨l1, l2, l3⟩ := h2.low
  rcases Nat.lt_or_ge i w0.heap.size with hlt | hge
  · exfalso
    refine hi (owF_mk (po_none_mk (by omega) (by omega) (by omega) ?_) fun x hx e => ?_)
    · cases e : o i with
      | none => rfl
      | some t => exact absurd (h1.inb i (by rw [e]; simp)).1 (by omega)
    · obtain ⟨j, hj, e1⟩ := List.mem_iff_getElem.1 hx
      have := ((h2.cellsOk j x (by rw [List.getElem?_eq_getElem hj, e1])).off i e).2.2.2.2.2
      omega
  · refine ⟨hge, ?_⟩
    rcases Nat.lt_or_ge i w.heap.size with h3 | h3
    · exact h3
    · exfalso
      refine hi (owF_mk (h2.fresh h1 h3) fun x hx e => ?_)
      obtain ⟨j, hj, e1⟩ := List.mem_iff_getElem.1 hx
      have := ((h2.cellsOk j x (by rw [List.getElem?_eq_getElem hj, e1])).off i e).2.2.2.2.1
      omega
theorem PA.fresh (h : PA w0 d p O Q S w) {i : Nat} (hi : w.heap.size ≤ i) : O i = none := by
  cases e : O i with
  | none => rfl
  | some t => exact absurd (h.own0 i (by rw [e]; simp)).2 (by omega)
theorem PA.old (h : PA w0 d p O Q S w) {i : Nat} (hi : i < w0.heap.size) : O i = none := by
  cases e : O i with
  | none => rfl
  | some t => exact absurd (h.own0 i (by rw [e]; simp)).1 (by omega)
theorem PA.ext (h : PA w0 d p O Q S w) (g : w.grownBy w1 none) : PA w0 d p O Q S w1 := by
  obtain ⟨⟨o, c, g', mb, rfl, h1, h2⟩, h3⟩ := h
  exact ⟨⟨o, c, g', mb, rfl, h1.ext g, h2.ext g⟩, gr_none h3 g⟩
/-- what is done elsewhere leaves a pool. -/
theorem PA.keep {O1 O1' : Own1} (h : PA w0 d p O Q S w) (hc : Ch O1 w O1' w') (hd : ∀ i, O i ≠ none → O1 i = none) (hg : w0.grownBy w' none) : PA w0 d p O Q S w' ∧ ∀ i, O i ≠ none → O1' i = none := by
  have hblk : ∀ i, O i ≠ none → w'.heap[i]? = w.heap[i]? := fun i hi => hc.block i (h.own0 i hi).2 (hd i hi)
  have hfree : ∀ i, O i ≠ none → O1' i = none := fun i hi => hc.free i (h.own0 i hi).2 (hd i hi)
  refine ⟨⟨?_, hg⟩, hfree⟩
  obtain ⟨o, c, g, mb, rfl, h1, wh, h2⟩ := h.ex
  have ho : ∀ i, o i ≠ none → owF o p g mb Q.fr i ≠ none := fun i hi e => hi (po_none (owF_none e).1).2.2.2
  have hp : owF o p g mb Q.fr p ≠ none := fun e => (po_none (owF_none e).1).1 rfl
  have hg2 : owF o p g mb Q.fr g ≠ none := fun e => (po_none (owF_none e).1).2.1 rfl
  have hm : owF o p g mb Q.fr mb ≠ none := fun e => (po_none (owF_none e).1).2.2.1 rfl
  refine ⟨o, c, g, mb, rfl, h1.keep hc.size fun i hi => hblk i (ho i hi), wh, h2.self.same (hblk p hp), h2.fr.same (hblk g hg2), h2.wh.same (hblk mb hm), h2.whi, fun x hx => ?_, h2.off, h2.low, h2.apart, h2.lim⟩
  have hb := h2.bytes x hx
  exact ⟨hb.rd.same fun q e => hblk q fun e2 => (owF_none e2).2 x hx e, fun q e => by obtain ⟨a1, a2, a3, a4, a5, a6⟩ := hb.off q e; exact ⟨a1, a2, a3, a4, Nat.lt_of_lt_of_le a5 hc.size, a6⟩, hb.len⟩
theorem PA.out {o : Own1} {g mb : Nat} (h : PA w0 d p (owF o p g mb Q.fr) Q S w) (hd : PdOut o w w0.heap.size d p g mb Q' S' w') (hb : BvIn Q'.fr Q.fr w.heap.size) : PP w0 d p (owF o p g mb Q.fr) Q' S' w w' := by
  obtain ⟨o', c', h1, h2, hc⟩ := hd
  have hch := owF_ch hc hb
  exact ⟨_, ⟨⟨o', c', g, mb, rfl, h1, h2⟩, hch.gr h.gr fun i hi => (h.own0 i hi).1⟩, hch⟩
theorem PA.lim (h : PA w0 d p O Q S w) : 1 ≤ Q.fr.length ∧ Q.fr.length ≤ 4096 ∧ Q.hand < Q.fr.length ∧ Q.mf ≤ 4096 ∧ Q.mp ≤ 4096 := by
  obtain ⟨o, c, g, mb, rfl, h1, h2⟩ := h.ex; exact h2.lim
variable {n : List UInt8}
theorem PA.create (h : PA w0 d p O Q S w) (hn : n.length ≤ 1000000000) (hfl : S.fs.length ≤ 1000000) :
    Calls Tryz.prog 45 #[.pointer (some ⟨p, 0, none⟩), .string ⟨n.toArray⟩] w fun e w' => e = .returned (.int .i64 (S.create n).2) ∧ PP w0 d p O Q (S.create n).1 w w' := by
  obtain ⟨o, c, g, mb, rfl, h1, h2⟩ := h.ex
  exact (pocreates_any h1 h2 hn hfl).mono fun e w' ⟨e1, k⟩ => ⟨e1, h.out k (BvIn.refl _ _)⟩
theorem PA.pages (h : PA w0 d p O Q S w) (hn : n.length ≤ 1000000000) : Calls Tryz.prog 20 #[.pointer (some ⟨p, 0, none⟩), .string ⟨n.toArray⟩] w (PagesOut w (Q.pages S n)) := by
  obtain ⟨o, c, g, mb, rfl, h1, h2⟩ := h.ex
  exact popages_any h1 h2 hn
theorem PA.read (h : PA w0 d p O Q S w) (hn : n.length ≤ 1000000000) {kk : Int} (hk : -9223372036854775808 ≤ kk ∧ kk ≤ 9223372036854775807) (hlo : lowF 1000000000 Q.fr) (hfl : S.fs.length ≤ 1000000) (hnl : S.nl ≤ 1000000000000) :
    Calls Tryz.prog 21 #[.pointer (some ⟨p, 0, none⟩), .string ⟨n.toArray⟩, .int .i64 kk] w fun e w' => ∃ v vb, e = .returned (.tuple #[vb, .int .i64 (Q.read S n kk v).e]) ∧ OwnB w' w.heap.size vb (Q.read S n kk v).b ∧ ∃ O', PA w0 d p O' (Q.read S n kk v).Q (Q.read S n kk v).S w' ∧ Ch O w O' w' ∧ ∀ q, vb.ownBlock = some q → O' q = none := by
  obtain ⟨o, c, g, mb, rfl, h1, h2⟩ := h.ex
  refine (poread_any h1 h2 hn hk hlo hfl hnl).mono ?_
  rintro e w' ⟨v, vb, w1, hv, e1, ho, g1, hz, k⟩
  obtain ⟨O', k1, k2⟩ := h.out k (by
    have : (Q.read S n kk v).Q = (Q.bring S n kk v).Q := by unfold Pm.read; split <;> rfl
    rw [this]
    exact BvIn.bring Q S n _ v _ hv)
  exact ⟨v, vb, e1, Own.mono ho hz, O', k1.ext g1, k2.trans (Ch.ext g1), fun q e => k1.fresh (Own.lt ho q e)⟩
end
end Go.Proofs.YtkpmadahfmpeiaaGreat

/- A pool and its disk, seen from an older world: the other operations. -/
namespace Go.Proofs.YtkpmadahfmpeiaaGreat
open Go.RowKit Go.Maps
set_option maxRecDepth 100000
set_option maxHeartbeats 400000

section
variable {w0 w w' w1 : World} {B d p g mb : Nat} {o O O' : Own1} {Q Q' : Pm} {S S' : Dk} {n : List UInt8}
theorem PA.write (h : PA w0 d p O Q S w) (hn : n.length ≤ 1000000000) {k : Int} (hk : -9223372036854775808 ≤ k ∧ k ≤ 9223372036854775807) (hlo : lowF 1000000000 Q.fr) (hfl : S.fs.length ≤ 1000000) (hnl : S.nl ≤ 1000000000000)
    {bv : Value} {b : List UInt8} (hb : RdB w bv b) (hbo : ∀ q, blk bv = some q → q < w.heap.size ∧ O q = none) (hbl : b.length ≤ 1000000000) :
    Calls Tryz.prog 46 #[.pointer (some ⟨p, 0, none⟩), .string ⟨n.toArray⟩, .int .i64 k, bv] w fun e w' => ∃ v, e = .returned (.int .i64 (Q.write S n k b v).e) ∧ PP w0 d p O (Q.write S n k b v).Q (Q.write S n k b v).S w w' := by
  have hh := h.lim.2.2.1
  obtain ⟨o, c, g, mb, rfl, h1, h2⟩ := h.ex
  refine (powrite_any h1 h2 hn hk hlo hfl hnl hb (fun q e => ⟨(hbo q e).1, (owF_none (hbo q e).2).1⟩) hbl).mono ?_
  rintro e w' ⟨v, hv, e1, hd⟩
  exact ⟨v, e1, h.out hd (BvIn.write Q S n k b v _ hv hh)⟩
theorem PA.pin (h : PA w0 d p O Q S w) (hn : n.length ≤ 1000000000) {k : Int} (hk : -9223372036854775808 ≤ k ∧ k ≤ 9223372036854775807) (hlo : lowF 1000000000 Q.fr) (hlp : lowP 1000000000 Q.fr) (hfl : S.fs.length ≤ 1000000) (hnl : S.nl ≤ 1000000000000) :
    Calls Tryz.prog 47 #[.pointer (some ⟨p, 0, none⟩), .string ⟨n.toArray⟩, .int .i64 k] w fun e w' => ∃ v vb, e = .returned (.tuple #[vb, .int .i64 (Q.pin S n k v).e]) ∧ OwnB w' w.heap.size vb (Q.pin S n k v).b ∧ ∃ O', PA w0 d p O' (Q.pin S n k v).Q (Q.pin S n k v).S w' ∧ Ch O w O' w' ∧ ∀ q, vb.ownBlock = some q → O' q = none := by
  have hh := h.lim.2.2.1
  obtain ⟨o, c, g, mb, rfl, h1, h2⟩ := h.ex
  refine (popin_any h1 h2 hn hk hlo hlp hfl hnl).mono ?_
  rintro e w' ⟨v, vb, w1, hv, e1, ho, g1, hz, hd⟩
  have hbv : BvIn (Q.pin S n k v).Q.fr Q.fr w.heap.size := by
    have hB := BvIn.bring Q S n k v _ hv
    unfold Pm.pin
    split
    · exact hB
    · next h5 =>
      obtain ⟨f, f1, f2⟩ := (bring_gen Q S n k v hh).1 (by simpa using h5)
      show BvIn ((Q.bring S n k v).Q.fr.modify (Q.bring S n k v).i _) Q.fr _
      rw [modify_eq f1]
      exact hB.set _ fun q e => hB f (List.mem_of_getElem? f1) q e
  obtain ⟨O', k1, k2⟩ := h.out hd hbv
  exact ⟨v, vb, e1, Own.mono ho hz, O', k1.ext g1, k2.trans (Ch.ext g1), fun q e => k1.fresh (Own.lt ho q e)⟩
theorem PA.unpin (h : PA w0 d p O Q S w) (hn : n.length ≤ 1000000000) {k : Int} (hk : -9223372036854775808 ≤ k ∧ k ≤ 9223372036854775807) :
    Calls Tryz.prog 49 #[.pointer (some ⟨p, 0, none⟩), .string ⟨n.toArray⟩, .int .i64 k] w fun e w' => e = .returned (.int .i64 (Q.unpin n k).2) ∧ PP w0 d p O (Q.unpin n k).1 S w w' := by
  obtain ⟨o, c, g, mb, rfl, h1, h2⟩ := h.ex
  refine (pounpin_any h2 hn hk).mono ?_
  rintro e w' ⟨e1, ho⟩
  refine ⟨e1, h.out (ho.pd h1 h2) ?_⟩
  unfold Pm.unpin
  split
  · exact BvIn.refl _ _
  · next i ha =>
    split
    · exact BvIn.refl _ _
    · obtain ⟨x, x1, -⟩ := at_some ha
      show BvIn (Q.fr.modify i _) Q.fr _
      rw [modify_eq x1]
      exact (BvIn.refl _ _).set i fun q e => .inl ⟨x, List.mem_of_getElem? x1, e⟩
theorem PA.flush (h : PA w0 d p O Q S w) (hn : n.length ≤ 1000000000) (hfl : S.fs.length ≤ 1000000) (hnl : S.nl ≤ 1000000000000) :
    Calls Tryz.prog 16 #[.pointer (some ⟨p, 0, none⟩), .string ⟨n.toArray⟩] w fun e w' => e = .returned (.int .i64 (Q.flush S n).e) ∧ PP w0 d p O (Q.flush S n).Q (Q.flush S n).S w w' := by
  obtain ⟨o, c, g, mb, rfl, h1, h2⟩ := h.ex
  exact (poflush_any h1 h2 hn hfl hnl).mono fun e w' ⟨e1, k⟩ => ⟨e1, h.out k (BvIn.flush Q S n _)⟩
theorem PA.drop (h : PA w0 d p O Q S w) (hn : n.length ≤ 1000000000) :
    Calls Tryz.prog 42 #[.pointer (some ⟨p, 0, none⟩), .string ⟨n.toArray⟩] w fun e w' => e = .returned (.int .i64 (Q.drop S n).e) ∧ PP w0 d p O (Q.drop S n).Q (Q.drop S n).S w w' := by
  obtain ⟨o, c, g, mb, rfl, h1, h2⟩ := h.ex
  exact (podrop_any h1 h2 hn).mono fun e w' ⟨e1, k⟩ => ⟨e1, h.out k (BvIn.drop Q S n _)⟩
theorem PA.held (h : PA w0 d p O Q S w) : Calls Tryz.prog 41 #[.pointer (some ⟨p, 0, none⟩)] w fun e w' =>
    e = .returned (.tuple #[.int .i64 (heldN Fr.full Q.fr), .int .i64 (heldN (fun f => decide (0 < f.pins)) Q.fr), .int .i64 (heldN Fr.dirty Q.fr)]) ∧ w.grownBy w' none := by
  obtain ⟨o, c, g, mb, rfl, h1, h2⟩ := h.ex
  exact poheld_any h2
def pm0 (m : Nat) : Pm := ⟨List.replicate m fr0, 0, 0, 0⟩
theorem pm0_at (m i : Nat) (f : Fr) (h : (pm0 m).fr[i]? = some f) : f = fr0 := by
  have := List.mem_of_getElem? h
  exact (List.mem_replicate.1 this).2
theorem heldN_pm0 (m : Nat) : heldN Fr.full (pm0 m).fr = 0 := by
  unfold heldN
  rw [List.filter_eq_nil_iff.2]
  · rfl
  · intro a ha
    rw [(List.mem_replicate.1 ha).2]; simp [fr0]
theorem DA.ponew (h : DA w0 d o S w) (m : Nat) (h1 : 1 ≤ m) (hm : m ≤ 4096) :
    Calls Tryz.prog 11 #[.pointer (some ⟨d, 0, none⟩), .int .i64 m] w fun e w' => ∃ p O, e = .returned (.tuple #[.pointer (some ⟨p, 0, none⟩), .int .i64 0]) ∧ PA w0 d p O (pm0 m) S w' ∧ Ch o w O w' := by
  obtain ⟨⟨c, h2⟩, h3⟩ := h
  refine (ponew_lo h2 m h1 hm).mono ?_
  rintro e w' ⟨p, g, mb, rfl, k1, k2, k3, k4, k5⟩
  refine ⟨p, owF o p g mb (pm0 m).fr, rfl, ⟨⟨o, c, g, mb, rfl, h2.ext k2, fun _ => none, ?_⟩, gr_none h3 k2⟩, ?_⟩
  · show PoR w' w0.heap.size o d p g mb ((pm0 m).pl fun _ => none) (heldN Fr.full (pm0 m).fr)
    rw [heldN_pm0]
    exact k1
  · refine ⟨k2.os, k2.tape, k2.output, k2.size, fun i hi h0 => k2.block i hi (by simp), fun i hi h0 => owF_mk (po_none_mk (by omega) (by omega) (by omega) h0) fun x hx e => ?_⟩
    rw [(List.mem_replicate.1 hx).2] at e
    cases e
end
end Go.Proofs.YtkpmadahfmpeiaaGreat

/- A pool without pins over a disk with room, in memory: it holds files of pages. -/
namespace Go.Proofs.YtkpmadahfmpeiaaGreat
open Go.RowKit Go.Maps
set_option maxRecDepth 100000
set_option maxHeartbeats 400000

structure Sz (m : Nat) (Q : Pm) (S : Dk) : Prop where
  sm : Sm S m (20000 * m)
  len : Q.fr.length ≤ 64
  low : lowF 10000 Q.fr
section
variable {q m : Nat} {Q : Pm} {S : Dk} {F : List Fz} {n : List UInt8}
theorem Sz.more (h : Sz m Q S) {m' : Nat} (hm : m ≤ m') : Sz m' Q S := ⟨h.sm.mono hm (by omega), h.len, h.low⟩
theorem bring_sm (h : Sz m Q S) (n : List UInt8) (k : Int) (v : Value) : Sm (Q.bring S n k v).S (m + 1) (20000 * (m + 1)) := by
  have hb := h.sm.mono (a' := m + 1) (b' := 20000 * (m + 1)) (by omega) (by omega)
  have ht := (h.sm.take Q).mono (a' := m + 1) (b' := 20000 * (m + 1)) (by omega) (by have := h.len; omega)
  unfold Pm.bring
  split
  · exact hb
  · split
    · exact hb
    · split
      · exact hb
      · split
        · exact hb
        · unfold bringR
          split
          · exact hb
          · split
            · exact ht
            · exact ht
theorem ab_klen (h : Ab q m Q S F) {k : Int} (he : aErr F n = 0) (hk : k ≤ ((aPg F n).length : Int)) : k ≤ 10000 := by
  obtain ⟨G, hG, rfl⟩ := h.ex
  obtain ⟨x, hx, -, hp⟩ := aErr_some hG he
  rw [hp] at hk
  have := hG.pages_le hx
  have := hG.total.2
  omega
theorem read_eq (Q : Pm) (S : Dk) (n : List UInt8) (k : Int) (v : Value) : (Q.read S n k v).Q = (Q.bring S n k v).Q ∧ (Q.read S n k v).S = (Q.bring S n k v).S ∧ (Q.read S n k v).e = (Q.bring S n k v).e := by
  unfold Pm.read
  split
  · exact ⟨rfl, rfl, rfl⟩
  · next h => exact ⟨rfl, rfl, by simpa using (by simpa using h : (Q.bring S n k v).e = 0).symm⟩
theorem Sz.read (h : Sz m Q S) (ha : Ab q m Q S F) (n : List UInt8) (k : Int) (v : Value) : Sz (m + 1) (Q.read S n k v).Q (Q.read S n k v).S := by
  obtain ⟨e1, e2, e3⟩ := read_eq Q S n k v
  obtain ⟨-, r2, -⟩ := ha.read n k v
  obtain ⟨-, -, g3, g4⟩ := bring_gen Q S n k v ha.hand
  rw [e1, e2]
  refine ⟨bring_sm h n k v, by rw [g4]; exact h.len, g3 10000 (by omega) h.low ?_⟩
  by_cases h0 : (Q.bring S n k v).e = 0
  · left
    rw [← e3, r2] at h0
    unfold aRead at h0
    split at h0
    · next h1 => exact absurd h0 h1
    · next h1 =>
      split at h0
      · cases h0
      · split at h0
        · cases h0
        · exact ab_klen ha (by simpa using h1) (by omega)
  · exact .inr h0
theorem Sz.write (h : Sz m Q S) (ha : Ab q m Q S F) (n : List UInt8) (k : Int) (b : List UInt8) (v : Value) : Sz (m + 1) (Q.write S n k b v).Q (Q.write S n k b v).S := by
  have hb := h.more (m' := m + 1) (by omega)
  have ht := (h.sm.take Q).mono (a' := m + 1) (b' := 20000 * (m + 1)) (by omega) (by have := h.len; omega)
  have hpg := ha.pages n
  obtain ⟨t1, t2, -⟩ := take_gen Q S ha.hand
  unfold Pm.write
  split
  · exact hb
  · split
    · exact hb
    · next h1 =>
      split
      · exact hb
      · next h2 =>
        have hk : k ≤ 10000 := by
          rw [hpg] at h1 h2
          rw [not_or] at h2
          exact ab_klen ha (by simpa using h1) (by have := h2.2; simp only [] at this; omega)
        split
        · next i hat =>
          obtain ⟨x, x1, -⟩ := at_some hat
          refine ⟨hb.sm, ?_, ?_⟩
          · show (Q.fr.modify i _).length ≤ 64
            rw [modify_eq x1, List.length_set]; exact h.len
          · show lowF 10000 (Q.fr.modify i _)
            rw [modify_eq x1]
            exact h.low.set i (h.low i x x1)
        · split
          · exact ⟨ht, by rw [t1]; exact h.len, h.low.take (by omega) S⟩
          · next h5 =>
            obtain ⟨f, f1, f2⟩ := t2 (by simpa using h5)
            have hi := (List.getElem?_eq_some_iff.1 f1).1
            refine ⟨ht, ?_, ?_⟩
            · show (((Q.take S).Q.fr.set (Q.take S).i _).modify (Q.take S).i _).length ≤ 64
              rw [modify_eq (List.getElem?_set_self hi), List.length_set, List.length_set, t1]; exact h.len
            · show lowF 10000 (((Q.take S).Q.fr.set (Q.take S).i _).modify (Q.take S).i _)
              rw [modify_eq (List.getElem?_set_self hi)]
              exact ((h.low.take (by omega) S).set _ hk).set _ hk
theorem Sz.flush (h : Sz m Q S) (n : List UInt8) : Sz (m + 1) (Q.flush S n).Q (Q.flush S n).S := by
  have hb := h.more (m' := m + 1) (by omega)
  have hl := dirtyL_len Q.fr n 0 16777216
  have hp := (Sm.putL (n := n) (dirtyL Q.fr n 0 16777216) Q.fr S m (20000 * m) h.sm).mono (a' := m + 1) (b' := 20000 * (m + 1)) (by omega) (by have := h.len; omega)
  have hs := putL_sig (n := n) (dirtyL Q.fr n 0 16777216) Q.fr S
  unfold Pm.flush
  split
  · exact hb
  · split
    · exact ⟨hp, by rw [len_sig hs]; exact h.len, h.low.sig hs⟩
    · exact ⟨hp.sync n, by rw [len_sig hs]; exact h.len, h.low.sig hs⟩
theorem Sz.create (h : Sz m Q S) (n : List UInt8) : Sz (m + 1) Q (S.create n).1 := ⟨(h.sm.create n).mono (by omega) (by omega), h.len, h.low⟩
theorem Sm.removed {S : Dk} {a b : Nat} (h : Sm S a b) (n : List UInt8) : Sm (S.removed n) a b := by
  refine ⟨Nat.le_trans (List.length_filter_le _ _) h.fl, h.nl, fun s k hl => ?_⟩
  have hl2 : (S.loose s k && !(s == n)) = true := hl
  simp at hl2
  obtain ⟨f, h1, h2⟩ := h.li s k hl2.1
  refine ⟨f, ?_, h2⟩
  show (butF S.fs n).find? _ = _
  rw [butF_find, if_neg hl2.2]
  exact h1
theorem Sm.remove {S : Dk} {a b : Nat} (h : Sm S a b) (n : List UInt8) : Sm (S.remove n).1 a b := by
  unfold Dk.remove
  split
  · exact h.begin
  · split
    · exact h.begin
    · cases S.find n with
      | none => exact h.begin
      | some f => exact h.begin.removed n
theorem Sz.drop (h : Sz m Q S) (n : List UInt8) : Sz (m + 1) (Q.drop S n).Q (Q.drop S n).S := by
  unfold Pm.drop
  split
  · exact h.more (by omega)
  · refine ⟨(h.sm.remove n).mono (by omega) (by omega), by show (Q.fr.map _).length ≤ 64; rw [List.length_map]; exact h.len, fun i f hf => ?_⟩
    have hf2 : (Q.fr.map fun f => if ofN n f then fr0 else f)[i]? = some f := hf
    rw [List.getElem?_map] at hf2
    cases hq : Q.fr[i]? with
    | none => rw [hq] at hf2; cases hf2
    | some g =>
      rw [hq] at hf2
      have : (if ofN n g then fr0 else g) = f := by simpa using hf2
      subst this
      split
      · simp [fr0]
      · exact h.low i g hq
end
/-- files of pages F, those in L flushed, m things done. -/
def PF (w0 : World) (d p : Nat) (O : Own1) (F : List Fz) (L : List (List UInt8)) (m : Nat) (w : World) : Prop := ∃ Q S, PA w0 d p O Q S w ∧ Ab 65536 m Q S F ∧ Sz m Q S ∧ ∀ s ∈ L, Flushed Q S s
def PFn (w0 : World) (d p : Nat) (O : Own1) (F : List Fz) (L : List (List UInt8)) (m : Nat) (w w' : World) : Prop := ∃ O', PF w0 d p O' F L m w' ∧ Ch O w O' w'
section
variable {w0 w w' w1 : World} {d p m : Nat} {O : Own1} {F : List Fz} {L : List (List UInt8)} {n : List UInt8}
theorem PF.gr (h : PF w0 d p O F L m w) : w0.grownBy w none := by obtain ⟨Q, S, h1, -⟩ := h; exact h1.gr
theorem PF.ext (h : PF w0 d p O F L m w) (g : w.grownBy w1 none) : PF w0 d p O F L m w1 := by obtain ⟨Q, S, h1, h2⟩ := h; exact ⟨Q, S, h1.ext g, h2⟩
theorem PF.fresh (h : PF w0 d p O F L m w) {i : Nat} (hi : w.heap.size ≤ i) : O i = none := by obtain ⟨Q, S, h1, -⟩ := h; exact h1.fresh hi
theorem PF.old (h : PF w0 d p O F L m w) {i : Nat} (hi : i < w0.heap.size) : O i = none := by obtain ⟨Q, S, h1, -⟩ := h; exact h1.old hi
theorem PF.pages (h : PF w0 d p O F L m w) (hn : n.length ≤ 1000000000) : Calls Tryz.prog 20 #[.pointer (some ⟨p, 0, none⟩), .string ⟨n.toArray⟩] w fun e w' => e = .returned (.tuple #[.int .i64 ((aPg F n).length : Int), .int .i64 (aErr F n)]) ∧ w.grownBy w' none := by
  obtain ⟨Q, S, h1, h2, -⟩ := h
  have := h1.pages hn
  rw [h2.pages n] at this
  exact this
theorem PF.read (h : PF w0 d p O F L m w) (hm : m ≤ 9000) (hn : n.length ≤ 1000000000) {k : Int} (hk : -9223372036854775808 ≤ k ∧ k ≤ 9223372036854775807) :
    Calls Tryz.prog 21 #[.pointer (some ⟨p, 0, none⟩), .string ⟨n.toArray⟩, .int .i64 k] w fun e w' => ∃ vb, e = .returned (.tuple #[vb, .int .i64 (aRead F n k).2]) ∧ OwnB w' w.heap.size vb (aRead F n k).1 ∧ ∃ O', PF w0 d p O' F [] (m + 1) w' ∧ Ch O w O' w' ∧ ∀ q, vb.ownBlock = some q → O' q = none := by
  obtain ⟨Q, S, h1, h2, h3, -⟩ := h
  refine (h1.read hn hk (fun i f hf => by have := h3.low i f hf; omega) (by have := h3.sm.fl; omega) (by have := h3.sm.nl; omega)).mono ?_
  rintro e w' ⟨v, vb, rfl, ho, O', k1, k2, k3⟩
  obtain ⟨r1, r2, r3⟩ := h2.read n k v
  rw [r1] at ho
  rw [r2]
  exact ⟨vb, rfl, ho, O', ⟨_, _, k1, r3.more ⟨by omega, by omega⟩, h3.read h2 n k v, fun s hs => by cases hs⟩, k2, k3⟩
theorem PF.write (h : PF w0 d p O F L m w) (hm : m ≤ 9000) (hn : n.length ≤ 1000000000) {k : Int} (hk : -9223372036854775808 ≤ k ∧ k ≤ 9223372036854775807) {bv : Value} {b : List UInt8} (hb : RdB w bv b) (hbo : ∀ q, blk bv = some q → q < w.heap.size ∧ O q = none) (hbl : b.length ≤ 1000000000) :
    Calls Tryz.prog 46 #[.pointer (some ⟨p, 0, none⟩), .string ⟨n.toArray⟩, .int .i64 k, bv] w fun e w' => e = .returned (.int .i64 (aWrite F n k b).2) ∧ PFn w0 d p O (aWrite F n k b).1 [] (m + 1) w w' := by
  obtain ⟨Q, S, h1, h2, h3, -⟩ := h
  refine (h1.write hn hk (fun i f hf => by have := h3.low i f hf; omega) (by have := h3.sm.fl; omega) (by have := h3.sm.nl; omega) hb hbo hbl).mono ?_
  rintro e w' ⟨v, rfl, O', k1, k2⟩
  obtain ⟨r1, r2⟩ := h2.write n k b v (by omega)
  rw [r1]
  exact ⟨rfl, O', ⟨_, _, k1, r2, h3.write h2 n k b v, fun s hs => by cases hs⟩, k2⟩
theorem PF.create (h : PF w0 d p O F L m w) (hm : m ≤ 9000) (hn : n.length ≤ 1000000000) :
    Calls Tryz.prog 45 #[.pointer (some ⟨p, 0, none⟩), .string ⟨n.toArray⟩] w fun e w' => e = .returned (.int .i64 (aCreate F n).2) ∧ PFn w0 d p O (aCreate F n).1 [] (m + 1) w w' := by
  obtain ⟨Q, S, h1, h2, h3, -⟩ := h
  refine (h1.create hn (by have := h3.sm.fl; omega)).mono ?_
  rintro e w' ⟨rfl, O', k1, k2⟩
  obtain ⟨r1, r2⟩ := h2.create n
  rw [r1]
  exact ⟨rfl, O', ⟨_, _, k1, r2.more ⟨by omega, by omega⟩, h3.create n, fun s hs => by cases hs⟩, k2⟩
theorem PF.drop (h : PF w0 d p O F L m w) (hm : m ≤ 9000) (hn : n.length ≤ 1000000000) :
    Calls Tryz.prog 42 #[.pointer (some ⟨p, 0, none⟩), .string ⟨n.toArray⟩] w fun e w' => e = .returned (.int .i64 (aDrop F n).2) ∧ PFn w0 d p O (aDrop F n).1 [] (m + 1) w w' := by
  obtain ⟨Q, S, h1, h2, h3, -⟩ := h
  refine (h1.drop hn).mono ?_
  rintro e w' ⟨rfl, O', k1, k2⟩
  obtain ⟨r1, r2⟩ := h2.drop n
  rw [r1]
  exact ⟨rfl, O', ⟨_, _, k1, r2.more ⟨by omega, by omega⟩, h3.drop n, fun s hs => by cases hs⟩, k2⟩
theorem PF.flush (h : PF w0 d p O F L m w) (hm : m ≤ 9000) (hn : n.length ≤ 1000000000) :
    Calls Tryz.prog 16 #[.pointer (some ⟨p, 0, none⟩), .string ⟨n.toArray⟩] w fun e w' => e = .returned (.int .i64 (aErr F n)) ∧ PFn w0 d p O F (if aErr F n = 0 then n :: L else L) (m + 1) w w' := by
  obtain ⟨Q, S, h1, h2, h3, h4⟩ := h
  refine (h1.flush hn (by have := h3.sm.fl; omega) (by have := h3.sm.nl; omega)).mono ?_
  rintro e w' ⟨rfl, O', k1, k2⟩
  obtain ⟨r1, r2, r3, r4⟩ := h2.flush n
  rw [r1]
  refine ⟨rfl, O', ⟨_, _, k1, r2.more ⟨by omega, by omega⟩, h3.flush n, ?_⟩, k2⟩
  by_cases he : aErr F n = 0
  · rw [if_pos he]
    intro s hs
    by_cases e : s = n
    · subst e; exact r3 he
    · exact r4 s e (h4 s ((List.mem_cons.1 hs).resolve_left e))
  · rw [if_neg he]
    intro s hs
    by_cases e : s = n
    · subst e
      obtain ⟨G, hG, rfl⟩ := h2.ex
      have hnone : ∀ x ∈ G, x.fi.name ≠ s := by
        rcases fg_cases hG s with ⟨x, hx, rfl, hr, hf⟩ | ⟨hno, -⟩
        · exact absurd (by unfold aErr; rw [hf, hr]; rfl) he
        · exact hno
      have : Q.flush S s = ⟨(S.pgs s).2, Q, S⟩ := by
        unfold Pm.flush
        rw [if_pos]
        rw [pgs_none hG hnone]
        show (if rightB s = false then 1 else 3) ≠ 0
        split <;> simp
      rw [this]
      exact h4 s hs
    · exact r4 s e (h4 s hs)
/-- a new pool over a new disk. -/
theorem ab_newQ (q l : Nat) (h : 1 ≤ l) (m : Nat) (hm : m ≤ 10000 ∧ 4 * m + 4 ≤ q) : Ab q m (pm0 l) (newD q) [] := by
  refine ⟨⟨[], ⟨newD_idle _, rfl, rfl, by simp, (fun x hx => by cases hx), ⟨by simp [sumP], hm⟩, fun i f hf h1 => ?_, fun i f hf h1 => ?_, fun i j f g hf hg h1 => ?_⟩, rfl⟩, by show 0 < (List.replicate l fr0).length; rw [List.length_replicate]; exact h, fun i f hf => by rw [pm0_at l i f hf]; rfl⟩
  · rw [pm0_at l i f hf] at h1; cases h1
  · rw [pm0_at l i f hf]; rfl
  · rw [pm0_at l i f hf] at h1; cases h1
theorem ab_new (l : Nat) (h : 1 ≤ l) (m : Nat) (hm : m ≤ 10000) : Ab 65536 m (pm0 l) (newD 65536) [] := ab_newQ 65536 l h m (by omega)
theorem sz_new (l : Nat) (h : l ≤ 64) {q : Nat} : Sz 0 (pm0 l) (newD q) :=
  ⟨Sm.new _, by show (List.replicate l fr0).length ≤ 64; rw [List.length_replicate]; exact h, fun i f hf => by rw [pm0_at l i f hf]; simp [fr0]⟩
theorem PF.new {o : Own1} (h : DA w0 d o (newD 65536) w) (l : Nat) (h1 : 1 ≤ l) (hl : l ≤ 64) :
    Calls Tryz.prog 11 #[.pointer (some ⟨d, 0, none⟩), .int .i64 l] w fun e w' => ∃ p O, e = .returned (.tuple #[.pointer (some ⟨p, 0, none⟩), .int .i64 0]) ∧ PF w0 d p O [] [] 0 w' ∧ Ch o w O w' :=
  (h.ponew l h1 (by omega)).mono fun _ _ ⟨p, O, e, k1, k2⟩ => ⟨p, O, e, ⟨_, _, k1, ab_new l h1 0 (by omega), sz_new l hl, fun s hs => by cases hs⟩, k2⟩
end
end Go.Proofs.YtkpmadahfmpeiaaGreat

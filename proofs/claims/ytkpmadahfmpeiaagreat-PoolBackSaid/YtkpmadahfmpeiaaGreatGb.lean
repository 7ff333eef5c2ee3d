/-
  pool, any of it: Read, Pin, Unpin.
-/
import Derived.Test.YtkpmadahfmpeiaaGreatGa
namespace Go.Proofs.YtkpmadahfmpeiaaGreat
open Go.RowKit Go.Maps
set_option maxRecDepth 100000
set_option maxHeartbeats 400000

def lowP (a : Nat) (fr : List Fr) : Prop := ∀ (i : Nat) (f : Fr), fr[i]? = some f → f.pins ≤ a
theorem lowP.sig {a : Nat} {fr fr' : List Fr} (h : lowP a fr) (e : fr'.map sig = fr.map sig) : lowP a fr' := fun i f hf => by
  obtain ⟨g, g1, -, -, -, -, g6, -⟩ := sig_at e.symm hf
  rw [← g6]; exact h i g g1
theorem lowP.set {a : Nat} {fr : List Fr} (h : lowP a fr) (i : Nat) {x : Fr} (hx : x.pins ≤ a) : lowP a (fr.set i x) := fun j f hf => by
  by_cases e : i = j
  · subst e
    by_cases hi : i < fr.length
    · rw [List.getElem?_set_self hi] at hf; cases hf; exact hx
    · rw [List.getElem?_eq_none (by rw [List.length_set]; omega)] at hf; cases hf
  · rw [List.getElem?_set_ne e] at hf
    exact h j f hf
theorem lowF.sig {a : Int} {fr fr' : List Fr} (h : lowF a fr) (e : fr'.map sig = fr.map sig) : lowF a fr' := fun i f hf => by
  obtain ⟨g, g1, -, -, g4, -⟩ := sig_at e.symm hf
  rw [← g4]; exact h i g g1
theorem lowF.set {a : Int} {fr : List Fr} (h : lowF a fr) (i : Nat) {x : Fr} (hx : x.k ≤ a) : lowF a (fr.set i x) := fun j f hf => by
  by_cases e : i = j
  · subst e
    by_cases hi : i < fr.length
    · rw [List.getElem?_set_self hi] at hf; cases hf; exact hx
    · rw [List.getElem?_eq_none (by rw [List.length_set]; omega)] at hf; cases hf
  · rw [List.getElem?_set_ne e] at hf
    exact h j f hf
theorem take_fr (Q : Pm) (S : Dk) : (Q.take S).Q.fr.map sig = Q.fr.map sig ∨ ∃ (fr1 : List Fr) (i : Nat), fr1.map sig = Q.fr.map sig ∧ (Q.take S).Q.fr = fr1.set i fr0 := by
  cases hfr : Q.free with
  | some i =>
    have e : Q.take S = ⟨i, 0, Q, S⟩ := by unfold Pm.take; rw [hfr]
    rw [e]; exact .inl rfl
  | none =>
    have e : Q.take S = takeC Q S (clock (2 * Q.fr.length) Q.fr Q.hand).1 (clock (2 * Q.fr.length) Q.fr Q.hand).2 := by unfold Pm.take; rw [hfr]
    have h1 := clock_sig (2 * Q.fr.length) Q.fr Q.hand
    rw [e]
    obtain ⟨X, hX⟩ : ∃ X, X = clock (2 * Q.fr.length) Q.fr Q.hand := ⟨_, rfl⟩
    rw [← hX] at h1 ⊢
    obtain ⟨f1, i⟩ := X
    simp only [] at h1 ⊢
    have hb := (backP_sig f1 S i).trans h1
    unfold takeC
    cases hf : f1[i]? with
    | none => exact .inl rfl
    | some f =>
      dsimp only
      split
      · exact .inl h1
      · split
        · split
          · exact .inl hb
          · exact .inr ⟨_, i, hb, rfl⟩
        · exact .inr ⟨_, i, h1, rfl⟩
theorem lowP.take {a : Nat} {Q : Pm} (h : lowP a Q.fr) (S : Dk) : lowP a (Q.take S).Q.fr := by
  rcases take_fr Q S with e | ⟨fr1, i, e1, e2⟩
  · exact h.sig e
  · rw [e2]; exact (h.sig e1).set i (Nat.zero_le _)
theorem lowF.take {a : Int} (ha : 0 ≤ a) {Q : Pm} (h : lowF a Q.fr) (S : Dk) : lowF a (Q.take S).Q.fr := by
  rcases take_fr Q S with e | ⟨fr1, i, e1, e2⟩
  · exact h.sig e
  · rw [e2]; exact (h.sig e1).set i ha
/-- what bring leaves: a frame that is there. -/
theorem bring_gen (Q : Pm) (S : Dk) (n : List UInt8) (k : Int) (v : Value) (hh : Q.hand < Q.fr.length) : ((Q.bring S n k v).e = 0 → ∃ f, (Q.bring S n k v).Q.fr[(Q.bring S n k v).i]? = some f ∧ f.full = true) ∧ (∀ a, lowP a Q.fr → lowP a (Q.bring S n k v).Q.fr) ∧
    (∀ a, 0 ≤ a → lowF a Q.fr → (k ≤ a ∨ (Q.bring S n k v).e ≠ 0) → lowF a (Q.bring S n k v).Q.fr) ∧ (Q.bring S n k v).Q.fr.length = Q.fr.length := by
  have hbad : ∀ e : Nat, e ≠ 0 → Q.bring S n k v = ⟨0, e, Q, S⟩ → ((Q.bring S n k v).e = 0 → ∃ f, (Q.bring S n k v).Q.fr[(Q.bring S n k v).i]? = some f ∧ f.full = true) ∧ (∀ a, lowP a Q.fr → lowP a (Q.bring S n k v).Q.fr) ∧
      (∀ a, 0 ≤ a → lowF a Q.fr → (k ≤ a ∨ (Q.bring S n k v).e ≠ 0) → lowF a (Q.bring S n k v).Q.fr) ∧ (Q.bring S n k v).Q.fr.length = Q.fr.length := fun e he hb => by
    rw [hb]
    exact ⟨fun h => absurd h he, fun a h => h, fun a _ h _ => h, rfl⟩
  by_cases h1 : (Q.pages S n).2 = 0
  · by_cases h2 : k < 0
    · exact hbad 1 (by omega) (by unfold Pm.bring; rw [if_neg (by simpa using h1), if_pos h2])
    · by_cases h3 : (Q.pages S n).1 ≤ k
      · exact hbad 3 (by omega) (by unfold Pm.bring; rw [if_neg (by simpa using h1), if_neg h2, if_pos h3])
      · cases ha : Q.at n k with
        | some i =>
          have e : Q.bring S n k v = ⟨i, 0, { Q with fr := Q.fr.modify i Fr.usedUp }, S⟩ := by unfold Pm.bring; rw [if_neg (by simpa using h1), if_neg h2, if_neg h3, ha]
          obtain ⟨x, x1, x2, -⟩ := at_some ha
          have hm := modify_eq x1 Fr.usedUp
          rw [e]
          dsimp only
          rw [hm]
          exact ⟨fun _ => ⟨x.usedUp, List.getElem?_set_self (List.getElem?_eq_some_iff.1 x1).1, x2⟩, fun a h => h.set i (h i x x1), fun a _ h _ => h.set i (h i x x1), by rw [List.length_set]⟩
        | none =>
          have e : Q.bring S n k v = bringR Q S n k v := by unfold Pm.bring; rw [if_neg (by simpa using h1), if_neg h2, if_neg h3, ha]
          by_cases h4 : (S.pread n k).2 = 0
          · obtain ⟨t1, t2, t3, -⟩ := take_gen Q S hh
            by_cases h5 : (Q.take S).e = 0
            · have e2 : Q.bring S n k v = ⟨(Q.take S).i, 0, (Q.take S).Q.fill (Q.take S).i (frR n k (S.pread n k).1 v), (Q.take S).S⟩ := by rw [e]; unfold bringR; rw [if_neg (by simpa using h4), if_neg (by simpa using h5)]
              rw [e2]
              obtain ⟨f, f1, f2⟩ := t2 h5
              exact ⟨fun _ => ⟨_, List.getElem?_set_self (List.getElem?_eq_some_iff.1 f1).1, rfl⟩, fun a h => (h.take S).set _ (Nat.zero_le _), fun a h0 h hk => (h.take h0 S).set _ (hk.resolve_right fun h => h rfl), by show ((Q.take S).Q.fr.set _ _).length = _; rw [List.length_set, t1]⟩
            · have e2 : Q.bring S n k v = ⟨0, (Q.take S).e, (Q.take S).Q, (Q.take S).S⟩ := by rw [e]; unfold bringR; rw [if_neg (by simpa using h4), if_pos h5]
              rw [e2]
              exact ⟨fun h => absurd h h5, fun a h => h.take S, fun a h0 h _ => h.take h0 S, t1⟩
          · exact hbad _ h4 (by rw [e]; unfold bringR; rw [if_pos h4])
  · exact hbad _ h1 (by unfold Pm.bring; rw [if_pos h1])
section
variable {w w' : World} {B d p g mb nm pf : Nat} {o : Own1} {S : Dk} {c : Con} {n : List UInt8} {Q : Pm}
/-- bytes, an error. -/
def ReadOut (o : Own1) (w : World) (B d p g mb : Nat) (F : Value → ReadR) (e : Ending) (w' : World) : Prop := ∃ v vb w1, (∀ q, blk v = some q → w.heap.size ≤ q) ∧ e = .returned (.tuple #[vb, .int .i64 (F v).e]) ∧ OwnB w' w1.heap.size vb (F v).b ∧ w1.grownBy w' none ∧ w.heap.size ≤ w1.heap.size ∧ PdOut o w B d p g mb (F v).Q (F v).S w1
set_option maxHeartbeats 4000000 in
theorem poread_any (h : DI w B o d S c) (hp : PoS w B o d p g mb Q) (hn : n.length ≤ 1000000000) {k : Int} (hk : -9223372036854775808 ≤ k ∧ k ≤ 9223372036854775807) (hlo : lowF 1000000000 Q.fr) (hfl : S.fs.length ≤ 1000000) (hnl : S.nl ≤ 1000000000000) :
    Calls Tryz.prog 21 #[.pointer (some ⟨p, 0, none⟩), .string ⟨n.toArray⟩, .int .i64 k] w (ReadOut o w B d p g mb (Q.read S n k)) := by
  have HBR := Lib.hid (bring_any h hp hn hk hlo hfl hnl)
  have HGN : Hid (∀ v, ((Q.bring S n k v).e = 0 → ∃ f, (Q.bring S n k v).Q.fr[(Q.bring S n k v).i]? = some f ∧ f.full = true)) := fun v => (bring_gen Q S n k v hp.lim.2.2.1).1
  have HRE : Hid (∀ v, Q.read S n k v = if (Q.bring S n k v).e ≠ 0 then ⟨[], (Q.bring S n k v).e, (Q.bring S n k v).Q, (Q.bring S n k v).S⟩ else ⟨(Q.bring S n k v).Q.bytes (Q.bring S n k v).i, 0, (Q.bring S n k v).Q, (Q.bring S n k v).S⟩) := fun v => rfl
  clear h hp hlo
  go_enter Tryz.func21, Tryz.ntmps21
  go_wp2_with fail
  refine HBR.out.mono ?_
  rintro e w1 ⟨v, hvq, rfl, o1, c1, k1, k2, k3⟩
  have HVQ := Lib.hid hvq
  clear hvq
  have hgn := HGN.out v
  have hre := HRE.out v
  obtain ⟨R, hR⟩ : ∃ R, R = Q.bring S n k v := ⟨_, rfl⟩
  rw [← hR] at hgn hre k1 k2 ⊢
  clear hR HBR HGN HRE
  obtain ⟨ri, re, RQ, RS⟩ := R
  simp only [] at hgn hre k1 k2 ⊢
  by_cases h0 : re = 0
  · subst h0
    obtain ⟨f, f1, f2⟩ := hgn rfl
    rw [if_neg (by simp)] at hre
    have hby : RQ.bytes ri = f.b := by unfold Pm.bytes; rw [f1]
    rw [hby] at hre
    have HRE := Lib.hid hre
    obtain ⟨-, s1, -⟩ := k2.selfc
    obtain ⟨hi, hfe⟩ := List.getElem?_eq_some_iff.1 f1
    obtain ⟨-, -, -, c3, -⟩ := frame_cells k2.frames hi hfe
    have hbx := k2.cellsOk ri f f1
    have hil : (ri : Int) < (RQ.fr.length : Int) := by omega
    have hl := k2.lim.2.1
    have hrd : RdB w1 f.bv f.b := hbx.rd
    have hbl := hbx.len.1
    obtain ⟨Ab, cb, hbv⟩ := hrd.form
    rw [hbv] at c3 hrd
    have HCL := Lib.hid (cloneB _ f.b w1 hrd (by omega))
    have K1 := Lib.hid k1
    have K2 := Lib.hid k2
    have K3 := Lib.hid k3
    clear hgn hre k1 k2 k3 f1 hi hfe hbx hrd hbv hby f2
    go_wp2_with fail
    refine HCL.out.mono ?_
    rintro e w2 ⟨v2, rfl, o2, g2⟩
    have O2 := Lib.hid o2
    have G2 := Lib.hid g2
    clear o2 g2 HCL
    go_wp2
    go_ret2
    refine ⟨v, v2, w1, HVQ.out, ?_⟩
    rw [HRE.out]
    exact ⟨rfl, O2.out, G2.out, K3.out.size, o1, c1, K1.out, K2.out, K3.out⟩
  · have hne : ((re : Int) != 0) = true := by rw [bne_iff_ne]; omega
    rw [if_pos h0] at hre
    have HRE := Lib.hid hre
    have K1 := Lib.hid k1
    have K2 := Lib.hid k2
    have K3 := Lib.hid k3
    clear hgn hre k1 k2 k3 h0
    go_wp2
    go_ret2
    refine ⟨v, .slice none 0 0, w1, HVQ.out, ?_⟩
    rw [HRE.out]
    exact ⟨rfl, OwnB.nil _ _, gr_refl _ _, K3.out.size, o1, c1, K1.out, K2.out, K3.out⟩
theorem ponote_any (h : PoS w B o d p g mb Q) : Calls Tryz.prog 101 #[.pointer (some ⟨p, 0, none⟩)] w fun e w' => e = .returned (.tuple #[]) ∧ PoOut o w B d p g mb Q.noted w' := by
  obtain ⟨wh, h⟩ := h
  refine (note_any h).mono ?_
  rintro e w' ⟨rfl, g1, h1⟩
  exact ⟨rfl, ⟨wh, h1⟩, Ch.of_gr g1 fun k e => by cases e; exact (po_ne noO p g mb).1⟩
theorem PoS.pinned (h : PoS w B o d p g mb Q) {i : Nat} {x : Fr} (hx : Q.fr[i]? = some x) {q : Nat} (hq : q ≤ 1000000000000) : PoOut o w B d p g mb { Q with fr := Q.fr.set i { x with pins := q } } (w.setCell ⟨g, i * 7 + 4, none⟩ (.int .i64 q)) := by
  have hb := h.cellsOk i x hx
  obtain ⟨hi, hxe⟩ := List.getElem?_eq_some_iff.1 hx
  have hg5 := gr_setCell w ⟨g, i * 7 + 4, none⟩ (.int .i64 q)
  have b3 := Blk.setFr h.frames hi (j := 4) (by omega) (x' := { x with pins := q }) (v := .int .i64 q) (by rw [hxe]; rfl)
  have hx5 : FrB w B o p g mb { x with pins := q } := ⟨hb.rd, hb.off, ⟨hb.len.1, hb.len.2.1, hq, hb.len.2.2.2⟩⟩
  exact h.upd hg5 hx b3 rfl rfl rfl (hx5.far hg5 fun q e => (hx5.off q e).2.2.1)
set_option maxHeartbeats 4000000 in
theorem popin_any (h : DI w B o d S c) (hp : PoS w B o d p g mb Q) (hn : n.length ≤ 1000000000) {k : Int} (hk : -9223372036854775808 ≤ k ∧ k ≤ 9223372036854775807) (hlo : lowF 1000000000 Q.fr) (hlp : lowP 1000000000 Q.fr) (hfl : S.fs.length ≤ 1000000) (hnl : S.nl ≤ 1000000000000) :
    Calls Tryz.prog 47 #[.pointer (some ⟨p, 0, none⟩), .string ⟨n.toArray⟩, .int .i64 k] w (ReadOut o w B d p g mb (Q.pin S n k)) := by
  have HBR := Lib.hid (bring_any h hp hn hk hlo hfl hnl)
  have HGN : Hid (∀ v, ((Q.bring S n k v).e = 0 → ∃ f, (Q.bring S n k v).Q.fr[(Q.bring S n k v).i]? = some f ∧ f.full = true) ∧ lowP 1000000000 (Q.bring S n k v).Q.fr) := fun v => ⟨(bring_gen Q S n k v hp.lim.2.2.1).1, (bring_gen Q S n k v hp.lim.2.2.1).2.1 _ hlp⟩
  have HRE : Hid (∀ v, Q.pin S n k v = if (Q.bring S n k v).e ≠ 0 then ⟨[], (Q.bring S n k v).e, (Q.bring S n k v).Q, (Q.bring S n k v).S⟩ else ⟨(Q.bring S n k v).Q.bytes (Q.bring S n k v).i, 0, (Q.bring S n k v).Q.pinUp (Q.bring S n k v).i, (Q.bring S n k v).S⟩) := fun v => rfl
  clear h hp hlo hlp
  go_enter Tryz.func47, Tryz.ntmps47
  go_wp2_with fail
  refine HBR.out.mono ?_
  rintro e w1 ⟨v, hvq, rfl, o1, c1, k1, k2, k3⟩
  have HVQ := Lib.hid hvq
  clear hvq
  obtain ⟨hgn, hlw⟩ := HGN.out v
  have hre := HRE.out v
  obtain ⟨R, hR⟩ : ∃ R, R = Q.bring S n k v := ⟨_, rfl⟩
  rw [← hR] at hgn hlw hre k1 k2 ⊢
  clear hR HBR HGN HRE
  obtain ⟨ri, re, RQ, RS⟩ := R
  simp only [] at hgn hlw hre k1 k2 ⊢
  by_cases h0 : re = 0
  · subst h0
    obtain ⟨f, f1, f2⟩ := hgn rfl
    rw [if_neg (by simp)] at hre
    have hby : RQ.bytes ri = f.b := by unfold Pm.bytes; rw [f1]
    rw [hby] at hre
    have HRE := Lib.hid hre
    have hpl := hlw ri f f1
    obtain ⟨-, s1, -⟩ := k2.selfc
    have hfz := k2.frames.frozen
    obtain ⟨hi, hfe⟩ := List.getElem?_eq_some_iff.1 f1
    obtain ⟨-, -, -, -, c4, -⟩ := frame_cells k2.frames hi hfe
    have hil : (ri : Int) < (RQ.fr.length : Int) := by omega
    have hl := k2.lim.2.1
    have hw1 : IntKind.i64.wrap ((f.pins : Int) + 1) = ((f.pins + 1 : Nat) : Int) := by rw [IntWalk.i64_in _ (by omega)]; push_cast; rfl
    have HUP := Lib.hid (k2.pinned f1 (q := f.pins + 1) (by omega))
    have hmd := modify_eq f1 fun f => { f with pins := f.pins + 1 }
    have HPU : Hid (RQ.pinUp ri = ({ RQ with fr := RQ.fr.set ri { f with pins := f.pins + 1 } } : Pm).noted) := by show _ = _; unfold Pm.pinUp; rw [hmd]
    have K1 := Lib.hid k1
    have K2 := Lib.hid k2
    have K3 := Lib.hid k3
    have HF1 := Lib.hid f1
    clear hgn hlw hre k1 k2 k3 f1 hi hfe hby f2 hmd
    obtain ⟨q, hq⟩ : ∃ q, q = f.pins + 1 := ⟨_, rfl⟩
    rw [← hq] at hw1 HUP HPU
    clear hq
    go_wp2_with fail
    generalize hW : World.setCell w1 _ _ = w2 at *
    clear hW s1 hfz c4 hw1
    obtain ⟨f2, hf2⟩ : ∃ f2, f2 = ({ f with pins := q } : Fr) := ⟨_, rfl⟩
    have HB2 : Hid (f2.b = f.b) := by show _ = _; rw [hf2]
    rw [← hf2] at HUP HPU
    have HQ2 : Hid ((RQ.fr.set ri f2)[ri]? = some f2) := List.getElem?_set_self (List.getElem?_eq_some_iff.1 HF1.out).1
    have HQL : Hid ((RQ.fr.set ri f2).length = RQ.fr.length) := List.length_set
    clear hf2
    obtain ⟨Q2, hQ2⟩ : ∃ Q2, Q2 = ({ RQ with fr := RQ.fr.set ri f2 } : Pm) := ⟨_, rfl⟩
    have HQ3 : Hid (Q2.noted.fr[ri]? = some f2 ∧ Q2.noted.fr.length = RQ.fr.length) := by rw [hQ2]; exact ⟨HQ2.out, HQL.out⟩
    rw [← hQ2] at HUP HPU
    clear hQ2 HQ2 HQL
    have HNT := Lib.hid (ponote_any HUP.out.1)
    refine HNT.out.mono ?_
    rintro e w3 ⟨rfl, u1, u2⟩
    obtain ⟨-, s1, -⟩ := u1.selfc
    obtain ⟨hi, hfe⟩ := List.getElem?_eq_some_iff.1 HQ3.out.1
    obtain ⟨-, -, -, c3, -⟩ := frame_cells u1.frames hi hfe
    have hbx := u1.cellsOk ri f2 HQ3.out.1
    rw [HQ3.out.2] at s1
    have hrd : RdB w3 f2.bv f2.b := hbx.rd
    have hbl := hbx.len.1
    obtain ⟨Ab, cb, hbv⟩ := hrd.form
    rw [hbv] at c3 hrd
    have HCL := Lib.hid (cloneB _ f2.b w3 hrd (by omega))
    have U1 := Lib.hid u1
    have U2 := Lib.hid (HUP.out.2.trans u2)
    clear u1 u2 hi hfe hbx hrd hbv HNT
    go_wp2_with fail
    refine HCL.out.mono ?_
    rintro e w4 ⟨v4, rfl, o4, g4⟩
    have O4 := Lib.hid o4
    have G4 := Lib.hid g4
    clear o4 g4 HCL
    go_wp2
    go_ret2
    refine ⟨v, v4, w3, HVQ.out, ?_⟩
    rw [HRE.out, HPU.out]
    have hcl : Ch (po noO p g mb) w1 (po noO p g mb) w3 := U2.out
    refine ⟨rfl, ?_, G4.out, Nat.le_trans K3.out.size U2.out.size, o1, c1, ?_, U1.out, K3.out.trans (po_wide hcl o1)⟩
    · have h9 := O4.out
      rw [HB2.out] at h9
      exact h9
    · obtain ⟨wh, hp2⟩ := K2.out
      exact K1.out.pool hp2 hcl
  · have hne : ((re : Int) != 0) = true := by rw [bne_iff_ne]; omega
    rw [if_pos h0] at hre
    have HRE := Lib.hid hre
    have K1 := Lib.hid k1
    have K2 := Lib.hid k2
    have K3 := Lib.hid k3
    clear hgn hre k1 k2 k3 h0 hlw
    go_wp2
    go_ret2
    refine ⟨v, .slice none 0 0, w1, HVQ.out, ?_⟩
    rw [HRE.out]
    exact ⟨rfl, OwnB.nil _ _, gr_refl _ _, K3.out.size, o1, c1, K1.out, K2.out, K3.out⟩
set_option maxHeartbeats 4000000 in
theorem pounpin_any (hp : PoS w B o d p g mb Q) (hn : n.length ≤ 1000000000) {k : Int} (hk : -9223372036854775808 ≤ k ∧ k ≤ 9223372036854775807) :
    Calls Tryz.prog 49 #[.pointer (some ⟨p, 0, none⟩), .string ⟨n.toArray⟩, .int .i64 k] w fun e w' => e = .returned (.int .i64 (Q.unpin n k).2) ∧ PoOut o w B d p g mb (Q.unpin n k).1 w' := by
  have hok : okK n k := ⟨by unfold maxLen; omega, WalkArith.wf_i64 (by omega)⟩
  have hlk := hp.look hok
  obtain ⟨s0, s1, s2, -⟩ := hp.selfc
  have hl : Q.fr.length ≤ 4096 := hp.lim.2.1
  cases hat : Q.at n k with
  | none =>
    rw [hat] at hlk
    have hlk2 : (Instr.lookup 111 (.map (some mb)) (.agg #[.string ⟨n.toArray⟩, .int .i64 k]) true).run Tryz.prog w = .ok (.tuple #[.int .i64 0, .bool false]) w := hlk
    have e : Q.unpin n k = (Q, 3) := by unfold Pm.unpin; rw [hat]
    rw [e]
    have HP := Lib.hid hp
    clear hp hok hlk hat e
    go_enter Tryz.func49, Tryz.ntmps49
    go_wp2
    go_ret
    exact ⟨rfl, HP.out, Ch.refl _ _⟩
  | some i =>
    rw [hat] at hlk
    have hlk2 : (Instr.lookup 111 (.map (some mb)) (.agg #[.string ⟨n.toArray⟩, .int .i64 k]) true).run Tryz.prog w = .ok (.tuple #[.int .i64 i, .bool true]) w := hlk
    obtain ⟨x, x1, -⟩ := at_some hat
    have hpa : Q.pinsAt i = x.pins := by unfold Pm.pinsAt; rw [x1]
    obtain ⟨hi, hxe⟩ := List.getElem?_eq_some_iff.1 x1
    obtain ⟨-, -, -, -, c4, -⟩ := frame_cells hp.frames hi hxe
    have hfz := hp.frames.frozen
    have hil : (i : Int) < (Q.fr.length : Int) := by omega
    have hxp := (hp.cellsOk i x x1).len.2.2.1
    have HP := Lib.hid hp
    by_cases h0 : x.pins = 0
    · have e : Q.unpin n k = (Q, 3) := by unfold Pm.unpin; rw [hat]; show (if Q.pinsAt i = 0 then _ else _) = _; rw [if_pos (by rw [hpa]; exact h0)]
      rw [e]
      rw [h0] at c4
      clear hp hok hlk hat e x1 hpa hi hxe h0 hxp
      go_enter Tryz.func49, Tryz.ntmps49
      go_wp2
      go_ret
      exact ⟨rfl, HP.out, Ch.refl _ _⟩
    · obtain ⟨q, hq⟩ : ∃ q, x.pins = q + 1 := ⟨x.pins - 1, by omega⟩
      have hmd := modify_eq x1 fun f => { f with pins := f.pins - 1 }
      have e : Q.unpin n k = ({ Q with fr := Q.fr.set i { x with pins := q } }, 0) := by
        unfold Pm.unpin
        rw [hat]
        show (if Q.pinsAt i = 0 then _ else _) = _
        rw [if_neg (by rw [hpa]; exact h0), hmd, hq]; rfl
      rw [e]
      rw [hq] at c4
      have hne : ¬ (((q + 1 : Nat) : Int) = 0) := by omega
      have hw1 : IntKind.i64.wrap (((q + 1 : Nat) : Int) - 1) = (q : Int) := by rw [show ((q + 1 : Nat) : Int) - 1 = (q : Int) from by push_cast; omega, IntWalk.i64_in _ (by omega)]
      have HUP := Lib.hid (HP.out.pinned x1 (q := q) (by omega))
      obtain ⟨r, hr⟩ : ∃ r : Int, r = ((q + 1 : Nat) : Int) := ⟨_, rfl⟩
      rw [← hr] at c4 hne hw1
      clear hp hok hlk hat e x1 hpa hi hxe h0 hxp hmd hr
      go_enter Tryz.func49, Tryz.ntmps49
      go_wp2
      go_ret
      exact ⟨rfl, HUP.out⟩
end
end Go.Proofs.YtkpmadahfmpeiaaGreat

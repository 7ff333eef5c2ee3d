/-
  PoolHolds: a pool over any disk, in memory: what is done, operation by operation.
-/
import Derived.Test.YtkpmadahfmpeiaaGreatQs
import Derived.Test.YtkpmadahfmpeiaaGreatQf
import Derived.Test.YtkpmadahfmpeiaaGreatGk
import Derived.Test.YtkpmadahfmpeiaaGreatGg
import Derived.Test.YtkpmadahfmpeiaaGreatPo5
import Derived.Test.YtkpmadahfmpeiaaGreatInt
import Derived.Lib.Builder
namespace Go.Proofs.YtkpmadahfmpeiaaGreat
open Go.RowKit Go.Maps
set_option maxRecDepth 100000
set_option maxHeartbeats 400000

structure SzH (m : Nat) (Q : Pm) (S : Dk) : Prop where
  sm : Sm S m (20000 * m)
  len : Q.fr.length ≤ 64
  low : lowF ((70000 + m : Nat) : Int) Q.fr
theorem lowF.mono {a b : Int} {fr : List Fr} (h : lowF a fr) (hab : a ≤ b) : lowF b fr := fun i f hf => Int.le_trans (h i f hf) hab
theorem Sm.flip {S : Dk} {a b : Nat} (h : Sm S a b) (n : List UInt8) (p : Nat) (u : UInt8) : Sm (S.flip n p u) a b := by
  refine ⟨?_, h.nl, fun s k hl => ?_⟩
  · show (setF S.fs n _).length ≤ a
    rw [setF_len]; exact h.fl
  · obtain ⟨f, h1, h2, h3⟩ := h.li s k hl
    have e : (S.flip n p u).find s = (S.find s).map fun f => if f.name = n then { f with now := flipL f.now p u, lasts := flipL f.lasts p u } else f := find_setF S.fs n s fun f => rfl
    rw [e, h1]
    refine ⟨_, rfl, h2, ?_⟩
    dsimp only
    split
    · show 64 * k < ((flipL f.now p u).length : Int)
      rw [flipL_len]; exact h3
    · exact h3
section
variable {m : Nat} {Q : Pm} {S : Dk}
theorem SzH.more (h : SzH m Q S) {m' : Nat} (hm : m ≤ m') : SzH m' Q S := ⟨h.sm.mono hm (by omega), h.len, h.low.mono (by omega)⟩
theorem SzH.disk (h : SzH m Q S) {S' : Dk} (hs : Sm S' (m + 1) (20000 * (m + 1))) : SzH (m + 1) Q S' := ⟨hs, h.len, h.low.mono (by omega)⟩
theorem SzH.lowk (h : SzH m Q S) (hm : m ≤ 1000) : lowF 1000000000 Q.fr := h.low.mono (by omega)
def PgLe (S : Dk) : Prop := ∀ n, (S.pgs n).1 ≤ 65536
theorem SzH.pages (h : SzH m Q S) (hp : PgLe S) (n : List UInt8) : (Q.pages S n).1 ≤ ((70001 + m : Nat) : Int) := by
  unfold Pm.pages
  split
  · show (0 : Int) ≤ _; omega
  · have hpn := hp n
    exact (pagesN_le (fr := Q.fr) (n := n) (n0 := ((S.pgs n).1 : Int)) (m := ((70001 + m : Nat) : Int)) (by omega) fun f hf => by
      obtain ⟨i, hi, e⟩ := List.mem_iff_getElem.1 hf
      have := h.low i f (by rw [List.getElem?_eq_getElem hi, e])
      omega).2
theorem bringH_sm (h : SzH m Q S) (n : List UInt8) (k : Int) (v : Value) : Sm (Q.bring S n k v).S (m + 1) (20000 * (m + 1)) := by
  have hb := h.sm.mono (a' := m + 1) (b' := 20000 * (m + 1)) (by omega) (by omega)
  have ht := (h.sm.take Q).mono (a' := m + 1) (b' := 20000 * (m + 1)) (by omega) (by have := h.len; omega)
  unfold Pm.bring
  split
  · exact hb
  · split
    · exact hb
    · split
      · exact hb
      · split
        · exact hb
        · unfold bringR
          split
          · exact hb
          · split
            · exact ht
            · exact ht
theorem SzH.bring (h : SzH m Q S) (hp : PgLe S) (hh : Q.hand < Q.fr.length) (n : List UInt8) (k : Int) (v : Value) : SzH (m + 1) (Q.bring S n k v).Q (Q.bring S n k v).S := by
  obtain ⟨-, -, g3, g4⟩ := bring_gen Q S n k v hh
  refine ⟨bringH_sm h n k v, by rw [g4]; exact h.len, g3 _ (by omega) (h.low.mono (by omega)) ?_⟩
  by_cases hk : k ≤ ((70000 + (m + 1) : Nat) : Int)
  · exact .inl hk
  · right
    have hpg := h.pages hp n
    unfold Pm.bring
    split
    · next h1 => exact h1
    · split
      · simp
      · rw [if_pos (by omega)]; simp
theorem SzH.read (h : SzH m Q S) (hp : PgLe S) (hh : Q.hand < Q.fr.length) (n : List UInt8) (k : Int) (v : Value) : SzH (m + 1) (Q.read S n k v).Q (Q.read S n k v).S := by
  obtain ⟨e1, e2, -⟩ := read_eq Q S n k v
  rw [e1, e2]
  exact h.bring hp hh n k v
theorem SzH.pin (h : SzH m Q S) (hp : PgLe S) (hh : Q.hand < Q.fr.length) (n : List UInt8) (k : Int) (v : Value) : SzH (m + 1) (Q.pin S n k v).Q (Q.pin S n k v).S := by
  have hB := h.bring hp hh n k v
  by_cases he : (Q.bring S n k v).e = 0
  · obtain ⟨f, f1, f2⟩ := (bring_gen Q S n k v hh).1 he
    have e : Q.pin S n k v = ⟨(Q.bring S n k v).Q.bytes (Q.bring S n k v).i, 0, (Q.bring S n k v).Q.pinUp (Q.bring S n k v).i, (Q.bring S n k v).S⟩ := by
      unfold Pm.pin; exact if_neg (by rw [he]; simp)
    rw [e]
    refine ⟨hB.sm, ?_, ?_⟩
    · show ((Q.bring S n k v).Q.fr.modify _ _).length ≤ 64
      rw [modify_eq f1, List.length_set]; exact hB.len
    · show lowF _ ((Q.bring S n k v).Q.fr.modify _ _)
      rw [modify_eq f1]
      exact hB.low.set _ (hB.low _ f f1)
  · have e : Q.pin S n k v = ⟨[], (Q.bring S n k v).e, (Q.bring S n k v).Q, (Q.bring S n k v).S⟩ := by
      unfold Pm.pin; exact if_pos he
    rw [e]
    exact hB
theorem SzH.unpin (h : SzH m Q S) (n : List UInt8) (k : Int) : SzH m (Q.unpin n k).1 S := by
  unfold Pm.unpin
  split
  · exact h
  · next i ha =>
    split
    · exact h
    · obtain ⟨x, x1, -⟩ := at_some ha
      refine ⟨h.sm, ?_, ?_⟩
      · show (Q.fr.modify i _).length ≤ 64
        rw [modify_eq x1, List.length_set]; exact h.len
      · show lowF _ (Q.fr.modify i _)
        rw [modify_eq x1]
        exact h.low.set i (h.low i x x1)
theorem SzH.write (h : SzH m Q S) (hp : PgLe S) (hh : Q.hand < Q.fr.length) (n : List UInt8) (k : Int) (b : List UInt8) (v : Value) : SzH (m + 1) (Q.write S n k b v).Q (Q.write S n k b v).S := by
  have hb := h.more (m' := m + 1) (by omega)
  have ht := (h.sm.take Q).mono (a' := m + 1) (b' := 20000 * (m + 1)) (by omega) (by have := h.len; omega)
  have hpg := h.pages hp n
  obtain ⟨t1, t2, -⟩ := take_gen Q S hh
  unfold Pm.write
  split
  · exact hb
  · split
    · exact hb
    · split
      · exact hb
      · next h2 =>
        have hk : k ≤ ((70000 + (m + 1) : Nat) : Int) := by
          rw [not_or] at h2
          omega
        split
        · next i hat =>
          obtain ⟨x, x1, -⟩ := at_some hat
          refine ⟨hb.sm, ?_, ?_⟩
          · show (Q.fr.modify i _).length ≤ 64
            rw [modify_eq x1, List.length_set]; exact h.len
          · show lowF _ (Q.fr.modify i _)
            rw [modify_eq x1]
            exact hb.low.set i (hb.low i x x1)
        · split
          · exact ⟨ht, by rw [t1]; exact h.len, hb.low.take (by omega) S⟩
          · next h5 =>
            obtain ⟨f, f1, f2⟩ := t2 (by simpa using h5)
            have hi := (List.getElem?_eq_some_iff.1 f1).1
            refine ⟨ht, ?_, ?_⟩
            · show (((Q.take S).Q.fr.set (Q.take S).i _).modify (Q.take S).i _).length ≤ 64
              rw [modify_eq (List.getElem?_set_self hi), List.length_set, List.length_set, t1]; exact h.len
            · show lowF _ (((Q.take S).Q.fr.set (Q.take S).i _).modify (Q.take S).i _)
              rw [modify_eq (List.getElem?_set_self hi)]
              exact ((hb.low.take (by omega) S).set _ hk).set _ hk
theorem SzH.flush (h : SzH m Q S) (n : List UInt8) : SzH (m + 1) (Q.flush S n).Q (Q.flush S n).S := by
  have hb := h.more (m' := m + 1) (by omega)
  have hl := dirtyL_len Q.fr n 0 16777216
  have hp := (Sm.putL (n := n) (dirtyL Q.fr n 0 16777216) Q.fr S m (20000 * m) h.sm).mono (a' := m + 1) (b' := 20000 * (m + 1)) (by omega) (by have := h.len; omega)
  have hs := putL_sig (n := n) (dirtyL Q.fr n 0 16777216) Q.fr S
  unfold Pm.flush
  split
  · exact hb
  · split
    · exact ⟨hp, by rw [len_sig hs]; exact h.len, hb.low.sig hs⟩
    · exact ⟨hp.sync n, by rw [len_sig hs]; exact h.len, hb.low.sig hs⟩
theorem SzH.drop (h : SzH m Q S) (n : List UInt8) : SzH (m + 1) (Q.drop S n).Q (Q.drop S n).S := by
  have hb := h.more (m' := m + 1) (by omega)
  unfold Pm.drop
  split
  · exact hb
  · refine ⟨(h.sm.remove n).mono (by omega) (by omega), by show (Q.fr.map _).length ≤ 64; rw [List.length_map]; exact h.len, fun i f hf => ?_⟩
    have hf2 : (Q.fr.map fun f => if ofN n f then fr0 else f)[i]? = some f := hf
    rw [List.getElem?_map] at hf2
    cases hq : Q.fr[i]? with
    | none => rw [hq] at hf2; cases hf2
    | some g =>
      rw [hq] at hf2
      have : (if ofN n g then fr0 else g) = f := by simpa using hf2
      subst this
      split
      · show (0 : Int) ≤ _; omega
      · exact hb.low i g hq
end
/-- a pool that n pins were laid on. -/
def HS (w0 : World) (d p L n m : Nat) (O : Own1) (w : World) : Prop := ∃ Q S, PA w0 d p O Q S w ∧ HoldI L n Q ∧ SzH m Q S
section
variable {w0 w w' w1 : World} {d p L n m : Nat} {O : Own1}
theorem PA.pgLe {Q : Pm} {S : Dk} (h : PA w0 d p O Q S w) : PgLe S := fun nm => by
  obtain ⟨o, c, g, mb, rfl, h1, -⟩ := h.ex
  unfold Dk.pgs
  split
  · exact Nat.zero_le _
  · split
    · exact Nat.zero_le _
    · have : (S.size nm).1 ≤ 16777216 := by
        unfold Dk.size
        split
        · exact Nat.zero_le _
        · split
          · exact Nat.zero_le _
          · cases hf : S.find nm with
            | none => exact Nat.zero_le _
            | some f => exact (h1.file f (find_some hf).1).small.2.1
      show (S.size nm).1 / 256 ≤ 65536
      omega
theorem PA.far {Q : Pm} {S : Dk} (h : PA w0 d p O Q S w) {r : Option Nat} (g : w.grownBy w' r) (hr : ∀ k, r = some k → O k = none ∧ w0.heap.size ≤ k) : PA w0 d p O Q S w' := by
  have hc : Ch (fun i => if r = some i then some (0, []) else none) w (fun i => if r = some i then some (0, []) else none) w' := Ch.of_gr g fun k e => by
    show (if r = some k then some (0, []) else none) ≠ none
    rw [if_pos e]; simp
  refine (h.keep hc (fun i hi => ?_) ?_).1
  · show (if r = some i then some (0, []) else none) = none
    rw [if_neg fun e => hi (hr i e).1]
  · exact gr_trans h.gr g (.inr fun k e => (hr k e).2)
theorem sta_hs (w0 : World) (d p L n m : Nat) : Sta w0 (HS w0 d p L n m) where
  far := fun ⟨Q, S, h1, h2⟩ g hr => ⟨Q, S, h1.far g hr, h2⟩
  gr := fun ⟨_, _, h1, _⟩ => h1.gr
  fresh := fun ⟨_, _, h1, _⟩ hi => h1.fresh hi
theorem PA.disk2 {F : Nat} {args : Array Value} {R : Ending → Prop} {T : Dk → Prop} {Q : Pm} {S : Dk} (h : PA w0 d p O Q S w) (hd : ∀ o c, DI w w0.heap.size o d S c → Calls Tryz.prog F args w fun e w' => R e ∧ ∃ S', DOut o w w0.heap.size d S' w' ∧ T S') : Calls Tryz.prog F args w fun e w' => R e ∧ ∃ S', T S' ∧ PP w0 d p O Q S' w w' := by
  obtain ⟨o, c, g, mb, rfl, h1, h2⟩ := h.ex
  refine (hd o c h1).mono ?_
  rintro e w' ⟨e1, S', ⟨o', c', k1, k2⟩, ht⟩
  exact ⟨e1, S', ht, h.out ⟨o', c', k1, h2.ch k2, k2.po (p := p) (g := g) (mb := mb)⟩ (BvIn.refl _ _)⟩
/-- what is done to the disk alone. -/
theorem PA.disk {F : Nat} {args : Array Value} {R : Ending → Prop} {Q : Pm} {S S' : Dk} (h : PA w0 d p O Q S w) (hd : ∀ o c, DI w w0.heap.size o d S c → Calls Tryz.prog F args w fun e w' => R e ∧ DOut o w w0.heap.size d S' w') : Calls Tryz.prog F args w fun e w' => R e ∧ PP w0 d p O Q S' w w' := by
  obtain ⟨o, c, g, mb, rfl, h1, h2⟩ := h.ex
  refine (hd o c h1).mono ?_
  rintro e w' ⟨e1, o', c', k1, k2⟩
  exact ⟨e1, h.out ⟨o', c', k1, h2.ch k2, k2.po (p := p) (g := g) (mb := mb)⟩ (BvIn.refl _ _)⟩
end
end Go.Proofs.YtkpmadahfmpeiaaGreat

/- The anchor of law10: a pool works. -/
namespace Go.Proofs.YtkpmadahfmpeiaaGreat
open Go.RowKit Go.Maps
set_option maxRecDepth 100000
set_option maxHeartbeats 400000

theorem neq_disk (d : Nat) (w : World) : (binOp .neq 25 (.pointer (some ⟨d, 0, none⟩)) (.pointer (some ⟨d, 0, none⟩))).run Tryz.prog w = .ok (.bool false) w := by
  obtain ⟨j, hj⟩ := Option.isSome_iff_exists.1 (by kernel_rfl : (Tryz.prog.info? 109).isSome = true)
  exact Lib.run_neq_ptr_same w ⟨d, 0, none⟩ Tryz.underlying25 hj
theorem ok_an0 : okK an 0 := ⟨by simp [an]; unfold maxLen; omega, WalkArith.wf_i64 (by omega)⟩
def wkS : Dk := ((newD 100).create an).1
theorem wkS_create : ((newD 100).create an).2 = 0 := by decide
theorem wkS_pgs : wkS.pgs an = (0, 0) := by decide
theorem wkS_fs : wkS.fs.length = 1 := by decide
def wkP (v : Value) : Pl := (((pl0 2).filled 0 (frN an 0) ok_an0).noted).put 0 (frW an 0 [7] v)
theorem wkP_fr (v : Value) : (wkP v).fr = [frW an 0 [7] v, fr0] := rfl
theorem wkP_wh (v : Value) : (wkP v).wh ⟨an, 0, ok_an0⟩ = some 0 := by
  show (if (⟨an, 0, ok_an0⟩ : PK) = pkey (frN an 0) ok_an0 then some 0 else none) = some 0
  exact if_pos rfl
theorem wkP_pages (v : Value) : pagesN (wkP v).fr an 0 = 1 := by rw [wkP_fr]; rfl
set_option maxHeartbeats 4000000 in
theorem works10_any (w : World) : Calls Tryz.prog 9 #[] w fun e w' => e = .returned (.bool true) ∧ w.grownBy w' none := by
  have HNEW := Lib.hid (new_ok 100 w (by omega))
  go_enter Tryz.func9, Tryz.ntmps9
  go_wp2_with fail
  refine HNEW.out.mono ?_
  rintro e w1 ⟨d, o, c, rfl, h1, g1⟩
  have HPN := Lib.hid (ponew_any h1 2 (by omega) (by omega))
  have H1 := Lib.hid h1
  have G1 := Lib.hid g1
  clear h1 g1 HNEW
  go_wp2_with fail
  refine HPN.out.mono ?_
  rintro e w2 ⟨p, g, mb, rfl, hp2, g2⟩
  have HP2 := Lib.hid hp2
  have H2 := Lib.hid (H1.out.ext g2)
  have G2 := Lib.hid (gr_none G1.out g2)
  have HPD := Lib.hid (pdisk_any hp2)
  have HPF := Lib.hid (pframes_any hp2)
  have el : (pl0 2).fr.length = 2 := rfl
  rw [el] at HPF
  clear hp2 g2 HPN H1 G1 el
  have hnq := neq_disk d
  go_wp2_with (first
    | (go_at_call 43; refine HPD.out.mono ?_; rintro e w3 ⟨rfl, rfl⟩)
    | (go_at_call 44; refine HPF.out.mono ?_; rintro e w3 ⟨rfl, rfl⟩))
  have hcr := pocreate_any H2.out HP2.out (n := an) (by simp [an]) (by simp [newD])
  rw [wkS_create] at hcr
  have HCR := Lib.hid hcr
  clear hcr HPD HPF hnq
  refine HCR.out.mono ?_
  rintro e w4 ⟨rfl, o4, c4, h4, ch4, hp4⟩
  have H4 : Hid (DI w4 w.heap.size o4 d wkS c4) := h4
  have HP4 := Lib.hid hp4
  have G4 : Hid (w.grownBy w4 none) := ch4.gr G2.out fun i hi => (H2.out.inb i hi).1
  clear h4 hp4 ch4 HCR
  have HB : Hid (OwnB (w4.alloc (.cells #[.int .u8 7] 5)) w4.heap.size (.slice (some ⟨w4.heap.size, 0, none⟩) 1 1) [7]) := own_lit w4 w4.heap.size 1 1 1 #[.int .u8 7] 5 (0, 0) (.inr (by simp)) rfl (Nat.le_refl _) (by unfold maxLen; omega) (Nat.le_refl _)
  have hpl := HP4.out.self.lt
  have hgl := HP4.out.fr.lt
  have hml := HP4.out.wh.lt
  have HWR := Lib.hid (powrite_new (H4.out.ext (gr_alloc w4 (.cells #[.int .u8 7] 5) none)) (HP4.out.ext (gr_alloc w4 (.cells #[.int .u8 7] 5) none)) (n := an) (by simp [an]) ok_an0 HB.out.rd
    (fun q e => by
      obtain ⟨q1, q2⟩ := Own.blk_lt HB.out (by omega) e
      exact ⟨q2, po_none_mk (by omega) (by omega) (by omega) rfl⟩) (by simp) (by rw [wkS_pgs]) (by omega) (by rw [wkS_pgs]; show (0 : Int) ≤ pagesN [fr0, fr0] an 0; decide) rfl (i := 0) (by show 0 < 2; omega) rfl (fun j _ hj => absurd hj (by omega)) (by omega) (by omega))
  clear hpl hgl hml
  go_wp2_with fail
  refine HWR.out.mono ?_
  rintro e w5 ⟨rfl, v5, hp5, ch5⟩
  have HP5 : Hid (PoR w5 w.heap.size o4 d p g mb (wkP v5) 1) := hp5
  have H5 := Lib.hid ((H4.out.ext (gr_alloc w4 (.cells #[.int .u8 7] 5) none)).pool (HP4.out.ext (gr_alloc w4 (.cells #[.int .u8 7] 5) none)) ch5)
  have G5 : Hid (w.grownBy w5 none) := poGr ch5 (gr_none G4.out (gr_alloc _ _ none)) HP4.out.low
  have hrd := poread_hit H5.out HP5.out (n := an) (by simp [an]) ok_an0 (by rw [wkS_pgs]) (by omega) (by rw [wkS_pgs]; show (0 : Int) < pagesN (wkP v5).fr an 0; rw [wkP_pages]; omega) (i := 0) (by rw [wkP_fr]; simp) (wkP_wh v5)
  have eb : (wkP v5).fr[0]'(by rw [wkP_fr]; simp) = frW an 0 [7] v5 := rfl
  rw [eb] at hrd
  have HRD := Lib.hid hrd
  clear hp5 ch5 HWR HB hrd eb
  go_wp2_with fail
  refine HRD.out.mono ?_
  rintro e w6 ⟨v6, rfl, b6, hp6, ch6⟩
  have HHE := Lib.hid (held_any hp6)
  have G6 : Hid (w.grownBy w6 none) := poGr ch6 G5.out HP5.out.low
  have e1 : heldN Fr.full ((wkP v5).put 0 { frW an 0 [7] v5 with used := true }).fr = 1 := rfl
  have e2 : heldN Fr.dirty ((wkP v5).put 0 { frW an 0 [7] v5 with used := true }).fr = 1 := rfl
  rw [e1, e2] at HHE
  have B6 := Lib.hid b6.rd
  have b6' : RdB w6 v6 (frW an 0 [7] v5).b := b6.rd
  obtain ⟨A6, c6, rfl⟩ := RdB.form b6'
  clear hp6 ch6 b6 b6' e1 e2 HRD HP5 H5
  go_wp2_with fail
  refine HHE.out.mono ?_
  rintro e w7 ⟨rfl, g7⟩
  obtain ⟨g8, o8, hA8, -, -, hc8⟩ := RdB.at_ (l := [7]) (B6.out.ext g7)
  obtain rfl := hA8 (by simp)
  have hc : w7.cell? ⟨g8, o8, none⟩ = some (.int .u8 7) := hc8 0 (by simp)
  have G7 := Lib.hid (gr_none G6.out g7)
  have el : (frW an 0 [7] v5).b.length = 1 := rfl
  rw [el]
  clear g7 hA8 hc8 B6 HHE el
  go_wp2
  go_ret
  exact ⟨rfl, G7.out⟩
end Go.Proofs.YtkpmadahfmpeiaaGreat

/- PoolNil: what is done with a pool, in memory; vast; no pool. -/
namespace Go.Proofs.YtkpmadahfmpeiaaGreat
open Go.RowKit Go.Maps
set_option maxRecDepth 100000
set_option maxHeartbeats 400000

structure OpQ where
  kind : Int
  name : List UInt8
  k : Int
  bv : Value
  b : List UInt8
def OpQ.cells (o : OpQ) : List Value := [.int .i64 o.kind, .string ⟨o.name.toArray⟩, .int .i64 o.k, o.bv]
structure OpQk (w : World) (o : OpQ) : Prop where
  b : RdB w o.bv o.b
  kind : -9223372036854775808 ≤ o.kind ∧ o.kind ≤ 9223372036854775807
  k : -9223372036854775808 ≤ o.k ∧ o.k ≤ 9223372036854775807
  name : o.name.length ≤ maxLen
theorem OpQk.ext {w w' : World} {o : OpQ} (h : OpQk w o) (g : w.grownBy w' none) : OpQk w' o := { h with b := h.b.ext g }
set_option maxHeartbeats 2000000 in
/-- one thing done: is it more than a statement plays? -/
theorem vast1_any (o : OpQ) (g0 : Nat) (w : World) (h : OpQk w o) (hb : Blk w g0 35 o.cells.toArray) :
    Calls Tryz.prog 8 #[.int .i64 1, .slice (some ⟨g0, 0, none⟩) 1 1] w fun e w' => (∃ b, e = .returned (.bool b) ∧ Hid (b = false → o.b.length ≤ 65536)) ∧ ∃ q, w' = w.drewN q := by
  obtain ⟨kind, name, k, bv, b⟩ := o
  obtain ⟨Ab, cb, rfl⟩ : ∃ Ab cb, bv = .slice Ab b.length cb := h.b.form
  have hnm : name.length ≤ maxLen := h.name
  have hbr : RdB w (.slice Ab b.length cb) b := h.b
  have hbc : b.length ≤ maxLen := by obtain ⟨_, _, _, _, _, e, h1, h2, _⟩ := hbr; cases e; omega
  have c1 : w.cell? ⟨g0, 1, none⟩ = some (.string ⟨name.toArray⟩) := hb.cell 1
  have c3 : w.cell? ⟨g0, 3, none⟩ = some (.slice Ab b.length cb) := hb.cell 3
  obtain ⟨x1, e1⟩ : ∃ x1 : Nat, x1 = min b.length 131072 := ⟨_, rfl⟩
  obtain ⟨x2, e2⟩ : ∃ x2 : Nat, x2 = min name.length 131072 := ⟨_, rfl⟩
  have m1 : min (b.length : Int) 131072 = (x1 : Int) := by omega
  have m2 : min (name.length : Int) 131072 = (x2 : Int) := by omega
  have b1 : x1 ≤ 131072 ∧ x2 ≤ 131072 := by omega
  have s1 : IntKind.i64.wrap (x1 : Int) = (x1 : Int) := by rw [IntWalk.i64_in _ (by omega)]
  have s2 : IntKind.i64.wrap ((x1 : Int) + (x2 : Int)) = (x1 : Int) + (x2 : Int) := by rw [IntWalk.i64_in _ (by omega)]
  have HSM : Hid (x1 + x2 ≤ 65536 → b.length ≤ 65536) := fun h => by omega
  have C1 := Lib.hid c1
  have C3 := Lib.hid c3
  clear h hb hbr e1 e2 c1 c3
  go_enter Tryz.func8, Tryz.ntmps8
  go_wp2
  go_loopw [5, 6] (fun s i wr => ((i = .int .i64 0 ∧ s = .int .i64 0) ∨ (i = .int .i64 1 ∧ Hid (b.length ≤ 65536))) ∧ DrewS w wr) (fun _ i _ => 1 - (intOf i).toNat)
  case atStart => exact ⟨.inl ⟨rfl, rfl⟩, 0, rfl⟩
  case round =>
    obtain ⟨hc, q0, hq0⟩ := hrel
    have HQ0 := Lib.hid hq0
    clear hq0
    rcases hc with ⟨rfl, rfl⟩ | ⟨rfl, hsm⟩
    · have c1 : wr.cell? ⟨g0, 1, none⟩ = some (.string ⟨name.toArray⟩) := by rw [HQ0.out]; exact C1.out
      have c3 : wr.cell? ⟨g0, 3, none⟩ = some (.slice Ab b.length cb) := by rw [HQ0.out]; exact C3.out
      go_wp2_with fail
      go_quiet (fail)
      by_cases hov : 65536 < x1 + x2
      · have hd : decide ((65536 : Int) < (x1 : Int) + (x2 : Int)) = true := by simp; omega
        clear hov
        go_wp2
        go_ret
        exact ⟨⟨true, rfl, fun e => by cases e⟩, q0 + nq, by rw [HQ0.out, World.drewN_drewN]⟩
      · have hd : decide ((65536 : Int) < (x1 : Int) + (x2 : Int)) = false := by simp; omega
        have HS : Hid (b.length ≤ 65536) := HSM.out (by omega)
        clear hov
        go_wp2
        go_roundw
        case rel => exact ⟨.inr ⟨by go_num, HS⟩, q0 + nq, by rw [HQ0.out, World.drewN_drewN]⟩
        case measure => simp [intOf] <;> omega
    · go_wp2
      go_ret
      exact ⟨⟨false, rfl, fun _ => hsm.out⟩, q0, HQ0.out⟩
/-! no pool -/
theorem pnew_nil (w : World) : Calls Tryz.prog 11 #[.pointer none, .int .i64 4] w fun e w' => e = .returned (.tuple #[.pointer none, .int .i64 2]) ∧ w = w' := by
  go_enter Tryz.func11, Tryz.ntmps11
  go_wp2
  go_ret2
  exact ⟨rfl, rfl⟩
theorem pheld_nil (w : World) : Calls Tryz.prog 41 #[.pointer none] w fun e w' => e = .returned (.tuple #[.int .i64 0, .int .i64 0, .int .i64 0]) ∧ w = w' := by
  go_enter Tryz.func41, Tryz.ntmps41
  go_wp2
  go_ret3
  exact ⟨rfl, rfl⟩
theorem pdisk_nil (w : World) : Calls Tryz.prog 43 #[.pointer none] w fun e w' => e = .returned (.pointer none) ∧ w = w' := by
  go_enter Tryz.func43, Tryz.ntmps43
  go_wp2
  go_ret
  exact ⟨rfl, rfl⟩
theorem pframes_nil (w : World) : Calls Tryz.prog 44 #[.pointer none] w fun e w' => e = .returned (.int .i64 0) ∧ w = w' := by
  go_enter Tryz.func44, Tryz.ntmps44
  go_wp2
  go_ret
  exact ⟨rfl, rfl⟩
theorem pcreate_nil (w : World) (s : ByteArray) : Calls Tryz.prog 45 #[.pointer none, .string s] w fun e w' => e = .returned (.int .i64 2) ∧ w = w' := by
  go_enter Tryz.func45, Tryz.ntmps45
  go_wp2
  go_ret
  exact ⟨rfl, rfl⟩
theorem pdrop_nil (w : World) (s : ByteArray) : Calls Tryz.prog 42 #[.pointer none, .string s] w fun e w' => e = .returned (.int .i64 2) ∧ w = w' := by
  go_enter Tryz.func42, Tryz.ntmps42
  go_wp2
  go_ret
  exact ⟨rfl, rfl⟩
theorem pflush_nil (w : World) (s : ByteArray) : Calls Tryz.prog 16 #[.pointer none, .string s] w fun e w' => e = .returned (.int .i64 2) ∧ w = w' := by
  go_enter Tryz.func16, Tryz.ntmps16
  go_wp2
  go_ret
  exact ⟨rfl, rfl⟩
theorem ppages_nil (w : World) (s : ByteArray) : Calls Tryz.prog 20 #[.pointer none, .string s] w fun e w' => e = .returned (.tuple #[.int .i64 0, .int .i64 2]) ∧ w = w' := by
  go_enter Tryz.func20, Tryz.ntmps20
  go_wp2
  go_ret2
  exact ⟨rfl, rfl⟩
theorem punpin_nil (w : World) (s : ByteArray) (k : Int) : Calls Tryz.prog 49 #[.pointer none, .string s, .int .i64 k] w fun e w' => e = .returned (.int .i64 2) ∧ w = w' := by
  go_enter Tryz.func49, Tryz.ntmps49
  go_wp2
  go_ret
  exact ⟨rfl, rfl⟩
theorem ppin_nil (w : World) (s : ByteArray) (k : Int) : Calls Tryz.prog 47 #[.pointer none, .string s, .int .i64 k] w fun e w' => e = .returned (.tuple #[.slice none 0 0, .int .i64 2]) ∧ w = w' := by
  go_enter Tryz.func47, Tryz.ntmps47
  go_wp2
  go_ret2
  exact ⟨rfl, rfl⟩
theorem pread_nil (w : World) (s : ByteArray) (k : Int) : Calls Tryz.prog 21 #[.pointer none, .string s, .int .i64 k] w fun e w' => e = .returned (.tuple #[.slice none 0 0, .int .i64 2]) ∧ w = w' := by
  go_enter Tryz.func21, Tryz.ntmps21
  go_wp2
  go_ret2
  exact ⟨rfl, rfl⟩
theorem pwrite_nil (w : World) (s : ByteArray) (k : Int) (v : Value) : Calls Tryz.prog 46 #[.pointer none, .string s, .int .i64 k, v] w fun e w' => e = .returned (.int .i64 2) ∧ w = w' := by
  go_enter Tryz.func46, Tryz.ntmps46
  go_wp2
  go_ret
  exact ⟨rfl, rfl⟩
end Go.Proofs.YtkpmadahfmpeiaaGreat

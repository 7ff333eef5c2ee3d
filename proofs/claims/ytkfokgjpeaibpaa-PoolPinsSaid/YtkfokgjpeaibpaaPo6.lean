/-
  PoolPins: a pool with pins, in memory.
-/
import Derived.Test.YtkfokgjpeaibpaaPn0
import Derived.Test.YtkfokgjpeaibpaaGk
import Derived.Test.YtkfokgjpeaibpaaGg
import Derived.Test.YtkfokgjpeaibpaaPo5
import Derived.Test.YtkfokgjpeaibpaaInt
import Derived.Lib.Builder
namespace Go.Proofs.Ytkfokgjpeaibpaa
open Go.RowKit Go.Maps
set_option maxRecDepth 100000
set_option maxHeartbeats 400000

theorem PinS.more {q N L : Nat} {K : List Nat} {ps : List (List UInt8)} {Q : Pm} {S : Dk} (h : PinS q N L K ps Q S) {N' : Nat} (hN : N ≤ N' ∧ N' ≤ 10000 ∧ 4 * N' + 4 ≤ q) : PinS q N' L K ps Q S := by
  obtain ⟨G, h1, h2⟩ := h.ab
  exact ⟨⟨G, h1.more hN, h2⟩, h.len, h.hand, h.pins, h.has, h.peak⟩
theorem Sz.bring {m : Nat} {Q : Pm} {S : Dk} (h : Sz m Q S) (hh : Q.hand < Q.fr.length) (n : List UInt8) {k : Int} (hk : k ≤ 10000) (v : Value) : Sz (m + 1) (Q.bring S n k v).Q (Q.bring S n k v).S := by
  obtain ⟨-, -, g3, g4⟩ := bring_gen Q S n k v hh
  exact ⟨bring_sm h n k v, by rw [g4]; exact h.len, g3 10000 (by omega) h.low (.inl hk)⟩
/-- without pins: what is written. -/
def PW (w0 : World) (d p : Nat) (O : Own1) (L : Nat) (ps : List (List UInt8)) (m : Nat) (w : World) : Prop := ∃ Q S, PA w0 d p O Q S w ∧ Ab 4096 m Q S [⟨an, ps⟩] ∧ Sz m Q S ∧ HoldI L 0 Q
/-- with pins. -/
def PN (w0 : World) (d p : Nat) (O : Own1) (L : Nat) (K : List Nat) (ps : List (List UInt8)) (pk : Bool) (m : Nat) (w : World) : Prop := ∃ Q S, PA w0 d p O Q S w ∧ PinS 4096 m L K ps Q S ∧ Sz m Q S ∧ (pk = true → Q.mf = L ∧ Q.mp = L)
def PNn (w0 : World) (d p : Nat) (O : Own1) (L : Nat) (K : List Nat) (ps : List (List UInt8)) (pk : Bool) (m : Nat) (w w' : World) : Prop := ∃ O', PN w0 d p O' L K ps pk m w' ∧ Ch O w O' w'
section
variable {w0 w w' w1 : World} {d p L m : Nat} {O : Own1} {K : List Nat} {ps : List (List UInt8)} {pk : Bool}
theorem PN.ext (h : PN w0 d p O L K ps pk m w) (g : w.grownBy w1 none) : PN w0 d p O L K ps pk m w1 := by obtain ⟨Q, S, h1, h2⟩ := h; exact ⟨Q, S, h1.ext g, h2⟩
theorem PN.gr (h : PN w0 d p O L K ps pk m w) : w0.grownBy w none := by obtain ⟨Q, S, h1, -⟩ := h; exact h1.gr
theorem PW.ext (h : PW w0 d p O L ps m w) (g : w.grownBy w1 none) : PW w0 d p O L ps m w1 := by obtain ⟨Q, S, h1, h2⟩ := h; exact ⟨Q, S, h1.ext g, h2⟩
theorem PW.gr (h : PW w0 d p O L ps m w) : w0.grownBy w none := by obtain ⟨Q, S, h1, -⟩ := h; exact h1.gr
theorem PW.fresh (h : PW w0 d p O L ps m w) {i : Nat} (hi : w.heap.size ≤ i) : O i = none := by obtain ⟨Q, S, h1, -⟩ := h; exact h1.fresh hi
theorem PW.start (h : PA w0 d p O (pm0 L) (newD 4096) w) (h1 : 1 ≤ L) (h2 : L ≤ 64) :
    Calls Try.prog 21 #[.pointer (some ⟨p, 0, none⟩), .string ⟨an.toArray⟩] w fun e w' => e = .returned (.int .i64 0) ∧ ∃ O', PW w0 d p O' L [] 1 w' ∧ Ch O w O' w' := by
  have hab := ab_newQ 4096 L h1 0 (by omega)
  have hsz : Sz 0 (pm0 L) (newD 4096) := sz_new L h2
  refine (h.create (n := an) (by simp [an]) (by simp [newD])).mono ?_
  rintro e w' ⟨rfl, O', k1, k2⟩
  obtain ⟨r1, r2⟩ := hab.create an
  rw [r1, show aCreate [] an = ([⟨an, []⟩], 0) from by simp [aCreate, an_right, Fg]]
  rw [show aCreate [] an = ([⟨an, []⟩], 0) from by simp [aCreate, an_right, Fg]] at r2
  exact ⟨rfl, O', ⟨_, _, k1, r2.more ⟨by omega, by omega⟩, hsz.create an, HoldI.new L h1⟩, k2⟩
theorem PW.write (h : PW w0 d p O L ps m w) (hm : m ≤ 900) {bv : Value} {b : List UInt8} (hb : RdB w bv b) (hbo : ∀ q, blk bv = some q → q < w.heap.size ∧ O q = none) (hbl : b.length ≤ 240) :
    Calls Try.prog 22 #[.pointer (some ⟨p, 0, none⟩), .string ⟨an.toArray⟩, .int .i64 (ps.length : Nat), bv] w fun e w' => e = .returned (.int .i64 0) ∧ ∃ O', PW w0 d p O' L (ps ++ [b]) (m + 1) w' ∧ Ch O w O' w' := by
  obtain ⟨Q, S, h1, h2, h3, h4⟩ := h
  have hpl : ps.length ≤ 10000 := by
    have := ab_klen (n := an) h2 (aErr_one an_right ps) (k := (ps.length : Nat)) (by rw [aPg_one]; exact Int.le_refl _)
    omega
  refine (h1.write (n := an) (k := (ps.length : Nat)) (by simp [an]) (by omega) (fun i f hf => by have := h3.low i f hf; omega) (by have := h3.sm.fl; omega) (by have := h3.sm.nl; omega) hb hbo (by omega)).mono ?_
  rintro e w' ⟨v, rfl, O', k1, k2⟩
  obtain ⟨r1, r2⟩ := h2.write an (ps.length : Nat) b v (by omega)
  have e1 := aWrite_one an_right ps (k := ps.length) (Nat.le_refl _) hbl
  have e2 : setP ps ps.length b = ps ++ [b] := by unfold setP; rw [if_neg (by omega)]
  rw [e1, e2] at r1 r2
  rw [r1]
  exact ⟨rfl, O', ⟨_, _, k1, r2, h3.write h2 an (ps.length : Nat) b v, h4.write S an (ps.length : Nat) b v⟩, k2⟩
theorem PW.flush (h : PW w0 d p O L ps m w) (hm : m ≤ 900) :
    Calls Try.prog 23 #[.pointer (some ⟨p, 0, none⟩), .string ⟨an.toArray⟩] w fun e w' => e = .returned (.int .i64 0) ∧ ∃ O', PN w0 d p O' L [] ps false (m + 1) w' ∧ Ch O w O' w' := by
  obtain ⟨Q, S, h1, h2, h3, h4⟩ := h
  refine (h1.flush (n := an) (by simp [an]) (by have := h3.sm.fl; omega) (by have := h3.sm.nl; omega)).mono ?_
  rintro e w' ⟨rfl, O', k1, k2⟩
  obtain ⟨r1, r2, -⟩ := h2.flush an
  rw [r1, aErr_one an_right]
  have hF := h4.flush S an
  exact ⟨rfl, O', ⟨_, _, k1, (PinS.of r2 hF.len ⟨hF.mf.2, Nat.le_trans hF.mp.2 hF.mf.2⟩).more ⟨by omega, by omega⟩, h3.flush an, fun e => by cases e⟩, k2⟩
theorem PinS.lowP {q N : Nat} {Q : Pm} {S : Dk} (h : PinS q N L K ps Q S) : lowP 1000000000 Q.fr := fun i f hf => by
  rw [h.pins i f hf]; split <;> omega
theorem PN.pin (h : PN w0 d p O L K ps pk m w) (hm : m ≤ 900) {k : Nat} (hk : k < ps.length) (hk2 : k ≤ 10000) (hkK : k ∉ K) (hr : K.length < L) (hn : (K ++ [k]).Nodup) :
    Calls Try.prog 24 #[.pointer (some ⟨p, 0, none⟩), .string ⟨an.toArray⟩, .int .i64 k] w fun e w' => ∃ vb, e = .returned (.tuple #[vb, .int .i64 0]) ∧ RdB w' vb (ps.getD k []) ∧ PNn w0 d p O L (K ++ [k]) ps (decide ((K ++ [k]).length = L)) (m + 1) w w' := by
  obtain ⟨Q, S, h1, h2, h3, h4⟩ := h
  refine (h1.pin (n := an) (k := k) (by simp [an]) (by omega) (fun i f hf => by have := h3.low i f hf; omega) h2.lowP (by have := h3.sm.fl; omega) (by have := h3.sm.nl; omega)).mono ?_
  rintro e w' ⟨v, vb, rfl, ho, O', k1, k2, -⟩
  obtain ⟨r1, r2, r3, r4⟩ := h2.pin hk v hkK hr
  rw [r1]
  rw [r2] at ho
  have hb := h2.bring hk v (.inr hr)
  have hsz : Sz (m + 1) (Q.pin S an k v).Q (Q.pin S an k v).S := by
    have hB := h3.bring (by rw [h2.len]; exact h2.hand) an (k := k) (by omega) v
    obtain ⟨f, f1, f2⟩ := hb.2.2.1
    have e : Q.pin S an k v = ⟨(Q.bring S an k v).Q.bytes (Q.bring S an k v).i, 0, (Q.bring S an k v).Q.pinUp (Q.bring S an k v).i, (Q.bring S an k v).S⟩ := by
      unfold Pm.pin; exact if_neg (by rw [hb.1]; simp)
    rw [e]
    refine ⟨hB.sm, ?_, ?_⟩
    · show ((Q.bring S an k v).Q.fr.modify _ _).length ≤ 64
      rw [modify_eq f1, List.length_set]; exact hB.len
    · show lowF 10000 ((Q.bring S an k v).Q.fr.modify _ _)
      rw [modify_eq f1]
      exact hB.low.set _ (hB.low _ f f1)
  exact ⟨vb, rfl, Own.rd ho, O', ⟨_, _, k1, r3.more ⟨by omega, by omega⟩, hsz, fun e => r4 hn (of_decide_eq_true e)⟩, k2⟩
theorem PN.read (h : PN w0 d p O L K ps pk m w) (hm : m ≤ 900) {k : Nat} (hk : k < ps.length) (hk2 : k ≤ 10000) (hr : k ∈ K ∨ K.length < L) :
    Calls Try.prog 11 #[.pointer (some ⟨p, 0, none⟩), .string ⟨an.toArray⟩, .int .i64 k] w fun e w' => ∃ vb, e = .returned (.tuple #[vb, .int .i64 0]) ∧ OwnB w' w.heap.size vb (ps.getD k []) ∧ ∃ O', PN w0 d p O' L K ps pk (m + 1) w' ∧ Ch O w O' w' ∧ ∀ q, vb.ownBlock = some q → O' q = none := by
  obtain ⟨Q, S, h1, h2, h3, h4⟩ := h
  refine (h1.read (n := an) (kk := k) (by simp [an]) (by omega) (fun i f hf => by have := h3.low i f hf; omega) (by have := h3.sm.fl; omega) (by have := h3.sm.nl; omega)).mono ?_
  rintro e w' ⟨v, vb, rfl, ho, O', k1, k2, k3⟩
  obtain ⟨r1, r2, r3, r4, r5⟩ := h2.read hk v hr
  rw [r1]
  rw [r2] at ho
  obtain ⟨e1, e2, -⟩ := read_eq Q S an k v
  have hB := h3.bring (by rw [h2.len]; exact h2.hand) an (k := k) (by omega) v
  rw [← e1, ← e2] at hB
  refine ⟨vb, rfl, ho, O', ⟨_, _, k1, r3.more ⟨by omega, by omega⟩, hB, fun e => ?_⟩, k2, k3⟩
  have := h4 e
  have := r3.peak
  omega
theorem PN.fullRead (h : PN w0 d p O L K ps pk m w) (hm : m ≤ 900) (hn : K.Nodup) (hK : K.length = L) {k : Nat} (hk : k < ps.length) (hk2 : k ≤ 10000) (hkK : k ∉ K) :
    Calls Try.prog 11 #[.pointer (some ⟨p, 0, none⟩), .string ⟨an.toArray⟩, .int .i64 k] w fun e w' => ∃ A n c, e = .returned (.tuple #[.slice A n c, .int .i64 10]) ∧ PNn w0 d p O L K ps pk m w w' := by
  obtain ⟨Q, S, h1, h2, h3, h4⟩ := h
  refine (h1.read (n := an) (kk := k) (by simp [an]) (by omega) (fun i f hf => by have := h3.low i f hf; omega) (by have := h3.sm.fl; omega) (by have := h3.sm.nl; omega)).mono ?_
  rintro e w' ⟨v, vb, rfl, ho, O', k1, k2, -⟩
  rw [(h2.fullRead hn hK hk hkK v).1] at ho k1 ⊢
  obtain ⟨A, c, rfl⟩ := RdB.form (Own.rd ho)
  exact ⟨A, _, c, rfl, O', ⟨Q, S, k1, h2, h3, h4⟩, k2⟩
theorem PN.fullPin (h : PN w0 d p O L K ps pk m w) (hm : m ≤ 900) (hn : K.Nodup) (hK : K.length = L) {k : Nat} (hk : k < ps.length) (hk2 : k ≤ 10000) (hkK : k ∉ K) :
    Calls Try.prog 24 #[.pointer (some ⟨p, 0, none⟩), .string ⟨an.toArray⟩, .int .i64 k] w fun e w' => ∃ A n c, e = .returned (.tuple #[.slice A n c, .int .i64 10]) ∧ PNn w0 d p O L K ps pk m w w' := by
  obtain ⟨Q, S, h1, h2, h3, h4⟩ := h
  refine (h1.pin (n := an) (k := k) (by simp [an]) (by omega) (fun i f hf => by have := h3.low i f hf; omega) h2.lowP (by have := h3.sm.fl; omega) (by have := h3.sm.nl; omega)).mono ?_
  rintro e w' ⟨v, vb, rfl, ho, O', k1, k2, -⟩
  rw [(h2.fullRead hn hK hk hkK v).2] at ho k1 ⊢
  obtain ⟨A, c, rfl⟩ := RdB.form (Own.rd ho)
  exact ⟨A, _, c, rfl, O', ⟨Q, S, k1, h2, h3, h4⟩, k2⟩
theorem PN.drop (h : PN w0 d p O L K ps pk m w) (hK : K ≠ []) :
    Calls Try.prog 25 #[.pointer (some ⟨p, 0, none⟩), .string ⟨an.toArray⟩] w fun e w' => e = .returned (.int .i64 10) ∧ PNn w0 d p O L K ps pk m w w' := by
  obtain ⟨Q, S, h1, h2, h3, h4⟩ := h
  refine (h1.drop (n := an) (by simp [an])).mono ?_
  rintro e w' ⟨rfl, O', k1, k2⟩
  rw [h2.drop hK] at k1 ⊢
  exact ⟨rfl, O', ⟨Q, S, k1, h2, h3, h4⟩, k2⟩
theorem PN.unpin (h : PN w0 d p O L K ps pk m w) {k : Nat} (hk : k ∈ K) (hk2 : k ≤ 10000) :
    Calls Try.prog 26 #[.pointer (some ⟨p, 0, none⟩), .string ⟨an.toArray⟩, .int .i64 k] w fun e w' => e = .returned (.int .i64 0) ∧ PNn w0 d p O L (K.filter fun j => !(j == k)) ps pk m w w' := by
  obtain ⟨Q, S, h1, h2, h3, h4⟩ := h
  refine (h1.unpin (n := an) (k := k) (by simp [an]) (by omega)).mono ?_
  rintro e w' ⟨rfl, O', k1, k2⟩
  obtain ⟨r1, r2, r3, r4⟩ := h2.unpin hk
  rw [r1]
  have hq : (Q.unpin an k).1.fr.length = Q.fr.length ∧ lowF 10000 (Q.unpin an k).1.fr := by
    unfold Pm.unpin
    split
    · exact ⟨rfl, h3.low⟩
    · next i ha =>
      split
      · exact ⟨rfl, h3.low⟩
      · obtain ⟨x, x1, -⟩ := at_some ha
        show (Q.fr.modify i _).length = _ ∧ lowF 10000 (Q.fr.modify i _)
        rw [modify_eq x1]
        exact ⟨List.length_set .., h3.low.set i (h3.low i x x1)⟩
  exact ⟨rfl, O', ⟨_, _, k1, r2, ⟨h3.sm, by rw [hq.1]; exact h3.len, hq.2⟩, fun e => by rw [r3, r4]; exact h4 e⟩, k2⟩
theorem PN.unpin2 (h : PN w0 d p O L K ps pk m w) {k : Nat} (hk : k ∉ K) (hk2 : k ≤ 10000) :
    Calls Try.prog 26 #[.pointer (some ⟨p, 0, none⟩), .string ⟨an.toArray⟩, .int .i64 k] w fun e w' => e = .returned (.int .i64 3) ∧ PNn w0 d p O L K ps pk m w w' := by
  obtain ⟨Q, S, h1, h2, h3, h4⟩ := h
  refine (h1.unpin (n := an) (k := k) (by simp [an]) (by omega)).mono ?_
  rintro e w' ⟨rfl, O', k1, k2⟩
  rw [h2.unpin2 hk] at k1 ⊢
  exact ⟨rfl, O', ⟨Q, S, k1, h2, h3, h4⟩, k2⟩
theorem PN.peak (h : PN w0 d p O L K ps true m w) : Calls Try.prog 27 #[.pointer (some ⟨p, 0, none⟩)] w fun e w' => e = .returned (.tuple #[.int .i64 L, .int .i64 L]) ∧ w.grownBy w' none := by
  obtain ⟨Q, S, h1, h2, h3, h4⟩ := h
  obtain ⟨e1, e2⟩ := h4 rfl
  have := h1.peak
  rw [e1, e2] at this
  exact this
end
end Go.Proofs.Ytkfokgjpeaibpaa

/- The anchor of law10: a pool works. -/
namespace Go.Proofs.Ytkfokgjpeaibpaa
open Go.RowKit Go.Maps
set_option maxRecDepth 100000
set_option maxHeartbeats 400000

theorem neq_disk (d : Nat) (w : World) : (binOp .neq 22 (.pointer (some ⟨d, 0, none⟩)) (.pointer (some ⟨d, 0, none⟩))).run Try.prog w = .ok (.bool false) w := by
  obtain ⟨j, hj⟩ := Option.isSome_iff_exists.1 (by kernel_rfl : (Try.prog.info? 85).isSome = true)
  exact Lib.run_neq_ptr_same w ⟨d, 0, none⟩ Try.underlying22 hj
theorem ok_an0 : okK an 0 := ⟨by simp [an]; unfold maxLen; omega, WalkArith.wf_i64 (by omega)⟩
def wkS : Dk := ((newD 100).create an).1
theorem wkS_create : ((newD 100).create an).2 = 0 := by decide
theorem wkS_pgs : wkS.pgs an = (0, 0) := by decide
theorem wkS_fs : wkS.fs.length = 1 := by decide
def wkP (v : Value) : Pl := (((pl0 2).filled 0 (frN an 0) ok_an0).noted).put 0 (frW an 0 [7] v)
theorem wkP_fr (v : Value) : (wkP v).fr = [frW an 0 [7] v, fr0] := rfl
theorem wkP_wh (v : Value) : (wkP v).wh ⟨an, 0, ok_an0⟩ = some 0 := by
  show (if (⟨an, 0, ok_an0⟩ : PK) = pkey (frN an 0) ok_an0 then some 0 else none) = some 0
  exact if_pos rfl
theorem wkP_pages (v : Value) : pagesN (wkP v).fr an 0 = 1 := by rw [wkP_fr]; rfl
set_option maxHeartbeats 4000000 in
theorem works10_any (w : World) : Calls Try.prog 28 #[] w fun e w' => e = .returned (.bool true) ∧ w.grownBy w' none := by
  have HNEW := Lib.hid (new_ok 100 w (by omega))
  go_enter Try.func28, Try.ntmps28
  go_wp2_with fail
  refine HNEW.out.mono ?_
  rintro e w1 ⟨d, o, c, rfl, h1, g1⟩
  have HPN := Lib.hid (ponew_any h1 2 (by omega) (by omega))
  have H1 := Lib.hid h1
  have G1 := Lib.hid g1
  clear h1 g1 HNEW
  go_wp2_with fail
  refine HPN.out.mono ?_
  rintro e w2 ⟨p, g, mb, rfl, hp2, g2⟩
  have HP2 := Lib.hid hp2
  have H2 := Lib.hid (H1.out.ext g2)
  have G2 := Lib.hid (gr_none G1.out g2)
  have HPD := Lib.hid (pdisk_any hp2)
  have HPF := Lib.hid (pframes_any hp2)
  have el : (pl0 2).fr.length = 2 := rfl
  rw [el] at HPF
  clear hp2 g2 HPN H1 G1 el
  have hnq := neq_disk d
  go_wp2_with (first
    | (go_at_call 48; refine HPD.out.mono ?_; rintro e w3 ⟨rfl, rfl⟩)
    | (go_at_call 49; refine HPF.out.mono ?_; rintro e w3 ⟨rfl, rfl⟩))
  have hcr := pocreate_any H2.out HP2.out (n := an) (by simp [an]) (by simp [newD])
  rw [wkS_create] at hcr
  have HCR := Lib.hid hcr
  clear hcr HPD HPF hnq
  refine HCR.out.mono ?_
  rintro e w4 ⟨rfl, o4, c4, h4, ch4, hp4⟩
  have H4 : Hid (DI w4 w.heap.size o4 d wkS c4) := h4
  have HP4 := Lib.hid hp4
  have G4 : Hid (w.grownBy w4 none) := ch4.gr G2.out fun i hi => (H2.out.inb i hi).1
  clear h4 hp4 ch4 HCR
  have HB : Hid (OwnB (w4.alloc (.cells #[.int .u8 7] 5)) w4.heap.size (.slice (some ⟨w4.heap.size, 0, none⟩) 1 1) [7]) := own_lit w4 w4.heap.size 1 1 1 #[.int .u8 7] 5 (0, 0) (.inr (by simp)) rfl (Nat.le_refl _) (by unfold maxLen; omega) (Nat.le_refl _)
  have hpl := HP4.out.self.lt
  have hgl := HP4.out.fr.lt
  have hml := HP4.out.wh.lt
  have HWR := Lib.hid (powrite_new (H4.out.ext (gr_alloc w4 (.cells #[.int .u8 7] 5) none)) (HP4.out.ext (gr_alloc w4 (.cells #[.int .u8 7] 5) none)) (n := an) (by simp [an]) ok_an0 HB.out.rd
    (fun q e => by
      obtain ⟨q1, q2⟩ := Own.blk_lt HB.out (by omega) e
      exact ⟨q2, po_none_mk (by omega) (by omega) (by omega) rfl⟩) (by simp) (by rw [wkS_pgs]) (by omega) (by rw [wkS_pgs]; show (0 : Int) ≤ pagesN [fr0, fr0] an 0; decide) rfl (i := 0) (by show 0 < 2; omega) rfl (fun j _ hj => absurd hj (by omega)) (by omega) (by omega))
  clear hpl hgl hml
  go_wp2_with fail
  refine HWR.out.mono ?_
  rintro e w5 ⟨rfl, v5, hp5, ch5⟩
  have HP5 : Hid (PoR w5 w.heap.size o4 d p g mb (wkP v5) 1) := hp5
  have H5 := Lib.hid ((H4.out.ext (gr_alloc w4 (.cells #[.int .u8 7] 5) none)).pool (HP4.out.ext (gr_alloc w4 (.cells #[.int .u8 7] 5) none)) ch5)
  have G5 : Hid (w.grownBy w5 none) := poGr ch5 (gr_none G4.out (gr_alloc _ _ none)) HP4.out.low
  have hrd := poread_hit H5.out HP5.out (n := an) (by simp [an]) ok_an0 (by rw [wkS_pgs]) (by omega) (by rw [wkS_pgs]; show (0 : Int) < pagesN (wkP v5).fr an 0; rw [wkP_pages]; omega) (i := 0) (by rw [wkP_fr]; simp) (wkP_wh v5)
  have eb : (wkP v5).fr[0]'(by rw [wkP_fr]; simp) = frW an 0 [7] v5 := rfl
  rw [eb] at hrd
  have HRD := Lib.hid hrd
  clear hp5 ch5 HWR HB hrd eb
  go_wp2_with fail
  refine HRD.out.mono ?_
  rintro e w6 ⟨v6, rfl, b6, hp6, ch6⟩
  have HHE := Lib.hid (held_any hp6)
  have G6 : Hid (w.grownBy w6 none) := poGr ch6 G5.out HP5.out.low
  have e1 : heldN Fr.full ((wkP v5).put 0 { frW an 0 [7] v5 with used := true }).fr = 1 := rfl
  have e2 : heldN Fr.dirty ((wkP v5).put 0 { frW an 0 [7] v5 with used := true }).fr = 1 := rfl
  rw [e1, e2] at HHE
  have B6 := Lib.hid b6.rd
  have b6' : RdB w6 v6 (frW an 0 [7] v5).b := b6.rd
  obtain ⟨A6, c6, rfl⟩ := RdB.form b6'
  clear hp6 ch6 b6 b6' e1 e2 HRD HP5 H5
  go_wp2_with fail
  refine HHE.out.mono ?_
  rintro e w7 ⟨rfl, g7⟩
  obtain ⟨g8, o8, hA8, -, -, hc8⟩ := RdB.at_ (l := [7]) (B6.out.ext g7)
  obtain rfl := hA8 (by simp)
  have hc : w7.cell? ⟨g8, o8, none⟩ = some (.int .u8 7) := hc8 0 (by simp)
  have G7 := Lib.hid (gr_none G6.out g7)
  have el : (frW an 0 [7] v5).b.length = 1 := rfl
  rw [el]
  clear g7 hA8 hc8 B6 HHE el
  go_wp2
  go_ret
  exact ⟨rfl, G7.out⟩
end Go.Proofs.Ytkfokgjpeaibpaa

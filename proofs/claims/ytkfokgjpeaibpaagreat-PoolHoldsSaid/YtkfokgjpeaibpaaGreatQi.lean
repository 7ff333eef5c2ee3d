/-
  PoolHolds: a pool over any disk, in memory: what is done, operation by operation.
-/
import Derived.Test.YtkfokgjpeaibpaaGreatQs
import Derived.Test.YtkfokgjpeaibpaaGreatQf
import Derived.Test.YtkfokgjpeaibpaaGreatGk
import Derived.Test.YtkfokgjpeaibpaaGreatGg
namespace Go.Proofs.YtkfokgjpeaibpaaGreat
open Go.RowKit Go.Maps
set_option maxRecDepth 100000
set_option maxHeartbeats 400000

structure SzH (m : Nat) (Q : Pm) (S : Dk) : Prop where
  sm : Sm S m (20000 * m)
  len : Q.fr.length ≤ 64
  low : lowF ((70000 + m : Nat) : Int) Q.fr
theorem lowF.mono {a b : Int} {fr : List Fr} (h : lowF a fr) (hab : a ≤ b) : lowF b fr := fun i f hf => Int.le_trans (h i f hf) hab
theorem Sm.flip {S : Dk} {a b : Nat} (h : Sm S a b) (n : List UInt8) (p : Nat) (u : UInt8) : Sm (S.flip n p u) a b := by
  refine ⟨?_, h.nl, fun s k hl => ?_⟩
  · show (setF S.fs n _).length ≤ a
    rw [setF_len]; exact h.fl
  · obtain ⟨f, h1, h2, h3⟩ := h.li s k hl
    have e : (S.flip n p u).find s = (S.find s).map fun f => if f.name = n then { f with now := flipL f.now p u, lasts := flipL f.lasts p u } else f := find_setF S.fs n s fun f => rfl
    rw [e, h1]
    refine ⟨_, rfl, h2, ?_⟩
    dsimp only
    split
    · show 64 * k < ((flipL f.now p u).length : Int)
      rw [flipL_len]; exact h3
    · exact h3
section
variable {m : Nat} {Q : Pm} {S : Dk}
theorem SzH.more (h : SzH m Q S) {m' : Nat} (hm : m ≤ m') : SzH m' Q S := ⟨h.sm.mono hm (by omega), h.len, h.low.mono (by omega)⟩
theorem SzH.disk (h : SzH m Q S) {S' : Dk} (hs : Sm S' (m + 1) (20000 * (m + 1))) : SzH (m + 1) Q S' := ⟨hs, h.len, h.low.mono (by omega)⟩
theorem SzH.lowk (h : SzH m Q S) (hm : m ≤ 1000) : lowF 1000000000 Q.fr := h.low.mono (by omega)
def PgLe (S : Dk) : Prop := ∀ n, (S.pgs n).1 ≤ 65536
theorem SzH.pages (h : SzH m Q S) (hp : PgLe S) (n : List UInt8) : (Q.pages S n).1 ≤ ((70001 + m : Nat) : Int) := by
  unfold Pm.pages
  split
  · show (0 : Int) ≤ _; omega
  · have hpn := hp n
    exact (pagesN_le (fr := Q.fr) (n := n) (n0 := ((S.pgs n).1 : Int)) (m := ((70001 + m : Nat) : Int)) (by omega) fun f hf => by
      obtain ⟨i, hi, e⟩ := List.mem_iff_getElem.1 hf
      have := h.low i f (by rw [List.getElem?_eq_getElem hi, e])
      omega).2
theorem bringH_sm (h : SzH m Q S) (n : List UInt8) (k : Int) (v : Value) : Sm (Q.bring S n k v).S (m + 1) (20000 * (m + 1)) := by
  have hb := h.sm.mono (a' := m + 1) (b' := 20000 * (m + 1)) (by omega) (by omega)
  have ht := (h.sm.take Q).mono (a' := m + 1) (b' := 20000 * (m + 1)) (by omega) (by have := h.len; omega)
  unfold Pm.bring
  split
  · exact hb
  · split
    · exact hb
    · split
      · exact hb
      · split
        · exact hb
        · unfold bringR
          split
          · exact hb
          · split
            · exact ht
            · exact ht
theorem SzH.bring (h : SzH m Q S) (hp : PgLe S) (hh : Q.hand < Q.fr.length) (n : List UInt8) (k : Int) (v : Value) : SzH (m + 1) (Q.bring S n k v).Q (Q.bring S n k v).S := by
  obtain ⟨-, -, g3, g4⟩ := bring_gen Q S n k v hh
  refine ⟨bringH_sm h n k v, by rw [g4]; exact h.len, g3 _ (by omega) (h.low.mono (by omega)) ?_⟩
  by_cases hk : k ≤ ((70000 + (m + 1) : Nat) : Int)
  · exact .inl hk
  · right
    have hpg := h.pages hp n
    unfold Pm.bring
    split
    · next h1 => exact h1
    · split
      · simp
      · rw [if_pos (by omega)]; simp
theorem SzH.read (h : SzH m Q S) (hp : PgLe S) (hh : Q.hand < Q.fr.length) (n : List UInt8) (k : Int) (v : Value) : SzH (m + 1) (Q.read S n k v).Q (Q.read S n k v).S := by
  obtain ⟨e1, e2, -⟩ := read_eq Q S n k v
  rw [e1, e2]
  exact h.bring hp hh n k v
theorem SzH.pin (h : SzH m Q S) (hp : PgLe S) (hh : Q.hand < Q.fr.length) (n : List UInt8) (k : Int) (v : Value) : SzH (m + 1) (Q.pin S n k v).Q (Q.pin S n k v).S := by
  have hB := h.bring hp hh n k v
  by_cases he : (Q.bring S n k v).e = 0
  · obtain ⟨f, f1, f2⟩ := (bring_gen Q S n k v hh).1 he
    have e : Q.pin S n k v = ⟨(Q.bring S n k v).Q.bytes (Q.bring S n k v).i, 0, (Q.bring S n k v).Q.pinUp (Q.bring S n k v).i, (Q.bring S n k v).S⟩ := by
      unfold Pm.pin; exact if_neg (by rw [he]; simp)
    rw [e]
    refine ⟨hB.sm, ?_, ?_⟩
    · show ((Q.bring S n k v).Q.fr.modify _ _).length ≤ 64
      rw [modify_eq f1, List.length_set]; exact hB.len
    · show lowF _ ((Q.bring S n k v).Q.fr.modify _ _)
      rw [modify_eq f1]
      exact hB.low.set _ (hB.low _ f f1)
  · have e : Q.pin S n k v = ⟨[], (Q.bring S n k v).e, (Q.bring S n k v).Q, (Q.bring S n k v).S⟩ := by
      unfold Pm.pin; exact if_pos he
    rw [e]
    exact hB
theorem SzH.unpin (h : SzH m Q S) (n : List UInt8) (k : Int) : SzH m (Q.unpin n k).1 S := by
  unfold Pm.unpin
  split
  · exact h
  · next i ha =>
    split
    · exact h
    · obtain ⟨x, x1, -⟩ := at_some ha
      refine ⟨h.sm, ?_, ?_⟩
      · show (Q.fr.modify i _).length ≤ 64
        rw [modify_eq x1, List.length_set]; exact h.len
      · show lowF _ (Q.fr.modify i _)
        rw [modify_eq x1]
        exact h.low.set i (h.low i x x1)
theorem SzH.write (h : SzH m Q S) (hp : PgLe S) (hh : Q.hand < Q.fr.length) (n : List UInt8) (k : Int) (b : List UInt8) (v : Value) : SzH (m + 1) (Q.write S n k b v).Q (Q.write S n k b v).S := by
  have hb := h.more (m' := m + 1) (by omega)
  have ht := (h.sm.take Q).mono (a' := m + 1) (b' := 20000 * (m + 1)) (by omega) (by have := h.len; omega)
  have hpg := h.pages hp n
  obtain ⟨t1, t2, -⟩ := take_gen Q S hh
  unfold Pm.write
  split
  · exact hb
  · split
    · exact hb
    · split
      · exact hb
      · next h2 =>
        have hk : k ≤ ((70000 + (m + 1) : Nat) : Int) := by
          rw [not_or] at h2
          omega
        split
        · next i hat =>
          obtain ⟨x, x1, -⟩ := at_some hat
          refine ⟨hb.sm, ?_, ?_⟩
          · show (Q.fr.modify i _).length ≤ 64
            rw [modify_eq x1, List.length_set]; exact h.len
          · show lowF _ (Q.fr.modify i _)
            rw [modify_eq x1]
            exact hb.low.set i (hb.low i x x1)
        · split
          · exact ⟨ht, by rw [t1]; exact h.len, hb.low.take (by omega) S⟩
          · next h5 =>
            obtain ⟨f, f1, f2⟩ := t2 (by simpa using h5)
            have hi := (List.getElem?_eq_some_iff.1 f1).1
            refine ⟨ht, ?_, ?_⟩
            · show (((Q.take S).Q.fr.set (Q.take S).i _).modify (Q.take S).i _).length ≤ 64
              rw [modify_eq (List.getElem?_set_self hi), List.length_set, List.length_set, t1]; exact h.len
            · show lowF _ (((Q.take S).Q.fr.set (Q.take S).i _).modify (Q.take S).i _)
              rw [modify_eq (List.getElem?_set_self hi)]
              exact ((hb.low.take (by omega) S).set _ hk).set _ hk
theorem SzH.flush (h : SzH m Q S) (n : List UInt8) : SzH (m + 1) (Q.flush S n).Q (Q.flush S n).S := by
  have hb := h.more (m' := m + 1) (by omega)
  have hl := dirtyL_len Q.fr n 0 16777216
  have hp := (Sm.putL (n := n) (dirtyL Q.fr n 0 16777216) Q.fr S m (20000 * m) h.sm).mono (a' := m + 1) (b' := 20000 * (m + 1)) (by omega) (by have := h.len; omega)
  have hs := putL_sig (n := n) (dirtyL Q.fr n 0 16777216) Q.fr S
  unfold Pm.flush
  split
  · exact hb
  · split
    · exact ⟨hp, by rw [len_sig hs]; exact h.len, hb.low.sig hs⟩
    · exact ⟨hp.sync n, by rw [len_sig hs]; exact h.len, hb.low.sig hs⟩
theorem SzH.drop (h : SzH m Q S) (n : List UInt8) : SzH (m + 1) (Q.drop S n).Q (Q.drop S n).S := by
  have hb := h.more (m' := m + 1) (by omega)
  unfold Pm.drop
  split
  · exact hb
  · refine ⟨(h.sm.remove n).mono (by omega) (by omega), by show (Q.fr.map _).length ≤ 64; rw [List.length_map]; exact h.len, fun i f hf => ?_⟩
    have hf2 : (Q.fr.map fun f => if ofN n f then fr0 else f)[i]? = some f := hf
    rw [List.getElem?_map] at hf2
    cases hq : Q.fr[i]? with
    | none => rw [hq] at hf2; cases hf2
    | some g =>
      rw [hq] at hf2
      have : (if ofN n g then fr0 else g) = f := by simpa using hf2
      subst this
      split
      · show (0 : Int) ≤ _; omega
      · exact hb.low i g hq
end
/-- a pool that n pins were laid on. -/
def HS (w0 : World) (d p L n m : Nat) (O : Own1) (w : World) : Prop := ∃ Q S, PA w0 d p O Q S w ∧ HoldI L n Q ∧ SzH m Q S
section
variable {w0 w w' w1 : World} {d p L n m : Nat} {O : Own1}
theorem PA.pgLe {Q : Pm} {S : Dk} (h : PA w0 d p O Q S w) : PgLe S := fun nm => by
  obtain ⟨o, c, g, mb, rfl, h1, -⟩ := h.ex
  unfold Dk.pgs
  split
  · exact Nat.zero_le _
  · split
    · exact Nat.zero_le _
    · have : (S.size nm).1 ≤ 16777216 := by
        unfold Dk.size
        split
        · exact Nat.zero_le _
        · split
          · exact Nat.zero_le _
          · cases hf : S.find nm with
            | none => exact Nat.zero_le _
            | some f => exact (h1.file f (find_some hf).1).small.2.1
      show (S.size nm).1 / 256 ≤ 65536
      omega
theorem PA.far {Q : Pm} {S : Dk} (h : PA w0 d p O Q S w) {r : Option Nat} (g : w.grownBy w' r) (hr : ∀ k, r = some k → O k = none ∧ w0.heap.size ≤ k) : PA w0 d p O Q S w' := by
  have hc : Ch (fun i => if r = some i then some (0, []) else none) w (fun i => if r = some i then some (0, []) else none) w' := Ch.of_gr g fun k e => by
    show (if r = some k then some (0, []) else none) ≠ none
    rw [if_pos e]; simp
  refine (h.keep hc (fun i hi => ?_) ?_).1
  · show (if r = some i then some (0, []) else none) = none
    rw [if_neg fun e => hi (hr i e).1]
  · exact gr_trans h.gr g (.inr fun k e => (hr k e).2)
theorem sta_hs (w0 : World) (d p L n m : Nat) : Sta w0 (HS w0 d p L n m) where
  far := fun ⟨Q, S, h1, h2⟩ g hr => ⟨Q, S, h1.far g hr, h2⟩
  gr := fun ⟨_, _, h1, _⟩ => h1.gr
  fresh := fun ⟨_, _, h1, _⟩ hi => h1.fresh hi
theorem PA.disk2 {F : Nat} {args : Array Value} {R : Ending → Prop} {T : Dk → Prop} {Q : Pm} {S : Dk} (h : PA w0 d p O Q S w) (hd : ∀ o c, DI w w0.heap.size o d S c → Calls Tryz.prog F args w fun e w' => R e ∧ ∃ S', DOut o w w0.heap.size d S' w' ∧ T S') : Calls Tryz.prog F args w fun e w' => R e ∧ ∃ S', T S' ∧ PP w0 d p O Q S' w w' := by
  obtain ⟨o, c, g, mb, rfl, h1, h2⟩ := h.ex
  refine (hd o c h1).mono ?_
  rintro e w' ⟨e1, S', ⟨o', c', k1, k2⟩, ht⟩
  exact ⟨e1, S', ht, h.out ⟨o', c', k1, h2.ch k2, k2.po (p := p) (g := g) (mb := mb)⟩ (BvIn.refl _ _)⟩
/-- what is done to the disk alone. -/
theorem PA.disk {F : Nat} {args : Array Value} {R : Ending → Prop} {Q : Pm} {S S' : Dk} (h : PA w0 d p O Q S w) (hd : ∀ o c, DI w w0.heap.size o d S c → Calls Tryz.prog F args w fun e w' => R e ∧ DOut o w w0.heap.size d S' w') : Calls Tryz.prog F args w fun e w' => R e ∧ PP w0 d p O Q S' w w' := by
  obtain ⟨o, c, g, mb, rfl, h1, h2⟩ := h.ex
  refine (hd o c h1).mono ?_
  rintro e w' ⟨e1, o', c', k1, k2⟩
  exact ⟨e1, h.out ⟨o', c', k1, h2.ch k2, k2.po (p := p) (g := g) (mb := mb)⟩ (BvIn.refl _ _)⟩
end
end Go.Proofs.YtkfokgjpeaibpaaGreat

/- PoolHolds: does, whatever is asked. -/
namespace Go.Proofs.YtkfokgjpeaibpaaGreat
open Go.RowKit Go.Maps
set_option maxRecDepth 100000
set_option maxHeartbeats 400000

theorem blk_ownQ {v : Value} {q : Nat} (h : blk v = some q) : v.ownBlock = some q := by
  cases v with
  | slice A n c =>
    cases A with
    | none => cases h
    | some a =>
      have h2 : (if c = 0 then none else some a.block) = some q := h
      split at h2
      · cases h2
      · exact h2
  | _ => cases h
/-- how many pins behind it. -/
def pinsBy (kind : Int) (er n : Nat) : Nat := if kind = 3 ∧ er = 0 then n + 1 else if kind = 4 ∧ er = 0 then n - 1 else n
def HoldT (w0 : World) (d p L n m : Nat) (O : Own1) (kind : Int) (w : World) (e : Ending) (w' : World) : Prop := ∃ (A : Option Addr) (l c er : Nat) (cnt : Int), e = .returned (.agg #[.slice A l c, .int .i64 cnt, .int .i64 er]) ∧ (kind = 4 → er = 0 → 1 ≤ n) ∧ ∃ O', HS w0 d p L (pinsBy kind er n) (m + 1) O' w' ∧ Ch O w O' w'
theorem HoldT.of {w0 w w' : World} {d p L n m : Nat} {O : Own1} {kind : Int} {bs : List UInt8} {cnt : Int} {er : Nat} {e : Ending} {n' : Nat} (h : ToldQ (HS w0 d p L n' (m + 1)) O w bs cnt er e w') (hn : pinsBy kind er n = n') (h4 : kind = 4 → er = 0 → 1 ≤ n) : HoldT w0 d p L n m O kind w e w' := by
  obtain ⟨A, c, e1, -, O', h1, h2, -⟩ := h
  subst hn
  exact ⟨A, _, c, er, cnt, e1, h4, O', h1, h2⟩
section
variable {w0 w w' w1 : World} {d p L n m : Nat} {O : Own1}
theorem HoldI.lowP {Q : Pm} (h : HoldI L n Q) (hn : n ≤ 1000) : lowP 1000000000 Q.fr := fun i f hf => by
  have hs := sum_set (y := fr0) hf
  rw [h.sum] at hs
  have : fr0.pins = 0 := rfl
  omega
theorem pinsBy_no {kind : Int} (er n : Nat) (h3 : kind ≠ 3) (h4 : kind ≠ 4) : pinsBy kind er n = n := by
  unfold pinsBy
  rw [if_neg fun e => h3 e.1, if_neg fun e => h4 e.1]
theorem stn_pp {Q' : Pm} {S' : Dk} {W : World} (h : PP w0 d p O Q' S' W w') (h1 : HoldI L n Q') (h2 : SzH m Q' S') : StN (HS w0 d p L n m) O W w' := by
  obtain ⟨O', k1, k2⟩ := h
  exact ⟨O', ⟨Q', S', k1, h1, h2⟩, k2⟩
theorem PA.fr240 {Q : Pm} {S : Dk} (h : PA w0 d p O Q S w) (i : Nat) : (Q.bytes i).length ≤ 240 := by
  obtain ⟨o, c, g, mb, rfl, -, h2⟩ := h.ex
  unfold Pm.bytes
  cases hf : Q.fr[i]? with
  | none => simp
  | some f => exact (h2.cellsOk i f hf).len.1
theorem read_len {Q : Pm} {S : Dk} {nm : List UInt8} {k : Int} {v : Value} (h : PA w0 d p O (Q.read S nm k v).Q (Q.read S nm k v).S w) : (Q.read S nm k v).b.length ≤ 240 := by
  by_cases he : (Q.bring S nm k v).e = 0
  · have e : Q.read S nm k v = ⟨(Q.bring S nm k v).Q.bytes (Q.bring S nm k v).i, 0, (Q.bring S nm k v).Q, (Q.bring S nm k v).S⟩ := by
      unfold Pm.read; exact if_neg (by rw [he]; simp)
    rw [e] at h ⊢
    exact h.fr240 _
  · have e : Q.read S nm k v = ⟨[], (Q.bring S nm k v).e, (Q.bring S nm k v).Q, (Q.bring S nm k v).S⟩ := by
      unfold Pm.read; exact if_pos he
    rw [e]; simp
theorem pin_len {Q : Pm} {S : Dk} {nm : List UInt8} {k : Int} {v : Value} (h : PA w0 d p O (Q.pin S nm k v).Q (Q.pin S nm k v).S w) (hh : Q.hand < Q.fr.length) : (Q.pin S nm k v).b.length ≤ 240 := by
  by_cases he : (Q.bring S nm k v).e = 0
  · have e : Q.pin S nm k v = ⟨(Q.bring S nm k v).Q.bytes (Q.bring S nm k v).i, 0, (Q.bring S nm k v).Q.pinUp (Q.bring S nm k v).i, (Q.bring S nm k v).S⟩ := by
      unfold Pm.pin; exact if_neg (by rw [he]; simp)
    rw [e] at h ⊢
    have h9 := h.fr240 (Q.bring S nm k v).i
    obtain ⟨f, f1, f2⟩ := (bring_gen Q S nm k v hh).1 he
    have e2 : ((Q.bring S nm k v).Q.pinUp (Q.bring S nm k v).i).bytes (Q.bring S nm k v).i = (Q.bring S nm k v).Q.bytes (Q.bring S nm k v).i := by
      unfold Pm.bytes
      have e3 : ((Q.bring S nm k v).Q.pinUp (Q.bring S nm k v).i).fr = (Q.bring S nm k v).Q.fr.set (Q.bring S nm k v).i { f with pins := f.pins + 1 } := modify_eq f1 _
      rw [e3, List.getElem?_set_self (List.getElem?_eq_some_iff.1 f1).1, f1]
    rw [e2] at h9
    exact h9
  · have e : Q.pin S nm k v = ⟨[], (Q.bring S nm k v).e, (Q.bring S nm k v).Q, (Q.bring S nm k v).S⟩ := by
      unfold Pm.pin; exact if_pos he
    rw [e]; simp
set_option maxHeartbeats 2000000 in
theorem hs_does (h : HS w0 d p L n m O w) (hm : m ≤ 500) (hn5 : n ≤ 1000) (kind : Int) {nm : List UInt8} (hnm : nm.length ≤ 1000000000) {k : Int} (hk : -9223372036854775808 ≤ k ∧ k ≤ 9223372036854775807) {bv : Value} {b : List UInt8} (hb : RdB w bv b) (hbl : b.length ≤ 100000) :
    Calls Tryz.prog 13 #[.pointer (some ⟨p, 0, none⟩), .pointer (some ⟨d, 0, none⟩), .agg #[.int .i64 kind, .string ⟨nm.toArray⟩, .int .i64 k, bv]] w (HoldT w0 d p L n m O kind w) := by
  have hS := sta_hs w0 d p L n m
  have hS1 := sta_hs w0 d p L n (m + 1)
  obtain ⟨Q, S, h1, h2, h3⟩ := id h
  have hfl : S.fs.length ≤ 1000000 := by have := h3.sm.fl; omega
  have hnl : S.nl ≤ 1000000000000 := by have := h3.sm.nl; omega
  have hlo := h3.lowk (by omega)
  have hlp := h2.lowP hn5
  have hh : Q.hand < Q.fr.length := by rw [h2.len]; exact h2.hand
  have hp := h1.pgLe
  by_cases k0 : kind = 0
  · subst k0
    exact (qdoes_create hS hS1 h nm k bv (er := (S.create nm).2) fun W g => ((h1.ext g).create hnm hfl).mono fun e w' ⟨e1, k1⟩ => ⟨e1, stn_pp k1 h2 (h3.disk ((h3.sm.create nm).mono (by omega) (by omega)))⟩).mono fun e w' hq => HoldT.of hq (pinsBy_no _ _ (by decide) (by decide)) (fun e => absurd e (by decide))
  by_cases k1 : kind = 1
  · subst k1
    exact (qdoes_drop hS hS1 h nm k bv (er := (Q.drop S nm).e) fun W g => ((h1.ext g).drop hnm).mono fun e w' ⟨e1, k1⟩ => ⟨e1, stn_pp k1 (h2.drop S nm) (h3.drop nm)⟩).mono fun e w' hq => HoldT.of hq (pinsBy_no _ _ (by decide) (by decide)) (fun e => absurd e (by decide))
  by_cases k2 : kind = 2
  · subst k2
    exact (qdoes_pages hS hS1 h nm k bv (er := (Q.pages S nm).2) (cnt := (Q.pages S nm).1) fun W g => ((h1.ext g).pages hnm).mono fun e w' ⟨e1, g1⟩ => ⟨e1, O, ⟨Q, S, (h1.ext g).ext g1, h2, h3.more (by omega)⟩, Ch.ext g1⟩).mono fun e w' hq => HoldT.of hq (pinsBy_no _ _ (by decide) (by decide)) (fun e => absurd e (by decide))
  by_cases k3 : kind = 3
  · subst k3
    refine (qdoes_pin hS (SF := fun er => HS w0 d p L (pinsBy 3 er n) (m + 1)) (fun er => sta_hs w0 d p L _ (m + 1)) h nm k bv (P := fun r er => r.length ≤ 100000) (fun r er hr => hr) fun W g => ((h1.ext g).pin hnm hk hlo hlp hfl hnl).mono fun e w' ⟨v, vb, e1, ho, O', q1, q2, q3⟩ => ⟨vb, (Q.pin S nm k v).b, (Q.pin S nm k v).e, by have := pin_len q1 hh; omega, e1, ho, O', ⟨_, _, q1, ?_, h3.pin hp hh nm k v⟩, q2, fun q e => q3 q (blk_ownQ e)⟩).mono fun e w' ⟨r, er, _, hq⟩ => HoldT.of hq rfl (fun e => absurd e (by decide))
    have h9 := h2.pin S nm k v
    unfold pinsBy
    by_cases he : (Q.pin S nm k v).e = 0
    · rw [if_pos he] at h9
      rw [if_pos ⟨rfl, he⟩]; exact h9
    · rw [if_neg he] at h9
      rw [if_neg (fun e => he e.2), if_neg (fun e => absurd e.1 (by decide))]; exact h9
  by_cases k4 : kind = 4
  · subst k4
    obtain ⟨u1, u2⟩ := h2.unpin nm k
    have hS2 := sta_hs w0 d p L (pinsBy 4 (Q.unpin nm k).2 n) (m + 1)
    refine (qdoes_unpin hS hS2 h nm k bv (er := (Q.unpin nm k).2) fun W g => ((h1.ext g).unpin hnm hk).mono fun e w' ⟨e1, k1⟩ => ⟨e1, stn_pp k1 ?_ ((h3.unpin nm k).more (by omega))⟩).mono fun e w' hq => HoldT.of hq rfl (fun _ e => u2 e)
    unfold pinsBy
    by_cases he : (Q.unpin nm k).2 = 0
    · rw [if_pos he] at u1
      rw [if_neg (fun e => absurd e.1 (by decide)), if_pos ⟨rfl, he⟩]; exact u1
    · rw [if_neg he] at u1
      rw [if_neg (fun e => absurd e.1 (by decide)), if_neg (fun e => he e.2)]; exact u1
  by_cases k5 : kind = 5
  · subst k5
    exact (qdoes_read hS (SF := fun _ => HS w0 d p L n (m + 1)) (fun _ => hS1) h nm k bv (P := fun r er => r.length ≤ 100000) (fun r er hr => hr) fun W g => ((h1.ext g).read hnm hk hlo hfl hnl).mono fun e w' ⟨v, vb, e1, ho, O', q1, q2, q3⟩ => ⟨vb, (Q.read S nm k v).b, (Q.read S nm k v).e, by have := read_len q1; omega, e1, ho, O', ⟨_, _, q1, h2.read S nm k v, h3.read hp hh nm k v⟩, q2, fun q e => q3 q (blk_ownQ e)⟩).mono fun e w' ⟨r, er, _, hq⟩ => HoldT.of hq (pinsBy_no _ _ (by decide) (by decide)) (fun e => absurd e (by decide))
  by_cases k6 : kind = 6
  · subst k6
    exact (qdoes_write hS (SF := fun _ => HS w0 d p L n (m + 1)) (fun _ => hS1) h nm k hb hbl (P := fun _ => True) fun W v g hv hvo => ((h1.ext g).write hnm hk hlo hfl hnl hv (fun q e => ⟨(hvo q e).1, h1.fresh (hvo q e).2⟩) (by omega)).mono fun e w' ⟨v9, e1, k1⟩ => ⟨_, trivial, e1, stn_pp k1 (h2.write S nm k b v9) (h3.write hp hh nm k b v9)⟩).mono fun e w' ⟨er, _, hq⟩ => HoldT.of hq (pinsBy_no _ _ (by decide) (by decide)) (fun e => absurd e (by decide))
  by_cases k7 : kind = 7
  · subst k7
    exact (qdoes_flush hS hS1 h nm k bv (er := (Q.flush S nm).e) fun W g => ((h1.ext g).flush hnm hfl hnl).mono fun e w' ⟨e1, k1⟩ => ⟨e1, stn_pp k1 (h2.flush S nm) (h3.flush nm)⟩).mono fun e w' hq => HoldT.of hq (pinsBy_no _ _ (by decide) (by decide)) (fun e => absurd e (by decide))
  by_cases k8 : kind = 8
  · subst k8
    exact (qdoes_quota hS hS1 h nm k bv (er := (S.setQuota k).2) fun W g => ((h1.ext g).disk (R := fun e => e = .returned (.int .i64 (S.setQuota k).2)) fun o c hd => quota_any hd k hk).mono fun e w' ⟨e1, k1⟩ => ⟨e1, stn_pp k1 h2 (h3.disk ((h3.sm.setQuota k).mono (by omega) (by omega)))⟩).mono fun e w' hq => HoldT.of hq (pinsBy_no _ _ (by decide) (by decide)) (fun e => absurd e (by decide))
  by_cases k9 : kind = 9
  · subst k9
    exact (qdoes_arm hS hS1 h nm k bv (er := (S.arm k).2) fun W g => ((h1.ext g).disk (R := fun e => e = .returned (.int .i64 (S.arm k).2)) fun o c hd => arm_any hd k hk).mono fun e w' ⟨e1, k1⟩ => ⟨e1, stn_pp k1 h2 (h3.disk ((h3.sm.arm k).mono (by omega) (by omega)))⟩).mono fun e w' hq => HoldT.of hq (pinsBy_no _ _ (by decide) (by decide)) (fun e => absurd e (by decide))
  by_cases k10 : kind = 10
  · subst k10
    cases hdd : S.dead with
    | false =>
      exact (qdoes_on hS hS1 h nm k bv (er := 14) fun W g => ((h1.ext g).disk2 (R := fun e => e = .returned (.int .i64 14)) (T := fun S' => S' = S) fun o c hd => (on_alive hd hdd (.slice none 0 0)).mono fun e w' ⟨e1, e2⟩ => ⟨e1, S, ⟨o, c, e2 ▸ hd, Ch.ext (e2 ▸ gr_refl _ _)⟩, rfl⟩).mono fun e w' ⟨e1, S', hs, k1⟩ => ⟨e1, stn_pp k1 h2 (h3.disk (hs ▸ h3.sm.mono (by omega) (by omega)))⟩).mono fun e w' hq => HoldT.of hq (pinsBy_no _ _ (by decide) (by decide)) (fun e => absurd e (by decide))
    | true =>
      exact (qdoes_on hS hS1 h nm k bv (er := 0) fun W g => ((h1.ext g).disk2 (R := fun e => e = .returned (.int .i64 0)) (T := fun S' => ∃ T, S' = S.lit T) fun o c hd => (on_any sorts_any hd h3.sm.li (by have := h3.sm.nl; omega) hfl hdd (.slice none 0 0) [] (Rd.nil _ _) (by simp)).mono fun e w' ⟨e1, ls, e2, k1⟩ => ⟨e1, _, k1, _, rfl⟩).mono fun e w' ⟨e1, S', ⟨T, hs⟩, k1⟩ => ⟨e1, stn_pp k1 h2 (h3.disk (hs ▸ (h3.sm.lit T).mono (by omega) (by omega)))⟩).mono fun e w' hq => HoldT.of hq (pinsBy_no _ _ (by decide) (by decide)) (fun e => absurd e (by decide))
  by_cases k11 : kind = 11
  · subst k11
    exact (qdoes_flip hS hS1 h nm k bv (er := S.flipE nm k) fun W g => ((h1.ext g).disk2 (R := fun e => e = .returned (.int .i64 (S.flipE nm k))) (T := fun S' => S' = S ∨ ∃ (n : List UInt8) (p : Nat), S' = S.flip n p 1) fun o c hd => flip_all hd nm hnm hk).mono fun e w' ⟨e1, S', hs, k1⟩ => ⟨e1, stn_pp k1 h2 (h3.disk (by
      rcases hs with rfl | ⟨n9, p9, rfl⟩
      · exact h3.sm.mono (by omega) (by omega)
      · exact (h3.sm.flip n9 p9 1).mono (by omega) (by omega)))⟩).mono fun e w' hq => HoldT.of hq (pinsBy_no _ _ (by decide) (by decide)) (fun e => absurd e (by decide))
  exact (qdoes_other hS1 (St := HS w0 d p L n (m + 1)) ⟨Q, S, h1, h2, h3.more (by omega)⟩ ⟨k0, k1, k2, k3, k4, k5, k6, k7, k8, k9, k10, k11⟩ nm k bv).mono fun e w' hq => HoldT.of hq (pinsBy_no _ _ k3 k4) (fun e => absurd e k4)
end
end Go.Proofs.YtkfokgjpeaibpaaGreat

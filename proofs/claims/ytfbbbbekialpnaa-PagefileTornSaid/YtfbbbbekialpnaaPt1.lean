/-
  PagefileTorn: the pages laid, and synced; pages seen from an older world.
-/
import Derived.Test.YtfbbbbekialpnaaPt0
import Derived.Test.YtfbbbbekialpnaaLd
import Derived.Test.YtfbbbbekialpnaaDa
namespace Go.Proofs.Ytfbbbbekialpnaa
open Go.RowKit
set_option maxRecDepth 100000
set_option maxHeartbeats 400000

structure PgT (q : Nat) (S : Dk) (n : Nat) (g : Nat → List UInt8) (m : Nat) : Prop where
  pg : PgS q S n g m
  lo : ∀ s k, S.loose s k = true → s = an
section
variable {q n m : Nat} {S : Dk} {g : Nat → List UInt8}
theorem pwrite_eq {c la : List UInt8} (hi : Idle S) (hq : S.quota = q) (e : S.fs = [⟨an, c, la⟩]) (hc : c.length = 256 * n) {k : Nat} (hk : k ≤ n) (hn : n ≤ 1000) (hq4 : 4 * (n + 1) ≤ q) {b : List UInt8} (hb : b.length ≤ 240) :
    S.pwrite an k b = (S.wrote an (k * 256) (pagB (crcS an) k b), 0) := by
  have hf : S.find an = some ⟨an, c, la⟩ := by unfold Dk.find; rw [e]; simp
  have hl := pagB_len (tag := crcS an) (k := k) hb
  have hu : S.used = 4 * n := by unfold Dk.used; rw [e]; simp [hc, sectors]; omega
  have hsz : S.size an = (256 * n, 0) := by rw [size_idle hi an_right hf]; exact congrArg (·, 0) hc
  have hw : S.write an ((k : Int) * 256) (pagB (crcS an) k b) = (S.wrote an (k * 256) (pagB (crcS an) k b), 0) := by
    have := write_idle (S := S) (f := ⟨an, c, la⟩) (n := an) (p := k * 256) (b := pagB (crcS an) k b) hi an_right hf (by show k * 256 ≤ c.length; rw [hc]; omega) (by rw [hl]; omega) (by
      intro hx
      have hx2 := hx.2
      unfold moreS at hx2
      rw [hq, hu, hl] at hx2
      have e1 : (⟨an, c, la⟩ : Fi).now.length = 256 * n := hc
      rw [e1] at hx2
      unfold sectors at hx2
      omega)
    rw [show ((k * 256 : Nat) : Int) = (k : Int) * 256 from by push_cast; rfl] at this
    exact this
  unfold Dk.pwrite
  rw [hsz, if_neg (by omega), if_neg (by omega), if_neg (by simp), if_neg (by simp; omega), Int.toNat_natCast, hw]
theorem PgT.write (h : PgT q S n g m) {k : Nat} (hk : k ≤ n) (hn : n ≤ 1000) (hq : 4 * (n + 1) ≤ q) {b : List UInt8} (hb : b.length ≤ 240) :
    (S.pwrite an k b).2 = 0 ∧ PgT q (S.pwrite an k b).1 (max n (k + 1)) (updG g k b) (m + 1) := by
  obtain ⟨h1, h2⟩ := h.pg.write hk hn hq hb
  refine ⟨h1, h2, fun s j hl => ?_⟩
  obtain ⟨c, la, e, hh⟩ := h.pg.file
  rw [pwrite_eq h.pg.idle h.pg.quota e hh.len hk hn hq hb] at hl
  have hl2 : ((s == an && hits (k * 256) (pagB (crcS an) k b).length j) || S.loose s j) = true := hl
  rcases Bool.or_eq_true_iff.1 hl2 with e | e
  · simp at e; exact e.1
  · exact h.lo s j e
end
def PgX (w0 w : World) (d pf q n : Nat) (g : Nat → List UInt8) (m : Nat) : Prop := ∃ o c S, DI w w0.heap.size o d S c ∧ PgT q S n g m ∧ PfR w w0.heap.size o d pf an ∧ w0.grownBy w none
/-- the pages were synced. -/
def PgY (w0 w : World) (d pf n : Nat) (g : Nat → List UInt8) (m : Nat) : Prop := ∃ o S c0, DA w0 d o S w ∧ PfR w w0.heap.size o d pf an ∧ One S an c0 c0 4096 ∧ Holds c0 (crcS an) n g ∧ (∀ s k, S.loose s k = false) ∧ S.nl ≤ 256 * m
section
variable {w0 w w' : World} {d pf q n m : Nat} {g : Nat → List UInt8}
theorem PgY.gr (h : PgY w0 w d pf n g m) : w0.grownBy w none := by obtain ⟨_, _, _, h, _⟩ := h; exact h.gr
theorem PgX.gr (h : PgX w0 w d pf q n g m) : w0.grownBy w none := by obtain ⟨_, _, _, _, _, _, h⟩ := h; exact h
theorem PgX.ext (h : PgX w0 w d pf q n g m) (hg : w.grownBy w' none) : PgX w0 w' d pf q n g m := by
  obtain ⟨o, c, S, h1, h2, h3, h4⟩ := h
  exact ⟨o, c, S, h1.ext hg, h2, h3.ext hg, gr_none h4 hg⟩
theorem PgX.write (h : PgX w0 w d pf q n g m) {k : Nat} (hk : k ≤ n) (hn : n ≤ 1000) (hm : m ≤ 1000000) (hq : 4 * (n + 1) ≤ q) {bv : Value} {b : List UInt8} (hb : RdB w bv b) (hb2 : b.length ≤ 240) :
    Calls Try.prog 37 #[.pointer (some ⟨pf, 0, none⟩), .int .i64 k, bv] w fun e w' => e = .returned (.int .i64 0) ∧ PgX w0 w' d pf q (max n (k + 1)) (updG g k b) (m + 1) := by
  obtain ⟨o, c, S, h1, h2, h3, h4⟩ := h
  have hfs : S.fs.length = 1 := by obtain ⟨c', la, e, _⟩ := h2.pg.file; rw [e]; rfl
  refine (pwrite_any h1 h3 (by simp) k (by omega) bv b hb (by omega) (by omega) (by have := h2.pg.nl; omega)).mono ?_
  obtain ⟨e0, hS⟩ := h2.write hk hn hq hb2
  rintro e w' ⟨rfl, o', c', h1', ch⟩
  exact ⟨by rw [e0]; rfl, o', c', _, h1', hS, h3.ch ch, ch.gr h4 fun i hi => (h1.inb i hi).1⟩
theorem PgX.sync (h : PgX w0 w d pf 4096 n g m) : Calls Try.prog 39 #[.pointer (some ⟨pf, 0, none⟩)] w fun e w' => e = .returned (.int .i64 0) ∧ PgY w0 w' d pf n g m := by
  obtain ⟨o, c, S, h1, h2, h3, h4⟩ := h
  refine (psync_any h1 h3 (by simp)).mono ?_
  obtain ⟨c0, la, e, hh⟩ := h2.pg.file
  have hf : S.find an = some ⟨an, c0, la⟩ := by unfold Dk.find; rw [e]; simp
  rw [sync_idle h2.pg.idle an_right hf]
  rintro e w' ⟨rfl, o', c', h1', ch⟩
  refine ⟨rfl, o', _, c0, ⟨⟨c', h1'⟩, ch.gr h4 fun i hi => (h1.inb i hi).1⟩, h3.ch ch, ⟨⟨h2.pg.idle.1, h2.pg.idle.2⟩, ?_, h2.pg.quota⟩, hh, fun s k => ?_, h2.pg.nl⟩
  · show setF S.fs an _ = _
    rw [e, setF_one]
  · show (S.loose s k && !(s == an)) = false
    cases hl : S.loose s k with
    | false => rfl
    | true => rw [h2.lo s k hl]; simp
theorem pcreateX (w0 w : World) (d q : Nat) (o : Own1) (c : Con) (h : DI w w0.heap.size o d (newD q) c) (hg : w0.grownBy w none) (g : Nat → List UInt8) :
    Calls Try.prog 73 #[.pointer (some ⟨d, 0, none⟩), .string ⟨an.toArray⟩] w fun e w' => ∃ pf, e = .returned (.tuple #[.pointer (some ⟨pf, 0, none⟩), .int .i64 0]) ∧ PgX w0 w' d pf q 0 g 0 := by
  refine (pcreate_any h (n := an) (by simp) (by simp [newD])).mono ?_
  obtain ⟨e0, hS⟩ := PgS.create q g
  rintro e w' ⟨o', c', h1, ch, ⟨_, pf, rfl, _, hp⟩ | ⟨hne, _⟩⟩
  · refine ⟨pf, rfl, o', c', _, h1, ⟨hS, fun s k hl => ?_⟩, hp, ch.gr hg fun i hi => (h.inb i hi).1⟩
    rw [create_idle (newD_idle q) an_right rfl] at hl
    cases hl
  · exact absurd e0 hne
end
def LaidOut2 (w : World) (ll : List (List UInt8)) (e : Ending) (w' : World) : Prop :=
  w.grownBy w' none ∧ ((e = .returned (.tuple #[.pointer none, .pointer none, .bool false])) ∨
    ((∀ i, i < ll.length → (ll.getD i []).length ≤ 240) ∧ ∃ d pf, e = .returned (.tuple #[.pointer (some ⟨d, 0, none⟩), .pointer (some ⟨pf, 0, none⟩), .bool true]) ∧ PgY w w' d pf ll.length (fun i => ll.getD i []) ll.length))
set_option maxHeartbeats 2000000 in
theorem laid2_any (v : Value) (ll : List (List UInt8)) (w : World) (h : RdBB w v ll) (hl : ll.length ≤ 40) :
    Calls Try.prog 36 #[v] w (LaidOut2 w ll) := by
  obtain ⟨A, c0, rfl⟩ := h.form
  obtain ⟨g, off, hA, hc, hcm, hcells⟩ := h.at_
  have HA := Lib.hid hA
  have HC := Lib.hid hcells
  clear hA hcells h
  unfold maxLen at hcm
  have HNEW := Lib.hid (new_ok 4096 w (by omega))
  have HCR : Hid (∀ (wx : World) (d : Nat) (o : Own1) (c : Con), DI wx w.heap.size o d (newD 4096) c → w.grownBy wx none → Calls Try.prog 73 #[.pointer (some ⟨d, 0, none⟩), .string ⟨an.toArray⟩] wx fun e w' => ∃ pf, e = .returned (.tuple #[.pointer (some ⟨pf, 0, none⟩), .int .i64 0]) ∧ PgX w w' d pf 4096 0 (fun i => ll.getD i []) 0) :=
    fun wx d o c h hg => pcreateX w wx d 4096 o c h hg _
  go_enter Try.func36, Try.ntmps36
  go_wp2_with fail
  refine HNEW.out.mono ?_
  rintro e w1 ⟨d, o, c, rfl, h1, g1⟩
  have HCR1 := Lib.hid (HCR.out _ _ _ _ h1 g1)
  clear h1 g1
  go_wp2_with fail
  refine HCR1.out.mono ?_
  rintro e w2 ⟨pf, rfl, p2⟩
  have P2 := Lib.hid p2
  clear p2
  go_wp2_with fail
  go_loopw [8, 9] (fun i _ wr => ∃ k : Nat, k ≤ ll.length ∧ i = .int .i64 k ∧ (∀ j, j < k → (ll.getD j []).length ≤ 240) ∧ PgX w wr d pf 4096 k (fun i => ll.getD i []) k) (fun i _ _ => ll.length - (intOf i).toNat)
  case atStart => exact ⟨0, by omega, rfl, fun j hj => by omega, P2.out⟩
  case round =>
    obtain ⟨k, hk, rfl, hsm, hr⟩ := hrel
    have HR := Lib.hid hr
    have HS := Lib.hid hsm
    clear hr hsm
    by_cases hlt : k < ll.length
    · have := HA.out (by omega)
      subst this
      obtain ⟨Ai, ci, hci, hri⟩ := HC.out k hlt
      have hgr := HR.out.gr
      have hcw := hgr.cell hci (by simp)
      have HRI := Lib.hid (hri.ext hgr)
      have GR := Lib.hid hgr
      clear hci hri hgr
      by_cases hbig : 240 < (ll.getD k []).length
      · generalize (ll.getD k []).length = nk at *
        go_wp2
        go_ret3
        exact ⟨GR.out, .inl rfl⟩
      · have hsm : (ll.getD k []).length ≤ 240 := by omega
        have HCP : Hid (Calls Try.prog 38 #[.slice Ai (ll.getD k []).length ci] wr fun e w' => ∃ v', e = .returned v' ∧ OwnB w' wr.heap.size v' (ll.getD k []) ∧ wr.grownBy w' none) := copyBytes_any _ _ wr HRI.out (by omega)
        have HW : Hid (∀ (wx : World) (v' : Value), wr.grownBy wx none → OwnB wx wr.heap.size v' (ll.getD k []) → Calls Try.prog 37 #[.pointer (some ⟨pf, 0, none⟩), .int .i64 k, v'] wx fun e w' => e = .returned (.int .i64 0) ∧ PgX w w' d pf 4096 (k + 1) (fun i => ll.getD i []) (k + 1)) := fun wx v' hg ho => by
          have := PgX.write (HR.out.ext hg) (k := k) (Nat.le_refl _) (by omega) (by omega) (by omega) ho.rd hsm
          rw [show max k (k + 1) = k + 1 from by omega] at this
          have e := updG_same (fun i => ll.getD i []) k
          rw [e] at this
          exact this
        have HS2 : Hid (∀ j, j < k + 1 → (ll.getD j []).length ≤ 240) := fun j hj => by
          by_cases e : j = k
          · rw [e]; exact hsm
          · exact HS.out j (by omega)
        have hci2 : ((ll.getD k []).length : Int) ≤ 240 := by omega
        clear hsm hbig
        generalize ll.getD k [] = b at HCP HW hcw hci2
        go_wp2_with fail
        refine HCP.out.mono ?_
        rintro e w3 ⟨v3, rfl, o3, g3⟩
        have HW3 := Lib.hid (HW.out _ _ g3 o3)
        clear o3 g3
        go_wp2_with fail
        refine HW3.out.mono ?_
        rintro e w4 ⟨rfl, p4⟩
        have P4 := Lib.hid p4
        clear p4
        go_wp2
        refine ⟨⟨k + 1, by omega, by congr 1, HS2.out, P4.out⟩, ?_⟩
        simp only [intOf]
        omega
    · have e1 : k = ll.length := by omega
      subst e1
      have HSY := Lib.hid HR.out.sync
      clear HR
      go_wp2_with fail
      refine HSY.out.mono ?_
      rintro e w5 ⟨rfl, p5⟩
      have P5 := Lib.hid p5
      clear p5
      go_wp2
      go_ret3
      exact ⟨P5.out.gr, .inr ⟨HS.out, d, pf, rfl, P5.out⟩⟩
section
variable {w0 w : World} {d pf : Nat} {o : Own1} {S : Dk}
theorem DA.ppages (h : DA w0 d o S w) (hp : PfR w w0.heap.size o d pf an) : Calls Try.prog 40 #[.pointer (some ⟨pf, 0, none⟩)] w fun e w' => e = .returned (.tuple #[.int .i64 (S.ppages an).1, .int .i64 (S.ppages an).2]) ∧ w.grownBy w' none := by
  obtain ⟨c, h1⟩ := h.di
  exact pages_any h1 hp (by simp)
theorem DA.pread (h : DA w0 d o S w) (hp : PfR w w0.heap.size o d pf an) (k : Int) (hk : -9223372036854775808 ≤ k ∧ k ≤ 9223372036854775807) :
    Calls Try.prog 41 #[.pointer (some ⟨pf, 0, none⟩), .int .i64 k] w fun e w' => (∃ v, e = .returned (.tuple #[v, .int .i64 (S.pread an k).2]) ∧ OwnB w' w.heap.size v (S.pread an k).1) ∧ w.grownBy w' none := by
  obtain ⟨c, h1⟩ := h.di
  exact pread_any h1 hp (by simp) k hk
theorem DA.psync (h : DA w0 d o S w) (hp : PfR w w0.heap.size o d pf an) : Calls Try.prog 39 #[.pointer (some ⟨pf, 0, none⟩)] w fun e w' => e = .returned (.int .i64 (S.sync an).2) ∧ DP w0 d o (S.sync an).1 w w' := by
  obtain ⟨c, h1⟩ := h.di
  exact (psync_any h1 hp (by simp)).mono fun _ _ ⟨e, k⟩ => ⟨e, h.out k⟩
theorem DA.pwrite (h : DA w0 d o S w) (hp : PfR w w0.heap.size o d pf an) (k : Int) (hk : -9223372036854775808 ≤ k ∧ k ≤ 9223372036854775807) {bv : Value} {b : List UInt8} (hb : RdB w bv b) (hbn : b.length ≤ 1000000000) (hfl : S.fs.length ≤ 1000000) (hnl : S.nl ≤ 1000000000) :
    Calls Try.prog 37 #[.pointer (some ⟨pf, 0, none⟩), .int .i64 k, bv] w fun e w' => e = .returned (.int .i64 (S.pwrite an k b).2) ∧ DP w0 d o (S.pwrite an k b).1 w w' := by
  obtain ⟨c, h1⟩ := h.di
  exact (pwrite_any h1 hp (by simp) k hk bv b hb hbn hfl (by omega)).mono fun _ _ ⟨e, k⟩ => ⟨e, h.out k⟩
end
/-- page k written over pages that were synced; the power goes. -/
theorem torn_page {S : Dk} {c0 : List UInt8} {n k : Nat} {g : Nat → List UInt8} {b : List UInt8} (h : One S an c0 c0 4096) (hh : Holds c0 (crcS an) n g) (hl0 : ∀ s j, S.loose s j = false) (hk : k ≤ n) (hn : n ≤ 1000) (hb : b.length ≤ 240) :
    One (S.wrote an (k * 256) (pagB (crcS an) k b)) an (overZ c0 (k * 256) (pagB (crcS an) k b)) c0 4096 ∧ LooseIn (S.wrote an (k * 256) (pagB (crcS an) k b)) ∧
      ((overZ c0 (k * 256) (pagB (crcS an) k b)).drop (256 * k)).take 256 = pagB (crcS an) k b ∧
      ∀ ls keep, LsIs (S.wrote an (k * 256) (pagB (crcS an) k b)) ls → Torn c0 (overZ c0 (k * 256) (pagB (crcS an) k b)) (onT (S.wrote an (k * 256) (pagB (crcS an) k b)) keep ls ls.length an) (pagB (crcS an) k b) n k keep ls := by
  have hc := hh.len
  have hp := pagB_len (tag := crcS an) (k := k) hb
  obtain ⟨P, hP⟩ : ∃ P, P = pagB (crcS an) k b := ⟨_, rfl⟩
  rw [← hP] at hp ⊢
  have o2 : One (S.wrote an (k * 256) P) an (overZ c0 (k * 256) P) c0 4096 := by
    refine ⟨⟨h.idle.1, h.idle.2⟩, ?_, h.q⟩
    show setF S.fs an _ = _
    rw [h.fs, setF_one]
  have hlo : ∀ s j, (S.wrote an (k * 256) P).loose s j = (s == an && hits (k * 256) 256 j) := fun s j => by
    show ((s == an && hits (k * 256) P.length j) || S.loose s j) = _
    rw [hl0, hp, Bool.or_false]
  have hlen : (overZ c0 (k * 256) P).length = 256 * max n (k + 1) := by rw [overZ_len8 (by omega), hp, hc]; omega
  have hli : LooseIn (S.wrote an (k * 256) P) := fun s j hl => by
    rw [hlo] at hl
    simp only [Bool.and_eq_true, beq_iff_eq, hits_page] at hl
    obtain ⟨rfl, h1, h2⟩ := hl
    refine ⟨_, o2.find, by omega, ?_⟩
    show 64 * j < ((overZ c0 (k * 256) P).length : Int)
    rw [hlen]
    omega
  refine ⟨o2, hli, ?_, fun ls keep hl => ⟨hc, hk, hlen, hp, fun i hi => overZ_getD_out (by omega) (by omega), fun i hi => ?_, torn_of o2 hli hl (by omega), fun q h1 h2 => ?_⟩⟩
  · have := pgA_over (c := c0) (p := P) (n := n) (k := k) (j := k) hc hp hk (by omega)
    rw [if_pos rfl, Nat.mul_comm 256 k] at this
    rw [Nat.mul_comm 256 k]
    unfold pgA at this
    rw [Nat.mul_comm 256 k] at this
    exact this
  · rw [overZ_getD_in (by omega) (by omega) (by omega)]
    congr 1
    omega
  · have := (hl.2.1 an (q : Int) ⟨by simp [an]; unfold maxLen; omega, WalkArith.wf_i64 (by omega)⟩).1 (by rw [hlo]; simp only [Bool.and_eq_true, beq_iff_eq, hits_page]; exact ⟨trivial, by omega, by omega⟩)
    obtain ⟨p, hp1, hp2⟩ := this
    exact ⟨_, hp1, by have h9 : (q : Int) = ((p.toNat : Nat) : Int) := hp2; show p.toNat = q; omega⟩
end Go.Proofs.Ytfbbbbekialpnaa

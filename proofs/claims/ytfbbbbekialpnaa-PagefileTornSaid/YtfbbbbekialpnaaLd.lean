/-
  The page laws' files: works, laid.
-/
import Derived.Test.YtfbbbbekialpnaaPgs
import Derived.Test.YtfbbbbekialpnaaRef
namespace Go.Proofs.Ytfbbbbekialpnaa
open Go.RowKit
set_option maxRecDepth 100000
set_option maxHeartbeats 400000

/-- a slice of slices of bytes. -/
def RdBB (w : World) (v : Value) (ll : List (List UInt8)) : Prop := ∃ vs : List Value, Rd w 1 v ll.length vs ∧ ∀ i, i < ll.length → RdB w (vs.getD i undef) (ll.getD i [])
section
variable {w w' : World} {v : Value} {ll : List (List UInt8)}
theorem RdBB.form (h : RdBB w v ll) : ∃ A c, v = .slice A ll.length c := by obtain ⟨vs, ⟨_, A, c, _, _, e, _⟩, _⟩ := h; exact ⟨A, c, e⟩
theorem RdBB.ext (h : RdBB w v ll) (hg : w.grownBy w' none) : RdBB w' v ll := by
  obtain ⟨vs, h1, h2⟩ := h
  exact ⟨vs, h1.ext hg, fun i hi => (h2 i hi).ext hg⟩
theorem RdBB.at_ {A : Option Addr} {c : Nat} (h : RdBB w (.slice A ll.length c) ll) : ∃ g off, (0 < ll.length → A = some ⟨g, off, none⟩) ∧ ll.length ≤ c ∧ c ≤ maxLen ∧ ∀ i, i < ll.length → ∃ Ai ci, w.cell? ⟨g, off + i, none⟩ = some (.slice Ai (ll.getD i []).length ci) ∧ RdB w (.slice Ai (ll.getD i []).length ci) (ll.getD i []) := by
  obtain ⟨vs, ⟨hl, A', c', g, off, e, hn, hc, hA0, hA, hx⟩, h2⟩ := h
  cases e
  refine ⟨g, off, fun h0 => hA (by omega), hn, hc, fun i hi => ?_⟩
  have h3 := h2 i hi
  obtain ⟨Ai, ci, e⟩ := h3.form
  rw [e] at h3
  refine ⟨Ai, ci, ?_, h3⟩
  rw [hx i (by omega), ← e, List.getD_eq_getElem?_getD]
  have : i < vs.length := by omega
  rw [List.getElem?_eq_getElem this]
  rfl
end
def LaidOut (w : World) (ll : List (List UInt8)) (e : Ending) (w' : World) : Prop :=
  w.grownBy w' none ∧ ((e = .returned (.tuple #[.pointer none, .pointer none, .bool false])) ∨
    ((∀ i, i < ll.length → (ll.getD i []).length ≤ 240) ∧ ∃ d pf, e = .returned (.tuple #[.pointer (some ⟨d, 0, none⟩), .pointer (some ⟨pf, 0, none⟩), .bool true]) ∧ PgW w w' d pf 4096 ll.length (fun i => ll.getD i []) ll.length))
theorem updG_same (g : Nat → List UInt8) (k : Nat) : updG g k (g k) = g := by
  funext i; unfold updG; split
  · next e => rw [e]
  · rfl
set_option maxHeartbeats 2000000 in
theorem laid_any (v : Value) (ll : List (List UInt8)) (w : World) (h : RdBB w v ll) (hl : ll.length ≤ 40) :
    Calls Try.prog 36 #[v] w (LaidOut w ll) := by
  obtain ⟨A, c0, rfl⟩ := h.form
  obtain ⟨g, off, hA, hc, hcm, hcells⟩ := h.at_
  have HA := Lib.hid hA
  have HC := Lib.hid hcells
  clear hA hcells h
  unfold maxLen at hcm
  have HNEW := Lib.hid (new_ok 4096 w (by omega))
  have HCR : Hid (∀ (wx : World) (d : Nat) (o : Own1) (c : Con), DI wx w.heap.size o d (newD 4096) c → w.grownBy wx none → Calls Try.prog 73 #[.pointer (some ⟨d, 0, none⟩), .string ⟨an.toArray⟩] wx fun e w' => ∃ pf, e = .returned (.tuple #[.pointer (some ⟨pf, 0, none⟩), .int .i64 0]) ∧ PgW w w' d pf 4096 0 (fun i => ll.getD i []) 0) :=
    fun wx d o c h hg => pcreate_new w wx d 4096 o c h hg _
  go_enter Try.func36, Try.ntmps36
  go_wp2_with fail
  refine HNEW.out.mono ?_
  rintro e w1 ⟨d, o, c, rfl, h1, g1⟩
  have HCR1 := Lib.hid (HCR.out _ _ _ _ h1 g1)
  clear h1 g1
  go_wp2_with fail
  refine HCR1.out.mono ?_
  rintro e w2 ⟨pf, rfl, p2⟩
  have P2 := Lib.hid p2
  clear p2
  go_wp2_with fail
  go_loopw [8, 9] (fun i _ wr => ∃ k : Nat, k ≤ ll.length ∧ i = .int .i64 k ∧ (∀ j, j < k → (ll.getD j []).length ≤ 240) ∧ PgW w wr d pf 4096 k (fun i => ll.getD i []) k) (fun i _ _ => ll.length - (intOf i).toNat)
  case atStart => exact ⟨0, by omega, rfl, fun j hj => by omega, P2.out⟩
  case round =>
    obtain ⟨k, hk, rfl, hsm, hr⟩ := hrel
    have HR := Lib.hid hr
    have HS := Lib.hid hsm
    clear hr hsm
    by_cases hlt : k < ll.length
    · have := HA.out (by omega)
      subst this
      obtain ⟨Ai, ci, hci, hri⟩ := HC.out k hlt
      have hgr := HR.out.gr
      have hcw := hgr.cell hci (by simp)
      have HRI := Lib.hid (hri.ext hgr)
      have GR := Lib.hid hgr
      clear hci hri hgr
      by_cases hbig : 240 < (ll.getD k []).length
      · generalize (ll.getD k []).length = nk at *
        go_wp2
        go_ret3
        exact ⟨GR.out, .inl rfl⟩
      · have hsm : (ll.getD k []).length ≤ 240 := by omega
        have HCP : Hid (Calls Try.prog 38 #[.slice Ai (ll.getD k []).length ci] wr fun e w' => ∃ v', e = .returned v' ∧ OwnB w' wr.heap.size v' (ll.getD k []) ∧ wr.grownBy w' none) := copyBytes_any _ _ wr HRI.out (by omega)
        have HW : Hid (∀ (wx : World) (v' : Value), wr.grownBy wx none → OwnB wx wr.heap.size v' (ll.getD k []) → Calls Try.prog 37 #[.pointer (some ⟨pf, 0, none⟩), .int .i64 k, v'] wx fun e w' => e = .returned (.int .i64 0) ∧ PgW w w' d pf 4096 (k + 1) (fun i => ll.getD i []) (k + 1)) := fun wx v' hg ho => by
          have := PgW.write (HR.out.ext hg) (k := k) (Nat.le_refl _) (by omega) (by omega) (by omega) ho.rd hsm
          rw [show max k (k + 1) = k + 1 from by omega] at this
          have e := updG_same (fun i => ll.getD i []) k
          rw [e] at this
          exact this
        have HS2 : Hid (∀ j, j < k + 1 → (ll.getD j []).length ≤ 240) := fun j hj => by
          by_cases e : j = k
          · rw [e]; exact hsm
          · exact HS.out j (by omega)
        have hci2 : ((ll.getD k []).length : Int) ≤ 240 := by omega
        clear hsm hbig
        generalize ll.getD k [] = b at HCP HW hcw hci2
        go_wp2_with fail
        refine HCP.out.mono ?_
        rintro e w3 ⟨v3, rfl, o3, g3⟩
        have HW3 := Lib.hid (HW.out _ _ g3 o3)
        clear o3 g3
        go_wp2_with fail
        refine HW3.out.mono ?_
        rintro e w4 ⟨rfl, p4⟩
        have P4 := Lib.hid p4
        clear p4
        go_wp2
        refine ⟨⟨k + 1, by omega, by congr 1, HS2.out, P4.out⟩, ?_⟩
        simp only [intOf]
        omega
    · have e1 : k = ll.length := by omega
      subst e1
      have HSY := Lib.hid HR.out.sync
      clear HR
      go_wp2_with fail
      refine HSY.out.mono ?_
      rintro e w5 ⟨rfl, p5⟩
      have P5 := Lib.hid p5
      clear p5
      go_wp2
      go_ret3
      exact ⟨P5.out.gr, .inr ⟨HS.out, d, pf, rfl, P5.out⟩⟩
set_option maxHeartbeats 2000000 in
theorem works_any (w : World) : Calls Try.prog 35 #[] w fun e w' => e = .returned (.bool true) ∧ w.grownBy w' none := by
  have HNEW := Lib.hid (new_ok 100 w (by omega))
  have HCR : Hid (∀ (wx : World) (d : Nat) (o : Own1) (c : Con), DI wx w.heap.size o d (newD 100) c → w.grownBy wx none → Calls Try.prog 73 #[.pointer (some ⟨d, 0, none⟩), .string ⟨an.toArray⟩] wx fun e w' => ∃ pf, e = .returned (.tuple #[.pointer (some ⟨pf, 0, none⟩), .int .i64 0]) ∧ PgW w w' d pf 100 0 (fun _ => [1, 2]) 0) :=
    fun wx d o c h hg => pcreate_new w wx d 100 o c h hg _
  have HWR : Hid (∀ (wx : World) (d pf : Nat) (v : Value), PgW w wx d pf 100 0 (fun _ => [1, 2]) 0 → RdB wx v [1, 2] → Calls Try.prog 37 #[.pointer (some ⟨pf, 0, none⟩), .int .i64 0, v] wx fun e w' => e = .returned (.int .i64 0) ∧ PgW w w' d pf 100 1 (fun _ => [1, 2]) 1) := fun wx d pf v hp hv => by
    have := PgW.write hp (k := 0) (Nat.le_refl _) (by omega) (by omega) (by omega) hv (by simp)
    have e := updG_same (fun _ => [1, 2]) 0
    rw [e] at this
    exact this
  have HRD : Hid (∀ (wx : World) (d pf : Nat), PgW w wx d pf 100 1 (fun _ => [1, 2]) 1 → Calls Try.prog 41 #[.pointer (some ⟨pf, 0, none⟩), .int .i64 0] wx fun e w' => (∃ v, e = .returned (.tuple #[v, .int .i64 0]) ∧ OwnB w' wx.heap.size v [1, 2]) ∧ wx.grownBy w' none) := fun wx d pf hp => hp.read (k := 0) (by omega) (by omega)
  have HLIT : Hid (∀ wx : World, RdB (wx.alloc (.cells #[.int .u8 1, .int .u8 2] 5)) (.slice (some ⟨wx.heap.size, 0, none⟩) 2 2) [1, 2]) := fun wx => rd_lit wx 1 2 2 #[.int .u8 1, .int .u8 2] _ rfl (Nat.le_refl _) (by unfold maxLen; omega)
  go_enter Try.func35, Try.ntmps35
  go_wp2_with fail
  refine HNEW.out.mono ?_
  rintro e w1 ⟨d, o, c, rfl, h1, g1⟩
  have HCR1 := Lib.hid (HCR.out _ _ _ _ h1 g1)
  clear h1 g1
  go_wp2_with fail
  refine HCR1.out.mono ?_
  rintro e w2 ⟨pf, rfl, p2⟩
  have HWR1 := Lib.hid (HWR.out _ d pf _ (p2.ext (gr_alloc w2 (.cells #[.int .u8 1, .int .u8 2] 5) none)) (HLIT.out w2))
  clear p2
  go_wp2_with fail
  refine HWR1.out.mono ?_
  rintro e w3 ⟨rfl, p3⟩
  have P3 := Lib.hid p3
  clear p3
  go_wp2_with fail
  refine (HRD.out _ _ _ P3.out).mono ?_
  rintro e w4 ⟨⟨v4, rfl, o4⟩, g4⟩
  have P4 := Lib.hid (P3.out.ext g4)
  have HPG := Lib.hid P4.out.pages
  obtain ⟨A4, c4, rfl⟩ := o4.rd.form
  have O4 := Lib.hid o4
  clear o4 g4
  go_wp2_with fail
  refine HPG.out.mono ?_
  rintro e w5 ⟨rfl, g5⟩
  have P5 := Lib.hid (P4.out.ext g5)
  have HNM := Lib.hid (pname_any P5.out)
  obtain ⟨g', off', rfl, hle, _, hc0, hc1', _⟩ := (O4.out.ext g5).at_ (k := 1) (by simp)
  have hc1 : w5.cell? ⟨g', off' + 1, none⟩ = some (.int .u8 2) := hc1'
  clear hc1' g5 hle
  go_wp2_with fail
  refine HNM.out.mono ?_
  rintro e w6 ⟨rfl, rfl⟩
  go_wp2
  go_ret
  exact ⟨rfl, P5.out.gr⟩
end Go.Proofs.Ytfbbbbekialpnaa

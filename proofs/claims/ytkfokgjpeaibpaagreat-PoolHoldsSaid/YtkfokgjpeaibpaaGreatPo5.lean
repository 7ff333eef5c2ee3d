/-
  pool: a page that is new is written; a page that is held is read.
-/
import Derived.Test.YtkfokgjpeaibpaaGreatPo4
namespace Go.Proofs.YtkfokgjpeaibpaaGreat
open Go.RowKit Go.Maps
set_option maxRecDepth 100000
set_option maxHeartbeats 400000

section
variable {w w' : World} {B d p g mb nm : Nat} {o : Own1} {P : Pl} {S : Dk} {c : Con}
def Pl.put (P : Pl) (i : Nat) (x : Fr) : Pl := { P with fr := P.fr.set i x }
/-- a frame that holds the same page is written. -/
theorem PoR.put (h : PoR w B o d p g mb P nm) (hg : w.grownBy w' (some g)) {i : Nat} (hi : i < P.fr.length) {x : Fr} (hb : Blk w' g 101 ((P.fr.set i x).flatMap Fr.enc).toArray) (e1 : x.full = P.fr[i].full) (e2 : x.n = P.fr[i].n) (e3 : x.k = P.fr[i].k) (hx : FrB w' B o p g mb x) :
    PoR w' B o d p g mb (P.put i x) nm := by
  refine ⟨?_, hb, h.wh.gr hg (fun e => h.apart.2.2 (Option.some.inj e)), fun z j => ?_, fun y hy => ?_, h.off, h.low, h.apart, ?_⟩
  · show Blk w' p _ #[_, .slice (some ⟨g, 0, none⟩) (P.fr.set i x).length (P.fr.set i x).length, _, _, _, _]
    rw [List.length_set]
    exact h.self.gr hg (fun e => h.apart.1 (Option.some.inj e).symm)
  · show P.wh z = some j ↔ ∃ h : j < (P.fr.set i x).length, ((P.fr.set i x)[j]).full = true ∧ ((P.fr.set i x)[j]).n = z.n ∧ ((P.fr.set i x)[j]).k = z.k
    rw [h.whi z j]
    have hj : ∀ (h1 : j < P.fr.length) (h2 : j < (P.fr.set i x).length), ((P.fr.set i x)[j]).full = (P.fr[j]).full ∧ ((P.fr.set i x)[j]).n = (P.fr[j]).n ∧ ((P.fr.set i x)[j]).k = (P.fr[j]).k := fun h1 h2 => by
      by_cases e : i = j
      · subst e
        rw [List.getElem_set_self]
        exact ⟨e1, e2, e3⟩
      · rw [List.getElem_set_ne e]
        exact ⟨rfl, rfl, rfl⟩
    constructor
    · rintro ⟨h1, h2⟩
      have h3 : j < (P.fr.set i x).length := by simpa using h1
      obtain ⟨k1, k2, k3⟩ := hj h1 h3
      exact ⟨h3, by rw [k1, k2, k3]; exact h2⟩
    · rintro ⟨h3, h2⟩
      have h1 : j < P.fr.length := by simpa using h3
      obtain ⟨k1, k2, k3⟩ := hj h1 h3
      exact ⟨h1, by rw [← k1, ← k2, ← k3]; exact h2⟩
  · rcases List.mem_or_eq_of_mem_set hy with hy | hy
    · exact (h.bytes y hy).far hg fun q e => ((h.bytes y hy).off q e).2.2.1
    · subst hy; exact hx
  · show 1 ≤ (P.fr.set i x).length ∧ (P.fr.set i x).length ≤ 4096 ∧ P.hand < (P.fr.set i x).length ∧ _
    rw [List.length_set]
    exact h.lim
theorem look_none (h : PoR w B o d p g mb P nm) {n : List UInt8} {k : Int} (hk : okK n k) (hn : P.wh ⟨n, k, hk⟩ = none) :
    (Instr.lookup 76 (.map (some mb)) (.agg #[.string ⟨n.toArray⟩, .int .i64 k]) true).run Tryz.prog w = .ok (.tuple #[.int .i64 0, .bool false]) w := by
  have := h.wh.look2 Tryz.underlying76 (z := .int .i64 0) (by kernel_rfl) (⟨n, k, hk⟩ : PK)
  rw [hn] at this
  exact this
theorem look_some (h : PoR w B o d p g mb P nm) {n : List UInt8} {k : Int} (hk : okK n k) {i : Nat} (hn : P.wh ⟨n, k, hk⟩ = some i) :
    (Instr.lookup 76 (.map (some mb)) (.agg #[.string ⟨n.toArray⟩, .int .i64 k]) true).run Tryz.prog w = .ok (.tuple #[.int .i64 i, .bool true]) w := by
  have := h.wh.look2 Tryz.underlying76 (z := .int .i64 0) (by kernel_rfl) (⟨n, k, hk⟩ : PK)
  rw [hn] at this
  exact this
theorem filled_len (P : Pl) (i : Nat) (f : Fr) (h : okK f.n f.k) : (P.filled i f h).noted.fr.length = P.fr.length := by show (P.fr.set i _).length = _; rw [List.length_set]
theorem filled_get (P : Pl) (i : Nat) (f : Fr) (h : okK f.n f.k) (hi : i < (P.filled i f h).noted.fr.length) : (P.filled i f h).noted.fr[i] = { f with full := true } := List.getElem_set_self (l := P.fr) (by rw [filled_len] at hi; simpa using hi)
def frW (n : List UInt8) (k : Int) (b : List UInt8) (v : Value) : Fr := ⟨true, n, k, b, v, 0, true, true⟩
abbrev frN (n : List UInt8) (k : Int) : Fr := ⟨false, n, k, [], .slice none 0 0, 0, false, false⟩
set_option maxHeartbeats 4000000 in
theorem powrite_new (h : DI w B o d S c) (hp : PoR w B o d p g mb P nm) {n : List UInt8} (hn : n.length ≤ 1000000000) {k : Int} (hk : okK n k) {bv : Value} {b : List UInt8} (hb : RdB w bv b) (hbo : ∀ q, blk bv = some q → q < w.heap.size ∧ po noO p g mb q = none) (hbl : b.length ≤ 240)
    (hpg : (S.pgs n).2 = 0) (h0 : 0 ≤ k) (h1 : k ≤ pagesN P.fr n (S.pgs n).1) (hwn : P.wh ⟨n, k, hk⟩ = none) {i : Nat} (hi : i < P.fr.length) (hf : P.fr[i].full = false) (hfb : ∀ j (hj : j < P.fr.length), j < i → P.fr[j].full = true) (hnm : nm < 1000000000) (hkb : k ≤ 1000000000) :
    Calls Tryz.prog 33 #[.pointer (some ⟨p, 0, none⟩), .string ⟨n.toArray⟩, .int .i64 k, bv] w fun e w' => e = .returned (.int .i64 0) ∧
      ∃ v, PoR w' B o d p g mb (((P.filled i (frN n k) hk).noted).put i (frW n k b v)) (nm + 1) ∧ Ch (po noO p g mb) w (po noO p g mb) w' := by
  obtain ⟨Ab, cb, rfl⟩ := hb.form
  have HPG := Lib.hid (ppages_any h hp hn)
  have H := Lib.hid h
  have HP := Lib.hid hp
  have HB := Lib.hid hb
  have HWN := Lib.hid hwn
  have HFB := Lib.hid hfb
  have HFF := Lib.hid hf
  have HI := Lib.hid hi
  have HE := Lib.hid hpg
  have d1 : decide ((240 : Int) < (b.length : Int)) = false := by simp; omega
  have d2 : decide (k < 0) = false := by simp; omega
  have d3 : decide (pagesN P.fr n (S.pgs n).1 < k) = false := by simp; omega
  obtain ⟨m, hm⟩ : ∃ m, m = pagesN P.fr n (S.pgs n).1 := ⟨_, rfl⟩
  rw [← hm] at HPG d3
  have HBO := Lib.hid hbo
  obtain ⟨P3, hP3⟩ : ∃ P3, P3 = (P.filled i (frN n k) hk).noted := ⟨_, rfl⟩
  have hi3 : i < P3.fr.length := by subst hP3; exact Nat.lt_of_lt_of_eq hi (filled_len P i (frN n k) hk).symm
  have HX3 : Hid (P3.fr[i] = { frN n k with full := true }) := by subst hP3; exact filled_get _ _ _ _ _
  rw [← hP3]
  have HP3E := Lib.hid hP3
  clear hP3 h hp hb hwn hf hfb hpg hm h1 hbo
  go_enter Tryz.func33, Tryz.ntmps33
  go_wp2_with fail
  refine HPG.out.mono ?_
  rintro e w1 ⟨g1, ⟨he, rfl⟩ | ⟨-, rfl⟩⟩
  · exact absurd HE.out he
  have HP1 := Lib.hid (HP.out.ext g1)
  have hlk := look_none HP1.out hk HWN.out
  obtain ⟨s0, s1, s2, -⟩ := HP1.out.selfc
  have HT := Lib.hid (take_free HP1.out HI.out HFF.out HFB.out)
  have G1 := Lib.hid g1
  clear g1 HPG
  go_wp2_with fail
  refine HT.out.mono ?_
  rintro e w2 ⟨rfl, g2⟩
  have HP2 := Lib.hid (HP1.out.ext g2)
  have hfn : FrB w2 B o p g mb (frN n k) := ⟨Rd.nil _ _, (fun q e => by cases e), ⟨Nat.zero_le _, hn, Nat.zero_le _, by show (-4611686018427387904 : Int) ≤ k ∧ k ≤ 4611686018427387904; omega⟩⟩
  have hfill := fill_any HP2.out HI.out HFF.out (f := frN n k) hfn hk HWN.out hnm
  rw [← HP3E.out] at hfill
  have HFI := Lib.hid hfill
  have G2 := Lib.hid (gr_none G1.out g2)
  clear g2 HT hfn hfill hlk s0 s1 s2 HP1
  go_wp2_with fail
  refine HFI.out.mono ?_
  rintro e w3 ⟨rfl, h3, ch3⟩
  have HP3 := Lib.hid h3
  have hnw : ∀ q, w.heap.size ≤ q → o q = none := fun q hq => by
    cases e : o q with
    | none => rfl
    | some t => exact absurd (H.out.inb q (by rw [e]; simp)).2 (by omega)
  have C3 : Hid (Ch (po noO p g mb) w (po noO p g mb) w3) := (Ch.ext G2.out).trans ch3
  have hrd3 : RdB w3 (.slice Ab b.length cb) b := C3.out.rd HB.out HBO.out
  have HCL := Lib.hid (cloneB _ b w3 hrd3 (by omega))
  obtain ⟨s0, s1, s2, -⟩ := h3.selfc
  have hl3 := h3.lim.2.1
  clear h3 ch3 HFI hrd3
  go_wp2_with fail
  refine HCL.out.mono ?_
  rintro e w4 ⟨v4, rfl, o4, g4⟩
  obtain ⟨A4, c4, rfl⟩ := RdB.form (Own.rd o4)
  have HP4 := Lib.hid (HP3.out.ext g4)
  have hfz := HP4.out.fr.frozen
  obtain ⟨c0, c1, c2, c3, c4', c5, c6⟩ := frame_cells HP4.out.fr hi3 HX3.out
  have G4 := Lib.hid g4
  have O4 := Lib.hid o4
  clear g4 o4 HCL s0 s1 s2
  go_wp2
  go_ret
  have hg5 : w4.grownBy (((w4.setCell ⟨g, i * 7 + 3, none⟩ (.slice A4 b.length c4)).setCell ⟨g, i * 7 + 5, none⟩ (.bool true)).setCell ⟨g, i * 7 + 6, none⟩ (.bool true)) (some g) :=
    gr_trans (gr_trans (gr_setCell w4 ⟨g, i * 7 + 3, none⟩ _) (gr_setCell _ ⟨g, i * 7 + 5, none⟩ _) (.inl rfl)) (gr_setCell _ ⟨g, i * 7 + 6, none⟩ _) (.inl rfl)
  have b1 := Blk.setFr HP4.out.fr hi3 (j := 3) (by omega) (x' := { frN n k with full := true, b := b, bv := .slice A4 b.length c4 }) (v := .slice A4 b.length c4) (by rw [HX3.out]; rfl)
  have b2 := Blk.setFr b1 (i := i) (by simpa using hi3) (j := 5) (by omega) (x' := { frN n k with full := true, b := b, bv := .slice A4 b.length c4, dirty := true }) (v := .bool true) (by rw [List.getElem_set_self]; rfl)
  have b3 := Blk.setFr b2 (i := i) (by simpa using hi3) (j := 6) (by omega) (x' := frW n k b (.slice A4 b.length c4)) (v := .bool true) (by rw [List.getElem_set_self]; rfl)
  simp only [List.set_set] at b3
  have hz3 := C3.out.size
  have hpl := HP.out.self.lt
  have hgl := HP.out.fr.lt
  have hml := HP.out.wh.lt
  have hB := H.out.base
  have hx4 : FrB w4 B o p g mb (frW n k b (.slice A4 b.length c4)) := ⟨Own.rd O4.out, fun q e => by
    obtain ⟨q1, q2⟩ := Own.blk_lt O4.out (by omega) e
    exact ⟨hnw q (by omega), by omega, by omega, by omega, q2, by omega⟩, ⟨hbl, hn, by simp [frW], by simp only [frW]; omega⟩⟩
  exact ⟨rfl, _, HP4.out.put hg5 hi3 b3 (by rw [HX3.out]; rfl) (by rw [HX3.out]; rfl) (by rw [HX3.out]; rfl) (hx4.far hg5 fun q e => (hx4.off q e).2.2.1), (C3.out.trans (Ch.ext G4.out)).trans (Ch.of_gr hg5 fun k e => by cases e; exact (po_ne noO p g mb).2.1)⟩
set_option maxHeartbeats 4000000 in
/-- a page that is held is read. -/
theorem poread_hit (h : DI w B o d S c) (hp : PoR w B o d p g mb P nm) {n : List UInt8} (hn : n.length ≤ 1000000000) {k : Int} (hk : okK n k) (hpg : (S.pgs n).2 = 0) (h0 : 0 ≤ k) (h1 : k < pagesN P.fr n (S.pgs n).1) {i : Nat} (hi : i < P.fr.length) (hwn : P.wh ⟨n, k, hk⟩ = some i) :
    Calls Tryz.prog 21 #[.pointer (some ⟨p, 0, none⟩), .string ⟨n.toArray⟩, .int .i64 k] w fun e w' => ∃ v, e = .returned (.tuple #[v, .int .i64 0]) ∧ OwnB w' w.heap.size v (P.fr[i]).b ∧
      PoR w' B o d p g mb (P.put i { P.fr[i] with used := true }) nm ∧ Ch (po noO p g mb) w (po noO p g mb) w' := by
  have HPG := Lib.hid (ppages_any h hp hn)
  have H := Lib.hid h
  have HP := Lib.hid hp
  have HWN := Lib.hid hwn
  have HE := Lib.hid hpg
  have d2 : decide (k < 0) = false := by simp; omega
  have d3 : decide (pagesN P.fr n (S.pgs n).1 ≤ k) = false := by simp; omega
  obtain ⟨m, hm⟩ : ∃ m, m = pagesN P.fr n (S.pgs n).1 := ⟨_, rfl⟩
  rw [← hm] at HPG d3
  obtain ⟨x, hx⟩ : ∃ x, x = P.fr[i] := ⟨_, rfl⟩
  rw [← hx]
  have HX := Lib.hid hx
  have hl3 := hp.lim.2.1
  have HBr : Hid (Calls Tryz.prog 47 #[.pointer (some ⟨p, 0, none⟩), .string ⟨n.toArray⟩, .int .i64 k] w fun e w' => e = .returned (.tuple #[.int .i64 i, .int .i64 0]) ∧ PoR w' B o d p g mb (P.put i { x with used := true }) nm ∧ Ch (po noO p g mb) w (po noO p g mb) w') := by
    show Calls _ _ _ _ _
    clear h hp hwn hpg hm h1 hx
    go_enter Tryz.func47, Tryz.ntmps47
    go_wp2_with fail
    refine HPG.out.mono ?_
    rintro e w1 ⟨g1, ⟨he, rfl⟩ | ⟨-, rfl⟩⟩
    · exact absurd HE.out he
    have HP1 := Lib.hid (HP.out.ext g1)
    have hlk := look_some HP1.out hk HWN.out
    obtain ⟨s0, s1, s2, -⟩ := HP1.out.selfc
    have hfz := HP1.out.fr.frozen
    obtain ⟨c0, c1, c2, c3, c4, c5, c6⟩ := frame_cells HP1.out.fr hi HX.out.symm
    have G1 := Lib.hid g1
    clear g1 HPG
    go_wp2
    go_ret2
    have hg5 : w1.grownBy (w1.setCell ⟨g, i * 7 + 6, none⟩ (.bool true)) (some g) := gr_setCell w1 ⟨g, i * 7 + 6, none⟩ _
    have b3 := Blk.setFr HP1.out.fr hi (j := 6) (by omega) (x' := { x with used := true }) (v := .bool true) (by rw [← HX.out]; rfl)
    have hbx := HP1.out.bytes x (by rw [HX.out]; exact List.getElem_mem hi)
    have hx5 : FrB w1 B o p g mb { x with used := true } := ⟨hbx.rd, hbx.off, hbx.len⟩
    exact ⟨rfl, HP1.out.put hg5 hi b3 (by rw [← HX.out]) (by rw [← HX.out]) (by rw [← HX.out]) (hx5.far hg5 fun q e => (hx5.off q e).2.2.1), (Ch.ext G1.out).trans (Ch.of_gr hg5 fun k e => by cases e; exact (po_ne noO p g mb).2.1)⟩
  clear h hp hwn hpg hm h1 hx HPG d3 HWN
  go_enter Tryz.func21, Tryz.ntmps21
  go_wp2_with fail
  refine HBr.out.mono ?_
  rintro e w1 ⟨rfl, h1, ch1⟩
  obtain ⟨s0, s1, s2, -⟩ := h1.selfc
  have hlen : (P.put i { x with used := true }).fr.length = P.fr.length := by show (P.fr.set i _).length = _; rw [List.length_set]
  rw [hlen] at s1
  have hget : (P.put i { x with used := true }).fr[i]'(by rw [hlen]; exact hi) = { x with used := true } := List.getElem_set_self (l := P.fr) (by simpa using hi)
  obtain ⟨c0, c1, c2, c3, c4, c5, c6⟩ := frame_cells h1.fr (by rw [hlen]; exact hi) hget
  have hmem := List.getElem_mem (l := (P.put i { x with used := true }).fr) (n := i) (by rw [hlen]; exact hi)
  rw [hget] at hmem
  have hbx := h1.bytes _ hmem
  have hrd : RdB w1 x.bv x.b := hbx.rd
  have hbl : x.b.length ≤ 240 := hbx.len.1
  obtain ⟨Ab, cb, hbv⟩ := hrd.form
  have c3' : w1.cell? ⟨g, i * 7 + 3, none⟩ = some x.bv := c3
  rw [hbv] at c3' hrd
  have HCL := Lib.hid (cloneB _ x.b w1 hrd (by omega))
  have H1 := Lib.hid h1
  have CH1 := Lib.hid ch1
  clear h1 ch1 hlen hget hmem c0 c1 c2 c3 c4 c5 c6 hbx hrd hbv HBr
  go_wp2_with fail
  refine HCL.out.mono ?_
  rintro e w2 ⟨v2, rfl, o2, g2⟩
  have O2 := Lib.hid o2
  have G2 := Lib.hid g2
  clear o2 g2 HCL
  go_wp2
  go_ret2
  exact ⟨_, rfl, Own.mono O2.out CH1.out.size, H1.out.ext G2.out, CH1.out.trans (Ch.ext G2.out)⟩
end
end Go.Proofs.YtkfokgjpeaibpaaGreat

/-
  PagefilePlays: what its walk wants besides.
-/
import Derived.Test.YtipankjajdpiiaaGreatFo
import Derived.Test.YtipankjajdpiiaaGreatFt
import Derived.Test.YtipankjajdpiiaaGreatSg
import Derived.Test.YtipankjajdpiiaaGreatSk
import Derived.Test.YtipankjajdpiiaaGreatLd
namespace Go.Proofs.YtipankjajdpiiaaGreat
open Go.RowKit Go.Maps
set_option maxRecDepth 100000
set_option maxHeartbeats 400000

/-- a told value, stored in a block of its own. -/
theorem told_new (w : World) (b l n s e : Value) {W : World} (hW : W = (((((w.alloc (.cells #[.slice none 0 0, .slice none 0 0, .int .i64 0, .string ⟨#[]⟩, .int .i64 0] 57)).setCell ⟨w.heap.size, 0, none⟩ b).setCell ⟨w.heap.size, 1, none⟩ l).setCell ⟨w.heap.size, 2, none⟩ n).setCell ⟨w.heap.size, 3, none⟩ s).setCell ⟨w.heap.size, 4, none⟩ e) :
    w.grownBy W none ∧ Blk W w.heap.size 57 #[b, l, n, s, e] := by
  subst hW
  have hs : ∀ (u : World) (i : Nat) (v : Value), w.grownBy u none → w.grownBy (u.setCell ⟨w.heap.size, i, none⟩ v) none := fun u i v g => gr_trans g (gr_setCell u _ _) (.inr fun q e => by cases e; exact Nat.le_refl _)
  exact ⟨hs _ _ _ (hs _ _ _ (hs _ _ _ (hs _ _ _ (hs _ _ _ (gr_alloc _ _ none))))), (((((Blk.new w 57 tZ).set 0 b).set 1 l).set 2 n).set 3 s).set 4 e⟩
section
variable {w0 w w' w1 : World} {d r : Nat} {fv qv : Value} {S : Dk} {R : RD} {f : Option (List UInt8)} {O o : Own1} {m b Z : Nat} {x : OpF} {t : Tl}
theorem PF.form (h : PF w0 d fv S f O w) : (f = none ∧ fv = .pointer none) ∨ ∃ l b, f = some l ∧ fv = .pointer (some ⟨b, 0, none⟩) := by
  rcases h with ⟨e1, e2, -⟩ | ⟨l, b, o, e1, -, e2, -⟩
  · exact .inl ⟨e1, e2⟩
  · exact .inr ⟨l, b, e1, e2⟩
theorem RF.form (h : RF w0 r fv R f O w) : (f = none ∧ fv = .pointer none) ∨ ∃ l b, f = some l ∧ fv = .pointer (some ⟨b, 0, none⟩) := by
  rcases h with ⟨e1, e2, -⟩ | ⟨l, b, o, e1, -, e2, -⟩
  · exact .inl ⟨e1, e2⟩
  · exact .inr ⟨l, b, e1, e2⟩
/-- both, side by side. -/
def BF (w0 : World) (d r : Nat) (fv qv : Value) (f : Option (List UInt8)) (m b : Nat) (w : World) : Prop := ∃ S R O1 O2, PF w0 d fv S f O1 w ∧ RF w0 r qv R f O2 w ∧ Dsj O1 O2 ∧ Sim S R ∧ Sm S m b
theorem BF.gr (h : BF w0 d r fv qv f m b w) : w0.grownBy w none := by obtain ⟨S, R, O1, O2, h1, -⟩ := h; exact h1.gr
theorem BF.ext (h : BF w0 d r fv qv f m b w) (g : w.grownBy w' none) : BF w0 d r fv qv f m b w' := by
  obtain ⟨S, R, O1, O2, h1, h2, h3⟩ := h
  exact ⟨S, R, O1, O2, h1.ext g, h2.ext g, h3⟩
theorem BF.form (h : BF w0 d r fv qv f m b w) : (fv = .pointer none ∧ qv = .pointer none) ∨ ∃ p q, fv = .pointer (some ⟨p, 0, none⟩) ∧ qv = .pointer (some ⟨q, 0, none⟩) := by
  obtain ⟨S, R, O1, O2, h1, h2, -⟩ := h
  rcases h1.form with ⟨e1, e2⟩ | ⟨l, b, e1, e2⟩
  · rcases h2.form with ⟨-, e3⟩ | ⟨l', b', e3, -⟩
    · exact .inl ⟨e2, e3⟩
    · rw [e1] at e3; cases e3
  · rcases h2.form with ⟨e3, -⟩ | ⟨l', b', -, e3⟩
    · rw [e1] at e3; cases e3
    · exact .inr ⟨b, b', e2, e3⟩
/-- a step of the program's is done: what is told, and what is to come. -/
def MidF (w0 : World) (d r : Nat) (qv : Value) (f : Option (List UInt8)) (m b : Nat) (fv : Value) (t : Tl) (x : OpF) (Z : Nat) (w : World) : Prop :=
  ∃ (S : Dk) (R : RD) (X : Dk × Option (List UInt8) × Tl) (O1 O2 : Own1), X.2.2 = t ∧ PF w0 d fv X.1 X.2.1 O1 w ∧ RF w0 r qv R f O2 w ∧ Dsj O1 O2 ∧ Sim S R ∧ (R.fdo f x).2 = X.2 ∧ Sim X.1 (R.fdo f x).1 ∧ Sm X.1 (m + 1) (b + 256 + x.d.b.length) ∧ R.L.length ≤ m ∧ ∀ q, Z ≤ q → O2 q = none
theorem MidF.ext (h : MidF w0 d r qv f m b fv t x Z w) (g : w.grownBy w' none) : MidF w0 d r qv f m b fv t x Z w' := by
  obtain ⟨S, R, X, O1, O2, h1, h2, h3, h4⟩ := h
  exact ⟨S, R, X, O1, O2, h1, h2.ext g, h3.ext g, h4⟩
theorem MidF.gr (h : MidF w0 d r qv f m b fv t x Z w) : w0.grownBy w none := by
  obtain ⟨S, R, X, O1, O2, h1, h2, -⟩ := h
  exact h2.gr
def BMF (w0 : World) (d r : Nat) (qv : Value) (f : Option (List UInt8)) (m b : Nat) (w : World) (x : OpF) (e : Ending) (w' : World) : Prop :=
  ∃ (t : Tl) (fv' : Value) (A A2 : Option Addr) (c c2 : Nat), e = .returned (.tuple #[.agg #[.slice A t.b.length c, .slice A2 t.l.length c2, .int .i64 (t.n : Nat), .string ⟨t.s.toArray⟩, .int .i64 (t.e : Nat)], fv']) ∧ OwnB w' w.heap.size (.slice A t.b.length c) t.b ∧ OwnI w' w.heap.size (.slice A2 t.l.length c2) t.l ∧ w.heap.size ≤ w'.heap.size ∧ MidF w0 d r qv f m b fv' t x w.heap.size w'
theorem BF.does (h : BF w0 d r fv qv f m b w) (hm : m ≤ 800000) (hb : b ≤ 900000000) (x : OpF) (hx : OpFk w0 x) (hnm : x.name.length ≤ 1000000000) (hbl : x.b.length ≤ 100000) (hdn : x.d.name.length ≤ 1000000000) (hdb : x.d.b.length ≤ 100000000) (hdk : x.d.keep.length ≤ 100000000) :
    Calls Tryz.prog 19 #[.pointer (some ⟨d, 0, none⟩), fv, .agg x.cells.toArray] w (BMF w0 d r qv f m b w x) := by
  obtain ⟨S, R, O1, O2, h1, h2, h3, h4, h5⟩ := h
  have hok : ∀ s k, S.loose s k = true → okK s k := by
    obtain ⟨o, hda, -⟩ := h1.disk2
    obtain ⟨c, hc⟩ := hda.di
    exact loose_okK hc h5.li
  refine (fdoes_any h1 h5 (by omega) (by omega) x (hx.ext h1.gr) hnm hbl hdn hdb hdk).mono ?_
  rintro e w' ⟨X, fv', hX, A, A2, c, c2, rfl, k1, k2, O', k3, k4⟩
  obtain ⟨q1, q2, q3⟩ := sim_fdo h4 h5 hok hX
  obtain ⟨r1, r2⟩ := h2.keep k4 h3.symm k3.gr
  exact ⟨_, fv', A, A2, c, c2, rfl, k1, k2, k4.size, S, R, X, O', O2, rfl, k3, r1, r2.symm, h4, q1, q2, q3, by rw [h4.len]; exact h5.fl, fun q hq => h2.fresh hq⟩
def BMG (w0 : World) (d r : Nat) (fv : Value) (m b Z : Nat) (t : Tl) (w : World) (e : Ending) (w' : World) : Prop :=
  ∃ (qv' : Value) (f' : Option (List UInt8)) (A A2 : Option Addr) (c c2 : Nat), e = .returned (.tuple #[.agg #[.slice A t.b.length c, .slice A2 t.l.length c2, .int .i64 (t.n : Nat), .string ⟨t.s.toArray⟩, .int .i64 (t.e : Nat)], qv']) ∧ RdB w' (.slice A t.b.length c) t.b ∧ RdI w' (.slice A2 t.l.length c2) t.l ∧ BF w0 d r fv qv' f' m b w' ∧ w.heap.size ≤ w'.heap.size ∧ ∀ q, Z ≤ q → q < w.heap.size → w'.heap[q]? = w.heap[q]?
theorem MidF.meant (h : MidF w0 d r qv f m b fv t x Z w) (hm : m ≤ 800000) (hx : OpFk w0 x) (hnm : x.name.length ≤ 1000000000) (hbl : x.b.length ≤ 100000) (hdn : x.d.name.length ≤ 1000000000) (hdb : x.d.b.length ≤ 100000000) (hdk : x.d.keep.length ≤ 100000000) :
    Calls Tryz.prog 20 #[.pointer (some ⟨r, 0, none⟩), qv, .agg x.cells.toArray] w (BMG w0 d r fv (m + 1) (b + 256 + x.d.b.length) Z t w) := by
  obtain ⟨S, R, X, O1, O2, rfl, h1, h2, h3, h4, h5, h6, h7, h8, h9⟩ := h
  refine (fmeant_any h2 h4.up_ h4.lo (by omega) x hx hnm hbl hdn hdb hdk).mono ?_
  rintro e w' ⟨qv', A, A2, c, c2, rfl, k1, k2, O', k3, k4⟩
  obtain ⟨r1, r2⟩ := h1.keep k4 h3 k3.gr
  rw [h5] at k1 k2 k3 ⊢
  exact ⟨qv', X.2.1, A, A2, c, c2, rfl, k1.rd, Own.rd k2, ⟨X.1, (R.fdo f x).1, O1, O', r1, k3, r2, h6, h7⟩, k4.size, fun q hq hl => k4.block q hl (h9 q hq)⟩
theorem BF.files (h : BF w0 d r fv qv f m b w) (hm : m ≤ 800000) : Calls Tryz.prog 15 #[.pointer (some ⟨d, 0, none⟩)] w (SFl d r w) := by
  obtain ⟨S, R, O1, O2, h1, h2, -, h4, h5⟩ := h
  obtain ⟨o, hda, -⟩ := h1.disk2
  obtain ⟨c, hc⟩ := hda.di
  have hfl := h5.fl
  refine (files_gen sortS hc (by omega)).mono ?_
  rintro e w2 ⟨v, l, rfl, ho, hn, hb, -, g⟩
  obtain ⟨A, cv, rfl⟩ := ho.form
  refine ⟨A, cv, l, rfl, g, fun wx gx => ?_⟩
  obtain ⟨oR, hrs, -⟩ := (h2.ext (gr_none g gx)).disk2
  refine (rfiles_any hrs).mono ?_
  rintro e w3 ⟨v', l', rfl, ho', hl', g'⟩
  obtain ⟨A', cv', rfl⟩ := ho'.form
  refine ⟨A', cv', l', rfl, g', ?_⟩
  have e1 := h4.files hn hb hl'
  have e2 := e1.trans hl'
  have hlen : l.length = R.L.length := by have := congrArg List.length e2; simpa using this
  have hsmall : ∀ x ∈ l, x.b.length ≤ 1000000000 := fun x hx => by
    have h3 : (x.n, x.b) ∈ R.L.map fun f => (f.n, f.now) := by rw [← e2]; exact List.mem_map.2 ⟨x, hx, rfl⟩
    obtain ⟨f, hf, e3⟩ := List.mem_map.1 h3
    obtain ⟨A9, N9, c9, l9, h9, hl9⟩ := hrs
    rw [← hl9] at hf
    obtain ⟨y, hy, rfl⟩ := List.mem_map.1 hf
    have h8 := (h9.ok y hy).small.2.1
    have h7 : y.rf.now = x.b := congrArg Prod.snd e3
    rw [← h7]
    have h6 : y.rf.now = y.now := rfl
    rw [h6]; omega
  have o3 := (ho.ext gx).ext g'
  refine sameFiles_any l l' w3 (OwnG.rd o3.1) (OwnG.rd ho'.1) (alike_of e1 (fun x hx => ⟨(o3.2.2 x hx).1, hsmall x hx⟩) fun x hx => (ho'.2.2 x hx).1) ?_
  rw [hlen, h4.len]; omega
end
end Go.Proofs.YtipankjajdpiiaaGreat

/- PagefilePlays: the walk. -/
namespace Go.Proofs.YtipankjajdpiiaaGreat
open Go.RowKit Go.Maps
set_option maxRecDepth 100000
set_option maxHeartbeats 400000

set_option maxHeartbeats 8000000 in
theorem fplays_any (q : Int) (hq : -9223372036854775808 ≤ q ∧ q ≤ 9223372036854775807) (v : Value) (l : List OpF) (w : World) (h : RdFo w v l) :
    Calls Tryz.prog 4 #[.int .i64 q, v] w fun e w' => e = .returned (.bool true) ∧ w.grownBy w' none := by
  obtain ⟨A, c, rfl⟩ := h.form
  obtain ⟨g, off, hA, hcap, hmx, hcells⟩ := h.at_
  have HVA := Lib.hid (vastF_any _ l w h)
  have HWK := Lib.hid works_any
  have HA := Lib.hid hA
  have HC := Lib.hid hcells
  have HOK := Lib.hid h.2
  clear h hA hcells
  go_enter Tryz.func4, Tryz.ntmps4
  go_wp2_with fail
  refine HVA.out.mono ?_
  rintro e w1 ⟨rfl, g1⟩
  have G1 := Lib.hid g1
  clear g1
  cases hv : vastF l with
  | true =>
    clear hv
    go_wp2_with fail
    refine (HWK.out w1).mono ?_
    rintro e w2 ⟨rfl, g2⟩
    have G2 := Lib.hid (gr_none G1.out g2)
    clear g2
    go_wp2_with fail
    go_ret
    exact ⟨rfl, G2.out⟩
  | false =>
    have HV := Lib.hid hv
    clear hv
    by_cases hbad : q < 0 ∨ 1048576 < q
    · have HN1 := Lib.hid (new_bad q w1 hbad)
      have HN2 := Lib.hid (rnew_bad q w1 hbad)
      clear hbad
      go_wp2_with fail
      refine HN1.out.mono ?_
      rintro e w2 ⟨rfl, rfl⟩
      go_wp2_with fail
      refine HN2.out.mono ?_
      rintro e w3 ⟨rfl, rfl⟩
      go_wp2_with fail
      refine (HWK.out w1).mono ?_
      rintro e w2 ⟨rfl, g2⟩
      have G2 := Lib.hid (gr_none G1.out g2)
      clear g2
      go_wp2_with fail
      go_ret
      exact ⟨rfl, G2.out⟩
    · obtain ⟨qn, rfl⟩ : ∃ qn : Nat, q = (qn : Int) := ⟨q.toNat, by omega⟩
      have hqn : qn ≤ 1048576 := by omega
      obtain ⟨hl80, hsum, hsumd⟩ := vastF_no HV.out
      have HSUM := Lib.hid hsum
      have HSUMD := Lib.hid hsumd
      have HN1 := Lib.hid (DA.new qn w1 hqn)
      have HN2 := Lib.hid (fun wx => rnew_any qn wx hqn)
      clear hbad hsum hsumd hqn
      go_wp2_with fail
      refine HN1.out.mono ?_
      rintro e w2 ⟨d, o, rfl, hda⟩
      go_wp2_with fail
      refine (HN2.out w2).mono ?_
      rintro e w3 ⟨r, O, rfl, hrs, hof⟩
      have hz : w2.heap.size ≤ w3.heap.size := hrs.gr.size
      have hB0 : BF w d r (.pointer none) (.pointer none) none 0 0 w3 := ⟨newD qn, ⟨[], qn, 0, false⟩, o, O, .inl ⟨rfl, rfl, (hda.low G1.out).ext hrs.gr⟩, .inl ⟨rfl, rfl, hrs.low (gr_none G1.out hda.gr)⟩, Dsj.mk fun i hi => hof i (hda.own1 i hi), sim_new qn, Sm.new qn⟩
      have HB0 := Lib.hid hB0
      clear hda hrs hof hz hB0
      go_wp2_with fail
      go_loopw [9, 10, 11] (fun fv qv iv wr => ∃ (k m : Nat) (f : Option (List UInt8)), k ≤ l.length ∧ iv = .int .i64 k ∧ BF w d r fv qv f k m wr ∧ m ≤ 70000 * k) (fun _ _ iv _ => l.length - (intOf iv).toNat)
      case atStart => exact ⟨0, 0, none, Nat.zero_le _, rfl, HB0.out, Nat.zero_le _⟩
      case round =>
        obtain ⟨k, m, f, hk, rfl, hb, hm⟩ := hrel
        rename World => wo
        have hG : w.grownBy wo none := hb.gr
        have HB := Lib.hid hb
        have hmb : m ≤ 900000000 := by omega
        have HM := Lib.hid hm
        have HG := Lib.hid hG
        clear hb hm
        by_cases hlt : k < l.length
        · obtain rfl := HA.out (by omega)
          have hc := HC.out k hlt
          have hok := HOK.out l[k] (List.getElem_mem hlt)
          have hW : opFW l[k] ≤ 65536 := by
            have h0 := sumF_take hlt
            have h1 := sumF_mono l (k + 1)
            have h2 := HSUM.out
            omega
          have hWd : opW l[k].d ≤ 65536 := by
            have h1 := opW_le l[k].d (List.mem_map.2 ⟨l[k], List.getElem_mem hlt, rfl⟩ : l[k].d ∈ l.map OpF.d)
            have h2 := HSUMD.out
            omega
          have hsz := opFW_small hW
          have hsd := opW_small hWd
          obtain ⟨x, hx⟩ : ∃ x, x = l[k] := ⟨_, rfl⟩
          rw [← hx] at hc hok hsz hsd hW hWd
          have HD := Lib.hid (BF.does HB.out (by omega) hmb x hok (by omega) (by omega) (by omega) (by omega) (by omega))
          have HMT := Lib.hid (fun (t : Tl) (fv' : Value) (Z : Nat) wx (h9 : MidF w d r u10 f k m fv' t x Z wx) => MidF.meant h9 (by omega) hok (by omega) (by omega) (by omega) (by omega) (by omega))
          have HCL : Hid (∀ wx, w.grownBy wx none → ∀ i, i < 12 → wx.cell? ⟨g, off + k * 12 + i, none⟩ = x.cells[i]?) := fun wx gx i hi => by
            have h1 := hc i hi
            rw [← h1]
            have : ∃ u, w.cell? ⟨g, off + k * 12 + i, none⟩ = some u := by
              rw [h1, List.getElem?_eq_getElem (by show i < 12; exact hi)]; exact ⟨_, rfl⟩
            obtain ⟨u, hu⟩ := this
            rw [hu]; exact gx.cell hu (by simp)
          have HM2 : Hid (m + 256 + x.d.b.length ≤ 70000 * (k + 1)) := by
            have h1 := HM.out
            have h2 := hsd.1
            show _ ≤ _
            omega
          obtain ⟨kd, nm, kk, bv, bs, dk, dnm, din, doff, dn, dbv, db, dm, dkv, keep⟩ := x
          obtain ⟨Ab, cb, rfl⟩ : ∃ Ab cb, bv = .slice Ab bs.length cb := hok.b.form
          obtain ⟨Ad, cd, rfl⟩ : ∃ Ad cd, dbv = .slice Ad db.length cd := hok.d.b.form
          obtain ⟨Ak, ck, rfl⟩ : ∃ Ak ck, dkv = .slice Ak keep.length ck := hok.d.keep.form
          have hk0 : (0 : Int) ≤ (k : Int) := by omega
          have hk1 : (k : Int) < (l.length : Int) := by omega
          obtain ⟨nk, hnk⟩ : ∃ nk, nk = keep.length := ⟨_, rfl⟩
          obtain ⟨nb, hnb⟩ : ∃ nb, nb = bs.length := ⟨_, rfl⟩
          obtain ⟨nd, hnd⟩ : ∃ nd, nd = db.length := ⟨_, rfl⟩
          have HD2 : Hid (Calls Tryz.prog 19 #[.pointer (some ⟨d, 0, none⟩), u9, .agg #[.int .i64 kd, .string ⟨nm.toArray⟩, .int .i64 kk, .slice Ab nb cb, .int .i64 dk, .string ⟨dnm.toArray⟩, .string ⟨din.toArray⟩, .int .i64 doff, .int .i64 dn, .slice Ad nd cd, .int .u8 dm.toNat, .slice Ak nk ck]] wo (BMF w d r u10 f k m wo ⟨kd, nm, kk, .slice Ab bs.length cb, bs, ⟨dk, dnm, din, doff, dn, .slice Ad db.length cd, db, dm, .slice Ak keep.length ck, keep⟩⟩)) := by
            have h1 := HD.out
            rw [hnk, hnb, hnd]; exact h1
          have HMT2 : Hid (∀ (t : Tl) (fv' : Value) (Z : Nat) wx, MidF w d r u10 f k m fv' t ⟨kd, nm, kk, .slice Ab bs.length cb, bs, ⟨dk, dnm, din, doff, dn, .slice Ad db.length cd, db, dm, .slice Ak keep.length ck, keep⟩⟩ Z wx → Calls Tryz.prog 20 #[.pointer (some ⟨r, 0, none⟩), u10, .agg #[.int .i64 kd, .string ⟨nm.toArray⟩, .int .i64 kk, .slice Ab nb cb, .int .i64 dk, .string ⟨dnm.toArray⟩, .string ⟨din.toArray⟩, .int .i64 doff, .int .i64 dn, .slice Ad nd cd, .int .u8 dm.toNat, .slice Ak nk ck]] wx (BMG w d r fv' (k + 1) (m + 256 + db.length) Z t wx)) := fun t fv' Z wx h9 => by
            have h1 := HMT.out t fv' Z wx h9
            rw [hnk, hnb, hnd]; exact h1
          have HCL2 : Hid (∀ wx, w.grownBy wx none → wx.cell? ⟨g, off + k * 12, none⟩ = some (.int .i64 kd) ∧ wx.cell? ⟨g, off + k * 12 + 1, none⟩ = some (.string ⟨nm.toArray⟩) ∧ wx.cell? ⟨g, off + k * 12 + 2, none⟩ = some (.int .i64 kk) ∧ wx.cell? ⟨g, off + k * 12 + 3, none⟩ = some (.slice Ab nb cb) ∧ wx.cell? ⟨g, off + k * 12 + 4, none⟩ = some (.int .i64 dk) ∧ wx.cell? ⟨g, off + k * 12 + 5, none⟩ = some (.string ⟨dnm.toArray⟩) ∧ wx.cell? ⟨g, off + k * 12 + 6, none⟩ = some (.string ⟨din.toArray⟩) ∧ wx.cell? ⟨g, off + k * 12 + 7, none⟩ = some (.int .i64 doff) ∧ wx.cell? ⟨g, off + k * 12 + 8, none⟩ = some (.int .i64 dn) ∧ wx.cell? ⟨g, off + k * 12 + 9, none⟩ = some (.slice Ad nd cd) ∧ wx.cell? ⟨g, off + k * 12 + 10, none⟩ = some (.int .u8 dm.toNat) ∧ wx.cell? ⟨g, off + k * 12 + 11, none⟩ = some (.slice Ak nk ck)) := fun wx gx => by
            rw [hnk, hnb, hnd]
            exact ⟨HCL.out wx gx 0 (by omega), HCL.out wx gx 1 (by omega), HCL.out wx gx 2 (by omega), HCL.out wx gx 3 (by omega), HCL.out wx gx 4 (by omega), HCL.out wx gx 5 (by omega), HCL.out wx gx 6 (by omega), HCL.out wx gx 7 (by omega), HCL.out wx gx 8 (by omega), HCL.out wx gx 9 (by omega), HCL.out wx gx 10 (by omega), HCL.out wx gx 11 (by omega)⟩
          have HM3 : Hid (m + 256 + db.length ≤ 70000 * (k + 1)) := HM2.out
          obtain ⟨z0, z1, z2, z3, z4, z5, z6, z7, z8, z9, z10, z11⟩ := HCL2.out wo HG.out
          clear hc hok hsz hsd hW hWd hx hnk hnb hnd HD HMT HCL HM2
          go_wp2_with fail
          refine HD2.out.mono ?_
          rintro e w4 ⟨t, fv', A1, A2, c1, c2, rfl, o1, o2, hzo, hmid⟩
          have HZO := Lib.hid hzo
          have HO1 := Lib.hid o1
          have HO2 := Lib.hid o2
          have HMID := Lib.hid hmid
          have G4 := Lib.hid hmid.gr
          clear hzo hmid o1 o2 z0 z1 z2 z3 z4 z5 z6 z7 z8 z9 z10 z11
          obtain ⟨W5, hW5⟩ : ∃ W5, W5 = w4.alloc (.cells #[.slice A1 t.b.length c1, .slice A2 t.l.length c2, .int .i64 (t.n : Nat), .string ⟨t.s.toArray⟩, .int .i64 (t.e : Nat)] 57) := ⟨_, rfl⟩
          have g5 : w4.grownBy W5 none := by rw [hW5]; exact gr_alloc _ _ none
          have b5 : Blk W5 w4.heap.size 57 #[.slice A1 t.b.length c1, .slice A2 t.l.length c2, .int .i64 (t.n : Nat), .string ⟨t.s.toArray⟩, .int .i64 (t.e : Nat)] := by rw [hW5]; exact Blk.new _ _ _
          have G5 := Lib.hid g5
          have B5 := Lib.hid b5
          have GW5 := Lib.hid (gr_none G4.out g5)
          have HZ5 : Hid (w4.heap.size < W5.heap.size) := b5.lt
          clear g5 b5
          have hz5 := HCL2.out W5 GW5.out
          rw [hW5] at hz5
          obtain ⟨z0, z1, z2, z3, z4, z5, z6, z7, z8, z9, z10, z11⟩ := hz5
          have HW5 := Lib.hid hW5
          clear hW5
          go_wp2_with fail
          rw [← HW5.out]
          refine (HMT2.out t fv' _ W5 (HMID.out.ext G5.out)).mono ?_
          rintro e w6 ⟨qv', f', A3, A4, c3, c4, rfl, r3, r4, hbf, hz6, hsame⟩
          have HR3 := Lib.hid r3
          have HR4 := Lib.hid r4
          have HBF := Lib.hid hbf
          have HSM := Lib.hid hsame
          have HZ6 := Lib.hid hz6
          have hform := hbf.form
          have G6 := Lib.hid hbf.gr
          clear r3 r4 hbf hsame hz6 z0 z1 z2 z3 z4 z5 z6 z7 z8 z9 z10 z11
          have hb1 : Blk w6 w4.heap.size 57 #[.slice A1 t.b.length c1, .slice A2 t.l.length c2, .int .i64 (t.n : Nat), .string ⟨t.s.toArray⟩, .int .i64 (t.e : Nat)] := B5.out.same (HSM.out _ HZO.out HZ5.out)
          have hx1 : RdB w6 (.slice A1 t.b.length c1) t.b := Rd.same (HO1.out.ext G5.out).rd fun q e => HSM.out q (Own.blk_lt HO1.out (by omega) e).1 (Nat.lt_trans (Own.blk_lt HO1.out (by omega) e).2 HZ5.out)
          have hx2 : RdI w6 (.slice A2 t.l.length c2) t.l := Rd.same (Own.rd (Own.ext HO2.out G5.out)) fun q e => HSM.out q (Own.blk_lt HO2.out (by omega) e).1 (Nat.lt_trans (Own.blk_lt HO2.out (by omega) e).2 HZ5.out)
          obtain ⟨W7, hW7⟩ : ∃ W7, W7 = w6.alloc (.cells #[.slice A3 t.b.length c3, .slice A4 t.l.length c4, .int .i64 (t.n : Nat), .string ⟨t.s.toArray⟩, .int .i64 (t.e : Nat)] 57) := ⟨_, rfl⟩
          have g7 : w6.grownBy W7 none := by rw [hW7]; exact gr_alloc _ _ none
          have b7 : Blk W7 w6.heap.size 57 #[.slice A3 t.b.length c3, .slice A4 t.l.length c4, .int .i64 (t.n : Nat), .string ⟨t.s.toArray⟩, .int .i64 (t.e : Nat)] := by rw [hW7]; exact Blk.new _ _ _
          have HST := Lib.hid (sameTold_same (w := W7) (x := t) (hx1.ext g7) (HR3.out.ext g7) (hx2.ext g7) (HR4.out.ext g7))
          have G7 := Lib.hid g7
          have hk1' := (hb1.ext g7).cell
          have hk2' := b7.cell
          rw [hW7] at hk1' hk2'
          have HW7 := Lib.hid hW7
          clear hW7 g7 b7 hb1 hx1 hx2
          rcases hform with ⟨rfl, rfl⟩ | ⟨p1, p2, rfl, rfl⟩
          all_goals
            go_wp2_with fail
            rw [← HW7.out]
            refine HST.out.mono ?_
            rintro e w8 ⟨rfl, g8⟩
            have G8 := Lib.hid g8
            clear g8
            go_wp2_with fail
            go_roundw
            case rel => exact ⟨k + 1, _, _, by omega, by go_num, HBF.out.ext (gr_none G7.out G8.out), HM3.out⟩
            case measure => simp [intOf] <;> omega
        · obtain rfl : k = l.length := by omega
          have HF := Lib.hid (HB.out.files (by omega))
          have hlk : ¬ (l.length : Int) < (l.length : Int) := by omega
          go_wp2_with fail
          refine HF.out.mono ?_
          rintro e w2 ⟨Af, cf, lf, rfl, g2, hnext⟩
          have G2 := Lib.hid g2
          have HN := Lib.hid hnext
          clear g2 hnext
          go_wp2_with fail
          refine (HN.out w2 (gr_refl _ _)).mono ?_
          rintro e w3 ⟨Ar, cr, lr, rfl, g3, hsame⟩
          have G3 := Lib.hid g3
          have HS := Lib.hid hsame
          clear g3 hsame
          go_wp2_with fail
          refine HS.out.mono ?_
          rintro e w4 ⟨rfl, g4⟩
          have G4 := Lib.hid g4
          clear g4
          go_wp2_with fail
          refine (HWK.out w4).mono ?_
          rintro e w5 ⟨rfl, g5⟩
          have G5 := Lib.hid g5
          clear g5
          go_wp2_with fail
          go_ret
          exact ⟨rfl, gr_none HG.out (gr_none G2.out (gr_none G3.out (gr_none G4.out G5.out)))⟩
end Go.Proofs.YtipankjajdpiiaaGreat

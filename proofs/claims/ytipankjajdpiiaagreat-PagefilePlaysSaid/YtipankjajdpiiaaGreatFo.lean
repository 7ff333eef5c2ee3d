/-
  does of law08, all of it.
-/
import Derived.Test.YtipankjajdpiiaaGreatFm
import Derived.Test.YtipankjajdpiiaaGreatFt
namespace Go.Proofs.YtipankjajdpiiaaGreat
open Go.RowKit Go.Maps
set_option maxRecDepth 100000
set_option maxHeartbeats 1000000

theorem pagO_le {p : List UInt8} {tag k : Nat} {b : List UInt8} (h : pagO p tag k = some b) : b.length ≤ 240 := by
  unfold pagO at h
  split at h
  · next hc =>
    cases h
    obtain ⟨h1, -, h3, -⟩ := hc
    simp
    omega
  · cases h
theorem pread_le (S : Dk) (n : List UInt8) (k : Int) : (S.pread n k).1.length ≤ 100000 := by
  unfold Dk.pread
  split
  · simp
  · split
    · simp
    · split
      · simp
      · cases e : pagO (S.read n (k * 256) 256).1 (crcS n) k.toNat with
        | none => simp
        | some b => have := pagO_le e; dsimp only; omega
section
variable {w0 w w' w1 : World} {d r b B : Nat} {fv v : Value} {S S' : Dk} {R R' : RD} {f f' : Option (List UInt8)} {n nm : List UInt8} {O O' O1 O1' o o' : Own1} {Ab Ad Ae : Option Addr} {nb cb nd cd ne ce : Nat}
def FDone (w0 : World) (d : Nat) (O : Own1) (w : World) (S : Dk) (f : Option (List UInt8)) (x : OpF) (e : Ending) (w' : World) : Prop := ∃ X fv', S.fdo f x X ∧ ToldF (PF w0 d fv' X.1 X.2.1) O w X.2.2 fv' e w'
theorem does0 (h : PF w0 d fv S f O w) (hfl : S.fs.length ≤ 1000000) (hn : nm.length ≤ 1000000000) (k : Int) (D : OpV) :
    Calls Tryz.prog 19 #[.pointer (some ⟨d, 0, none⟩), fv, .agg #[.int .i64 0, .string ⟨nm.toArray⟩, .int .i64 k, .slice Ab nb cb, .int .i64 D.kind, .string ⟨D.name.toArray⟩, .string ⟨D.into.toArray⟩, .int .i64 D.off, .int .i64 D.n, .slice Ad nd cd, .int .u8 D.mask.toNat, .slice Ae ne ce]] w fun e w' =>
      ∃ fv', ToldF (PF w0 d fv' (S.create nm).1 (if (S.create nm).2 = 0 then some nm else none)) O w ⟨[], [], 0, if (S.create nm).2 = 0 then nm else [], (S.create nm).2⟩ fv' e w' :=
  fdoes_create PF.sta (SF := fun v => PF w0 d v (S.create nm).1 (if (S.create nm).2 = 0 then some nm else none)) (fun _ => PF.sta) h nm k D fun W gW => by
    obtain ⟨o, hda, hO⟩ := (h.ext gW).disk2
    obtain ⟨c, hc⟩ := hda.di
    refine (pcreate_any hc hn hfl).mono ?_
    rintro e w' ⟨o', c', k1, k2, k3⟩
    have hda' : DA w0 d o' (S.create nm).1 w' := ⟨⟨c', k1⟩, k2.gr hda.gr hda.own0⟩
    rcases k3 with ⟨e0, pf, rfl, hpf, hp⟩ | ⟨e0, rfl⟩
    · refine ⟨.pointer (some ⟨pf, 0, none⟩), by rw [e0]; rfl, ⟨po o' pf, .inr ⟨nm, pf, o', by rw [if_pos e0], hn, rfl, rfl, hda', hp⟩, (po_of k2 hpf).wide2 hO⟩, ?_⟩
      rw [if_pos e0]
      exact pfname_any hp
    · refine ⟨.pointer none, rfl, ⟨o', .inl ⟨by rw [if_neg e0], rfl, hda'⟩, k2.wide2 hO⟩, ?_⟩
      rw [if_neg e0]
      exact pname_nil w'
theorem does1 (h : PF w0 d fv S f O w) (hn : nm.length ≤ 1000000000) (k : Int) (D : OpV) :
    Calls Tryz.prog 19 #[.pointer (some ⟨d, 0, none⟩), fv, .agg #[.int .i64 1, .string ⟨nm.toArray⟩, .int .i64 k, .slice Ab nb cb, .int .i64 D.kind, .string ⟨D.name.toArray⟩, .string ⟨D.into.toArray⟩, .int .i64 D.off, .int .i64 D.n, .slice Ad nd cd, .int .u8 D.mask.toNat, .slice Ae ne ce]] w fun e w' =>
      ∃ fv', ToldF (PF w0 d fv' S (if (S.pgs nm).2 = 0 then some nm else none)) O w ⟨[], [], 0, if (S.pgs nm).2 = 0 then nm else [], (S.pgs nm).2⟩ fv' e w' :=
  fdoes_open PF.sta (SF := fun v => PF w0 d v S (if (S.pgs nm).2 = 0 then some nm else none)) (fun _ => PF.sta) h nm k D fun W gW => by
    obtain ⟨o, hda, hO⟩ := (h.ext gW).disk2
    obtain ⟨c, hc⟩ := hda.di
    refine (popen_gen hc hn).mono ?_
    rintro e w' ⟨g, k3⟩
    have hda' := hda.ext g
    rcases k3 with ⟨e0, rfl⟩ | ⟨e0, pf, rfl, hpf, hp⟩
    · refine ⟨.pointer none, rfl, ⟨o, .inl ⟨by rw [if_neg e0], rfl, hda'⟩, (Ch.ext g).wide2 hO⟩, ?_⟩
      rw [if_neg e0]
      exact pname_nil w'
    · refine ⟨.pointer (some ⟨pf, 0, none⟩), by rw [e0]; rfl, ⟨po o pf, .inr ⟨nm, pf, o, by rw [if_pos e0], hn, rfl, rfl, hda', ⟨hp.box, hp.free, Nat.le_trans hda.gr.size hpf⟩⟩, (po_of (Ch.ext g) hpf).wide2 hO⟩, ?_⟩
      rw [if_pos e0]
      exact pfname_any hp
/-- something is done. -/
theorem fdoes_any (h : PF w0 d fv S f O w) {a b : Nat} (hs : Sm S a b) (ha : a ≤ 1000000) (hb1 : b ≤ 1000000000) (x : OpF) (hx : OpFk w x) (hnm : x.name.length ≤ 1000000000) (hbl : x.b.length ≤ 100000) (hdn : x.d.name.length ≤ 1000000000) (hdb : x.d.b.length ≤ 100000000) (hdk : x.d.keep.length ≤ 100000000) :
    Calls Tryz.prog 19 #[.pointer (some ⟨d, 0, none⟩), fv, .agg x.cells.toArray] w (FDone w0 d O w S f x) := by
  obtain ⟨kd, nm, k, bv, bs, D⟩ := x
  obtain ⟨Ab, cb, rfl⟩ : ∃ Ab cb, bv = .slice Ab bs.length cb := hx.b.form
  obtain ⟨Ad, cd, e1⟩ : ∃ Ad cd, D.bv = .slice Ad D.b.length cd := hx.d.b.form
  obtain ⟨Ae, ce, e2⟩ : ∃ Ae ce, D.kv = .slice Ae D.keep.length ce := hx.d.keep.form
  have hfl : S.fs.length ≤ 1000000 := by have := hs.fl; omega
  have hnl : S.nl + 256 ≤ 4611686018427387904 := by have := hs.nl; omega
  show Calls Tryz.prog 19 #[.pointer (some ⟨d, 0, none⟩), fv, .agg #[.int .i64 kd, .string ⟨nm.toArray⟩, .int .i64 k, .slice Ab bs.length cb, .int .i64 D.kind, .string ⟨D.name.toArray⟩, .string ⟨D.into.toArray⟩, .int .i64 D.off, .int .i64 D.n, D.bv, .int .u8 D.mask.toNat, D.kv]] w _
  rw [e1, e2]
  have hk := hx.k
  dsimp only at hnm hbl hdn hdb hdk hk
  unfold FDone Dk.fdo
  dsimp only
  by_cases q0 : kd = 0
  · subst q0
    simp only [if_true]
    exact (does0 h hfl hnm k D).mono fun e w' ⟨fv', k⟩ => ⟨_, fv', rfl, k⟩
  simp only [if_neg q0]
  by_cases q1 : kd = 1
  · subst q1
    simp only [if_true]
    exact (does1 h hnm k D).mono fun e w' ⟨fv', k⟩ => ⟨_, fv', rfl, k⟩
  simp only [if_neg q1]
  by_cases q2 : kd = 2
  · subst q2
    simp only [if_true]
    rcases id h with ⟨rfl, rfl, hda⟩ | ⟨n, bx, o, rfl, hn9, rfl, rfl, hda, hp⟩
    · exact (fdoes_read PF.sta PF.sta h nm k D (er := 2) (r := []) (by simp) fun W gW => (pread_nil W k).mono fun e w' ⟨k1, k2⟩ => by
        subst k2
        exact ⟨_, k1, OwnB.nil _ _, O, h.ext gW, Ch.refl _ _, fun q e => by cases e⟩).mono fun e w' k => ⟨_, _, rfl, k⟩
    · obtain ⟨er, her⟩ : ∃ er, er = (S.pread n k).2 := ⟨_, rfl⟩
      refine (fdoes_read PF.sta (St' := PF w0 d (.pointer (some ⟨bx, 0, none⟩)) S (some n)) PF.sta h nm k D (er := (S.pread n k).2) (r := (S.pread n k).1) (pread_le S n k) fun W gW => ?_).mono fun e w' k => ⟨_, _, rfl, k⟩
      obtain ⟨c, hc⟩ := (hda.ext gW).di
      exact (pread_any hc (hp.ext gW) hn9 k hk).mono fun e w' ⟨⟨v, k1, o1⟩, g1⟩ => ⟨v, k1, o1, _, h.ext (gr_none gW g1), Ch.ext g1, fun q e => (h.ext gW).fresh (Own.blk_lt o1 (by omega) e).1⟩
  simp only [if_neg q2]
  by_cases q3 : kd = 3
  · subst q3
    simp only [if_true]
    rcases id h with ⟨rfl, rfl, hda⟩ | ⟨n, bx, o, rfl, hn9, rfl, rfl, hda, hp⟩
    · exact (fdoes_write PF.sta (St' := PF w0 d (.pointer none) S none) PF.sta h nm k D (er := 2) (r := bs) hx.b hbl fun W v gW hv hq => (pwrite_nil W k v).mono fun e w' ⟨k1, k2⟩ => by
        subst k2
        exact ⟨k1, O, h.ext gW, Ch.refl _ _⟩).mono fun e w' k => ⟨_, _, rfl, k⟩
    · refine (fdoes_write PF.sta (St' := PF w0 d (.pointer (some ⟨bx, 0, none⟩)) (S.pwrite n k bs).1 (some n)) PF.sta h nm k D (er := (S.pwrite n k bs).2) (r := bs) hx.b hbl fun W v gW hv hq => ?_).mono fun e w' k => ⟨_, _, rfl, k⟩
      have hdw := hda.ext gW
      obtain ⟨c, hc⟩ := hdw.di
      exact (pwrite_any hc (hp.ext gW) hn9 k hk v bs hv (by omega) hfl hnl).mono fun e w' ⟨k1, k2⟩ => ⟨k1, by
        obtain ⟨o', k3, k4⟩ := hdw.out k2
        exact ⟨po o' bx, .inr ⟨n, bx, o', rfl, hn9, rfl, rfl, k3, (hp.ext gW).ch k4⟩, k4.po⟩⟩
  simp only [if_neg q3]
  by_cases q4 : kd = 4
  · subst q4
    simp only [if_true]
    rcases id h with ⟨rfl, rfl, hda⟩ | ⟨n, bx, o, rfl, hn9, rfl, rfl, hda, hp⟩
    · exact (fdoes_sync PF.sta (St' := PF w0 d (.pointer none) S none) PF.sta h nm k D (er := 2) fun W gW => (psync_nil W).mono fun e w' ⟨k1, k2⟩ => by
        subst k2
        exact ⟨k1, O, h.ext gW, Ch.refl _ _⟩).mono fun e w' k => ⟨_, _, rfl, k⟩
    · refine (fdoes_sync PF.sta (St' := PF w0 d (.pointer (some ⟨bx, 0, none⟩)) (S.sync n).1 (some n)) PF.sta h nm k D (er := (S.sync n).2) fun W gW => ?_).mono fun e w' k => ⟨_, _, rfl, k⟩
      have hdw := hda.ext gW
      obtain ⟨c, hc⟩ := hdw.di
      exact (psync_any hc (hp.ext gW) hn9).mono fun e w' ⟨k1, k2⟩ => ⟨k1, by
        obtain ⟨o', k3, k4⟩ := hdw.out k2
        exact ⟨po o' bx, .inr ⟨n, bx, o', rfl, hn9, rfl, rfl, k3, (hp.ext gW).ch k4⟩, k4.po⟩⟩
  simp only [if_neg q4]
  by_cases q5 : kd = 5
  · subst q5
    simp only [if_true]
    rcases id h with ⟨rfl, rfl, hda⟩ | ⟨n, bx, o, rfl, hn9, rfl, rfl, hda, hp⟩
    · exact (fdoes_pages PF.sta (St' := PF w0 d (.pointer none) S none) PF.sta h nm k D (n := 0) (er := 2) fun W gW => (pages_nil W).mono fun e w' ⟨k1, k2⟩ => by
        subst k2
        exact ⟨k1, O, h.ext gW, Ch.refl _ _⟩).mono fun e w' k => ⟨_, _, rfl, k⟩
    · refine (fdoes_pages PF.sta (St' := PF w0 d (.pointer (some ⟨bx, 0, none⟩)) S (some n)) PF.sta h nm k D (n := (S.ppages n).1) (er := (S.ppages n).2) fun W gW => ?_).mono fun e w' k => ⟨_, _, rfl, k⟩
      obtain ⟨c, hc⟩ := (hda.ext gW).di
      exact (pages_any hc (hp.ext gW) hn9).mono fun e w' ⟨k1, k2⟩ => ⟨k1, _, h.ext (gr_none gW k2), Ch.ext k2⟩
  simp only [if_neg q5]
  by_cases q6 : kd = 6
  · subst q6
    simp only [if_true]
    refine (fdoes_bad PF.sta h nm k D (er := (S.pgs nm).2) (l := if (S.pgs nm).2 = 0 then (badL S nm (S.pgs nm).1).map Int.ofNat else []) fun W gW => ?_).mono fun e w' k => ⟨_, _, rfl, k⟩
    obtain ⟨o, hda, -⟩ := (h.ext gW).disk2
    obtain ⟨c, hc⟩ := hda.di
    exact pbad_any hc hnm
  simp only [if_neg q6]
  by_cases q7 : kd = 7
  · subst q7
    simp only [if_true]
    refine (fdoes_raw PF.sta (ι := Dk × Nat) (SF := fun X => PF w0 d fv X.1 f) (er := Prod.snd) (P := fun X => S.raw D X) (fun _ => PF.sta) h nm k D fun W gW => ?_).mono fun e w' ⟨Y, k1, k2⟩ => ⟨_, _, ⟨Y, k1, rfl⟩, k2⟩
    obtain ⟨o, hda, hback⟩ := (h.ext gW).disk
    exact (raw_any hda hs ha hb1 (hx.d.ext gW) e1 e2 hdn hdb hdk).mono fun e w' ⟨Y, k1, k2, k3⟩ => ⟨Y, k1, k2, hback _ _ k3⟩
  simp only [if_neg q7]
  exact (fdoes_other PF.sta h (by omega) nm k D).mono fun e w' k => ⟨_, _, rfl, k⟩
end
end Go.Proofs.YtipankjajdpiiaaGreat

/- meant of law08, all of it. -/
namespace Go.Proofs.YtipankjajdpiiaaGreat
open Go.RowKit Go.Maps
set_option maxRecDepth 100000
set_option maxHeartbeats 1000000

section
variable {w0 w w' w1 : World} {r b B : Nat} {fv v : Value} {R R' : RD} {f f' : Option (List UInt8)} {n nm : List UInt8} {O O' O1 O1' o o' : Own1} {Ab Ad Ae : Option Addr} {nb cb nd cd ne ce : Nat}
def GDone (w0 : World) (r : Nat) (O : Own1) (w : World) (X : RD × Option (List UInt8) × Tl) (e : Ending) (w' : World) : Prop := ∃ fv', ToldF (RF w0 r fv' X.1 X.2.1) O w X.2.2 fv' e w'
theorem meant0 (h : RF w0 r fv R f O w) (hfl : R.L.length ≤ 900000) (hn : nm.length ≤ 1000000000) (k : Int) (D : OpV) :
    Calls Tryz.prog 20 #[.pointer (some ⟨r, 0, none⟩), fv, .agg #[.int .i64 0, .string ⟨nm.toArray⟩, .int .i64 k, .slice Ab nb cb, .int .i64 D.kind, .string ⟨D.name.toArray⟩, .string ⟨D.into.toArray⟩, .int .i64 D.off, .int .i64 D.n, .slice Ad nd cd, .int .u8 D.mask.toNat, .slice Ae ne ce]] w fun e w' =>
      ∃ fv', ToldF (RF w0 r fv' (R.create nm).1 (if (R.create nm).2 = 0 then some nm else none)) O w ⟨[], [], 0, if (R.create nm).2 = 0 then nm else [], (R.create nm).2⟩ fv' e w' :=
  fmeant_create RF.sta (SF := fun v => RF w0 r v (R.create nm).1 (if (R.create nm).2 = 0 then some nm else none)) (fun _ => RF.sta) h nm k D fun W gW => by
    obtain ⟨o, hda, hO⟩ := (h.ext gW).disk2
    refine (rpcreate_any hda hn hfl).mono ?_
    rintro e w' ⟨o', k1, k2, k3⟩
    rcases k3 with ⟨e0, pf, rfl, hpf, hp⟩ | ⟨e0, rfl⟩
    · refine ⟨.pointer (some ⟨pf, 0, none⟩), by rw [e0]; rfl, ⟨po o' pf, .inr ⟨nm, pf, o', by rw [if_pos e0], hn, rfl, rfl, k1, hp⟩, (po_of k2 hpf).wide2 hO⟩, ?_⟩
      rw [if_pos e0]
      exact rpname_any hp
    · refine ⟨.pointer none, rfl, ⟨o', .inl ⟨by rw [if_neg e0], rfl, k1⟩, k2.wide2 hO⟩, ?_⟩
      rw [if_neg e0]
      exact rpname_nil w'
theorem meant1 (h : RF w0 r fv R f O w) (hn : nm.length ≤ 1000000000) (k : Int) (D : OpV) :
    Calls Tryz.prog 20 #[.pointer (some ⟨r, 0, none⟩), fv, .agg #[.int .i64 1, .string ⟨nm.toArray⟩, .int .i64 k, .slice Ab nb cb, .int .i64 D.kind, .string ⟨D.name.toArray⟩, .string ⟨D.into.toArray⟩, .int .i64 D.off, .int .i64 D.n, .slice Ad nd cd, .int .u8 D.mask.toNat, .slice Ae ne ce]] w fun e w' =>
      ∃ fv', ToldF (RF w0 r fv' R (if (R.pgs nm).2 = 0 then some nm else none)) O w ⟨[], [], 0, if (R.pgs nm).2 = 0 then nm else [], (R.pgs nm).2⟩ fv' e w' :=
  fmeant_open RF.sta (SF := fun v => RF w0 r v R (if (R.pgs nm).2 = 0 then some nm else none)) (fun _ => RF.sta) h nm k D fun W gW => by
    obtain ⟨o, hda, hO⟩ := (h.ext gW).disk2
    refine (rpopen_any hda hn).mono ?_
    rintro e w' ⟨g, k3⟩
    have hda' := hda.ext g
    rcases k3 with ⟨e0, rfl⟩ | ⟨e0, pf, rfl, hpf, hp⟩
    · refine ⟨.pointer none, rfl, ⟨o, .inl ⟨by rw [if_neg e0], rfl, hda'⟩, (Ch.ext g).wide2 hO⟩, ?_⟩
      rw [if_neg e0]
      exact rpname_nil w'
    · refine ⟨.pointer (some ⟨pf, 0, none⟩), by rw [e0]; rfl, ⟨po o pf, .inr ⟨nm, pf, o, by rw [if_pos e0], hn, rfl, rfl, hda', hp⟩, (po_of (Ch.ext g) hpf).wide2 hO⟩, ?_⟩
      rw [if_pos e0]
      exact rpname_any hp
/-- what the document says. -/
theorem fmeant_any (h : RF w0 r fv R f O w) (hup : Up R) (hlo : ∀ f ∈ R.L, ∀ k : Nat, f.loose.getD k false = true → 64 * k < f.now.length) (hfl : R.L.length ≤ 900000) (x : OpF) (hx : OpFk w0 x) (hnm : x.name.length ≤ 1000000000) (hbl : x.b.length ≤ 100000) (hdn : x.d.name.length ≤ 1000000000) (hdb : x.d.b.length ≤ 100000000) (hdk : x.d.keep.length ≤ 100000000) :
    Calls Tryz.prog 20 #[.pointer (some ⟨r, 0, none⟩), fv, .agg x.cells.toArray] w (GDone w0 r O w (R.fdo f x)) := by
  obtain ⟨kd, nm, k, bv, bs, D⟩ := x
  obtain ⟨Ab, cb, rfl⟩ : ∃ Ab cb, bv = .slice Ab bs.length cb := hx.b.form
  obtain ⟨Ad, cd, e1⟩ : ∃ Ad cd, D.bv = .slice Ad D.b.length cd := hx.d.b.form
  obtain ⟨Ae, ce, e2⟩ : ∃ Ae ce, D.kv = .slice Ae D.keep.length ce := hx.d.keep.form
  show Calls Tryz.prog 20 #[.pointer (some ⟨r, 0, none⟩), fv, .agg #[.int .i64 kd, .string ⟨nm.toArray⟩, .int .i64 k, .slice Ab bs.length cb, .int .i64 D.kind, .string ⟨D.name.toArray⟩, .string ⟨D.into.toArray⟩, .int .i64 D.off, .int .i64 D.n, D.bv, .int .u8 D.mask.toNat, D.kv]] w _
  rw [e1, e2]
  have hk := hx.k
  have hgr := h.gr
  dsimp only at hnm hbl hdn hdb hdk hk
  unfold GDone RD.fdo
  dsimp only
  by_cases q0 : kd = 0
  · subst q0
    simp only [if_true]
    exact meant0 h hfl hnm k D
  simp only [if_neg q0]
  by_cases q1 : kd = 1
  · subst q1
    simp only [if_true]
    exact meant1 h hnm k D
  simp only [if_neg q1]
  by_cases q2 : kd = 2
  · subst q2
    simp only [if_true]
    rcases id h with ⟨rfl, rfl, hda⟩ | ⟨n, bx, o, rfl, hn9, rfl, rfl, hda, hp⟩
    · exact (fmeant_read RF.sta RF.sta h nm k D (er := 2) (r := []) fun W gW => (rpread_nil W k).mono fun e w' ⟨k1, k2⟩ => by
        subst k2
        exact ⟨_, k1, OwnB.nil _ _, O, h.ext gW, Ch.refl _ _⟩).mono fun e w' k => ⟨_, k⟩
    · refine (fmeant_read RF.sta (St' := RF w0 r (.pointer (some ⟨bx, 0, none⟩)) R (some n)) RF.sta h nm k D (er := (R.pread n k).2) (r := (R.pread n k).1) fun W gW => ?_).mono fun e w' k => ⟨_, k⟩
      exact (rpread_any (hda.ext gW) (hp.ext gW) hn9 k hk).mono fun e w' ⟨⟨v, k1, o1⟩, g1⟩ => ⟨v, k1, o1, _, h.ext (gr_none gW g1), Ch.ext g1⟩
  simp only [if_neg q2]
  by_cases q3 : kd = 3
  · subst q3
    simp only [if_true]
    rcases id h with ⟨rfl, rfl, hda⟩ | ⟨n, bx, o, rfl, hn9, rfl, rfl, hda, hp⟩
    · exact (fmeant_write RF.sta (St' := RF w0 r (.pointer none) R none) RF.sta h nm k D (er := 2) (r := bs) hx.b hbl fun W gW => (rpwrite_nil W k _).mono fun e w' ⟨k1, k2⟩ => by
        subst k2
        exact ⟨k1, O, h.ext gW, Ch.refl _ _⟩).mono fun e w' k => ⟨_, k⟩
    · refine (fmeant_write RF.sta (St' := RF w0 r (.pointer (some ⟨bx, 0, none⟩)) (R.pwrite n k bs).1 (some n)) RF.sta h nm k D (er := (R.pwrite n k bs).2) (r := bs) hx.b hbl fun W gW => ?_).mono fun e w' k => ⟨_, k⟩
      exact (rpwrite_any (hda.ext gW) hup (hp.ext gW) hn9 k hk _ bs (hx.b.ext (gr_none hgr gW)) (by omega)).mono fun e w' ⟨k1, o', k3, k4⟩ => ⟨k1, po o' bx, .inr ⟨n, bx, o', rfl, hn9, rfl, rfl, k3, (hp.ext gW).ch k4⟩, k4.po⟩
  simp only [if_neg q3]
  by_cases q4 : kd = 4
  · subst q4
    simp only [if_true]
    rcases id h with ⟨rfl, rfl, hda⟩ | ⟨n, bx, o, rfl, hn9, rfl, rfl, hda, hp⟩
    · exact (fmeant_sync RF.sta (St' := RF w0 r (.pointer none) R none) RF.sta h nm k D (er := 2) fun W gW => (rpsync_nil W).mono fun e w' ⟨k1, k2⟩ => by
        subst k2
        exact ⟨k1, O, h.ext gW, Ch.refl _ _⟩).mono fun e w' k => ⟨_, k⟩
    · refine (fmeant_sync RF.sta (St' := RF w0 r (.pointer (some ⟨bx, 0, none⟩)) (R.sync n).1 (some n)) RF.sta h nm k D (er := (R.sync n).2) fun W gW => ?_).mono fun e w' k => ⟨_, k⟩
      exact (rpsync_any (hda.ext gW) hup (hp.ext gW) hn9).mono fun e w' ⟨k1, o', k3, k4⟩ => ⟨k1, po o' bx, .inr ⟨n, bx, o', rfl, hn9, rfl, rfl, k3, (hp.ext gW).ch k4⟩, k4.po⟩
  simp only [if_neg q4]
  by_cases q5 : kd = 5
  · subst q5
    simp only [if_true]
    rcases id h with ⟨rfl, rfl, hda⟩ | ⟨n, bx, o, rfl, hn9, rfl, rfl, hda, hp⟩
    · exact (fmeant_pages RF.sta (St' := RF w0 r (.pointer none) R none) RF.sta h nm k D (n := 0) (er := 2) fun W gW => (rpages_nil W).mono fun e w' ⟨k1, k2⟩ => by
        subst k2
        exact ⟨k1, O, h.ext gW, Ch.refl _ _⟩).mono fun e w' k => ⟨_, k⟩
    · refine (fmeant_pages RF.sta (St' := RF w0 r (.pointer (some ⟨bx, 0, none⟩)) R (some n)) RF.sta h nm k D (n := (R.ppages n).1) (er := (R.ppages n).2) fun W gW => ?_).mono fun e w' k => ⟨_, k⟩
      exact (rpages_any (hda.ext gW) (hp.ext gW) hn9).mono fun e w' ⟨k1, k2⟩ => ⟨k1, _, h.ext (gr_none gW k2), Ch.ext k2⟩
  simp only [if_neg q5]
  by_cases q6 : kd = 6
  · subst q6
    simp only [if_true]
    refine (fmeant_bad RF.sta h nm k D (er := (R.pgs nm).2) (l := if (R.pgs nm).2 = 0 then (R.badL nm (R.pgs nm).1).map Int.ofNat else []) fun W gW => ?_).mono fun e w' k => ⟨_, k⟩
    obtain ⟨o, hda, -⟩ := (h.ext gW).disk2
    refine (rpbad_any hda hnm).mono ?_
    rintro e w' ⟨k1, k2⟩
    refine ⟨?_, k2⟩
    rcases k1 with ⟨h1, rfl⟩ | ⟨h1, v, rfl, h2⟩
    · rw [if_neg h1]
      exact ⟨_, rfl, Own.nil _ _ _⟩
    · rw [if_pos h1, h1]
      exact ⟨v, rfl, h2⟩
  simp only [if_neg q6]
  by_cases q7 : kd = 7
  · subst q7
    simp only [if_true]
    refine (fmeant_raw RF.sta (St' := RF w0 r fv (R.raw D).1 f) RF.sta h nm k D (er := (R.raw D).2) fun W gW => ?_).mono fun e w' k => ⟨_, k⟩
    obtain ⟨o, hda, hback⟩ := (h.ext gW).disk
    exact (rawm_any hda hup hlo hx.d e1 e2 hdn hdb hdk).mono fun e w' ⟨k2, k3⟩ => ⟨k2, hback _ _ k3⟩
  simp only [if_neg q7]
  exact (fmeant_other RF.sta h (by omega) nm k D).mono fun e w' k => ⟨_, k⟩
end
end Go.Proofs.YtipankjajdpiiaaGreat

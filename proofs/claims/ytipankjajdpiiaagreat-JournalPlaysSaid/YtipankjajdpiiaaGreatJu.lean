/-
  JournalPlays: what its walk wants besides.
-/
import Derived.Test.YtipankjajdpiiaaGreatJq
import Derived.Test.YtipankjajdpiiaaGreatNs
namespace Go.Proofs.YtipankjajdpiiaaGreat
open Go.RowKit Go.Maps
set_option maxRecDepth 100000
set_option maxHeartbeats 400000

theorem bl_le : ∀ (x y : List UInt8), bl x y = true → x ≤ y
  | [], _, _ => List.nil_le _
  | _ :: _, [], h => by cases h
  | a :: x, b :: y, h => by
    simp only [bl, Op.bytesLess, Bool.or_eq_true, decide_eq_true_eq, Bool.and_eq_true, beq_iff_eq] at h
    rw [List.cons_le_cons_iff]
    rcases h with h | ⟨rfl, h⟩
    · exact .inl h
    · exact .inr ⟨rfl, bl_le x y h⟩
section
variable {w0 w w' w1 : World} {d r : Nat} {jv : Value} {S : Dk} {R : RD} {j : Option (List Rc)} {O o : Own1}
theorem RS.low (h : RS w1 w r O R) (g : w0.grownBy w1 none) : RS w0 w r O R := by
  obtain ⟨A, N, c, l, h, hl⟩ := h
  exact ⟨A, N, c, l, ⟨h.len, h.self, Own.mono h.own g.size, h.ok, h.lo, h.me, fun i hi => ⟨Nat.le_trans g.size (h.inb i hi).1, (h.inb i hi).2⟩, gr_none g h.gr, h.lim⟩, hl⟩
theorem Sim.len (h : Sim S R) : R.L.length = S.fs.length := by have := h.fs.length_eq; rw [List.length_map] at this; exact this
/-- the files, in the same order. -/
theorem Sim.files (h : Sim S R) {l l' : List Fl} (hn : l.map Fl.n = sortN (S.fs.map Fi.name)) (hb : ∀ x ∈ l, x.b = S.nowOf x.n) (hl' : l'.map (fun x => (x.n, x.b)) = R.L.map fun f => (f.n, f.now)) :
    l.map (fun x => (x.n, x.b)) = l'.map fun x => (x.n, x.b) := by
  have e1 : sortN (S.fs.map Fi.name) = R.L.map Rf.n := by
    have hp : (sortN (S.fs.map Fi.name)).Perm (R.L.map Rf.n) := (sortN_prm _).trans (by have := h.fs.map Fi.name; rw [map_fi_name] at this; exact this.symm)
    refine hp.eq_of_pairwise (le := fun x y => x ≤ y) (fun _ _ _ _ h1 h2 => List.le_antisymm h1 h2) (sortN_up _) ?_
    rw [List.pairwise_map]
    exact h.up.imp fun {x y} h => bl_le _ _ h
  have hN : (S.fs.map Fi.name).Nodup := (h.fs.map Fi.name).nodup_iff.1 (by rw [map_fi_name]; exact h.nodup)
  rw [hl']
  rw [e1] at hn
  have e2 : l.map (fun x => (x.n, x.b)) = (l.map Fl.n).map fun n => (n, S.nowOf n) := by
    rw [List.map_map]
    exact List.map_congr_left fun x hx => by show (x.n, x.b) = (x.n, S.nowOf x.n); rw [hb x hx]
  rw [e2, hn, List.map_map]
  refine List.map_congr_left fun f hf => ?_
  show (f.n, S.nowOf f.n) = (f.n, f.now)
  have hp : f.fi ∈ S.fs := h.fs.mem_iff.1 (List.mem_map.2 ⟨f, hf, rfl⟩)
  have : S.find f.n = some f.fi := find_mem hN hp
  rw [nowOf_some this]; rfl
theorem jdo_len {o : OpJ} {X : Dk × Option (List Rc) × Nat} (hX : S.jdo j o X) (hl : ∀ l, j = some l → l.length ≤ 65536) : ∀ l, X.2.1 = some l → l.length ≤ 65536 := by
  have key : ∀ (T : Dk) (n : Nat) l, (T.jrest n).2.1 = some l → l.length ≤ 65536 := fun T n l h => by
    have k2 : ∀ (U : Dk) m l, (U.jsync m).2.1 = some l → l = m := fun U m l h => by
      unfold Dk.jsync at h
      split at h
      · exact (Option.some.inj h).symm
      · cases h
    unfold Dk.jrest at h
    split at h
    · have : l = readJ (T.read jn 0 (n : Int)).1 := by
        unfold Dk.jcut at h
        split at h
        · split at h
          · exact k2 _ _ _ h
          · cases h
        · exact k2 _ _ _ h
      rw [this]; exact (readJ_is _).2.2
    · cases h
  unfold Dk.jdo at hX
  split at hX
  · rw [hX]
    intro l h
    unfold Dk.jopen at h
    split at h
    · split at h
      · exact key _ _ l h
      · cases h
    · split at h
      · exact key _ _ l h
      · cases h
  · split at hX
    · rw [hX]
      cases j with
      | none => intro l h; cases h
      | some m =>
        intro l h
        have h0 := hl m rfl
        have h2 : (S.jadd m o.r).2.1 = l := Option.some.inj h
        rw [← h2]
        unfold Dk.jadd
        split
        · exact h0
        · split
          · exact h0
          · split
            · split
              · show (m ++ [o.r]).length ≤ _
                rw [List.length_append]; show m.length + 1 ≤ _; omega
              · exact h0
            · exact h0
    · split at hX
      · rw [hX]
        cases j with
        | none => intro l h; cases h
        | some m =>
          intro l h
          have h0 := hl m rfl
          have h2 : (S.jback m o.n).2.1 = l := Option.some.inj h
          rw [← h2]
          unfold Dk.jback
          split
          · exact h0
          · split
            · split
              · show (m.take _).length ≤ _
                rw [List.length_take]; omega
              · exact h0
            · exact h0
      · split at hX
        · rw [hX]; exact hl
        · split at hX
          · split at hX
            · obtain ⟨ls, _, rfl⟩ := hX; exact hl
            · rw [hX]; exact hl
          · split at hX
            · rw [hX]; exact hl
            · split at hX
              · rw [hX]; exact hl
              · split at hX
                · rw [hX]; exact hl
                · rw [hX]; exact hl
theorem PJ.recs (h : PJ w0 d jv S j O w) (hl : ∀ l, j = some l → l.length ≤ 65536) : Calls Tryz.prog 12 #[jv] w fun e w' => (∃ v', e = .returned v' ∧ RdR w' v' (j.getD [])) ∧ w.grownBy w' none := by
  rcases h with ⟨rfl, rfl, h⟩ | ⟨l, b, o, v, rfl, rfl, rfl, h, hj⟩
  · exact (recs_nil w).mono fun e w' ⟨e1, e2⟩ => ⟨⟨_, e1, Rd.nil _ _⟩, by rw [← e2]; exact gr_refl _ _⟩
  · exact (recs_any hj (by have := hl l rfl; omega)).mono fun e w' ⟨⟨v', e1, e2⟩, g⟩ => ⟨⟨v', e1, e2.rd⟩, g⟩
theorem RJ.recs (h : RJ w0 r jv R j O w) (hl : ∀ l, j = some l → l.length ≤ 65536) : Calls Tryz.prog 13 #[jv] w fun e w' => (∃ v', e = .returned v' ∧ RdR w' v' (j.getD [])) ∧ w.grownBy w' none := by
  rcases h with ⟨rfl, rfl, h⟩ | ⟨l, b, o, v, rfl, rfl, rfl, h, hj⟩
  · exact (rrecs_nil w).mono fun e w' ⟨e1, e2⟩ => ⟨⟨_, e1, Rd.nil _ _⟩, by rw [← e2]; exact gr_refl _ _⟩
  · exact (rrecs_any hj (by have := hl l rfl; omega)).mono fun e w' ⟨⟨v', e1, e2⟩, g⟩ => ⟨⟨v', e1, e2.rd⟩, g⟩
theorem PJ.form (h : PJ w0 d jv S j O w) : (j = none ∧ jv = .pointer none) ∨ ∃ l b, j = some l ∧ jv = .pointer (some ⟨b, 0, none⟩) := by
  rcases h with ⟨e1, e2, -⟩ | ⟨l, b, o, v, e1, e2, -⟩
  · exact .inl ⟨e1, e2⟩
  · exact .inr ⟨l, b, e1, e2⟩
theorem RJ.form (h : RJ w0 r jv R j O w) : (j = none ∧ jv = .pointer none) ∨ ∃ l b, j = some l ∧ jv = .pointer (some ⟨b, 0, none⟩) := by
  rcases h with ⟨e1, e2, -⟩ | ⟨l, b, o, v, e1, e2, -⟩
  · exact .inl ⟨e1, e2⟩
  · exact .inr ⟨l, b, e1, e2⟩
/-- both, side by side. -/
structure BJ (w0 : World) (d r : Nat) (jv qv : Value) (j : Option (List Rc)) (m b : Nat) (w : World) : Prop where
  ex : ∃ S R O1 O2, PJ w0 d jv S j O1 w ∧ RJ w0 r qv R j O2 w ∧ Dsj O1 O2 ∧ Sim S R ∧ Sm S m b
  len : ∀ l, j = some l → l.length ≤ 65536
theorem BJ.gr {qv : Value} {m b : Nat} (h : BJ w0 d r jv qv j m b w) : w0.grownBy w none := by obtain ⟨S, R, O1, O2, h1, -⟩ := h.ex; exact h1.gr
theorem BJ.ext {qv : Value} {m b : Nat} (h : BJ w0 d r jv qv j m b w) (g : w.grownBy w' none) : BJ w0 d r jv qv j m b w' := by
  obtain ⟨S, R, O1, O2, h1, h2, h3⟩ := h.ex
  exact ⟨⟨S, R, O1, O2, h1.ext g, h2.ext g, h3⟩, h.len⟩
/-- a step of the program's: what is told, and what is to come. -/
def BMid (w0 : World) (d r : Nat) (qv : Value) (j : Option (List Rc)) (m b : Nat) (x : OpJ) (e : Ending) (w' : World) : Prop :=
  ∃ (er : Nat) (jv' : Value), e = .returned (.tuple #[.int .i64 er, jv']) ∧ ∃ (S : Dk) (R : RD) (X : Dk × Option (List Rc) × Nat) (O1 O2 : Own1), X.2.2 = er ∧ PJ w0 d jv' X.1 X.2.1 O1 w' ∧ RJ w0 r qv R j O2 w' ∧ Dsj O1 O2 ∧ Sim S R ∧ (R.jdo j x).2 = X.2 ∧ Sim X.1 (R.jdo j x).1 ∧ Sm X.1 (m + 1) (b + 64 + x.b.length) ∧ R.L.length ≤ m ∧ (∀ l, j = some l → l.length ≤ 65536) ∧ ∀ l, X.2.1 = some l → l.length ≤ 65536
theorem BJ.does {qv : Value} {m b : Nat} (h : BJ w0 d r jv qv j m b w) (hm : m ≤ 800000) (hb : b ≤ 900000000) (x : OpJ) (hx : OpJk w0 x) (hkl : x.keep.length ≤ 100000000) (hbl : x.b.length ≤ 100000000) :
    Calls Tryz.prog 9 #[.pointer (some ⟨d, 0, none⟩), jv, .agg x.cells.toArray] w (BMid w0 d r qv j m b x) := by
  obtain ⟨S, R, O1, O2, h1, h2, h3, h4, h5⟩ := h.ex
  have hok : ∀ s k, S.loose s k = true → okK s k := by
    obtain ⟨o, hda, -⟩ := h1.disk2
    obtain ⟨c, hc⟩ := hda.di
    exact loose_okK hc h5.li
  refine (jdoes_any h1 h5 (by omega) (by omega) h.len x { hx with b := hx.b.ext h1.gr, keep := hx.keep.ext h1.gr } hkl hbl).mono ?_
  rintro e w' ⟨X, hX, jv', O', rfl, k1, k2⟩
  obtain ⟨q1, q2, q3⟩ := sim_jdo h4 h5 hok hX
  obtain ⟨r1, r2⟩ := h2.keep k2 h3.symm k1.gr
  exact ⟨_, jv', rfl, S, R, X, O', O2, rfl, k1, r1, r2.symm, h4, q1, q2, q3, by rw [h4.len]; exact h5.fl, h.len, jdo_len hX h.len⟩
theorem BMid.meant {qv : Value} {m b : Nat} {x : OpJ} {er : Nat} {jv' : Value} (h : BMid w0 d r qv j m b x (.returned (.tuple #[.int .i64 er, jv'])) w) (hm : m ≤ 800000) (hx : OpJk w0 x) (hkl : x.keep.length ≤ 100000000) (hbl : x.b.length ≤ 100000000) :
    Calls Tryz.prog 10 #[.pointer (some ⟨r, 0, none⟩), qv, .agg x.cells.toArray] w fun e w' => ∃ qv' j', e = .returned (.tuple #[.int .i64 er, qv']) ∧ BJ w0 d r jv' qv' j' (m + 1) (b + 64 + x.b.length) w' := by
  obtain ⟨er', jv2, e0, S, R, X, O1, O2, rfl, h1, h2, h3, h4, h5, h6, h7, h8, h9, h10⟩ := h
  obtain ⟨e9, rfl⟩ : (er : Int) = (X.2.2 : Int) ∧ jv' = jv2 := by
    injection e0 with e0; injection e0 with e0
    have e1 := congrArg (fun a : Array Value => a[0]?) e0
    have e2 := congrArg (fun a : Array Value => a[1]?) e0
    simp at e1 e2
    exact ⟨by exact_mod_cast e1, e2⟩
  obtain rfl : er = X.2.2 := by omega
  refine (jmeant_any h2 h4.up_ h4.lo (by omega) h9 x hx hkl hbl).mono ?_
  rintro e w' ⟨qv', O', rfl, k1, k2⟩
  obtain ⟨r1, r2⟩ := h1.keep k2 h3 k1.gr
  refine ⟨qv', X.2.1, ?_, ⟨X.1, (R.jdo j x).1, O1, O', r1, by rw [← h5]; exact k1, r2, h6, h7⟩, h10⟩
  rw [h5]
theorem alike_of {w : World} {l l' : List Fl} (e : l.map (fun x => (x.n, x.b)) = l'.map fun x => (x.n, x.b)) (h1 : ∀ x ∈ l, RdB w x.s x.b ∧ x.b.length ≤ 1000000000) (h2 : ∀ x ∈ l', RdB w x.s x.b) : Alike w l l' := by
  have hl : l.length = l'.length := by have := congrArg List.length e; simpa using this
  refine ⟨hl, fun i hi hi' => ?_⟩
  have h3 : (l.map fun x => (x.n, x.b))[i]? = (l'.map fun x => (x.n, x.b))[i]? := by rw [e]
  rw [List.getElem?_map, List.getElem?_map, List.getElem?_eq_getElem hi, List.getElem?_eq_getElem hi'] at h3
  have h4 := Option.some.inj h3
  have k1 := h1 l[i] (List.getElem_mem hi)
  exact ⟨congrArg Prod.fst h4, congrArg Prod.snd h4, k1.2, k1.1, h2 l'[i] (List.getElem_mem hi')⟩
def SFl (d r : Nat) (w : World) (e : Ending) (w2 : World) : Prop :=
  ∃ (A : Option Addr) (c : Nat) (l : List Fl), e = .returned (.slice A l.length c) ∧ w.grownBy w2 none ∧ ∀ wx, w2.grownBy wx none → Calls Tryz.prog 16 #[.pointer (some ⟨r, 0, none⟩)] wx fun e w3 => ∃ (A' : Option Addr) (c' : Nat) (l' : List Fl), e = .returned (.slice A' l'.length c') ∧ wx.grownBy w3 none ∧ Calls Tryz.prog 14 #[.slice A l.length c, .slice A' l'.length c'] w3 fun e w' => e = .returned (.bool true) ∧ w3.grownBy w' none
theorem BJ.files {qv : Value} {m b : Nat} (h : BJ w0 d r jv qv j m b w) (hm : m ≤ 800000) : Calls Tryz.prog 15 #[.pointer (some ⟨d, 0, none⟩)] w (SFl d r w) := by
  obtain ⟨S, R, O1, O2, h1, h2, -, h4, h5⟩ := h.ex
  obtain ⟨o, hda, -⟩ := h1.disk2
  obtain ⟨c, hc⟩ := hda.di
  have hfl := h5.fl
  refine (files_gen sortS hc (by omega)).mono ?_
  rintro e w2 ⟨v, l, rfl, ho, hn, hb, -, g⟩
  obtain ⟨A, cv, rfl⟩ := ho.form
  refine ⟨A, cv, l, rfl, g, fun wx gx => ?_⟩
  obtain ⟨oR, hrs, -⟩ := (h2.ext (gr_none g gx)).disk2
  refine (rfiles_any hrs).mono ?_
  rintro e w3 ⟨v', l', rfl, ho', hl', g'⟩
  obtain ⟨A', cv', rfl⟩ := ho'.form
  refine ⟨A', cv', l', rfl, g', ?_⟩
  have e1 := h4.files hn hb hl'
  have e2 := e1.trans hl'
  have hlen : l.length = R.L.length := by have := congrArg List.length e2; simpa using this
  have hsmall : ∀ x ∈ l, x.b.length ≤ 1000000000 := fun x hx => by
    have h3 : (x.n, x.b) ∈ R.L.map fun f => (f.n, f.now) := by rw [← e2]; exact List.mem_map.2 ⟨x, hx, rfl⟩
    obtain ⟨f, hf, e3⟩ := List.mem_map.1 h3
    obtain ⟨A9, N9, c9, l9, h9, hl9⟩ := hrs
    rw [← hl9] at hf
    obtain ⟨y, hy, rfl⟩ := List.mem_map.1 hf
    have h8 := (h9.ok y hy).small.2.1
    have h7 : y.rf.now = x.b := congrArg Prod.snd e3
    rw [← h7]
    have h6 : y.rf.now = y.now := rfl
    rw [h6]; omega
  have o3 := (ho.ext gx).ext g'
  refine sameFiles_any l l' w3 (OwnG.rd o3.1) (OwnG.rd ho'.1) (alike_of e1 (fun x hx => ⟨(o3.2.2 x hx).1, hsmall x hx⟩) fun x hx => (ho'.2.2 x hx).1) ?_
  rw [hlen, h4.len]; omega
end
end Go.Proofs.YtipankjajdpiiaaGreat

/- JournalPlays: the walk. -/
namespace Go.Proofs.YtipankjajdpiiaaGreat
open Go.RowKit Go.Maps
set_option maxRecDepth 100000
set_option maxHeartbeats 400000

set_option maxHeartbeats 8000000 in
theorem jplays_any (q : Int) (hq : -9223372036854775808 ≤ q ∧ q ≤ 9223372036854775807) (v : Value) (l : List OpJ) (w : World) (h : RdJ w v l) :
    Calls Tryz.prog 3 #[.int .i64 q, v] w fun e w' => e = .returned (.bool true) ∧ w.grownBy w' none := by
  obtain ⟨A, c, rfl⟩ := h.form
  obtain ⟨g, off, hA, hcap, hmx, hcells⟩ := h.at_
  have HVA := Lib.hid (vastJ_any _ l w h)
  have HWK := Lib.hid works_any
  have HA := Lib.hid hA
  have HC := Lib.hid hcells
  have HOK := Lib.hid h.2
  clear h hA hcells
  go_enter Tryz.func3, Tryz.ntmps3
  go_wp2_with fail
  refine HVA.out.mono ?_
  rintro e w1 ⟨rfl, g1⟩
  have G1 := Lib.hid g1
  clear g1
  cases hv : vastJ l with
  | true =>
    clear hv
    go_wp2_with fail
    refine (HWK.out w1).mono ?_
    rintro e w2 ⟨rfl, g2⟩
    have G2 := Lib.hid (gr_none G1.out g2)
    clear g2
    go_wp2_with fail
    go_ret
    exact ⟨rfl, G2.out⟩
  | false =>
    have HV := Lib.hid hv
    clear hv
    by_cases hbad : q < 0 ∨ 1048576 < q
    · have HN1 := Lib.hid (new_bad q w1 hbad)
      have HN2 := Lib.hid (rnew_bad q w1 hbad)
      clear hbad
      go_wp2_with fail
      refine HN1.out.mono ?_
      rintro e w2 ⟨rfl, rfl⟩
      go_wp2_with fail
      refine HN2.out.mono ?_
      rintro e w3 ⟨rfl, rfl⟩
      go_wp2_with fail
      refine (HWK.out w1).mono ?_
      rintro e w2 ⟨rfl, g2⟩
      have G2 := Lib.hid (gr_none G1.out g2)
      clear g2
      go_wp2_with fail
      go_ret
      exact ⟨rfl, G2.out⟩
    · obtain ⟨qn, rfl⟩ : ∃ qn : Nat, q = (qn : Int) := ⟨q.toNat, by omega⟩
      have hqn : qn ≤ 1048576 := by omega
      obtain ⟨hl80, hsum⟩ := vastJ_no HV.out
      have HSUM := Lib.hid hsum
      have HN1 := Lib.hid (DA.new qn w1 hqn)
      have HN2 := Lib.hid (fun wx => rnew_any qn wx hqn)
      clear hbad hsum hqn
      go_wp2_with fail
      refine HN1.out.mono ?_
      rintro e w2 ⟨d, o, rfl, hda⟩
      go_wp2_with fail
      refine (HN2.out w2).mono ?_
      rintro e w3 ⟨r, O, rfl, hrs, hof⟩
      have hz : w2.heap.size ≤ w3.heap.size := hrs.gr.size
      have hB0 : BJ w d r (.pointer none) (.pointer none) none 0 0 w3 := ⟨⟨newD qn, ⟨[], qn, 0, false⟩, o, O, .inl ⟨rfl, rfl, (hda.low G1.out).ext hrs.gr⟩, .inl ⟨rfl, rfl, hrs.low (gr_none G1.out hda.gr)⟩, Dsj.mk fun i hi => hof i (hda.own1 i hi), sim_new qn, Sm.new qn⟩, fun l h => (by cases h)⟩
      have HB0 := Lib.hid hB0
      clear hda hrs hof hz hB0
      go_wp2_with fail
      go_loopw [9, 10, 11] (fun jv qv iv wr => ∃ (k m : Nat) (j : Option (List Rc)), k ≤ l.length ∧ iv = .int .i64 k ∧ BJ w d r jv qv j k m wr ∧ m ≤ 64 * k + sumJ (l.take k)) (fun _ _ iv _ => l.length - (intOf iv).toNat)
      case atStart => exact ⟨0, 0, none, Nat.zero_le _, rfl, HB0.out, Nat.zero_le _⟩
      case round =>
        obtain ⟨k, m, j, hk, rfl, hb, hm⟩ := hrel
        rename World => wo
        have hG : w.grownBy wo none := hb.gr
        have HB := Lib.hid hb
        have hsm : sumJ (l.take k) ≤ 32768 := Nat.le_trans (sumJ_mono l k) HSUM.out
        have hmb : m ≤ 900000000 := by omega
        have HM := Lib.hid hm
        have HG := Lib.hid hG
        clear hb hm hsm
        by_cases hlt : k < l.length
        · obtain rfl := HA.out (by omega)
          have hc := HC.out k hlt
          have hok := HOK.out l[k] (List.getElem_mem hlt)
          have hsum := sumJ_take hlt
          have hW : opJW l[k] ≤ 32768 := by
            have h1 := sumJ_mono l (k + 1)
            have h2 := HSUM.out
            omega
          have hsz := opJW_small hW
          obtain ⟨x, hx⟩ : ∃ x, x = l[k] := ⟨_, rfl⟩
          rw [← hx] at hc hok hsum hsz hW
          have HD := Lib.hid (BJ.does HB.out (by omega) hmb x hok (by omega) (by omega))
          have HMT := Lib.hid (fun (er : Nat) (jv' : Value) wx (h9 : BMid w d r u10 j k m x (.returned (.tuple #[.int .i64 er, jv'])) wx) => BMid.meant h9 (by omega) hok (by omega) (by omega))
          have HCL : Hid (∀ wx, w.grownBy wx none → ∀ i, i < 8 → wx.cell? ⟨g, off + k * 8 + i, none⟩ = x.cells[i]?) := fun wx gx i hi => by
            have h1 := hc i hi
            rw [← h1]
            have : ∃ u, w.cell? ⟨g, off + k * 8 + i, none⟩ = some u := by
              rw [h1, List.getElem?_eq_getElem (by show i < 8; exact hi)]; exact ⟨_, rfl⟩
            obtain ⟨u, hu⟩ := this
            rw [hu]; exact gx.cell hu (by simp)
          have HM2 : Hid (m + 64 + x.b.length ≤ 64 * (k + 1) + sumJ (l.take (k + 1))) := by
            have h1 := HM.out
            have h2 := hsz.1
            show _ ≤ _
            omega
          have y0 := HCL.out wo HG.out 0 (by omega)
          have y1 := HCL.out wo HG.out 1 (by omega)
          have y2 := HCL.out wo HG.out 2 (by omega)
          have y3 := HCL.out wo HG.out 3 (by omega)
          have y4 := HCL.out wo HG.out 4 (by omega)
          have y5 := HCL.out wo HG.out 5 (by omega)
          have y6 := HCL.out wo HG.out 6 (by omega)
          have y7 := HCL.out wo HG.out 7 (by omega)
          obtain ⟨kd, rc, n, kv, keep, bv, bs, mk⟩ := x
          obtain ⟨Ak, ck, rfl⟩ : ∃ Ak ck, kv = .slice Ak keep.length ck := hok.keep.form
          obtain ⟨Ab, cb, rfl⟩ : ∃ Ab cb, bv = .slice Ab bs.length cb := hok.b.form
          have hk0 : (0 : Int) ≤ (k : Int) := by omega
          have hk1 : (k : Int) < (l.length : Int) := by omega
          obtain ⟨nk, hnk⟩ : ∃ nk, nk = keep.length := ⟨_, rfl⟩
          obtain ⟨nb, hnb⟩ : ∃ nb, nb = bs.length := ⟨_, rfl⟩
          have HD2 : Hid (Calls Tryz.prog 9 #[.pointer (some ⟨d, 0, none⟩), u9, .agg #[.int .i64 kd, .int .u32 rc.k.toNat, .int .u32 rc.a.toNat, .int .u32 rc.b.toNat, .int .i64 n, .slice Ak nk ck, .slice Ab nb cb, .int .u8 mk.toNat]] wo (BMid w d r u10 j k m ⟨kd, rc, n, .slice Ak keep.length ck, keep, .slice Ab bs.length cb, bs, mk⟩)) := by
            have h1 := HD.out
            rw [hnk, hnb]; exact h1
          have HMT2 : Hid (∀ (er : Nat) (jv' : Value) wx, BMid w d r u10 j k m ⟨kd, rc, n, .slice Ak keep.length ck, keep, .slice Ab bs.length cb, bs, mk⟩ (.returned (.tuple #[.int .i64 er, jv'])) wx → Calls Tryz.prog 10 #[.pointer (some ⟨r, 0, none⟩), u10, .agg #[.int .i64 kd, .int .u32 rc.k.toNat, .int .u32 rc.a.toNat, .int .u32 rc.b.toNat, .int .i64 n, .slice Ak nk ck, .slice Ab nb cb, .int .u8 mk.toNat]] wx fun e w' => ∃ qv' j', e = .returned (.tuple #[.int .i64 er, qv']) ∧ BJ w d r jv' qv' j' (k + 1) (m + 64 + bs.length) w') := fun er jv' wx h9 => by
            have h1 := HMT.out er jv' wx h9
            rw [hnk, hnb]; exact h1
          have HGM : Hid (∀ e wx, BMid w d r u10 j k m ⟨kd, rc, n, .slice Ak keep.length ck, keep, .slice Ab bs.length cb, bs, mk⟩ e wx → w.grownBy wx none) := fun e wx h9 => by
            obtain ⟨er', jv2, -, S, R, X, O1, O2, -, h1, -⟩ := h9
            exact h1.gr
          rw [← hnk] at y5
          rw [← hnb] at y6
          have HCL2 : Hid (∀ wx, w.grownBy wx none → wx.cell? ⟨g, off + k * 8, none⟩ = some (.int .i64 kd) ∧ wx.cell? ⟨g, off + k * 8 + 1, none⟩ = some (.int .u32 rc.k.toNat) ∧ wx.cell? ⟨g, off + k * 8 + 2, none⟩ = some (.int .u32 rc.a.toNat) ∧ wx.cell? ⟨g, off + k * 8 + 3, none⟩ = some (.int .u32 rc.b.toNat) ∧ wx.cell? ⟨g, off + k * 8 + 4, none⟩ = some (.int .i64 n) ∧ wx.cell? ⟨g, off + k * 8 + 5, none⟩ = some (.slice Ak nk ck) ∧ wx.cell? ⟨g, off + k * 8 + 6, none⟩ = some (.slice Ab nb cb) ∧ wx.cell? ⟨g, off + k * 8 + 7, none⟩ = some (.int .u8 mk.toNat)) := fun wx gx => by
            rw [hnk, hnb]
            exact ⟨HCL.out wx gx 0 (by omega), HCL.out wx gx 1 (by omega), HCL.out wx gx 2 (by omega), HCL.out wx gx 3 (by omega), HCL.out wx gx 4 (by omega), HCL.out wx gx 5 (by omega), HCL.out wx gx 6 (by omega), HCL.out wx gx 7 (by omega)⟩
          obtain ⟨z0, z1, z2, z3, z4, z5, z6, z7⟩ := HCL2.out wo HG.out
          have HM3 : Hid (m + 64 + bs.length ≤ 64 * (k + 1) + sumJ (l.take (k + 1))) := HM2.out
          clear y0 y1 y2 y3 y4 y5 y6 y7 hc hok hsum hsz hW hx hnk hnb HD HMT HCL HM2
          go_wp2_with fail
          refine HD2.out.mono ?_
          intro e w4 hmid
          have G4 := Lib.hid (HGM.out _ _ hmid)
          obtain ⟨er, jv', rfl, hrest⟩ := id hmid
          have HMID := Lib.hid hmid
          clear hmid hrest z0 z1 z2 z3 z4 z5 z6 z7
          obtain ⟨z0, z1, z2, z3, z4, z5, z6, z7⟩ := HCL2.out w4 G4.out
          go_wp2_with fail
          refine (HMT2.out er jv' w4 HMID.out).mono ?_
          rintro e w5 ⟨qv', j', rfl, hbj⟩
          have HBJ := Lib.hid hbj
          have HLEN := Lib.hid hbj.len
          have HSELF : Hid (((er : Int) == (er : Int)) = true) := by show _ = _; simp
          clear z0 z1 z2 z3 z4 z5 z6 z7
          have hjq : (j' = none ∧ jv' = .pointer none ∧ qv' = .pointer none) ∨ ∃ l b b', j' = some l ∧ jv' = .pointer (some ⟨b, 0, none⟩) ∧ qv' = .pointer (some ⟨b', 0, none⟩) := by
            obtain ⟨S, R, O1, O2, h1, h2, -⟩ := hbj.ex
            rcases h1.form with ⟨e1, e2⟩ | ⟨l, b, e1, e2⟩
            · rcases h2.form with ⟨-, e3⟩ | ⟨l', b', e3, -⟩
              · exact .inl ⟨e1, e2, e3⟩
              · rw [e1] at e3; cases e3
            · rcases h2.form with ⟨e3, -⟩ | ⟨l', b', -, e3⟩
              · rw [e1] at e3; cases e3
              · exact .inr ⟨l, b, b', e1, e2, e3⟩
          have HR1 : Hid (Calls Tryz.prog 12 #[jv'] w5 fun e w' => (∃ v', e = .returned v' ∧ RdR w' v' (j'.getD [])) ∧ w5.grownBy w' none) := by
            obtain ⟨S, R, O1, O2, h1, -⟩ := hbj.ex
            exact h1.recs hbj.len
          have HR2 : Hid (∀ wx, w5.grownBy wx none → Calls Tryz.prog 13 #[qv'] wx fun e w' => (∃ v', e = .returned v' ∧ RdR w' v' (j'.getD [])) ∧ wx.grownBy w' none) := fun wx gx => by
            obtain ⟨S, R, O1, O2, -, h2, -⟩ := (hbj.ext gx).ex
            exact h2.recs hbj.len
          have HJL : Hid ((j'.getD []).length ≤ 1000000000) := by
            show _ ≤ _
            cases j' with
            | none => exact Nat.zero_le _
            | some l => have := hbj.len l rfl; show l.length ≤ _; omega
          have HSM : Hid (∀ wx v1 v2, RdR wx v1 (j'.getD []) → RdR wx v2 (j'.getD []) → Calls Tryz.prog 11 #[v1, v2] wx fun e w' => e = .returned (.bool true) ∧ wx.grownBy w' none) := fun wx v1 v2 r1 r2 => (same_any v1 v2 _ _ wx r1 r2 HJL.out HJL.out).mono fun e w' ⟨⟨b, e1, e2⟩, g⟩ => ⟨by rw [e1, e2.2 rfl], g⟩
          clear hbj
          rcases hjq with ⟨rfl, rfl, rfl⟩ | ⟨rl, b1, b2, rfl, rfl, rfl⟩
          all_goals
            go_wp2_with fail
            refine HR1.out.mono ?_
            rintro e w6 ⟨⟨v6, rfl, r6⟩, g6⟩
            have G6 := Lib.hid g6
            have R6 := Lib.hid r6
            obtain ⟨A6, c6, e6⟩ := r6.form
            subst e6
            clear g6 r6
            go_wp2_with fail
            refine (HR2.out w6 G6.out).mono ?_
            rintro e w7 ⟨⟨v7, rfl, r7⟩, g7⟩
            have G7 := Lib.hid g7
            have R7 := Lib.hid r7
            obtain ⟨A7, c7, e7⟩ := r7.form
            subst e7
            clear g7 r7
            go_wp2_with fail
            refine (HSM.out w7 _ _ (R6.out.ext G7.out) R7.out).mono ?_
            rintro e w8 ⟨rfl, g8⟩
            have G8 := Lib.hid g8
            clear g8
            go_wp2_with fail
            go_roundw
            case rel => exact ⟨k + 1, _, _, by omega, by go_num, HBJ.out.ext (gr_none G6.out (gr_none G7.out G8.out)), HM3.out⟩
            case measure => simp [intOf] <;> omega
        · obtain rfl : k = l.length := by omega
          have HF := Lib.hid (HB.out.files (by omega))
          have hlk : ¬ (l.length : Int) < (l.length : Int) := by omega
          go_wp2_with fail
          refine HF.out.mono ?_
          rintro e w2 ⟨Af, cf, lf, rfl, g2, hnext⟩
          have G2 := Lib.hid g2
          have HN := Lib.hid hnext
          clear g2 hnext
          go_wp2_with fail
          refine (HN.out w2 (gr_refl _ _)).mono ?_
          rintro e w3 ⟨Ar, cr, lr, rfl, g3, hsame⟩
          have G3 := Lib.hid g3
          have HS := Lib.hid hsame
          clear g3 hsame
          go_wp2_with fail
          refine HS.out.mono ?_
          rintro e w4 ⟨rfl, g4⟩
          have G4 := Lib.hid g4
          clear g4
          go_wp2_with fail
          refine (HWK.out w4).mono ?_
          rintro e w5 ⟨rfl, g5⟩
          have G5 := Lib.hid g5
          clear g5
          go_wp2_with fail
          go_ret
          exact ⟨rfl, gr_none HG.out (gr_none G2.out (gr_none G3.out (gr_none G4.out G5.out)))⟩
end Go.Proofs.YtipankjajdpiiaaGreat

/-
  pool, any of it: a frame is taken.
-/
import Derived.Test.YtkpmadahfmpeiaaGreatG7
namespace Go.Proofs.YtkpmadahfmpeiaaGreat
open Go.RowKit Go.Maps
set_option maxRecDepth 100000
set_option maxHeartbeats 400000

section
variable {w w' : World} {B d p g mb nm pf : Nat} {o : Own1} {P : Pl} {S : Dk} {c : Con} {n : List UInt8}
theorem pgs_le (h : DI w B o d S c) (n : List UInt8) : (S.pgs n).1 ≤ 65536 := by
  have hz := (size_le h n).1
  unfold Dk.pgs
  split
  · simp
  · split
    · simp
    · show (S.size n).1 / 256 ≤ 65536
      omega
theorem po_fresh (h : DI w B o d S c) (hp : PoR w B o d p g mb P nm) {q : Nat} (hq : w.heap.size ≤ q) : po o p g mb q = none := by
  have h1 := hp.self.lt
  have h2 := hp.fr.lt
  have h3 := hp.wh.lt
  refine po_none_mk (by omega) (by omega) (by omega) ?_
  cases e : o q with
  | none => rfl
  | some t => exact absurd (h.inb q (by rw [e]; simp)).2 (by omega)
set_option maxHeartbeats 4000000 in
theorem back_any (h : DI w B o d S c) (hp : PoR w B o d p g mb P nm) {i : Nat} {x : Fr} (hx : P.fr[i]? = some x) (hfl : S.fs.length ≤ 1000000) (hnl : S.nl ≤ 1000000000000) :
    Calls Tryz.prog 141 #[.pointer (some ⟨p, 0, none⟩), .int .i64 i] w fun e w' => e = .returned (.int .i64 (backP P.fr S i).e) ∧ BkOut o w B d p g mb P nm (backP P.fr S i) w' := by
  obtain ⟨hi, hxe⟩ := List.getElem?_eq_some_iff.1 hx
  obtain ⟨-, s1, -⟩ := hp.selfc
  obtain ⟨c0, c1, c2, c3, c4, c5, c6⟩ := frame_cells hp.fr hi hxe
  have hbx := hp.bytes x (List.mem_of_getElem? hx)
  have hn := hbx.len.2.1
  have hkb := hbx.len.2.2.2
  have HOD := Lib.hid (onDisk_any h hp hn)
  have hpl := pgs_le h x.n
  have hB := h.base
  have H := Lib.hid h
  have HP := Lib.hid hp
  have HFR : Hid (∀ q, w.heap.size ≤ q → po o p g mb q = none) := fun q hq => po_fresh h hp hq
  have HX := Lib.hid hx
  have hl := hp.lim.2.1
  have HR : Hid (backP P.fr S i = if (S.pgs x.n).2 ≠ 0 then ⟨P.fr, S, (S.pgs x.n).2⟩ else putL x.n (dirtyL P.fr x.n (S.pgs x.n).1 x.k ++ [i]) P.fr S) := by
    show _ = _
    unfold backP
    rw [hx]
  clear h hp hx hxe c0 c3 c4 c5 c6 hbx
  obtain ⟨R, hR⟩ : ∃ R, R = backP P.fr S i := ⟨_, rfl⟩
  rw [← hR] at HR ⊢
  clear hR
  obtain ⟨n, hnn⟩ : ∃ n, n = x.n := ⟨_, rfl⟩
  obtain ⟨k, hkk⟩ : ∃ k, k = x.k := ⟨_, rfl⟩
  rw [← hnn] at c1 hn HOD hpl HR
  rw [← hkk] at c2 hkb HR
  have HNN := Lib.hid hnn
  clear hnn hkk
  go_enter Tryz.func141, Tryz.ntmps141
  go_wp2
  go_still (by kernel_rfl)
  change Exit.then _ _ _ _ w.drew
  have G0 : Hid (w.grownBy w.drew none) := gr_drew _ _
  clear s1 c1 c2 HOD
  generalize w.drew = w0 at *
  have HOD := Lib.hid (onDisk_any (H.out.ext G0.out) (HP.out.ext G0.out) hn)
  obtain ⟨X, hX⟩ : ∃ X, X = S.pgs n := ⟨_, rfl⟩
  rw [← hX] at HOD HR hpl
  clear hX
  go_wp2_with fail
  refine HOD.out.mono ?_
  rintro e w1 ⟨g1, ⟨he, rfl⟩ | ⟨he, pf, rfl, hpf, hpr⟩⟩
  · have G1 := Lib.hid (gr_none G0.out g1)
    have HE : Hid (R = ⟨P.fr, S, X.2⟩) := by show _ = _; rw [HR.out, if_pos he]
    have hne : ((X.2 : Int) != 0) = true := by rw [bne_iff_ne]; omega
    clear g1 he HOD HR
    go_wp2
    go_ret
    rw [HE.out]
    exact ⟨rfl, o, c, H.out.ext G1.out, HP.out.ext G1.out, Ch.ext G1.out⟩
  · have G1 := Lib.hid (gr_none G0.out g1)
    have hz0 := G0.out.size
    have hz1 := g1.size
    have HE : Hid (R = putL n (dirtyL P.fr n X.1 k ++ [i]) P.fr S) := by show _ = _; rw [HR.out, if_neg (by rw [he]; simp)]
    have HPR : Hid (PfR w1 B o d pf n) := ⟨hpr.box, hpr.free, by omega⟩
    have hpfw : w.heap.size ≤ pf := by omega
    have hDL : (dirtyL P.fr n X.1 k).length ≤ 4096 := by
      unfold dirtyL
      rw [List.length_mergeSort]
      unfold dirtyIx
      exact Nat.le_trans (List.length_filter_le _ _) (by simp; exact hl)
    have HM : Hid (∀ j ∈ dirtyL P.fr n X.1 k ++ [i], j < P.fr.length) := fun j hj => by
      rcases List.mem_append.1 hj with hj | hj
      · obtain ⟨f, f1, -⟩ := mem_dirtyL.1 hj
        exact (List.getElem?_eq_some_iff.1 f1).1
      · have : j = i := by simpa using hj
        rw [this]; exact hi
    have HDI := Lib.hid (dirty_any (HP.out.ext G1.out) (n := n) (a := X.1) (b := k) (by omega) (by omega))
    obtain ⟨dl, hdl⟩ : ∃ dl, dl = dirtyL P.fr n X.1 k := ⟨_, rfl⟩
    rw [← hdl] at hDL HM HDI HE
    have hX0 : (X.2 : Int) = 0 := by omega
    clear g1 he HOD HR hdl hpr hpf
    go_wp2_with fail
    refine HDI.out.mono ?_
    rintro e w2 ⟨⟨v2, rfl, ho2⟩, g2⟩
    obtain ⟨A2, c2, rfl⟩ := RdI.form (Own.rd ho2)
    have HO2 := Lib.hid ho2
    have hzo := g2.size
    have HOR : Hid (∀ q, (Value.slice A2 (ixL dl).length c2).ownBlock = some q → w1.heap.size ≤ q) := Own.lt ho2
    have G2 := Lib.hid (gr_none G1.out g2)
    have G12 := Lib.hid g2
    have hlen : (ixL dl).length ≤ 1000000000 := by rw [ixL_len]; omega
    clear ho2 g2 HDI
    obtain ⟨ll, hll⟩ : ∃ ll, ll = ixL dl := ⟨_, rfl⟩
    rw [← hll] at HO2 hlen HOR ⊢
    have HLL := Lib.hid hll
    clear hll
    go_wp2_with (at_builtin; refine wp_app1I (w := w2) (B := w1.heap.size) (v := .slice A2 ll.length c2) (l := ll) (i : Int) rfl (.tmp 44) (.tmp 46) rfl rfl HO2.out _ rfl rfl hlen hzo ?_; intro v6 w6 h6 g6 a6; obtain ⟨A6, c6, rfl⟩ := RdI.form (Own.rd h6); have H6 := Lib.hid h6; have G6 := Lib.hid (gr_trans G2.out g6 (.inr fun q e => by have := HOR.out q e; omega)); have G16 := Lib.hid (gr_trans G12.out g6 (.inr fun q e => HOR.out q e)); clear h6 g6 a6)
    have HV6 : Hid (RdI w6 (.slice A6 (ll ++ [(i : Int)]).length c6) (ixL (dl ++ [i]))) := by
      show RdI _ _ _
      rw [ixL_app, ← HLL.out]
      exact Own.rd H6.out
    have hb6 : ∀ q, blk (.slice A6 (ll ++ [(i : Int)]).length c6) = some q → q < w6.heap.size ∧ po o p g mb q = none := fun q e => by
      obtain ⟨q1, q2⟩ := Own.blk_lt H6.out (by omega) e
      exact ⟨q2, HFR.out q (by omega)⟩
    have hpu := poput_any (H.out.ext G6.out) (HP.out.ext G6.out) (HPR.out.ext G16.out) (HFR.out pf hpfw) hn HV6.out hb6 HM.out (by simp; omega) hfl hnl
    rw [show (ll ++ [(i : Int)]).length = ll.length + 1 from by simp, ← HE.out] at hpu
    have HPU := Lib.hid hpu
    clear hpu hb6
    refine HPU.out.mono ?_
    rintro e w7 ⟨rfl, o', c', k1, k2, k3⟩
    have K1 := Lib.hid k1
    have K2 := Lib.hid k2
    have K3 := Lib.hid k3
    clear k1 k2 k3 HPU
    go_wp2
    go_ret
    exact ⟨rfl, o', c', K1.out, K2.out, (Ch.ext G6.out).trans K3.out⟩
theorem PoR.handed (h : PoR w B o d p g mb P nm) {hd : Nat} (hh : hd < P.fr.length) : PoR (w.setCell ⟨p, 3, none⟩ (.int .i64 hd)) B o d p g mb { P with hand := hd } nm ∧ Ch (po noO p g mb) w (po noO p g mb) (w.setCell ⟨p, 3, none⟩ (.int .i64 hd)) := by
  have hg := gr_setCell w ⟨p, 3, none⟩ (.int .i64 hd)
  refine ⟨h.numbers hg hd P.mf P.mp ?_ hh h.lim.2.2.2.1 h.lim.2.2.2.2, Ch.of_gr hg fun k e => by cases e; exact (po_ne noO p g mb).1⟩
  have := h.self.set 3 (.int .i64 (hd : Int))
  simpa using this
/-- a frame's mark is struck. -/
theorem PoR.rest (h : PoR w B o d p g mb P nm) {i : Nat} {x : Fr} (hx : P.fr[i]? = some x) : PoR (w.setCell ⟨g, i * 7 + 6, none⟩ (.bool false)) B o d p g mb { P with fr := P.fr.set i x.rest } nm ∧ Ch (po noO p g mb) w (po noO p g mb) (w.setCell ⟨g, i * 7 + 6, none⟩ (.bool false)) := by
  obtain ⟨hi, hxe⟩ := List.getElem?_eq_some_iff.1 hx
  have hg5 := gr_setCell w ⟨g, i * 7 + 6, none⟩ (.bool false)
  have b3 := Blk.setFr h.fr hi (j := 6) (by omega) (x' := x.rest) (v := .bool false) (by rw [hxe]; rfl)
  have hbx := h.bytes x (List.mem_of_getElem? hx)
  have hx5 : FrB w B o p g mb x.rest := ⟨hbx.rd, hbx.off, hbx.len⟩
  exact ⟨h.put hg5 hi b3 (by rw [hxe]; rfl) (by rw [hxe]; rfl) (by rw [hxe]; rfl) (hx5.far hg5 fun q e => (hx5.off q e).2.2.1), Ch.of_gr hg5 fun k e => by cases e; exact (po_ne noO p g mb).2.1⟩
theorem putL_sig {n : List UInt8} : ∀ (l : List Nat) (fr : List Fr) (S : Dk), (putL n l fr S).fr.map sig = fr.map sig
  | [], fr, S => rfl
  | i :: l, fr, S => by
    cases hf : fr[i]? with
    | none =>
      have : putL n (i :: l) fr S = ⟨fr, S, 0⟩ := by
        show (match fr[i]? with | none => _ | some f => _) = _
        rw [hf]
      rw [this]
    | some f =>
      rw [putL_cons hf]
      split
      · rfl
      · rw [putL_sig l, set_sig (f' := f.clean) hf rfl]
theorem backP_sig (fr : List Fr) (S : Dk) (i : Nat) : (backP fr S i).fr.map sig = fr.map sig := by
  unfold backP
  split
  · rfl
  · split
    · rfl
    · exact putL_sig _ _ _
theorem heldN_sig {fr fr' : List Fr} (e : fr'.map sig = fr.map sig) : heldN Fr.full fr' = heldN Fr.full fr := by
  have h : ∀ l : List Fr, heldN Fr.full l = ((l.map sig).filter fun t => t.1).length := fun l => by
    unfold heldN
    rw [List.filter_map, List.length_map]; rfl
  rw [h, h, e]
theorem sig_at {fr fr' : List Fr} (e : fr'.map sig = fr.map sig) {i : Nat} {f : Fr} (hf : fr[i]? = some f) : ∃ g, fr'[i]? = some g ∧ g.full = f.full ∧ g.n = f.n ∧ g.k = f.k ∧ g.b = f.b ∧ g.pins = f.pins ∧ g.bv = f.bv := by
  have := congrArg (·[i]?) e
  simp only [List.getElem?_map, hf, Option.map_some] at this
  cases hg : fr'[i]? with
  | none => rw [hg] at this; cases this
  | some g =>
    rw [hg] at this
    have e2 : sig g = sig f := by simpa using this
    simp only [sig, Prod.mk.injEq] at e2
    exact ⟨g, rfl, e2⟩
/-- .. a frame is emptied, and the hand goes on. -/
theorem taken_fin {Q' : Pm} {wh' : PK → Option Nat} {i m hd : Nat} {x : Fr} {key : PK} {w2 : World} {o2 : Own1} (hx : Q'.fr[i]? = some x) (hf : x.full = true) (hm : heldN Fr.full Q'.fr = m + 1) (h2 : PoR w2 B o2 d p g mb ((Q'.pl wh').emptied i key) m) (hd2 : hd < Q'.fr.length) :
    PoS (w2.setCell ⟨p, 3, none⟩ (.int .i64 hd)) B o2 d p g mb { Q' with fr := Q'.fr.set i fr0, hand := hd } ∧ Ch (po noO p g mb) w2 (po noO p g mb) (w2.setCell ⟨p, 3, none⟩ (.int .i64 hd)) := by
  obtain ⟨k1, k2⟩ := h2.handed (hd := hd) (by show hd < (Q'.fr.set i fr0).length; rw [List.length_set]; exact hd2)
  refine ⟨⟨fun z => if z = key then none else wh' z, ?_⟩, k2⟩
  have hn : heldN Fr.full (Q'.fr.set i fr0) = m := by
    have := heldN_set Fr.full (y := fr0) hx
    rw [if_pos hf, if_neg (by simp [fr0])] at this
    omega
  show PoR _ B o2 d p g mb _ (heldN Fr.full (Q'.fr.set i fr0))
  rw [hn]
  exact k1
/-- what a frame that is taken leaves in memory. -/
def TakeOut (o : Own1) (w : World) (B d p g mb : Nat) (R : TakeR) (e : Ending) (w' : World) : Prop := e = .returned (.tuple #[.int .i64 R.i, .int .i64 R.e]) ∧ PdOut o w B d p g mb R.Q R.S w'
set_option maxHeartbeats 4000000 in
theorem take_any {Q : Pm} (h : DI w B o d S c) (hp : PoS w B o d p g mb Q) (hfl : S.fs.length ≤ 1000000) (hnl : S.nl ≤ 1000000000000) :
    Calls Tryz.prog 99 #[.pointer (some ⟨p, 0, none⟩)] w (TakeOut o w B d p g mb (Q.take S)) := by
  cases hfr : Q.free with
  | some i =>
    have e : Q.take S = ⟨i, 0, Q, S⟩ := by unfold Pm.take; rw [hfr]
    rw [e]
    obtain ⟨f, h1, h2, h3⟩ := free_some hfr
    obtain ⟨wh, hp1⟩ := hp
    obtain ⟨hi, hfe⟩ := List.getElem?_eq_some_iff.1 h1
    refine (take_free hp1 (i := i) hi (by show (Q.fr[i]).full = false; rw [hfe]; exact h2) (fun j hj hji => h3 j _ hji (List.getElem?_eq_getElem hj))).mono ?_
    rintro e w' ⟨rfl, g1⟩
    exact ⟨rfl, PdOut.ext h ⟨wh, hp1⟩ g1⟩
  | none =>
    have hall := free_none hfr
    have he : Q.take S = takeC Q S (clock (2 * Q.fr.length) Q.fr Q.hand).1 (clock (2 * Q.fr.length) Q.fr Q.hand).2 := by unfold Pm.take; rw [hfr]
    obtain ⟨wh, hp1⟩ := hp
    obtain ⟨s0, s1, -⟩ := hp1.selfc
    have H := Lib.hid h
    have HP := Lib.hid hp1
    have HF : Hid (Blk w g 134 (Q.fr.flatMap Fr.enc).toArray) := hp1.fr
    have HA := Lib.hid hall
    have hl : Q.fr.length ≤ 4096 := hp1.lim.2.1
    have hh : Q.hand < Q.fr.length := hp1.lim.2.2.1
    have HB : Hid (∀ x ∈ Q.fr, FrB w B o p g mb x) := hp1.bytes
    obtain ⟨R, hR⟩ : ∃ R, R = Q.take S := ⟨_, rfl⟩
    rw [← hR] at he ⊢
    have HR := Lib.hid he
    clear h hp1 hall hfr he hR
    have s1' : w.cell? ⟨p, 1, none⟩ = some (.slice (some ⟨g, 0, none⟩) Q.fr.length Q.fr.length) := s1
    obtain ⟨L, hL⟩ : ∃ L, L = Q.fr.length := ⟨_, rfl⟩
    rw [← hL] at s1' hl hh
    have HL := Lib.hid hL
    clear s1 hL
    go_enter Tryz.func99, Tryz.ntmps99
    go_wp2
    go_step3
    go_wp2
    go_loopw [4, 5, 15] (fun _ _ k wr => ∃ j : Nat, j ≤ L ∧ k = .int .i64 j ∧ w.grownBy wr none) (fun _ _ k _ => L - (intOf k).toNat)
    case atStart => exact ⟨0, by omega, rfl, gr_refl _ _⟩
    case round =>
      obtain ⟨j, hj, rfl, hg⟩ := hrel
      have HG := Lib.hid hg
      by_cases hlt : j < L
      · have hltq : j < Q.fr.length := by have := HL.out; omega
        have hb := HB.out _ (List.getElem_mem hltq)
        have hfu := HA.out j _ (List.getElem?_eq_getElem hltq)
        obtain ⟨x, hx⟩ : ∃ x, x = Q.fr[j] := ⟨_, rfl⟩
        rw [← hx] at hb hfu
        obtain ⟨c0, c1, c2, c3, c4, c5, c6⟩ := frame_cells (HF.out.ext hg) hltq hx.symm
        obtain ⟨Ab, cb, hbv⟩ := hb.rd.form
        rw [hbv] at c3
        obtain ⟨xf, xn, xk, xb, xv, xp, xd, xu⟩ := x
        simp only [] at hfu c0 c1 c2 c3 c4 c5 c6
        subst hfu
        clear hx hb hbv hg hltq
        go_wp2
        go_roundw
        case rel => exact ⟨j + 1, by omega, by go_num, gr_none HG.out (gr_alloc _ _ _)⟩
        case measure => simp [intOf] <;> omega
      · obtain rfl : j = L := by omega
        have hp2 := HP.out.ext hg
        obtain ⟨q0, q1, q2, q3, q4, q5⟩ := hp2.selfc
        have q1' : wr.cell? ⟨p, 1, none⟩ = some (.slice (some ⟨g, 0, none⟩) Q.fr.length Q.fr.length) := q1
        have q3' : wr.cell? ⟨p, 3, none⟩ = some (.int .i64 Q.hand) := q3
        rw [← HL.out] at q1'
        have hw2 : IntKind.i64.wrap (2 * (j : Int)) = 2 * (j : Int) := by rw [IntWalk.i64_in _ (by omega)]
        clear q0 q1 q2 q3 q4 q5 hp2 hg s0
        rename World => wv
        have HP0 : Hid (PoR wv B o d p g mb (Q.pl wh) (heldN Fr.full Q.fr)) := HP.out.ext HG.out
        have hLne : ¬ (j : Int) = 0 := by omega
        go_wp2
        go_step3
        go_wp2
        clear q1' q3' hw2
        go_loopw [6, 7, 35] (fun ii _ tt wr => ∃ t i : Nat, t ≤ 2 * j ∧ i < j ∧ tt = .int .i64 t ∧ ii = .int .i64 i ∧ ∃ fr', fr'.length = j ∧ clock (2 * Q.fr.length) Q.fr Q.hand = clock (2 * j - t) fr' i ∧ heldN Fr.full fr' = heldN Fr.full Q.fr ∧
          PoR wr B o d p g mb (Pm.pl { Q with fr := fr' } wh) (heldN Fr.full Q.fr) ∧ Ch (po noO p g mb) w (po noO p g mb) wr ∧ ∀ (q : Nat) (f : Fr), fr'[q]? = some f → f.full = true) (fun _ _ tt _ => 2 * j - (intOf tt).toNat)
        case atStart => exact ⟨0, Q.hand, by omega, by omega, rfl, rfl, Q.fr, HL.out.symm, by rw [← HL.out]; rfl, rfl, HP0.out, Ch.ext HG.out, HA.out⟩
        case round =>
          obtain ⟨t, i, ht, hi, rfl, rfl, fr', hlen, hcl, hhe, hp2, hch, hal⟩ := hrel
          have hfi : fr'[i]? = some fr'[i] := List.getElem?_eq_getElem (by omega)
          obtain ⟨x, hx⟩ : ∃ x, x = fr'[i]'(by omega) := ⟨_, rfl⟩
          rw [← hx] at hfi
          obtain ⟨q0, q1, q2, q3, q4, q5⟩ := hp2.selfc
          have q1' : wr.cell? ⟨p, 1, none⟩ = some (.slice (some ⟨g, 0, none⟩) fr'.length fr'.length) := q1
          rw [hlen] at q1'
          obtain ⟨c0, c1, c2, c3, c4, c5, c6⟩ := frame_cells hp2.fr (i := i) (by show i < fr'.length; omega) hx.symm
          have hbx := hp2.bytes x (List.mem_of_getElem? hfi)
          obtain ⟨Ab, cb, hbv⟩ := hbx.rd.form
          rw [hbv] at c3
          have hxf := hal i x hfi
          rw [hxf] at c0
          have hfz := hp2.fr.frozen
          have hkx := okK_frame hbx
          have HSELF := Lib.hid hp2.self
          have HPX := Lib.hid hp2
          have HCHX := Lib.hid hch
          have HXI := Lib.hid hfi
          have HXF := Lib.hid hxf
          have HHE := Lib.hid hhe
          have HLEN := Lib.hid hlen
          have HAL := Lib.hid hal
          have HKX := Lib.hid hkx
          have hw1 : IntKind.i64.wrap ((i : Int) + 1) = (i : Int) + 1 := by rw [IntWalk.i64_in _ (by omega)]
          have hiI : (i : Int) < (j : Int) := by omega
          have hmod : ((i : Int) + 1) % (j : Int) = (((i + 1) % j : Nat) : Int) := by push_cast; rfl
          obtain ⟨i2, hi2⟩ : ∃ i2, i2 = (i + 1) % j := ⟨_, rfl⟩
          rw [← hi2] at hmod
          have hi2j : i2 < j := by rw [hi2]; exact Nat.mod_lt _ (by omega)
          have HI2 := Lib.hid hi2
          by_cases hlt : t < 2 * j
          · have hcs := clock_succ (t := 2 * j - (t + 1)) hfi
            rw [show 2 * j - (t + 1) + 1 = 2 * j - t from by omega, ← hcl, hlen, ← hi2] at hcs
            have HCS := Lib.hid hcs
            clear hcs hcl q0 q1 q2 q3 q4 q5 hx hp2 hch hal hxf hfi hlen hhe hbx hkx hi2
            obtain ⟨xf, xn, xk, xb, xv, xp, xd, xu⟩ := x
            simp only [] at c0 c1 c2 c3 c4 c5 c6
            by_cases hp0 : 0 < xp
            · have hp1 : (0 : Int) < (xp : Int) := by omega
              have HCS2 : Hid (clock (2 * Q.fr.length) Q.fr Q.hand = clock (2 * j - (t + 1)) fr' i2) := by show _ = _; rw [HCS.out, if_pos hp0]
              clear HCS hp0 hbv
              go_wp2
              go_roundw
              case rel => exact ⟨t + 1, i2, by omega, hi2j, by go_num, by rw [← hmod], fr', HLEN.out, HCS2.out, HHE.out, HPX.out, HCHX.out, HAL.out⟩
              case measure => simp [intOf] <;> omega
            · obtain rfl : xp = 0 := by omega
              cases xu with
              | true =>
                have HCS2 : Hid (clock (2 * Q.fr.length) Q.fr Q.hand = clock (2 * j - (t + 1)) (fr'.set i (Fr.rest ⟨xf, xn, xk, xb, xv, 0, xd, true⟩)) i2) := by show _ = _; rw [HCS.out, if_neg hp0, if_pos rfl]
                have HRS := Lib.hid (HPX.out.rest HXI.out)
                clear HCS hp0 hbv
                go_wp2
                go_roundw
                case rel =>
                  refine ⟨t + 1, i2, by omega, hi2j, by go_num, by rw [← hmod], fr'.set i (Fr.rest ⟨xf, xn, xk, xb, xv, 0, xd, true⟩), by rw [List.length_set]; exact HLEN.out, HCS2.out, (heldN_sig (set_sig (f' := Fr.rest ⟨xf, xn, xk, xb, xv, 0, xd, true⟩) HXI.out rfl)).trans HHE.out, HRS.out.1, HCHX.out.trans HRS.out.2, fun q f hf => ?_⟩
                  rcases set_cases HXI.out hf with ⟨_, rfl⟩ | ⟨_, hf2⟩
                  · exact HXF.out
                  · exact HAL.out q f hf2
                case measure => simp [intOf] <;> omega
              | false =>
                have HCS2 : Hid (clock (2 * Q.fr.length) Q.fr Q.hand = (fr', i)) := by show _ = _; rw [HCS.out, if_neg hp0]; exact if_neg (by simp)
                clear HCS hp0 hbv
                have HRT : Hid (R = takeC Q S fr' i) := by show _ = _; rw [HR.out, HCS2.out]
                clear HCS2
                cases xd with
                | true =>
                  have HR3 : Hid (R = if (backP fr' S i).e ≠ 0 then ⟨0, (backP fr' S i).e, { Q with fr := (backP fr' S i).fr, hand := i }, (backP fr' S i).S⟩ else ⟨i, 0, { Q with fr := (backP fr' S i).fr.set i fr0, hand := i2 }, (backP fr' S i).S⟩) := by
                    show _ = _
                    rw [HRT.out, HI2.out, ← HLEN.out]
                    unfold takeC
                    rw [HXI.out]
                    show (if 0 < (0 : Nat) ∨ false = true then _ else _) = _
                    rw [if_neg (by simp)]
                    exact if_pos rfl
                  clear HRT
                  have HBK : Hid (∀ wx, wr.grownBy wx none → Calls Tryz.prog 141 #[.pointer (some ⟨p, 0, none⟩), .int .i64 i] wx fun e w' => e = .returned (.int .i64 (backP fr' S i).e) ∧ BkOut o wx B d p g mb (Pm.pl { Q with fr := fr' } wh) (heldN Fr.full Q.fr) (backP fr' S i) w') := fun wx hg =>
                    back_any (H.out.pool HP.out (HCHX.out.trans (Ch.ext hg))) (HPX.out.ext hg) HXI.out hfl hnl
                  have HSG := Lib.hid (backP_sig fr' S i)
                  obtain ⟨Y, hY⟩ : ∃ Y, Y = backP fr' S i := ⟨_, rfl⟩
                  rw [← hY] at HR3 HBK HSG
                  clear hY
                  obtain ⟨yf, YS, ye⟩ := Y
                  simp only [] at HR3 HBK HSG
                  have HYL : Hid (yf.length = j) := by
                    have h9 := congrArg List.length HSG.out
                    rw [List.length_map, List.length_map, HLEN.out] at h9
                    exact h9
                  by_cases hye : ye = 0
                  · subst hye
                    obtain ⟨y, y1, y2, y3, y4, -⟩ := sig_at HSG.out HXI.out
                    have HY1 := Lib.hid y1
                    have HY2 := Lib.hid (y2.trans HXF.out)
                    have HKY : Hid (okK y.n y.k) := by show okK _ _; rw [y3, y4]; exact HKX.out
                    have HR4 : Hid (R = ⟨i, 0, { Q with fr := yf.set i fr0, hand := i2 }, YS⟩) := by show _ = _; rw [HR3.out]; exact if_neg (by simp)
                    obtain ⟨m, hm⟩ : ∃ m, heldN Fr.full yf = m + 1 := by
                      have h9 := heldN_set Fr.full (y := fr0) HY1.out
                      rw [if_pos HY2.out, if_neg (by simp [fr0])] at h9
                      exact ⟨_, h9.symm.trans (by rfl)⟩
                    have HM := Lib.hid hm
                    have HMQ : Hid (heldN Fr.full Q.fr = m + 1) := by show _ = _; rw [← HHE.out, ← heldN_sig HSG.out]; exact HM.out
                    clear hm y1 y2 y3 y4 HR3
                    go_wp2_with fail
                    refine (HBK.out _ (gr_alloc _ _ none)).mono ?_
                    rintro e w1 ⟨rfl, o1, c1', k1, k2, k3⟩
                    have K1 := Lib.hid k1
                    have K2 := Lib.hid k2
                    have K3 := Lib.hid ((po_wide (HCHX.out.trans (Ch.ext (gr_alloc _ _ none))) o).trans k3)
                    have HEM := Lib.hid (empty_any (show PoR w1 B o1 d p g mb (Pm.pl { Q with fr := yf } wh) (m + 1) from by rw [← HMQ.out]; exact K2.out) HY1.out HY2.out HKY.out)
                    clear k1 k2 k3 HBK
                    go_wp2_with fail
                    refine HEM.out.mono ?_
                    rintro e w2 ⟨rfl, k1, k2⟩
                    have r1 : w2.cell? ⟨p, 1, none⟩ = some (.slice (some ⟨g, 0, none⟩) (yf.set i fr0).length (yf.set i fr0).length) := k1.selfc.2.1
                    rw [List.length_set, HYL.out] at r1
                    have r3 : w2.cell? ⟨p, 3, none⟩ = some (.int .i64 Q.hand) := k1.selfc.2.2.2.1
                    have hfz2 := k1.self.frozen
                    have K4 := Lib.hid k1
                    have K5 := Lib.hid k2
                    clear k1 k2 HEM q1' c0 c1 c2 c3 c4 c5 c6 hfz
                    go_wp2
                    go_ret2
                    rw [HR4.out]
                    obtain ⟨f1, f2⟩ := taken_fin (Q' := { Q with fr := yf }) HY1.out HY2.out HM.out K4.out (hd := i2) (by show i2 < yf.length; rw [HYL.out]; exact hi2j)
                    exact ⟨rfl, o1, c1', K1.out.pool K2.out (K5.out.trans f2), f1, K3.out.trans (po_wide (K5.out.trans f2) o1)⟩
                  · have hne : ((ye : Int) != 0) = true := by rw [bne_iff_ne]; omega
                    have HR4 : Hid (R = ⟨0, ye, { Q with fr := yf, hand := i }, YS⟩) := by show _ = _; rw [HR3.out]; exact if_pos hye
                    clear hye HR3
                    go_wp2_with fail
                    refine (HBK.out _ (gr_alloc _ _ none)).mono ?_
                    rintro e w1 ⟨rfl, o1, c1', k1, k2, k3⟩
                    have r3 : w1.cell? ⟨p, 3, none⟩ = some (.int .i64 Q.hand) := k2.selfc.2.2.2.1
                    have hfz2 := k2.self.frozen
                    have K1 := Lib.hid k1
                    have K2 := Lib.hid k2
                    have K3 := Lib.hid ((po_wide (HCHX.out.trans (Ch.ext (gr_alloc _ _ none))) o).trans k3)
                    clear k1 k2 k3 HBK q1' c0 c1 c2 c3 c4 c5 c6 hfz
                    go_wp2
                    go_ret2
                    rw [HR4.out]
                    obtain ⟨f1, f2⟩ := K2.out.handed (hd := i) (by show i < yf.length; rw [HYL.out]; exact hi)
                    exact ⟨rfl, o1, c1', K1.out.pool K2.out f2, ⟨wh, by rw [show heldN Fr.full ({ Q with fr := yf, hand := i } : Pm).fr = heldN Fr.full Q.fr from (heldN_sig HSG.out).trans HHE.out]; exact f1⟩, K3.out.trans (po_wide f2 o1)⟩
                | false =>
                  have HR3 : Hid (R = ⟨i, 0, { Q with fr := fr'.set i fr0, hand := i2 }, S⟩) := by
                    show _ = _
                    rw [HRT.out, HI2.out, ← HLEN.out]
                    unfold takeC
                    rw [HXI.out]
                    show (if 0 < (0 : Nat) ∨ false = true then _ else _) = _
                    rw [if_neg (by simp)]
                    exact if_neg (by simp)
                  clear HRT
                  obtain ⟨m, hm⟩ : ∃ m, heldN Fr.full fr' = m + 1 := by
                    have h9 := heldN_set Fr.full (y := fr0) HXI.out
                    rw [if_pos HXF.out, if_neg (by simp [fr0])] at h9
                    exact ⟨_, h9.symm.trans (by rfl)⟩
                  have HM := Lib.hid hm
                  have HMQ : Hid (heldN Fr.full Q.fr = m + 1) := by show _ = _; rw [← HHE.out]; exact HM.out
                  clear hm
                  have HEM : Hid (∀ wx, wr.grownBy wx none → Calls Tryz.prog 97 #[.pointer (some ⟨p, 0, none⟩), .int .i64 i] wx fun e w' => e = .returned (.tuple #[]) ∧ PoR w' B o d p g mb ((Pm.pl { Q with fr := fr' } wh).emptied i ⟨xn, xk, HKX.out⟩) m ∧ Ch (po noO p g mb) wx (po noO p g mb) w') := fun wx hg =>
                    empty_any (by have h9 := HPX.out.ext hg; rw [HMQ.out] at h9; exact h9) HXI.out HXF.out HKX.out
                  go_wp2_with fail
                  refine (HEM.out _ (gr_alloc _ _ none)).mono ?_
                  rintro e w2 ⟨rfl, k1, k2⟩
                  have r1 : w2.cell? ⟨p, 1, none⟩ = some (.slice (some ⟨g, 0, none⟩) (fr'.set i fr0).length (fr'.set i fr0).length) := k1.selfc.2.1
                  rw [List.length_set, HLEN.out] at r1
                  have r3 : w2.cell? ⟨p, 3, none⟩ = some (.int .i64 Q.hand) := k1.selfc.2.2.2.1
                  have hfz2 := k1.self.frozen
                  have K1 := Lib.hid k1
                  have K2 := Lib.hid (HCHX.out.trans ((Ch.ext (gr_alloc _ _ none)).trans k2))
                  clear k1 k2 HEM q1' c0 c1 c2 c3 c4 c5 c6 hfz
                  go_wp2
                  go_ret2
                  rw [HR3.out]
                  obtain ⟨f1, f2⟩ := taken_fin (Q' := { Q with fr := fr' }) HXI.out HXF.out HM.out K1.out (hd := i2) (by show i2 < fr'.length; rw [HLEN.out]; exact hi2j)
                  have hch := K2.out.trans f2
                  exact ⟨rfl, o, c, H.out.pool HP.out hch, f1, po_wide hch o⟩
          · have HCS2 : Hid (clock (2 * Q.fr.length) Q.fr Q.hand = (fr', i)) := by
              show _ = _
              rw [hcl, show 2 * j - t = 0 from by omega]; rfl
            obtain rfl : t = 2 * j := by omega
            clear hcl q0 q1 q2 q3 q4 q5 hx hp2 hch hal hxf hfi hlen hhe hbx hkx hi2
            obtain ⟨xf, xn, xk, xb, xv, xp, xd, xu⟩ := x
            simp only [] at c0 c1 c2 c3 c4 c5 c6
            clear hbv
            have HRT : Hid (R = takeC Q S fr' i) := by show _ = _; rw [HR.out, HCS2.out]
            clear HCS2
            by_cases hp0 : 0 < xp
            · have hp1 : (0 : Int) < (xp : Int) := by omega
              have HR3 : Hid (R = ⟨0, 10, { Q with fr := fr' }, S⟩) := by
                show _ = _
                rw [HRT.out]
                unfold takeC
                rw [HXI.out]
                exact if_pos (.inl hp0)
              clear HRT
              go_wp2
              go_ret2
              rw [HR3.out]
              have hch := HCHX.out.trans (Ch.ext (gr_alloc wr (.cells #[.bool true, .string ⟨xn.toArray⟩, .int .i64 xk, .slice Ab xb.length cb, .int .i64 xp, .bool xd, .bool xu] 134) none))
              exact ⟨rfl, o, c, H.out.pool HP.out hch, ⟨wh, by rw [show heldN Fr.full ({ Q with fr := fr' } : Pm).fr = heldN Fr.full Q.fr from HHE.out]; exact HPX.out.ext (gr_alloc _ _ none)⟩, po_wide hch o⟩
            · obtain rfl : xp = 0 := by omega
              cases xu with
              | true =>
                have HR3 : Hid (R = ⟨0, 10, { Q with fr := fr' }, S⟩) := by
                  show _ = _
                  rw [HRT.out]
                  unfold takeC
                  rw [HXI.out]
                  exact if_pos (.inr rfl)
                clear HRT
                go_wp2
                go_ret2
                rw [HR3.out]
                have hch := HCHX.out.trans (Ch.ext (gr_alloc wr (.cells #[.bool true, .string ⟨xn.toArray⟩, .int .i64 xk, .slice Ab xb.length cb, .int .i64 (0 : Nat), .bool xd, .bool true] 134) none))
                exact ⟨rfl, o, c, H.out.pool HP.out hch, ⟨wh, by rw [show heldN Fr.full ({ Q with fr := fr' } : Pm).fr = heldN Fr.full Q.fr from HHE.out]; exact HPX.out.ext (gr_alloc _ _ none)⟩, po_wide hch o⟩
              | false =>
                cases xd with
                | true =>
                  have HR3 : Hid (R = if (backP fr' S i).e ≠ 0 then ⟨0, (backP fr' S i).e, { Q with fr := (backP fr' S i).fr, hand := i }, (backP fr' S i).S⟩ else ⟨i, 0, { Q with fr := (backP fr' S i).fr.set i fr0, hand := i2 }, (backP fr' S i).S⟩) := by
                    show _ = _
                    rw [HRT.out, HI2.out, ← HLEN.out]
                    unfold takeC
                    rw [HXI.out]
                    show (if 0 < (0 : Nat) ∨ false = true then _ else _) = _
                    rw [if_neg (by simp)]
                    exact if_pos rfl
                  clear HRT
                  have HBK : Hid (∀ wx, wr.grownBy wx none → Calls Tryz.prog 141 #[.pointer (some ⟨p, 0, none⟩), .int .i64 i] wx fun e w' => e = .returned (.int .i64 (backP fr' S i).e) ∧ BkOut o wx B d p g mb (Pm.pl { Q with fr := fr' } wh) (heldN Fr.full Q.fr) (backP fr' S i) w') := fun wx hg =>
                    back_any (H.out.pool HP.out (HCHX.out.trans (Ch.ext hg))) (HPX.out.ext hg) HXI.out hfl hnl
                  have HSG := Lib.hid (backP_sig fr' S i)
                  obtain ⟨Y, hY⟩ : ∃ Y, Y = backP fr' S i := ⟨_, rfl⟩
                  rw [← hY] at HR3 HBK HSG
                  clear hY
                  obtain ⟨yf, YS, ye⟩ := Y
                  simp only [] at HR3 HBK HSG
                  have HYL : Hid (yf.length = j) := by
                    have h9 := congrArg List.length HSG.out
                    rw [List.length_map, List.length_map, HLEN.out] at h9
                    exact h9
                  by_cases hye : ye = 0
                  · subst hye
                    obtain ⟨y, y1, y2, y3, y4, -⟩ := sig_at HSG.out HXI.out
                    have HY1 := Lib.hid y1
                    have HY2 := Lib.hid (y2.trans HXF.out)
                    have HKY : Hid (okK y.n y.k) := by show okK _ _; rw [y3, y4]; exact HKX.out
                    have HR4 : Hid (R = ⟨i, 0, { Q with fr := yf.set i fr0, hand := i2 }, YS⟩) := by show _ = _; rw [HR3.out]; exact if_neg (by simp)
                    obtain ⟨m, hm⟩ : ∃ m, heldN Fr.full yf = m + 1 := by
                      have h9 := heldN_set Fr.full (y := fr0) HY1.out
                      rw [if_pos HY2.out, if_neg (by simp [fr0])] at h9
                      exact ⟨_, h9.symm.trans (by rfl)⟩
                    have HM := Lib.hid hm
                    have HMQ : Hid (heldN Fr.full Q.fr = m + 1) := by show _ = _; rw [← HHE.out, ← heldN_sig HSG.out]; exact HM.out
                    clear hm y1 y2 y3 y4 HR3
                    go_wp2_with fail
                    refine (HBK.out _ (gr_alloc _ _ none)).mono ?_
                    rintro e w1 ⟨rfl, o1, c1', k1, k2, k3⟩
                    have K1 := Lib.hid k1
                    have K2 := Lib.hid k2
                    have K3 := Lib.hid ((po_wide (HCHX.out.trans (Ch.ext (gr_alloc _ _ none))) o).trans k3)
                    have HEM := Lib.hid (empty_any (show PoR w1 B o1 d p g mb (Pm.pl { Q with fr := yf } wh) (m + 1) from by rw [← HMQ.out]; exact K2.out) HY1.out HY2.out HKY.out)
                    clear k1 k2 k3 HBK
                    go_wp2_with fail
                    refine HEM.out.mono ?_
                    rintro e w2 ⟨rfl, k1, k2⟩
                    have r1 : w2.cell? ⟨p, 1, none⟩ = some (.slice (some ⟨g, 0, none⟩) (yf.set i fr0).length (yf.set i fr0).length) := k1.selfc.2.1
                    rw [List.length_set, HYL.out] at r1
                    have r3 : w2.cell? ⟨p, 3, none⟩ = some (.int .i64 Q.hand) := k1.selfc.2.2.2.1
                    have hfz2 := k1.self.frozen
                    have K4 := Lib.hid k1
                    have K5 := Lib.hid k2
                    clear k1 k2 HEM q1' c0 c1 c2 c3 c4 c5 c6 hfz
                    go_wp2
                    go_ret2
                    rw [HR4.out]
                    obtain ⟨f1, f2⟩ := taken_fin (Q' := { Q with fr := yf }) HY1.out HY2.out HM.out K4.out (hd := i2) (by show i2 < yf.length; rw [HYL.out]; exact hi2j)
                    exact ⟨rfl, o1, c1', K1.out.pool K2.out (K5.out.trans f2), f1, K3.out.trans (po_wide (K5.out.trans f2) o1)⟩
                  · have hne : ((ye : Int) != 0) = true := by rw [bne_iff_ne]; omega
                    have HR4 : Hid (R = ⟨0, ye, { Q with fr := yf, hand := i }, YS⟩) := by show _ = _; rw [HR3.out]; exact if_pos hye
                    clear hye HR3
                    go_wp2_with fail
                    refine (HBK.out _ (gr_alloc _ _ none)).mono ?_
                    rintro e w1 ⟨rfl, o1, c1', k1, k2, k3⟩
                    have r3 : w1.cell? ⟨p, 3, none⟩ = some (.int .i64 Q.hand) := k2.selfc.2.2.2.1
                    have hfz2 := k2.self.frozen
                    have K1 := Lib.hid k1
                    have K2 := Lib.hid k2
                    have K3 := Lib.hid ((po_wide (HCHX.out.trans (Ch.ext (gr_alloc _ _ none))) o).trans k3)
                    clear k1 k2 k3 HBK q1' c0 c1 c2 c3 c4 c5 c6 hfz
                    go_wp2
                    go_ret2
                    rw [HR4.out]
                    obtain ⟨f1, f2⟩ := K2.out.handed (hd := i) (by show i < yf.length; rw [HYL.out]; exact hi)
                    exact ⟨rfl, o1, c1', K1.out.pool K2.out f2, ⟨wh, by rw [show heldN Fr.full ({ Q with fr := yf, hand := i } : Pm).fr = heldN Fr.full Q.fr from (heldN_sig HSG.out).trans HHE.out]; exact f1⟩, K3.out.trans (po_wide f2 o1)⟩
                | false =>
                  have HR3 : Hid (R = ⟨i, 0, { Q with fr := fr'.set i fr0, hand := i2 }, S⟩) := by
                    show _ = _
                    rw [HRT.out, HI2.out, ← HLEN.out]
                    unfold takeC
                    rw [HXI.out]
                    show (if 0 < (0 : Nat) ∨ false = true then _ else _) = _
                    rw [if_neg (by simp)]
                    exact if_neg (by simp)
                  clear HRT
                  obtain ⟨m, hm⟩ : ∃ m, heldN Fr.full fr' = m + 1 := by
                    have h9 := heldN_set Fr.full (y := fr0) HXI.out
                    rw [if_pos HXF.out, if_neg (by simp [fr0])] at h9
                    exact ⟨_, h9.symm.trans (by rfl)⟩
                  have HM := Lib.hid hm
                  have HMQ : Hid (heldN Fr.full Q.fr = m + 1) := by show _ = _; rw [← HHE.out]; exact HM.out
                  clear hm
                  have HEM : Hid (∀ wx, wr.grownBy wx none → Calls Tryz.prog 97 #[.pointer (some ⟨p, 0, none⟩), .int .i64 i] wx fun e w' => e = .returned (.tuple #[]) ∧ PoR w' B o d p g mb ((Pm.pl { Q with fr := fr' } wh).emptied i ⟨xn, xk, HKX.out⟩) m ∧ Ch (po noO p g mb) wx (po noO p g mb) w') := fun wx hg =>
                    empty_any (by have h9 := HPX.out.ext hg; rw [HMQ.out] at h9; exact h9) HXI.out HXF.out HKX.out
                  go_wp2_with fail
                  refine (HEM.out _ (gr_alloc _ _ none)).mono ?_
                  rintro e w2 ⟨rfl, k1, k2⟩
                  have r1 : w2.cell? ⟨p, 1, none⟩ = some (.slice (some ⟨g, 0, none⟩) (fr'.set i fr0).length (fr'.set i fr0).length) := k1.selfc.2.1
                  rw [List.length_set, HLEN.out] at r1
                  have r3 : w2.cell? ⟨p, 3, none⟩ = some (.int .i64 Q.hand) := k1.selfc.2.2.2.1
                  have hfz2 := k1.self.frozen
                  have K1 := Lib.hid k1
                  have K2 := Lib.hid (HCHX.out.trans ((Ch.ext (gr_alloc _ _ none)).trans k2))
                  clear k1 k2 HEM q1' c0 c1 c2 c3 c4 c5 c6 hfz
                  go_wp2
                  go_ret2
                  rw [HR3.out]
                  obtain ⟨f1, f2⟩ := taken_fin (Q' := { Q with fr := fr' }) HXI.out HXF.out HM.out K1.out (hd := i2) (by show i2 < fr'.length; rw [HLEN.out]; exact hi2j)
                  have hch := K2.out.trans f2
                  exact ⟨rfl, o, c, H.out.pool HP.out hch, f1, po_wide hch o⟩
end
end Go.Proofs.YtkpmadahfmpeiaaGreat

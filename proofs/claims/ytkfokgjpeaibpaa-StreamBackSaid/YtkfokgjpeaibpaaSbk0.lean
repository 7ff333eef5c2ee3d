/-
  does of law11: Get.
-/
import Derived.Test.YtkfokgjpeaibpaaSod
namespace Go.Proofs.Ytkfokgjpeaibpaa
open Go.RowKit Go.Maps
set_option maxRecDepth 100000
set_option maxHeartbeats 400000
section
variable {w0 w w' w2 : World} {B : Nat} {v : Value} {bs : List UInt8} {d p sb size m : Nat} {O : Own1} {l : List (List UInt8)}
set_option maxHeartbeats 2000000 in
theorem tdoes_get (h : ST w0 d p sb size O l m w) (hm : m ≤ 8000) (hll : l.length ≤ 100000) {i : Int} (hi : -9223372036854775808 ≤ i ∧ i ≤ 9223372036854775807) (bv : Value) :
    Calls Try.prog 30 #[.pointer (some ⟨d, 0, none⟩), .pointer (some ⟨p, 0, none⟩), .pointer (some ⟨sb, 0, none⟩), .agg #[.int .i64 1, .int .i64 i, bv]] w fun e w' => ∃ (v : Value) (er : Nat) (r : List UInt8), e = .returned (.agg #[v, .int .i64 0, .int .i64 er]) ∧ RdB w' v r ∧
      ((0 ≤ i ∧ l[i.toNat]? = some r ∧ er = 0) ∨ (¬ (0 ≤ i ∧ i < l.length) ∧ er ≠ 0 ∧ er ≤ 9)) ∧ STn w0 d p sb size O l (m + 1) w w' := by
  have H := Lib.hid h
  have HM := Lib.hid (And.intro hm hll)
  have HI := Lib.hid hi
  have HSB := Lib.hid h.st.box.lt
  have HW0 := Lib.hid h.gr.size
  clear h hm hll hi
  go_enter Try.func30, Try.ntmps30
  go_wp2_with fail
  obtain ⟨W, hW⟩ : ∃ W, W = ((w.alloc (.cells #[.int .i64 1, .int .i64 i, bv] 59)).alloc (.cells #[.slice none 0 0, .int .i64 0, .int .i64 0] 61)).alloc (.cells #[.slice none 0 0, .int .i64 0, .int .i64 0] 61) := ⟨_, rfl⟩
  rw [← hW]
  obtain ⟨b3, b4, b6, gW⟩ := tdoes3 w _ hW
  have hz : w.heap.size + 3 ≤ W.heap.size := by rw [hW]; simp only [World.size_alloc]; omega
  have hc3 : W.cell? ⟨w.heap.size, 1, none⟩ = some (.int .i64 i) := b3.cell 1
  clear hW
  refine ((H.out.ext gW).get (by have := HM.out.1; omega) HM.out.2 HI.out).mono ?_
  rintro e w2 ⟨O2, s2, c2, hc⟩
  obtain ⟨v2, er, r, he, ho2, hown, hrl, hr⟩ : ∃ (v2 : Value) (er : Nat) (r : List UInt8), e = .returned (.tuple #[v2, .int .i64 er]) ∧ OwnB w2 W.heap.size v2 r ∧ (∀ q, blk v2 = some q → O2 q = none) ∧ r.length ≤ 100000 ∧ ((0 ≤ i ∧ l[i.toNat]? = some r ∧ er = 0) ∨ (¬ (0 ≤ i ∧ i < l.length) ∧ er ≠ 0 ∧ er ≤ 9)) := by
    rcases hc with ⟨r, v, q1, q2, q3, q4, q5⟩ | ⟨q1, er, q2, q3, q4⟩
    · exact ⟨v, 0, r, q3, q4, fun q e => q5 q (blk_own e), by have := s2.rows r (List.mem_of_getElem? q2); have := s2.st.lim; omega, .inl ⟨q1, q2, rfl⟩⟩
    · exact ⟨_, er, [], q4, OwnB.nil _ _, fun q e => (by cases e), by simp, .inr ⟨q1, q2, q3⟩⟩
  subst he
  have hof : ∀ k, w.heap.size ≤ k → O k = none := fun k hk => H.out.pf.fresh hk
  obtain ⟨A2, c9, hv2⟩ := RdB.form ho2.rd
  have hds : DoS w0 d p sb size O l (m + 1) w w2 := DoS.of ⟨O2, s2, c2⟩ gW hz hof HSB.out HW0.out
  have HDV : Hid (DoV w0 d p sb size O l (m + 1) w w2 W.heap.size v2 r) := ⟨hds, ho2, hz, O2, s2, (Ch.ext gW).trans c2, c2.free _ (by omega) (hof _ (by omega)), c2.free _ (by omega) (hof _ (by omega)), hown⟩
  have h42 := c2.blk b4 (hof _ (by omega))
  have h62 := c2.blk b6 (hof _ (by omega))
  have HCP := Lib.hid (fun wx (hx : w2.grownBy wx (some (w.heap.size + 2))) => hx)
  have H42 := Lib.hid h42
  have H62 := Lib.hid h62
  have HRR := Lib.hid hr
  have HRL := Lib.hid hrl
  have hc6 := h62.cell
  have hf6 := h62.frozen
  have HZ := Lib.hid hz
  have hz2 : w.heap.size + 3 ≤ w2.heap.size := Nat.le_trans hz c2.size
  have HZ2 := Lib.hid hz2
  clear hz2 HCP h42 h62 hds b3 b4 b6 gW hof hc s2 c2 ho2 hown hr hrl hc3 hz
  subst hv2
  go_wp2_with fail
  have HCP := Lib.hid (copyBytes_any (.slice A2 r.length c9) r w2 HDV.out.2.1.rd (by have := HRL.out; omega))
  refine HCP.out.mono ?_
  rintro e w5 ⟨v5, rfl, o5, g5⟩
  obtain ⟨A5, c5, hv5⟩ := RdB.form o5.rd
  have HV5 := Lib.hid (HDV.out.ext g5)
  have H45 := Lib.hid (H42.out.ext g5)
  have h65 := H62.out.ext g5
  have H65 := Lib.hid h65
  have HO5 := Lib.hid o5
  have HLT : Hid (∀ q, blk (.slice A2 r.length c9) = some q → q < w2.heap.size) := fun q e => (Own.blk_lt HDV.out.2.1 (by omega) e).2
  have hc6 := h65.cell
  have hf6 := h65.frozen
  clear HCP h65 o5 g5 HDV H42 H62
  subst hv5
  go_wp2_with fail
  obtain ⟨W6, hW6⟩ : ∃ W6, W6 = (w5.setCell ⟨w.heap.size + 1 + 1, 0, none⟩ (.slice A5 r.length c5)).setCell ⟨w.heap.size + 1 + 1, 2, none⟩ (.int .i64 er) := ⟨_, rfl⟩
  rw [← hW6]
  have HV6 : Hid (DoV w0 d p sb size O l (m + 1) w W6 W.heap.size (.slice A2 r.length c9) r) := by show DoV _ _ _ _ _ _ _ _ _ _ _ _ _; rw [hW6]; exact (HV5.out.put (.inr rfl) _ _).put (.inr rfl) _ _
  have H46 : Hid (Blk W6 (w.heap.size + 1) 61 #[.slice none 0 0, .int .i64 0, .int .i64 0]) := by show Blk _ _ _ _; rw [hW6]; exact (H45.out.far (by simp) _).far (by simp) _
  have H66 : Hid (Blk W6 (w.heap.size + 2) 61 #[.slice A5 r.length c5, .int .i64 0, .int .i64 er]) := by show Blk _ _ _ _; rw [hW6]; exact (H65.out.set 0 _).set 2 _
  have HO6 : Hid (OwnB W6 w2.heap.size (.slice A5 r.length c5) r) := by
    show OwnB _ _ _ _
    have hz2 := HZ2.out
    rw [hW6]
    refine Own.off (Own.off HO5.out (gr_setCell w5 ⟨w.heap.size + 1 + 1, 0, none⟩ _) fun q e e2 => ?_) (gr_setCell _ ⟨w.heap.size + 1 + 1, 2, none⟩ _) fun q e e2 => ?_
    · have hq : w.heap.size + 1 + 1 = q := Option.some.inj e
      have := (Own.blk_lt HO5.out (by omega) e2).1
      omega
    · have hq : w.heap.size + 1 + 1 = q := Option.some.inj e
      have := (Own.blk_lt HO5.out (by omega) e2).1
      omega
  have hrl := HRL.out
  have hzz := HZ.out
  clear hW6 hc6 hf6 HV5 H45 H65 HO5
  go_loopw [12] (fun iv wr => ∃ (k : Nat) (bs : List UInt8), k ≤ r.length ∧ iv = .int .i64 k ∧ bs.length = r.length ∧ DoV w0 d p sb size O l (m + 1) w wr W.heap.size (.slice A2 bs.length c9) bs ∧ Blk wr (w.heap.size + 1) 61 #[.slice none 0 0, .int .i64 0, .int .i64 0] ∧ Blk wr (w.heap.size + 2) 61 #[.slice A5 r.length c5, .int .i64 0, .int .i64 er] ∧ OwnB wr w2.heap.size (.slice A5 r.length c5) r) (fun iv _ => r.length - (intOf iv).toNat)
  case atStart => exact ⟨0, r, Nat.zero_le _, rfl, rfl, HV6.out, H46.out, H66.out, HO6.out⟩
  case round =>
    obtain ⟨k, bs, hk, rfl, hbs, hdv, h4, h6, ho⟩ := hrel
    by_cases hlt : k < r.length
    · obtain ⟨g, off, hA, hgB, hc, hfr, hcell, hput⟩ := hdv.byte (k := k) (by omega)
      have HPUT := Lib.hid (hput 238)
      have H4P : Hid (Blk (wr.setCell ⟨g, off + k, none⟩ (.int .u8 238)) (w.heap.size + 1) 61 #[.slice none 0 0, .int .i64 0, .int .i64 0]) := h4.far (by show _ ≠ _; simp; omega) _
      have H6P : Hid (Blk (wr.setCell ⟨g, off + k, none⟩ (.int .u8 238)) (w.heap.size + 2) 61 #[.slice A5 r.length c5, .int .i64 0, .int .i64 er]) := h6.far (by show _ ≠ _; simp; omega) _
      have hgl : g < w2.heap.size := HLT.out g (by subst hA; show (if c9 = 0 then none else some g) = some g; rw [if_neg (by omega)])
      have HOP : Hid (OwnB (wr.setCell ⟨g, off + k, none⟩ (.int .u8 238)) w2.heap.size (.slice A5 r.length c5) r) := Own.off ho (gr_setCell wr ⟨g, off + k, none⟩ _) fun q e e2 => by
        have hq : g = q := Option.some.inj e
        have := (Own.blk_lt ho (by omega) e2).1
        omega
      obtain ⟨q8, hc8⟩ : ∃ q : Int, wr.cell? ⟨g, off + k, none⟩ = some (.int .u8 q) := ⟨_, hcell⟩
      have HBS := Lib.hid hbs
      clear hput hdv h4 h6 ho hcell hbs hgl
      subst hA
      go_wp2_with fail
      go_roundw
      case rel => exact ⟨k + 1, bs.set k 238, by omega, by go_num, by rw [List.length_set]; exact HBS.out, HPUT.out, H4P.out, H6P.out, HOP.out⟩
      case measure => simp [intOf] <;> omega
    · have hq4 := h4.cell
      have hfz4 := h4.frozen
      have h60 : wr.cell? ⟨w.heap.size + 1 + 1, 0, none⟩ = some (.slice A5 r.length c5) := h6.cell 0
      have h61 : wr.cell? ⟨w.heap.size + 1 + 1, 1, none⟩ = some (.int .i64 0) := h6.cell 1
      have h62 : wr.cell? ⟨w.heap.size + 1 + 1, 2, none⟩ = some (.int .i64 er) := h6.cell 2
      have HB2 := Lib.hid h4
      have HD2 := Lib.hid hdv.1
      have HO := Lib.hid ho
      obtain rfl : k = r.length := by omega
      clear h4 h6 hdv hbs ho
      go_wp2_with fail
      obtain ⟨WF, hWF⟩ : ∃ WF, WF = ((wr.setCell ⟨w.heap.size + 1, 0, none⟩ (.slice A5 r.length c5)).setCell ⟨w.heap.size + 1, 1, none⟩ (.int .i64 0)).setCell ⟨w.heap.size + 1, 2, none⟩ (.int .i64 er) := ⟨_, rfl⟩
      rw [← hWF]
      have hcf := tfin (by rfl) HB2.out _ _ _ hWF
      have HDF : Hid (DoS w0 d p sb size O l (m + 1) w WF) := by show DoS _ _ _ _ _ _ _ _ _ _; rw [hWF]; exact ((HD2.out.set (.inl rfl) _ _).set (.inl rfl) _ _).set (.inl rfl) _ _
      have HRF : Hid (RdB WF (.slice A5 r.length c5) r) := by
        show RdB _ _ _
        have hz2 := HZ2.out
        have hof : ∀ {wx : World} (off : Nat) (x : Value), OwnB wx w2.heap.size (.slice A5 r.length c5) r → OwnB (wx.setCell ⟨w.heap.size + 1, off, none⟩ x) w2.heap.size (.slice A5 r.length c5) r := fun {wx} off x h => Own.off h (gr_setCell wx ⟨w.heap.size + 1, off, none⟩ x) fun q e e2 => by
          have hq : w.heap.size + 1 = q := Option.some.inj e
          have := (Own.blk_lt h (by omega) e2).1
          omega
        rw [hWF]
        exact (hof 2 _ (hof 1 _ (hof 0 _ HO.out))).rd
      clear hWF hq4 hfz4 h60 h61 h62
      refine bodyPost_ret (v := .agg #[.slice A5 r.length c5, .int .i64 0, .int .i64 er]) (by simp [results, Try.results30, go_sem, hcf]) rfl ?_
      exact ⟨.slice A5 r.length c5, er, r, rfl, HRF.out, HRR.out, HDF.out.stn⟩
end
end Go.Proofs.Ytkfokgjpeaibpaa

/- StreamBack: the law's own list beside the stream. -/
namespace Go.Proofs.Ytkfokgjpeaibpaa
open Go.RowKit Go.Maps
set_option maxRecDepth 100000
set_option maxHeartbeats 400000

theorem Try.infoBB : (Try.prog.info? 27).map (fun i => (i.zero, i.size, i.bytes)) = some (some (.slice none 0 0), 1, 24) := by kernel_rfl
/-- the law's own list: slices, each with its bytes. -/
def OwnV (w : World) (B : Nat) (v : Value) (L : List (Value × List UInt8)) : Prop := Own w B 1 v L.length (L.map Prod.fst)
structure BK (w0 : World) (d p sb size : Nat) (v : Value) (L : List (Value × List UInt8)) (l : List (List UInt8)) (m : Nat) (w : World) : Prop where
  st : ∃ O, ST w0 d p sb size O l m w ∧ ∀ q, blk v = some q → O q = none
  own : OwnV w w0.heap.size v L
  rd : ∀ x ∈ L, RdB w0 x.1 x.2
  bs : blk v ≠ some sb
def BKn (w0 : World) (d p sb size : Nat) (v : Value) (L : List (Value × List UInt8)) (l : List (List UInt8)) (m : Nat) (wr w1 w2 : World) : Prop := BK w0 d p sb size v L l m w2 ∧ ∀ k t cs, wr.heap.size ≤ k → Blk w1 k t cs → Blk w2 k t cs
section
variable {w0 w w' wr w1 w2 : World} {d p sb size m m' : Nat} {v v' : Value} {L L' : List (Value × List UInt8)} {l l' : List (List UInt8)}
theorem BK.gr (h : BK w0 d p sb size v L l m w) : w0.grownBy w none := by obtain ⟨O, h1, -⟩ := h.st; exact h1.gr
theorem BK.ext (h : BK w0 d p sb size v L l m w) (g : w.grownBy w' none) : BK w0 d p sb size v L l m w' := by
  obtain ⟨O, h1, h2⟩ := h.st
  exact ⟨⟨O, h1.ext g, h2⟩, Own.ext h.own g, h.rd, h.bs⟩
theorem BK.more {n : Nat} (h : BK w0 d p sb size v L l m w) (hn : m ≤ n) (hm : n ≤ 9000) : BK w0 d p sb size v L l n w := by
  obtain ⟨O, h1, h2⟩ := h.st
  obtain ⟨Q, S, a1, a2, a3, a4⟩ := h1.pf
  exact ⟨⟨O, ⟨⟨Q, S, a1, a2.more ⟨hn, by omega⟩, a3.more hn, a4⟩, h1.st, h1.off, h1.rows⟩, h2⟩, h.own, h.rd, h.bs⟩
/-- what the stream's own functions leave. -/
theorem BK.out (h : BK w0 d p sb size v L l m wr) (g : wr.grownBy w1 none) : ∃ O, ST w0 d p sb size O l m w1 ∧ ∀ l' m' w2, STn w0 d p sb size O l' m' w1 w2 → BKn w0 d p sb size v L l' m' wr w1 w2 := by
  obtain ⟨O, h1, h2⟩ := h.st
  refine ⟨O, h1.ext g, fun l' m' w2 ⟨O', k1, k2⟩ => ⟨⟨⟨O', k1, fun q e => k2.free q ?_ (h2 q e)⟩, k2.own (Own.ext h.own g) (by omega) h2, h.rd, h.bs⟩, fun k t cs hk hb => k2.blk hb (h1.pf.fresh hk)⟩⟩
  exact (Own.blk_lt (Own.ext h.own g) (by omega) e).2
theorem BKn.trans (h : BKn w0 d p sb size v L l m wr w1 w2) (g : w2.grownBy w' none) : BKn w0 d p sb size v L l m wr w1 w' := ⟨h.1.ext g, fun k t cs hk hb => (h.2 k t cs hk hb).ext g⟩
/-- the list grew. -/
theorem BK.app (h : BK w0 d p sb size v L l m w) (ho : OwnV w' w0.heap.size v' L') (he : Ext w w' v v') (hr : ∀ x ∈ L', RdB w0 x.1 x.2) : BK w0 d p sb size v' L' l m w' := by
  obtain ⟨O, h1, h2⟩ := h.st
  obtain ⟨r, g, hr1, ku, hku, hk2⟩ := he
  refine ⟨⟨O, h1.far g fun k e => ⟨h2 k (hr1 k e), (Own.blk_lt h.own (by omega) (hr1 k e)).1, fun e2 => h.bs (e2 ▸ hr1 k e)⟩, fun q e => ?_⟩, ho, hr, fun e => ?_⟩
  · rw [hku] at e
    cases e
    rcases hk2 with e2 | e2
    · exact h2 _ e2
    · exact h1.pf.fresh e2
  · rw [hku] at e
    cases e
    rcases hk2 with e2 | e2
    · exact h.bs e2
    · have := h1.st.box.lt
      omega
/-- a place of the list is another slice. -/
theorem BK.put {A : Option Addr} {c : Nat} (h : BK w0 d p sb size (.slice A L.length c) L l m w) {k : Nat} (hk : k < L.length) : ∃ g off, A = some ⟨g, off, none⟩ ∧ L.length ≤ c ∧ w.frozen? ⟨g, off + k, none⟩ = false ∧ w.cell? ⟨g, off + k, none⟩ = some L[k].1 ∧
    ∀ (u : Value) (b : List UInt8), RdB w0 u b → BK w0 d p sb size (.slice A (L.set k (u, b)).length c) (L.set k (u, b)) l m (w.setCell ⟨g, off + k, none⟩ u) := by
  obtain ⟨O, h1, h2⟩ := h.st
  have ho := h.own
  obtain ⟨hl, A', c', g, off, e, hn, hc, hA0, hA, hB, hx, hf⟩ := id ho
  cases e
  obtain rfl := hA (by omega)
  have hb : blk (.slice (some ⟨g, off, none⟩) L.length c) = some g := by show (if c = 0 then none else some g) = some g; rw [if_neg (by omega)]
  refine ⟨g, off, rfl, hn, (hf k (by omega)).2, ?_, fun u b hu => ?_⟩
  · rw [hx k (by omega), List.getElem?_map, List.getElem?_eq_getElem hk]; rfl
  · refine ⟨⟨O, h1.far (gr_setCell w ⟨g, off + k, none⟩ u) fun q e => ?_, fun q e => ?_⟩, ?_, fun x hx => ?_, fun e => ?_⟩
    · have hq : g = q := Option.some.inj e
      subst hq
      exact ⟨h2 g hb, (Own.blk_lt ho (by omega) hb).1, fun e => h.bs (e ▸ hb)⟩
    · rw [List.length_set] at e
      exact h2 q e
    · unfold OwnV
      rw [List.length_set, List.map_set]
      exact Own.set rfl ho (by omega) u
    · rcases List.mem_or_eq_of_mem_set hx with hx | hx
      · exact h.rd x hx
      · subst hx; exact hu
    · rw [List.length_set] at e
      exact h.bs e
/-- a place of the list is read. -/
theorem BK.at_ {A : Option Addr} {c : Nat} (h : BK w0 d p sb size (.slice A L.length c) L l m w) {k : Nat} (hk : k < L.length) : ∃ g off, A = some ⟨g, off, none⟩ ∧ L.length ≤ c ∧ w.cell? ⟨g, off + k, none⟩ = some L[k].1 ∧ RdB w L[k].1 L[k].2 := by
  obtain ⟨g, off, h1, h2, -, h3, -⟩ := h.put hk
  exact ⟨g, off, h1, h2, h3, (h.rd _ (List.getElem_mem hk)).ext h.gr⟩
theorem BK.form (h : BK w0 d p sb size v L l m w) : ∃ A c, v = .slice A L.length c := by obtain ⟨_, A, c, _, _, e, _⟩ := h.own; exact ⟨A, c, e⟩
theorem BK.rows (h : BK w0 d p sb size v L l m w) : rowsOk size l := by obtain ⟨O, h1, -⟩ := h.st; exact h1.rows
/-- append(v, x), one slice. -/
theorem wp_app1V {ops : Array Oper} {rest : List Oper} {o : Oper} {a : Act} {Q : Exit → Act → World → Prop} {w : World} (r : Value) (b : List UInt8) (hr : r.oneCell' = true) (hgd : o.guard = none) (s0 x0 : Operand)
    (ho : o.op = .call { callee := .builtin .append, args := #[s0, x0], argTypes := #[57, 57] }) {B : Nat} {v : Value} {L : List (Value × List UInt8)} (hs : a.eval s0 = v) (hown : OwnV w B v L)
    (g : Nat) (hx : a.eval x0 = .slice (some ⟨g, 0, none⟩) 1 1) (hg : g = w.heap.size) (hn : L.length ≤ 1000000000) (hB : B ≤ w.heap.size)
    (h : ∀ v' w', OwnV w' B v' (L ++ [(r, b)]) → Ext (w.alloc (.cells #[r] 27)) w' v v' → wpList Try.prog ops Q rest (a.put o.dst v') w') :
    wpList Try.prog ops Q (o :: rest) a (w.alloc (.cells #[r] 27)) := by
  subst hg
  refine wpList_plain hgd fun K hK => ?_
  obtain ⟨v', w', hrun, h2, h3⟩ := run_appS (P := Try.prog) (w.alloc (.cells #[r] 27)) B 57 o.type 27 _ 1 24 Try.underlying57 Try.infoBB rfl (by omega) v L.length (L.map Prod.fst) (Own.ext hown (gr_alloc _ _ none)) _ 1 [r]
    (rd_lit w 1 1 1 #[r] 27 (by simp) (Nat.le_refl _) (by unfold maxLen; omega)) (fun u hu => by rw [List.mem_singleton.1 hu]; exact hr) (by unfold maxLen; omega) (by omega) (by rw [World.size_alloc]; omega)
  unfold Oper.wp execOp
  simp only [ho, resolve, invoke, builtin, Sem.run_bind, Sem.run_pure, Result.andThen_ok, List.map_toArray, List.map_cons, List.map_nil, hs, hx, hrun]
  have h5 : OwnV w' B v' (L ++ [(r, b)]) := by
    unfold OwnV
    rw [List.length_append, List.map_append]
    exact h2
  exact hK _ _ (h v' w' h5 (ext_of_app h2 (by omega) h3))
end
end Go.Proofs.Ytkfokgjpeaibpaa

/-
  does of law11 with a stream, kind by kind.
-/
import Derived.Test.YtkfokgjpeaibpaaSop
namespace Go.Proofs.Ytkfokgjpeaibpaa
open Go.RowKit Go.Maps
set_option maxRecDepth 100000
set_option maxHeartbeats 400000

theorem tdoes3 (w : World) (cs : Array Value) {W : World} (hW : W = ((w.alloc (.cells cs 59)).alloc (.cells #[.slice none 0 0, .int .i64 0, .int .i64 0] 61)).alloc (.cells #[.slice none 0 0, .int .i64 0, .int .i64 0] 61)) :
    Blk W w.heap.size 59 cs ∧ Blk W (w.heap.size + 1) 61 #[.slice none 0 0, .int .i64 0, .int .i64 0] ∧ Blk W (w.heap.size + 2) 61 #[.slice none 0 0, .int .i64 0, .int .i64 0] ∧ w.grownBy W none := by
  subst hW
  have h1 := Blk.new w 59 cs
  have h2 := Blk.new (w.alloc (.cells cs 59)) 61 #[.slice none 0 0, .int .i64 0, .int .i64 0]
  have h3 := Blk.new ((w.alloc (.cells cs 59)).alloc (.cells #[.slice none 0 0, .int .i64 0, .int .i64 0] 61)) 61 #[.slice none 0 0, .int .i64 0, .int .i64 0]
  rw [World.size_alloc] at h2
  rw [World.size_alloc, World.size_alloc] at h3
  exact ⟨(h1.ext (gr_alloc _ _ none)).ext (gr_alloc _ _ none), h2.ext (gr_alloc _ _ none), h3, gr_none (gr_none (gr_alloc _ _ none) (gr_alloc _ _ none)) (gr_alloc _ _ none)⟩
section
variable {w0 w w' w2 : World} {B : Nat} {v : Value} {bs : List UInt8} {d p sb size m : Nat} {O : Own1} {l : List (List UInt8)}
theorem tfin {w3 : World} {K : Nat} {cs : Array Value} (hcs : cs.size = 3) (b4 : Blk w3 K 61 cs) (v n e : Value) {WF : World}
    (hWF : WF = ((w3.setCell ⟨K, 0, none⟩ v).setCell ⟨K, 1, none⟩ n).setCell ⟨K, 2, none⟩ e) : ∀ i, WF.cell? ⟨K, i, none⟩ = #[v, n, e][i]? := by
  subst hWF
  have hb := ((b4.set 0 v).set 1 n).set 2 e
  intro i
  rw [hb.cell i]
  obtain ⟨l⟩ := cs
  match l, hcs with
  | [a, b, c], _ => rfl
/-- a stream behind an operation, and the call's own two blocks. -/
def DoS (w0 : World) (d p sb size : Nat) (O : Own1) (l : List (List UInt8)) (m : Nat) (w w2 : World) : Prop := ∃ O2, ST w0 d p sb size O2 l m w2 ∧ Ch O w O2 w2 ∧ O2 (w.heap.size + 1) = none ∧ O2 (w.heap.size + 2) = none ∧ sb < w.heap.size ∧ w0.heap.size ≤ w.heap.size
theorem DoS.stn (h : DoS w0 d p sb size O l m w w2) : STn w0 d p sb size O l m w w2 := by obtain ⟨O2, h1, h2, -⟩ := h; exact ⟨O2, h1, h2⟩
theorem DoS.of {W : World} (h : STn w0 d p sb size O l m W w2) (g : w.grownBy W none) (hz : w.heap.size + 3 ≤ W.heap.size) (ho : ∀ k, w.heap.size ≤ k → O k = none) (hsb : sb < w.heap.size) (h0 : w0.heap.size ≤ w.heap.size) : DoS w0 d p sb size O l m w w2 := by
  obtain ⟨O2, h1, h2⟩ := h
  exact ⟨O2, h1, (Ch.ext g).trans h2, h2.free _ (by omega) (ho _ (by omega)), h2.free _ (by omega) (ho _ (by omega)), hsb, h0⟩
theorem DoS.set (h : DoS w0 d p sb size O l m w w2) {k : Nat} (hk : k = w.heap.size + 1 ∨ k = w.heap.size + 2) (off : Nat) (v : Value) : DoS w0 d p sb size O l m w (w2.setCell ⟨k, off, none⟩ v) := by
  obtain ⟨O2, h1, h2, h3, h4, h5, h6⟩ := h
  have hk0 : O2 k = none := by rcases hk with rfl | rfl <;> assumption
  exact ⟨O2, h1.far (gr_setCell w2 ⟨k, off, none⟩ v) fun q e => by
    have hq : k = q := Option.some.inj e
    subst hq
    exact ⟨hk0, by omega, by omega⟩, ch_far h2 (gr_setCell w2 ⟨k, off, none⟩ v) fun q e => by
    have hq : k = q := Option.some.inj e
    subst hq
    omega, h3, h4, h5, h6⟩
theorem tdoes_len (h : ST w0 d p sb size O l m w) (hm : m ≤ 9000) (hll : l.length ≤ 100000) (i : Int) (bv : Value) :
    Calls Try.prog 30 #[.pointer (some ⟨d, 0, none⟩), .pointer (some ⟨p, 0, none⟩), .pointer (some ⟨sb, 0, none⟩), .agg #[.int .i64 0, .int .i64 i, bv]] w fun e w' =>
      e = .returned (.agg #[.slice none 0 0, .int .i64 l.length, .int .i64 0]) ∧ STn w0 d p sb size O l (m + 1) w w' := by
  have H := Lib.hid h
  have HM := Lib.hid (And.intro hm hll)
  have HSB := Lib.hid h.st.box.lt
  have HW0 := Lib.hid h.gr.size
  clear h hm hll
  go_enter Try.func30, Try.ntmps30
  go_wp2_with fail
  obtain ⟨W, hW⟩ : ∃ W, W = ((w.alloc (.cells #[.int .i64 0, .int .i64 i, bv] 59)).alloc (.cells #[.slice none 0 0, .int .i64 0, .int .i64 0] 61)).alloc (.cells #[.slice none 0 0, .int .i64 0, .int .i64 0] 61) := ⟨_, rfl⟩
  rw [← hW]
  obtain ⟨b3, b4, b6, gW⟩ := tdoes3 w _ hW
  have hz : w.heap.size + 3 ≤ W.heap.size := by rw [hW]; simp only [World.size_alloc]; omega
  clear hW
  refine ((H.out.ext gW).len HM.out.1 HM.out.2).mono ?_
  rintro e w2 ⟨rfl, st2⟩
  have hof : ∀ k, w.heap.size ≤ k → O k = none := fun k hk => H.out.pf.fresh hk
  obtain ⟨O2, s2, c2⟩ := st2
  have b42 := c2.blk b4 (hof _ (by omega))
  have b62 := c2.blk b6 (hof _ (by omega))
  have HD : Hid (DoS w0 d p sb size O l (m + 1) w w2) := DoS.of ⟨O2, s2, c2⟩ gW hz hof HSB.out HW0.out
  clear s2 c2 b3 b4 b6 gW hof hz
  have hc4 := b42.cell
  have hf4 := b42.frozen
  have hc6 := b62.cell
  have hf6 := b62.frozen
  have HB4 := Lib.hid b42
  clear b42 b62
  go_wp2
  obtain ⟨W3, hW3⟩ : ∃ W3, W3 = (w2.setCell ⟨w.heap.size + 1 + 1, 1, none⟩ (.int .i64 l.length)).setCell ⟨w.heap.size + 1 + 1, 2, none⟩ (.int .i64 0) := ⟨_, rfl⟩
  rw [← hW3]
  have hb3 : Blk W3 (w.heap.size + 1) 61 #[.slice none 0 0, .int .i64 0, .int .i64 0] := by rw [hW3]; exact (HB4.out.far (by simp) _).far (by simp) _
  have hd3 : DoS w0 d p sb size O l (m + 1) w W3 := by rw [hW3]; exact (HD.out.set (.inr rfl) _ _).set (.inr rfl) _ _
  obtain ⟨WF, hWF⟩ : ∃ WF, WF = ((W3.setCell ⟨w.heap.size + 1, 0, none⟩ (.slice none 0 0)).setCell ⟨w.heap.size + 1, 1, none⟩ (.int .i64 l.length)).setCell ⟨w.heap.size + 1, 2, none⟩ (.int .i64 0) := ⟨_, rfl⟩
  rw [← hWF]
  have hcf := tfin (by rfl) hb3 _ _ _ hWF
  have HDF : Hid (DoS w0 d p sb size O l (m + 1) w WF) := by show DoS _ _ _ _ _ _ _ _ _ _; rw [hWF]; exact ((hd3.set (.inl rfl) _ _).set (.inl rfl) _ _).set (.inl rfl) _ _
  clear hWF hW3 hb3 hd3 hc4 hf4 hc6 hf6
  exact bodyPost_ret (v := .agg #[.slice none 0 0, .int .i64 l.length, .int .i64 0]) (by simp [results, Try.results30, go_sem, hcf]) rfl ⟨rfl, HDF.out.stn⟩
theorem ST.flush (h : ST w0 d p sb size O l m w) (hm : m ≤ 9000) : Calls Try.prog 23 #[.pointer (some ⟨p, 0, none⟩), .string ⟨sn.toArray⟩] w fun e w' => e = .returned (.int .i64 0) ∧ STn w0 d p sb size O l (m + 1) w w' := by
  refine (h.pf.flush hm (n := sn) (by simp [sn])).mono ?_
  rw [aErr_one sn_right]
  rintro e w' ⟨rfl, O9, ⟨Q, S, a1, a2, a3, a4⟩, c9⟩
  exact ⟨rfl, h.of h.rows ⟨O9, ⟨Q, S, a1, a2, a3, fun s hs => by cases hs⟩, c9⟩⟩
theorem tdoes_flush (h : ST w0 d p sb size O l m w) (hm : m ≤ 9000) (i : Int) (bv : Value) :
    Calls Try.prog 30 #[.pointer (some ⟨d, 0, none⟩), .pointer (some ⟨p, 0, none⟩), .pointer (some ⟨sb, 0, none⟩), .agg #[.int .i64 5, .int .i64 i, bv]] w fun e w' =>
      e = .returned (.agg #[.slice none 0 0, .int .i64 0, .int .i64 0]) ∧ STn w0 d p sb size O l (m + 1) w w' := by
  have H := Lib.hid h
  have HM := Lib.hid hm
  have HSB := Lib.hid h.st.box.lt
  have HW0 := Lib.hid h.gr.size
  clear h hm
  go_enter Try.func30, Try.ntmps30
  go_wp2_with fail
  obtain ⟨W, hW⟩ : ∃ W, W = ((w.alloc (.cells #[.int .i64 5, .int .i64 i, bv] 59)).alloc (.cells #[.slice none 0 0, .int .i64 0, .int .i64 0] 61)).alloc (.cells #[.slice none 0 0, .int .i64 0, .int .i64 0] 61) := ⟨_, rfl⟩
  rw [← hW]
  obtain ⟨b3, b4, b6, gW⟩ := tdoes3 w _ hW
  have hz : w.heap.size + 3 ≤ W.heap.size := by rw [hW]; simp only [World.size_alloc]; omega
  clear hW
  refine ((H.out.ext gW).flush HM.out).mono ?_
  rintro e w2 ⟨rfl, st2⟩
  have hof : ∀ k, w.heap.size ≤ k → O k = none := fun k hk => H.out.pf.fresh hk
  obtain ⟨O2, s2, c2⟩ := st2
  have b42 := c2.blk b4 (hof _ (by omega))
  have b62 := c2.blk b6 (hof _ (by omega))
  have HD : Hid (DoS w0 d p sb size O l (m + 1) w w2) := DoS.of ⟨O2, s2, c2⟩ gW hz hof HSB.out HW0.out
  clear s2 c2 b3 b4 b6 gW hof hz
  have hc4 := b42.cell
  have hf4 := b42.frozen
  have hc6 := b62.cell
  have hf6 := b62.frozen
  have HB4 := Lib.hid b42
  clear b42 b62
  go_wp2
  obtain ⟨W3, hW3⟩ : ∃ W3, W3 = w2.setCell ⟨w.heap.size + 1 + 1, 2, none⟩ (.int .i64 0) := ⟨_, rfl⟩
  rw [← hW3]
  have hb3 : Blk W3 (w.heap.size + 1) 61 #[.slice none 0 0, .int .i64 0, .int .i64 0] := by rw [hW3]; exact HB4.out.far (by simp) _
  have hd3 : DoS w0 d p sb size O l (m + 1) w W3 := by rw [hW3]; exact HD.out.set (.inr rfl) _ _
  obtain ⟨WF, hWF⟩ : ∃ WF, WF = ((W3.setCell ⟨w.heap.size + 1, 0, none⟩ (.slice none 0 0)).setCell ⟨w.heap.size + 1, 1, none⟩ (.int .i64 0)).setCell ⟨w.heap.size + 1, 2, none⟩ (.int .i64 0) := ⟨_, rfl⟩
  rw [← hWF]
  have hcf := tfin (by rfl) hb3 _ _ _ hWF
  have HDF : Hid (DoS w0 d p sb size O l (m + 1) w WF) := by show DoS _ _ _ _ _ _ _ _ _ _; rw [hWF]; exact ((hd3.set (.inl rfl) _ _).set (.inl rfl) _ _).set (.inl rfl) _ _
  clear hWF hW3 hb3 hd3 hc4 hf4 hc6 hf6
  exact bodyPost_ret (v := .agg #[.slice none 0 0, .int .i64 0, .int .i64 0]) (by simp [results, Try.results30, go_sem, hcf]) rfl ⟨rfl, HDF.out.stn⟩
theorem tdoes_other (h : ST w0 d p sb size O l m w) (hm : m ≤ 9000) {kd : Int} (hkd : kd ≠ 0 ∧ kd ≠ 1 ∧ kd ≠ 2 ∧ kd ≠ 3 ∧ kd ≠ 4 ∧ kd ≠ 5 ∧ kd ≠ 6) (i : Int) (bv : Value) :
    Calls Try.prog 30 #[.pointer (some ⟨d, 0, none⟩), .pointer (some ⟨p, 0, none⟩), .pointer (some ⟨sb, 0, none⟩), .agg #[.int .i64 kd, .int .i64 i, bv]] w fun e w' =>
      e = .returned (.agg #[.slice none 0 0, .int .i64 0, .int .i64 0]) ∧ STn w0 d p sb size O l (m + 1) w w' := by
  have H := Lib.hid h
  have HM := Lib.hid hm
  have HSB := Lib.hid h.st.box.lt
  have HW0 := Lib.hid h.gr.size
  obtain ⟨n0, n1, n2, n3, n4, n5, n6⟩ := hkd
  clear h hm
  go_enter Try.func30, Try.ntmps30
  go_wp2_with fail
  obtain ⟨W, hW⟩ : ∃ W, W = ((w.alloc (.cells #[.int .i64 kd, .int .i64 i, bv] 59)).alloc (.cells #[.slice none 0 0, .int .i64 0, .int .i64 0] 61)).alloc (.cells #[.slice none 0 0, .int .i64 0, .int .i64 0] 61) := ⟨_, rfl⟩
  rw [← hW]
  obtain ⟨b3, b4, b6, gW⟩ := tdoes3 w _ hW
  have HDF := Lib.hid (H.out.stay HM.out gW)
  have hcf : ∀ i, W.cell? ⟨w.heap.size + 1, i, none⟩ = #[.slice none 0 0, .int .i64 0, .int .i64 0][i]? := b4.cell
  clear hW b3 b4 b6 gW
  exact bodyPost_ret (v := .agg #[.slice none 0 0, .int .i64 0, .int .i64 0]) (by simp [results, Try.results30, go_sem, hcf]) rfl ⟨rfl, HDF.out⟩
/-- the same with a slice of the call's own beside. -/
def DoV (w0 : World) (d p sb size : Nat) (O : Own1) (l : List (List UInt8)) (m : Nat) (w w2 : World) (B : Nat) (v : Value) (bs : List UInt8) : Prop := DoS w0 d p sb size O l m w w2 ∧ OwnB w2 B v bs ∧ w.heap.size + 3 ≤ B ∧ ∃ O2, ST w0 d p sb size O2 l m w2 ∧ Ch O w O2 w2 ∧ O2 (w.heap.size + 1) = none ∧ O2 (w.heap.size + 2) = none ∧ ∀ q, blk v = some q → O2 q = none
theorem DoV.put (h : DoV w0 d p sb size O l m w w2 B v bs) {k : Nat} (hk : k = w.heap.size + 1 ∨ k = w.heap.size + 2) (off : Nat) (x : Value) : DoV w0 d p sb size O l m w (w2.setCell ⟨k, off, none⟩ x) B v bs := by
  obtain ⟨h1, h2, h3, O2, k1, k2, k3, k4, k5⟩ := h
  obtain ⟨_, -, -, -, -, hs5, hs6⟩ := id h1
  have hk0 : O2 k = none := by rcases hk with rfl | rfl <;> assumption
  refine ⟨h1.set hk off x, ?_, h3, O2, k1.far (gr_setCell w2 ⟨k, off, none⟩ x) fun q e => ?_, ch_far k2 (gr_setCell w2 ⟨k, off, none⟩ x) fun q e => ?_, k3, k4, k5⟩
  · refine Own.same h2 fun q e => (gr_setCell w2 ⟨k, off, none⟩ x).block q (Own.blk_lt h2 (by omega) e).2 fun e2 => ?_
    have hq : k = q := (Option.some.inj e2).symm
    have := (Own.blk_lt h2 (by omega) e).1
    omega
  · have hq : k = q := Option.some.inj e
    subst hq
    exact ⟨hk0, by omega, by omega⟩
  · have hq : k = q := Option.some.inj e
    subst hq
    omega
theorem DoS.ext (h : DoS w0 d p sb size O l m w w2) (g : w2.grownBy w' none) : DoS w0 d p sb size O l m w w' := by
  obtain ⟨O2, h1, h2, h3⟩ := h
  exact ⟨O2, h1.ext g, h2.trans (Ch.ext g), h3⟩
theorem DoV.ext (h : DoV w0 d p sb size O l m w w2 B v bs) (g : w2.grownBy w' none) : DoV w0 d p sb size O l m w w' B v bs := by
  obtain ⟨h1, h2, h3, O2, k1, k2, k3⟩ := h
  exact ⟨h1.ext g, OwnB.ext h2 g, h3, O2, k1.ext g, k2.trans (Ch.ext g), k3⟩
/-- a byte of the slice is written. -/
theorem DoV.byte {A : Option Addr} {c : Nat} (h : DoV w0 d p sb size O l m w w2 B (.slice A bs.length c) bs) {k : Nat} (hk : k < bs.length) : ∃ g off, A = some ⟨g, off, none⟩ ∧ B ≤ g ∧ bs.length ≤ c ∧ w2.frozen? ⟨g, off + k, none⟩ = false ∧ w2.cell? ⟨g, off + k, none⟩ = some (.int .u8 bs[k].toNat) ∧
    ∀ u : UInt8, DoV w0 d p sb size O l m w (w2.setCell ⟨g, off + k, none⟩ (.int .u8 u.toNat)) B (.slice A (bs.set k u).length c) (bs.set k u) := by
  obtain ⟨h1, h2, h3, O2, k1, k2, k3, k4, k5⟩ := h
  obtain ⟨_, -, -, -, -, hs5, hs6⟩ := id h1
  obtain ⟨g, off, rfl, hB, -, hc, hcell, hfr, hset⟩ := h2.at_ hk
  have hb : blk (.slice (some ⟨g, off, none⟩) bs.length c) = some g := by show (if c = 0 then none else some g) = some g; rw [if_neg (by omega)]
  have hO : O2 g = none := k5 g hb
  refine ⟨g, off, rfl, hB, hc, hfr, hcell, fun u => ?_⟩
  have e1 : ST w0 d p sb size O2 l m (w2.setCell ⟨g, off + k, none⟩ (.int .u8 u.toNat)) := k1.far (gr_setCell w2 ⟨g, off + k, none⟩ _) fun q e => by
    have hq : g = q := Option.some.inj e
    subst hq
    exact ⟨hO, by omega, by omega⟩
  have e2 : Ch O w O2 (w2.setCell ⟨g, off + k, none⟩ (.int .u8 u.toNat)) := ch_far k2 (gr_setCell w2 ⟨g, off + k, none⟩ _) fun q e => by
    have hq : g = q := Option.some.inj e
    subst hq
    omega
  rw [List.length_set]
  exact ⟨⟨O2, e1, e2, k3, k4, hs5, hs6⟩, hset u, h3, O2, e1, e2, k3, k4, k5⟩
set_option maxHeartbeats 2000000 in
theorem tdoes_add (h : ST w0 d p sb size O l m w) (hm : m ≤ 8000) (hll : l.length ≤ 100000) (i : Int) {bv : Value} {b : List UInt8} (hb : RdB w bv b) (hbl : b.length ≤ 100000) :
    Calls Try.prog 30 #[.pointer (some ⟨d, 0, none⟩), .pointer (some ⟨p, 0, none⟩), .pointer (some ⟨sb, 0, none⟩), .agg #[.int .i64 2, .int .i64 i, bv]] w fun e w' => ∃ A c,
      (b.length = size ∧ e = .returned (.agg #[.slice A b.length c, .int .i64 0, .int .i64 0]) ∧ STn w0 d p sb size O (l ++ [b]) (m + 2) w w') ∨ (b.length ≠ size ∧ e = .returned (.agg #[.slice A b.length c, .int .i64 0, .int .i64 1]) ∧ STn w0 d p sb size O l (m + 2) w w') := by
  have H := Lib.hid h
  have HM := Lib.hid (And.intro hm hll)
  have HSB := Lib.hid h.st.box.lt
  have HW0 := Lib.hid h.gr.size
  have HBB := Lib.hid hb
  have HBL := Lib.hid hbl
  clear h hm hll hb hbl
  go_enter Try.func30, Try.ntmps30
  go_wp2_with fail
  obtain ⟨W, hW⟩ : ∃ W, W = ((w.alloc (.cells #[.int .i64 2, .int .i64 i, bv] 59)).alloc (.cells #[.slice none 0 0, .int .i64 0, .int .i64 0] 61)).alloc (.cells #[.slice none 0 0, .int .i64 0, .int .i64 0] 61) := ⟨_, rfl⟩
  rw [← hW]
  obtain ⟨b3, b4, b6, gW⟩ := tdoes3 w _ hW
  have hz : w.heap.size + 3 ≤ W.heap.size := by rw [hW]; simp only [World.size_alloc]; omega
  clear hW
  have HCP := Lib.hid (copyBytes_any bv b W (HBB.out.ext gW) (by have := HBL.out; omega))
  refine HCP.out.mono ?_
  rintro e w2 ⟨v2, rfl, o2, g2⟩
  obtain ⟨A2, c2, hv2⟩ := RdB.form o2.rd
  have hof : ∀ k, w.heap.size ≤ k → O k = none := fun k hk => H.out.pf.fresh hk
  have HAD := Lib.hid (((H.out.ext gW).ext g2).add HM.out.1 HM.out.2 o2.rd (fun q e => ⟨(Own.blk_lt o2 (by omega) e).2, hof _ (by have := (Own.blk_lt o2 (by omega) e).1; omega)⟩) HBL.out)
  have HO2 := Lib.hid o2
  have HB4 := Lib.hid (b4.ext g2)
  have HB6 := Lib.hid (b6.ext g2)
  have hc3 : w2.cell? ⟨w.heap.size, 0, none⟩ = some (.int .i64 2) := (b3.ext g2).cell 0
  have HGW := Lib.hid gW
  have HG2 := Lib.hid g2
  have HZ := Lib.hid hz
  have HOF := Lib.hid hof
  clear b3 b4 b6 gW g2 hz hof o2 HCP
  subst hv2
  go_wp2_with fail
  refine HAD.out.mono ?_
  rintro e w3 hout
  obtain ⟨er, l', he, hl', hstn⟩ : ∃ (er : Nat) (l' : List (List UInt8)), e = .returned (.int .i64 er) ∧ ((b.length = size ∧ er = 0 ∧ l' = l ++ [b]) ∨ (b.length ≠ size ∧ er = 1 ∧ l' = l)) ∧ STn w0 d p sb size O l' (m + 2) w2 w3 := by
    rcases hout with ⟨q1, q2, q3⟩ | ⟨q1, q2, q3⟩
    · exact ⟨0, _, q2, .inl ⟨q1, rfl, rfl⟩, q3⟩
    · exact ⟨1, _, q2, .inr ⟨q1, rfl, rfl⟩, q3⟩
  subst he
  obtain ⟨O3, s3, c3⟩ := hstn
  have hz := HZ.out
  have hg2z := HG2.out.size
  have ho3 : OwnB w3 W.heap.size (.slice A2 b.length c2) b := c3.own HO2.out (by omega) fun q e => HOF.out q (by have := (Own.blk_lt HO2.out (by omega) e).1; omega)
  have hown : ∀ q, blk (Value.slice A2 b.length c2) = some q → O3 q = none := fun q e => c3.free q (Own.blk_lt HO2.out (by omega) e).2 (HOF.out q (by have := (Own.blk_lt HO2.out (by omega) e).1; omega))
  have hds : DoS w0 d p sb size O l' (m + 2) w w3 := DoS.of ⟨O3, s3, c3⟩ (gr_none HGW.out HG2.out) (by omega) HOF.out HSB.out HW0.out
  have b42 := c3.blk HB4.out (HOF.out _ (by omega))
  have b62 := c3.blk HB6.out (HOF.out _ (by omega))
  have HDV : Hid (DoV w0 d p sb size O l' (m + 2) w w3 W.heap.size (.slice A2 b.length c2) b) := ⟨hds, ho3, hz, O3, s3, (Ch.ext (gr_none HGW.out HG2.out)).trans c3, c3.free _ (by omega) (HOF.out _ (by omega)), c3.free _ (by omega) (HOF.out _ (by omega)), hown⟩
  have HB4' := Lib.hid b42
  have HB6' := Lib.hid b62
  have HLL := Lib.hid hl'
  have hc6 := b62.cell
  have hf6 := b62.frozen
  clear hout s3 c3 ho3 hown hds b42 b62 HAD hl' hc3 hz hg2z
  go_wp2_with fail
  obtain ⟨W4, hW4⟩ : ∃ W4, W4 = w3.setCell ⟨w.heap.size + 1 + 1, 2, none⟩ (.int .i64 er) := ⟨_, rfl⟩
  rw [← hW4]
  have hdv4 : DoV w0 d p sb size O l' (m + 2) w W4 W.heap.size (.slice A2 b.length c2) b := by rw [hW4]; exact HDV.out.put (.inr rfl) _ _
  have h44 : Blk W4 (w.heap.size + 1) 61 #[.slice none 0 0, .int .i64 0, .int .i64 0] := by rw [hW4]; exact HB4'.out.far (by simp) _
  have h64 : Blk W4 (w.heap.size + 2) 61 #[.slice none 0 0, .int .i64 0, .int .i64 er] := by rw [hW4]; exact HB6'.out.set 2 _
  have HCP := Lib.hid (copyBytes_any (.slice A2 b.length c2) b W4 hdv4.2.1.rd (by have := HBL.out; omega))
  refine HCP.out.mono ?_
  rintro e w5 ⟨v5, rfl, o5, g5⟩
  obtain ⟨A5, c5, hv5⟩ := RdB.form o5.rd
  have HV5 := Lib.hid (hdv4.ext g5)
  have H45 := Lib.hid (h44.ext g5)
  have h65 := h64.ext g5
  have H65 := Lib.hid h65
  have hc6 := h65.cell
  have hf6 := h65.frozen
  clear hW4 hdv4 h44 h64 h65 o5 g5 HCP HB4' HB6' HDV
  subst hv5
  go_wp2_with fail
  obtain ⟨W6, hW6⟩ : ∃ W6, W6 = w5.setCell ⟨w.heap.size + 1 + 1, 0, none⟩ (.slice A5 b.length c5) := ⟨_, rfl⟩
  rw [← hW6]
  have HV6 : Hid (DoV w0 d p sb size O l' (m + 2) w W6 W.heap.size (.slice A2 b.length c2) b) := by show DoV _ _ _ _ _ _ _ _ _ _ _ _ _; rw [hW6]; exact HV5.out.put (.inr rfl) _ _
  have H46 : Hid (Blk W6 (w.heap.size + 1) 61 #[.slice none 0 0, .int .i64 0, .int .i64 0]) := by show Blk _ _ _ _; rw [hW6]; exact H45.out.far (by simp) _
  have H66 : Hid (Blk W6 (w.heap.size + 2) 61 #[.slice A5 b.length c5, .int .i64 0, .int .i64 er]) := by show Blk _ _ _ _; rw [hW6]; exact H65.out.set 0 _
  have hbl := HBL.out
  have hzz := HZ.out
  clear hW6 hc6 hf6 HV5 H45 H65
  go_loopw [14] (fun iv wr => ∃ (k : Nat) (bs : List UInt8), k ≤ b.length ∧ iv = .int .i64 k ∧ bs.length = b.length ∧ DoV w0 d p sb size O l' (m + 2) w wr W.heap.size (.slice A2 bs.length c2) bs ∧ Blk wr (w.heap.size + 1) 61 #[.slice none 0 0, .int .i64 0, .int .i64 0] ∧ Blk wr (w.heap.size + 2) 61 #[.slice A5 b.length c5, .int .i64 0, .int .i64 er]) (fun iv _ => b.length - (intOf iv).toNat)
  case atStart => exact ⟨0, b, Nat.zero_le _, rfl, rfl, HV6.out, H46.out, H66.out⟩
  case round =>
    obtain ⟨k, bs, hk, rfl, hbs, hdv, h4, h6⟩ := hrel
    by_cases hlt : k < b.length
    · obtain ⟨g, off, hA, hgB, hc, hfr, hcell, hput⟩ := hdv.byte (k := k) (by omega)
      have HPUT := Lib.hid (hput 237)
      have H4P : Hid (Blk (wr.setCell ⟨g, off + k, none⟩ (.int .u8 237)) (w.heap.size + 1) 61 #[.slice none 0 0, .int .i64 0, .int .i64 0]) := h4.far (by show _ ≠ _; simp; omega) _
      have H6P : Hid (Blk (wr.setCell ⟨g, off + k, none⟩ (.int .u8 237)) (w.heap.size + 2) 61 #[.slice A5 b.length c5, .int .i64 0, .int .i64 er]) := h6.far (by show _ ≠ _; simp; omega) _
      obtain ⟨q8, hc8⟩ : ∃ q : Int, wr.cell? ⟨g, off + k, none⟩ = some (.int .u8 q) := ⟨_, hcell⟩
      have HBS := Lib.hid hbs
      clear hput hdv h4 h6 hcell hbs
      subst hA
      go_wp2_with fail
      go_roundw
      case rel => exact ⟨k + 1, bs.set k 237, by omega, by go_num, by rw [List.length_set]; exact HBS.out, HPUT.out, H4P.out, H6P.out⟩
      case measure => simp [intOf] <;> omega
    · have hq4 := h4.cell
      have hfz4 := h4.frozen
      have h60 : wr.cell? ⟨w.heap.size + 1 + 1, 0, none⟩ = some (.slice A5 b.length c5) := h6.cell 0
      have h61 : wr.cell? ⟨w.heap.size + 1 + 1, 1, none⟩ = some (.int .i64 0) := h6.cell 1
      have h62 : wr.cell? ⟨w.heap.size + 1 + 1, 2, none⟩ = some (.int .i64 er) := h6.cell 2
      have HB2 := Lib.hid h4
      have HD2 := Lib.hid hdv.1
      obtain rfl : k = b.length := by omega
      clear h4 h6 hdv hbs
      go_wp2_with fail
      obtain ⟨WF, hWF⟩ : ∃ WF, WF = ((wr.setCell ⟨w.heap.size + 1, 0, none⟩ (.slice A5 b.length c5)).setCell ⟨w.heap.size + 1, 1, none⟩ (.int .i64 0)).setCell ⟨w.heap.size + 1, 2, none⟩ (.int .i64 er) := ⟨_, rfl⟩
      rw [← hWF]
      have hcf := tfin (by rfl) HB2.out _ _ _ hWF
      have HDF : Hid (DoS w0 d p sb size O l' (m + 2) w WF) := by show DoS _ _ _ _ _ _ _ _ _ _; rw [hWF]; exact ((HD2.out.set (.inl rfl) _ _).set (.inl rfl) _ _).set (.inl rfl) _ _
      clear hWF hq4 hfz4 h60 h61 h62
      refine bodyPost_ret (v := .agg #[.slice A5 b.length c5, .int .i64 0, .int .i64 er]) (by simp [results, Try.results30, go_sem, hcf]) rfl ?_
      refine ⟨A5, c5, ?_⟩
      rcases HLL.out with ⟨q1, rfl, rfl⟩ | ⟨q1, rfl, rfl⟩
      · exact .inl ⟨q1, rfl, HDF.out.stn⟩
      · exact .inr ⟨q1, rfl, HDF.out.stn⟩
set_option maxHeartbeats 2000000 in
theorem tdoes_set (h : ST w0 d p sb size O l m w) (hm : m ≤ 8000) (hll : l.length ≤ 100000) {i : Int} (hi : -9223372036854775808 ≤ i ∧ i ≤ 9223372036854775807) {bv : Value} {b : List UInt8} (hb : RdB w bv b) (hbl : b.length ≤ 100000) :
    Calls Try.prog 30 #[.pointer (some ⟨d, 0, none⟩), .pointer (some ⟨p, 0, none⟩), .pointer (some ⟨sb, 0, none⟩), .agg #[.int .i64 3, .int .i64 i, bv]] w fun e w' => ∃ (A : Option Addr) (c er : Nat), e = .returned (.agg #[.slice A b.length c, .int .i64 0, .int .i64 er]) ∧
      (((b.length = size ∧ 0 ≤ i ∧ i < l.length) ∧ er = 0 ∧ STn w0 d p sb size O (l.set i.toNat b) (m + 2) w w') ∨ (¬ (b.length = size ∧ 0 ≤ i ∧ i < l.length) ∧ er ≠ 0 ∧ er ≤ 9 ∧ STn w0 d p sb size O l (m + 2) w w')) := by
  have H := Lib.hid h
  have HM := Lib.hid (And.intro hm hll)
  have HSB := Lib.hid h.st.box.lt
  have HW0 := Lib.hid h.gr.size
  have HBB := Lib.hid hb
  have HI := Lib.hid hi
  have HBL := Lib.hid hbl
  clear h hm hll hb hbl hi
  go_enter Try.func30, Try.ntmps30
  go_wp2_with fail
  obtain ⟨W, hW⟩ : ∃ W, W = ((w.alloc (.cells #[.int .i64 3, .int .i64 i, bv] 59)).alloc (.cells #[.slice none 0 0, .int .i64 0, .int .i64 0] 61)).alloc (.cells #[.slice none 0 0, .int .i64 0, .int .i64 0] 61) := ⟨_, rfl⟩
  rw [← hW]
  obtain ⟨b3, b4, b6, gW⟩ := tdoes3 w _ hW
  have hz : w.heap.size + 3 ≤ W.heap.size := by rw [hW]; simp only [World.size_alloc]; omega
  clear hW
  have HCP := Lib.hid (copyBytes_any bv b W (HBB.out.ext gW) (by have := HBL.out; omega))
  refine HCP.out.mono ?_
  rintro e w2 ⟨v2, rfl, o2, g2⟩
  obtain ⟨A2, c2, hv2⟩ := RdB.form o2.rd
  have hof : ∀ k, w.heap.size ≤ k → O k = none := fun k hk => H.out.pf.fresh hk
  have HAD := Lib.hid (((H.out.ext gW).ext g2).set HM.out.1 HM.out.2 HI.out o2.rd (fun q e => ⟨(Own.blk_lt o2 (by omega) e).2, hof _ (by have := (Own.blk_lt o2 (by omega) e).1; omega)⟩) HBL.out)
  have HO2 := Lib.hid o2
  have HB4 := Lib.hid (b4.ext g2)
  have HB6 := Lib.hid (b6.ext g2)
  have hc3 : w2.cell? ⟨w.heap.size, 0, none⟩ = some (.int .i64 3) := (b3.ext g2).cell 0
  have hc31 : w2.cell? ⟨w.heap.size, 1, none⟩ = some (.int .i64 i) := (b3.ext g2).cell 1
  have HGW := Lib.hid gW
  have HG2 := Lib.hid g2
  have HZ := Lib.hid hz
  have HOF := Lib.hid hof
  clear b3 b4 b6 gW g2 hz hof o2 HCP
  subst hv2
  go_wp2_with fail
  refine HAD.out.mono ?_
  rintro e w3 hout
  obtain ⟨er, l', he, hl', hstn⟩ : ∃ (er : Nat) (l' : List (List UInt8)), e = .returned (.int .i64 er) ∧ (((b.length = size ∧ 0 ≤ i ∧ i < l.length) ∧ er = 0 ∧ l' = l.set i.toNat b) ∨ (¬ (b.length = size ∧ 0 ≤ i ∧ i < l.length) ∧ (er ≠ 0 ∧ er ≤ 9) ∧ l' = l)) ∧ STn w0 d p sb size O l' (m + 2) w2 w3 := by
    rcases hout with ⟨q1, q2, q3⟩ | ⟨q1, ⟨er, q4, q5, q2⟩, q3⟩
    · exact ⟨0, _, q2, .inl ⟨q1, rfl, rfl⟩, q3⟩
    · exact ⟨er, _, q2, .inr ⟨q1, ⟨q4, q5⟩, rfl⟩, q3⟩
  subst he
  obtain ⟨O3, s3, c3⟩ := hstn
  have hz := HZ.out
  have hg2z := HG2.out.size
  have ho3 : OwnB w3 W.heap.size (.slice A2 b.length c2) b := c3.own HO2.out (by omega) fun q e => HOF.out q (by have := (Own.blk_lt HO2.out (by omega) e).1; omega)
  have hown : ∀ q, blk (Value.slice A2 b.length c2) = some q → O3 q = none := fun q e => c3.free q (Own.blk_lt HO2.out (by omega) e).2 (HOF.out q (by have := (Own.blk_lt HO2.out (by omega) e).1; omega))
  have hds : DoS w0 d p sb size O l' (m + 2) w w3 := DoS.of ⟨O3, s3, c3⟩ (gr_none HGW.out HG2.out) (by omega) HOF.out HSB.out HW0.out
  have b42 := c3.blk HB4.out (HOF.out _ (by omega))
  have b62 := c3.blk HB6.out (HOF.out _ (by omega))
  have HDV : Hid (DoV w0 d p sb size O l' (m + 2) w w3 W.heap.size (.slice A2 b.length c2) b) := ⟨hds, ho3, hz, O3, s3, (Ch.ext (gr_none HGW.out HG2.out)).trans c3, c3.free _ (by omega) (HOF.out _ (by omega)), c3.free _ (by omega) (HOF.out _ (by omega)), hown⟩
  have HB4' := Lib.hid b42
  have HB6' := Lib.hid b62
  have HLL := Lib.hid hl'
  have hc6 := b62.cell
  have hf6 := b62.frozen
  clear hout s3 c3 ho3 hown hds b42 b62 HAD hl' hc3 hc31 hz hg2z
  go_wp2_with fail
  obtain ⟨W4, hW4⟩ : ∃ W4, W4 = w3.setCell ⟨w.heap.size + 1 + 1, 2, none⟩ (.int .i64 er) := ⟨_, rfl⟩
  rw [← hW4]
  have hdv4 : DoV w0 d p sb size O l' (m + 2) w W4 W.heap.size (.slice A2 b.length c2) b := by rw [hW4]; exact HDV.out.put (.inr rfl) _ _
  have h44 : Blk W4 (w.heap.size + 1) 61 #[.slice none 0 0, .int .i64 0, .int .i64 0] := by rw [hW4]; exact HB4'.out.far (by simp) _
  have h64 : Blk W4 (w.heap.size + 2) 61 #[.slice none 0 0, .int .i64 0, .int .i64 er] := by rw [hW4]; exact HB6'.out.set 2 _
  have HCP := Lib.hid (copyBytes_any (.slice A2 b.length c2) b W4 hdv4.2.1.rd (by have := HBL.out; omega))
  refine HCP.out.mono ?_
  rintro e w5 ⟨v5, rfl, o5, g5⟩
  obtain ⟨A5, c5, hv5⟩ := RdB.form o5.rd
  have HV5 := Lib.hid (hdv4.ext g5)
  have H45 := Lib.hid (h44.ext g5)
  have h65 := h64.ext g5
  have H65 := Lib.hid h65
  have hc6 := h65.cell
  have hf6 := h65.frozen
  clear hW4 hdv4 h44 h64 h65 o5 g5 HCP HB4' HB6' HDV
  subst hv5
  go_wp2_with fail
  obtain ⟨W6, hW6⟩ : ∃ W6, W6 = w5.setCell ⟨w.heap.size + 1 + 1, 0, none⟩ (.slice A5 b.length c5) := ⟨_, rfl⟩
  rw [← hW6]
  have HV6 : Hid (DoV w0 d p sb size O l' (m + 2) w W6 W.heap.size (.slice A2 b.length c2) b) := by show DoV _ _ _ _ _ _ _ _ _ _ _ _ _; rw [hW6]; exact HV5.out.put (.inr rfl) _ _
  have H46 : Hid (Blk W6 (w.heap.size + 1) 61 #[.slice none 0 0, .int .i64 0, .int .i64 0]) := by show Blk _ _ _ _; rw [hW6]; exact H45.out.far (by simp) _
  have H66 : Hid (Blk W6 (w.heap.size + 2) 61 #[.slice A5 b.length c5, .int .i64 0, .int .i64 er]) := by show Blk _ _ _ _; rw [hW6]; exact H65.out.set 0 _
  have hbl := HBL.out
  have hzz := HZ.out
  clear hW6 hc6 hf6 HV5 H45 H65
  go_loopw [14] (fun iv wr => ∃ (k : Nat) (bs : List UInt8), k ≤ b.length ∧ iv = .int .i64 k ∧ bs.length = b.length ∧ DoV w0 d p sb size O l' (m + 2) w wr W.heap.size (.slice A2 bs.length c2) bs ∧ Blk wr (w.heap.size + 1) 61 #[.slice none 0 0, .int .i64 0, .int .i64 0] ∧ Blk wr (w.heap.size + 2) 61 #[.slice A5 b.length c5, .int .i64 0, .int .i64 er]) (fun iv _ => b.length - (intOf iv).toNat)
  case atStart => exact ⟨0, b, Nat.zero_le _, rfl, rfl, HV6.out, H46.out, H66.out⟩
  case round =>
    obtain ⟨k, bs, hk, rfl, hbs, hdv, h4, h6⟩ := hrel
    by_cases hlt : k < b.length
    · obtain ⟨g, off, hA, hgB, hc, hfr, hcell, hput⟩ := hdv.byte (k := k) (by omega)
      have HPUT := Lib.hid (hput 237)
      have H4P : Hid (Blk (wr.setCell ⟨g, off + k, none⟩ (.int .u8 237)) (w.heap.size + 1) 61 #[.slice none 0 0, .int .i64 0, .int .i64 0]) := h4.far (by show _ ≠ _; simp; omega) _
      have H6P : Hid (Blk (wr.setCell ⟨g, off + k, none⟩ (.int .u8 237)) (w.heap.size + 2) 61 #[.slice A5 b.length c5, .int .i64 0, .int .i64 er]) := h6.far (by show _ ≠ _; simp; omega) _
      obtain ⟨q8, hc8⟩ : ∃ q : Int, wr.cell? ⟨g, off + k, none⟩ = some (.int .u8 q) := ⟨_, hcell⟩
      have HBS := Lib.hid hbs
      clear hput hdv h4 h6 hcell hbs
      subst hA
      go_wp2_with fail
      go_roundw
      case rel => exact ⟨k + 1, bs.set k 237, by omega, by go_num, by rw [List.length_set]; exact HBS.out, HPUT.out, H4P.out, H6P.out⟩
      case measure => simp [intOf] <;> omega
    · have hq4 := h4.cell
      have hfz4 := h4.frozen
      have h60 : wr.cell? ⟨w.heap.size + 1 + 1, 0, none⟩ = some (.slice A5 b.length c5) := h6.cell 0
      have h61 : wr.cell? ⟨w.heap.size + 1 + 1, 1, none⟩ = some (.int .i64 0) := h6.cell 1
      have h62 : wr.cell? ⟨w.heap.size + 1 + 1, 2, none⟩ = some (.int .i64 er) := h6.cell 2
      have HB2 := Lib.hid h4
      have HD2 := Lib.hid hdv.1
      obtain rfl : k = b.length := by omega
      clear h4 h6 hdv hbs
      go_wp2_with fail
      obtain ⟨WF, hWF⟩ : ∃ WF, WF = ((wr.setCell ⟨w.heap.size + 1, 0, none⟩ (.slice A5 b.length c5)).setCell ⟨w.heap.size + 1, 1, none⟩ (.int .i64 0)).setCell ⟨w.heap.size + 1, 2, none⟩ (.int .i64 er) := ⟨_, rfl⟩
      rw [← hWF]
      have hcf := tfin (by rfl) HB2.out _ _ _ hWF
      have HDF : Hid (DoS w0 d p sb size O l' (m + 2) w WF) := by show DoS _ _ _ _ _ _ _ _ _ _; rw [hWF]; exact ((HD2.out.set (.inl rfl) _ _).set (.inl rfl) _ _).set (.inl rfl) _ _
      clear hWF hq4 hfz4 h60 h61 h62
      refine bodyPost_ret (v := .agg #[.slice A5 b.length c5, .int .i64 0, .int .i64 er]) (by simp [results, Try.results30, go_sem, hcf]) rfl ?_
      refine ⟨A5, c5, er, rfl, ?_⟩
      rcases HLL.out with ⟨q1, q2, rfl⟩ | ⟨q1, q2, rfl⟩
      · exact .inl ⟨q1, q2, HDF.out.stn⟩
      · exact .inr ⟨q1, q2.1, q2.2, HDF.out.stn⟩
end
end Go.Proofs.Ytkfokgjpeaibpaa

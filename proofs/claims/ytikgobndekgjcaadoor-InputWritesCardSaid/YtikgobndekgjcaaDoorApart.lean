/-
  milepostref00's Apart: lists that no two share memory of are apart.
-/
import Derived.Test.YtikgobndekgjcaaDoorApS
import Derived.Deep.RegionHeld3
namespace Go.Proofs.YtikgobndekgjcaaDoor
open Go.RowKit
set_option maxRecDepth 100000
set_option maxHeartbeats 400000

theorem wp_app1G {P : Program} {w : World} {ops : Array Oper} {rest : List Oper} {o : Oper} {a : Act} {Q : Exit → Act → World → Prop} (cs : Array Value) (hgd : o.guard = none) (s0 x0 : Operand) (t : TypeId)
    (ho : o.op = .call { callee := .builtin .append, args := #[s0, x0], argTypes := #[t, t] })
    (B : Nat) (e : TypeId) (z : Value) (s bytes : Nat) (ht : P.underlying t = some (.slice e)) (hinfo : (P.info? e).map (fun i => (i.zero, i.size, i.bytes)) = some (some z, s, bytes))
    (hzs : z.cells.size = s) (hsz : 0 < s) (v : Value) (n : Nat) (xs : List Value) (hs : a.eval s0 = v) (hown : Own w B s v n xs)
    (hx : a.eval x0 = .slice (some ⟨w.heap.size, 0, none⟩) 1 1) (hcs : cs.size = s) (h1 : ∀ u ∈ cs.toList, u.oneCell' = true)
    (h63 : n + 1 ≤ maxLen) (hbytes : (n + 1) * bytes ≤ 140737488355328) (hB : B ≤ w.heap.size)
    (h : ∀ v' w', Own w' B s v' (n + 1) (xs ++ cs.toList) → Ext w w' v v' → wpList P ops Q rest (a.put o.dst v') w') :
    wpList P ops Q (o :: rest) a (w.alloc (.cells cs e)) := by
  refine wp_appS (w.alloc (.cells cs e)) hgd s0 x0 t ho B e z s bytes ht hinfo hzs hsz v n xs hs (hown.alloc _) _ 1 cs.toList hx (rd_lit w s 1 1 cs e (by omega) (Nat.le_refl _) (by unfold maxLen; omega)) h1 h63 hbytes (by simp; omega) fun v' w' h2 h3 => ?_
  refine h v' w' h2 (ext_of_app h2 (by omega) ?_)
  rcases h3 with ⟨A, c, e1, e2, g⟩ | ⟨k, e, hk, g⟩
  · exact .inl ⟨A, c, e1, e2, gr_trans (gr_alloc w _ _) g (.inl rfl)⟩
  · exact .inr ⟨k, e, by simp at hk; omega, gr_none (gr_alloc w _ none) g⟩
theorem Tryd.infoV : (Tryd.prog.info? 22).map (fun i => (i.zero, i.size, i.bytes)) = some (some (.slice none 0 0), 1, 24) := by kernel_rfl
/-- append(long, x), x a []byte. -/
theorem wp_app1V {ops : Array Oper} {rest : List Oper} {o : Oper} {a : Act} {Q : Exit → Act → World → Prop} {w : World} (A : Option Addr) (m c : Nat) (hgd : o.guard = none) (s0 x0 : Operand)
    (ho : o.op = .call { callee := .builtin .append, args := #[s0, x0], argTypes := #[40, 40] }) {B : Nat} {v : Value} {n : Nat} {xs : List Value} (hs : a.eval s0 = v) (hown : Own w B 1 v n xs)
    (hx : a.eval x0 = .slice (some ⟨w.heap.size, 0, none⟩) 1 1) (hn : n ≤ 1000000) (hB : B ≤ w.heap.size)
    (h : ∀ v' w', Own w' B 1 v' (n + 1) (xs ++ [.slice A m c]) → Ext w w' v v' → wpList Tryd.prog ops Q rest (a.put o.dst v') w') :
    wpList Tryd.prog ops Q (o :: rest) a (w.alloc (.cells #[.slice A m c] 22)) :=
  wp_app1G #[.slice A m c] hgd s0 x0 _ ho B 22 _ 1 24 Tryd.underlying40 Tryd.infoV rfl (by omega) v _ _ hs hown hx rfl (by simp; rfl) (by unfold maxLen; omega) (by omega) hB h
/-- append(want, x), x a text. -/
theorem wp_app1U {ops : Array Oper} {rest : List Oper} {o : Oper} {a : Act} {Q : Exit → Act → World → Prop} {w : World} (u : List UInt8) (C : Array Value) (hC : C = #[strV u]) (hgd : o.guard = none) (s0 x0 : Operand)
    (ho : o.op = .call { callee := .builtin .append, args := #[s0, x0], argTypes := #[71, 71] }) {B : Nat} {v : Value} {l : List (List UInt8)} (hs : a.eval s0 = v) (hown : OwnT w B v l)
    (hx : a.eval x0 = .slice (some ⟨w.heap.size, 0, none⟩) 1 1) (hn : l.length ≤ 1000000) (hB : B ≤ w.heap.size)
    (h : ∀ v' w', OwnT w' B v' (l ++ [u]) → Ext w w' v v' → wpList Tryd.prog ops Q rest (a.put o.dst v') w') :
    wpList Tryd.prog ops Q (o :: rest) a (w.alloc (.cells C 9)) := by
  subst hC
  refine wp_app1G #[strV u] hgd s0 x0 _ ho B 9 _ 1 16 Tryd.underlying71 Tryd.infoS rfl (by omega) v _ _ hs hown hx rfl (t_one [u]) (by unfold maxLen; omega) (by omega) hB
    fun v' w' h1 h2 => h v' w' ?_ h2
  unfold OwnT
  rw [List.length_append, List.map_append]
  exact h1
theorem kind_val (k : Nat) : (((k : Int) + 1) % 256) = ((kindAt k).toNat : Int) := by
  simp [kindAt]

theorem ApS.start {w0 w1 : World} {T : Nat} {all : Value} {vs : List Value} {ls : List (List UInt8)} {sv : Value} {w : World} (hT : T = w.heap.size) (hw : w0.grownBy w none) (h : Apt w w0.heap.size all vs ls) (g : w.grownBy w1 none) (hs : OwnT w1 T sv ls) : ApS w0 T all vs ls sv (.slice none 0 0) (.slice none 0 0) [] 0 w1 := by
  subst hT
  exact
  { base := hw.size
    gr := gr_none hw g
    tl := g.size
    apt := h.of ⟨none, g, fun _ e => by cases e⟩
    old := fun i hi b e => (Own.blk_lt (h.own i hi (by have := h.len; omega)) (by omega) e).2
    oldA := fun b e h0 => by
      obtain ⟨_, A, c, g', off, rfl, hn, _, hA0, hA, hx⟩ := h.row
      have := hA (by omega)
      subst this
      cases e
      have hl := h.len
      have := hx 0 (by omega)
      rw [List.getElem?_eq_getElem (by omega)] at this
      exact World.block_lt_of_cell? w _ this
    said := hs
    elen := rfl
    eown := fun j hj => by simp at hj
    long := Own.nil _ _ _
    want := by simpa using OwnT.nil w1 _
    sLW := fun b e => by cases e
    sW := fun b e => by cases e
    sE := fun j hj => by simp at hj }

theorem ApS.text {w0 w w' : World} {T : Nat} {all : Value} {vs : List Value} {ls : List (List UInt8)} {u5 u4 v3 : Value} {es : List Value} {k gs offs cs : Nat} (h : ApS w0 T all vs ls (.slice (some ⟨gs, offs, none⟩) ls.length cs) u5 u4 es k w) (x3 : Ext w w' u4 v3) (hk : k < ls.length) :
    w'.cell? ⟨gs, offs + k, none⟩ = some (.string ⟨ls[k].toArray⟩) := by
  obtain ⟨r, g, hr, _⟩ := x3
  have h3 : OwnT w' T _ ls := Own.off h.said g fun b e e' => (h.sLW b (hr b e)).2.1 e'
  obtain ⟨gs', offs', hcs, hAs, hsx⟩ := h3.rd.at_
  cases hAs (by omega)
  exact hsx k hk

theorem ApS.end_long {w0 w : World} {T : Nat} {all : Value} {vs : List Value} {ls : List (List UInt8)} {sv u5 u4 : Value} {es : List Value} (h : ApS w0 T all vs ls sv u5 u4 es ls.length w) (hn : ls.length ≤ 1000) :
    ∀ wx, w.grownBy wx none → Calls Tryd.prog 40 #[u4] wx fun e w' => ∃ v', e = .returned v' ∧ OwnT w' wx.heap.size v' (made ls) ∧ wx.grownBy w' none := fun wx hx =>
  texts_any u4 es (made ls) wx (by rw [made_len]; exact (Own.ext h.long hx).rd) (fun i hi hj => (Own.ext (h.eown i hi hj) hx).rd) (by rw [made_len]; omega)
theorem Apt.end_all {w : World} {B : Nat} {all : Value} {vs : List Value} {ls : List (List UInt8)} (h : Apt w B all vs ls) (hn : ls.length ≤ 1000) :
    ∀ wx, w.grownBy wx none → Calls Tryd.prog 40 #[all] wx fun e w' => ∃ v', e = .returned v' ∧ OwnT w' wx.heap.size v' ls ∧ wx.grownBy w' none := fun wx hx =>
  texts_any all vs ls wx (h.row.ext hx) (fun i hi hj => (Own.ext (h.own i hi hj) hx).rd) (by omega)
/-- the state of the second loop: the first i lists are spoilt. -/
structure Ap2 (w0 : World) (T : Nat) (all : Value) (vs : List Value) (ls : List (List UInt8)) (sv : Value) (i : Nat) (w : World) : Prop where
  gr : w0.grownBy w none
  row : Rd w 1 all ls.length vs
  said : OwnT w T sv ls
  own : ∀ j (hj : j < vs.length) (hl : j < ls.length), i ≤ j → OwnB w w0.heap.size vs[j] ls[j]
/-- what does not change in it. -/
structure ApC (w0 : World) (T : Nat) (all : Value) (vs : List Value) (ls : List (List UInt8)) (sv : Value) : Prop where
  len : vs.length = ls.length
  base : w0.heap.size ≤ T
  sep : ∀ i j (hi : i < vs.length) (hj : j < vs.length), i ≠ j → ∀ k, blk vs[i] = some k → blk vs[j] ≠ some k
  far : ∀ i (hi : i < vs.length) k, blk vs[i] = some k → all.ownBlock ≠ some k
  old : ∀ i (hi : i < vs.length) b, blk vs[i] = some b → w0.heap.size ≤ b ∧ b < T
section
variable {w0 w w' : World} {T : Nat} {all : Value} {vs : List Value} {ls : List (List UInt8)} {sv : Value} {i : Nat}
theorem ApS.two {u5 u4 : Value} {es : List Value} {k : Nat} (h : ApS w0 T all vs ls sv u5 u4 es k w) : ApC w0 T all vs ls sv ∧ Ap2 w0 T all vs ls sv 0 w :=
  ⟨⟨h.apt.len, h.base, h.apt.sep, h.apt.far, fun i hi b e => ⟨(Own.blk_lt (h.apt.own i hi (by have := h.apt.len; omega)) (by omega) e).1, h.old i hi b e⟩⟩, ⟨h.gr, h.apt.row, h.said, fun j hj hl _ => h.apt.own j hj hl⟩⟩
theorem Ap2.ext (h : Ap2 w0 T all vs ls sv i w) (hg : w.grownBy w' none) : Ap2 w0 T all vs ls sv i w' :=
  ⟨gr_none h.gr hg, h.row.ext hg, Own.ext h.said hg, fun j hj hl hi => Own.ext (h.own j hj hl hi) hg⟩
theorem Ap2.next (h : Ap2 w0 T all vs ls sv i w) : Ap2 w0 T all vs ls sv (i + 1) w := ⟨h.gr, h.row, h.said, fun j hj hl hi => h.own j hj hl (by omega)⟩
/-- a byte of the list at i is spoilt. -/
theorem Ap2.set (hc : ApC w0 T all vs ls sv) (h : Ap2 w0 T all vs ls sv (i + 1) w) (hi : i < vs.length) {p : Addr} {u : Value} (hp : blk vs[i] = some p.block) : Ap2 w0 T all vs ls sv (i + 1) (w.setCell p u) := by
  have g := gr_setCell w p u
  have hb := hc.old i hi _ hp
  refine ⟨gr_trans h.gr g (.inr fun b e => by cases e; exact hb.1), h.row.gr g fun b e => by cases e; exact hc.far i hi _ hp, Own.off h.said g fun b e e' => ?_, fun j hj hl hij => Own.off (h.own j hj hl hij) g fun b e => by cases e; exact hc.sep i j hi hj (by omega) _ hp⟩
  cases e
  have := (Own.blk_lt h.said (by omega) e').1
  omega
theorem Ap2.cut_all {A : Option Addr} {c : Nat} (hc : vs.length = ls.length) (h : Ap2 w0 T (.slice A ls.length c) vs ls sv (i + 1) w) (hi : i < ls.length) (hn : ls.length ≤ 1000) :
    Calls Tryd.prog 40 #[.slice (cutA A c (i + 1) 1) (ls.length - (i + 1)) (c - (i + 1))] w fun e w' => ∃ v', e = .returned v' ∧ OwnT w' w.heap.size v' (ls.drop (i + 1)) ∧ w.grownBy w' none := by
  have h1 := h.row.cut (i := i + 1) (j := ls.length) (by omega) (Nat.le_refl _)
  rw [Nat.mul_one, Nat.mul_one, List.take_of_length_le (by omega)] at h1
  refine texts_any _ (vs.drop (i + 1)) (ls.drop (i + 1)) w (by rw [List.length_drop]; exact h1) (fun j hj hl => ?_) (by rw [List.length_drop]; omega)
  rw [List.getElem_drop, List.getElem_drop]
  rw [List.length_drop] at hj hl
  exact (h.own (i + 1 + j) (by omega) (by omega) (by omega)).rd
theorem Ap2.cut_said {A : Option Addr} {c j : Nat} (h : Ap2 w0 T all vs ls (.slice A ls.length c) j w) (hi : i < ls.length) :
    RdT w (.slice (cutA A c (i + 1) 1) (ls.length - (i + 1)) (c - (i + 1))) (ls.drop (i + 1)) := by
  have h1 := (OwnT.rd h.said).cut (i := i + 1) (j := ls.length) (by omega) (Nat.le_refl _)
  rw [Nat.mul_one, Nat.mul_one, List.take_of_length_le (by simp), ← List.map_drop] at h1
  unfold RdT
  rw [List.length_drop]
  exact h1
end

set_option maxHeartbeats 4000000 in
theorem apart_any (all : Value) (vs : List Value) (ls : List (List UInt8)) (w0 w : World) (hw : w0.grownBy w none) (h : Apt w w0.heap.size all vs ls) (hn : ls.length ≤ 1000) (hls : ∀ i (hi : i < ls.length), ls[i].length ≤ 1000000) :
    Calls Tryd.prog 24 #[all] w fun e w' => e = .returned (.bool true) ∧ w0.grownBy w' none := by
  have hlen := h.len
  have Ht := Lib.hid (texts_any all vs ls w h.row (fun i hi hj => (h.own i hi hj).rd) (by omega))
  obtain ⟨A, c, ea⟩ : ∃ A c, all = .slice A ls.length c := by obtain ⟨_, A, c, _, _, e, _⟩ := h.row; exact ⟨A, c, e⟩
  subst ea
  have HW := Lib.hid hw
  have H0 := Lib.hid h
  have Hls := Lib.hid hls
  clear h hw hls
  go_enter Tryd.func24, Tryd.ntmps24
  go_wp2_with fail
  refine Ht.out.mono ?_
  rintro e w1 ⟨sv, rfl, o1, g1⟩
  have S1 := Lib.hid (ApS.start rfl HW.out H0.out g1 o1)
  obtain ⟨T, hT⟩ : ∃ T, T = w.heap.size := ⟨_, rfl⟩
  rw [← hT] at S1
  obtain ⟨As, cs, rfl⟩ := o1.rd.form
  have HT := Lib.hid hT
  clear hT o1 g1
  go_wp2_with fail
  go_loopw [4, 5, 6] (fun u4 u5 i wr => ∃ (k : Nat) (es : List Value), k ≤ ls.length ∧ i = .int .i64 k ∧ ApS w0 T (.slice A ls.length c) vs ls (.slice As ls.length cs) u5 u4 es k wr) (fun _ _ i _ => ls.length - (intOf i).toNat)
  case atStart => exact ⟨0, [], by omega, rfl, S1.out⟩
  case round =>
    obtain ⟨k, es, hk, rfl, hS⟩ := hrel
    by_cases hlt : k < ls.length
    · have hv : k < vs.length := by omega
      have hm : k < (made ls).length := by rw [made_len]; exact hlt
      obtain ⟨_, A', c', g, off, e, hnc, _, _, hA, hx⟩ := hS.apt.row
      cases e
      obtain rfl := hA (by omega)
      have hcell := hx k (by omega)
      rw [List.getElem?_eq_getElem hv] at hcell
      obtain ⟨Av, cv, ev⟩ := (hS.apt.own k hv hlt).rd.form
      rw [ev] at hcell
      have hkv := kind_val k
      have hB : w0.heap.size ≤ _ := Nat.le_trans hS.base hS.tl
      have Hl := Lib.hid (longer_any (kindAt k) _ rfl Av cv ls[k] w0.heap.size _ hB (by rw [← ev]; exact hS.apt.own k hv hlt) (by have := Hls.out k hlt; omega))
      obtain ⟨gs, offs, hcs, hAs, _⟩ := hS.said.rd.at_
      obtain rfl := hAs (by omega)
      have hT := hS.tl
      have hS4 := hS.long
      have hS5 := hS.want
      have hes : k ≤ 1000000 := by omega
      have Hev := Lib.hid ev
      have HS := Lib.hid hS
      clear hS hx hA ev
      go_wp2_with fail
      refine Hl.out.mono ?_
      rintro e w2 ⟨a1, rfl, l1⟩
      have X1 := ext_of_lg l1 (by simp)
      have S2 := HS.out.first hlt hv (by rw [Hev.out]; exact X1) (by rw [Hev.out]; exact l1.2.1)
      obtain ⟨A1, c1, rfl⟩ := l1.1.rd.form
      have L1 := Lib.hid l1
      have hl4 := S2.long
      have ht2 := S2.tl
      have HX1 := Lib.hid X1
      have HS2 := Lib.hid S2
      clear l1 X1 S2
      have hmax : ls[k].length ≤ maxLen := by have := Hls.out k hlt; unfold maxLen; omega
      have hlenb : ls[k].length ≤ 1000000000 := by have := Hls.out k hlt; omega
      go_wp2_with (first
        | (at_builtin; refine wp_app1V A1 _ c1 rfl (.tmp 18) (.tmp 27) rfl rfl hl4 rfl hes ht2 ?_; intro v3 w3 h3 x3; have hcell3 := HS2.out.text x3 hlt)
        | (refine wp_bytes rfl (.tmp 33) rfl ls[k] rfl hmax ?_; rintro v4 w4 h4 g4 ⟨c4, rfl⟩))
      have hwd3 : OwnT w3 T u5 ((made ls).take k) := by
        obtain ⟨r, g, hr, _⟩ := x3
        exact Own.off HS2.out.want g fun b e e' => (HS2.out.sLW b (hr b e)).1 e'
      have ht3 : T ≤ w3.heap.size := by
        obtain ⟨r, g, hr, _⟩ := x3
        exact Nat.le_trans ht2 g.size
      have X3 := Lib.hid x3
      have H3 := Lib.hid h3
      have Hwd := Lib.hid hwd3
      clear x3 h3 hwd3 hl4
      refine (longer_any (kindAt k) _ rfl _ c4 ls[k] w3.heap.size w4 g4.size h4 hlenb).mono ?_
      rintro e w5 ⟨a5, rfl, l5⟩
      have hs5 := run_str l5.1.rd
      have g35 : w3.grownBy w5 none := by
        obtain ⟨r, g5, hr5⟩ := l5.2.2.1
        refine gr_trans g4 g5 (.inr fun b e => ?_)
        obtain ⟨a, e1, _, e2⟩ := hr5 b e
        cases e1
        subst e2
        exact Nat.le_refl _
      have hw5 : OwnT w5 T u5 ((made ls).take k) := Own.ext Hwd.out g35
      have hT5 : T ≤ w5.heap.size := Nat.le_trans ht3 g35.size
      have hlenT : ((made ls).take k).length ≤ 1000000 := by rw [List.length_take]; omega
      have G35 := Lib.hid g35
      clear l5 h4 g4 g35
      go_wp2_with (at_builtin; refine wp_app1U (ls[k] ++ List.replicate 40 (kindAt k)) _ rfl rfl (.tmp 29) (.tmp 40) rfl rfl hw5 rfl hlenT hT5 ?_; intro v6 w6 h6 x6)
      have hmk := made_at ls hlt hm
      go_roundw
      case rel =>
        refine ⟨k + 1, es ++ [_], by omega, by go_num, HS.out.round hlt hv hm (by rw [Hev.out]; exact HX1.out) (by rw [hmk]; exact L1.out.1) (by rw [Hev.out]; exact L1.out.2.1) X3.out ?_ G35.out x6 (by rw [List.take_succ_eq_append_getElem hm, hmk]; exact h6)⟩
        rw [show (ls[k] ++ List.replicate 40 (kindAt k)).length = ls[k].length + 40 from by simp]
        exact H3.out
      case measure => simp [intOf]; omega
    · obtain rfl : k = ls.length := by omega
      have Hlong := Lib.hid (hS.end_long hn)
      have Hall := Lib.hid (hS.apt.end_all hn)
      have Hsd := Lib.hid hS.said.rd
      have Hwt : Hid (∀ wx, _ → RdT wx u5 (made ls)) := fun wx (hx : World.grownBy _ wx none) => by
        have := hS.want
        rw [List.take_of_length_le (by rw [made_len]; exact Nat.le_refl _)] at this
        exact this.rd.ext hx
      obtain ⟨hc2, h2⟩ := hS.two
      have HC := Lib.hid hc2
      have H2 := Lib.hid h2
      clear hS hc2 h2 hlt
      have hml : (made ls).length ≤ 1000000 := by rw [made_len]; omega
      go_wp2_with fail
      refine (Hall.out _ (gr_refl _ _)).mono ?_
      rintro e w2 ⟨v2, rfl, o2, g2⟩
      have O2 := Lib.hid o2
      have G2 := Lib.hid g2
      clear o2 g2
      go_wp2_with fail
      refine (eqTexts_true _ _ ls _ O2.out.rd (Hsd.out.ext G2.out) (by omega)).mono ?_
      rintro e w3 ⟨rfl, g3⟩
      have G3 := Lib.hid (gr_none G2.out g3)
      clear g3
      go_wp2_with fail
      refine (Hlong.out _ G3.out).mono ?_
      rintro e w4 ⟨v4, rfl, o4, g4⟩
      have O4 := Lib.hid o4
      have G4 := Lib.hid (gr_none G3.out g4)
      clear o4 g4
      go_wp2_with fail
      refine (eqTexts_true _ _ (made ls) _ O4.out.rd (Hwt.out _ G4.out) hml).mono ?_
      rintro e w5 ⟨rfl, g5⟩
      have G5 := Lib.hid (gr_none G4.out g5)
      clear g5
      go_wp2_with fail
      have H25 := Lib.hid (H2.out.ext G5.out)
      go_loopw [7] (fun i wr => ∃ k : Nat, k ≤ ls.length ∧ i = .int .i64 k ∧ Ap2 w0 T (.slice A ls.length c) vs ls (.slice As ls.length cs) k wr) (fun i _ => ls.length - (intOf i).toNat)
      case atStart => exact ⟨0, by omega, rfl, H25.out⟩
      case round =>
        obtain ⟨k, hk, rfl, h2⟩ := hrel
        by_cases hlt : k < ls.length
        · have hv : k < vs.length := by omega
          obtain ⟨_, A', c', g, off, e, hnc, _, _, hA, hx⟩ := h2.row
          cases e
          obtain rfl := hA (by omega)
          have hcell := hx k (by omega)
          rw [List.getElem?_eq_getElem hv] at hcell
          have hcur := h2.own k hv hlt (Nat.le_refl _)
          obtain ⟨Av, cv, ev⟩ := hcur.rd.form
          rw [ev] at hcell hcur
          obtain ⟨n, hn0⟩ : ∃ n, n = ls[k].length := ⟨_, rfl⟩
          rw [← hn0] at hcell hcur ev
          have hnb : n ≤ 1000000 := by rw [hn0]; exact Hls.out k hlt
          have Hev := Lib.hid ev
          have Hcur := Lib.hid hcur
          have Hn := Lib.hid h2.next
          have HN0 := Lib.hid hn0
          clear ev hcur h2 hx hA hn0
          go_wp2_with fail
          go_loopw [9] (fun i wx => ∃ (m : Nat) (b : List UInt8), m ≤ n ∧ i = .int .i64 m ∧ n = b.length ∧ OwnB wx w0.heap.size (.slice Av n cv) b ∧ Ap2 w0 T (.slice (some ⟨g, off, none⟩) ls.length c) vs ls (.slice As ls.length cs) (k + 1) wx) (fun i _ => n - (intOf i).toNat)
          case atStart => exact ⟨0, ls[k], by omega, rfl, HN0.out, Hcur.out, Hn.out⟩
          case round =>
            obtain ⟨m, b, hm, rfl, hnb2, hown, hap⟩ := hrel
            by_cases hmt : m < n
            · obtain ⟨g', off', rfl, hB', _, hnc', hcl, hfr, hset⟩ := hown.at_ (k := m) (by omega)
              have hval : (255 - (b[m].toNat : Int)) = ((UInt8.ofNat (255 - b[m].toNat)).toNat : Int) := by
                have := b[m].toNat_lt
                simp
                omega
              have hb := b[m].toNat_lt
              have Hset := Lib.hid (hset (UInt8.ofNat (255 - b[m].toNat)))
              have hbk : blk vs[k] = some g' := by rw [Hev.out]; exact if_neg (by omega)
              have Hap := Lib.hid (Ap2.set HC.out hap hv (p := ⟨g', off' + m, none⟩) (u := .int .u8 (UInt8.ofNat (255 - b[m].toNat)).toNat) hbk)
              have Hbl := Lib.hid hnb2
              generalize b[m].toNat = bm at *
              generalize (UInt8.ofNat (255 - bm)).toNat = um at *
              clear hset hap hown hbk hnb2
              go_wp2
              go_roundw
              case rel => exact ⟨m + 1, _, by omega, by go_num, by rw [List.length_set]; exact Hbl.out, Hset.out, Hap.out⟩
              case measure => simp [intOf]; omega
            · have Hap := Lib.hid hap
              have Hcut := Lib.hid (fun wx (hx : World.grownBy _ wx none) => (hap.ext hx).cut_all HC.out.len hlt hn)
              have Hcs := Lib.hid (hap.cut_said hlt)
              clear hap hown hnb2
              have hdl : (ls.drop (k + 1)).length ≤ 1000000 := by rw [List.length_drop]; omega
              have keq := fun (w1 : World) (v : Value) (hv : RdT w1 v (ls.drop (k + 1))) (hg : World.grownBy _ w1 none) => eqTexts_true v _ (ls.drop (k + 1)) w1 hv (Hcs.out.ext hg) hdl
              have Keq := Lib.hid keq
              clear keq
              have hwr : IntKind.i64.wrap ((k : Int) + 1) = (k : Int) + 1 := by rw [IntWalk.i64_in _ (by omega)]
              have hk1 : ((k : Int) + 1).toNat = k + 1 := by omega
              have hk2 : (0 : Int) ≤ (k : Int) + 1 := by omega
              have hk3 : (k : Int) + 1 ≤ (ls.length : Int) := by omega
              go_wp2_with fail
              go_region_law (go_simp; first
                | (go_at_call 40; refine (Hcut.out _ (gr_drew _ _)).mono ?_; rintro e w2 ⟨v2, rfl, o2, g2⟩)
                | (go_at_call 42; refine (Keq.out _ _ o2.rd (gr_none (gr_drew _ none) g2)).mono ?_; rintro e w3 ⟨rfl, g3⟩))
              go_wp2
              go_roundw
              case rel => exact ⟨k + 1, by omega, by go_num, Hap.out.ext (gr_none (gr_none (gr_drew _ none) g2) g3)⟩
              case measure => simp [intOf]; omega
        · have Hgr := Lib.hid h2.gr
          clear h2
          go_wp2
          go_ret
          exact ⟨rfl, Hgr.out⟩
end Go.Proofs.YtikgobndekgjcaaDoor

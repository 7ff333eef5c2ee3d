/-
  The document's journal: Add, Back, Recs.
-/
import Derived.Test.YtipankjajdpiiaaGreatRj
import Derived.Test.YtipankjajdpiiaaGreatCut
namespace Go.Proofs.YtipankjajdpiiaaGreat
open Go.RowKit Go.Maps
set_option maxRecDepth 100000
set_option maxHeartbeats 400000

def RD.jadd (S : RD) (l : List Rc) (r : Rc) : RD × List Rc × Nat :=
  if r.k = 0 then (S, l, 1) else if 65536 ≤ l.length then (S, l, 9) else
  if (S.write jn ((64 * l.length : Nat) : Int) (secB (l.length + 1) r)).2 = 0 then
    (if ((S.write jn ((64 * l.length : Nat) : Int) (secB (l.length + 1) r)).1.sync jn).2 = 0 then (((S.write jn ((64 * l.length : Nat) : Int) (secB (l.length + 1) r)).1.sync jn).1, l ++ [r], 0)
      else (((S.write jn ((64 * l.length : Nat) : Int) (secB (l.length + 1) r)).1.sync jn).1, l, ((S.write jn ((64 * l.length : Nat) : Int) (secB (l.length + 1) r)).1.sync jn).2))
  else ((S.write jn ((64 * l.length : Nat) : Int) (secB (l.length + 1) r)).1, l, (S.write jn ((64 * l.length : Nat) : Int) (secB (l.length + 1) r)).2)
def RD.jback (S : RD) (l : List Rc) (n : Int) : RD × List Rc × Nat :=
  if n < 0 ∨ (l.length : Int) < n then (S, l, 1) else
  if (S.cut jn (64 * n)).2 = 0 then
    (if ((S.cut jn (64 * n)).1.sync jn).2 = 0 then (((S.cut jn (64 * n)).1.sync jn).1, l.take n.toNat, 0) else (((S.cut jn (64 * n)).1.sync jn).1, l, ((S.cut jn (64 * n)).1.sync jn).2))
  else ((S.cut jn (64 * n)).1, l, (S.cut jn (64 * n)).2)
/-- append(v, x...) of records, in a drawn region. -/
theorem step_appR1 {ops : Array Oper} {q : Oper} {a : Act} {w : World} {K : Act → World → Prop} {Q : Exit → Act → World → Prop} {E : Prop} (hg : q.guard = none) (s0 x0 : Operand) (ho : q.op = .call { callee := .builtin .append, args := #[s0, x0], argTypes := #[46, 46] })
    {B : Nat} {v x : Value} {l m : List Rc} (hs : a.eval s0 = v) (hown : OwnR w B v l) (hx : a.eval x0 = x) (hr : RdR w x m) (hn : l.length + m.length ≤ 1000000000) (hB : B ≤ w.heap.size)
    (hK : ∀ v' w', OwnR w' B v' (l ++ m) → w.grownBy w' v.ownBlock → K (a.put q.dst v') w') : if Region.wanted q (yielded ops a.tmps) = true then Oper.wp Tryz.prog q a w K Q else E := by
  have hw : Region.wanted q (yielded ops a.tmps) = true := by simp [Region.wanted, hg]
  rw [if_pos hw]
  obtain ⟨v', w', hrun, h2, h3, h4⟩ := run_app (P := Tryz.prog) w B 46 q.type 38 _ 3 12 Tryz.underlying46 Tryz.infoR rfl (by omega) v _ _ hown x _ _ hr (rc_one m) (by unfold maxLen; omega) (by omega) hB
  unfold Oper.wp execOp
  simp only [ho, resolve, invoke, builtin, Sem.run_bind, Sem.run_pure, Result.andThen_ok, List.map_toArray, List.map_cons, List.map_nil, hs, hx, hrun]
  exact hK _ _ (ownR_app h2) h3
theorem own_atR0 (w : World) (B : Nat) (hB : B ≤ w.heap.size) : OwnR (w.alloc (.cells #[] 38)).drew B (.slice (some ⟨w.heap.size, 0, none⟩) 0 0) [] := OwnR.ext (own_emptyR w B hB) (gr_drew _ none)
theorem radd_nil (k a b : UInt32) (w : World) : Calls Tryz.prog 32 #[.pointer none, .agg #[.int .u32 k.toNat, .int .u32 a.toNat, .int .u32 b.toNat]] w fun e w' => e = .returned (.int .i64 2) ∧ w.grownBy w' none := by
  go_enter Tryz.func32, Tryz.ntmps32
  go_wp2
  go_ret
  exact ⟨rfl, gr_alloc _ _ _⟩
theorem rback_nil (n : Int) (w : World) : Calls Tryz.prog 33 #[.pointer none, .int .i64 n] w fun e w' => e = .returned (.int .i64 2) ∧ w = w' := by
  go_enter Tryz.func33, Tryz.ntmps33
  go_wp2
  go_ret
  exact ⟨rfl, rfl⟩
theorem rrecs_nil (w : World) : Calls Tryz.prog 13 #[.pointer none] w fun e w' => e = .returned (.slice none 0 0) ∧ w = w' := by
  go_enter Tryz.func13, Tryz.ntmps13
  go_wp2
  go_ret
  exact ⟨rfl, rfl⟩
section
variable {w0 w w' : World} {B r jb : Nat} {o o' O O' : Own1} {S R : RD} {v : Value} {l : List Rc}
theorem rrecs_any (h : RJR w B O jb r v l) (hl : l.length ≤ 1000000000) : Calls Tryz.prog 13 #[.pointer (some ⟨jb, 0, none⟩)] w fun e w' => (∃ v', e = .returned v' ∧ OwnR w' w.heap.size v' l) ∧ w.grownBy w' none := by
  obtain ⟨A, cv, rfl⟩ := h.own.rd.form
  have HR := Lib.hid h.own.rd
  have HB := Lib.hid h.box
  have c1 : (w.alloc (.cells #[] 38)).cell? ⟨jb, 1, none⟩ = some (.slice A l.length cv) := (h.box.ext (gr_alloc _ _ none)).cell 1
  clear h
  obtain ⟨n, hn⟩ : ∃ n, n = l.length := ⟨_, rfl⟩
  rw [← hn] at c1 HR hl
  have HN := Lib.hid hn
  clear hn
  go_enter Tryz.func13, Tryz.ntmps13
  go_wp2_with (at_builtin; refine wp_appR (l := []) (m := l) rfl (.tmp 5) (.tmp 9) rfl rfl (own_emptyR w w.heap.size (Nat.le_refl _)) rfl (HR.out.ext (gr_alloc _ _ none)) (by rw [← HN.out]; show 0 + n ≤ _; omega) (by rw [World.size_alloc]; omega) ?_; rintro v5 w5 o5 g5 -; obtain ⟨A5, c5, ev5⟩ := OwnR.rd o5 |>.form; rw [List.nil_append, ← HN.out] at ev5; subst ev5; rw [List.nil_append] at o5; have G5 : Hid (w.grownBy w5 none) := gr_trans (gr_alloc _ _ none) g5 (.inr fun q e => by cases e; exact Nat.le_refl _); have O5 := Lib.hid o5; clear o5 g5)
  go_ret
  exact ⟨⟨_, rfl, O5.out⟩, G5.out⟩
def RJAddOut (w0 : World) (O : Own1) (w : World) (B r jb : Nat) (v : Value) (X : RD × List Rc × Nat) (e : Ending) (w' : World) : Prop :=
  ∃ v' O', e = .returned (.int .i64 X.2.2) ∧ RS w0 w' r O' X.1 ∧ RJR w' B O' jb r v' X.2.1 ∧ Ch (jo O jb v) w (jo O' jb v') w'
theorem RS.off (h : RS w0 w r O R) {k : Nat} {v : Value} (hk : O k = none) (hB : w0.heap.size ≤ k) : RS w0 (w.setCell ⟨k, 1, none⟩ v) r O R := by
  refine (h.keep (O1 := fun i => if i = k then some (9, []) else none) (O1' := fun i => if i = k then some (9, []) else none) ?_ ?_ ?_).1
  · exact Ch.of_gr (gr_setCell w ⟨k, 1, none⟩ v) fun b e => by cases e; rw [if_pos rfl]; simp
  · exact Dsj.mk fun i hi => by
      rw [if_neg]
      intro e; subst e; exact hi hk
  · exact gr_trans h.gr (gr_setCell w ⟨k, 1, none⟩ v) (.inr fun b e => by cases e; exact hB)
/-- a journal's list is another one, in new memory. -/
theorem RJR.relist (h : RS w0 w r O R) (hj : RJR w B O jb r v l) (hB : w0.heap.size ≤ B) {w3 : World} (g : w.grownBy w3 none) {v3 : Value} {l3 : List Rc} (o3 : OwnR w3 w.heap.size v3 l3) (hBw : B ≤ w.heap.size) :
    RS w0 (w3.setCell ⟨jb, 1, none⟩ v3) r O R ∧ RJR (w3.setCell ⟨jb, 1, none⟩ v3) B O jb r v3 l3 ∧ Ch (jo O jb v) w (jo O jb v3) (w3.setCell ⟨jb, 1, none⟩ v3) := by
  have hbk : ∀ k, blk v3 = some k → w.heap.size ≤ k := fun k hk => (Own.blk_lt o3 (by omega) hk).1
  have hjb := hj.box.lt
  refine ⟨(h.ext g).off hj.free.1 (Nat.le_trans hB hj.jB), ⟨(hj.box.ext g).set 1 _, ?_, ⟨hj.free.1, fun k hk => h.fresh (hbk k hk)⟩, hj.jB, fun k hk e => by have := hbk k hk; omega⟩, ?_⟩
  · exact Own.mono (Own.same o3 fun k hk => heap_far _ _ _ (by have := hbk k hk; simp; omega)) hBw
  · have hc := (Ch.ext (o := jo O jb v) g).trans (Ch.of_gr (gr_setCell w3 ⟨jb, 1, none⟩ v3) fun j e => by cases e; unfold jo; rw [if_pos (.inl rfl)]; simp)
    refine ⟨hc.os, hc.tape, hc.output, hc.size, hc.block, fun i hi h0 => ?_⟩
    obtain ⟨n1, n2, n3⟩ := jo_none h0
    exact jo_none_mk n1 (fun e => by have := hbk i e; omega) n3
set_option maxHeartbeats 4000000 in
theorem rjback_gen (h : RS w0 w r O S) (hup : Up S) (hj : RJR w B O jb r v l) (hB : w0.heap.size ≤ B) (hBw : B ≤ w.heap.size) (n : Int) (hn : -9223372036854775808 ≤ n ∧ n ≤ 9223372036854775807) (hl : l.length ≤ 65536) :
    Calls Tryz.prog 33 #[.pointer (some ⟨jb, 0, none⟩), .int .i64 n] w (RJAddOut w0 O w B r jb v (S.jback l n)) := by
  obtain ⟨A, cv, rfl⟩ := hj.own.rd.form
  have hc0 : w.cell? ⟨jb, 0, none⟩ = some (.pointer (some ⟨r, 0, none⟩)) := hj.box.cell 0
  have hc1 : w.cell? ⟨jb, 1, none⟩ = some (.slice A l.length cv) := hj.box.cell 1
  by_cases hb : n < 0 ∨ (l.length : Int) < n
  · have e : S.jback l n = (S, l, 1) := if_pos hb
    rw [e]
    have H := Lib.hid h
    have HJ := Lib.hid hj
    clear h hj e
    by_cases h0 : n < 0
    · clear hb
      go_enter Tryz.func33, Tryz.ntmps33
      go_wp2
      go_ret
      exact ⟨_, O, rfl, H.out, HJ.out, Ch.refl _ _⟩
    · have h1 : decide (n < 0) = false := by simpa using h0
      have h2 : (l.length : Int) < n := by omega
      clear hb h0
      go_enter Tryz.func33, Tryz.ntmps33
      go_wp2
      go_ret
      exact ⟨_, O, rfl, H.out, HJ.out, Ch.refl _ _⟩
  obtain ⟨k, rfl⟩ := Int.eq_ofNat_of_zero_le (show 0 ≤ n by omega)
  have hX : S.jback l (k : Int) = if (S.cut jn (64 * (k : Int))).2 = 0 then
    (if ((S.cut jn (64 * (k : Int))).1.sync jn).2 = 0 then (((S.cut jn (64 * (k : Int))).1.sync jn).1, l.take (k : Int).toNat, 0) else (((S.cut jn (64 * (k : Int))).1.sync jn).1, l, ((S.cut jn (64 * (k : Int))).1.sync jn).2))
    else ((S.cut jn (64 * (k : Int))).1, l, (S.cut jn (64 * (k : Int))).2) := if_neg hb
  have hcu := rcut_any h hup.nodup jn (by simp) (64 * (k : Int)) (by omega)
  have hu1 := hup.cut jn (64 * (k : Int))
  obtain ⟨S1, hS1⟩ : ∃ S1, S1 = (S.cut jn (64 * (k : Int))).1 := ⟨_, rfl⟩
  obtain ⟨e1, he1⟩ : ∃ e1, e1 = (S.cut jn (64 * (k : Int))).2 := ⟨_, rfl⟩
  rw [← hS1, ← he1] at hX hcu
  rw [← hS1] at hu1
  obtain ⟨S2, hS2⟩ : ∃ S2, S2 = (S1.sync jn).1 := ⟨_, rfl⟩
  obtain ⟨e2, he2⟩ : ∃ e2, e2 = (S1.sync jn).2 := ⟨_, rfl⟩
  rw [← hS2, ← he2, Int.toNat_natCast] at hX
  have H := Lib.hid h
  have HJ := Lib.hid hj
  have HCU := Lib.hid hcu
  have HX := Lib.hid hX
  have HU := Lib.hid hu1
  have HE2 : Hid (S1.sync jn = (S2, e2)) := by show _ = _; rw [hS2, he2]
  have hn' : k ≤ l.length := by omega
  have hni : (k : Int) ≤ (l.length : Int) := by omega
  have d2 : decide (l.length < k) = false := by simpa using hn'
  have d3 : decide ((l.length : Int) < (k : Int)) = false := by simp; omega
  have hcap : (k : Int) ≤ (cv : Int) := by
    obtain ⟨_, _, _, _, _, e, hq, _⟩ := hj.own
    cases e; omega
  clear h hj hcu hS1 he1 hS2 he2 hX hb hn hup hu1
  go_enter Tryz.func33, Tryz.ntmps33
  go_wp2_with fail
  refine HCU.out.mono ?_
  rintro e w1 ⟨rfl, o1, h1, ch1⟩
  have hj1 := HJ.out.ch ch1
  have hb0 : w1.cell? ⟨jb, 0, none⟩ = some (.pointer (some ⟨r, 0, none⟩)) := hj1.box.cell 0
  have hs1 := rsync_any h1 HU.out.nodup jn (by simp)
  rw [HE2.out] at hs1
  have HS1 := Lib.hid hs1
  have HJ1 := Lib.hid hj1
  have H1 := Lib.hid h1
  have HC1 := Lib.hid ch1
  clear h1 ch1 hj1 hs1 HCU
  by_cases hz1 : e1 = 0
  · have hz1e : ((e1 : Int) == 0) = true := by rw [hz1]; rfl
    have HU1 : Hid ((if e2 = 0 then (S2, l.take k, 0) else (S2, l, e2)) = S.jback l (k : Int)) := by show _ = _; rw [HX.out, if_pos hz1]
    clear hz1
    go_wp2_with fail
    refine HS1.out.mono ?_
    rintro e w2 ⟨rfl, o2, h2, ch2⟩
    have hj2 := HJ1.out.ch ch2
    have HJ2 := Lib.hid hj2
    have H2 := Lib.hid h2
    have HC2 : Hid (Ch O w o2 w2) := HC1.out.trans ch2
    have HRD := Lib.hid (hj2.own.rd.takeF hn')
    have hlen3 : (l.take k).length = k := by rw [List.length_take]; omega
    have HL3 := Lib.hid hlen3
    have hb1 : w2.cell? ⟨jb, 1, none⟩ = some (.slice A l.length cv) := hj2.box.cell 1
    have hb2 : (w2.alloc (.cells #[] 38)).cell? ⟨jb, 1, none⟩ = some (.slice A l.length cv) := (hj2.box.ext (gr_alloc _ _ none)).cell 1
    clear h2 ch2 hj2 HS1 hlen3
    by_cases hz2 : e2 = 0
    · have hz2e : ((e2 : Int) == 0) = true := by rw [hz2]; rfl
      have HU2 : Hid ((S2, l.take k, 0) = S.jback l (k : Int)) := by show _ = _; rw [← HU1.out, if_pos hz2]
      have HFZ : Hid (∀ wx, w2.grownBy wx none → wx.cell? ⟨jb, 1, none⟩ = some (.slice A l.length cv) ∧ wx.frozen? ⟨jb, 1, none⟩ = false) := fun wx g => ⟨(HJ2.out.box.ext g).cell 1, (HJ2.out.box.ext g).frozen 1⟩
      clear hz2
      go_wp2_with (at_builtin; refine wp_appR (l := []) (m := l.take k) rfl (.tmp 38) (.tmp 44) rfl rfl (own_emptyR w2 w2.heap.size (Nat.le_refl _)) rfl (HRD.out.ext (gr_alloc _ _ none)) (by rw [HL3.out]; show 0 + k ≤ _; omega) (by rw [World.size_alloc]; omega) ?_; rintro v5 w5 o5 g5 -; obtain ⟨A5, c5, ev5⟩ := OwnR.rd o5 |>.form; rw [List.nil_append, HL3.out] at ev5; subst ev5; rw [List.nil_append] at o5; have G5 : Hid (w2.grownBy w5 none) := gr_trans (gr_alloc _ _ none) g5 (.inr fun q e => by cases e; exact Nat.le_refl _); obtain ⟨z1, z2⟩ := HFZ.out w5 G5.out; have O5 := Lib.hid o5; clear o5 g5)
      go_ret
      obtain ⟨k1, k2, k3⟩ := RJR.relist H2.out HJ2.out hB G5.out O5.out (Nat.le_trans hBw HC2.out.size)
      rw [← HU2.out]
      exact ⟨_, o2, rfl, k1, k2, HC2.out.jo.trans k3⟩
    · have hz2e : ((e2 : Int) == 0) = false := by rw [beq_eq_false_iff_ne]; omega
      have HU2 : Hid ((S2, l, e2) = S.jback l (k : Int)) := by show _ = _; rw [← HU1.out, if_neg hz2]
      clear hz2
      go_wp2_with fail
      go_ret
      rw [← HU2.out]
      exact ⟨_, o2, rfl, H2.out, HJ2.out, HC2.out.jo⟩
  · have hz1e : ((e1 : Int) == 0) = false := by rw [beq_eq_false_iff_ne]; omega
    have HU1 : Hid ((S1, l, e1) = S.jback l (k : Int)) := by show _ = _; rw [HX.out, if_neg hz1]
    clear hz1
    go_wp2_with fail
    go_ret
    rw [← HU1.out]
    exact ⟨_, o1, rfl, H1.out, HJ1.out, HC1.out.jo⟩
end
end Go.Proofs.YtipankjajdpiiaaGreat

/- The document's journal: Add. -/
namespace Go.Proofs.YtipankjajdpiiaaGreat
open Go.RowKit Go.Maps
set_option maxRecDepth 100000
set_option maxHeartbeats 400000

theorem own_form_len {w : World} {B : Nat} {v : Value} {b : List UInt8} (h : OwnB w B v b) : ∃ A c, v = .slice A b.length c := RdB.form (OwnB.rd h)
theorem step_appR2 {q : Oper} {a : Act} {w : World} {K : Act → World → Prop} {Q : Exit → Act → World → Prop} (s0 x0 : Operand) (ho : q.op = .call { callee := .builtin .append, args := #[s0, x0], argTypes := #[46, 46] })
    {B : Nat} {v x : Value} {l m : List Rc} (hs : a.eval s0 = v) (hown : OwnR w B v l) (hx : a.eval x0 = x) (hr : RdR w x m) (hn : l.length + m.length ≤ 1000000000) (hB : B ≤ w.heap.size)
    (hK : ∀ v' w', OwnR w' B v' (l ++ m) → w.grownBy w' v.ownBlock → K (a.put q.dst v') w') : q.wp Tryz.prog a w K Q := by
  obtain ⟨v', w', hrun, h2, h3, h4⟩ := run_app (P := Tryz.prog) w B 46 q.type 38 _ 3 12 Tryz.underlying46 Tryz.infoR rfl (by omega) v _ _ hown x _ _ hr (rc_one m) (by unfold maxLen; omega) (by omega) hB
  exact step_app1R s0 x0 ho hs hx hrun (hK _ _ (ownR_app h2) h3)
section
variable {w0 w w' : World} {B r jb : Nat} {o o' O O' : Own1} {S R : RD} {v : Value} {l : List Rc}
set_option maxHeartbeats 8000000 in
theorem rjadd_gen (h : RS w0 w r O S) (hup : Up S) (hj : RJR w B O jb r v l) (hB : w0.heap.size ≤ B) (hBw : B ≤ w.heap.size) (x : Rc) :
    Calls Tryz.prog 32 #[.pointer (some ⟨jb, 0, none⟩), .agg x.cells] w (RJAddOut w0 O w B r jb v (S.jadd l x)) := by
  by_cases hr : x.k = 0
  · have e : S.jadd l x = (S, l, 1) := if_pos hr
    rw [e]
    have hrk : (x.k.toNat : Int) = 0 := by rw [hr]; rfl
    have H := Lib.hid h
    have HJ := Lib.hid hj
    clear h hj hr e
    unfold Rc.cells
    rw [hrk]
    clear hrk
    go_enter Tryz.func32, Tryz.ntmps32
    go_wp2
    go_ret
    have g := gr_alloc w (.cells #[.int .u32 0, .int .u32 x.a.toNat, .int .u32 x.b.toNat] 38) none
    exact ⟨v, O, rfl, H.out.ext g, HJ.out.ch (Ch.ext g), Ch.ext g⟩
  obtain ⟨A, cv, rfl⟩ := hj.own.rd.form
  have hk0 : ((x.k.toNat : Int) == 0) = false := by
    rw [beq_eq_false_iff_ne]
    intro e
    exact hr (UInt32.toNat_inj.1 (by simpa using e))
  have hc0 : w.cell? ⟨jb, 0, none⟩ = some (.pointer (some ⟨r, 0, none⟩)) := hj.box.cell 0
  have hc1 : w.cell? ⟨jb, 1, none⟩ = some (.slice A l.length cv) := hj.box.cell 1
  have hjw : jb < w.heap.size := hj.box.lt
  by_cases hl : 65536 ≤ l.length
  · have e : S.jadd l x = (S, l, 9) := by unfold RD.jadd; rw [if_neg hr, if_pos hl]
    rw [e]
    have hge : decide ((65536 : Int) ≤ (l.length : Int)) = true := by simp only [decide_eq_true_eq]; omega
    have hge2 : decide (65536 ≤ l.length) = true := by simp only [decide_eq_true_eq]; exact hl
    have H := Lib.hid h
    have HJ := Lib.hid hj
    clear h hj hr e hl
    have g := gr_alloc w (.cells #[.int .u32 x.k.toNat, .int .u32 x.a.toNat, .int .u32 x.b.toNat] 38) none
    have HG := Lib.hid g
    clear g
    unfold Rc.cells
    go_enter Tryz.func32, Tryz.ntmps32
    go_wp2
    go_ret
    exact ⟨_, O, rfl, H.out.ext HG.out, HJ.out.ch (Ch.ext HG.out), Ch.ext HG.out⟩
  have hX : S.jadd l x = if (S.write jn ((64 * l.length : Nat) : Int) (secB (l.length + 1) x)).2 = 0 then
    (if ((S.write jn ((64 * l.length : Nat) : Int) (secB (l.length + 1) x)).1.sync jn).2 = 0 then (((S.write jn ((64 * l.length : Nat) : Int) (secB (l.length + 1) x)).1.sync jn).1, l ++ [x], 0)
      else (((S.write jn ((64 * l.length : Nat) : Int) (secB (l.length + 1) x)).1.sync jn).1, l, ((S.write jn ((64 * l.length : Nat) : Int) (secB (l.length + 1) x)).1.sync jn).2))
    else ((S.write jn ((64 * l.length : Nat) : Int) (secB (l.length + 1) x)).1, l, (S.write jn ((64 * l.length : Nat) : Int) (secB (l.length + 1) x)).2) := by
    unfold RD.jadd; rw [if_neg hr, if_neg hl]
  have hu1 := hup.write jn ((64 * l.length : Nat) : Int) (secB (l.length + 1) x)
  obtain ⟨S1, hS1⟩ : ∃ S1, S1 = (S.write jn ((64 * l.length : Nat) : Int) (secB (l.length + 1) x)).1 := ⟨_, rfl⟩
  obtain ⟨e1, he1⟩ : ∃ e1, e1 = (S.write jn ((64 * l.length : Nat) : Int) (secB (l.length + 1) x)).2 := ⟨_, rfl⟩
  rw [← hS1, ← he1] at hX
  rw [← hS1] at hu1
  have HWQ : Hid (S.write jn ((64 * l.length : Nat) : Int) (secB (l.length + 1) x) = (S1, e1)) := by show _ = _; rw [hS1, he1]
  have HBW := Lib.hid (Blk.new w 38 x.cells)
  have H := Lib.hid h
  have HJ := Lib.hid hj
  have HX := Lib.hid hX
  have HU1 := Lib.hid hu1
  have HUP := Lib.hid hup
  have HL : Hid (l.length < 65536) := by show _ < _; omega
  have hge : decide ((65536 : Int) ≤ (l.length : Int)) = false := by simp only [decide_eq_false_iff_not]; omega
  have hge2 : decide (65536 ≤ l.length) = false := by simp only [decide_eq_false_iff_not]; omega
  have hfree : ∀ k, w.heap.size ≤ k → O k = none := fun k hk => H.out.fresh hk
  have hlaid : Hid (∀ wx, Calls Tryz.prog 84 #[.int .i64 ((l.length : Int) + 1), .agg #[.int .u32 x.k.toNat, .int .u32 x.a.toNat, .int .u32 x.b.toNat]] wx fun e w' => (∃ v', e = .returned v' ∧ OwnB w' wx.heap.size v' (secB (l.length + 1) x)) ∧ wx.grownBy w' none) := fun wx => rlaid_any (l.length + 1) (by omega) ((l.length : Int) + 1) (by omega) x wx
  have hwr : Hid (∀ (wx : World) (v3 : Value) (N : Int), N = 64 * (l.length : Int) → w.grownBy wx none → OwnB wx w.heap.size v3 (secB (l.length + 1) x) → Calls Tryz.prog 36 #[.pointer (some ⟨r, 0, none⟩), .string ⟨jn.toArray⟩, .int .i64 N, v3] wx fun e w' =>
      e = .returned (.int .i64 e1) ∧ RSn w0 r O S1 wx w') := fun wx v3 N hN hx ho => by
    obtain ⟨A3, c3, e3⟩ := own_form_len ho
    subst e3
    have hw := rwrite_any (H.out.ext hx) HUP.out.nodup jn (by simp) ((64 * l.length : Nat) : Int) (by have := HL.out; omega) (fun O1 w1 hc => hc.rd ho.rd (fun k hk => ⟨(Own.blk_lt ho (by omega) hk).2, hfree k (Own.blk_lt ho (by omega) hk).1⟩)) (by rw [secB_len]; omega)
    rw [HWQ.out] at hw
    rw [hN, show 64 * (l.length : Int) = ((64 * l.length : Nat) : Int) from by omega]
    exact hw
  have hs1 : IntKind.i64.wrap ((l.length : Int) + 1) = (l.length : Int) + 1 := by rw [IntWalk.i64_in _ (by omega)]
  have hs3 : IntKind.i64.wrap (64 * (l.length : Int)) = 64 * (l.length : Int) := by rw [IntWalk.i64_in _ (by omega)]
  clear h hj hr hl hX hS1 he1 hup hu1
  unfold Rc.cells at HBW ⊢
  go_enter Tryz.func32, Tryz.ntmps32
  go_wp2_with fail
  go_region_held3 (fun w' => w'.cell? ⟨jb, 0, none⟩ = some (.pointer (some ⟨r, 0, none⟩)) ∧ w'.cell? ⟨jb, 1, none⟩ = some (.slice A l.length cv) ∧ w'.cell? ⟨w.heap.size, 0, none⟩ = some (.int .u32 x.k.toNat) ∧ w'.cell? ⟨w.heap.size, 1, none⟩ = some (.int .u32 x.a.toNat) ∧ w'.cell? ⟨w.heap.size, 2, none⟩ = some (.int .u32 x.b.toNat))
    (first | exact k4 | exact k3 | go_keep)
    (first
      | (go_at_call 84; refine (hlaid.out _).mono ?_; rintro e w3 ⟨⟨v3, rfl, o3⟩, g3⟩; have g3' : (w.alloc (.cells #[.int .u32 x.k.toNat, .int .u32 x.a.toNat, .int .u32 x.b.toNat] 38)).grownBy w3 none := gr_none (by first | exact gr_drew _ none | exact gr_refl _ _) g3; have g30 : w.grownBy w3 none := gr_none (gr_alloc _ _ none) g3'; have o30 : OwnB w3 w.heap.size v3 (secB (l.length + 1) x) := Own.mono o3 (by first | exact (gr_none (gr_alloc _ _ none) (gr_drew _ none)).size | exact (gr_alloc _ _ none).size); obtain ⟨A3, c3, rfl⟩ := own_form_len o3; have k3 : w3.cell? ⟨jb, 0, none⟩ = some (.pointer (some ⟨r, 0, none⟩)) ∧ w3.cell? ⟨jb, 1, none⟩ = some (.slice A l.length cv) ∧ w3.cell? ⟨w.heap.size, 0, none⟩ = some (.int .u32 x.k.toNat) ∧ w3.cell? ⟨w.heap.size, 1, none⟩ = some (.int .u32 x.a.toNat) ∧ w3.cell? ⟨w.heap.size, 2, none⟩ = some (.int .u32 x.b.toNat) := ⟨(HJ.out.box.ext g30).cell 0, (HJ.out.box.ext g30).cell 1, (HBW.out.ext g3').cell 0, (HBW.out.ext g3').cell 1, (HBW.out.ext g3').cell 2⟩)
      | (go_at_call 36; refine (hwr.out _ _ _ rfl g30 o30).mono ?_; rintro e w4 ⟨rfl, o4, h4, ch4⟩; have k4 : w4.cell? ⟨jb, 0, none⟩ = some (.pointer (some ⟨r, 0, none⟩)) ∧ w4.cell? ⟨jb, 1, none⟩ = some (.slice A l.length cv) ∧ w4.cell? ⟨w.heap.size, 0, none⟩ = some (.int .u32 x.k.toNat) ∧ w4.cell? ⟨w.heap.size, 1, none⟩ = some (.int .u32 x.a.toNat) ∧ w4.cell? ⟨w.heap.size, 2, none⟩ = some (.int .u32 x.b.toNat) := ⟨(ch4.blk (HJ.out.box.ext g30) HJ.out.free.1).cell 0, (ch4.blk (HJ.out.box.ext g30) HJ.out.free.1).cell 1, (ch4.blk (HBW.out.ext g3') (hfree _ (Nat.le_refl _))).cell 0, (ch4.blk (HBW.out.ext g3') (hfree _ (Nat.le_refl _))).cell 1, (ch4.blk (HBW.out.ext g3') (hfree _ (Nat.le_refl _))).cell 2⟩))
  have hsy := rsync_any h4 HU1.out.nodup jn (by simp)
  have hU : (if e1 = 0 then (if (S1.sync jn).2 = 0 then ((S1.sync jn).1, l ++ [x], 0) else ((S1.sync jn).1, l, (S1.sync jn).2)) else (S1, l, e1)) = S.jadd l x := by rw [HX.out]
  obtain ⟨S2, hS2⟩ : ∃ S2, S2 = (S1.sync jn).1 := ⟨_, rfl⟩
  obtain ⟨e2, he2⟩ : ∃ e2, e2 = (S1.sync jn).2 := ⟨_, rfl⟩
  rw [← hS2, ← he2] at hsy hU
  have HSY := Lib.hid hsy
  have HU := Lib.hid hU
  have HJ4 := Lib.hid ((HJ.out.ch (Ch.ext g30)).ch ch4)
  have HR4 := Lib.hid (ch4.blk (HBW.out.ext g3') (hfree _ (Nat.le_refl _)))
  have hrfree : Hid (o4 w.heap.size = none) := ch4.free _ (Nat.lt_of_lt_of_le (by rw [World.size_alloc]; omega) g3'.size) (hfree _ (Nat.le_refl _))
  have C4 : Hid (Ch O w o4 w4) := (Ch.ext g30).trans ch4
  have H4 := Lib.hid h4
  clear hsy h4 ch4 g3 g3' g30 o3 o30 k3 k4 hs1 hs3 hS2 he2 hU hge hge2
  by_cases hz1 : e1 = 0
  · have hz1e : ((e1 : Int) == 0) = true := by rw [hz1]; rfl
    have HU1 : Hid ((if e2 = 0 then (S2, l ++ [x], 0) else (S2, l, e2)) = S.jadd l x) := by show _ = _; rw [← HU.out, if_pos hz1]
    clear hz1
    have q0 : w4.cell? ⟨jb, 0, none⟩ = some (.pointer (some ⟨r, 0, none⟩)) := HJ4.out.box.cell 0
    go_wp2_with fail
    refine HSY.out.mono ?_
    rintro e w5 ⟨rfl, o5, h5, ch5⟩
    have H5 := Lib.hid h5
    have HJ5 := Lib.hid (HJ4.out.ch ch5)
    have HR5 := Lib.hid (ch5.blk HR4.out hrfree.out)
    have C5 : Hid (Ch O w o5 w5) := C4.out.trans ch5
    clear h5 ch5
    by_cases hz2 : e2 = 0
    · have hz2e : ((e2 : Int) == 0) = true := by rw [hz2]; rfl
      have HU2 : Hid ((S2, l ++ [x], 0) = S.jadd l x) := by show _ = _; rw [← HU1.out, if_pos hz2]
      clear hz2
      have HCELL : Hid (∀ wx, w5.grownBy wx none → (wx.cell? ⟨jb, 1, none⟩ = some (.slice A l.length cv) ∧ wx.cell? ⟨w.heap.size, 0, none⟩ = some (.int .u32 x.k.toNat) ∧ wx.cell? ⟨w.heap.size, 1, none⟩ = some (.int .u32 x.a.toNat) ∧ wx.cell? ⟨w.heap.size, 2, none⟩ = some (.int .u32 x.b.toNat)) ∧ wx.frozen? ⟨jb, 1, none⟩ = false) := fun wx g => ⟨⟨(HJ5.out.box.ext g).cell 1, (HR5.out.ext g).cell 0, (HR5.out.ext g).cell 1, (HR5.out.ext g).cell 2⟩, (HJ5.out.box.ext g).frozen 1⟩
      obtain ⟨y, y4⟩ := HCELL.out w5 (gr_refl _ _)
      obtain ⟨y0a, y1a, y2a, y3a⟩ := (HCELL.out _ (gr_alloc w5 (.cells #[] 38) none)).1
      obtain ⟨y0b, y1b, y2b, y3b⟩ := (HCELL.out _ (gr_none (gr_alloc w5 (.cells #[] 38) none) (gr_alloc (w5.alloc (.cells #[] 38)) (.cells #[.int .u32 x.k.toNat, .int .u32 x.a.toNat, .int .u32 x.b.toNat] 38) none))).1
      obtain ⟨y0, y1, y2, y3⟩ := y
      obtain ⟨y0c, y1c, y2c, y3c⟩ := (HCELL.out _ (gr_alloc w5 (.cells #[.int .u32 x.k.toNat, .int .u32 x.a.toNat, .int .u32 x.b.toNat] 38) none)).1
      obtain ⟨y0d, y1d, y2d, y3d⟩ := (HCELL.out _ (gr_none (gr_alloc w5 (.cells #[.int .u32 x.k.toNat, .int .u32 x.a.toNat, .int .u32 x.b.toNat] 38) none) (gr_alloc (w5.alloc (.cells #[.int .u32 x.k.toNat, .int .u32 x.a.toNat, .int .u32 x.b.toNat] 38)) (.cells #[] 38) none))).1
      obtain ⟨n, hn⟩ : ∃ n, n = l.length := ⟨_, rfl⟩
      have HRD := Lib.hid HJ5.out.own.rd
      rw [← hn] at y0 y0a y0b y0c y0d HCELL HRD hc1 ⊢
      have HN := Lib.hid hn
      have hnl : n < 65536 := by rw [hn]; exact HL.out
      clear hn hc0 hc1
      go_wp2_with fail
      have HLIT : Hid (RdR ((w5.alloc (.cells #[] 38)).alloc (.cells #[.int .u32 x.k.toNat, .int .u32 x.a.toNat, .int .u32 x.b.toNat] 38)).drew (.slice (some ⟨w5.heap.size + 1, 0, none⟩) 1 1) [x]) := by
        have h5 := rd_lit (w5.alloc (.cells #[] 38)) 3 1 1 #[.int .u32 x.k.toNat, .int .u32 x.a.toNat, .int .u32 x.b.toNat] 38 rfl (Nat.le_refl _) (by unfold maxLen; omega)
        rw [World.size_alloc] at h5
        exact Rd.ext h5 (gr_drew _ none)
      have HOE : Hid (OwnR ((w5.alloc (.cells #[] 38)).alloc (.cells #[.int .u32 x.k.toNat, .int .u32 x.a.toNat, .int .u32 x.b.toNat] 38)).drew w5.heap.size (.slice (some ⟨w5.heap.size, 0, none⟩) 0 0) []) := OwnR.ext (OwnR.ext (own_emptyR w5 _ (Nat.le_refl _)) (gr_alloc _ _ none)) (gr_drew _ none)
      have HGE : Hid (w5.grownBy ((w5.alloc (.cells #[] 38)).alloc (.cells #[.int .u32 x.k.toNat, .int .u32 x.a.toNat, .int .u32 x.b.toNat] 38)).drew none) := gr_none (gr_none (gr_alloc _ _ none) (gr_alloc _ _ none)) (gr_drew _ none)
      have HLIT2 : Hid (RdR ((w5.alloc (.cells #[.int .u32 x.k.toNat, .int .u32 x.a.toNat, .int .u32 x.b.toNat] 38)).alloc (.cells #[] 38)).drew (.slice (some ⟨w5.heap.size, 0, none⟩) 1 1) [x]) := by
        have h5 := rd_lit w5 3 1 1 #[.int .u32 x.k.toNat, .int .u32 x.a.toNat, .int .u32 x.b.toNat] 38 rfl (Nat.le_refl _) (by unfold maxLen; omega)
        exact Rd.ext (Rd.ext h5 (gr_alloc _ _ none)) (gr_drew _ none)
      have HOE2 : Hid (OwnR ((w5.alloc (.cells #[.int .u32 x.k.toNat, .int .u32 x.a.toNat, .int .u32 x.b.toNat] 38)).alloc (.cells #[] 38)).drew w5.heap.size (.slice (some ⟨w5.heap.size + 1, 0, none⟩) 0 0) []) := by
        have h5 := own_emptyR (w5.alloc (.cells #[.int .u32 x.k.toNat, .int .u32 x.a.toNat, .int .u32 x.b.toNat] 38)) w5.heap.size (by rw [World.size_alloc]; omega)
        rw [World.size_alloc] at h5
        exact OwnR.ext h5 (gr_drew _ none)
      have HGE2 : Hid (w5.grownBy ((w5.alloc (.cells #[.int .u32 x.k.toNat, .int .u32 x.a.toNat, .int .u32 x.b.toNat] 38)).alloc (.cells #[] 38)).drew none) := gr_none (gr_none (gr_alloc _ _ none) (gr_alloc _ _ none)) (gr_drew _ none)
      have HLW : Hid (∀ w6, ((w5.alloc (.cells #[] 38)).alloc (.cells #[.int .u32 x.k.toNat, .int .u32 x.a.toNat, .int .u32 x.b.toNat] 38)).drew.grownBy w6 (Value.slice (some ⟨w5.heap.size, 0, none⟩) 0 0).ownBlock → RdR w6 (.slice (some ⟨w5.heap.size + 1, 0, none⟩) 1 1) [x]) := fun w6 g6 => HLIT.out.same fun k e => by
        have e2 : k = w5.heap.size + 1 := by cases e; rfl
        subst e2
        exact g6.block _ (by show w5.heap.size + 1 < ((w5.alloc _).alloc _).heap.size; rw [World.size_alloc, World.size_alloc]; omega) (by simp [Value.ownBlock])
      have HGW : Hid (∀ w6, ((w5.alloc (.cells #[] 38)).alloc (.cells #[.int .u32 x.k.toNat, .int .u32 x.a.toNat, .int .u32 x.b.toNat] 38)).drew.grownBy w6 (Value.slice (some ⟨w5.heap.size, 0, none⟩) 0 0).ownBlock → w5.grownBy w6 none) := fun w6 g6 => gr_trans HGE.out g6 (.inr fun q e => by cases e; exact Nat.le_refl _)
      have HLW2 : Hid (∀ w6, ((w5.alloc (.cells #[.int .u32 x.k.toNat, .int .u32 x.a.toNat, .int .u32 x.b.toNat] 38)).alloc (.cells #[] 38)).drew.grownBy w6 (Value.slice (some ⟨w5.heap.size + 1, 0, none⟩) 0 0).ownBlock → RdR w6 (.slice (some ⟨w5.heap.size, 0, none⟩) 1 1) [x]) := fun w6 g6 => HLIT2.out.same fun k e => by
        have e2 : k = w5.heap.size := by cases e; rfl
        subst e2
        exact g6.block _ (by show w5.heap.size < ((w5.alloc _).alloc _).heap.size; rw [World.size_alloc, World.size_alloc]; omega) (by simp [Value.ownBlock])
      have HGW2 : Hid (∀ w6, ((w5.alloc (.cells #[.int .u32 x.k.toNat, .int .u32 x.a.toNat, .int .u32 x.b.toNat] 38)).alloc (.cells #[] 38)).drew.grownBy w6 (Value.slice (some ⟨w5.heap.size + 1, 0, none⟩) 0 0).ownBlock → w5.grownBy w6 none) := fun w6 g6 => gr_trans HGE2.out g6 (.inr fun q e => by cases e; exact Nat.le_succ _)
      go_region_law (first
        | (refine step_appR2 (B := w5.heap.size) (l := []) (m := l) (.tmp 48) (.tmp 52) (by rfl) (by rfl) HOE2.out (by rfl) (HRD.out.ext HGE2.out) (by rw [← HN.out]; show 0 + n ≤ _; omega) HGE2.out.size ?_; rintro v6 w6 o6 g6; obtain ⟨A6, c6, ev6⟩ := OwnR.rd o6 |>.form; rw [List.nil_append, ← HN.out] at ev6; subst ev6; rw [List.nil_append] at o6; have G56 : Hid (w5.grownBy w6 none) := HGW2.out w6 g6; have HL6 := Lib.hid (HLW2.out w6 g6); obtain ⟨⟨k60, k61, k62, k63⟩, k6f⟩ := HCELL.out w6 G56.out; have O6 := Lib.hid o6; clear o6 g6)
        | (refine step_appR2 (B := w5.heap.size) (l := []) (m := l) (.tmp 48) (.tmp 52) (by rfl) (by rfl) HOE.out (by rfl) (HRD.out.ext HGE.out) (by rw [← HN.out]; show 0 + n ≤ _; omega) HGE.out.size ?_; rintro v6 w6 o6 g6; obtain ⟨A6, c6, ev6⟩ := OwnR.rd o6 |>.form; rw [List.nil_append, ← HN.out] at ev6; subst ev6; rw [List.nil_append] at o6; have G56 : Hid (w5.grownBy w6 none) := HGW.out w6 g6; have HL6 := Lib.hid (HLW.out w6 g6); obtain ⟨⟨k60, k61, k62, k63⟩, k6f⟩ := HCELL.out w6 G56.out; have O6 := Lib.hid o6; clear o6 g6)
        | (refine step_appR2 (B := w5.heap.size) (l := []) (m := l) (.tmp 48) (.tmp 52) (by rfl) (by rfl) (own_atR0 _ _ (Nat.le_refl _)) (by rfl) (HRD.out.ext (gr_none (gr_alloc _ _ none) (gr_drew _ none))) (by rw [← HN.out]; show 0 + n ≤ _; omega) (by show _ ≤ (w5.alloc _).heap.size; rw [World.size_alloc]; omega) ?_; rintro v6 w6 o6 g6; obtain ⟨A6, c6, ev6⟩ := OwnR.rd o6 |>.form; rw [List.nil_append, ← HN.out] at ev6; subst ev6; rw [List.nil_append] at o6; have G56 : Hid (w5.grownBy w6 none) := gr_trans (gr_none (gr_alloc _ _ none) (gr_drew _ none)) g6 (.inr fun q e => by cases e; exact Nat.le_refl _); obtain ⟨⟨k60, k61, k62, k63⟩, k6f⟩ := HCELL.out w6 G56.out; have O6 := Lib.hid o6; clear o6 g6)
        | (refine step_appR2 (B := w5.heap.size) (l := l) (m := [x]) (.tmp 53) (.tmp 55) (by rfl) (by rfl) O6.out (by rfl) HL6.out (by rw [← HN.out]; show n + 1 ≤ _; omega) G56.out.size ?_; rintro v8 w8 o8 g8; obtain ⟨A8, c8, ev8⟩ := OwnR.rd o8 |>.form; rw [List.length_append, ← HN.out] at ev8; subst ev8; have G58 : Hid (w5.grownBy w8 none) := gr_trans G56.out g8 (.inr fun q e => Own.lt O6.out q e); obtain ⟨⟨k80, k81, k82, k83⟩, k8f⟩ := HCELL.out w8 G58.out; have O8 := Lib.hid o8; clear o8 g8)
        | (refine step_appR2 (B := w5.heap.size) (l := l) (m := [x]) (.tmp 53) (.tmp 55) (by rfl) (by rfl) (O6.out.ext (gr_alloc _ _ none)) (by rfl) (by unfold RdR rcL; exact rd_lit _ 3 1 1 #[.int .u32 x.k.toNat, .int .u32 x.a.toNat, .int .u32 x.b.toNat] _ rfl (Nat.le_refl _) (by unfold maxLen; omega)) (by rw [← HN.out]; show n + 1 ≤ _; omega) (by rw [World.size_alloc]; have := G56.out.size; omega) ?_; rintro v8 w8 o8 g8; obtain ⟨A8, c8, ev8⟩ := OwnR.rd o8 |>.form; rw [List.length_append, ← HN.out] at ev8; subst ev8; have G58 : Hid (w5.grownBy w8 none) := gr_trans (gr_none G56.out (gr_alloc _ _ none)) g8 (.inr fun q e => Own.lt O6.out q e); obtain ⟨⟨k80, k81, k82, k83⟩, k8f⟩ := HCELL.out w8 G58.out; have O8 := Lib.hid o8; clear o8 g8))
      all_goals
        obtain ⟨k1, k2, k3⟩ := RJR.relist H5.out HJ5.out hB G58.out O8.out (Nat.le_trans hBw C5.out.size)
        have HF := Lib.hid (And.intro k1 (And.intro k2 k3))
        clear k1 k2 k3
        go_wp2
        go_ret
        rw [← HU2.out]
        exact ⟨_, o5, rfl, HF.out.1, HF.out.2.1, C5.out.jo.trans HF.out.2.2⟩
    · have hz2e : ((e2 : Int) == 0) = false := by rw [beq_eq_false_iff_ne]; omega
      have HU2 : Hid ((S2, l, e2) = S.jadd l x) := by show _ = _; rw [← HU1.out, if_neg hz2]
      clear hz2
      go_wp2
      go_ret
      rw [← HU2.out]
      exact ⟨_, o5, rfl, H5.out, HJ5.out, C5.out.jo⟩
  · have hz1e : ((e1 : Int) == 0) = false := by rw [beq_eq_false_iff_ne]; omega
    have HU1 : Hid ((S1, l, e1) = S.jadd l x) := by show _ = _; rw [← HU.out, if_neg hz1]
    clear hz1
    go_wp2
    go_ret
    rw [← HU1.out]
    exact ⟨_, o4, rfl, H4.out, HJ4.out, C4.out.jo⟩
end
end Go.Proofs.YtipankjajdpiiaaGreat

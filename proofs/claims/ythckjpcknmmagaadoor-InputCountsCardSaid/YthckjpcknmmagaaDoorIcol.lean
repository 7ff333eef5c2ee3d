/-
  slices.AppendSeq, Collect and SortedFunc over a map's edges.
-/
import Derived.Test.YthckjpcknmmagaaDoorIval
namespace Go.Proofs.YthckjpcknmmagaaDoor.R
open Go.RowKit Go.Shelf Go.Maps
set_option maxRecDepth 100000
set_option maxHeartbeats 400000
attribute [local go_sem] Oper.semAt_some

theorem vals_stops {bx m nn : Nat} {best : Pr → Option Ed} {w : World} (n : Nat) (hn : 1 ≤ n) (hat : AtPr best) (h : PutE w bx m nn best) :
    SeqStopsK Fence.wide n Tryd.prog 31 #[.pointer (some ⟨bx, 0, none⟩)] (fun x : Ed => #[Ed.v x]) KeepsWalks (fun xs => ValsOf best xs ∧ xs.length ≤ nn) (fun _ => True) nn w := fun l J Jx W hW hJ _ hY h0 =>
  vals1_in n hn l bx m nn best hat J Jx hY W hJ (below_cell hW h.box.lt (h.box.cell 0)) (h.vm.same (hW.block m h.vm.lt)) h0
def edF (pre : List Ed) : List Value := pre.flatMap Ed.enc
theorem edF_snoc (pre : List Ed) (x : Ed) : edF (pre ++ [x]) = edF pre ++ x.enc := by simp [edF]
theorem cells4_new (w : World) (a b c d : Value) (t : TypeId) : ∀ j u, [a, b, c, d][j]? = some u → (w.alloc (.cells #[a, b, c, d] t)).cell? ((⟨w.heap.size, 0, none⟩ : Addr).add j) = some u := by
  intro j u hj
  rw [Addr.add_lit, Nat.zero_add, cell_new]
  simpa using hj
theorem ownsRow_down' {W : World} {b b' : Nat} {e : TypeId} {s : Nat} {v : Value} {k : Nat} {xs : List Value} (h : W.ownsRow b e s v k xs) (hb : b' ≤ b) : W.ownsRow b' e s v k xs := by
  refine ⟨h.1, ?_⟩
  rcases h.2 with h2 | ⟨g, cap, cur, r1, r2, r3⟩
  · exact .inl h2
  · exact .inr ⟨g, cap, cur, r1, Nat.le_trans hb r2, r3⟩
theorem ownsRow_base' {W : World} {b : Nat} {e : TypeId} {s : Nat} {v : Value} {k : Nat} {xs : List Value} (h : W.ownsRow b e s v k xs) : ∀ g, v.ownBlock = some g → b ≤ g := by
  intro g hg
  rcases h.2 with ⟨rfl, _⟩ | ⟨g', cap, cur, rfl, hb, _⟩
  · simp [Value.ownBlock] at hg
  · obtain rfl : g' = g := by simpa [Value.ownBlock] using hg
    exact hb
theorem boxed_app' {W w1 : World} {n0 n1 B : Nat} {t e : TypeId} {size : Nat} {v v' : Value} {k m : Nat} {xs ys : List Value} {tmp : Obj}
    (hv : Boxed W B t v) (hte : t ≠ e) (hrow : W.ownsRow n1 e size v k xs) (hn1 : n1 ≤ W.heap.size) (hn0 : n0 ≤ B) (hB : B < n1)
    (hown' : w1.ownsRow n1 e size v' m ys) (hgrow : (W.alloc tmp).grownBy w1 v.ownBlock) :
    Boxed w1 B t v ∧ Boxed (w1.setCell ⟨B, 0, none⟩ v') B t v' ∧ (w1.setCell ⟨B, 0, none⟩ v').ownsRow n1 e size v' m ys ∧ KeepsOthers W (w1.setCell ⟨B, 0, none⟩ v') ∧ Below n0 W (w1.setCell ⟨B, 0, none⟩ v') := by
  obtain ⟨h1, h2, _, h4, h5⟩ := hv.appended hte (ownsRow_down' hrow (show n0 ≤ n1 by omega)) (by omega) hn0 (ownsRow_down' hown' (show n0 ≤ n1 by omega)) hgrow
  exact ⟨h1, h2, hown'.kept (grownBy_setCell' w1 B v') (.inr (h1.not_row hte hown').symm), h4, h5⟩
/-- the round's variable holds x. -/
def VarAt (acts : Nat → Act) (x : Ed) (a' : Act) (W : World) : Prop := ∃ be, a' = acts be ∧ W.heap[be]? = some (.cells #[.int .u32 x.t.toNat, .int .u32 x.h.toNat, .int .u64 x.w.toNat, .int .u32 x.m.toNat] 29 (0, 0))
theorem varAt_own (acts : Nat → Act) (x : Ed) (a' : Act) (B : Nat) : OwnFrom B (fun (_ : Unit) W => VarAt acts x a' W) := fun _ W W' row ⟨be, e, hb⟩ hg hr =>
  ⟨be, e, (hg.block be (Array.getElem?_eq_some_iff.1 hb).1 (fun e2 => by obtain ⟨_, o, ho, hc⟩ := hr be e2.symm; rw [hb] at ho; cases ho; cases hc)).trans hb⟩
set_option maxHeartbeats 4000000 in
theorem appendSeq_any {bx m nn : Nat} {best : Pr → Option Ed} {w : World} (hat : AtPr best) (hn : nn ≤ 1000000) (h : PutE w bx m nn best) :
    Calls Tryd.prog 42 #[.slice none 0 0, .func (.func 31) #[] #[.pointer (some ⟨bx, 0, none⟩)]] w fun e w' =>
      (∃ u l, e = .returned u ∧ OwnE w' w.heap.size u l ∧ ValsOf best l ∧ l.length ≤ nn) ∧ w.grownBy w' none := by
  have HP := Lib.hid h
  clear h
  refine (callsIn_wide (n := 4)).1 ?_
  refine callsIn_of_wp_marks Tryd.func42 rfl trivial ?_ rfl
  simp only [Tryd.ntmps42, List.size_toArray, List.length_cons, List.length_nil, Nat.reduceAdd, Nat.reduceSub, Array.replicate_succ, Array.replicate_zero, List.push_toArray, List.append_toArray, List.nil_append, List.cons_append]
  gi_wp2
  obtain ⟨b9, hb9⟩ : ∃ b9, b9 = w.heap.size := ⟨_, rfl⟩
  obtain ⟨W0, hW0⟩ : ∃ W0, W0 = w.alloc (.cells #[.slice none 0 0] 22) := ⟨_, rfl⟩
  have hsz : W0.heap.size = b9 + 1 := by rw [hW0, hb9]; simp
  have hbx : Boxed W0 b9 22 (.slice none 0 0) := by rw [hW0, hb9]; exact Boxed.new w _ _
  have HP0 : PutE W0 bx m nn best := by rw [hW0]; exact HP.out.ext (gr_alloc _ _ none)
  have hB0 : Below w.heap.size w W0 := by rw [hW0]; exact gr_below0 (gr_alloc _ _ none)
  have hwb : w.heap.size ≤ b9 := by omega
  obtain ⟨i0, hi, hz0, hz1, hz2⟩ := info_parts Tryd.infoE
  rw [← hW0, ← hb9]
  clear hW0 hb9
  refine wpIn_rangeFunc_ownH rfl (by omega) (gf := 31) (lb := #[.pointer (some ⟨bx, 0, none⟩)]) rfl trivial (enters_of Tryd.func31 (by kernel_rfl) rfl)
    (vals_stops 3 (by omega) hat HP0) (fun h k => h.trans k) (fun W l o o' _ h _ hw => KeepsWalks.putObj o' h hw) (Below.refl _ _) (fun _ => rfl)
    (fun pre W => (∃ v, Boxed W b9 22 v ∧ W.ownsRow (b9 + 1) 29 4 v pre.length (edF pre) ∧ True) ∧ Below w.heap.size w W ∧ b9 + 1 ≤ W.heap.size)
    (fun _ _ _ => False)
    (OwnFrom.and (Own.from (holdsRow_own (b9 + 1) b9 22 29 4 List.length edF (fun _ _ => True)) _) (OwnFrom.and (ownFrom_below (Nat.le_refl _) (by omega)) (fun s W W' row hs hg _ => Nat.le_trans hs hg.size)))
    (fun _ _ _ _ _ hs _ _ => hs)
    ⟨⟨_, hbx, World.ownsRow_nil _ _ _ _, trivial⟩, hB0, by omega⟩
    (fun x a' W => VarAt (fun be => { tmps := #[.slice none 0 0, .func (.func 31) #[] #[.pointer (some ⟨bx, 0, none⟩)], .pointer (some ⟨b9, 0, none⟩), undef, .slice none 0 0, .pointer (some ⟨be, 0, none⟩), .func (.func 31) #[] #[.pointer (some ⟨bx, 0, none⟩)], Ed.v x, undef, undef, undef, undef, undef], defers := [] }) x a' W) (fun x a' => varAt_own _ x a' _) ?assign ?body ?done ?stop
  case assign =>
    rintro l pre x W K ⟨⟨v, hv, hrow, _⟩, hB, hs3⟩ hK
    have HK := Lib.hid hK
    clear hK
    unfold Ed.v
    gi_wp2
    exact HK.out _ _ ((KeepsOthers.alloc _ _).from _) (KeepsWalks.alloc _ _) ⟨⟨v, hv.alloc _, hrow.alloc _, trivial⟩, hB.trans (gr_below (gr_alloc _ _ none) hB.size (fun _ e => by cases e)), by simp; omega⟩ ⟨W.heap.size, rfl, Blk.new _ _ _⟩
  case body =>
    rintro l pre x a' W _ _ ⟨⟨v, hv, hrow, _⟩, hB, hs3⟩ ⟨be, rfl, hbe⟩ hlen
    have hcb := hv.cell
    have hfb := hv.frozen
    have c0 : W.cell? ⟨be, 0, none⟩ = some (.int .u32 x.t.toNat) := Blk.cell hbe 0
    have c1 : W.cell? ⟨be, 1, none⟩ = some (.int .u32 x.h.toNat) := Blk.cell hbe 1
    have c2 : W.cell? ⟨be, 2, none⟩ = some (.int .u64 x.w.toNat) := Blk.cell hbe 2
    have c3 : W.cell? ⟨be, 3, none⟩ = some (.int .u32 x.m.toNat) := Blk.cell hbe 3
    gi_wp2_with (gi_at_builtin; refine wpListIn_append_own _ rfl _ _ 22 rfl (b9 + 1) 29 i0 _ 4 24 Tryd.underlying22 hi hz0 hz1 hz2 rfl (by decide) _ _ _ rfl (hrow.alloc _) ⟨W.heap.size, 0, none⟩ 1 1 x.enc rfl rfl (cells4_new _ _ _ _ _ _) (by simp [Ed.enc, Value.oneCell']) (by unfold maxLen; omega) (by omega) (by simp; omega) ?_; intro v' w1 hown' hgrow _; obtain ⟨g', cap', rfl⟩ := ownsRow_succ hown'; obtain ⟨hv1, hv2, hr2, hk2, hb2⟩ := boxed_app' (n0 := w.heap.size) hv (by decide) hrow hs3 hwb (by omega) hown' hgrow; have hc1 := hv1.cell; have hf1 := hv1.frozen)
    exact ⟨hk2.from _, hk2.walks, ⟨_, hv2, by rw [edF_snoc, List.length_append]; exact hr2, trivial⟩, hB.trans hb2, Nat.le_trans hs3 hk2.size⟩
  case done =>
    rintro D ys W hD ⟨hys, hyl⟩ ⟨⟨v, hv, hrow, _⟩, hB, hs3⟩ hK
    have hcb := hv.cell
    gi_wp2
    refine ⟨by simp, .inl ⟨_, _, rfl, run_takeDeferred hK, ?_⟩⟩
    exact ⟨_, results_tmp rfl _ _ _, ⟨v, ys, rfl, (Own.of_row (ownsRow_putObj hrow _ hK rfl)).mono (by omega), hys, hyl⟩, gr_of_below (hB.trans (belowK_b (w := w) (Nat.le_refl _) W D _ _ (by omega) hK rfl rfl))⟩
  case stop =>
    rintro D c pre W _ _ h _
    exact h.elim
theorem collect_any {bx m nn : Nat} {best : Pr → Option Ed} {w : World} (hat : AtPr best) (hn : nn ≤ 1000000) (h : PutE w bx m nn best) :
    Calls Tryd.prog 29 #[.func (.func 31) #[] #[.pointer (some ⟨bx, 0, none⟩)]] w fun e w' =>
      (∃ u l, e = .returned u ∧ OwnE w' w.heap.size u l ∧ ValsOf best l ∧ l.length ≤ nn) ∧ w.grownBy w' none := by
  have HA := Lib.hid (appendSeq_any hat hn h)
  clear h
  go_enter Tryd.func29, Tryd.ntmps29
  go_wp2_with (go_at_call 42; refine HA.out.mono ?_; rintro e w1 ⟨⟨u, l, rfl, ho, hv, hl⟩, g1⟩; obtain ⟨A1, c1, rfl⟩ := ho.rd.form; have HO := Lib.hid ho; have HV := Lib.hid hv; have HL := Lib.hid hl; have G1 := Lib.hid g1; clear ho hv hl g1)
  go_ret
  exact ⟨⟨_, _, rfl, HO.out, HV.out, HL.out⟩, G1.out⟩
/-- what slices.SortedFunc makes of a map's edges. -/
theorem svE (wx : World) (b m n : Nat) (best : Pr → Option Ed) (hp : PutE wx b m n best) (hat : AtPr best) (hn : n ≤ 1000000) :
    Calls Tryd.prog 14 #[.func (.func 31) #[] #[.pointer (some ⟨b, 0, none⟩)], .func (.func 16) #[] #[]] wx fun e w' =>
    ∃ u l, e = .returned u ∧ OwnE w' wx.heap.size u l ∧ (RisE l ∧ ∀ x, x ∈ l ↔ best x.k = some x) ∧ l.length ≤ n ∧ wx.grownBy w' none := by
  have HC := Lib.hid (collect_any hat hn hp)
  clear hp
  go_enter Tryd.func14, Tryd.ntmps14
  go_wp2_with fail
  refine HC.out.mono ?_
  rintro e w1 ⟨⟨u, l, rfl, ho, hv, hl⟩, g1⟩
  have HS := Lib.hid (sortsE w1 _ u l ho (by omega))
  have HB := Lib.hid ho.lt
  obtain ⟨A1, c1, rfl⟩ := ho.rd.form
  have HV := Lib.hid hv
  have G1 := Lib.hid g1
  clear ho hv g1
  go_wp2_with fail
  refine HS.out.mono ?_
  rintro e w2 ⟨rfl, l2, hp, hr, ho2, g2⟩
  have hpl := hp.length_eq
  have HP := Lib.hid hp
  have HR := Lib.hid hr
  have HO := Lib.hid ho2
  have G2 := Lib.hid g2
  clear hp hr ho2 g2
  go_wp2
  go_ret
  exact ⟨_, l2, rfl, HO.out, ⟨HR.out HV.out.1, fun x => HP.out.mem_iff.trans (HV.out.2 x)⟩, by omega, gr_trans G1.out G2.out (.inr HB.out)⟩
end Go.Proofs.YthckjpcknmmagaaDoor.R

/-
  Pick: candidates copied; held against each other.
-/
import Derived.Test.YtbdieifggciopaaKc
import Derived.Deep.RegionHeld3
namespace Go.Proofs.Ytbdieifggciopaa
open Go.RowKit
set_option maxRecDepth 100000
set_option maxHeartbeats 400000

/-- append(v, x...) of nothing. -/
theorem wp_app0U {ops : Array Oper} {rest : List Oper} {o : Oper} {a : Act} {Q : Exit → Act → World → Prop} {w : World} (hgd : o.guard = none) (s0 x0 : Operand)
    (ho : o.op = .call { callee := .builtin .append, args := #[s0, x0], argTypes := #[26, 26] }) {A A2 : Option Addr} {n c c2 : Nat} (hs : a.eval s0 = .slice A n c) (hx : a.eval x0 = .slice A2 0 c2) (hn : n ≤ c)
    (h : wpList Try.prog ops Q rest (a.put o.dst (.slice A n c)) w) : wpList Try.prog ops Q (o :: rest) a w := by
  refine wpList_plain hgd fun K hK => ?_
  obtain ⟨i, hi, _, _, _⟩ := info_parts Try.infoU32
  have hrun := run_app_zero (P := Try.prog) w 26 o.type 30 i Try.underlying26 hi A A2 n c c2 hn
  unfold Oper.wp execOp
  simp only [ho, resolve, invoke, builtin, Sem.run_bind, Sem.run_pure, Result.andThen_ok, List.map_toArray, List.map_cons, List.map_nil, hs, hx, hrun]
  exact hK _ _ h
def OwnC0 (w : World) (B : Nat) (v : Value) (l : List Cd) : Prop := OwnG Cd.enc 3 w B v l
/-- a slice's block, if it has one, is there. -/
def Lies (w : World) (v : Value) : Prop := ∀ q, v.ownBlock = some q → q < w.heap.size
theorem Lies.mono {w w' : World} {v : Value} (h : Lies w v) (hz : w.heap.size ≤ w'.heap.size) : Lies w' v := fun q e => Nat.lt_of_lt_of_le (h q e) hz
theorem Own.lies {w : World} {B s n : Nat} {v : Value} {xs : List Value} (h : Own w B s v n xs) (h0 : 0 < n) (hs : 0 < s) : Lies w v := by
  obtain ⟨_, A, c, g, off, rfl, hn, hc, _, hA, _, hx, hf⟩ := h
  intro k hk
  obtain rfl := hA (by omega)
  cases hk
  have hcs : 0 < c * s := Nat.mul_pos (by omega) hs
  obtain ⟨u, hu⟩ := Option.isSome_iff_exists.1 (hf 0 hcs).1
  exact World.block_lt_of_cell? w _ hu
/-- candidates of the call's own, their lists too. -/
def OwnC (w : World) (B : Nat) (v : Value) (l : List Cd) : Prop := OwnC0 w B v l ∧ Lies w v ∧ ∀ x ∈ l, OwnU w B x.s x.d.near ∧ Lies w x.s ∧ ∀ q, v.ownBlock = some q → x.s.ownBlock ≠ some q
theorem OwnC.rd {w : World} {B : Nat} {v : Value} {l : List Cd} (h : OwnC w B v l) : RdC w v l := ⟨OwnG.rd h.1, fun x hx => Own.rd (h.2.2 x hx).1⟩
theorem OwnC.nil (w : World) (B : Nat) : OwnC w B (.slice none 0 0) [] := ⟨OwnG.nil _ _ _ _, fun q e => (by cases e), fun x hx => (by cases hx)⟩
theorem OwnC.ext {w w' : World} {B : Nat} {v : Value} {l : List Cd} (h : OwnC w B v l) (hg : w.grownBy w' none) : OwnC w' B v l :=
  ⟨OwnG.ext h.1 hg, h.2.1.mono hg.size, fun x hx => ⟨Own.ext (h.2.2 x hx).1 hg, (h.2.2 x hx).2.1.mono hg.size, (h.2.2 x hx).2.2⟩⟩
theorem OwnC.mono {w : World} {B B' : Nat} {v : Value} {l : List Cd} (h : OwnC w B v l) (hB : B' ≤ B) : OwnC w B' v l := ⟨OwnG.mono h.1 hB, h.2.1, fun x hx => ⟨Own.mono (h.2.2 x hx).1 hB, (h.2.2 x hx).2⟩⟩
theorem ownC_app {w : World} {B : Nat} {v : Value} {l m : List Cd} (h : Own w B 3 v (l.length + m.length) (l.flatMap Cd.enc ++ m.flatMap Cd.enc)) : OwnC0 w B v (l ++ m) := by
  unfold OwnC0 OwnG; rw [List.length_append, List.flatMap_append]; exact h
/-- one more candidate. -/
theorem OwnC.app {w w' : World} {B : Nat} {v v' : Value} {l : List Cd} {x : Cd} (h : OwnC w B v l) (h0 : OwnC0 w' B v' (l ++ [x])) (hg : w.grownBy w' v.ownBlock) (hn : v'.ownBlock = v.ownBlock ∨ ∃ k, v'.ownBlock = some k ∧ w.heap.size ≤ k)
    (hx : OwnU w B x.s x.d.near) (hl : Lies w x.s) (hd : ∀ q, v.ownBlock = some q → x.s.ownBlock ≠ some q) : OwnC w' B v' (l ++ [x]) := by
  have hall : ∀ y ∈ l ++ [x], OwnU w B y.s y.d.near ∧ Lies w y.s ∧ ∀ q, v.ownBlock = some q → y.s.ownBlock ≠ some q := by
    intro y hy
    rcases List.mem_append.1 hy with hy | hy
    · exact h.2.2 y hy
    · rw [List.mem_singleton.1 hy]; exact ⟨hx, hl, hd⟩
  refine ⟨h0, Own.lies h0 (by simp) (by omega), fun y hy => ?_⟩
  obtain ⟨h1, h2, h3⟩ := hall y hy
  refine ⟨Own.gr h1 hg h3, h2.mono hg.size, fun q e => ?_⟩
  rcases hn with e2 | ⟨k, e2, hk⟩
  · exact h3 q (by rw [← e2]; exact e)
  · rw [e2] at e
    cases e
    intro e3
    have := h2 _ e3
    omega
/-- append of one candidate, in a region. -/
theorem step_app1C {ops : Array Oper} {q : Oper} {a : Act} {w : World} {K : Act → World → Prop} {Q : Exit → Act → World → Prop} {E : Prop} (hg : q.guard = none) (s0 x0 : Operand) (ho : q.op = .call { callee := .builtin .append, args := #[s0, x0], argTypes := #[22, 22] })
    {B : Nat} {v x : Value} {l : List Cd} (y : Cd) (hs : a.eval s0 = v) (hown : OwnC0 w B v l) (hx : a.eval x0 = x) (hr : RdG Cd.enc 3 w x [y]) (hy : y.s.oneCell' = true) (hn : l.length ≤ 1000000000) (hB : B ≤ w.heap.size)
    (hK : ∀ v' w', OwnC0 w' B v' (l ++ [y]) → w.grownBy w' v.ownBlock → (v'.ownBlock = v.ownBlock ∨ ∃ k, v'.ownBlock = some k ∧ w.heap.size ≤ k) → K (a.put q.dst v') w') : if Region.wanted q (yielded ops a.tmps) = true then Oper.wp Try.prog q a w K Q else E := by
  have hw : Region.wanted q (yielded ops a.tmps) = true := by simp [Region.wanted, hg]
  rw [if_pos hw]
  have h1 : ∀ u ∈ [y].flatMap Cd.enc, u.oneCell' = true := by
    intro u hu
    simp [Cd.enc] at hu
    rcases hu with rfl | rfl | rfl
    · rfl
    · rfl
    · exact hy
  obtain ⟨v', w', hrun, h2, h3, h4⟩ := run_app (P := Try.prog) w B 22 q.type 33 _ 3 40 Try.underlying22 Try.infoCd rfl (by omega) v _ _ hown x _ _ hr h1 (by simp; unfold maxLen; omega) (by simp; omega) hB
  unfold Oper.wp execOp
  simp only [ho, resolve, invoke, builtin, Sem.run_bind, Sem.run_pure, Result.andThen_ok, List.map_toArray, List.map_cons, List.map_nil, hs, hx, hrun]
  exact hK _ _ (ownC_app h2) h3 h4
theorem map_take_succ {l : List Cd} {k : Nat} (hk : k < l.length) : (l.take (k + 1)).map Cd.d = (l.take k).map Cd.d ++ [l[k].d] := by
  rw [List.take_succ_eq_append_getElem hk, List.map_append]; rfl
set_option maxHeartbeats 4000000 in
theorem copied_any (v : Value) (l : List Cd) (w : World) (h : RdC w v l) (hs : Small l) :
    Calls Try.prog 11 #[v] w fun e w' => (∃ u m, e = .returned u ∧ OwnC w' w.heap.size u m ∧ m.map Cd.d = l.map Cd.d) ∧ w.grownBy w' none := by
  have hl1 := hs.1
  have HNL := Lib.hid hs.2
  obtain ⟨A, c, rfl⟩ := h.form
  obtain ⟨g, off, hA, _, hcells⟩ := h.1.at_ cd3
  have HA := Lib.hid hA
  have HC := Lib.hid hcells
  have HL := Lib.hid h.2
  clear hA hcells h hs
  go_enter Try.func11, Try.ntmps11
  go_wp2
  go_loopw [3, 4] (fun u i wr => ∃ (k : Nat) (m : List Cd), k ≤ l.length ∧ i = .int .i64 k ∧ Hid (OwnC wr w.heap.size u m) ∧ Hid (m.map Cd.d = (l.take k).map Cd.d) ∧ m.length = k ∧ w.grownBy wr none) (fun _ i _ => l.length - (intOf i).toNat)
  case atStart => exact ⟨0, [], by omega, rfl, OwnC.nil _ _, Lib.hid rfl, rfl, gr_refl _ _⟩
  case round =>
    obtain ⟨k, m, hk, rfl, ho, hm, hml, hg⟩ := hrel
    have HML := Lib.hid hml
    have hmk : m.length ≤ 100 := by omega
    clear hml
    obtain ⟨Au, cu, rfl⟩ := RdC.form ho.out.rd
    have hz := hg.size
    have HG := Lib.hid hg
    by_cases hlt : k < l.length
    · have := HA.out (by omega)
      subst this
      have HT := Lib.hid (map_take_succ hlt)
      have hxn := HNL.out _ (List.getElem_mem hlt)
      rcases hx : l[k] with ⟨⟨xa, xb, xl⟩, xs⟩
      have HXL : Hid (RdU w xs xl) := by have := HL.out _ (List.getElem_mem hlt); rw [hx] at this; exact this
      rw [hx] at HT hxn
      simp only [] at hxn
      have HX := Lib.hid hx
      clear hx hg
      obtain ⟨A2, c2', rfl⟩ := RdU.form HXL.out
      obtain ⟨c0, c1, c2⟩ := at3C HC.out HG.out hlt HX.out
      -- the copy of the list
      have HEND : Hid (∀ (vn : Value) (w1 : World), OwnU w1 w.heap.size vn xl → Lies w1 vn → wr.grownBy w1 none → (∀ q, vn.ownBlock = some q → wr.heap.size ≤ q) → ∀ (v3 : Value) (w2 : World), OwnC0 w2 w.heap.size v3 (m ++ [(⟨⟨xa, xb, xl⟩, vn⟩ : Cd)]) → w1.grownBy w2 (Value.slice Au m.length cu).ownBlock → (v3.ownBlock = (Value.slice Au m.length cu).ownBlock ∨ ∃ k, v3.ownBlock = some k ∧ w1.heap.size ≤ k) →
          OwnC w2 w.heap.size v3 (m ++ [(⟨⟨xa, xb, xl⟩, vn⟩ : Cd)]) ∧ (m ++ [(⟨⟨xa, xb, xl⟩, vn⟩ : Cd)]).map Cd.d = (l.take (k + 1)).map Cd.d ∧ w.grownBy w2 none) := by
        intro vn w1 o1 l1 g1 n1 v3 w2 o3 g3 n3
        refine ⟨(ho.out.ext g1).app o3 g3 n3 o1 l1 fun q e => ?_, (by rw [List.map_append, hm.out, HT.out]; rfl), ?_⟩
        · intro e2
          have := n1 q e2
          have := ho.out.2.1 q e
          omega
        · refine gr_trans (gr_none HG.out g1) g3 (.inr fun q e => ?_)
          exact Own.lt ho.out.1 q e
      have HOC : Hid (∀ wx, wr.grownBy wx none → OwnC0 wx w.heap.size (.slice Au m.length cu) m) := fun wx hx => OwnG.ext ho.out.1 hx
      clear ho hm
      have HCL : Hid (∀ wx, w.grownBy wx none → wx.cell? ⟨g, off + k * 3, none⟩ = some (.int .u32 xa.toNat) ∧ wx.cell? ⟨g, off + k * 3 + 1, none⟩ = some (.int .u64 xb.toNat)) := fun wx hx => by
        obtain ⟨h0, h1, -⟩ := at3C HC.out hx hlt HX.out
        exact ⟨h0, h1⟩
      rcases xl with _ | ⟨z, zl⟩
      · have hl0 : ([] : List UInt32).length = 0 := rfl
        rw [hl0] at c2
        go_wp2_with (at_builtin; refine wp_app0U rfl (.tmp 12) (.tmp 17) rfl rfl rfl (Nat.le_refl _) ?_)
        have o1 : OwnU wr w.heap.size (.slice none 0 0) [] := Own.nil _ _ _
        have l1 : Lies wr (.slice none 0 0) := fun q e => by cases e
        have g1 := gr_refl wr none
        have n1 : ∀ q, (Value.slice none 0 0).ownBlock = some q → wr.heap.size ≤ q := fun q e => by cases e
        clear c0 c1 c2
        have HE := Lib.hid (HEND.out (Value.slice none 0 0) wr o1 l1 g1 n1)
        have HOX : Hid (∀ wx, World.grownBy wr wx none → OwnC0 wx w.heap.size (.slice Au m.length cu) m) := fun wx hx => HOC.out wx (gr_none g1 hx)
        have HRX : Hid (∀ wx, (World.alloc wr (.cells #[.int .u32 xa.toNat, .int .u64 xb.toNat, (Value.slice none 0 0)] 33)).grownBy wx none → RdG Cd.enc 3 wx (.slice (some ⟨(World.heap wr).size, 0, none⟩) 1 1) [⟨⟨xa, xb, []⟩, (Value.slice none 0 0)⟩]) := fun wx hx =>
          RdG.ext (rd_lit wr 3 1 1 #[.int .u32 xa.toNat, .int .u64 xb.toNat, (Value.slice none 0 0)] _ rfl (Nat.le_refl _) (by unfold maxLen; omega)) hx
        have HGX : Hid (∀ wx wy, World.grownBy wr wx none → wx.grownBy wy (Value.slice Au m.length cu).ownBlock → World.grownBy wr wy (Value.slice Au m.length cu).ownBlock) := fun wx wy h1 h2 => gr_trans (gr_of_none h1) h2 (.inl rfl)
        have hz1 : w.heap.size ≤ (World.heap wr).size := Nat.le_trans hz g1.size
        obtain ⟨c0, c1⟩ := HCL.out wr (gr_none HG.out g1)
        clear g1 o1 l1 n1 HEND HOC
        go_wp2_with fail
        go_region_held3 (fun w' => w'.cell? ⟨g, off + k * 3, none⟩ = some (.int .u32 xa.toNat) ∧ w'.cell? ⟨g, off + k * 3 + 1, none⟩ = some (.int .u64 xb.toNat)) (first | exact k6 | go_keep)
          (first
            | (refine step_app1C (B := w.heap.size) (by rfl) (.tmp 19) (.tmp 32) (by rfl) ⟨⟨xa, xb, []⟩, (Value.slice none 0 0)⟩ (by rfl) (HOX.out _ ?_) (by rfl) (HRX.out _ ?_) (by rfl) ?_ ?_ ?_; exact gr_none (gr_alloc _ _ none) (gr_drew _ none); exact gr_drew _ none; omega; (simp [World.drew]; omega); rintro v3 w2 o3 g3 n3; have G3 := HGX.out _ _ (gr_none (gr_alloc _ _ none) (gr_drew _ none)) g3; have N3 := n3.imp id (fun ⟨k, e, h⟩ => (⟨k, e, Nat.le_trans (gr_none (gr_alloc _ _ none) (gr_drew _ none)).size h⟩ : ∃ k, v3.ownBlock = some k ∧ (World.heap wr).size ≤ k)); have R3 := Lib.hid (HE.out v3 w2 o3 G3 N3); have k6 := HCL.out w2 R3.out.2.2; clear o3 g3 n3 G3 N3))
        go_wp2
        go_roundw
        case rel => exact ⟨k + 1, _, by omega, by go_num, R3.out.1, R3.out.2.1, by rw [List.length_append, HML.out]; rfl, R3.out.2.2⟩
        case measure => simp [intOf]; omega
      · generalize hXL : z :: zl = xl at *
        have hxl0 : 0 < xl.length := by rw [← hXL]; simp
        clear hXL
        go_wp2_with (at_builtin; refine wp_appU (l := []) rfl (.tmp 12) (.tmp 17) rfl rfl (Own.nil _ wr.heap.size _) rfl (HXL.out.ext HG.out) (by simp; omega) (Nat.le_refl _) ?_; intro v1 w1 h1 g1 a1)
        have o1 : OwnU w1 w.heap.size v1 xl := Own.mono h1 hz
        have l1 : Lies w1 v1 := Own.lies h1 (by simpa using hxl0) (by omega)
        have n1 : ∀ q, v1.ownBlock = some q → wr.heap.size ≤ q := Own.lt h1
        obtain ⟨A1, c1', rfl⟩ := RdU.form (Own.rd o1)
        replace g1 : wr.grownBy w1 none := g1
        clear c0 c1 c2 h1 a1
        have HE := Lib.hid (HEND.out (Value.slice A1 xl.length c1') w1 o1 l1 g1 n1)
        have HOX : Hid (∀ wx, World.grownBy w1 wx none → OwnC0 wx w.heap.size (.slice Au m.length cu) m) := fun wx hx => HOC.out wx (gr_none g1 hx)
        have HRX : Hid (∀ wx, (World.alloc w1 (.cells #[.int .u32 xa.toNat, .int .u64 xb.toNat, (Value.slice A1 xl.length c1')] 33)).grownBy wx none → RdG Cd.enc 3 wx (.slice (some ⟨(World.heap w1).size, 0, none⟩) 1 1) [⟨⟨xa, xb, xl⟩, (Value.slice A1 xl.length c1')⟩]) := fun wx hx =>
          RdG.ext (rd_lit w1 3 1 1 #[.int .u32 xa.toNat, .int .u64 xb.toNat, (Value.slice A1 xl.length c1')] _ rfl (Nat.le_refl _) (by unfold maxLen; omega)) hx
        have HGX : Hid (∀ wx wy, World.grownBy w1 wx none → wx.grownBy wy (Value.slice Au m.length cu).ownBlock → World.grownBy w1 wy (Value.slice Au m.length cu).ownBlock) := fun wx wy h1 h2 => gr_trans (gr_of_none h1) h2 (.inl rfl)
        have hz1 : w.heap.size ≤ (World.heap w1).size := Nat.le_trans hz g1.size
        obtain ⟨c0, c1⟩ := HCL.out w1 (gr_none HG.out g1)
        clear g1 o1 l1 n1 HEND HOC
        go_wp2_with fail
        go_region_held3 (fun w' => w'.cell? ⟨g, off + k * 3, none⟩ = some (.int .u32 xa.toNat) ∧ w'.cell? ⟨g, off + k * 3 + 1, none⟩ = some (.int .u64 xb.toNat)) (first | exact k6 | go_keep)
          (first
            | (refine step_app1C (B := w.heap.size) (by rfl) (.tmp 19) (.tmp 32) (by rfl) ⟨⟨xa, xb, xl⟩, (Value.slice A1 xl.length c1')⟩ (by rfl) (HOX.out _ ?_) (by rfl) (HRX.out _ ?_) (by rfl) ?_ ?_ ?_; exact gr_none (gr_alloc _ _ none) (gr_drew _ none); exact gr_drew _ none; omega; (simp [World.drew]; omega); rintro v3 w2 o3 g3 n3; have G3 := HGX.out _ _ (gr_none (gr_alloc _ _ none) (gr_drew _ none)) g3; have N3 := n3.imp id (fun ⟨k, e, h⟩ => (⟨k, e, Nat.le_trans (gr_none (gr_alloc _ _ none) (gr_drew _ none)).size h⟩ : ∃ k, v3.ownBlock = some k ∧ (World.heap w1).size ≤ k)); have R3 := Lib.hid (HE.out v3 w2 o3 G3 N3); have k6 := HCL.out w2 R3.out.2.2; clear o3 g3 n3 G3 N3))
        go_wp2
        go_roundw
        case rel => exact ⟨k + 1, _, by omega, by go_num, R3.out.1, R3.out.2.1, by rw [List.length_append, HML.out]; rfl, R3.out.2.2⟩
        case measure => simp [intOf]; omega
    · obtain rfl : k = l.length := by omega
      have HM : Hid (m.map Cd.d = l.map Cd.d) := by have := hm.out; rw [List.take_length] at this; exact this
      clear hm
      go_wp2
      go_ret
      exact ⟨⟨_, m, rfl, ho.out, HM.out⟩, HG.out⟩
set_option maxHeartbeats 4000000 in
theorem same_any (v v' : Value) (l l' : List Cd) (w : World) (h : RdC w v l) (h' : RdC w v' l') (hn : l.length ≤ 1000) (hs : ∀ x ∈ l, x.d.near.length ≤ 5000) (he : l.map Cd.d = l'.map Cd.d) :
    Calls Try.prog 15 #[v, v'] w fun e w' => e = .returned (.bool true) ∧ w.grownBy w' none := by
  have hll : l'.length = l.length := by have := congrArg List.length he; simpa using this.symm
  have HNL := Lib.hid hs
  have HE := Lib.hid he
  obtain ⟨A, c, rfl⟩ := h.form
  obtain ⟨A', c', hv'⟩ := h'.form
  subst hv'
  obtain ⟨g, off, hA, _, hcells⟩ := h.1.at_ cd3
  obtain ⟨g', off', hA', _, hcells'⟩ := h'.1.at_ cd3
  rw [hll]
  rw [hll] at hA'
  have HA := Lib.hid hA
  have HC := Lib.hid hcells
  have HL := Lib.hid h.2
  have HA' := Lib.hid hA'
  have HC' := Lib.hid hcells'
  have HL' := Lib.hid h'.2
  have HLL := Lib.hid hll
  clear hA hcells h hs he hA' hcells' h' hll
  go_enter Try.func15, Try.ntmps15
  go_wp2
  go_loopw [5] (fun i wr => ∃ k : Nat, k ≤ l.length ∧ i = .int .i64 k ∧ w.grownBy wr none) (fun i _ => l.length - (intOf i).toNat)
  case atStart => exact ⟨0, by omega, rfl, gr_refl _ _⟩
  case round =>
    obtain ⟨k, hk, rfl, hg⟩ := hrel
    obtain ⟨wo, rfl⟩ : ∃ wo, wo = wr := ⟨_, rfl⟩
    by_cases hlt : k < l.length
    · have := HA.out (by omega)
      subst this
      have := HA'.out (by omega)
      subst this
      have hlt' : k < l'.length := by rw [HLL.out]; exact hlt
      have hd : l[k].d = l'[k].d := by
        have e := HE.out
        have e1 : (l.map Cd.d)[k]? = (l'.map Cd.d)[k]? := by rw [e]
        rw [List.getElem?_eq_getElem (by simpa using hlt), List.getElem?_eq_getElem (by simpa using hlt')] at e1
        simpa using e1
      have hxn := HNL.out _ (List.getElem_mem hlt)
      rcases hx : l[k] with ⟨⟨xa, xb, xl⟩, xs⟩
      rcases hy : l'[k] with ⟨yd, ys⟩
      rw [hx, hy] at hd
      simp only [] at hd
      subst hd
      have HXL : Hid (RdU w xs xl) := by have := HL.out _ (List.getElem_mem hlt); rw [hx] at this; exact this
      have HYL : Hid (RdU w ys xl) := by have := HL'.out _ (List.getElem_mem hlt'); rw [hy] at this; exact this
      rw [hx] at hxn
      simp only [] at hxn
      have HX := Lib.hid hx
      have HY := Lib.hid hy
      have HG := Lib.hid hg
      clear hx hy hg
      obtain ⟨A2, c2, rfl⟩ := RdU.form HXL.out
      obtain ⟨A3, c3, rfl⟩ := RdU.form HYL.out
      have HK : Hid (∀ wx, w.grownBy wx none → wx.cell? ⟨g, off + k * 3, none⟩ = some (.int .u32 xa.toNat) ∧ wx.cell? ⟨g, off + k * 3 + 1, none⟩ = some (.int .u64 xb.toNat) ∧ wx.cell? ⟨g, off + k * 3 + 2, none⟩ = some (.slice A2 xl.length c2) ∧ wx.cell? ⟨g', off' + k * 3, none⟩ = some (.int .u32 xa.toNat) ∧ wx.cell? ⟨g', off' + k * 3 + 1, none⟩ = some (.int .u64 xb.toNat) ∧ wx.cell? ⟨g', off' + k * 3 + 2, none⟩ = some (.slice A3 xl.length c3)) := fun wx hx => by
        obtain ⟨h0, h1, h2⟩ := at3C HC.out hx hlt HX.out
        obtain ⟨k0, k1, k2⟩ := at3C HC'.out hx hlt' HY.out
        exact ⟨h0, h1, h2, k0, k1, k2⟩
      have HQ : Hid (∀ wx, wo.grownBy wx none → Calls Try.prog 13 #[.slice A2 xl.length c2, .slice A3 xl.length c3] wx fun e wz => e = .returned (.bool true) ∧ wo.grownBy wz none ∧ wz.cell? ⟨g, off + k * 3, none⟩ = some (.int .u32 xa.toNat) ∧ wz.cell? ⟨g, off + k * 3 + 1, none⟩ = some (.int .u64 xb.toNat) ∧ wz.cell? ⟨g, off + k * 3 + 2, none⟩ = some (.slice A2 xl.length c2) ∧ wz.cell? ⟨g', off' + k * 3, none⟩ = some (.int .u32 xa.toNat) ∧ wz.cell? ⟨g', off' + k * 3 + 1, none⟩ = some (.int .u64 xb.toNat) ∧ wz.cell? ⟨g', off' + k * 3 + 2, none⟩ = some (.slice A3 xl.length c3)) := fun wx hx => by
        have hw := gr_none HG.out hx
        refine (eqU_any _ _ xl xl wx (Rd.ext HXL.out hw) (Rd.ext HYL.out hw) (by omega) (by omega)).mono ?_
        rintro e wz ⟨⟨b, rfl, hb⟩, gz⟩
        obtain rfl : b = true := hb.2 rfl
        exact ⟨rfl, gr_none hx gz, HK.out _ (gr_none hw gz)⟩
      obtain ⟨h0, h1, h2, k0, k1, k2⟩ := HK.out wo HG.out
      go_wp2_with fail
      go_region_held3 (fun w' => w'.cell? ⟨g, off + k * 3, none⟩ = some (.int .u32 xa.toNat) ∧ w'.cell? ⟨g, off + k * 3 + 1, none⟩ = some (.int .u64 xb.toNat) ∧ w'.cell? ⟨g, off + k * 3 + 2, none⟩ = some (.slice A2 xl.length c2) ∧ w'.cell? ⟨g', off' + k * 3, none⟩ = some (.int .u32 xa.toNat) ∧ w'.cell? ⟨g', off' + k * 3 + 1, none⟩ = some (.int .u64 xb.toNat) ∧ w'.cell? ⟨g', off' + k * 3 + 2, none⟩ = some (.slice A3 xl.length c3)) (go_keep) (first | (go_at_call 13; refine (HQ.out _ ?_).mono ?_; (first | exact gr_refl _ _ | exact gr_drew _ _ | exact gr_drewN _ _ _); rintro e wz ⟨rfl, gz, kzwz⟩))
      all_goals
        go_wp2
        go_roundw
        case rel => exact ⟨k + 1, by omega, by go_num, gr_none HG.out (by first | exact gz | exact gr_none gz (gr_drew _ _) | exact gr_none gz (gr_drewN _ _ _))⟩
        case measure => simp [intOf]; omega
    · obtain rfl : k = l.length := by omega
      go_wp2
      go_ret
      exact ⟨rfl, hg⟩
end Go.Proofs.Ytbdieifggciopaa
